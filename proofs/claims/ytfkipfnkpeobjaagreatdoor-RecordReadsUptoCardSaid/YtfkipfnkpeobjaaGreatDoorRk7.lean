/- A part of the proof: lemmas only, with the conditions that each names. -/
import Derived.Test.YtfkipfnkpeobjaaGreatDoorProg
import Derived.KernelRfl
import Derived.Test.YtfkipfnkpeobjaaGreatDoorRk6
set_option linter.all false
namespace Go.Proofs.YtfkipfnkpeobjaaGreatDoor
open Go Eng
open Go Go.RowKit Eng
set_option maxRecDepth 100000
set_option maxHeartbeats 32000000
set_option maxRecDepth 10000
set_option maxHeartbeats 8000000
set_option maxRecDepth 100000
set_option maxHeartbeats 16000000
set_option maxHeartbeats 4000000
def b3G{B V:Rat}(G:0<B){n:Nat}(h:q9 V<=(n:Rat)*B):D9 B V<=n:=by
 have I:q9 V/B*B=q9 V:=Rat.div_mul_cancel (by grind);unfold D9;generalize q9 V/B=q at*;have A:q<=(n:Rat):=Classical.byContradiction λK=>by
  have D:(n:Rat)<q:=by grind
  have H:=Rat.mul_lt_mul_of_pos_right D G;grind
 have D:=Rat.floor_le q;have E:(((n:Nat):Int):Rat)=(n:Rat):=rfl;rw[<- E]at A;split
 ·rename_i F;have u:(q.floor:Rat)<((n:Int):Rat):=by grind
  have J:q.floor<(n:Int):=by exact_mod_cast u
  omega
 ·have u:(q.floor:Rat)<=((n:Int):Rat):=by grind
  exact_mod_cast u
def a1B(B T V:Rat)(n:Nat):Rat:=T+sgQ V*sQ B (q9 V) n
def a6t(B V:Rat)(n:Nat):Rat:=sgQ V*aQ B (q9 V) n
def b6f(B T V:Rat):a1B B T V 0=T:=by unfold a1B;rw[sQ];grind
def c3g(B V:Rat):a6t B V 0=V:=by unfold a6t;rw[c0B (abs_nonneg _),c2d]
def c3w(b v:Nm.Rt):Nm.ofQ (Nm.d9 (Y5 b v))=Y5 b v:=by
 unfold Y5 a1c;split
 ·rw[Nm.y8]
 ·split<;>rw[Nm.y8]
def c4p{B V:Rat}{b:Nm.Rt}(u:Nm.d9 b=B)(A:0<B)(n:Nat):Y5 b (Nm.ofQ (a6t B V n))=Nm.ofQ (a6t B V (n+1)):=by
 have h:Jnt 0 V B n (Nm.ofQ (a1B B 0 V n)) (Nm.ofQ (a6t B V n)):=⟨Nm.y8 _,Nm.y8 _⟩
 rw[<- c3w,(h.next u A).v];rfl
def c4a(B T V:Rat)(n:Nat):a1B B T V n+a6t B V (n+1)=a1B B T V (n+1):=by
 unfold a1B a6t;rw[sQ];grind
def b1n(V:Rat):sgQ V=1\/sgQ V=-1:=by unfold sgQ;split<;>simp
def c3n{B V:Rat}(n:Nat):a6t B V n=0 <-> q9 V<=(n:Rat)*B:=by
 unfold a6t aQ;generalize(n:Rat)*B=t;rcases b1n V with e|e<;>rw[e]<;>split<;>constructor<;>grind
def b5U(p q:Rat):K3 p q=if p<=q then p else q:=by
 unfold K3;have h:=a2P p q;by_cases u:p<=q
 ·have:¬q<p:=by grind
  rw[if_pos u,if_pos (by have:=mt h.1 this;omega)]
 ·have:q<p:=by grind
  rw[if_neg u,if_neg (by have:=h.2 this;omega)]
def b1S(p q:Rat):J8 p q=if p<=q then q else p:=by
 unfold J8;have h:=b2h p q;by_cases A:p<q
 ·have u:p<=q:=by grind
  rw[if_pos u,if_neg (by have:=h.2 A;omega)]
 ·rw[if_pos (show Nm.A9 p q>=0 by have:=mt h.1 A;omega)];split
  ·grind
  ·rfl
def c6z{T A u q:Rat}(h:(T<=A/\A<=u)\/(u<=A/\A<=T)):K3 (K3 (K3 T A) q) u=K3 (K3 T u) q:=by
 simp only[b5U];grind
def c5E{T A u q:Rat}(h:(T<=A/\A<=u)\/(u<=A/\A<=T)):J8 (J8 (J8 T A) q) u=J8 (J8 T u) q:=by
 simp only[b1S];grind
def b8q(B T V:Rat)(n:Nat):(T<=a1B B T V n/\a1B B T V n<=a1B B T V (n+1))\/(a1B B T V (n+1)<=a1B B T V n/\a1B B T V n<=T):=by
 have h:=b4G B (q9 V) n;have u:=b1O B (q9 V) n (n+1) (by omega);unfold a1B;rcases b1n V with e|e<;>rw[e]
 ·left;grind
 ·right;grind
def a3M(B q T V:Rat)(n:Nat):Sp:=⟨K3 (K3 T (a1B B T V n)) q,J8 (J8 T (a1B B T V n)) q⟩
def c0x(B q T V:Rat):a3M B q T V 0=⟨K3 q T,J8 q T⟩:=by
 unfold a3M;rw[b6f];simp only[b5U,b1S];congr 1<;>grind
def c5D(B q T V:Rat)(n:Nat):(a3M B q T V n).lo<=(a3M B q T V n).hi:=by
 unfold a3M;simp only[b5U,b1S];grind
def c0d(B q T V:Rat)(n:Nat):(⟨K3 (a3M B q T V n).lo (a1B B T V (n+1)),J8 (a3M B q T V n).hi (a1B B T V (n+1))⟩:Sp)=a3M B q T V (n+1):=by
 unfold a3M;simp only;rw[c6z (b8q B T V n),c5E (b8q B T V n)]
def c4y{k:Nat}{s x:Rat}(u:s=1\/s=-1)(h:Rb k (Nm.ofQ x)):Rb k (Nm.ofQ (s*x)):=by
 rcases u with e|e<;>rw[e]
 ·rw[Rat.one_mul];exact h
 ·rw[show(-1:Rat)*x=-x by grind];exact a1Q h
def c7z{B V:Rat}{n:Nat}(h:Rb 3 (Nm.ofQ B))(u:Rb 1048576 (Nm.ofQ V))(D:n<=2000):Rb 1048704 (Nm.ofQ (a6t B V n)):=by
 refine c4y (b1n V) ?_;have A:Rb 8 (Nm.ofQ (n:Rat)):=a3W (n:=(n:Int)) (by omega);unfold aQ;split
 ·exact a1j.m rfl
 ·exact(R6 (a0j u) (L6 A h)).m rfl
def c4Q{B v:Rat}{n:Nat}(G:0<B)(u:Rb 3 (Nm.ofQ B))(A:Rb 1048576 (Nm.ofQ v))(E:n<=2000)(h:(n:Rat)*B<=v):Rb 1048704 (Nm.ofQ (sQ B v n)):=by
 have e:=b3h (n+1);rw[Nat.add_sub_cancel]at e;rw[b0E G n h,<- e];have H:(n+1)*n<=2001*2000:=Nat.mul_le_mul (by omega) E;have F:Rb 8 (Nm.ofQ (n:Rat)):=a3W (n:=(n:Int)) (by omega);have D:Rb 8 (Nm.ofQ (((n+1)*n/2:Nat):Rat)):=a3W (n:=(((n+1)*n/2:Nat):Int)) (by omega);exact(R6 (L6 F A) (L6 u D)).m rfl
def b7G{B T V:Rat}{n:Nat}(u:0<B)(D:Rb 3 (Nm.ofQ B))(G:Rb 1048576 (Nm.ofQ V))(I:Rb 2097153 (Nm.ofQ T))(J:n<=2000)(K:n<=(D9 B V).toNat):Rb 3200000 (Nm.ofQ (a1B B T V n)):=by
 have E:=a0j G;have A:Rb 1048704 (Nm.ofQ (sQ B (q9 V) n)):=by
  by_cases h:(n:Rat)*B<=q9 V
  ·exact c4Q u D E J h
  cases n with
  | zero=>exact absurd (show((0:Nat):Rat)*B<=q9 V by have:=abs_nonneg V;rw[show((0:Nat):Rat)=0 from rfl];grind) h
  | succ m=>
   have H:=a5Z (V:=V) u;have M:=b3G u (n:=m+1) (V:=V) (by grind);have F:=H.2.2 (by omega);rw[show(D9 B V).toNat-1=m by omega]at F;rw[sQ,b4l u (n:=m+1) (by grind) (d0m _),Rat.add_zero];exact c4Q u D E (by omega) F
 unfold a1B;exact(O4 I (c4y (b1n V) A)).m rfl
def c6e{B q T V:Rat}{n:Nat}(J:0<B)(E:Rb 3 (Nm.ofQ B))(F:Rb 1048576 (Nm.ofQ V))(D:Rb 2097153 (Nm.ofQ T))(H:Rb 1048576 (Nm.ofQ q))(I:n<=2000)(G:n<=(D9 B V).toNat):Zb 3200000 (a3M B q T V n):=by
 have h:=b7G J E F D I G;have u:Rb 3200000 (Nm.ofQ T):=D.m rfl;have A:Rb 3200000 (Nm.ofQ q):=H.m rfl;exact⟨a7X (a7X u h) A,a7D (a7D u h) A⟩
def c3r{q u b:Nm.Rt}(h:0<Nm.d9 b):snQ (a3M (Nm.d9 b) (Nm.d9 q) (Nm.d9 q+Nm.d9 u) (Nm.d9 u) (D9 (Nm.d9 b) (Nm.d9 u)).toNat).lo (a3M (Nm.d9 b) (Nm.d9 q) (Nm.d9 q+Nm.d9 u) (Nm.d9 u) (D9 (Nm.d9 b) (Nm.d9 u)).toNat).hi=snQ (loQ q u b) (hiQ q u b):=by
 have A:=a5Z (V:=Nm.d9 u) h;unfold a3M loQ hiQ b4C a1B;rw[c1I h A.2.1 A.2.2]
end Go.Proofs.YtfkipfnkpeobjaaGreatDoor
namespace Go.Proofs.YtfkipfnkpeobjaaGreatDoor
attribute [local go_sem] Eng.nbq beq_self_eq_true Eng.ww Eng.uk Eng.uk2
open Go Go.RowKit Eng
set_option maxRecDepth 100000
set_option maxHeartbeats 8000000
def b3s(b v:Nm.Rt)(B:Rb 1073741824 b)(u:Rb 1073741824 v):FZ 123 [rc b,rc v] (rc (Y5 b v)):=by
 refine kW Tryz.func123 (by cbv) (by rfl) λw O h=>?_;have G:=a2W v (u.m rfl);have D:=P8 (Nm.ofQ (q9 (Nm.d9 v))) b (a6H ((u.mono (m:=17179869184) (by decide)).g rfl)) (B.m rfl);rw[Nm.y8]at D;have F:=a4e;have H:=U4 v (u.m rfl);have I:=a5c v b (u.m rfl) (B.m rfl);have E:=a0X v b (u.m rfl) (B.m rfl);unfold Y5 a1c;generalize Nm.A9 (q9 (Nm.d9 v)) (Nm.d9 b)=c at*;generalize F3 (Nm.d9 v)=J at*;unfold rq at*;generalize Nm.ofQ (q9 (Nm.d9 v))=K at*;generalize Nm.ofQ (Nm.d9 v-Nm.d9 b)=d at*;generalize Nm.ofQ (Nm.d9 v+Nm.d9 b)=e at*;generalize Nm.ofQ 0=z at*;simp only[j4,TT,II,OA,OB,LL];simp only[rc,sb,ints]at*
 (repeat first|refine uG G ?_|refine uG D ?_|refine uA ?_|(apply uK;· first|omega|(intros;simp_all<;>omega))|simp(disch:=omega) only[go_sem,Nat.reduceAdd]|refine uD G (tz h) rfl ?_|refine uD D (tz h) rfl ?_);apply S.cond rfl<;>intro A
 ·rw[if_pos (by simpa using A)];(repeat first|refine uG F ?_|refine uA ?_|(apply uK;· first|omega|(intros;simp_all<;>omega))|simp(disch:=omega) only[go_sem,Nat.reduceAdd]|refine uD F (tz h) rfl ?_)
  (exact uS rfl rfl)
 rw[if_neg (by simpa using A)];(repeat first|refine uG H ?_|refine uA ?_|(apply uK;· first|omega|(intros;simp_all<;>omega))|simp(disch:=omega) only[go_sem,Nat.reduceAdd]|refine uD H (tz h) rfl ?_);apply S.cond rfl<;>intro A
 ·rw[if_pos (by simpa using A)];(repeat first|refine uG E ?_|refine uA ?_|(apply uK;· first|omega|(intros;simp_all<;>omega))|simp(disch:=omega) only[go_sem,Nat.reduceAdd]|refine uD E (tz h) rfl ?_)
  (exact uS rfl rfl)
 ·rw[if_neg (by simpa using A)];(repeat first|refine uG I ?_|refine uA ?_|(apply uK;· first|omega|(intros;simp_all<;>omega))|simp(disch:=omega) only[go_sem,Nat.reduceAdd]|refine uD I (tz h) rfl ?_)
  (exact uS rfl rfl)
def c1A(a:Am)(x:Ast)(hl:Ab 1073741824 a)(hx:Asb 1073741824 x)(hq:x.q.length=a.links.length)(Z:x.v.length=a.links.length):FZ 75 [a.c,x.c] (b8K a x).c:=by
 refine kW Tryz.func75 (by cbv) (by rfl) λw O N=>?_;have F:=@b7I a x;obtain⟨R,W⟩:=b7O hq Z;unfold b8K;generalize X4 a x=V at*;generalize a7s a x=Q at*;obtain⟨U,H⟩:=hx.1;obtain⟨T,K⟩:=hx.2;obtain⟨ab,⟨bx,ae,aa,t⟩,links⟩:=a;obtain⟨q,v,u,h⟩:=x;obtain⟨b0,⟨b1,b2,b3⟩,hn,hb⟩:=hl;simp only at hq Z hn hb U H T K R W F ⊢;simp only[j4,TT,II,OA,OB,MM,LL,VV,FF];simp only[Am.c,Am.enc,Ast.c,Ast.enc,lks,rts,sb,ints]
 (repeat first|refine uA ?_|simp(disch:=omega) only[go_sem,Nat.reduceAdd,d0d]);refine S.loop (X:=Nat) (λi=>⟨[(3,.bp 1 0),(4,.bp 2 0),(5,.bp 3 0),(13,lks links),(14,ints links.length),(15,ints i)],[.gone,.box 115 [rts q,rts v,.v (.bool u),ints h],.box 115 [.v (.slice none 0 0),.v (.slice none 0 0),.v (.bool false),.v (.int .i64 0)],.box 115 [.rv 4,.rv 5,.v (.bool false),ints h],.row 29 3 ((Q.take i).map rcs),.row 29 3 ((V.take i).map rcs)]⟩) (λi=>i<=links.length) (λi=>links.length-i) 0 (d0k _) (Ent.trans (Ent.a5w 3 0 29 3 rfl rfl rfl) (Ent.trans (Ent.a5w 3 1 29 3 rfl rfl rfl) (by repeat first|refine uA ?_|refine⟨rfl,?_⟩|rfl|simp))) ?_
 intro i hi;simp only[lks,rts,ints];refine uV rfl ?_;apply uJ rfl<;>intro hc
 ·have E:i<links.length:=by omega
  have D:=d0b E;have A:=d0b (show i<q.length by omega);have B:=d0b (show i<v.length by omega);generalize links[i]=l at D;generalize q[i]'_=Y at A;generalize v[i]'_=J at B;obtain⟨g1,g2⟩:=F D B A;have bl:=hb l (d0g D);have bv:=K J (d0g B);have bq:=H Y (d0g A);have G:=b3s l.brake J bl.2.2.2.2.1 bv;have M:=a0X Y (Y5 l.brake J) (bq.m rfl) ((b2t (by decide) bl.2.2.2.2.1 bv).m rfl);have P:=take_at g1;have I:=take_at g2;have l1:(V.take i).length=i:=by rw[d0r];omega
  have l2:(Q.take i).length=i:=by rw[d0r];omega
  unfold rq at M;unfold a1c at I;generalize Nm.ofQ (Nm.d9 Y+Nm.d9 (Y5 l.brake J))=z at*;generalize Y5 l.brake J=y at*;have ac:(i:Int)<q.length:=by omega
  have af:(i:Int)<v.length:=by omega
  simp only[rc,sb]at G M;(repeat first|refine uG G ?_|refine uI ?_|(apply uK;· first|omega|(intros;simp_all<;>omega))|simp(disch:=omega) only[go_sem,Nat.reduceAdd,D,d0e,d0d,Lk.enc,vts,sb,d0h]|refine uD G (tz N) rfl ?_);refine S.c4w ?_;(repeat first|refine uG G ?_|refine uI ?_|(apply uK;· first|omega|(intros;simp_all<;>omega))|simp(disch:=omega) only[go_sem,Nat.reduceAdd,B,d0e,d0d,rcs,sb,d0h]|refine uD G (tz N) rfl ?_)
  refine S.a1d [.gone,.box 115 [.sl 3 (q.map rcs),.sl 3 (v.map rcs),.v (.bool u),.v (.int .i64 h)],.gone,.box 115 [.rv 4,.junk,.v (.bool false),.v (.int .i64 h)],.gone,.gone,.gone,.box 29 [.v (.bool y.neg),.v (.string (bs y.num)),.v (.string (bs y.den))]] (by simp[Eng.J7,Eng.leC]) ?_;(repeat first|refine uG M ?_|refine uA ?_|(apply uK;· first|omega|(intros;simp_all<;>omega))|simp(disch:=omega) only[go_sem,Nat.reduceAdd,ww,KMd,A,d0e,d0d,rcs,sb,l1,l2,d0h]|refine uD M (tz N) rfl ?_);refine S.next (i+1) (by omega) (by omega) (by simp only[P,I,d0u,d0l,d0p,rcs,sb];exact(by repeat first|refine uA ?_|refine⟨rfl,?_⟩|rfl|simp))
 ·have E:i=links.length:=by omega
  subst E;rw[d0y (by omega),d0y (by omega)];(repeat first|refine uA ?_|simp(disch:=omega) only[go_sem,Nat.reduceAdd]);(exact uQ rfl (Imp.agg (by(repeat' (first|exact j3.nil|exact Imp.refl rfl|exact Imp.frz rfl rfl rfl|exact Imp.D8|refine j3.cons ?_ ?_)))) rfl rfl)
open Go Eng
set_option maxHeartbeats 16000000
def a1S(Z:List (Lk×Nm.Rt)):Bool:=Z.all λz=>decide (D9 (Nm.d9 z.1.brake) (Nm.d9 z.2)<=2000)
def c6p{Z:List (Lk×Nm.Rt)}{i:Nat}{z:Lk×Nm.Rt}(h:Z[i]?=some z)(u:¬D9 (Nm.d9 z.1.brake) (Nm.d9 z.2)<=2000):a1S Z=false:=by
 unfold a1S;rw[List.all_eq_false];exact⟨z,d0g h,by simpa using u⟩
def c3d{Z:List (Lk×Nm.Rt)}(h:∀(j:Nat) (z:Lk×Nm.Rt),j<Z.length->Z[j]?=some z->D9 (Nm.d9 z.1.brake) (Nm.d9 z.2)<=2000):a1S Z=true:=by
 unfold a1S;rw[List.all_eq_true];intro z A;obtain⟨j,u⟩:=List.mem_iff_getElem?.1 A;exact decide_eq_true (h j z (d0i.1 u).1 u)
def sign_zero(q:Rat):F3 q=0 <-> q=0:=by
 have h:=a2y q;rcases h with h|h|h<;>constructor<;>intro u<;>first|omega|grind
def a7z{l:Lk}(h:a0Y l=0):Rb 3 l.brake:=by
 unfold a0Y at h;split at h
 ·cases h
 rename_i B;have u:(l7 l.length&&l7 l.low&&l7 l.high&&l7 l.speed&&l7 l.brake)=true:=by
  cases A:(l7 l.length&&l7 l.low&&l7 l.high&&l7 l.speed&&l7 l.brake) with
  | true=>rfl
  | false=>exact absurd (.inl A) B
 simp only[d0s]at u;exact a2B u.2
def b1E(a:Am)(q u:List Nm.Rt)(hl:Ab 1073741824 a)(ha:J2 a=0)(hq:q.length=a.links.length)(hv:u.length=a.links.length)(aH:∀r∈q,Rb 1048576 r)(aL:∀r∈u,Rb 1048576 r) :
 FZ 118 [a.c,rts q,rts u] (if a1S (a.links.zip u)=true then .tup [.sl 6 ((K5 a.links q u).map Sn.enc),ints (V4 (a.links.zip u)+1),.v (.bool true)] else .tup [.v (.slice none 0 0),ints 0,.v (.bool false)]):=by
 refine kW Tryz.func118 (by cbv) (by rfl) λw O F=>?_;have hn:=hl.2.2.1;have aj:∀l∈a.links,Rb 3 l.brake/\0<F3 (Nm.d9 l.brake):=λl hm=>⟨a7z ((R9 ha).2 l hm),a4i ((R9 ha).2 l hm)⟩
 have aK:=a6P (L:=a.links) hq hv;have aa:=@b2W a.links q u;have ah:=@b0w (a.links.zip u);have aD:(a.links.zip u).length=a.links.length:=by rw[List.length_zip];omega
 have P:=λ(i:Nat) (l:Lk) (x:Nm.Rt) (h1:a.links[i]?=some l) (h2:u[i]?=some x)=>M5 h1 h2;have ak:V4 ((a.links.zip u).take 0)=0:=rfl;have aq:(a.links.zip u).take a.links.length=a.links.zip u:=d0y (by omega);have A:=a4e;generalize K5 a.links q u=RL at*;generalize a.links.zip u=Z at*;obtain⟨aN,⟨bx,aP,aM,tu⟩,links⟩:=a;simp only at hq hv hn aK aa aD P aq aj ⊢;simp only[j4,TT,II,OA,OB,MM,LL,VV,FF];simp only[Am.c,Am.enc,lks,rts,sb,ints];(repeat first|refine uA ?_|(apply uK;· first|omega|(intros;simp_all<;>omega))|simp(disch:=omega) only[go_sem,Nat.reduceAdd,d0d])
 refine S.loop (X:=Nat) (λi=>⟨[(1,rts q),(2,rts u),(9,.rv 1),(10,ints (V4 (Z.take i))),(18,lks links),(19,ints links.length),(20,ints i)],[.gone,.row 252 6 ((RL.take i).map Sn.enc)]⟩)
  (λi=>i<=links.length/\0<=V4 (Z.take i)/\V4 (Z.take i)<=2000/\∀(j:Nat) (z:Lk×Nm.Rt),j<i->Z[j]?=some z->D9 (Nm.d9 z.1.brake) (Nm.d9 z.2)<=2000) (λi=>links.length-i) 0 ⟨d0k _,by rw[ak];decide,by rw[ak];decide,λ_ _ h=>absurd h (Nat.not_lt_zero _)⟩
  (Ent.trans (Ent.pack 9 252 6 rfl) (by rw[ak];exact(by repeat first|refine uA ?_|(refine⟨?_,?_⟩;· first|rfl|simp[slot])|rfl|simp))) ?_
 rintro i ⟨hi,aI,az,hm⟩;simp only[lks,rts,ints];(repeat first|refine uA ?_|(apply uK;· first|omega|(intros;simp_all<;>omega))|simp(disch:=omega) only[go_sem]);apply uJ rfl<;>intro hc
 ·have an:i<links.length:=by omega
  have K:=d0b an;have H:=d0b (show i<q.length by omega);have G:=d0b (show i<u.length by omega);generalize links[i]=l at K;generalize q[i]'_=x at H;generalize u[i]'_=y at G;have ap:=aa K H G;have U:=P i l y K G;have I:=ah U;obtain⟨lb,lp⟩:=aj l (d0g K);have xb:=aH x (d0g H);have yb:=aL y (d0g G);have Y:=take_at ap;have aF:(RL.take i).length=i:=by rw[d0r];omega
  have nf:=λhN=>c6p (Z:=Z) U hN;have av:=λ(hN:D9 (Nm.d9 l.brake) (Nm.d9 y)<=2000)=>show ∀(j:Nat) (z:Lk×Nm.Rt),j<i+1->Z[j]?=some z->D9 (Nm.d9 z.1.brake) (Nm.d9 z.2)<=2000 from λj z hj hz=>by
   rcases d0B j i with h1|h1
   ·exact hm j z h1 hz
   ·have:j=i:=by omega
    subst this;rw[U]at hz;cases hz;exact hN
  have hB:=b2b lp;have fx:=xb.g rfl;have fy:=yb.g rfl;have fb:=lb.g rfl;have hT:=O4 fx fy;have o1:=a0X x y (xb.m rfl) (yb.m rfl);have o2:=a0X y (Nm.ofQ 0) (yb.m rfl) (a1j.m rfl);rw[Nm.y8,Rat.add_zero]at o2;have o3:=a0y x (xb.m rfl);have o4:=a0y (Nm.ofQ (Nm.d9 x+Nm.d9 y)) (hT.m rfl);rw[Nm.y8]at o4;have o5:=a9u (Nm.d9 x) (Nm.d9 x) (Nm.d9 x+Nm.d9 y) (Nm.d9 x+Nm.d9 y) Rat.le_refl Rat.le_refl (fx.m rfl) (fx.m rfl) (hT.m rfl) (hT.m rfl);have e0:=c0x (Nm.d9 l.brake) (Nm.d9 x) (Nm.d9 x+Nm.d9 y) (Nm.d9 y);have p0:=b6f (Nm.d9 l.brake) (Nm.d9 x+Nm.d9 y) (Nm.d9 y);have v0:=c3g (Nm.d9 l.brake) (Nm.d9 y);have ae:=λn=>c4p (V:=Nm.d9 y) (b:=l.brake) rfl hB n
  have am:=λn=>c4a (Nm.d9 l.brake) (Nm.d9 x+Nm.d9 y) (Nm.d9 y) n;have D:=λn=>c0d (Nm.d9 l.brake) (Nm.d9 x) (Nm.d9 x+Nm.d9 y) (Nm.d9 y) n;have al:=λn=>c5D (Nm.d9 l.brake) (Nm.d9 x) (Nm.d9 x+Nm.d9 y) (Nm.d9 y) n;have ag:=λn=>c3n (B:=Nm.d9 l.brake) (V:=Nm.d9 y) n;have E:=λn h=>b3G (B:=Nm.d9 l.brake) (V:=Nm.d9 y) hB (n:=n) h;have J:=a5Z (V:=Nm.d9 y) hB;have ac:=c3r (q:=x) (u:=y) (b:=l.brake) hB;have bv:=λn h=>c7z (n:=n) fb fy h;have bp:=λn h k=>b7G (n:=n) hB fb fy hT h k;have af:=λn h k=>c6e (n:=n) hB fb fy hT fx h k;unfold b1j at Y;rw[<- ac]at Y;have aR:=J.1;simp only at I nf;generalize Nm.d9 x+Nm.d9 y=T at*
  have ay:D9 (Nm.d9 l.brake) (Nm.d9 y)=((D9 (Nm.d9 l.brake) (Nm.d9 y)).toNat:Int):=by omega
  generalize(D9 (Nm.d9 l.brake) (Nm.d9 y)).toNat=N at*;rw[ay]at I nf av E;have au:q9 (Nm.d9 y)<=(N:Rat)*Nm.d9 l.brake:=J.2.1;generalize hS:a3M (Nm.d9 l.brake) (Nm.d9 x) T (Nm.d9 y)=M at*;generalize hP:a1B (Nm.d9 l.brake) T (Nm.d9 y)=Px at*;generalize hV:a6t (Nm.d9 l.brake) (Nm.d9 y)=Vx at*;clear U ap ac J ay hS hP hV aa ah P hm;obtain⟨len,aA,ao,aE,ar,aC⟩:=l;simp only at*;unfold rq at o1 o2 A;simp only[Sp.c,Sn.c,Sn.enc,snQ,rc,sb]at o1 o2 o3 o4 o5 A;(repeat first|refine uI ?_|(apply uK;· first|omega|(intros;simp_all<;>omega))|simp(disch:=omega) only[go_sem,Nat.reduceAdd,K,d0e,d0d,d0q,Lk.enc,vts,sb,d0h])
  refine S.a1d [.gone] (by simp[Eng.J7]) ?_;(repeat first|refine uI ?_|(apply uK;· first|omega|(intros;simp_all<;>omega))|simp(disch:=omega) only[go_sem,Nat.reduceAdd,H,G,d0e,d0d,d0q,rcs,sb,d0h]|(refine uD o1 ?_ ?_ ?_;exact tz F;rfl)|(refine uD A ?_ ?_ ?_;exact tz F;rfl)|(refine uD o2 ?_ ?_ ?_;exact tz F;rfl));refine S.a1d [.gone,.gone,.gone,.box 29 [.v (.bool (Nm.ofQ T).neg),.v (.string (bs (Nm.ofQ T).num)),.v (.string (bs (Nm.ofQ T).den))]] (by simp[Eng.J7,Eng.Q6]) ?_
  (repeat first|refine uA ?_|(apply uK;· first|omega|(intros;simp_all<;>omega))|simp(disch:=omega) only[go_sem,Nat.reduceAdd,Eng.Q6,H,d0e,d0d,d0q,rcs,sb,d0h]|(refine uD o3 ?_ ?_ ?_;exact tz F;rfl)|(refine uD o4 ?_ ?_ ?_;exact tz F;rfl)|(refine uD o5 ?_ ?_ ?_;exact tz F;rfl));refine S.loop (X:=Nat) (λn=>⟨[(1,rts q),(2,rts u),(9,.rv 1),(10,ints (V4 (Z.take i))),(12,.bp 2 0),(13,.bp 3 0),(14,.bp 4 0),(15,ints n),(16,.bp 5 0),(18,lks links),(19,ints links.length),(20,ints i)],[.gone,.row 252 6 ((RL.take i).map Sn.enc),.box 60 (Lk.mk len aA ao aE ar aC).enc,.box 29 (rcs (Nm.ofQ (Px n))),.box 29 (rcs (Nm.ofQ (Vx n))),.box 252 (snQ (M n).lo (M n).hi).enc]⟩)
   (λn=>n<=N/\n<=2000) (λn=>N-n) 0 ⟨d0k _,d0k _⟩ (by rw[p0,v0,e0];simp only[lks,rts,vts,Lk.enc,rcs,Sn.enc,snQ,sb,ints];exact(by repeat first|refine uA ?_|(refine⟨?_,?_⟩;· first|rfl|simp[slot])|rfl|simp)) ?_
  rintro n ⟨ax,ai⟩;clear o1 o2 o3 o4 o5 e0 p0 v0;simp only[lks,rts,vts,Lk.enc,rcs,Sn.enc,snQ,sb,ints];have vb:=bv n ai;have o6:=U4 (Nm.ofQ (Vx n)) (vb.m rfl);rw[Nm.y8]at o6;have R:=sign_zero (Vx n);have ab:=ag n;simp only[rc,sb,ints]at o6;generalize F3 (Vx n)=sg at*;(repeat first|refine uA ?_|(apply uK;· first|omega|(intros;simp_all<;>omega))|simp(disch:=omega) only[go_sem,Nat.reduceAdd]|(refine uD o6 ?_ ?_ ?_;exact tz F;rfl));apply S.cond rfl<;>intro hc
  ·have zs:n<N:=by
    rcases d0B n N with h|h
    ·exact h
    ·have:n=N:=by omega
     subst this;have:=R.2 (ab.2 au);simp[this]at hc
   clear o6;(repeat first|refine uA ?_|(apply uK;· first|omega|(intros;simp_all<;>omega))|simp(disch:=omega) only[go_sem]);apply S.cond rfl<;>intro hc
   ·have hf:a1S Z=false:=nf (by simp at hc;omega);rw[if_neg (by rw[hf];decide)]
    (exact uX rfl rfl (Imp.tup (by repeat' first|exact j3.nil|exact Imp.refl rfl|apply j3.cons)) rfl rfl)
   have aO:n<2000:=by simp at hc;omega
   have pb:=bp n ai ax;have W:=bp (n+1) (by omega) (by omega);have aw:=bv (n+1) (by omega);have zb:=af n ai ax;have o7:=b3s ar (Nm.ofQ (Vx n)) (lb.m rfl) (vb.m rfl);rw[ae n]at o7;have o8:=a0X (Nm.ofQ (Px n)) (Nm.ofQ (Vx (n+1))) (pb.m rfl) (aw.m rfl);rw[Nm.y8,Nm.y8,am n]at o8;have o9:=a0y (Nm.ofQ (Px (n+1))) (W.m rfl);rw[Nm.y8]at o9;have oa:=a9u (M n).lo (M n).hi (Px (n+1)) (Px (n+1)) (al n) Rat.le_refl (zb.1.m rfl) (zb.2.m rfl) (W.m rfl) (W.m rfl);rw[show K3 (M n).lo (Px (n+1))=(M (n+1)).lo by rw[<- D n],show J8 (M n).hi (Px (n+1))=(M (n+1)).hi by rw[<- D n]]at oa;clear pb W vb aw zb ae am D al ag E bv bp af Y R ab;unfold rq at o8
   generalize aB:(M (n+1)).lo=s1 at*;generalize aJ:(M (n+1)).hi=s2 at*;simp only[Sp.c,Sn.c,Sn.enc,snQ,rc,sb]at o7 o8 o9 oa;(repeat first|refine uA ?_|(apply uK;· first|omega|(intros;simp_all<;>omega))|simp(disch:=omega) only[go_sem,Nat.reduceAdd,ww]|(refine uD o7 ?_ ?_ ?_;exact tz F;rfl)|(refine uD o8 ?_ ?_ ?_;exact tz F;rfl)|(refine uD o9 ?_ ?_ ?_;exact tz F;rfl)|(refine uD oa ?_ ?_ ?_;exact tz F;rfl));refine S.next (x:=n) (n+1) ⟨by omega,by omega⟩ (by omega) (by simp only[aB,aJ];exact(by repeat first|refine uA ?_|(refine⟨?_,?_⟩;· first|rfl|simp[slot])|rfl|simp))
  ·have aG:Vx n=0:=R.1 (by simpa using hc);have zs:n=N:=by have:=E n (ab.1 aG);omega
   subst zs;clear o6 ae am D al ag E bv bp af R ab;(repeat first|refine uA ?_|(apply uK;· first|omega|(intros;simp_all<;>omega))|simp(disch:=omega) only[go_sem,Nat.reduceAdd,ww,aF,d0d]);refine S.next (x:=i) (i+1) ⟨by omega,by rw[I];split<;>omega,by rw[I];split<;>omega,av (by omega)⟩ (by omega) (by simp only[Y,I,d0u,d0l,d0p,Sn.enc,snQ,sb];exact(by repeat first|refine uA ?_|(refine⟨?_,?_⟩;· first|rfl|simp[slot])|rfl|simp))
 have an:i=links.length:=by omega
 subst an;rw[aq]at aI az ⊢;have hf:a1S Z=true:=c3d λj z hj hz=>hm j z (by omega) hz;rw[if_pos hf,d0y (by omega)];clear hm hf aa ah P aj;generalize V4 Z=tz at*;(repeat first|refine uA ?_|(apply uK;· first|omega|(intros;simp_all<;>omega))|simp(disch:=omega) only[go_sem,ww]);(exact uQ rfl (Imp.tup (by(repeat' (first|exact j3.nil|exact Imp.refl rfl|exact Imp.frz rfl rfl rfl|exact Imp.D8|refine Imp.agg ?_|refine j3.cons ?_ ?_)))) rfl rfl)
def c9k:List Nat:=[161]
def c7F(f:Nat):Bool:=c9k.contains f
def c3L(es:List (List C))(E:es.length<=1073741824):FNew Tryz.prog 161 [.sl 12 es] 89 12 es:=by
 refine FNew.of (eff:=eff) Tryz.func161 (by cbv) (by exact d0n rfl) λw O=>?_;simp only[j4,TT,OA,MM];(repeat first|refine uA ?_|simp(disch:=omega) only[go_sem]);refine S.split 4 (Sx:=λy=>∃b,y=.bool b/\(es≠[]->b=false)) rfl λy B=>?_
 obtain⟨b,rfl,A⟩:=B;apply S.cond rfl<;>intro u
 ·have D:es=[]:=Classical.byContradiction λh=>by rw[A h]at u;cases u
  subst D;(repeat first|refine uA ?_|simp(disch:=omega) only[go_sem]);refine S.weaken (Ent.pack 2 89 12 rfl) ?_
  exact S.done (H6.new rfl rfl rfl)
 ·(repeat first|refine uA ?_|simp(disch:=omega) only[go_sem]);exact S.done (H6.new rfl rfl rfl)
def c7k(b:Bq)(r:Rat)(K:Bb 1073741824 b)(hr:Rb 1073741824 (Nm.ofQ r)):FZ 162 [.agg b.enc,rq r] (.agg (a4U b r).enc):=by
 refine kW Tryz.func162 (by cbv) (by rfl) λw O F=>?_;obtain⟨u,h,A,B⟩:=b;obtain⟨G,J,H,I⟩:=K;simp only at G J H I;have D:=b1h (Nm.ofQ u) (Nm.ofQ h) (Nm.ofQ r) (Nm.ofQ r) (G.m rfl) (J.m rfl) (hr.m rfl) (hr.m rfl);have E:=c6V (Nm.ofQ A) (Nm.ofQ B) (Nm.ofQ r) (Nm.ofQ r) (H.m rfl) (I.m rfl) (hr.m rfl) (hr.m rfl);simp only[Nm.y8]at D E;unfold a4U;simp only;generalize u-r=P at*;generalize h-r=M at*;generalize A+r=N at*;generalize B+r=R at*;simp only[j4,TT,OA,OB,LL,FF];simp only[Bq.enc,vc,vq,rq,rc,sb]at D E ⊢;(repeat first|refine uI ?_|(apply uK;· first|omega|(intros;simp_all<;>omega))|simp(disch:=omega) only[go_sem,Nat.reduceAdd])
 refine S.a1d [.box 89 [.v (.bool (Nm.ofQ u).neg),.v (.string (bs (Nm.ofQ u).num)),.v (.string (bs (Nm.ofQ u).den)),.v (.bool (Nm.ofQ h).neg),.v (.string (bs (Nm.ofQ h).num)),.v (.string (bs (Nm.ofQ h).den)),.v (.bool (Nm.ofQ A).neg),.v (.string (bs (Nm.ofQ A).num)),.v (.string (bs (Nm.ofQ A).den)),.v (.bool (Nm.ofQ B).neg),.v (.string (bs (Nm.ofQ B).num)),.v (.string (bs (Nm.ofQ B).den))],.gone,.gone,.box 66 [.v (.bool (Nm.ofQ r).neg),.v (.string (bs (Nm.ofQ r).num)),.v (.string (bs (Nm.ofQ r).den)),.v (.bool (Nm.ofQ r).neg),.v (.string (bs (Nm.ofQ r).num)),.v (.string (bs (Nm.ofQ r).den))]] (by simp[Eng.J7,Eng.Q6]) ?_
 (repeat first|refine uA ?_|simp(disch:=omega) only[go_sem,Nat.reduceAdd,Eng.Q6]|refine uD D (tz F) rfl ?_|refine uD E (tz F) rfl ?_);(exact uS rfl rfl)
def c2D(p q:Rat):J8 p q=if 0<Nm.A9 q p then q else p:=by
 rw[b1S];have h:=a2P q p;by_cases u:p<q
 ·rw[if_pos (by grind),if_pos (h.2 u)]
 ·rw[if_neg (mt h.1 u)];split
  ·grind
  ·rfl
def c8y(a b c d e v:Int):(if G7 id [a,b,c,d,e]≠0 then G7 id [a,b,c,d,e] else v)=if a≠0 then a else if b≠0 then b else if c≠0 then c else if d≠0 then d else if e≠0 then e else v:=by
 simp only[G7,id];by_cases A:a=0<;>by_cases h:b=0<;>by_cases B:c=0<;>by_cases u:d=0<;>by_cases D:e=0<;>simp[A,h,B,u,D]
def b7A{k:Nat}{a:Nm.Rt}(h:1<=k)(h1:Rb k a):Rbs k [a]:=⟨h,λx u=>by simp at u;subst u;exact h1⟩
def c2M{k:Nat}{a b c d:Nm.Rt}(h:4<=k)(h1:Rb k a)(h2:Rb k b)(h3:Rb k c)(h4:Rb k d):Rbs k [a,b,c,d]:=⟨h,λx u=>by simp at u;rcases u with rfl|rfl|rfl|rfl<;>assumption⟩
def walk_eq(a:Nm.Rt):b4d a=if([a].all l7=false\/F3 (Nm.d9 a)=-1) then 1 else 0:=by
 have u:(decide a.I4&&l7 a)=[a].all l7:=by rw[<- a1w];simp
 have A:=c0e (Nm.d9 a);unfold b4d;rw[u];generalize[a].all l7=q;have:=b5X (Nm.d9 a);cases q
 ·simp
 ·by_cases h:0<=F3 (Nm.d9 a)
  ·rw[if_pos (by simpa using h),if_neg (by simp;omega)]
  ·rw[if_neg (by simpa using h),if_pos (by right;omega)]
def c6E(s:Sl):(okF s.frame&&decide s.within.I4&&l7 s.within&&decide (0<F3 (Nm.d9 s.within)))=!(!okF s.frame || !([s.within].all l7)||decide (F3 (Nm.d9 s.within)<1)):=by
 have h:(okF s.frame&&decide s.within.I4&&l7 s.within)=(okF s.frame&&[s.within].all l7):=by
  rw[Bool.and_assoc,<- a1w];simp
 rw[h,sign_one];cases okF s.frame<;>cases[s.within].all l7<;>cases decide (0<F3 (Nm.d9 s.within))<;>rfl
def c6j(g:Gt):(okV g.low&&okV g.high&&decide (Nm.A9 (Nm.d9 g.low.x) (Nm.d9 g.high.x)<=0)&&decide (Nm.A9 (Nm.d9 g.low.y) (Nm.d9 g.high.y)<=0))=!(!([g.low.x,g.low.y,g.high.x,g.high.y].all l7)||decide (Nm.A9 (Nm.d9 g.low.x) (Nm.d9 g.high.x)=1)||decide (Nm.A9 (Nm.d9 g.low.y) (Nm.d9 g.high.y)=1)):=by
 have h:(okV g.low&&okV g.high)=[g.low.x,g.low.y,g.high.x,g.high.y].all l7:=by
  rw[b6F,b6F];simp[Bool.and_assoc]
 rw[h,b7S,b7S];cases[g.low.x,g.low.y,g.high.x,g.high.y].all l7<;>cases decide (Nm.A9 (Nm.d9 g.low.x) (Nm.d9 g.high.x)<=0)<;>cases decide (Nm.A9 (Nm.d9 g.low.y) (Nm.d9 g.high.y)<=0)<;>rfl
def c5g(n:Nms)(a:Am):a2G n a=if J2 a≠0 then(J2 a,n) else R5 n a.name:=rfl
def c3G(n:Nms)(p:Pt):a1k n p=if(R5 n p.name).1≠0 then R5 n p.name else if U3 p.shape≠0 then(U3 p.shape,(R5 n p.name).2) else(if okF p.grasp then 0 else 1,(R5 n p.name).2):=rfl
def c2o(n:Nms)(s:Sl):a1v n s=if(R5 n s.name).1≠0 then R5 n s.name else(if okF s.frame&&decide s.within.I4&&l7 s.within&&decide (0<F3 (Nm.d9 s.within)) then 0 else 1,(R5 n s.name).2):=rfl
def c3t(n:Nms)(g:Gt):a1x n g=if(R5 n g.name).1≠0 then R5 n g.name else(if okV g.low&&okV g.high&&decide (Nm.A9 (Nm.d9 g.low.x) (Nm.d9 g.high.x)<=0)&&decide (Nm.A9 (Nm.d9 g.low.y) (Nm.d9 g.high.y)<=0) then 0 else 1,(R5 n g.name).2):=rfl
def c4m(w:Wk)(hb:Wb 1073741824 w):FZ 67 [w.c] (ints (a3e w)):=by
 refine kW Tryz.func67 (by cbv) (by rfl) λw' O Z=>?_;have ab:callable Tryz.prog 105=true:=by kernel_rfl
 obtain⟨⟨n1,b1⟩,⟨n2,b2⟩,⟨n3,b3⟩,⟨n4,b4⟩,⟨n5,b5⟩,b6⟩:=hb;have ac:=λ(E:Ctx) (hP:E.P=Tryz.prog) (n:Nms) (s:List UInt8) (hs:s.length<=1099511627776) (hn:n.length<=1000000)=>c5P hP w n s hs hn;have h6:=a6o _ (b7A (by decide) (b6.mono (m:=17179869184) (by decide)));have h7:=U4 w.walk (b6.m rfl);unfold a3e b1P;generalize ah:H8 a2G [] w.arms=r1;obtain⟨e1,m1⟩:=r1;simp only;generalize af:H8 a1k m1 w.parts=r3;obtain⟨e3,m3⟩:=r3;simp only;generalize ae:H8 a1v m3 w.slots=r4;obtain⟨e4,m4⟩:=r4;simp only;generalize an:H8 a1x m4 w.gates=r5;obtain⟨e5,m5⟩:=r5;simp only;generalize ag:G7 U3 w.walls=e2;rw[c8y,walk_eq];generalize[w.walk].all l7=q6 at*;generalize F3 (Nm.d9 w.walk)=s7 at*
 obtain⟨K,F,G,D,H,I⟩:=w;simp only at n1 n2 n3 n4 n5 b1 b2 b3 b4 b5 ah ag af ae an ⊢;simp only[j4,TT,II,OA,OB,OC,MM,LL,VV,FF,LG,VG,FG];simp only[Wk.c,Wk.enc,rsR,ams,wls,pts,sls,gts,rts,rcs,rc,sb,ints,d0l,d0p]at ac h6 h7 ⊢;(repeat first|refine uA ?_|simp(disch:=omega) only[go_sem,Nat.reduceAdd,d0d]);apply S.cond rfl<;>intro hc
 ·rw[if_pos (by simp only[d0R,d0t]at hc;omega)];exact uT rfl rfl rfl
 rw[if_neg (by simp only[d0F,d0x]at hc;omega)];simp only[d0F,d0x]at hc;(repeat first|refine uA ?_|simp(disch:=omega) only[go_sem,Nat.reduceAdd,d0d]);apply S.cond rfl<;>intro hc
 ·rw[if_pos (by simp only[d0t]at hc;omega)];exact uT rfl rfl rfl
 rw[if_neg (by simp only[d0x]at hc;omega)];(repeat first|refine uA ?_|simp(disch:=omega) only[go_sem,Nat.reduceAdd,d0d]);refine S.loop (X:=Nat×Nms) (λx=>⟨[(1,.bp 0 0),(4,.clo 105 [.bp 1 0]),(58,ams K),(59,ints K.length),(60,ints x.1)],[.box 31 [ams K,wls F,pts G,sls D,gts H,.v (.bool I.neg),sb I.num,sb I.den],.box 209 [.rv 2],.row 9 1 (nmR x.2)]⟩)
  (λx=>x.1<=K.length/\x.2.length<=x.1/\(e1,m1)=H8 a2G x.2 (K.drop x.1)) (λx=>K.length-x.1) (0,[]) ⟨d0k _,d0m _,ah.symm⟩ (Ent.trans (Ent.a5w 1 0 9 1 rfl rfl rfl) (by repeat first|refine uA ?_|refine⟨rfl,?_⟩|rfl|simp)) ?_
 rintro⟨i,m⟩ ⟨hi,U,J⟩;simp only[ams,wls,pts,sls,gts,sb,ints]at hi U J ⊢;refine uV rfl ?_;apply uJ rfl<;>intro hc
 ·have A:=d0b (show i<K.length by omega);generalize K[i]'(_)=x at A;have W:=b1 x (d0g A);have u:=a0p (f:=a2G) (s:=m) A;have B:=a0n (f:=a2G) (s:=m) A;have V:=a6D x W;have o2:=λ(E:Ctx) (hP:E.P=Tryz.prog)=>ac E hP m x.name (by have:=W.1;omega) (by omega);have aa:=a8w m x.name;rw[c5g]at u B;generalize J2 x=a1 at*;generalize R5 m x.name=r at*;obtain⟨a2,m'⟩:=r;simp only[Am.c,Am.enc,lks,sb]at V o2 aa u B;(repeat first|refine uG V ?_|refine uA ?_|(apply uK;· first|omega|(intros;simp_all<;>omega))|simp(disch:=omega) only[go_sem,Nat.reduceAdd,A,d0e,d0d,Am.enc,lks,sb,d0h]|refine uD V (tz Z) rfl ?_);apply S.cond rfl<;>intro R
  ·have T:a1≠0:=by simpa using R
   rw[if_pos T]at u;rw[u T]at J;injection J with M Y;rw[if_pos (by rw[M];exact T),M];exact uT rfl rfl rfl
  have T:¬a1≠0:=by simpa using R
  rw[if_neg T]at u B;simp only at u B;(repeat first|refine uA ?_|(apply uK;· first|omega|(intros;simp_all<;>omega))|simp(disch:=omega) only[go_sem,Nat.reduceAdd,ab,d0l,d0p]|refine j5.t (l5.b4L _ (o2 _ rfl) rfl rfl rfl) ?_);apply S.cond rfl<;>intro N
  ·have h1:a2≠0:=by simpa using N
   rw[u h1]at J;injection J with M Y;rw[if_pos (by rw[M];exact h1),M];exact uT rfl rfl rfl
  ·have h1:a2=0:=by simpa using N
   (repeat first|refine uA ?_|simp(disch:=omega) only[go_sem]);refine S.next (x:=(i,m)) (i+1,m') ⟨by simp only;omega,by simp only;omega,by simp only;rw[J];exact B h1⟩ (by simp only;omega) (by repeat first|refine uA ?_|refine⟨rfl,?_⟩|rfl|simp)
 rw[a0Q (by omega)]at J;injection J with M Y;subst M Y;rw[if_neg (show ¬(0:Int)≠0 by simp)];have al:m1.length<=4:=by omega
 clear ah b1 U hi;(repeat first|refine uA ?_|simp(disch:=omega) only[go_sem,Nat.reduceAdd,d0d]);refine S.loop (X:=Nat) (λi=>⟨[(1,.bp 0 0),(4,.clo 105 [.bp 1 0]),(78,wls F),(79,ints F.length),(80,ints i)],[.box 31 [ams K,wls F,pts G,sls D,gts H,.v (.bool I.neg),sb I.num,sb I.den],.box 209 [.rv 2],.row 9 1 (nmR m1)]⟩)
  (λi=>i<=F.length/\e2=G7 U3 (F.drop i)) (λi=>F.length-i) 0 ⟨d0k _,ag.symm⟩ (by repeat first|refine uA ?_|refine⟨rfl,?_⟩|rfl|simp) ?_
 rintro j ⟨hj,J⟩;simp only[ams,wls,pts,sls,gts,sb,ints]at hj J ⊢;refine uV rfl ?_;apply uJ rfl<;>intro hc
 ·have A:=d0b (show j<F.length by omega);generalize F[j]'(_)=x at A;have W:=b2 x (d0g A);have u:=a0s (f:=U3) A;have B:=a0r (f:=U3) A;have V:=b4D x W;generalize U3 x=a1 at*;simp only[vts]at V;(repeat first|refine uG V ?_|refine uA ?_|(apply uK;· first|omega|(intros;simp_all<;>omega))|simp(disch:=omega) only[go_sem,A,d0e,d0d,vts,d0h]|refine uD V (tz Z) rfl ?_);apply S.cond rfl<;>intro R
  ·have T:a1≠0:=by simpa using R
   rw[u T]at J;rw[if_pos (by rw[J];exact T),J];exact uT rfl rfl rfl
  ·have T:a1=0:=by simpa using R
   (repeat first|refine uA ?_|simp(disch:=omega) only[go_sem]);refine S.next (j+1) ⟨by omega,by rw[J];exact B T⟩ (by omega) (by repeat first|refine uA ?_|refine⟨rfl,?_⟩|rfl|simp)
 rw[a0N (by omega)]at J;subst J;rw[if_neg (show ¬(0:Int)≠0 by simp)];clear ag b2 hj;(repeat first|refine uA ?_|simp(disch:=omega) only[go_sem,Nat.reduceAdd,d0d]);refine S.loop (X:=Nat×Nms) (λx=>⟨[(1,.bp 0 0),(4,.clo 105 [.bp 1 0]),(91,pts G),(92,ints G.length),(93,ints x.1)],[.box 31 [ams K,wls F,pts G,sls D,gts H,.v (.bool I.neg),sb I.num,sb I.den],.box 209 [.rv 2],.row 9 1 (nmR x.2)]⟩)
  (λx=>x.1<=G.length/\x.2.length<=4+x.1/\(e3,m3)=H8 a1k x.2 (G.drop x.1)) (λx=>G.length-x.1) (0,m1) ⟨d0k _,al,af.symm⟩ (by repeat first|refine uA ?_|refine⟨rfl,?_⟩|rfl|simp) ?_
 rintro⟨k,m⟩ ⟨hk,U,J⟩;simp only[ams,wls,pts,sls,gts,sb,ints]at hk U J ⊢;refine uV rfl ?_;apply uJ rfl<;>intro hc
 ·have A:=d0b (show k<G.length by omega);generalize G[k]'(_)=x at A;have W:=b3 x (d0g A);have u:=a0p (f:=a1k) (s:=m) A;have B:=a0n (f:=a1k) (s:=m) A;have V:=b4D x.shape W.2.1;have o3:=b5V x.grasp ⟨W.2.2.1.m rfl,W.2.2.2.1.m rfl,W.2.2.2.2.m rfl⟩;have o2:=λ(E:Ctx) (hP:E.P=Tryz.prog)=>ac E hP m x.name (by have:=W.1;omega) (by omega);have aa:=a8w m x.name;rw[c3G]at u B;generalize U3 x.shape=a1 at*;generalize okF x.grasp=q at*;generalize R5 m x.name=r at*;obtain⟨a2,m'⟩:=r;obtain⟨xn,xs,⟨gx,gy,gh,gt⟩⟩:=x;simp only[Fr.c,Fr.enc,vts,sb]at V o2 o3 aa u B
  (repeat first|refine uA ?_|(apply uK;· first|omega|(intros;simp_all<;>omega))|simp(disch:=omega) only[go_sem,Nat.reduceAdd,A,d0e,d0d,Pt.enc,vts,sb,d0h,ab,d0l,d0p]|refine j5.t (l5.b4L _ (o2 _ rfl) rfl rfl rfl) ?_);apply S.cond rfl<;>intro R
  ·have T:a2≠0:=by simpa using R
   rw[if_pos T]at u;rw[u T]at J;injection J with M Y;rw[if_pos (by rw[M];exact T),M];exact uT rfl rfl rfl
  have T:¬a2≠0:=by simpa using R
  rw[if_neg T]at u B;(repeat first|refine uG V ?_|refine uA ?_|(apply uK;· first|omega|(intros;simp_all<;>omega))|simp(disch:=omega) only[go_sem,Nat.reduceAdd]|refine uD V (tz Z) rfl ?_);apply S.cond rfl<;>intro N
  ·have h1:a1≠0:=by simpa using N
   rw[if_pos h1]at u;rw[u h1]at J;injection J with M Y;rw[if_pos (by rw[M];exact h1),M];exact uT rfl rfl rfl
  have h1:¬a1≠0:=by simpa using N
  rw[if_neg h1]at u B;(repeat first|refine uG o3 ?_|refine uA ?_|(apply uK;· first|omega|(intros;simp_all<;>omega))|simp(disch:=omega) only[go_sem,Nat.reduceAdd]|refine uD o3 (tz Z) rfl ?_);apply S.cond rfl<;>intro aj
  ·have h2:¬q=true:=by simpa using aj
   rw[if_neg h2]at u;rw[u (show(1:Int)≠0 by decide)]at J;injection J with M Y;rw[if_pos (by rw[M];decide),M];exact uT rfl rfl rfl
  ·have h2:q=true:=by simpa using aj
   rw[if_pos h2]at B;(repeat first|refine uA ?_|simp(disch:=omega) only[go_sem]);refine S.next (x:=(k,m)) (k+1,m') ⟨by simp only;omega,by simp only;omega,by simp only;rw[J];exact B rfl⟩ (by simp only;omega) (by repeat first|refine uA ?_|refine⟨rfl,?_⟩|rfl|simp)
 rw[a0Q (by omega)]at J;injection J with M Y;subst M Y;rw[if_neg (show ¬(0:Int)≠0 by simp)];have ai:m3.length<=10:=by omega
 clear af b3 U hk al;(repeat first|refine uA ?_|simp(disch:=omega) only[go_sem,Nat.reduceAdd,d0d]);refine S.loop (X:=Nat×Nms) (λx=>⟨[(1,.bp 0 0),(4,.clo 105 [.bp 1 0]),(116,sls D),(117,ints D.length),(118,ints x.1)],[.box 31 [ams K,wls F,pts G,sls D,gts H,.v (.bool I.neg),sb I.num,sb I.den],.box 209 [.rv 2],.row 9 1 (nmR x.2)]⟩)
  (λx=>x.1<=D.length/\x.2.length<=10+x.1/\(e4,m4)=H8 a1v x.2 (D.drop x.1)) (λx=>D.length-x.1) (0,m3) ⟨d0k _,ai,ae.symm⟩ (by repeat first|refine uA ?_|refine⟨rfl,?_⟩|rfl|simp) ?_
 rintro⟨k,m⟩ ⟨hk,U,J⟩;simp only[ams,wls,pts,sls,gts,sb,ints]at hk U J ⊢;refine uV rfl ?_;apply uJ rfl<;>intro hc
 ·have A:=d0b (show k<D.length by omega);generalize D[k]'(_)=x at A;have W:=b4 x (d0g A);have u:=a0p (f:=a1v) (s:=m) A;have B:=a0n (f:=a1v) (s:=m) A;have V:=b5V x.frame ⟨W.2.1.1.m rfl,W.2.1.2.1.m rfl,W.2.1.2.2.m rfl⟩;have o3:=a6o _ (b7A (by decide) (W.2.2.mono (m:=17179869184) (by decide)));have o4:=U4 x.within (W.2.2.m rfl);have o2:=λ(E:Ctx) (hP:E.P=Tryz.prog)=>ac E hP m x.name (by have:=W.1;omega) (by omega);have aa:=a8w m x.name;rw[c2o]at u B;rw[c6E]at u B;generalize okF x.frame=q1 at*;generalize[x.within].all l7=q2 at*;generalize F3 (Nm.d9 x.within)=s3 at*;generalize R5 m x.name=r at*;obtain⟨a2,m'⟩:=r;obtain⟨xn,⟨gx,gy,gh,gt⟩,wi⟩:=x
  simp only[Fr.c,Fr.enc,rts,rcs,rc,sb,ints,d0l,d0p]at V o2 o3 o4 aa u B;(repeat first|refine uA ?_|(apply uK;· first|omega|(intros;simp_all<;>omega))|simp(disch:=omega) only[go_sem,Nat.reduceAdd,A,d0e,d0d,Sl.enc,sb,d0h,ab,d0l,d0p]|refine j5.t (l5.b4L _ (o2 _ rfl) rfl rfl rfl) ?_);apply S.cond rfl<;>intro R
  ·have T:a2≠0:=by simpa using R
   rw[if_pos T]at u;rw[u T]at J;injection J with M Y;rw[if_pos (by rw[M];exact T),M];exact uT rfl rfl rfl
  have T:¬a2≠0:=by simpa using R
  rw[if_neg T]at u B;cases q1
  ·(repeat first|refine uG V ?_|refine uG o4 ?_|refine uG o3 ?_|refine uA ?_|(apply uK;· first|omega|(intros;simp_all<;>omega))|simp(disch:=omega) only[go_sem,Nat.reduceAdd]|refine uD V (tz Z) rfl ?_|refine uD o4 (tz Z) rfl ?_|(refine uE o3 ?_ ?_ ?_ ?_;exact tz Z;exact rfl;focus (repeat' first|exact j3.nil|exact Imp.refl rfl|exact Imp.frz rfl rfl rfl|(refine Imp.O0 rfl rfl ?_ ?_;(focus ((try simp only[d0c]);omega));(focus first|rfl|assumption))|refine j3.cons ?_ ?_);done));refine S.cond rfl (λN=>?_) (λN=>by simp at N);rw[if_neg (by simp)]at u;rw[u (show(1:Int)≠0 by decide)]at J;injection J with M Y;rw[if_pos (by rw[M];decide),M];exact uT rfl rfl rfl
  (repeat first|refine uG V ?_|refine uG o4 ?_|refine uG o3 ?_|refine uA ?_|(apply uK;· first|omega|(intros;simp_all<;>omega))|simp(disch:=omega) only[go_sem,Nat.reduceAdd]|refine uD V (tz Z) rfl ?_|refine uD o4 (tz Z) rfl ?_|(refine uE o3 ?_ ?_ ?_ ?_;exact tz Z;exact rfl;focus (repeat' first|exact j3.nil|exact Imp.refl rfl|exact Imp.frz rfl rfl rfl|(refine Imp.O0 rfl rfl ?_ ?_;(focus ((try simp only[d0c]);omega));(focus first|rfl|assumption))|refine j3.cons ?_ ?_);done));apply S.cond rfl<;>intro N
  ·rw[if_neg (by simp;simp at N;rcases N with h|h<;>simp[h])]at u;rw[u (show(1:Int)≠0 by decide)]at J;injection J with M Y;rw[if_pos (by rw[M];decide),M];exact uT rfl rfl rfl
  ·rw[if_pos (by simpa using N)]at B;(repeat first|refine uA ?_|simp(disch:=omega) only[go_sem]);refine S.next (x:=(k,m)) (k+1,m') ⟨by simp only;omega,by simp only;omega,by simp only;rw[J];exact B rfl⟩ (by simp only;omega) (by repeat first|refine uA ?_|refine⟨rfl,?_⟩|rfl|simp)
 rw[a0Q (by omega)]at J;injection J with M Y;subst M Y;rw[if_neg (show ¬(0:Int)≠0 by simp)];have aq:m4.length<=18:=by omega
 clear ae b4 U hk ai;(repeat first|refine uA ?_|simp(disch:=omega) only[go_sem,Nat.reduceAdd,d0d]);refine S.loop (X:=Nat×Nms) (λx=>⟨[(1,.bp 0 0),(4,.clo 105 [.bp 1 0]),(148,gts H),(149,ints H.length),(150,ints x.1)],[.box 31 [ams K,wls F,pts G,sls D,gts H,.v (.bool I.neg),sb I.num,sb I.den],.box 209 [.rv 2],.row 9 1 (nmR x.2)]⟩)
  (λx=>x.1<=H.length/\x.2.length<=18+x.1/\(e5,m5)=H8 a1x x.2 (H.drop x.1)) (λx=>H.length-x.1) (0,m4) ⟨d0k _,aq,an.symm⟩ (by repeat first|refine uA ?_|refine⟨rfl,?_⟩|rfl|simp) ?_
 rintro⟨k,m⟩ ⟨hk,U,J⟩;simp only[ams,wls,pts,sls,gts,sb,ints]at hk U J ⊢;refine uV rfl ?_;apply uJ rfl<;>intro hc
 ·have A:=d0b (show k<H.length by omega);generalize H[k]'(_)=x at A;obtain⟨ar,⟨ak,am⟩,ao,ap⟩:=b5 x (d0g A);have u:=a0p (f:=a1x) (s:=m) A;have B:=a0n (f:=a1x) (s:=m) A;have o3:=a6o _ (c2M (by decide) (ak.mono (m:=17179869184) (by decide)) (am.mono (m:=17179869184) (by decide)) (ao.mono (m:=17179869184) (by decide)) (ap.mono (m:=17179869184) (by decide)));have o4:=P8 x.low.x x.high.x (ak.m rfl) (ao.m rfl);have o5:=P8 x.low.y x.high.y (am.m rfl) (ap.m rfl);have o2:=λ(E:Ctx) (hP:E.P=Tryz.prog)=>ac E hP m x.name (by omega) (by omega);have aa:=a8w m x.name;rw[c3t]at u B;rw[c6j]at u B
  generalize[x.low.x,x.low.y,x.high.x,x.high.y].all l7=q2 at*;generalize Nm.A9 (Nm.d9 x.low.x) (Nm.d9 x.high.x)=s3 at*;generalize Nm.A9 (Nm.d9 x.low.y) (Nm.d9 x.high.y)=s4 at*;generalize R5 m x.name=r at*;obtain⟨a2,m'⟩:=r;obtain⟨xn,⟨lx,ly⟩,⟨ux,uy⟩⟩:=x;simp only[rts,rcs,rc,sb,ints,d0l,d0p]at o2 o3 o4 o5 aa u B;(repeat first|refine uA ?_|(apply uK;· first|omega|(intros;simp_all<;>omega))|simp(disch:=omega) only[go_sem,Nat.reduceAdd,A,d0e,d0d,Gt.enc,sb,d0h,ab,d0l,d0p]|refine j5.t (l5.b4L _ (o2 _ rfl) rfl rfl rfl) ?_);apply S.cond rfl<;>intro R
  ·have T:a2≠0:=by simpa using R
   rw[if_pos T]at u;rw[u T]at J;injection J with M Y;rw[if_pos (by rw[M];exact T),M];exact uT rfl rfl rfl
  have T:¬a2≠0:=by simpa using R
  rw[if_neg T]at u B;(repeat first|refine uI ?_|(apply uK;· first|omega|(intros;simp_all<;>omega))|simp(disch:=omega) only[go_sem,Nat.reduceAdd,ww]);refine S.a1d [.gone,.gone,.gone,.box 91 [.v (.string (bs xn)),.v (.bool lx.neg),.v (.string (bs lx.num)),.v (.string (bs lx.den)),.v (.bool ly.neg),.v (.string (bs ly.num)),.v (.string (bs ly.den)),.v (.bool ux.neg),.v (.string (bs ux.num)),.v (.string (bs ux.den)),.v (.bool uy.neg),.v (.string (bs uy.num)),.v (.string (bs uy.den))]] (by simp[Eng.J7,Eng.Q6]) ?_
  (repeat first|refine uG o4 ?_|refine uG o5 ?_|refine uG o3 ?_|refine uA ?_|(apply uK;· first|omega|(intros;simp_all<;>omega))|simp(disch:=omega) only[go_sem,Nat.reduceAdd]|refine uD o4 (tz Z) rfl ?_|refine uD o5 (tz Z) rfl ?_|(refine uE o3 ?_ ?_ ?_ ?_;exact tz Z;exact rfl;focus (repeat' first|exact j3.nil|exact Imp.refl rfl|exact Imp.frz rfl rfl rfl|(refine Imp.O0 rfl rfl ?_ ?_;(focus ((try simp only[d0c,J7]);omega));(focus first|rfl|assumption))|refine j3.cons ?_ ?_);done));apply S.cond rfl<;>intro N
  ·rw[if_neg (by rw[N];decide)]at u;rw[u (show(1:Int)≠0 by decide)]at J;injection J with M Y;rw[if_pos (by rw[M];decide),M];exact uT rfl rfl rfl
  ·rw[if_pos (by rw[N];rfl)]at B;(repeat first|refine uA ?_|simp(disch:=omega) only[go_sem]);refine S.next (x:=(k,m)) (k+1,m') ⟨by simp only;omega,by simp only;omega,by simp only;rw[J];exact B rfl⟩ (by simp only;omega) (by repeat first|refine uA ?_|refine⟨rfl,?_⟩|rfl|simp)
 rw[a0Q (by omega)]at J;injection J with M Y;subst M;rw[if_neg (show ¬(0:Int)≠0 by simp)];(repeat first|refine uG h7 ?_|refine uG h6 ?_|refine uA ?_|(apply uK;· first|omega|(intros;simp_all<;>omega))|simp(disch:=omega) only[go_sem,Nat.reduceAdd]|refine uD h7 (tz Z) rfl ?_|(refine uE h6 ?_ ?_ ?_ ?_;exact tz Z;exact rfl;focus (repeat' first|exact j3.nil|exact Imp.refl rfl|exact Imp.frz rfl rfl rfl|(refine Imp.O0 rfl rfl ?_ ?_;(focus ((try simp only[d0c]);omega));(focus first|rfl|assumption))|refine j3.cons ?_ ?_);done));apply S.cond rfl<;>intro hc
 ·rw[if_pos (by simpa using hc)];exact uT rfl rfl rfl
 ·rw[if_neg (by simpa using hc)];exact uT rfl rfl rfl
def c7C{f:Nat}{A:List C}{s J:C}{rs':List Res}(h:∀E:Ctx,E.P=Tryz.prog->Tz E->l5 E [] f A s rs' [])(X:Imp rs' [] s J)(T:J.cl=true):FZ f A J:=by
 intro O w vs U R N;have B:∀b,¬owned [] [] b:=λb ⟨k,r,x,D,_⟩=>by simp at D
 have I:RG O (λ_=>False) w.heap.size [] [] w:=⟨rfl,λk r D=>by simp at D,λk l r r' x Z b _ D=>by simp at D,λb u=>(B b u).elim,R,d0m _⟩
 have G:∀b,OO O [] [] b->O b:=λb u=>u.elim id λh=>(B b h).elim;refine(h ⟨Tryz.prog,λ_=>false,0,w,λ_=>False,O,[],[]⟩ rfl ⟨U,id⟩ O [] w vs I (λb u=>u) ⟨rfl,rfl,rfl,d0m _,λ_ _ _=>rfl⟩ ((FzL.keep (Keeps.sub G) N).den [])).mono ?_;rintro e W ⟨y,F,rfl,K,H,V⟩;have M:Cut O rs' [] F:=Cut.of K (by simp[X8]);have Y:=X O (λ_=>False) w.heap.size F W y K M V;exact⟨y,rfl,⟨H.os,H.tape,H.output,H.size,λb u=>H.block b u (B b)⟩,Fz.keep (Keeps.sub λb u=>.inl u) (Den.fz T Y)⟩
def FZ.imp{f:Nat}{u:List C}{r s:C}(h:FZ f u r)(A:(C.bdL 0 u&&C.clL u)=true)(O:Imp [] [] r s)(H:s.cl=true):FZ f u s:=by
 refine c7C (rs':=[]) (λE I G=>?_) O H;rw[d0s]at A;intro K ν w vs F B M J;refine(W9.c4R (p:=true) G (λ_=>by rw[I];exact h) (λ_=>j3.refl (rs':=[]) A.1) (λ_=>A.2) rfl K ν w vs F B M J).mono ?_;rintro e P ⟨y,rfl,D,N⟩;exact⟨y,ν,rfl,F.below D,Mv.of_below D,N⟩
def c3X{a:Am}{n:Nat}(h:a4n a n=0):J2 a=0/\n=a.links.length:=by
 unfold a4n at h;split at h
 ·contradiction
 ·split at h
  ·cases h
  ·rename_i u A;exact⟨Classical.not_not.1 u,by have:=Classical.not_not.1 A;omega⟩
def gbL(w:Wk)(a:Am)(holds:Int)(q:List Sn):List Bq:=if a4n a q.length≠0 then[] else if holds<0 then a2u a (q.map I8) else match w.parts[holds.toNat]? with
 | some p=>a2u a (q.map I8)++[a4U (a9s a (q.map I8)) (a1X p.grasp p.shape)]
 | none=>[]
def b7R{w:Wk}{a:Am}{holds:Int}{q:List Sn}:(gbL w a holds q).length<=4:=by
 unfold gbL;split
 ·exact d0k _
 ·rename_i A;obtain⟨u,h⟩:=c3X (Classical.not_not.1 A);have D:=b0P (a:=a) (q:=q.map I8) (by rw[d0d];exact h);have B:=(P9 u).2;split
  ·omega
  ·split
   ·rw[d0c,List.length_singleton];omega
   ·exact d0k _
def c0j{L:List Lk}{u:List Nm.Rt}(G:u.length=L.length)(h:a1S (L.zip u)=false):∃k,k<L.length/\(∀(l:Lk) (x:Nm.Rt),L[k]?=some l->u[k]?=some x->¬D9 (Nm.d9 l.brake) (Nm.d9 x)<=2000)/\∀(i:Nat) (l:Lk) (x:Nm.Rt),i<k->L[i]?=some l->u[i]?=some x->D9 (Nm.d9 l.brake) (Nm.d9 x)<=2000:=by
 induction L generalizing u with
 | nil=>simp[a1S]at h
 | cons l L ih=>
  cases u with
  | nil=>simp at G
  | cons x u=>
   by_cases F:D9 (Nm.d9 l.brake) (Nm.d9 x)<=2000
   ·have J:a1S (L.zip u)=false:=by
     unfold a1S at h ⊢;simpa[F] using h
    obtain⟨k,I,K,M⟩:=ih (by simpa using G) J;refine⟨k+1,by simpa using I,λD E B A=>K D E (by simpa using B) (by simpa using A),λi D E H B A=>?_⟩;cases i with
    | zero=>
     simp only[List.getElem?_cons_zero,Option.some.injEq]at B A;subst B A;exact F
    | succ i=>exact M i D E (by omega) (by simpa using B) (by simpa using A)
   ·exact⟨0,by simp,λD E B A=>by
     simp only[List.getElem?_cons_zero,Option.some.injEq]at B A;subst B A;exact F,λi D E H=>absurd H (Nat.not_lt_zero _)⟩
set_option maxRecDepth 10000
set_option maxHeartbeats 4000000
def InV(B x:Rat):Prop:=-B<=x/\x<=B
def InB(B:Rat)(s:Sp):Prop:=InV B s.lo/\InV B s.hi
def InV.mono{B C x:Rat}(h:InV B x)(hc:B<=C):InV C x:=⟨by have:=h.1;grind,by have:=h.2;grind⟩
theorem InB.mono{B C:Rat}{s:Sp}(h:InB B s)(u:B<=C):InB C s:=⟨h.1.mono u,h.2.mono u⟩
def a2f{B:Rat}{s:Sp}(u:0<=B)(h:InB B s):InB B (J5 s):=by
 unfold J5;split
 ·exact h
 ·exact⟨⟨by simp only;grind,by simp only;grind⟩,⟨by simp only;grind,by simp only;grind⟩⟩
def a7L{B x y:Rat}(h:InV B x)(u:InV 1 y):InV B (x*y):=by
 obtain⟨H,E⟩:=h;obtain⟨I,F⟩:=u;have G:=Rat.mul_nonneg (show 0<=B-x by grind) (show 0<=1+y by grind);have D:=Rat.mul_nonneg (show 0<=B+x by grind) (show 0<=1-y by grind);have A:=Rat.mul_nonneg (show 0<=B-x by grind) (show 0<=1-y by grind);have J:=Rat.mul_nonneg (show 0<=B+x by grind) (show 0<=1+y by grind);constructor<;>grind
def b6t{B p q:Rat}(u:InV B p)(h:InV B q):InV B (K3 p q):=by unfold K3;split<;>assumption
def b4x{B p q:Rat}(u:InV B p)(h:InV B q):InV B (J8 p q):=by unfold J8;split<;>assumption
theorem c4H{B:Rat}:∀(l:List Rat) (s:Sp),InB B s->(∀a∈l,InV B a)->InB B (l.foldl (λs a=>(⟨K3 s.lo a,J8 s.hi a⟩:Sp)) s)
 | [],_,h,_=>h
 | a::l,s,h,hl=>c4H l _ ⟨b6t h.1 (hl a (by simp)),b4x h.2 (hl a (by simp))⟩ λx hx=>hl x (by simp[hx])
def b1Q{B:Rat}{a b:Sp}(E:0<=B)(D:InB B a)(A:InB 1 b):InB B (K7 a b):=by
 have h:=a2f E D;have fb:=a2f (show(0:Rat)<=1 by decide) A;unfold K7 arF;refine c4H _ _ ⟨a7L h.1 fb.1,a7L h.1 fb.1⟩ λx u=>?_;simp only[List.mem_cons,List.not_mem_nil,or_false]at u;rcases u with rfl|rfl|rfl
 ·exact a7L h.1 fb.2
 ·exact a7L h.2 fb.1
 ·exact a7L h.2 fb.2
def c7A{B C:Rat}{a b:Sp}(D:0<=B)(u:0<=C)(A:InB B a)(h:InB C b):InB (B+C) (a0e a b):=by
 obtain⟨⟨M,E⟩,⟨H,F⟩⟩:=a2f D A;obtain⟨⟨G,I⟩,⟨J,K⟩⟩:=a2f u h;unfold a0e;exact⟨⟨by simp only;grind,by simp only;grind⟩,⟨by simp only;grind,by simp only;grind⟩⟩
def c7u{B C:Rat}{a b:Sp}(D:0<=B)(u:0<=C)(A:InB B a)(h:InB C b):InB (B+C) (a3p a b):=by
 obtain⟨⟨M,E⟩,⟨H,F⟩⟩:=a2f D A;obtain⟨⟨G,I⟩,⟨J,K⟩⟩:=a2f u h;unfold a3p;exact⟨⟨by simp only;grind,by simp only;grind⟩,⟨by simp only;grind,by simp only;grind⟩⟩
def b8a{B:Rat}{a b:Sp}(hB:0<=B)(ha:InB B a)(hb:InB B b):InB B (U6 a b):=⟨b6t (a2f hB ha).1 (a2f hB hb).1,b4x (a2f hB ha).2 (a2f hB hb).2⟩
def b5W{x y:Rat}(h:0<y)(D:-y<=x)(B:x<=y):InV 1 (x/y):=by
 have e:x/y*y=x:=Rat.div_mul_cancel (by grind);generalize x/y=q at*;constructor
 ·refine Classical.byContradiction λA=>?_;have u:=Rat.mul_lt_mul_of_pos_right (show q < -1 by grind) h;grind
 ·refine Classical.byContradiction λA=>?_;have u:=Rat.mul_lt_mul_of_pos_right (show(1:Rat)<q by grind) h;grind
def b8h{a:Rat}(h:0<=a):InV 1 (a8z a):=by unfold a8z;exact b5W (by grind) (by grind) (by grind)
def b2c(t:Rat):0<1+t*t:=by have:=sq_nonneg t;grind
def a5U(t:Rat):InV 1 (a0v t):=by
 unfold a0v;have h:=sq_nonneg (1-t);have u:=sq_nonneg (1+t);exact b5W (b2c t) (by grind) (by grind)
def b8p(h:Bool)(t:Rat):InV 1 (a2w h t):=by
 unfold a2w;have u:=sq_nonneg t;split
 ·exact⟨by decide,by decide⟩
 ·exact b5W (b2c t) (by grind) (by grind)
def b8w(s:Sp):InB 1 (b0L s):=⟨b8h (a6J s).2,b8h (a6J s).1⟩
def c5H{n:Int}(h:n=-1\/n=1):InB 1 (ptQ (n:Rat)):=by
 rcases h with rfl|rfl
 ·exact⟨⟨by decide,by decide⟩,⟨by decide,by decide⟩⟩
 ·exact⟨⟨by decide,by decide⟩,⟨by decide,by decide⟩⟩
theorem b8i{u:Sp}:∀(l:List Int) (s:Sp),InB 1 s->(∀n∈l,n=-1\/n=1)->InB 1 (a4s u s l)
 | [],_,h,_=>h
 | n::l,s,h,hl=>by
  unfold a4s;rw[List.foldl_cons];refine b8i l _ ?_ λm hm=>hl m (by simp[hm]);split
  ·exact b8a (by decide) h (c5H (hl n (by simp)))
  ·exact h
def b7J(t:Sp):InB 1 (b0C t):=b8i _ _ (b8a (by decide) ⟨a5U _,a5U _⟩ ⟨a5U _,a5U _⟩) (by simp)
def b8v(p:Rat):p-1<=a2b p/\a2b p<=p:=by
 unfold a2b;have B:=Rat.floor_le (p*1000000);have h:=Rat.lt_floor_add_one (p*1000000);rw[Rat.intCast_add]at h;generalize(p*1000000).floor=f at*;rw[Rat.mkRat_eq_div];have e:(f:Rat)/((1000000:Nat):Rat)*((1000000:Nat):Rat)=(f:Rat):=Rat.div_mul_cancel (by decide);have A:((1000000:Nat):Rat)=1000000:=rfl;have u:((1:Int):Rat)=1:=rfl;rw[A]at e ⊢;rw[u]at h;generalize(f:Rat)/1000000=q at*;constructor<;>grind
def c9u(p:Rat):p<=upQ p/\upQ p<=p+1:=by
 have:=b8v (-p);unfold upQ;constructor<;>grind
def c0Y{B:Rat}{s:Sp}(H:1<=B)(h:InB B s):InB (B+1) (a2E s):=by
 obtain⟨⟨u,G⟩,⟨E,D⟩⟩:=a2f (show 0<=B by grind) h;have F:=b8v (J5 s).lo;have A:=c9u (J5 s).hi;unfold a2E a9w;exact⟨b4x ⟨by simp only;grind,by simp only;grind⟩ ⟨by grind,by grind⟩,b6t ⟨by simp only;grind,by simp only;grind⟩ ⟨by grind,by grind⟩⟩
def b1w{p:Rat}(h:InV 100 p):Rb 8 (Nm.ofQ (a2b p)):=by
 unfold a2b;have E:=Rat.floor_le (p*1000000);have u:=Rat.lt_floor_add_one (p*1000000);rw[Rat.intCast_add]at u;generalize(p*1000000).floor=f at*;obtain⟨H,D⟩:=h;have G:-100000001<=f/\f<=100000000:=by
  have A:((1:Int):Rat)=1:=rfl;rw[A]at u;constructor
  ·have:((-100000001:Int):Rat)<=(f:Rat):=by rw[show((-100000001:Int):Rat)=-100000001 from rfl];grind
   exact Rat.intCast_le_intCast.1 this
  ·have:(f:Rat)<=((100000000:Int):Rat):=by rw[show((100000000:Int):Rat)=100000000 from rfl];grind
   exact Rat.intCast_le_intCast.1 this
 have F:(Nm.enc f.natAbs).length<=4:=Nm.O1 (by rw[show(256:Nat)^4=4294967296 by decide];omega);rw[<- b2e f];have B:=a9P;exact a7Z (k:=8) (by decide) (by omega) (by omega) (by omega) (d0m _)
def b2Z{s:Sp}(h:InB 100 s):Zb 8 (a2E s):=by
 have u:=a2f (by decide) h;have A:InV 100 (-(J5 s).hi):=⟨by have:=u.2.2;grind,by have:=u.2.1;grind⟩
 unfold a2E a9w upQ;exact⟨a6j (b1w u.1) a9D,a8q (a1Q (b1w A)) V7⟩
def BB:Nat->Rat
 | 0=>1
 | 1=>3
 | 2=>7
 | _=>15
def c5O{i:Nat}(h:i<3):BB i+BB i+1=BB (i+1)/\1<=BB i/\BB i+BB i<=100:=by
 rcases(show i=0\/i=1\/i=2 by omega) with rfl|rfl|rfl<;>exact⟨by decide +kernel,by decide +kernel,by decide +kernel⟩
structure FrS(i:Nat)(n:Lq):Prop where
 x:Zb (64+17*i) n.x
 y:Zb (64+17*i) n.y
 c:InB (BB i) n.c
 s:InB (BB i) n.s
 small:i≠0->Zb 8 n.c/\Zb 8 n.s
 cs:Zb 262144 n.c/\Zb 262144 n.s
def b4V{i:Nat}{n:Lq}{t:Sp}{l:Lk}(K:i<3)(h:FrS i n)(J:Rb 8 l.length):Zl 256 (a7a n t)/\FrS (i+1) (b9B (a7a n t) l):=by
 obtain⟨I,M,G⟩:=c5O K;have u:0<=BB i:=by grind
 have D:=c7u u u (b1Q u h.c (b8w t)) (b1Q u h.s (b7J t));have F:=c7A u u (b1Q u h.s (b8w t)) (b1Q u h.c (b7J t));have H:=c0Y (by grind) D;have E:=c0Y (by grind) F;rw[I]at H E;have B:=b2Z (D.mono G);have A:=b2Z (F.mono G);have p:=a4S J (by decide);exact⟨⟨h.x.mono (by omega),h.y.mono (by omega),B.m rfl,A.m rfl⟩,(a4x h.x (Z6 p B)).mono (by omega),(a4x h.y (Z6 p A)).mono (by omega),H,E,λ_=>⟨B,A⟩,B.m rfl,A.m rfl⟩
theorem a8H:∀(Z:List (Lk×Sp)) (i:Nat) (n:Lq),i+Z.length<=3->i+Z.length≠0->FrS i n->(∀z∈Z,Rb 8 z.1.length)->∀f∈U9 n Z,Zl 256 f
 | [],i,n,hi,h0,hn,_,f,hf=>by
  rw[U9,List.mem_singleton]at hf;rw[hf];simp only[List.length_nil,Nat.add_zero]at hi h0;obtain⟨h1,h2⟩:=hn.small h0;exact⟨hn.x.mono (by omega),hn.y.mono (by omega),h1.m rfl,h2.m rfl⟩
 | (l,t)::r,i,n,hi,_,hn,hz,f,hf=>by
  rw[d0j]at hi;have h2:=b4V (l:=l) (t:=t) (show i<3 by omega) hn (hz (l,t) (by simp));rw[U9,List.mem_cons]at hf;rcases hf with rfl|hf
  ·exact h2.1
  ·exact a8H r (i+1) _ (by omega) (by omega) h2.2 (λz h=>hz z (by simp[h])) f hf
def b1t{a:Am}(u:J2 a=0):FrS 0 (a1L a.base):=by
 obtain⟨fb,_⟩:=a7V u;exact⟨a4S (fb.1.mono (show xB 0<=64 by decide)) (by decide),a4S (fb.2.1.mono (show xB 0<=64 by decide)) (by decide),⟨b8p _ _,b8p _ _⟩,⟨a5U _,a5U _⟩,λh=>absurd rfl h,(b7H u).2.2.1,(b7H u).2.2.2⟩
set_option maxRecDepth 100000
set_option maxHeartbeats 16000000
def b3d(a:Am)(q:List Sn)(hl:Ab 1073741824 a)(ha:J2 a=0)(ah:q.length=a.links.length)(hq:∀r∈q,Zr 16000000 r):FZ 203 [a.c,.sl 6 (q.map Sn.enc)] (.tup [.sl 24 ((U9 (a1L a.base) (a.links.zip (q.map I8))).map Lq.enc),ints 0]):=by
 refine kW Tryz.func203 (cF rfl rfl (by cbv) (by repeat' first|exact cS|exact cT|exact cE|apply cA|apply cC|apply cB|apply cL|(apply cR;cbv)|(apply cD;cbv;cbv;kernel_rfl))) (by rfl) λw O u=>?_;have h:=c0L a q.length hl;rw[b4I ha (by omega)]at h;obtain⟨fb,lb⟩:=a7V ha;have N:=b1t ha;have ag:=(P9 ha).2;have hn:=hl.2.2.1;obtain⟨al,base,links⟩:=a;simp only at ah fb lb ag hn ⊢;have P:=c8D base.half base.t (fb.2.2.m rfl);have hs:=b4p base.half base.t (fb.2.2.m rfl);have rT:=b2H (h:=base.half) (fb.2.2.mono (show tB 0<=64 by decide)) (by decide);have rC:Rb 262144 (Nm.ofQ (a2w base.half (M8 base.half base.t))):=(c1k _ rT).m rfl
 have rS:Rb 262144 (Nm.ofQ (a0v (M8 base.half base.t))):=(a5i rT).m rfl;have x1:=fb.1.mono (show xB 0<=64 by decide);have x2:=fb.2.1.mono (show xB 0<=64 by decide);have h0:FrS 0 (a1L base):=N;have g1:=a0y base.x (x1.m rfl);have g2:=a0y base.y (x2.m rfl);have g3:=a0y (Nm.ofQ (a2w base.half (M8 base.half base.t))) (rC.m rfl);have g4:=a0y (Nm.ofQ (a0v (M8 base.half base.t))) (rS.m rfl);rw[Nm.y8]at g3 g4;have hB:a1L base=⟨⟨Nm.d9 base.x,Nm.d9 base.x⟩,⟨Nm.d9 base.y,Nm.d9 base.y⟩,⟨a2w base.half (M8 base.half base.t),a2w base.half (M8 base.half base.t)⟩,⟨a0v (M8 base.half base.t),a0v (M8 base.half base.t)⟩⟩:=rfl;clear rT rC rS x1 x2;generalize a2w base.half (M8 base.half base.t)=co at*
 generalize a0v (M8 base.half base.t)=si at*;generalize Nm.d9 base.x=u1 at*;generalize Nm.d9 base.y=u2 at*;generalize a1L base=N0 at*;simp only[j4,TT,II,OA,OB,MM,LL,VV,FF];simp only[Am.c,Am.enc,lks,rq,rc,tc,Sp.c,Sn.c,Sn.enc,snQ,sb,ints]at h P hs g1 g2 g3 g4 ⊢;(repeat first|refine uA ?_|(refine uK ?_ ?_;focus first|omega|(intros;simp_all<;>omega))|simp(disch:=omega) only[go_sem,Nat.reduceAdd,d0d]|(refine uD h ?_ ?_ ?_;exact tz u;exact rfl));refine S.cond rfl (λhc=>by simp at hc) (λhc=>?_)
 (repeat first|refine uA ?_|(refine uK ?_ ?_;focus first|omega|(intros;simp_all<;>omega))|simp(disch:=omega) only[go_sem,Nat.reduceAdd,d0d]|(refine uD g1 ?_ ?_ ?_;exact tz u;exact rfl)|(refine uD g2 ?_ ?_ ?_;exact tz u;exact rfl)|(refine uD P ?_ ?_ ?_;exact tz u;exact rfl)|(refine uD g3 ?_ ?_ ?_;exact tz u;exact rfl)|(refine uD hs ?_ ?_ ?_;exact tz u;exact rfl)|(refine uD g4 ?_ ?_ ?_;exact tz u;exact rfl));refine S.loop (X:=Nat×Lq×List Lq) (λx=>⟨[(1,.sl 6 (q.map Sn.enc)),(8,.bp 2 0),(9,.rv 3),(43,lks links),(44,ints links.length),(45,ints x.1)],[.gone,.gone,.box 302 x.2.1.enc,.row 302 24 (x.2.2.map Lq.enc)]⟩)
  (λx=>x.1<=links.length/\x.2.2.length=x.1/\U9 N0 (links.zip (q.map I8))=x.2.2++U9 x.2.1 ((links.zip (q.map I8)).drop x.1)/\FrS x.1 x.2.1) (λx=>links.length-x.1) (0,N0,[]) ⟨d0k _,rfl,rfl,h0⟩ (Ent.trans (Ent.pack 9 302 24 rfl) (by simp only[hB,Lq.enc,Sp.enc,Sn.enc,snQ,sb,List.cons_append,List.nil_append];exact(by repeat first|refine uA ?_|refine⟨rfl,?_⟩|rfl|simp))) ?_
 rintro⟨i,n,M⟩ ⟨hi,ho,V,T⟩;clear h P hs g1 g2 g3 g4 hB h0;simp only at hi ho V T;simp only[lks,sb,ints,Lq.enc,Sp.enc,Sn.enc,snQ,List.cons_append,List.nil_append];(repeat first|refine uA ?_|(refine uK ?_ ?_;focus first|omega|(intros;simp_all<;>omega))|simp(disch:=omega) only[go_sem]);(refine uJ rfl (λhc=>?_) λhc=>?_)
 ·have aj:i<links.length:=by omega
  have J:=d0b aj;have I:=d0b (show i<q.length by omega);generalize links[i]=l at J;generalize q[i]'_=t at I;have ht:=hq t (d0g I);have R:=lb l (d0g J);have D:=a7S ht (by decide);have aa:=(b4V (t:=I8 t) (l:=l) (show i<3 by omega) T R).2;have ai:Zb 256 n.x/\Zb 256 n.y/\Zb 262144 n.c/\Zb 262144 n.s:=⟨T.x.mono (by omega),T.y.mono (by omega),T.cs.1,T.cs.2⟩
  have ac:(q.map I8)[i]?=some (I8 t):=by rw[d0q,I];rfl
  rw[drop_at (c9S J ac),U9]at V;have c1:=c7N t (I8 t) rfl (ht.m rfl);have s1:=c8d t (I8 t) rfl (ht.m rfl);have Y:=c7q D;have E:=c8h D;obtain⟨K,ab⟩:∃K,I8 t=K:=⟨_,rfl⟩
  rw[ab]at c1 s1 Y E aa V D;generalize Z:b0L K=F at*;generalize ae:b0C K=G at*;obtain⟨nx,H,A,B⟩:=n;obtain⟨b1,b2,U,W⟩:=ai;simp only at b1 b2 U W;have m1:=a2p A F (U.m rfl) (Y.m rfl);have m2:=a2p B G (W.m rfl) (E.m rfl);have v1:=Z6 U Y;have v2:=Z6 W E;have m3:=b7D _ _ (v1.m rfl) (v2.m rfl);have v3:=b2o v1 v2;have m4:=c4D _ (v3.m rfl);have v4:=c1U v3;have m5:=a2p B F (W.m rfl) (Y.m rfl);have m6:=a2p A G (U.m rfl) (E.m rfl);have v5:=Z6 W Y;have v6:=Z6 U E;have m7:=a5N _ _ (v5.m rfl) (v6.m rfl);have v7:=a4x v5 v6;have m8:=c4D _ (v7.m rfl);have v8:=c1U v7;have p1:=a4S R (by decide);have o1:=a0y l.length (R.m rfl)
  rw[show Sp.mk (Nm.d9 l.length) (Nm.d9 l.length)=ptS l.length from rfl]at o1;have m9:=a2p (ptS l.length) _ (p1.m rfl) (v4.m rfl);have ma:=a2p (ptS l.length) _ (p1.m rfl) (v8.m rfl);have v9:=Z6 p1 v4;have va:=Z6 p1 v8;have mb:=a5N nx _ (b1.m rfl) (v9.m rfl);have mc:=a5N H _ (b2.m rfl) (va.m rfl);have e1:a7a ⟨nx,H,A,B⟩ K=⟨nx,H,a2E (a3p (K7 A F) (K7 B G)),a2E (a0e (K7 B F) (K7 A G))⟩:=by rw[<- Z,<- ae];rfl
  have e2:b9B (a7a ⟨nx,H,A,B⟩ K) l=⟨a0e nx (K7 (ptS l.length) (a2E (a3p (K7 A F) (K7 B G)))),a0e H (K7 (ptS l.length) (a2E (a0e (K7 B F) (K7 A G)))),a2E (a3p (K7 A F) (K7 B G)),a2E (a0e (K7 B F) (K7 A G))⟩:=by rw[e1];rfl
  generalize b9B (a7a ⟨nx,H,A,B⟩ K) l=ak at*;generalize a7a ⟨nx,H,A,B⟩ K=af at*;clear v1 v2 v3 v4 v5 v6 v7 v8 v9 va b1 b2 U W Y E Z ae p1 T ac ab D;generalize K7 A F=w1 at*;generalize K7 B G=w2 at*;generalize K7 B F=w3 at*;generalize K7 A G=w4 at*;generalize a3p w1 w2=w5 at*;generalize a0e w3 w4=w6 at*;generalize a2E w5=w7 at*;generalize a2E w6=w8 at*;generalize ptS l.length=w9 at*;generalize K7 w9 w7=wa at*;generalize K7 w9 w8=wb at*;generalize a0e nx wa=wc at*;generalize a0e H wb=wd at*;subst e1 e2;have am:(i:Int)<q.length:=by omega
  simp only[Sp.c,Sn.c,Sn.enc,snQ,rc,sb]at c1 s1 m1 m2 m3 m4 m5 m6 m7 m8 o1 m9 ma mb mc
  (repeat first|refine uA ?_|(refine uK ?_ ?_;focus first|omega|(intros;simp_all<;>omega))|simp(disch:=omega) only[go_sem,Nat.reduceAdd,ww,J,I,d0e,d0d,Lk.enc,Sn.enc,vts,sb,ho,d0h]|(refine uD c1 ?_ ?_ ?_;exact tz u;exact rfl)|(refine uD s1 ?_ ?_ ?_;exact tz u;exact rfl)|(refine uD m1 ?_ ?_ ?_;exact tz u;exact rfl)|(refine uD m2 ?_ ?_ ?_;exact tz u;exact rfl)|(refine uD m3 ?_ ?_ ?_;exact tz u;exact rfl)|(refine uD m4 ?_ ?_ ?_;exact tz u;exact rfl)|(refine uD m5 ?_ ?_ ?_;exact tz u;exact rfl)|(refine uD m6 ?_ ?_ ?_;exact tz u;exact rfl)|(refine uD m7 ?_ ?_ ?_;exact tz u;exact rfl)|(refine uD m8 ?_ ?_ ?_;exact tz u;exact rfl)|(refine uD o1 ?_ ?_ ?_;exact tz u;exact rfl)|(refine uD m9 ?_ ?_ ?_;exact tz u;exact rfl)|(refine uD ma ?_ ?_ ?_;exact tz u;exact rfl)|(refine uD mb ?_ ?_ ?_;exact tz u;exact rfl)|(refine uD mc ?_ ?_ ?_;exact tz u;exact rfl));refine S.next (x:=(i,⟨nx,H,A,B⟩,M)) (i+1,⟨wc,wd,w7,w8⟩,M++[⟨nx,H,w7,w8⟩]) ⟨by simp only;omega,by simp only[d0c,ho];rfl,by simp only;rw[V,d0o];rfl,aa⟩ (by simp only;omega) (by simp only[d0u,d0l,d0p,Lq.enc,Sp.enc,Sn.enc,snQ,sb,List.cons_append,List.nil_append];exact(by(repeat first|refine uA ?_|(refine⟨?_,?_⟩;focus first|rfl|simp[slot])|rfl|simp)))
 ·rw[List.drop_eq_nil_of_le (by rw[List.length_zip,d0d];omega),U9]at V;rw[V];(repeat first|refine uA ?_|(refine uK ?_ ?_;focus first|omega|(intros;simp_all<;>omega))|simp(disch:=omega) only[go_sem,Nat.reduceAdd,d0d]);simp only[d0u,d0l,d0p,Lq.enc,Sp.enc,Sn.enc,snQ,sb,List.cons_append,List.nil_append]
  (exact uQ rfl (Imp.tup (by(repeat' (first|exact j3.nil|exact Imp.refl rfl|exact Imp.frz rfl rfl rfl|exact Imp.D8|refine Imp.agg ?_|refine j3.cons ?_ ?_)))) rfl rfl)
def b4f{f:Lq}{v:Vt}(h:Zl 256 f)(D:Rb 8 v.x)(B:Rb 8 v.y):Zb 1200 (atX f v)/\Zb 1200 (atY f v):=by
 have A:=a4S D (by decide);have u:=a4S B (by decide);exact⟨(a4x h.1 (b2o (Z6 A h.2.2.1) (Z6 u h.2.2.2))).m rfl,(a4x h.2.1 (a4x (Z6 A h.2.2.2) (Z6 u h.2.2.1))).m rfl⟩
theorem b6w{f:Lq}(B:Zl 256 f):∀(r:List Vt) (s:Sp×Sp),Zb 1200 s.1/\Zb 1200 s.2->(∀v∈r,Rb 8 v.x/\Rb 8 v.y)->Zb 1200 (ptI f s r).1/\Zb 1200 (ptI f s r).2
 | [],_,h,_=>h
 | v::r,s,h,hr=>by
  have hv:=hr v (by simp);have A:=b4f B hv.1 hv.2;exact b6w B r _ ⟨a4J h.1 A.1,a4J h.2 A.2⟩ λu D=>hr u (by simp[D])
def b2N(a:Am)(q:List Sn)(M:Ab 1073741824 a)(I:J2 a=0)(B:q.length=a.links.length)(N:∀r∈q,Zr 16000000 r):FZ 159 [a.c,.sl 6 (q.map Sn.enc)] (.tup [.sl 12 ((a3g a (q.map I8)).map Bq.enc),ints 0]):=by
 refine kW Tryz.func159 (by cbv) (by rfl) λw O G=>?_;have h:=b3d a q M I B N;have W:(U9 (a1L a.base) (a.links.zip (q.map I8))).length<=1000:=by rw[a4d,List.length_zip,d0d];have:=(P9 I).2;omega
 unfold a3g;generalize U9 (a1L a.base) (a.links.zip (q.map I8))=T at*;obtain⟨J,E,links⟩:=a;simp only[j4,TT,II,OA,OB,MM,LL];simp only[Am.c,Am.enc,lks,sb,ints]at h ⊢
 (repeat first|refine uA ?_|(refine uK ?_ ?_;focus first|omega|(intros;simp_all<;>omega))|simp(disch:=omega) only[go_sem,Nat.reduceAdd]|(refine uD h ?_ ?_ ?_;exact tz G;exact rfl));refine S.loop (X:=Nat) (λi=>⟨[(7,ints 0),(8,.rv 1),(17,.sl 24 (T.map Lq.enc)),(18,ints T.length),(19,ints i)],[.gone,.row 89 12 (((T.take i).map b2x).map Bq.enc)]⟩) (λi=>i<=T.length) (λi=>T.length-i) 0 (d0k _) (Ent.trans (Ent.pack 8 89 12 rfl) (by(repeat first|refine uA ?_|(refine⟨?_,?_⟩;focus first|rfl|simp[slot])|rfl|simp))) ?_
 intro i hi;clear h;simp only[ints];(repeat first|refine uA ?_|(refine uK ?_ ?_;focus first|omega|(intros;simp_all<;>omega))|simp(disch:=omega) only[go_sem]);(refine uJ rfl (λK=>?_) λK=>?_)
 ·have u:i<T.length:=by omega
  have H:=d0b u;generalize T[i]=l at*;have A:=take_at H;have D:(T.take i).length=i:=by rw[d0r];omega
  have F:=c8R l;obtain⟨⟨U,P⟩,⟨R,Z⟩,⟨c1,c2⟩,⟨Y,V⟩⟩:=l;simp only[b2x,Bq.enc,Lq.enc,Sp.enc,Sn.enc,snQ,sb,List.cons_append,List.nil_append]at F;(repeat first|refine uA ?_|(refine uK ?_ ?_;focus first|omega|(intros;simp_all<;>omega))|simp(disch:=omega) only[go_sem,Nat.reduceAdd,ww,H,d0e,d0d,D,Lq.enc,Sp.enc,Sn.enc,snQ,sb,List.cons_append,List.nil_append,d0h]|(refine uD F ?_ ?_ ?_;exact tz G;exact rfl));refine S.next (i+1) (by omega) (by omega) (by simp only[A,d0u,d0l,d0p,b2x,Bq.enc,sb];exact(by(repeat first|refine uA ?_|(refine⟨?_,?_⟩;focus first|rfl|simp[slot])|rfl|simp)))
 ·have u:i=T.length:=by omega
  subst u;rw[d0w];(repeat first|refine uA ?_|(refine uK ?_ ?_;focus first|omega|(intros;simp_all<;>omega))|simp(disch:=omega) only[go_sem]);(exact uQ rfl (Imp.tup (by(repeat' (first|exact j3.nil|exact Imp.refl rfl|exact Imp.frz rfl rfl rfl|exact Imp.D8|refine Imp.agg ?_|refine j3.cons ?_ ?_)))) rfl rfl)
def a5y{E:Ctx}(hP:E.P=Tryz.prog)(ak:Tz E)(a:Am)(q:List Sn)(hl:Ab 1073741824 a)(K:J2 a=0)(ag:q.length=a.links.length)(hq:∀r∈q,Zr 16000000 r):l5 E [] 158 [a.c,.sl 6 (q.map Sn.enc)] (.tup [.rv 1,ints 0]) [.gone,.row 89 12 ((a3E (U9 (a1L a.base) (a.links.zip (q.map I8))) a.links).map Bq.enc)] []:=by
 obtain⟨P,am,N,w0,an,aw,au,ap⟩:=E;simp only at hP;subst hP;refine l5.ofT (eff:=eff) ak Tryz.func158 (by cbv) (by exact d0n rfl) λw' own av ν aj Z=>?_;have A:ν.length<=0:=by rw[aj];exact d0m _
 have h:=b3d a q hl K ag hq;have hn:(U9 (a1L a.base) (a.links.zip (q.map I8))).length=a.links.length+1:=by rw[a4d,List.length_zip,d0d];omega
 have hb:=a8H (a.links.zip (q.map I8)) 0 (a1L a.base) (by rw[List.length_zip];have:=(P9 K).2;omega) (by rw[List.length_zip,d0d];have:=(P9 K).1;omega) (b1t K) (λz hz=>(a7V K).2 _ (List.of_mem_zip hz).1);have O:=λl hm=>b1V ((R9 K).2 l hm);have af:=(P9 K).2;generalize U9 (a1L a.base) (a.links.zip (q.map I8))=T at*;have ai:(a3E T a.links).length=a.links.length:=by unfold a3E;rw[d0d,List.length_zip];omega
 have U:∀{i:Nat} {l:Lk} {f:Lq},a.links[i]?=some l->T[i]?=some f->(a3E T a.links)[i]?=some (shB f l):=λh1 h2=>by
  unfold a3E;rw[d0q,M5 h1 h2];rfl
 generalize a3E T a.links=R at*;obtain⟨ao,base,links⟩:=a;simp only at hn af ai U O;simp only[j4,TT,II,OA,OB,MM,LL,VV,FF];simp only[Am.c,Am.enc,lks,sb,ints]at h ⊢;(repeat first|refine uA ?_|(refine uK ?_ ?_;focus first|omega|(intros;simp_all<;>omega))|simp(disch:=omega) only[go_sem,Nat.reduceAdd]|(refine uD h ?_ ?_ ?_;exact Z;exact rfl));refine S.cond rfl (λhc=>by simp at hc) (λhc=>?_)
 (repeat first|refine uA ?_|(refine uK ?_ ?_;focus first|omega|(intros;simp_all<;>omega))|simp(disch:=omega) only[go_sem,Nat.reduceAdd,d0d]);refine S.loop (X:=Nat) (λi=>⟨[(6,.sl 24 (T.map Lq.enc)),(8,.rv 1),(27,lks links),(28,ints links.length),(29,ints i)],[.gone,.row 89 12 ((R.take i).map Bq.enc)]⟩) (λi=>i<=links.length) (λi=>links.length-i) 0 (d0k _) (Ent.trans (Ent.pack 8 89 12 rfl) (by(repeat first|refine uA ?_|(refine⟨?_,?_⟩;focus first|rfl|simp[slot])|rfl|simp|exact d0f A (by simp)))) ?_
 intro i hi;clear h;simp only[lks,ints];(repeat first|refine uA ?_|(refine uK ?_ ?_;focus first|omega|(intros;simp_all<;>omega))|simp(disch:=omega) only[go_sem]);(refine uJ rfl (λhc=>?_) λhc=>?_)
 ·have V:i<links.length:=by omega
  have W:=d0b V;have F:=d0b (show i<T.length by omega);generalize links[i]=l at*;generalize T[i]'_=f at*;have D:=take_at (U W F);have ah:(R.take i).length=i:=by rw[d0r];omega
  have bf:=hb f (d0g F);obtain⟨s1,s2,s3⟩:=O l (d0g W);unfold shB at D;obtain⟨len,aq,al,zs,ar,ae⟩:=l;cases ae with
  | nil=>simp at s1
  | cons v r=>
  simp only[d0j]at s1 s2 s3 D;have hv:=s3 v (by simp);have hr:=λu B=>s3 u (List.mem_cons_of_mem v B);have o1:=b8j f v (bf.m rfl) (hv.1.m rfl) (hv.2.m rfl);have b1:=b4f bf hv.1 hv.2;have aa:=λu B=>b8j f u (bf.m rfl) ((hr u B).1.m rfl) ((hr u B).2.m rfl);have Y:=λu B=>b4f bf (hr u B).1 (hr u B).2;have G:=λj=>b6w bf (r.take j) (atX f v,atY f v) b1 (λu B=>hr u (List.mem_of_mem_take B));have H:=λj u=>c2C f (atX f v,atY f v) (r:=r) (i:=j) (v:=u);have J:ptI f (atX f v,atY f v) (r.take 0)=(atX f v,atY f v):=rfl;have ab:ptI f (atX f v,atY f v) r=ptI f (atX f v,atY f v) (r.take r.length):=by rw[d0w]
  rw[ab]at D;generalize hP:(λj=>ptI f (atX f v,atY f v) (r.take j))=P;have ac:∀j,ptI f (atX f v,atY f v) (r.take j)=P j:=λj=>by rw[<- hP]
  simp only[ac]at G H J D;clear hP ac ab O U b1 hv hr bf s3;simp only[Vt.enc,Lq.enc,Sp.enc,Sp.c,Sn.c,Sn.enc,snQ,sb,List.cons_append,List.nil_append]at o1
  (repeat first|refine uA ?_|(refine uK ?_ ?_;focus first|omega|(intros;simp_all<;>omega))|simp(disch:=omega) only[go_sem,Nat.reduceAdd,W,F,d0e,d0d,Lk.enc,Lq.enc,Sp.enc,Sn.enc,snQ,vts,Vt.enc,sb,d0l,d0j,List.getElem?_cons_zero,List.cons_append,List.nil_append,Nat.add_sub_cancel,d0w,d0h,Int.toNat_zero]|(refine uD o1 ?_ ?_ ?_;exact Z;exact rfl));refine S.loop (X:=Nat) (λj=>⟨[(6,.sl 24 (T.map Lq.enc)),(8,.rv 1),(9,ints i),(11,.bp 3 0),(12,.bp 4 0),(27,lks links),(28,ints links.length),(29,ints i),(48,vts r),(49,ints r.length),(50,ints j)],[.gone,.row 89 12 ((R.take i).map Bq.enc),.gone,.box 252 (P j).1.enc,.box 252 (P j).2.enc]⟩) (λj=>j<=r.length) (λj=>r.length-j) 0 (d0k _) (by rw[J];simp only[Sp.enc,Sn.enc,snQ,sb];exact(by(repeat first|refine uA ?_|(refine⟨?_,?_⟩;focus first|rfl|simp[slot])|rfl|simp|exact d0f A (by simp)))) ?_
  intro j hj;clear o1 J;simp only[lks,vts,ints,Sp.enc,Sn.enc,snQ,sb];(repeat first|refine uA ?_|(refine uK ?_ ?_;focus first|omega|(intros;simp_all<;>omega))|simp(disch:=omega) only[go_sem]);(refine uJ rfl (λhc=>?_) λhc=>?_)
  ·have M:j<r.length:=by omega
   have I:=d0b M;generalize r[j]=u at*;have B:=d0g I;have k1:=aa u B;have k2:=a6I (P j).1 (atX f u) ((G j).1.m rfl) ((Y u B).1.m rfl);have k3:=a6I (P j).2 (atY f u) ((G j).2.m rfl) ((Y u B).2.m rfl);have hs:=H j u I;clear aa Y G H;generalize U6 (P j).1 (atX f u)=y1 at*;generalize U6 (P j).2 (atY f u)=y2 at*;generalize atX f u=y3 at*;generalize atY f u=y4 at*;simp only[Vt.enc,Lq.enc,Sp.enc,Sp.c,Sn.c,Sn.enc,snQ,sb,List.cons_append,List.nil_append]at k1 k2 k3
   (repeat first|refine uA ?_|(refine uK ?_ ?_;focus first|omega|(intros;simp_all<;>omega))|simp(disch:=omega) only[go_sem,Nat.reduceAdd,ww,I,F,d0e,d0d,Lq.enc,Sp.enc,Sn.enc,snQ,Vt.enc,sb,d0l,d0j,List.getElem?_cons_zero,List.cons_append,List.nil_append,d0h]|(refine uD k1 ?_ ?_ ?_;exact Z;exact rfl)|(refine uD k2 ?_ ?_ ?_;exact Z;exact rfl)|(refine uD k3 ?_ ?_ ?_;exact Z;exact rfl));refine S.next (j+1) (by omega) (by omega) (by rw[hs];simp only[Sp.enc];exact(by(repeat first|refine uA ?_|(refine⟨?_,?_⟩;focus first|rfl|simp[slot])|rfl|simp|exact d0f A (by simp))))
  ·have M:j=r.length:=by omega
   subst M;have k:=c7Y (P r.length).1 (P r.length).2;generalize P r.length=p at*;simp only[Bq.enc,Sp.enc,Sn.enc,snQ,sb,List.cons_append,List.nil_append]at k;(repeat first|refine uA ?_|(refine uK ?_ ?_;focus first|omega|(intros;simp_all<;>omega))|simp(disch:=omega) only[go_sem,Nat.reduceAdd,ww,ah,d0d,d0l,d0j,List.getElem?_cons_zero,List.cons_append,List.nil_append]|(refine uD k ?_ ?_ ?_;exact Z;exact rfl));refine S.next (i+1) (by omega) (by omega) (by simp only[D,d0u,d0l,d0p,Bq.enc,sb];exact(by(repeat first|refine uA ?_|(refine⟨?_,?_⟩;focus first|rfl|simp[slot])|rfl|simp|exact d0f A (by simp))))
 ·have V:i=links.length:=by omega
  subst V;rw[d0y (by omega)];(repeat first|refine uA ?_|(refine uK ?_ ?_;focus first|omega|(intros;simp_all<;>omega))|simp(disch:=omega) only[go_sem]);(exact uR rfl (Imp.tup (by(repeat' (first|exact j3.nil|exact Imp.refl rfl|exact Imp.frz rfl rfl rfl|exact Imp.D8|refine Imp.agg ?_|refine j3.cons ?_ ?_)))) (by(repeat first|refine uA ?_|(refine⟨?_,?_⟩;focus first|rfl|simp[slot])|rfl|simp)) (d0f A (by simp)))
def b8b{a:Am}{q:List Sn}(hql:q.length=a.links.length)(ha:J2 a=0)(hq:∀r∈q,Zr 16000000 r):∀b∈a2u a (q.map I8),Bb 1200 b:=λb G=>by
 have J:=a8H (a.links.zip (q.map I8)) 0 (a1L a.base) (by rw[List.length_zip];have:=(P9 ha).2;omega) (by rw[List.length_zip,d0d];have:=(P9 ha).1;omega) (b1t ha) (λz B=>(a7V ha).2 _ (List.of_mem_zip B).1);obtain⟨z,B,rfl⟩:=List.mem_map.1 G;have I:=(List.of_mem_zip B).1;have F:=J _ (List.of_mem_zip B).2;obtain⟨E,K,D⟩:=b1V ((R9 ha).2 _ I);unfold shB;split
 ·rename_i h;rw[h]at E;simp at E
 ·rename_i v r h;have A:=b6w F r (atX z.2 v,atY z.2 v) (b4f F (D v (by rw[h];simp)).1 (D v (by rw[h];simp)).2) (λu H=>D u (by rw[h];exact List.mem_cons_of_mem v H));exact⟨A.1.1,A.2.1,A.1.2,A.2.2⟩
def b2z{a:Am}{q:List Sn}(u:J2 a=0)(A:q.length=a.links.length)(G:∀r∈q,Zr 16000000 r):Bb 256 (a9s a (q.map I8)):=by
 have D:=a8H (a.links.zip (q.map I8)) 0 (a1L a.base) (by rw[List.length_zip];have:=(P9 u).2;omega) (by rw[List.length_zip,d0d];have:=(P9 u).1;omega) (b1t u) (λz h=>(a7V u).2 _ (List.of_mem_zip h).1);have B:=d0g (b2E (a:=a) (Q:=q.map I8) (by rw[d0d];exact A)).1;unfold a3g at B;obtain⟨f,E,F⟩:=List.mem_map.1 B;have h:=D f E;rw[<- F];exact⟨h.1.1,h.2.1.1,h.1.2,h.2.1.2⟩
def b9u(w:Wk)(n:Nat)(a:Am)(q:List Sn)(A:Wb 1073741824 w)(D:w.arms[n]?=some a)(T:J2 a=0)(F:q.length=a.links.length)(hq:∀r∈q,Zr 16000000 r) :
  FZ 235 [w.c,ints n,ints (-1),.sl 6 (q.map Sn.enc)] (.tup [.sl 12 ((a2u a (q.map I8)).map Bq.enc),ints 0]):=by
 refine kW Tryz.func235 (by cbv) (by rfl) λw' O U=>?_;have Z:=A.arms.2 a (d0g D);have h:=λ(E:Ctx) (hP:E.P=Tryz.prog) (ht:Tz E)=>a5y hP ht a q Z T F hq;have hn:=(d0i.1 D).1;have V:=A.arms.1;have X:=A.parts.1;change ∀E:Ctx,E.P=Tryz.prog->Tz E->l5 E [] 158 [a.c,.sl 6 (q.map Sn.enc)] (.tup [.rv 1,ints 0]) [.gone,.row 89 12 ((a2u a (q.map I8)).map Bq.enc)] []at h;generalize a2u a (q.map I8)=R at*;obtain⟨arms,G,u,I,H,K⟩:=w;obtain⟨M,⟨bx,W,J,tu⟩,links⟩:=a;simp only at D hn V X;have e1:decide ((n:Int)<0)=false:=decide_eq_false (by omega);have N:decide ((arms.length:Int)<=(n:Int))=false:=decide_eq_false (by omega)
 have Y:decide ((u.length:Int)<=-1)=false:=decide_eq_false (by omega);simp only[j4,TT,II,OA,OB,OC,MM,LL,VV,FF,MG,VG,FG];simp only[Wk.c,Wk.enc,Am.c,Am.enc,ams,wls,pts,sls,gts,lks,sb,ints]at h ⊢;(repeat first|refine uA ?_|(refine uK ?_ ?_;focus first|omega|(intros;simp_all<;>omega))|simp(disch:=omega) only[go_sem,Nat.reduceAdd,d0d,e1,N,Y]);refine S.cond rfl (λB=>by simp at B) (λB=>?_)
 (repeat first|refine uA ?_|(refine uK ?_ ?_;focus first|omega|(intros;simp_all<;>omega))|simp(disch:=omega) only[go_sem,Nat.reduceAdd,C.sh,C.shL,d0j,List.length_nil,d0d,d0q,D,d0e,d0h,Am.enc,lks,sb]|refine j5.t (l5.pre (h _ rfl ⟨U,id⟩) rfl rfl rfl) ?_);refine S.cond rfl (λB=>?_) (λB=>by simp at B)
 (repeat first|refine uA ?_|(refine uK ?_ ?_;focus first|omega|(intros;simp_all<;>omega))|simp(disch:=omega) only[go_sem]);(exact uQ rfl (Imp.tup (by(repeat' (first|exact j3.nil|exact Imp.refl rfl|exact Imp.frz rfl rfl rfl|exact Imp.D8|refine Imp.agg ?_|refine j3.cons ?_ ?_)))) rfl rfl)
def b9z(w:Wk)(n k:Nat)(a:Am)(p:Pt)(q:List Sn)(V:Wb 1048576 w)(ga:w.arms[n]?=some a)(gp:w.parts[k]?=some p)(ha:J2 a=0)(H:q.length=a.links.length)(hq:∀r∈q,Zr 16000000 r) :
  FZ 235 [w.c,ints n,ints k,.sl 6 (q.map Sn.enc)] (.tup [.sl 12 ((a2u a (q.map I8)++[a4U (a9s a (q.map I8)) (a1X p.grasp p.shape)]).map Bq.enc),ints 0]):=by
 refine kW Tryz.func235 (by cbv) (by rfl) λw' O K=>?_;have hl:=(V.mono (show 1048576<=1073741824 by decide)).arms.2 a (d0g ga);have h:=λ(E:Ctx) (hP:E.P=Tryz.prog) (ht:Tz E)=>a5y hP ht a q hl ha H hq;have hn:=(d0i.1 ga).1;have hk:=(d0i.1 gp).1;have n1:=V.arms.1;have n2:=V.parts.1;obtain⟨pn,ps,Z⟩:=V.parts.2 p (d0g gp);have hf:=b2N a q hl ha H hq;obtain⟨ac,ah⟩:=b2E (a:=a) (Q:=q.map I8) (by rw[d0d];exact H);have U:=b2z ha H hq;have ai:=(P9 ha).2;have am:=b0P (a:=a) (q:=q.map I8) (by rw[d0d];exact H);have hz:=a4e
 change ∀E:Ctx,E.P=Tryz.prog->Tz E->l5 E [] 158 [a.c,.sl 6 (q.map Sn.enc)] (.tup [.rv 1,ints 0]) [.gone,.row 89 12 ((a2u a (q.map I8)).map Bq.enc)] []at h;generalize a2u a (q.map I8)=R at*;generalize a3g a (q.map I8)=T at*;generalize a9s a (q.map I8)=Y at*;obtain⟨arms,an,parts,ak,aj,ap⟩:=w;obtain⟨aq,⟨bx,zs,ao,tu⟩,links⟩:=a;obtain⟨J,u,⟨A,B,M,G⟩⟩:=p;simp only at ga gp hn hk n1 n2 ac ah ai am pn ps Z ⊢;have au:u.length<=1048576:=ps.1;have D:=λi=>b0Z (g:=⟨A,B,M,G⟩) Z.1 Z.2.1 (u.take i) 0 (λv hv=>ps.2 v (List.mem_of_mem_take hv)) (a1j.m rfl);change ∀i,Rb 4194400 (Nm.ofQ (a1X ⟨A,B,M,G⟩ (u.take i)))at D
 have W:=λ(i:Nat) (c:Vt) (h:u[i]?=some c)=>b3y ⟨A,B,M,G⟩ h;have ab:a1X ⟨A,B,M,G⟩ (u.take 0)=0:=rfl;have af:a1X ⟨A,B,M,G⟩ u=a1X ⟨A,B,M,G⟩ (u.take u.length):=by rw[d0w]
 rw[af];generalize hF:(λi=>a1X ⟨A,B,M,G⟩ (u.take i))=F;have ag:∀i,a1X ⟨A,B,M,G⟩ (u.take i)=F i:=λi=>by rw[<- hF]
 simp only[ag]at D W ab ⊢;clear hF ag af;have e1:decide ((n:Int)<0)=false:=decide_eq_false (by omega);have e2:decide ((arms.length:Int)<=(n:Int))=false:=decide_eq_false (by omega);have e3:decide ((parts.length:Int)<=(k:Int))=false:=decide_eq_false (by omega);have e4:decide ((k:Int) < -1)=false:=decide_eq_false (by omega);have e5:decide ((k:Int)<0)=false:=decide_eq_false (by omega);have e6:decide ((T.length:Int)=0)=false:=decide_eq_false (by omega);simp only[j4,TT,II,OA,OB,OC,MM,LL,VV,FF,MG,VG,FG];simp only[Wk.c,Wk.enc,Am.c,Am.enc,ams,wls,pts,sls,gts,lks,sb,ints]at h hf ⊢
 (repeat first|refine uA ?_|(refine uK ?_ ?_;focus first|omega|(intros;simp_all<;>omega))|simp(disch:=omega) only[go_sem,Nat.reduceAdd,d0d,e1,e2,e3,e4]);refine S.cond rfl (λN=>by simp at N) (λN=>?_)
 (repeat first|refine uA ?_|(refine uK ?_ ?_;focus first|omega|(intros;simp_all<;>omega))|simp(disch:=omega) only[go_sem,Nat.reduceAdd,C.sh,C.shL,d0j,List.length_nil,d0d,d0q,ga,d0e,d0h,Am.enc,lks,sb,e5]|refine j5.t (l5.pre (h _ rfl ⟨K,id⟩) rfl rfl rfl) ?_);refine S.cond rfl (λN=>by simp[e5]at N) (λN=>?_)
 (repeat first|refine uA ?_|(refine uK ?_ ?_;focus first|omega|(intros;simp_all<;>omega))|simp(disch:=omega) only[go_sem,Nat.reduceAdd,d0d,d0q,ga,d0e,d0h,Am.enc,lks,sb,e6]|(refine uD hf ?_ ?_ ?_;exact tz K;exact rfl));refine S.cond rfl (λN=>by simp[e6]at N) (λN=>?_)
 unfold rq at hz;simp only[rc,sb]at hz
 (repeat first|refine uA ?_|(refine uK ?_ ?_;focus first|omega|(intros;simp_all<;>omega))|simp(disch:=omega) only[go_sem,Nat.reduceAdd,d0d,d0q,gp,d0e,d0h,Pt.enc,vts,sb]|(refine uD hz ?_ ?_ ?_;exact tz K;exact rfl));refine S.loop (X:=Nat) (λi=>⟨[(10,.rv 2),(12,.sl 12 (T.map Bq.enc)),(13,.bp 3 0),(14,.bp 4 0),(81,vts u),(82,ints u.length),(83,ints i)],[.gone,.gone,.row 89 12 (R.map Bq.enc),.box 81 (Pt.mk J u ⟨A,B,M,G⟩).enc,.box 29 (rcs (Nm.ofQ (F i)))]⟩) (λi=>i<=u.length) (λi=>u.length-i) 0 (d0k _) (by rw[ab];simp only[Pt.enc,vts,rcs,sb];exact(by(repeat first|refine uA ?_|(refine⟨?_,?_⟩;focus first|rfl|simp[slot])|rfl|simp))) ?_
 intro i hi;clear h hf hz ab;simp only[Pt.enc,vts,rcs,sb,ints];(repeat first|refine uA ?_|(refine uK ?_ ?_;focus first|omega|(intros;simp_all<;>omega))|simp(disch:=omega) only[go_sem]);(refine uJ rfl (λN=>?_) λN=>?_)
 ·have aa:i<u.length:=by omega
  have hg:=d0b aa;generalize u[i]=c at hg;have I:=ps.2 c (d0g hg);have ae:=W i c hg;have hb:=D i;have b1:=R6 (I.1.g rfl) (Z.1.g rfl);have b2:=R6 (I.2.g rfl) (Z.2.1.g rfl);have b3:=O4 (a0j b1) (a0j b2);have o1:=a5c c.x A (I.1.m rfl) (Z.1.m rfl);have o2:=a5c c.y B (I.2.m rfl) (Z.2.1.m rfl);have o3:=a2W (Nm.ofQ (Nm.d9 c.x-Nm.d9 A)) (b1.m rfl);have o4:=a2W (Nm.ofQ (Nm.d9 c.y-Nm.d9 B)) (b2.m rfl);rw[Nm.y8]at o3 o4;have o5:=a3l (q9 (Nm.d9 c.x-Nm.d9 A)) (q9 (Nm.d9 c.y-Nm.d9 B)) ((a0j b1).m rfl) ((a0j b2).m rfl);have o6:=a6k (Nm.ofQ (F i)) (Nm.ofQ (q9 (Nm.d9 c.x-Nm.d9 A)+q9 (Nm.d9 c.y-Nm.d9 B))) (hb.m rfl) (b3.m rfl);rw[Nm.y8,Nm.y8,<- ae]at o6
  clear ae hb b1 b2 b3 I W D;generalize Nm.d9 c.x-Nm.d9 A=d1 at*;generalize Nm.d9 c.y-Nm.d9 B=d2 at*;generalize q9 d1+q9 d2=d5 at*;generalize q9 d1=d3 at*;generalize q9 d2=d4 at*;generalize F i=f0 at*;generalize al:F (i+1)=f1 at*;obtain⟨cx,cy⟩:=c;simp only[rq,rc,sb]at o1 o2 o3 o4 o5 o6;(repeat first|refine uI ?_|(refine uK ?_ ?_;focus first|omega|(intros;simp_all<;>omega))|simp(disch:=omega) only[go_sem,Nat.reduceAdd,hg,d0e,d0d,d0q,Vt.enc,sb,d0h])
  refine S.a1d [.gone,.gone,.gone,.box 81 [.v (.string (bs J)),.sl 6 (u.map Vt.enc),.v (.bool A.neg),.v (.string (bs A.num)),.v (.string (bs A.den)),.v (.bool B.neg),.v (.string (bs B.num)),.v (.string (bs B.den)),.v (.bool M),.v (.bool G.neg),.v (.string (bs G.num)),.v (.string (bs G.den))],.gone,.box 66 [.v (.bool cx.neg),.v (.string (bs cx.num)),.v (.string (bs cx.den)),.v (.bool cy.neg),.v (.string (bs cy.num)),.v (.string (bs cy.den))]] (by simp[Eng.J7,Eng.Q6]) ?_
  (repeat first|refine uA ?_|(refine uK ?_ ?_;focus first|omega|(intros;simp_all<;>omega))|simp(disch:=omega) only[go_sem,Nat.reduceAdd,ww,Eng.Q6]|(refine uD o1 ?_ ?_ ?_;exact tz K;exact rfl)|(refine uD o3 ?_ ?_ ?_;exact tz K;exact rfl)|(refine uD o2 ?_ ?_ ?_;exact tz K;exact rfl)|(refine uD o4 ?_ ?_ ?_;exact tz K;exact rfl)|(refine uD o5 ?_ ?_ ?_;exact tz K;exact rfl)|(refine uD o6 ?_ ?_ ?_;exact tz K;exact rfl));refine S.next (i+1) (by omega) (by omega) (by rw[al];exact(by(repeat first|refine uA ?_|(refine⟨?_,?_⟩;focus first|rfl|simp[slot])|rfl|simp)))
 have aa:i=u.length:=by omega
 subst aa;have o7:=c6Z Y (F u.length) ⟨U.1.m rfl,U.2.1.m rfl,U.2.2.1.m rfl,U.2.2.2.m rfl⟩ ((D _).m rfl);clear D W;generalize F u.length=f0 at*;generalize a4U Y f0=gb at*;have e7:((T.length:Int)-1).toNat=links.length:=by omega
 have e8:(0:Int)<=(T.length:Int)-1/\(T.length:Int)-1<T.length:=by omega
 obtain⟨tx,ty,av,ar⟩:=Y;obtain⟨g1,g2,g3,g4⟩:=gb;simp only[Bq.enc,rq,rc,sb]at o7;(repeat first|refine uI ?_|(refine uK ?_ ?_;focus first|omega|(intros;simp_all<;>omega))|simp(disch:=omega) only[go_sem,Nat.reduceBEq,Nat.reduceAdd,ww]);refine S.a1d [.gone,.gone,.gone,.gone,.box 29 [.v (.bool (Nm.ofQ f0).neg),.v (.string (bs (Nm.ofQ f0).num)),.v (.string (bs (Nm.ofQ f0).den))]] (by simp[Eng.J7,Eng.Q6]) ?_;(repeat first|refine uA ?_|(refine uK ?_ ?_;focus first|omega|(intros;simp_all<;>omega))|simp(disch:=omega) only[go_sem,Nat.reduceAdd,ww,Eng.Q6,d0d,d0q,ac,e7,d0e,Bq.enc,sb]|(refine uD o7 ?_ ?_ ?_;exact tz K;exact rfl));simp only[d0u,d0l,d0p,Bq.enc,sb]
 (exact uQ rfl (Imp.tup (by(repeat' (first|exact j3.nil|exact Imp.refl rfl|exact Imp.frz rfl rfl rfl|exact Imp.D8|refine Imp.agg ?_|refine j3.cons ?_ ?_)))) rfl rfl)
def b9m(w:Wk)(n:Nat)(a:Am)(q:List Sn)(u:Wb 1073741824 w)(B:w.arms[n]?=some a)(N:J2 a=0)(F:q.length=a.links.length)(X:∀r∈q,Zr 16000000 r) :
  FZ 119 [w.c,ints n,ints (-1),.sl 6 (q.map Sn.enc)] (.tup [.sl 12 ((a2u a (q.map I8)).map Bq.enc),ints 0]):=by
 refine a0w.of (eff:=c7F) Tryz.func119 (by cbv) (by exact d0n rfl) λw' O T=>?_;have W:=u.arms.2 a (d0g B);have h:=λ(E:Ctx) (hP:E.P=Tryz.prog) (ht:Tz E)=>a5y hP ht a q W N F X;have Y:=(d0i.1 B).1;have U:=u.arms.1;change ∀E:Ctx,E.P=Tryz.prog->Tz E->l5 E [] 158 [a.c,.sl 6 (q.map Sn.enc)] (.tup [.rv 1,ints 0]) [.gone,.row 89 12 ((a2u a (q.map I8)).map Bq.enc)] []at h;generalize a2u a (q.map I8)=R at*;obtain⟨arms,G,D,I,H,K⟩:=w;obtain⟨M,⟨Z,V,J,tu⟩,links⟩:=a;simp only at B Y U;simp only[j4,TT,II,OA,OB,OC,MM,LL,VV,FF,MG];simp only[Wk.c,Wk.enc,Am.c,Am.enc,ams,wls,pts,sls,gts,lks,sb,ints]at h ⊢
 (repeat first|refine uA ?_|(refine uK ?_ ?_;focus first|omega|(intros;simp_all<;>omega))|simp(disch:=omega) only[go_sem,Nat.reduceAdd,C.sh,C.shL,d0j,List.length_nil,d0d,d0q,B,d0e,d0h,Am.enc,lks,sb]|refine j5.t (l5.pre (h _ rfl ⟨T,id⟩) rfl rfl rfl) ?_);refine S.cond rfl (λA=>by simp at A) (λA=>?_)
 (repeat first|refine uA ?_|(refine uK ?_ ?_;focus first|omega|(intros;simp_all<;>omega))|simp(disch:=omega) only[go_sem]);refine S.cond rfl (λA=>?_) (λA=>by simp at A)
 (repeat first|refine uA ?_|(refine uK ?_ ?_;focus first|omega|(intros;simp_all<;>omega))|simp(disch:=omega) only[go_sem]);(exact uQ rfl (Imp.tup (by(repeat' (first|exact j3.nil|exact Imp.refl rfl|exact Imp.frz rfl rfl rfl|exact Imp.D8|refine Imp.agg ?_|refine j3.cons ?_ ?_)))) rfl rfl)
def b8X(w:Wk)(n k:Nat)(a:Am)(p:Pt)(q:List Sn)(Z:Wb 1048576 w)(ga:w.arms[n]?=some a)(gp:w.parts[k]?=some p)(ha:J2 a=0)(J:q.length=a.links.length)(hq:∀r∈q,Zr 16000000 r) :
  FZ 119 [w.c,ints n,ints k,.sl 6 (q.map Sn.enc)] (.tup [.sl 12 ((a2u a (q.map I8)++[a4U (a9s a (q.map I8)) (a1X p.grasp p.shape)]).map Bq.enc),ints 0]):=by
 refine a0w.of (eff:=c7F) Tryz.func119 (by cbv) (by exact d0n rfl) λw' O V=>?_;have hl:=(Z.mono (show 1048576<=1073741824 by decide)).arms.2 a (d0g ga);have h:=λ(E:Ctx) (hP:E.P=Tryz.prog) (ht:Tz E)=>a5y hP ht a q hl ha J hq;have hn:=(d0i.1 ga).1;have hk:=(d0i.1 gp).1;have n1:=Z.arms.1;have n2:=Z.parts.1;obtain⟨pn,ps,pg⟩:=Z.parts.2 p (d0g gp);have hf:=b2N a q hl ha J hq;obtain⟨af,aj⟩:=b2E (a:=a) (Q:=q.map I8) (by rw[d0d];exact J);have W:=b2z ha J hq;have ak:=(P9 ha).2;have al:=b0P (a:=a) (q:=q.map I8) (by rw[d0d];exact J);have hz:=a4e
 change ∀E:Ctx,E.P=Tryz.prog->Tz E->l5 E [] 158 [a.c,.sl 6 (q.map Sn.enc)] (.tup [.rv 1,ints 0]) [.gone,.row 89 12 ((a2u a (q.map I8)).map Bq.enc)] []at h;generalize a2u a (q.map I8)=R at*;generalize a3g a (q.map I8)=T at*;generalize a9s a (q.map I8)=ab at*;obtain⟨arms,U,parts,K,I,A⟩:=w;obtain⟨ao,⟨bx,ar,an,tu⟩,links⟩:=a;obtain⟨am,u,⟨G,H,gh,gt⟩⟩:=p;simp only at ga gp hn hk n1 n2 af aj ak al pn ps pg ⊢;have zs:u.length<=1048576:=ps.1;have D:=λi=>b0Z (g:=⟨G,H,gh,gt⟩) pg.1 pg.2.1 (u.take i) 0 (λv hv=>ps.2 v (List.mem_of_mem_take hv)) (a1j.m rfl);change ∀i,Rb 4194400 (Nm.ofQ (a1X ⟨G,H,gh,gt⟩ (u.take i)))at D
 have aa:=λ(i:Nat) (c:Vt) (h:u[i]?=some c)=>b3y ⟨G,H,gh,gt⟩ h;have ae:a1X ⟨G,H,gh,gt⟩ (u.take 0)=0:=rfl;have ah:a1X ⟨G,H,gh,gt⟩ u=a1X ⟨G,H,gh,gt⟩ (u.take u.length):=by rw[d0w]
 rw[ah];generalize hF:(λi=>a1X ⟨G,H,gh,gt⟩ (u.take i))=F;have ai:∀i,a1X ⟨G,H,gh,gt⟩ (u.take i)=F i:=λi=>by rw[<- hF]
 simp only[ai]at D aa ae ⊢;clear hF ai ah;have e5:decide ((k:Int)<0)=false:=decide_eq_false (by omega);have e6:decide ((T.length:Int)=0)=false:=decide_eq_false (by omega);simp only[j4,TT,II,OA,OB,OC,MM,LL,VV,FF,MG];simp only[Wk.c,Wk.enc,Am.c,Am.enc,ams,wls,pts,sls,gts,lks,sb,ints]at h hf ⊢;(repeat first|refine uA ?_|(refine uK ?_ ?_;focus first|omega|(intros;simp_all<;>omega))|simp(disch:=omega) only[go_sem,Nat.reduceAdd,C.sh,C.shL,d0j,List.length_nil,d0d,d0q,ga,d0e,d0h,Am.enc,lks,sb]|refine j5.t (l5.pre (h _ rfl ⟨V,id⟩) rfl rfl rfl) ?_);refine S.cond rfl (λB=>by simp at B) (λB=>?_)
 (repeat first|refine uA ?_|(refine uK ?_ ?_;focus first|omega|(intros;simp_all<;>omega))|simp(disch:=omega) only[go_sem]);refine S.cond rfl (λB=>by simp[e5]at B) (λB=>?_)
 (repeat first|refine uA ?_|(refine uK ?_ ?_;focus first|omega|(intros;simp_all<;>omega))|simp(disch:=omega) only[go_sem,Nat.reduceAdd,d0d,d0q,ga,d0e,d0h,Am.enc,lks,sb,e6]|(refine uD hf ?_ ?_ ?_;exact tz V;exact rfl));refine S.cond rfl (λB=>by simp[e6]at B) (λB=>?_)
 unfold rq at hz;simp only[rc,sb]at hz
 (repeat first|refine uA ?_|(refine uK ?_ ?_;focus first|omega|(intros;simp_all<;>omega))|simp(disch:=omega) only[go_sem,Nat.reduceAdd,d0d,d0q,gp,d0e,d0h,Pt.enc,vts,sb]|(refine uD hz ?_ ?_ ?_;exact tz V;exact rfl));refine S.loop (X:=Nat) (λi=>⟨[(2,ints k),(4,.bp 0 0),(10,.rv 2),(12,.sl 12 (T.map Bq.enc)),(13,.bp 3 0),(58,vts u),(59,ints u.length),(60,ints i)],[.box 31 [ams arms,wls U,pts parts,sls K,gts I,.v (.bool A.neg),sb A.num,sb A.den],.gone,.row 89 12 (R.map Bq.enc),.box 29 (rcs (Nm.ofQ (F i)))]⟩) (λi=>i<=u.length) (λi=>u.length-i) 0 (d0k _) (by rw[ae];simp only[ams,wls,pts,sls,gts,vts,rcs,sb,ints];exact(by(repeat first|refine uA ?_|(refine⟨?_,?_⟩;focus first|rfl|simp[slot])|rfl|simp))) ?_
 intro i hi;clear h hf hz ae;simp only[ams,wls,pts,sls,gts,vts,rcs,sb,ints];(repeat first|refine uA ?_|(refine uK ?_ ?_;focus first|omega|(intros;simp_all<;>omega))|simp(disch:=omega) only[go_sem]);(refine uJ rfl (λB=>?_) λB=>?_)
 ·have ac:i<u.length:=by omega
  have hg:=d0b ac;generalize u[i]=c at hg;have M:=ps.2 c (d0g hg);have N:=aa i c hg;have hb:=D i;have b1:=R6 (M.1.g rfl) (pg.1.g rfl);have b2:=R6 (M.2.g rfl) (pg.2.1.g rfl);have b3:=O4 (a0j b1) (a0j b2);have o1:=b1h c.x c.y G H (M.1.m rfl) (M.2.m rfl) (pg.1.m rfl) (pg.2.1.m rfl);have o3:=a2W (Nm.ofQ (Nm.d9 c.x-Nm.d9 G)) (b1.m rfl);have o4:=a2W (Nm.ofQ (Nm.d9 c.y-Nm.d9 H)) (b2.m rfl);rw[Nm.y8]at o3 o4;have o5:=a3l (q9 (Nm.d9 c.x-Nm.d9 G)) (q9 (Nm.d9 c.y-Nm.d9 H)) ((a0j b1).m rfl) ((a0j b2).m rfl);have o6:=P8 (Nm.ofQ (q9 (Nm.d9 c.x-Nm.d9 G)+q9 (Nm.d9 c.y-Nm.d9 H))) (Nm.ofQ (F i)) (b3.m rfl) (hb.m rfl);rw[Nm.y8,Nm.y8]at o6;rw[c2D]at N
  clear hb b1 b2 b3 M aa D;generalize Nm.d9 c.x-Nm.d9 G=d1 at*;generalize Nm.d9 c.y-Nm.d9 H=d2 at*;generalize q9 d1+q9 d2=d5 at*;generalize q9 d1=d3 at*;generalize q9 d2=d4 at*;generalize ap:F i=Y at*;generalize ag:F (i+1)=f1 at*;generalize Nm.A9 d5 Y=cc at*;obtain⟨cx,cy⟩:=c;simp only[vc,vq,rq,rc,sb,ints]at o1 o3 o4 o5 o6;(repeat first|refine uI ?_|(refine uK ?_ ?_;focus first|omega|(intros;simp_all<;>omega))|simp(disch:=omega) only[go_sem,Nat.reduceAdd,hg,d0e,d0d,d0q,Vt.enc,sb,d0h])
  refine S.a1d [.box 31 [.sl 12 (arms.map Am.enc),.sl 1 (U.map λs=>[.sl 6 (s.map Vt.enc)]),.sl 12 (parts.map Pt.enc),.sl 14 (K.map Sl.enc),.sl 13 (I.map Gt.enc),.v (.bool A.neg),.v (.string (bs A.num)),.v (.string (bs A.den))],.gone,.gone,.gone,.box 66 [.v (.bool cx.neg),.v (.string (bs cx.num)),.v (.string (bs cx.den)),.v (.bool cy.neg),.v (.string (bs cy.num)),.v (.string (bs cy.den))]] (by simp[Eng.J7,Eng.Q6]) ?_;(repeat first|refine uI ?_|(refine uK ?_ ?_;focus first|omega|(intros;simp_all<;>omega))|simp(disch:=omega) only[go_sem,Nat.reduceAdd,Eng.Q6,d0d,d0q,gp,d0e,d0h,Pt.enc,vts,sb]|(refine uD o1 ?_ ?_ ?_;exact tz V;exact rfl))
  refine S.a1d [.gone,.gone,.gone,.gone,.gone,.box 66 [.v (.bool (Nm.ofQ d1).neg),.v (.string (bs (Nm.ofQ d1).num)),.v (.string (bs (Nm.ofQ d1).den)),.v (.bool (Nm.ofQ d2).neg),.v (.string (bs (Nm.ofQ d2).num)),.v (.string (bs (Nm.ofQ d2).den))]] (by simp[Eng.J7,Eng.Q6]) ?_;(repeat first|refine uA ?_|(refine uK ?_ ?_;focus first|omega|(intros;simp_all<;>omega))|simp(disch:=omega) only[go_sem,Nat.reduceAdd,Eng.Q6]|(refine uD o3 ?_ ?_ ?_;exact tz V;exact rfl)|(refine uD o4 ?_ ?_ ?_;exact tz V;exact rfl)|(refine uD o5 ?_ ?_ ?_;exact tz V;exact rfl)|(refine uD o6 ?_ ?_ ?_;exact tz V;exact rfl));refine S.cond rfl (λB=>?_) (λB=>?_)
  ·rw[if_pos (by simpa using B)]at N;(repeat first|refine uA ?_|(refine uK ?_ ?_;focus first|omega|(intros;simp_all<;>omega))|simp(disch:=omega) only[go_sem,Nat.reduceAdd,ww]);refine S.next (i+1) (by omega) (by omega) (by rw[ag,N];exact(by(repeat first|refine uA ?_|(refine⟨?_,?_⟩;focus first|rfl|simp[slot])|rfl|simp)))
  ·rw[if_neg (by simpa using B)]at N;(repeat first|refine uA ?_|(refine uK ?_ ?_;focus first|omega|(intros;simp_all<;>omega))|simp(disch:=omega) only[go_sem,ww]);refine S.next (i+1) (by omega) (by omega) (by rw[ag,N];exact(by(repeat first|refine uA ?_|(refine⟨?_,?_⟩;focus first|rfl|simp[slot])|rfl|simp)))
 have ac:i=u.length:=by omega
 subst ac;have o7:=c7k ab (F u.length) ⟨W.1.m rfl,W.2.1.m rfl,W.2.2.1.m rfl,W.2.2.2.m rfl⟩ ((D _).m rfl);have c1:=c3L (R.map Bq.enc) (by rw[d0d];omega);clear D aa;generalize F u.length=Y at*;generalize a4U ab Y=gb at*;have e7:((T.length:Int)-1).toNat=links.length:=by omega
 have e8:(0:Int)<=(T.length:Int)-1/\(T.length:Int)-1<T.length:=by omega
 obtain⟨tx,ty,au,aq⟩:=ab;obtain⟨g1,g2,g3,g4⟩:=gb;simp only[Bq.enc,rq,rc,sb]at o7;refine S.weaken (st':=⟨[(10,.sl 12 (R.map Bq.enc)),(12,.sl 12 (T.map Bq.enc)),(13,.bp 3 0)],[.gone,.gone,.gone,.box 29 [.v (.bool (Nm.ofQ Y).neg),.v (.string (bs (Nm.ofQ Y).num)),.v (.string (bs (Nm.ofQ Y).den))]]⟩) ?_ ?_
 ·exact Ent.mk _ _ (Z0.cons (Imp.frz rfl rfl rfl) (Z0.cons (Imp.refl rfl) (Z0.cons (Imp.refl rfl) Z0.nil))) (C9.cons (RI.gone _) (C9.cons (RI.gone _) (C9.cons (RI.gone _) (C9.cons (RI.box _ _ _ (j3.refl rfl)) C9.nil)))) (d0k _)
 (repeat first|refine uI ?_|(refine uK ?_ ?_;focus first|omega|(intros;simp_all<;>omega))|simp(disch:=omega) only[go_sem,Nat.reduceBEq,Nat.reduceAdd,ww]);refine S.a1d [.gone,.gone,.gone,.box 29 [.v (.bool (Nm.ofQ Y).neg),.v (.string (bs (Nm.ofQ Y).num)),.v (.string (bs (Nm.ofQ Y).den))]] (by simp[Eng.J7,Eng.Q6]) ?_;(repeat first|refine uA ?_|(refine uK ?_ ?_;focus first|omega|(intros;simp_all<;>omega))|simp(disch:=omega) only[go_sem,Nat.reduceAdd,ww,Eng.Q6,d0d,d0q,af,e7,d0e,Bq.enc,sb]|refine j5.t (FNew.t c1 rfl) ?_|(refine uD o7 ?_ ?_ ?_;exact tz V;exact rfl));simp only[d0u,d0l,d0p,Bq.enc,sb]
 (exact uQ rfl (Imp.tup (by(repeat' (first|exact j3.nil|exact Imp.refl rfl|exact Imp.frz rfl rfl rfl|exact Imp.D8|refine Imp.agg ?_|refine j3.cons ?_ ?_)))) rfl rfl)
set_option maxHeartbeats 32000000
def b3w{L:List Lk}{q u:List Nm.Rt}(F:q.length=L.length)(A:u.length=L.length)(hq:∀r∈q,Rb 1048576 r)(hu:∀r∈u,Rb 1048576 r)(hf:∀(i:Nat) (l:Lk) (x:Nm.Rt),L[i]?=some l->u[i]?=some x->Jo l x/\D9 (Nm.d9 l.brake) (Nm.d9 x)<=2000):∀s∈K5 L q u,Zr 3200000 s:=λs J=>by
 obtain⟨i,h⟩:=List.mem_iff_getElem?.1 J;unfold K5 at h;rw[d0q]at h;cases B:(L.zip (q.zip u))[i]? with
 | none=>rw[B]at h;cases h
 | some z=>
  rw[B]at h;injection h with h;subst h;obtain⟨l,x,y⟩:=z;rw[List.getElem?_zip_eq_some]at B;obtain⟨F,A⟩:=B;rw[List.getElem?_zip_eq_some]at A;have H:=hf i l y F A.2;have K:=hu y (d0g A.2);have I:=a9A H.1 H.2;have D:=(hq x (d0g A.1)).g rfl;have M:=K.g rfl;have E:=O4 D M;have G:=O4 E I;change Zr 3200000 (snQ (loQ x y l.brake) (hiQ x y l.brake));unfold loQ hiQ;rw[show b4C x y l.brake=Nm.d9 x+Nm.d9 y+a0c l y from rfl];exact⟨a7X (a7X (E.m rfl) (G.m rfl)) (D.m rfl),a7D (a7D (E.m rfl) (G.m rfl)) (D.m rfl)⟩
theorem Bb.mono{k m:Nat}{b:Bq}(h:Bb k b)(u:k<=m):Bb m b:=⟨h.1.mono u,h.2.1.mono u,h.2.2.1.mono u,h.2.2.2.mono u⟩
theorem Bb.m{k m:Nat}{b:Bq}(h:Bb k b)(e:Nat.ble k m=true):Bb m b:=h.mono (d0n e)
def c8Z(w:Wk)(n:Nat)(holds:Int)(a:Am)(q:List Sn)(u:Wb 1048576 w)(D:w.arms[n]?=some a)(G:-1<=holds)(H:holds<w.parts.length)(A:J2 a=0)(h:q.length=a.links.length)(E:∀r∈q,Zr 16000000 r) :
  FZ 235 [w.c,ints n,ints holds,.sl 6 (q.map Sn.enc)] (.tup [bqs (gbL w a holds q),ints 0]):=by
 unfold gbL;rw[if_neg (by rw[b4I A (by omega)];decide)];by_cases B:holds<0
 ·rw[if_pos B];obtain rfl:holds=-1:=by omega
  exact b9u w n a q (u.m rfl) D A h E
 ·rw[if_neg B];obtain⟨k,rfl⟩:∃k:Nat,holds=k:=⟨holds.toNat,by omega⟩
  have F:=d0b (show k<w.parts.length by omega);rw[d0h,F];exact b9z w n k a _ q u D F A h E
def c4t{w:Wk}{a:Am}{holds:Int}{q:List Sn}(hwb:Wb 1048576 w)(ha:J2 a=0)(hql:q.length=a.links.length)(hq:∀r∈q,Zr 16000000 r):∀b∈gbL w a holds q,Bb 4200000 b:=λb h=>by
 unfold gbL at h;split at h
 ·cases h
 split at h
 ·exact(b8b hql ha hq b h).m rfl
 split at h
 ·rename_i p B;rw[List.mem_append,List.mem_singleton]at h;rcases h with h|rfl
  ·exact(b8b hql ha hq b h).m rfl
  ·obtain⟨_,D,u⟩:=hwb.parts.2 p (d0g B);have E:Rb 4194400 (Nm.ofQ (a1X p.grasp p.shape)):=b0Z (g:=p.grasp) u.1 u.2.1 p.shape 0 (λv A=>D.2 v A) (a1j.m rfl);exact(c6f (b2z ha hql hq) E).m rfl
 ·cases h
set_option maxHeartbeats 16000000
def bsG(w:Wk)(a:Am)(x:Ast)(u:List Nm.Rt):List Bq:=gbL w a x.holds (K5 a.links x.q u)
def a2V(w:Wk)(a:Am)(x:Ast)(u:List Nm.Rt):Int:=if a1S (a.links.zip u)=true then cellsE (bsG w a x u) else 2
def cellL(w:Wk)(a:Am)(x:Ast)(u:List Nm.Rt):List Cl:=if a2V w a x u=0 then O5 (bsG w a x u) else[]
def c3C(w:Wk)(n:Nat)(a:Am)(x:Ast)(u:List Nm.Rt)(G:Wb 1048576 w)(ga:w.arms[n]?=some a)(V:J2 a=0)(Z:-1<=x.holds)(aa:x.holds<w.parts.length)
  (F:x.q.length=a.links.length) (B:u.length=a.links.length) (P:∀r∈x.q,Rb 1048576 r) (U:∀r∈u,Rb 1048576 r) (H:a1S (a.links.zip u)=true) :
  FZ 186 [w.c,ints n,x.c,rts u] (.tup [cls (b1W (bsG w a x u)),ints (cellsE (bsG w a x u))]):=by
 refine kW Tryz.func186 (cF rfl rfl (by cbv) (by repeat' first|exact cS|exact cT|exact cE|apply cA|apply cC|apply cB|apply cL|(apply cR;cbv)|(apply cD;cbv;cbv;kernel_rfl))) (by rfl) λw' O hw=>?_;have hn:=(d0i.1 ga).1;have ao:=G.arms.1;have hl:Ab 1073741824 a:=(R9 V).1.m rfl;have hf:∀(i:Nat) (l:Lk) (y:Nm.Rt),a.links[i]?=some l->u[i]?=some y->Jo l y/\D9 (Nm.d9 l.brake) (Nm.d9 y)<=2000:=λi l y g1 g2=>by
  have h:=(R9 V).2 l (d0g g1);refine⟨⟨a7z h,U y (d0g g2),a4i h⟩,?_⟩;unfold a1S at H;rw[List.all_eq_true]at H;have J:=H (l,y) (d0g (M5 g1 g2));simp only[d0t]at J;exact J
 have I:=c3c a x.q u hl V F B P hf;have ac:=a6P (L:=a.links) F B;have M:=b3w F B P U hf;have J:=c8Z w n x.holds a (K5 a.links x.q u) G ga Z aa V ac (λr hr=>(M r hr).m rfl);have zs:=@b7R w a x.holds (K5 a.links x.q u);have ae:=c4t (holds:=x.holds) G V ac (λr hr=>(M r hr).m rfl);have an:=(P9 V).2;unfold bsG;have hR:b1W (gbL w a x.holds (K5 a.links x.q u))=if cellsE (gbL w a x.holds (K5 a.links x.q u))=0 then O5 (gbL w a x.holds (K5 a.links x.q u)) else[]:=rfl
 have K:cellsE (gbL w a x.holds (K5 a.links x.q u))=if a5q (gbL w a x.holds (K5 a.links x.q u))=0 then if 400<(O5 (gbL w a x.holds (K5 a.links x.q u))).length then 2 else 0 else a5q (gbL w a x.holds (K5 a.links x.q u)):=rfl
 rw[hR];generalize gbL w a x.holds (K5 a.links x.q u)=bs at*;generalize K5 a.links x.q u=Q at*;generalize cellsE bs=E at*;obtain⟨tk,ab⟩:∃t,t=V4 (a.links.zip u)+1:=⟨_,rfl⟩
 rw[<- ab]at I;clear M hf P U hR ab H G;obtain⟨arms,ai,parts,af,aj,aq⟩:=w;obtain⟨q,v,au,holds⟩:=x;obtain⟨ar,⟨bx,av,ap,tu⟩,links⟩:=a;simp only at ga hn ao Z aa F B an I J;have e1:decide ((n:Int)<0)=false:=decide_eq_false (by omega);have e2:decide ((arms.length:Int)<=(n:Int))=false:=decide_eq_false (by omega);simp only[j4,TT,II,OA,OB,OC,MM,LL,VV,FF,MG,VG,FG];simp only[Wk.c,Wk.enc,Am.c,Am.enc,Ast.c,Ast.enc,ams,wls,pts,sls,gts,lks,rts,bqs,sb,ints]at I J ⊢
 (repeat first|refine uA ?_|(refine uK ?_ ?_;focus first|omega|(intros;simp_all<;>omega))|simp(disch:=omega) only[go_sem,Nat.reduceAdd,d0d,d0q,ga,d0e,d0h,Am.enc,lks,sb,e1,e2,F,B]);refine S.cond rfl (λA=>by simp at A) (λA=>?_)
 (repeat first|refine uA ?_|(refine uK ?_ ?_;focus first|omega|(intros;simp_all<;>omega))|simp(disch:=omega) only[go_sem,Nat.reduceAdd,d0d,d0q,ga,d0e,d0h,Am.enc,lks,sb]|(refine uD I ?_ ?_ ?_;exact tz hw;exact rfl));refine S.cond rfl (λA=>by simp at A) (λA=>?_)
 (repeat first|refine uA ?_|(refine uK ?_ ?_;focus first|omega|(intros;simp_all<;>omega))|simp(disch:=omega) only[go_sem,Nat.reduceAdd]|(refine uD J ?_ ?_ ?_;exact tz hw;exact rfl));refine S.cond rfl (λA=>by simp at A) (λA=>?_)
 clear I J;(repeat first|refine uA ?_|(refine uK ?_ ?_;focus first|omega|(intros;simp_all<;>omega))|simp(disch:=omega) only[go_sem,d0d]);refine S.loop (X:=Nat) (λi=>⟨[(14,cls (O5 (bs.take i))),(77,.sl 12 (bs.map Bq.enc)),(78,ints bs.length),(79,ints i)],[]⟩) (λi=>i<=bs.length/\∀j,j<i->∀c,bs[j]?=some c->ofE c=0) (λi=>bs.length-i) 0 ⟨d0k _,λ_ h=>absurd h (Nat.not_lt_zero _)⟩ (by simp only[List.take_zero,show O5 []=[] from rfl,cls,d0p];exact Ent.mk _ _ (by repeat' (first|exact Z0.nil|exact Imp.refl rfl|exact Imp.D8|refine Z0.cons ?_ ?_)) (by repeat' (first|exact C9.nil|refine C9.cons (RI.gone _) ?_)) (d0k _)) ?_
 rintro i ⟨hi,hm⟩;simp only[cls,ints];(repeat first|refine uA ?_|(refine uK ?_ ?_;focus first|omega|(intros;simp_all<;>omega))|simp(disch:=omega) only[go_sem]);(refine uJ rfl (λA=>?_) λA=>?_)
 ·have R:i<bs.length:=by omega
  have W:=d0b R;generalize bs[i]=b at W;have hb:=ae b (d0g W);have o1:=c6O b ⟨hb.1.m rfl,hb.2.1.m rfl,hb.2.2.1.m rfl,hb.2.2.2.m rfl⟩;have hs:O5 (bs.take (i+1))=a3P (O5 (bs.take i)) (ofC b):=by rw[List.take_add_one,W];exact b7w _ _
  have al:=b1y (bs.take i);rw[d0r]at al;have o2:=c7y (O5 (bs.take i)) (ofC b) (by omega) (d0f (a9R b) (by decide));rw[<- hs]at o2;have Y:=λh:ofE b≠0=>b5O W h hm;have ag:ofE b=0->∀j,j<i+1->∀c,bs[j]?=some c->ofE c=0:=λh j hj c N=>by
   rcases d0B j i with I|I
   ·exact hm j I c N
   ·have:j=i:=by omega
    subst this;rw[W]at N;cases N;exact h
  clear hs;generalize ak:O5 (bs.take (i+1))=T1 at*;generalize O5 (bs.take i)=T at*;generalize ofC b=D at*;generalize ofE b=e at*;simp only[Bq.enc,cls,sb,ints]at o1 o2;(repeat first|refine uA ?_|(refine uK ?_ ?_;focus first|omega|(intros;simp_all<;>omega))|simp(disch:=omega) only[go_sem,Nat.reduceAdd,W,d0d,d0q,d0e,d0h,Bq.enc,sb]|(refine uD o1 ?_ ?_ ?_;exact tz hw;exact rfl));(refine uJ rfl (λA=>?_) λA=>?_)
  ·have am:=Y A;rw[am,if_neg A]at K;rw[K,if_neg A];(repeat first|refine uA ?_|(refine uK ?_ ?_;focus first|omega|(intros;simp_all<;>omega))|simp(disch:=omega) only[go_sem]);(exact uQ rfl (Imp.tup (by(repeat' (first|exact j3.nil|exact Imp.refl rfl|exact Imp.frz rfl rfl rfl|exact Imp.D8|refine Imp.agg ?_|refine j3.cons ?_ ?_)))) rfl rfl)
  ·have ah:e=0:=by omega
   (repeat first|refine uA ?_|(refine uK ?_ ?_;focus first|omega|(intros;simp_all<;>omega))|simp(disch:=omega) only[go_sem,ww]|(refine uB o2 ?_ ?_;exact rfl));refine S.next (x:=i) (i+1) ⟨by omega,ag ah⟩ (by omega) (by simp only[ak];exact(by(repeat first|refine uA ?_|(refine⟨?_,?_⟩;focus first|rfl|simp[slot])|rfl|simp)))
 ·have R:i=bs.length:=by omega
  subst R;rw[b2K hm,if_pos rfl]at K;rw[d0w];generalize O5 bs=T at*;(repeat first|refine uA ?_|(refine uK ?_ ?_;focus first|omega|(intros;simp_all<;>omega))|simp(disch:=omega) only[go_sem,d0d]);(refine uJ rfl (λA=>?_) λA=>?_)
  ·rw[if_pos (by omega)]at K;rw[K,if_neg (by decide)];(repeat first|refine uA ?_|(refine uK ?_ ?_;focus first|omega|(intros;simp_all<;>omega))|simp(disch:=omega) only[go_sem]);(exact uQ rfl (Imp.tup (by(repeat' (first|exact j3.nil|exact Imp.refl rfl|exact Imp.frz rfl rfl rfl|exact Imp.D8|refine Imp.agg ?_|refine j3.cons ?_ ?_)))) rfl rfl)
  ·rw[if_neg (by omega)]at K;rw[K,if_pos rfl];(repeat first|refine uA ?_|(refine uK ?_ ?_;focus first|omega|(intros;simp_all<;>omega))|simp(disch:=omega) only[go_sem]);(exact uQ rfl (Imp.tup (by(repeat' (first|exact j3.nil|exact Imp.refl rfl|exact Imp.frz rfl rfl rfl|exact Imp.D8|refine Imp.agg ?_|refine j3.cons ?_ ?_)))) rfl rfl)
def c2m(w:Wk)(n:Nat)(a:Am)(x:Ast)(u:List Nm.Rt)(D:Wb 1048576 w)(J:w.arms[n]?=some a)(I:J2 a=0)
  (B:x.q.length=a.links.length) (A:u.length=a.links.length) (F:∀r∈x.q,Rb 1048576 r) (H:∀r∈u,Rb 1048576 r) (G:a1S (a.links.zip u)=false) :
  FZ 186 [w.c,ints n,x.c,rts u] (.tup [.v (.slice none 0 0),ints 2]):=by
 refine kW Tryz.func186 (cF rfl rfl (by cbv) (by repeat' first|exact cS|exact cT|exact cE|apply cA|apply cC|apply cB|apply cL|(apply cR;cbv)|(apply cD;cbv;cbv;kernel_rfl))) (by rfl) λw' O hw=>?_;have hn:=(d0i.1 J).1;have R:=D.arms.1;have hl:Ab 1073741824 a:=(R9 I).1.m rfl;have Y:∀(i:Nat) (l:Lk) (y:Nm.Rt),a.links[i]?=some l->u[i]?=some y->Jo l y:=λi l y g1 g2=>by
  have h:=(R9 I).2 l (d0g g1);exact⟨a7z h,H y (d0g g2),a4i h⟩
 obtain⟨k,W,Z,k3⟩:=c0j A G;have M:=c2y a x.q u k hl I B A F Y W Z k3;clear Y W Z k3 F H G D;have T:=(P9 I).2;obtain⟨arms,U,K,V,N,aa⟩:=w;obtain⟨q,v,ae,P⟩:=x;obtain⟨ab,⟨bx,ac,X,tu⟩,links⟩:=a;simp only at J hn R B A T M;have e1:decide ((n:Int)<0)=false:=decide_eq_false (by omega);have e2:decide ((arms.length:Int)<=(n:Int))=false:=decide_eq_false (by omega);simp only[j4,TT,II,OA,OB,OC,MM,LL,VV,FF,MG,VG,FG];simp only[Wk.c,Wk.enc,Am.c,Am.enc,Ast.c,Ast.enc,ams,wls,pts,sls,gts,lks,rts,sb,ints]at M ⊢
 (repeat first|refine uA ?_|simp(disch:=omega) only[go_sem,Nat.reduceAdd,d0d,d0q,J,d0e,d0h,Am.enc,lks,sb,e1,e2,B,A]);refine S.cond rfl (λE=>by simp at E) (λE=>?_)
 (repeat first|refine uA ?_|simp(disch:=omega) only[go_sem,Nat.reduceAdd,d0d,d0q,J,d0e,d0h,Am.enc,lks,sb]|refine uD M (tz hw) rfl ?_);refine S.cond rfl (λE=>?_) (λE=>by simp at E)
 (exact uX rfl rfl (Imp.tup (by repeat' first|exact j3.nil|exact Imp.refl rfl|apply j3.cons)) rfl rfl)
def c2G(w:Wk)(n:Nat)(a:Am)(x:Ast)(u:List Nm.Rt)(D:Wb 1048576 w)(I:w.arms[n]?=some a)(J:J2 a=0)(G:-1<=x.holds)(H:x.holds<w.parts.length)
  (B:x.q.length=a.links.length) (A:u.length=a.links.length) (E:∀r∈x.q,Rb 1048576 r) (F:∀r∈u,Rb 1048576 r) :
  FZ 186 [w.c,ints n,x.c,rts u] (.tup [cls (cellL w a x u),ints (a2V w a x u)]):=by
 unfold cellL a2V;cases h:a1S (a.links.zip u) with
 | true=>exact c3C w n a x u D I J G H B A E F h
 | false=>exact(c2m w n a x u D I J B A E F h).imp rfl (Imp.tup (j3.cons Imp.D8 (j3.cons (Imp.refl rfl) j3.nil))) rfl
def b5j{a:Am}{x:Ast}(h:x.v.length=a.links.length):(X4 a x).length=a.links.length:=by
 unfold X4;rw[d0d,List.length_zip];omega
def c1B{a:Am}{x:Ast}(ha:J2 a=0)(hv:∀r∈x.v,Rb 131072 r):∀r∈X4 a x,Rb 1048576 r:=λr hr=>by
 obtain⟨z,h,rfl⟩:=List.mem_map.1 hr;have u:=a7z ((R9 ha).2 z.1 (List.of_mem_zip h).1);exact(b2t (k:=131072) (by decide) (u.m rfl) (hv _ (List.of_mem_zip h).2)).m rfl
def c5L(w:Wk)(n:Nat)(a:Am)(x:Ast)(u:Wb 1048576 w)(F:w.arms[n]?=some a)(E:J2 a=0)(H:-1<=x.holds)(K:x.holds<w.parts.length)
  (A:x.q.length=a.links.length) (B:x.v.length=a.links.length) (h:Asb 131072 x) :
  FZ 144 [w.c,ints n,x.c] (.tup [cls (cellL w a x (X4 a x)),ints (a2V w a x (X4 a x))]):=by
 refine kW Tryz.func144 (by cbv) (by rfl) λw' O T=>?_;have Y:=(d0i.1 F).1;have J:=u.arms.1;have W:Ab 1073741824 a:=(R9 E).1.m rfl;have G:=c5a a x W ⟨⟨d0f h.1.1 (by decide),λr hr=>(h.1.2 r hr).m rfl⟩,d0f h.2.1 (by decide),λr hr=>(h.2.2 r hr).m rfl⟩ E A B;have M:=c2G w n a x (X4 a x) u F E H K A (b5j B) (λr hr=>(h.1.2 r hr).m rfl) (c1B E h.2.2);clear u W h;generalize cellL w a x (X4 a x)=cl at*;generalize a2V w a x (X4 a x)=aa at*;generalize X4 a x=bv at*;generalize a7s a x=bq at*;obtain⟨arms,N,parts,P,I,U⟩:=w;obtain⟨q,v,ab,holds⟩:=x;obtain⟨V,⟨bx,X,R,tu⟩,links⟩:=a;simp only at F Y J A B G M
 have Z:decide ((n:Int)<0)=false:=decide_eq_false (by omega);have e2:decide ((arms.length:Int)<=(n:Int))=false:=decide_eq_false (by omega);simp only[j4,TT,II,OA,OB,OC,MM,LL,VV,FF,MG,VG,FG];simp only[Wk.c,Wk.enc,Am.c,Am.enc,Ast.c,Ast.enc,ams,wls,pts,sls,gts,lks,rts,cls,sb,ints]at G M ⊢;(repeat first|refine uA ?_|simp(disch:=omega) only[go_sem,Nat.reduceAdd,d0d,Z,e2]);refine S.cond rfl (λD=>by simp at D) (λD=>?_)
 (repeat first|refine uA ?_|simp(disch:=omega) only[go_sem,Nat.reduceAdd,d0d,d0q,F,d0e,d0h,Am.enc,lks,sb]|refine uD G (tz T) rfl ?_);refine S.cond rfl (λD=>by simp at D) (λD=>?_)
 (repeat first|refine uA ?_|simp(disch:=omega) only[go_sem,Nat.reduceAdd]|refine uD M (tz T) rfl ?_);(exact uQ rfl (Imp.tup (by repeat' first|exact j3.nil|exact Imp.refl rfl|apply j3.cons)) rfl rfl)
set_option maxRecDepth 10000
set_option maxHeartbeats 4000000
def b8L(a b:Cl):Int:=(a.2-b.2)*1000+a.1-b.1
def c5M{a b:Cl}(u:onB a.1=true)(h:onB b.1=true):b8L a b<0 <-> ltC a b=true:=by
 rw[a5J]at u h;rw[a9L];unfold b8L;omega
def a0l(o:List Cl)(c:Cl):List Cl:=if o.contains c=true then o else o++[c]
def a2d(bs:List Bq):List Cl:=bs.foldl (λo b=>(ofC b).foldl a0l o) []
def c0r{o:List Cl}{c:Cl}(h:o.Nodup):(a0l o c).Nodup/\(∀x,x∈a0l o c <-> x∈o\/x=c)/\(a0l o c).length<=o.length+1:=by
 unfold a0l;split
 ·rename_i u;rw[List.contains_iff_mem]at u;refine⟨h,λx=>⟨.inl,λA=>?_⟩,Nat.le_succ _⟩;rcases A with A|rfl
  ·exact A
  ·exact u
 ·rename_i u;rw[List.contains_iff_mem]at u;refine⟨?_,λx=>by simp,by simp⟩;rw[List.nodup_append];refine⟨h,by simp,λa D b B=>?_⟩;rw[List.mem_singleton]at B;subst B;exact λe=>u (e ▸ D)
theorem a8S:∀(D o:List Cl),o.Nodup->(D.foldl a0l o).Nodup/\(∀x,x∈D.foldl a0l o <-> x∈o\/x∈D)/\(D.foldl a0l o).length<=o.length+D.length
 | [],o,h=>⟨h,λx=>by simp,by simp⟩
 | c::D,o,h=>by
  obtain⟨h1,h2,h3⟩:=c0r (c:=c) h;obtain⟨A,u,B⟩:=a8S D (a0l o c) h1;refine⟨A,λx=>?_,?_⟩
  ·rw[List.foldl_cons,u,h2,List.mem_cons,or_assoc]
  ·rw[List.foldl_cons,d0j];omega
theorem b2V:∀(bs:List Bq) (o:List Cl),o.Nodup->(bs.foldl (λo b=>(ofC b).foldl a0l o) o).Nodup/\(∀x,x∈bs.foldl (λo b=>(ofC b).foldl a0l o) o <-> x∈o\/∃b∈bs,x∈ofC b)/\(bs.foldl (λo b=>(ofC b).foldl a0l o) o).length<=o.length+16384*bs.length
 | [],o,h=>⟨h,λx=>by simp,by simp⟩
 | b::bs,o,h=>by
  obtain⟨h1,h2,h3⟩:=a8S (ofC b) o h;obtain⟨A,u,B⟩:=b2V bs ((ofC b).foldl a0l o) h1;have:=a9R b;refine⟨A,λx=>?_,?_⟩
  ·rw[List.foldl_cons,u,h2,or_assoc];simp
  ·rw[List.foldl_cons,d0j];omega
def a6U(bs:List Bq):(a2d bs).Nodup/\(∀x,x∈a2d bs <-> ∃b∈bs,x∈ofC b)/\(a2d bs).length<=16384*bs.length:=by
 obtain⟨A,u,h⟩:=b2V bs [] List.nodup_nil;unfold a2d;exact⟨A,λx=>by have:=u x;simpa using this,by simpa using h⟩
theorem c4G:∀{l m:List Cl},Up l->Up m->(∀x,x∈l <-> x∈m)->l=m
 | [],[],_,_,_=>rfl
 | [],b::m,_,_,h=>absurd ((h b).2 (by simp)) (by simp)
 | a::l,[],_,_,h=>absurd ((h a).1 (by simp)) (by simp)
 | a::l,b::m,hl,hm,h=>by
  unfold Up at hl hm;rw[List.pairwise_cons]at hl hm;have hab:a=b:=by
   rcases List.mem_cons.1 ((h a).1 (by simp)) with e|D
   ·exact e
   ·rcases List.mem_cons.1 ((h b).2 (by simp)) with e|B
    ·exact e.symm
    ·have:=a3J (hm.1 a D) (hl.1 b B);rw[a2a]at this;cases this
  subst hab;rw[c4G hl.2 hm.2 λx=>?_];constructor
  ·intro u;rcases List.mem_cons.1 ((h x).1 (by simp[u])) with rfl|A
   ·have:=hl.1 x u;rw[a2a]at this;cases this
   ·exact A
  ·intro u;rcases List.mem_cons.1 ((h x).2 (by simp[u])) with rfl|A
   ·have:=hm.1 x u;rw[a2a]at this;cases this
   ·exact A
def c4q(bs:List Bq):(a2d bs).mergeSort leC=O5 bs:=by
 obtain⟨B,u,_⟩:=a6U bs;refine c4G ?_ (c2g bs) λx=>?_
 ·have A:=a6v (a2d bs);have D:((a2d bs).mergeSort leC).Nodup:=(List.mergeSort_perm _ _).nodup_iff.2 B;unfold Up;refine(A.and D).imp λ{a b} h=>?_;cases E:ltC a b with
  | true=>rfl
  | false=>exact absurd (a7f E h.1) h.2
 ·rw[List.mem_mergeSort,u,b9e]
open Go Go.RowKit Go.Lib Go.Sort Eng
set_option maxRecDepth 100000
set_option maxHeartbeats 8000000
abbrev Gc:={c:Cl // onB c.1=true/\onB c.2=true}
instance :Inhabited Gc:=⟨⟨(0,0),by decide⟩⟩
def gcv(c:Gc):List Value:=cv c.1
def gce(c:Gc):List C:=ce c.1
def a9i(a b:Gc):Int:=b8L a.1 b.1
def a5K(a b:Gc):ltOf a9i a b=ltC a.1 b.1:=by
 unfold ltOf a9i;rw[Bool.eq_iff_iff,d0t];exact c5M a.2.1 b.2.1
def c5I{l:List Gc}:∀q∈l.map gce,q.length=2:=λq h=>by
 obtain⟨p,_,rfl⟩:=List.mem_map.1 h;rfl
def b2g{l:List Gc}:∀q∈l.map gcv,q.length=2:=λq h=>by
 obtain⟨p,_,rfl⟩:=List.mem_map.1 h;rfl
def c1u(l:List Gc):(l.map gce).flatten=((l.map gcv).flatten).map C.v:=by
 have:=b4k (l.map (·.1));rw[List.map_map,List.map_map]at this;exact this
def b5y(l:List Gc):(flatK gcv 2 l.toArray).toList=(l.map gcv).flatten:=by
 apply List.ext_getElem?;intro j;have A:(l.map gcv).flatten.length=l.length*2:=by rw[Q9 (sz:=2) b2g,d0d]
 rcases d0B j (l.length*2) with h|h
 ·have B:j/2<l.length:=by omega
  have E:(l.map gcv)[j/2]?=some (gcv l[j/2]):=by rw[d0q,d0b B];rfl
  have u:=flat_get (i:=j%2) b2g E (by omega);rw[show j/2*2+j%2=j by omega]at u;rw[u];simp only[flatK,Array.getElem?_toList,Array.getElem?_map,Array.getElem?_range,List.size_toArray];rw[if_pos h,d0e,getElem!_pos l.toArray (j/2) (by simpa using B)];have D:(gcv l[j/2])[j%2]?=some ((gcv l[j/2])[j%2]!):=by
   rcases(show j%2=0\/j%2=1 by omega) with h|h<;>rw[h]<;>rfl
  rw[D];rfl
 ·rw[d0J (by simpa using h),d0J (by omega)]
def c7b(a b:Gc)(W:World):Calls Tryz.prog 122 #[.agg #[.int .i64 a.1.1,.int .i64 a.1.2],.agg #[.int .i64 b.1.1,.int .i64 b.1.2]] W λe w'=>e=.returned (.int .i64 (a9i a b))/\∃q os',w'=grow (W.drewN q) os':=by
 obtain⟨⟨F,h⟩,E,B⟩:=a;obtain⟨⟨G,u⟩,D,A⟩:=b;rw[a5J]at E B D A;simp only at E B D A;have K:IntKind.i64.wrap (h-u)=h-u:=Eng.wrap_i64 (by omega);have I:IntKind.i64.wrap ((h-u)*1000)=(h-u)*1000:=Eng.wrap_i64 (by omega);have H:IntKind.i64.wrap ((h-u)*1000+F)=(h-u)*1000+F:=Eng.wrap_i64 (by omega);have J:IntKind.i64.wrap ((h-u)*1000+F-G)=(h-u)*1000+F-G:=Eng.wrap_i64 (by omega)
 go_enter Tryz.func122,Tryz.ntmps122
 go_wp2
 all_goals (go_ret;exact⟨by simp_all[a9i,b8L],0,_,by rw[alloc_eq_grow,alloc_eq_grow,grow_grow];rfl⟩)
def leG(a b:Gc):Bool:=leC a.1 b.1
def c6n{E:Ctx}(hP:E.P=Tryz.prog)(es:List Gc)(hn:es.length<4611686018427387904) :
 l5 E [.row 120 2 (es.map gce)] 121 [.rv 0,.v (.func (.func 122) #[] #[])] (.v (.tuple #[])) [.row 120 2 ((es.mergeSort leG).map gce)] []:=by
 obtain⟨P,aj,N,w0,I,am,ap,an⟩:=E;simp only at hP;subst hP;intro av ν w vs hR aq hF hD;simp only[l6,Den]at hD;obtain⟨x,ys,rfl,⟨hx,_⟩,y2,al,rfl,rfl,rfl⟩:=hD;obtain⟨hl,vs,ae,ai,H⟩:=hR.get (k:=0) rfl hx;have aa:ν=[x]:=by
  have U:=hR.len
  match ν,U,hx with
  | [z],_,h=>simp at h;rw[h]
 subst aa;have ab:vs=(es.map gcv).flatten:=b9i _ _ (by rw[<- c1u];exact ae);rw[d0d]at H;have fin:∀J,RG av I w0.heap.size [x] ([Res.row 120 2 (es.map gce)].set 0 (.row 120 2 ((es.mergeSort leG).map gce))) J/\Mv [Res.row 120 2 (es.map gce)] [x] w [] ([Res.row 120 2 (es.map gce)].set 0 (.row 120 2 ((es.mergeSort leG).map gce))) [x] J ->
  ∃B,RG av I w0.heap.size B [.row 120 2 ((es.mergeSort leG).map gce)] J/\Mv [.row 120 2 (es.map gce)] [x] w [] [.row 120 2 ((es.mergeSort leG).map gce)] B J/\Den B J (OO av [.row 120 2 ((es.mergeSort leG).map gce)] B) (.v (.tuple #[])) (.tuple #[]):=
  λJ h=>⟨[x],h.1,h.2,by simp only[Den]⟩
 rcases H.2 with⟨h0,A,rfl⟩|⟨g,cap,D,rfl,ac,hg,Z,ah,X,O⟩
 ·have he:es=[]:=d0I h0;subst he;have h:=AnyF.slices_SortFunc_none (P:=Tryz.prog) (ρ:=Tryz.a2n) { Tryz.a6V with } A 0 (.func (.func 122) #[] #[]) w;refine h.mono ?_;rintro e J ⟨rfl,rfl⟩;refine(fin _ ?_).elim λB h=>⟨_,B,rfl,h⟩
  rw[show([]:List Gc).mergeSort leG=[] by simp,set_self rfl];exact⟨hR,Mv.of_below (Below.refl _ _)⟩
 ·have W:g<w.heap.size:=(Array.getElem?_eq_some_iff.1 hg).1;have ao:es.length*2<=D.size:=by rw[X];exact d0M _ Z
  have hH:HoldsK gcv 2 w g 0 es.toArray:=by
   intro j R;rw[size_flatK,List.size_toArray]at R;have e1:(flatK gcv 2 es.toArray)[j]! = D[j]'(by omega):=by
    have h1:(flatK gcv 2 es.toArray).toList[j]?=D.toList[j]?:=by
     rw[b5y,<- ab,<- O,List.getElem?_take,if_pos R]
    rw[Array.getElem?_toList,Array.getElem?_toList,Array.getElem?_eq_getElem (show j<D.size by omega),Array.getElem?_eq_getElem (show j<(flatK gcv 2 es.toArray).size by rw[size_flatK,List.size_toArray];exact R)]at h1;injection h1 with h1;rw[getElem!_pos _ _ (by rw[size_flatK,List.size_toArray];exact R),h1]
   rw[e1];have K:j<D.size:=by omega
   constructor
   ·simp[World.cell?,hg,K]
   ·simp[World.frozen?,hg]
  have V:CmpLays Tryz.prog 122 #[] gcv 2 a9i g 0 es.toArray.size w:=λ_ _ _ _ a b=>c7b a b _;have eg:∀args w,(callFunc 122 args).run Tryz.prog w=.ok (.enter 122 args) w:=enters_of Tryz.func122 (by kernel_rfl) rfl;have T:SWO (ltOf a9i):=⟨λa=>by rw[a5K];exact a2a _,λa b c h k=>by rw[a5K]at*;exact a3J h k,λa b c h k=>by rw[a5K]at*;exact a8G h k⟩
  have h:=AnyQ.slices_SortFunc_total (P:=Tryz.prog) (ρ:=Tryz.a2n) Tryz.a6V 2 Tryz.isAgg120 Tryz.sizeOf120 gcv (λ_=>rfl) (λa v hv=>by simp[gcv,cv]at hv;rcases hv with rfl|rfl<;>rfl) a9i T 122 #[] g 0 cap es.toArray w eg V hH W (by simpa using hn) (λa b h k=>Subtype.ext (a7f (by rw[<- a5K];exact h) (by rw[<- a5K];exact k)));have af:es.toArray.size=es.length:=by simp
  rw[af]at h;refine Calls.mono h ?_;rintro e J ⟨rfl,n,os,rfl⟩;refine(fin _ ?_).elim λB h=>⟨_,B,rfl,h⟩
  have ag:(List.mergeSort es.toArray.toList λx y=>!(ltOf a9i) y x)=es.mergeSort leG:=by
   congr 1
   funext x y
   rw[a5K];rfl
  rw[ag];generalize hM:es.mergeSort leG=M;have G:M.length=es.length:=by rw[<- hM,List.length_mergeSort]
  have F:∀k,k<w.heap.size->(sortWorldK gcv 2 w g 0 n M.toArray os).heap[k]?=if g=k then some (.cells (putCells id 0 (flatK gcv 2 M.toArray) D) 120 (0,0)) else w.heap[k]?:=λk hk=>by
   show((w.heap.modify g (onCells (putCells id 0 (flatK gcv 2 M.toArray))))++os)[k]?=_;rw[Array.getElem?_append_left (by simpa using hk),Array.getElem?_modify];split
   ·rename_i e;subst e;rw[hg];rfl
   ·rfl
  refine hR.upd (r':=.row 120 2 (M.map gce)) rfl rfl ⟨rfl,rfl,rfl,?_,λb hb hn=>?_⟩ (λb hb=>hb) λak=>?_
  ·show w.heap.size<=((w.heap.modify g _)++os).size;simp
  ·rw[F b hb,if_neg λe=>hn (by simp only[fp,E8];rw[if_neg (by omega),e])]
  ·refine⟨c5I,(M.map gcv).flatten,by rw[c1u];exact FzL.vs _,λu hu=>?_,?_⟩
   ·obtain⟨q,hq,hu⟩:=List.mem_flatten.1 hu;obtain⟨p,_,rfl⟩:=List.mem_map.1 hq;simp[gcv,cv]at hu;rcases hu with rfl|rfl<;>rfl
   ·rw[d0d,G];refine⟨by rw[Q9 (sz:=2) b2g,d0d,G],.inr ⟨g,cap,_,rfl,ac,by rw[F g W,if_pos rfl],Z,ah,by simpa[putCells] using X,?_⟩⟩;rw[<- b5y];apply List.ext_getElem?;intro j;rw[List.getElem?_take];split
    ·rename_i R;have Y:j<(flatK gcv 2 M.toArray).size:=by rw[size_flatK,List.size_toArray,G];exact R
     have K:j<D.size:=by omega
     simp only[Array.getElem?_toList,putCells,Array.getElem?_mapIdx];rw[Array.getElem?_eq_getElem K,d0e,if_pos ⟨d0k _,by omega⟩,Array.getElem?_eq_getElem Y,Nat.sub_zero,getElem!_pos (flatK gcv 2 M.toArray) j Y];rfl
    ·rename_i R;rw[d0J];rw[Array.length_toList,size_flatK,List.size_toArray,G];omega
def c4Z(es:List Gc):(es.mergeSort leG).map (·.1)=(es.map (·.1)).mergeSort leC:=List.map_mergeSort λ_ _ _ _=>rfl
set_option maxHeartbeats 16000000
set_option maxRecDepth 10000
set_option maxHeartbeats 4000000
def c3y(l m:List Cl):decide (0<(a8C l m).length)=l.any λc=>m.contains c:=by
 rw[Bool.eq_iff_iff,d0t,List.length_pos_iff_exists_mem,List.any_eq_true];simp only[c0v,List.contains_iff_mem]
set_option maxRecDepth 100000
set_option maxHeartbeats 8000000
def c1Q(l:List Cl)(c:Cl)(N:l.length<=1000000000):p8 Tryz.prog 77 [cls l,.agg (ce c)] (ints (a1b (λx=>decide (c=x)) l)):=by
 refine kS Tryz.func77 (by cbv) (by rfl) λw O=>?_;obtain⟨B,D⟩:=c;simp only[j4,TT,II,OA,MM,LL,cls,ce,ints];(repeat first|refine uA ?_|simp(disch:=omega) only[go_sem,Nat.reduceAdd,d0d]);refine S.loop (X:=Nat) (λi=>⟨[(0,cls l),(3,.bp 0 0),(7,ints l.length),(8,ints i)],[.box 120 [.v (.int .i64 B),.v (.int .i64 D)]]⟩) (λi=>i<=l.length/\∀j,j<i->∀x,l[j]?=some x->decide ((B,D)=x)=false) (λi=>l.length-i) 0 ⟨d0k _,λ_ h=>absurd h (Nat.not_lt_zero _)⟩ (by simp only[cls];exact(by repeat first|refine uA ?_|refine⟨rfl,?_⟩|rfl|simp)) ?_
 rintro i ⟨R,E⟩;simp only[cls,ints];refine uV rfl ?_;apply uJ rfl<;>intro M
 ·have A:=d0b (show i<l.length by omega);generalize l[i]'(_)=x at A;obtain⟨K,I⟩:=x;(repeat first|refine uA ?_|simp(disch:=omega) only[go_sem,Nat.reduceAdd,A,d0e,d0d,d0q,d0h,ce]);apply S.cond rfl<;>intro u
  ·have G:decide (((B,D):Cl)=(K,I))=true:=by simp at u ⊢;exact u
   rw[a2e (p:=λx=>decide ((B,D)=x)) A G E];exact uT rfl rfl rfl
  ·have G:decide (((B,D):Cl)=(K,I))=false:=by simp at u ⊢;exact u
   (repeat first|refine uA ?_|simp(disch:=omega) only[go_sem]);refine S.next (i+1) ⟨by omega,λj P y H=>?_⟩ (by omega) (by repeat first|refine uA ?_|refine⟨rfl,?_⟩|rfl|simp)
   rcases d0B j i with J|J
   ·exact E j J y H
   ·have:j=i:=by omega
    subst this;rw[A]at H;cases H;exact G
 ·have F:i=l.length:=by omega
  subst F;rw[a1l E];exact uT rfl rfl rfl
def c2X(l:List Cl)(c:Cl):l.any (λx=>decide (c=x))=l.contains c:=by
 rw[Bool.eq_iff_iff,List.any_eq_true,List.contains_iff_mem];exact⟨λ⟨x,u,A⟩=>by rw[of_decide_eq_true A];exact u,λh=>⟨c,h,by simp⟩⟩
def b4q(l:List Cl)(c:Cl)(u:l.length<=1000000000):p8 Tryz.prog 42 [cls l,.agg (ce c)] (.v (.bool (l.contains c))):=by
 refine kS Tryz.func42 (by cbv) (by rfl) λw O=>?_;have h:=c1Q l c u;rw[<- c2X,<- a2A];generalize a1b (λx=>decide (c=x)) l=k at*;obtain⟨A,B⟩:=c;simp only[j4,TT,II,OA,MM,LL];simp only[cls,ce,ints]at*;(repeat first|refine uA ?_|simp(disch:=omega) only[go_sem,Nat.reduceAdd]|refine uB h rfl ?_);exact uS rfl rfl
set_option maxHeartbeats 32000000
def c8N(w:Wk)(n:Nat)(holds:Int)(a:Am)(q:List Sn)(u:Wb 1048576 w)(D:w.arms[n]?=some a)(G:-1<=holds)(H:holds<w.parts.length)(A:J2 a=0)(h:q.length=a.links.length)(E:∀r∈q,Zr 16000000 r) :
  FZ 119 [w.c,ints n,ints holds,.sl 6 (q.map Sn.enc)] (.tup [bqs (gbL w a holds q),ints 0]):=by
 unfold gbL;rw[if_neg (by rw[b4I A (by omega)];decide)];by_cases B:holds<0
 ·rw[if_pos B];obtain rfl:holds=-1:=by omega
  exact b9m w n a q (u.m rfl) D A h E
 ·rw[if_neg B];obtain⟨k,rfl⟩:∃k:Nat,holds=k:=⟨holds.toNat,by omega⟩
  have F:=d0b (show k<w.parts.length by omega);rw[d0h,F];exact b8X w n k a _ q u D F A h E
set_option maxHeartbeats 16000000
def c1m(bs:List Bq)(b:Bq):a2d (bs++[b])=(ofC b).foldl a0l (a2d bs):=by unfold a2d;rw[List.foldl_append];rfl
def c0P(D T:List Cl)(c:Cl):(D++[c]).foldl a0l T=a0l (D.foldl a0l T) c:=by rw[List.foldl_append];rfl
theorem b5m{P:Cl->Prop}:∀(l:List Cl) (h:∀c∈l,P c),(l.pmap (Subtype.mk (p:=P)) h).map (·.1)=l
 | [],_=>rfl
 | c::l,h=>by rw[List.pmap_cons,d0l,b5m l λc hc=>h c (by simp[hc])]
def c6N(bs:List Bq):∀c∈a2d bs,onB c.1=true/\onB c.2=true:=λc u=>by
 obtain⟨b,_,h⟩:=((a6U bs).2.1 c).1 u;exact c7r h
def c2c(w:Wk)(n:Nat)(a:Am)(x:Ast)(u:List Nm.Rt)(H:Wb 1048576 w)(ga:w.arms[n]?=some a)(ha:J2 a=0)(ai:-1<=x.holds)(al:x.holds<w.parts.length)
  (K:x.q.length=a.links.length) (I:u.length=a.links.length) (ac:∀r∈x.q,Rb 1048576 r) (N:∀r∈u,Rb 1048576 r) (B:a1S (a.links.zip u)=true) :
  FZ 74 [w.c,ints n,x.c,rts u] (.tup [cls (b1W (bsG w a x u)),ints (cellsE (bsG w a x u))]):=by
 refine kW Tryz.func74 (by cbv) (by rfl) λw' O hw=>?_;have hn:=(d0i.1 ga).1;have aC:=H.arms.1;have hl:Ab 1073741824 a:=(R9 ha).1.m rfl;have hf:∀(i:Nat) (l:Lk) (y:Nm.Rt),a.links[i]?=some l->u[i]?=some y->Jo l y/\D9 (Nm.d9 l.brake) (Nm.d9 y)<=2000:=λi l y g1 g2=>by
  have h:=(R9 ha).2 l (d0g g1);refine⟨⟨a7z h,N y (d0g g2),a4i h⟩,?_⟩;unfold a1S at B;rw[List.all_eq_true]at B;have R:=B (l,y) (d0g (M5 g1 g2));simp only[d0t]at R;exact R
 have J:=b1E a x.q u hl ha K I ac N;rw[if_pos B]at J;have aq:=a6P (L:=a.links) K I;have W:=b3w K I ac N hf;have R:=c8N w n x.holds a (K5 a.links x.q u) H ga ai al ha aq (λr hr=>(W r hr).m rfl);have aH:=@b7R w a x.holds (K5 a.links x.q u);have ar:=c4t (holds:=x.holds) H ha aq (λr hr=>(W r hr).m rfl);have aA:=(P9 ha).2;unfold bsG;have hR:b1W (gbL w a x.holds (K5 a.links x.q u))=if cellsE (gbL w a x.holds (K5 a.links x.q u))=0 then O5 (gbL w a x.holds (K5 a.links x.q u)) else[]:=rfl
 have U:cellsE (gbL w a x.holds (K5 a.links x.q u))=if a5q (gbL w a x.holds (K5 a.links x.q u))=0 then if 400<(O5 (gbL w a x.holds (K5 a.links x.q u))).length then 2 else 0 else a5q (gbL w a x.holds (K5 a.links x.q u)):=rfl
 rw[hR];generalize gbL w a x.holds (K5 a.links x.q u)=bs at*;generalize K5 a.links x.q u=Q at*;generalize cellsE bs=E at*;obtain⟨tk,ao⟩:∃t,t=V4 (a.links.zip u)+1:=⟨_,rfl⟩
 rw[<- ao]at J;clear W hf ac N hR ao B H;obtain⟨arms,aw,parts,zs,ax,aE⟩:=w;obtain⟨q,v,aJ,holds⟩:=x;obtain⟨aG,⟨bx,aK,aD,tu⟩,links⟩:=a;simp only at ga hn aC ai al K I aA J R;simp only[j4,TT,II,OA,OB,MM,LL,VV,FF];simp only[Wk.c,Wk.enc,Am.c,Am.enc,Ast.c,Ast.enc,ams,wls,pts,sls,gts,lks,rts,bqs,sb,ints]at J R ⊢;(repeat first|refine uA ?_|(refine uK ?_ ?_;focus first|omega|(intros;simp_all<;>omega))|simp(disch:=omega) only[go_sem,Nat.reduceAdd,d0d,d0q,ga,d0e,d0h,Am.enc,lks,sb]|(refine uD J ?_ ?_ ?_;exact tz hw;exact rfl));refine S.cond rfl (λA=>by simp at A) (λA=>?_)
 (repeat first|refine uA ?_|(refine uK ?_ ?_;focus first|omega|(intros;simp_all<;>omega))|simp(disch:=omega) only[go_sem,Nat.reduceAdd]|(refine uD R ?_ ?_ ?_;exact tz hw;exact rfl));refine S.cond rfl (λA=>by simp at A) (λA=>?_)
 clear J R;(repeat first|refine uA ?_|(refine uK ?_ ?_;focus first|omega|(intros;simp_all<;>omega))|simp(disch:=omega) only[go_sem,d0d]);refine S.loop (X:=Nat) (λi=>⟨[(15,.rv 2),(49,.sl 12 (bs.map Bq.enc)),(50,ints bs.length),(51,ints i)],[.gone,.gone,.row 120 2 ((a2d (bs.take i)).map ce)]⟩) (λi=>i<=bs.length/\∀j,j<i->∀c,bs[j]?=some c->ofE c=0) (λi=>bs.length-i) 0 ⟨d0k _,λ_ h=>absurd h (Nat.not_lt_zero _)⟩ (Ent.trans (Ent.pack 15 120 2 rfl) (by(repeat first|refine uA ?_|(refine⟨?_,?_⟩;focus first|rfl|simp[slot])|rfl|simp))) ?_
 rintro i ⟨hi,hm⟩;simp only[ints];(repeat first|refine uA ?_|(refine uK ?_ ?_;focus first|omega|(intros;simp_all<;>omega))|simp(disch:=omega) only[go_sem]);(refine uJ rfl (λA=>?_) λA=>?_)
 ·have ae:i<bs.length:=by omega
  have hg:=d0b ae;generalize bs[i]=b at hg;have hb:=ar b (d0g hg);have o1:=c6O b ⟨hb.1.m rfl,hb.2.1.m rfl,hb.2.2.1.m rfl,hb.2.2.2.m rfl⟩;have hs:a2d (bs.take (i+1))=(ofC b).foldl a0l (a2d (bs.take i)):=by rw[List.take_add_one,hg];exact c1m _ _
  obtain⟨an,_,ak⟩:=a6U (bs.take i);rw[d0r]at ak;have aL:=a9R b;have ah:=λh:ofE b≠0=>b5O hg h hm;have au:ofE b=0->∀j,j<i+1->∀c,bs[j]?=some c->ofE c=0:=λh j hj c aa=>by
   rcases d0B j i with J|J
   ·exact hm j J c aa
   ·have:j=i:=by omega
    subst this;rw[hg]at aa;cases aa;exact h
  have V:(a2d (bs.take i)).length<=50000000:=by omega
  generalize ay:a2d (bs.take (i+1))=T1 at*;generalize a2d (bs.take i)=T at*;generalize ofC b=D at*;generalize ofE b=e at*;simp only[Bq.enc,cls,sb,ints]at o1;(repeat first|refine uA ?_|(refine uK ?_ ?_;focus first|omega|(intros;simp_all<;>omega))|simp(disch:=omega) only[go_sem,Nat.reduceAdd,hg,d0d,d0q,d0e,d0h,Bq.enc,sb]|(refine uD o1 ?_ ?_ ?_;exact tz hw;exact rfl));(refine uJ rfl (λA=>?_) λA=>?_)
  ·have az:=ah A;rw[az,if_neg A]at U;rw[U,if_neg A];(repeat first|refine uA ?_|(refine uK ?_ ?_;focus first|omega|(intros;simp_all<;>omega))|simp(disch:=omega) only[go_sem]);(exact uQ rfl (Imp.tup (by(repeat' (first|exact j3.nil|exact Imp.refl rfl|exact Imp.frz rfl rfl rfl|exact Imp.D8|refine Imp.agg ?_|refine j3.cons ?_ ?_)))) rfl rfl)
  ·have av:e=0:=by omega
   (repeat first|refine uA ?_|(refine uK ?_ ?_;focus first|omega|(intros;simp_all<;>omega))|simp(disch:=omega) only[go_sem,d0d]);refine S.loop (X:=Nat) (λj=>⟨[(15,.rv 2),(49,.sl 12 (bs.map Bq.enc)),(50,ints bs.length),(51,ints i),(63,cls D),(64,ints D.length),(65,ints j)],[.gone,.gone,.row 120 2 (((D.take j).foldl a0l T).map ce)]⟩) (λj=>j<=D.length) (λj=>D.length-j) 0 (d0k _) (by(repeat first|refine uA ?_|(refine⟨?_,?_⟩;focus first|rfl|simp[slot])|rfl|simp)) ?_
   intro j hj;simp only[cls,ints];(repeat first|refine uA ?_|(refine uK ?_ ?_;focus first|omega|(intros;simp_all<;>omega))|simp(disch:=omega) only[go_sem]);(refine uJ rfl (λA=>?_) λA=>?_)
   ·have ab:j<D.length:=by omega
    have F:=d0b ab;generalize D[j]=c at F;have am:(D.take (j+1)).foldl a0l T=a0l ((D.take j).foldl a0l T) c:=by rw[List.take_add_one,F];exact c0P _ _ _
    have aj:=(a8S (D.take j) T an).2.2;rw[d0r]at aj;have aj:((D.take j).foldl a0l T).length<=60000000:=by omega
    generalize ap:(D.take (j+1)).foldl a0l T=M1 at*;generalize(D.take j).foldl a0l T=M at*;have o2:=b4q M c (by omega);simp only[cls]at o2;obtain⟨cx,cy⟩:=c;simp only[ce]at o2;(repeat first|refine uA ?_|(refine uK ?_ ?_;focus first|omega|(intros;simp_all<;>omega))|simp(disch:=omega) only[go_sem,Nat.reduceAdd,F,d0d,d0q,d0e,d0h,ce]|(refine uC o2 ?_ ?_ ?_;exact rfl;focus (repeat' first|exact j3.nil|exact Imp.refl rfl|exact Imp.frz rfl rfl rfl|(refine Imp.O0 rfl rfl ?_ ?_;(focus ((try simp only[d0c,F,d0d,d0q,d0e,d0h,ce]);omega));(focus first|rfl|assumption))|refine j3.cons ?_ ?_);done));generalize ag:M.contains (cx,cy)=ct at*;cases ct
    ·refine S.cond rfl (λA=>?_) (λA=>by simp at A);have hM:M1=M++[(cx,cy)]:=by rw[am];unfold a0l;rw[if_neg (by rw[ag];decide)]
     (repeat first|refine uA ?_|(refine uK ?_ ?_;focus first|omega|(intros;simp_all<;>omega))|simp(disch:=omega) only[go_sem,Nat.reduceAdd,ww,d0d,d0j,List.length_nil]);refine S.next (x:=j) (j+1) (by omega) (by omega) (by simp only[ap,hM,d0u,d0l,d0p,ce];exact(by(repeat first|refine uA ?_|(refine⟨?_,?_⟩;focus first|rfl|simp[slot])|rfl|simp)))
    ·refine S.cond rfl (λA=>by simp at A) (λA=>?_);have hM:M1=M:=by rw[am];unfold a0l;rw[if_pos ag]
     (repeat first|refine uA ?_|(refine uK ?_ ?_;focus first|omega|(intros;simp_all<;>omega))|simp(disch:=omega) only[go_sem,ww]);refine S.next (x:=j) (j+1) (by omega) (by omega) (by simp only[ap,hM];exact(by(repeat first|refine uA ?_|(refine⟨?_,?_⟩;focus first|rfl|simp[slot])|rfl|simp)))
   ·have ab:j=D.length:=by omega
    subst ab;rw[d0w,<- hs];(repeat first|refine uA ?_|(refine uK ?_ ?_;focus first|omega|(intros;simp_all<;>omega))|simp(disch:=omega) only[go_sem,ww]);refine S.next (x:=i) (i+1) ⟨by omega,au av⟩ (by omega) (by simp only[ay];exact(by(repeat first|refine uA ?_|(refine⟨?_,?_⟩;focus first|rfl|simp[slot])|rfl|simp)))
 ·have ae:i=bs.length:=by omega
  subst ae;rw[b2K hm,if_pos rfl]at U;rw[d0w];obtain⟨an,_,ak⟩:=a6U bs;have af:=c6N bs;have aB:=c4q bs;have V:(a2d bs).length<=50000000:=by omega
  generalize a2d bs=T at*;obtain⟨G,hG⟩:∃G:List Gc,G.map (·.1)=T:=⟨T.pmap Subtype.mk af,b5m T af⟩
  have e1:T.map ce=G.map gce:=by rw[<- hG,List.map_map];rfl
  have aI:G.length<=50000000:=by rw[<- hG,d0d]at V;exact V
  have e2:(G.mergeSort leG).map gce=(O5 bs).map ce:=by
   rw[<- aB,<- hG,<- c4Z,List.map_map];rfl
  have h3:=λ(E:Ctx) (hP:E.P=Tryz.prog)=>c6n (E:=E) hP G (by omega);rw[e1];rw[e2]at h3;have aF:=b1y bs;generalize O5 bs=Z at*;generalize G.map gce=Y at*;(repeat first|refine uA ?_|(refine uK ?_ ?_;focus first|omega|(intros;simp_all<;>omega))|simp(disch:=omega) only[go_sem,d0d,List.set_cons_succ,List.set_cons_zero]|refine j5.t (l5.lift (k:=2) rfl (h3 _ rfl) rfl rfl rfl) ?_);(refine uJ rfl (λA=>?_) λA=>?_)
  ·rw[if_pos (by omega)]at U;rw[U,if_neg (by decide)];(repeat first|refine uA ?_|(refine uK ?_ ?_;focus first|omega|(intros;simp_all<;>omega))|simp(disch:=omega) only[go_sem]);(exact uQ rfl (Imp.tup (by(repeat' (first|exact j3.nil|exact Imp.refl rfl|exact Imp.frz rfl rfl rfl|exact Imp.D8|refine Imp.agg ?_|refine j3.cons ?_ ?_)))) rfl rfl)
  ·rw[if_neg (by omega)]at U;rw[U,if_pos rfl];(repeat first|refine uA ?_|(refine uK ?_ ?_;focus first|omega|(intros;simp_all<;>omega))|simp(disch:=omega) only[go_sem]);(exact uQ rfl (Imp.tup (by(repeat' (first|exact j3.nil|exact Imp.refl rfl|exact Imp.frz rfl rfl rfl|exact Imp.D8|refine Imp.agg ?_|refine j3.cons ?_ ?_)))) rfl rfl)
def c1P(w:Wk)(n:Nat)(a:Am)(x:Ast)(u:List Nm.Rt)(h:Wb 1048576 w)(M:w.arms[n]?=some a)(V:J2 a=0)
  (A:x.q.length=a.links.length) (E:u.length=a.links.length) (B:∀r∈x.q,Rb 1048576 r) (F:∀r∈u,Rb 1048576 r) (D:a1S (a.links.zip u)=false) :
  FZ 74 [w.c,ints n,x.c,rts u] (.tup [.v (.slice none 0 0),ints 2]):=by
 refine kW Tryz.func74 (by cbv) (by rfl) λw' O X=>?_;have Z:=(d0i.1 M).1;have K:=h.arms.1;have hl:Ab 1073741824 a:=(R9 V).1.m rfl;have G:=b1E a x.q u hl V A E B F;rw[if_neg (by rw[D];decide)]at G;clear B F D h;obtain⟨arms,N,H,P,I,U⟩:=w;obtain⟨q,v,aa,J⟩:=x;obtain⟨W,⟨bx,Y,R,tu⟩,links⟩:=a;simp only at M Z K A E G;simp only[j4,TT,II,OA,OB,MM,LL,VV,FF];simp only[Wk.c,Wk.enc,Am.c,Am.enc,Ast.c,Ast.enc,ams,wls,pts,sls,gts,lks,rts,sb,ints]at G ⊢
 (repeat first|refine uA ?_|simp(disch:=omega) only[go_sem,Nat.reduceAdd,d0d,d0q,M,d0e,d0h,Am.enc,lks,sb]|refine uD G (tz X) rfl ?_);refine S.cond rfl (λT=>?_) (λT=>by simp at T)
 (exact uX rfl rfl (Imp.tup (by repeat' first|exact j3.nil|exact Imp.refl rfl|apply j3.cons)) rfl rfl)
def c1t(w:Wk)(n:Nat)(a:Am)(x:Ast)(u:List Nm.Rt)(D:Wb 1048576 w)(I:w.arms[n]?=some a)(J:J2 a=0)(G:-1<=x.holds)(H:x.holds<w.parts.length)
  (B:x.q.length=a.links.length) (A:u.length=a.links.length) (E:∀r∈x.q,Rb 1048576 r) (F:∀r∈u,Rb 1048576 r) :
  FZ 74 [w.c,ints n,x.c,rts u] (.tup [cls (cellL w a x u),ints (a2V w a x u)]):=by
 unfold cellL a2V;cases h:a1S (a.links.zip u) with
 | true=>exact c2c w n a x u D I J G H B A E F h
 | false=>exact(c1P w n a x u D I J B A E F h).imp rfl (Imp.tup (j3.cons Imp.D8 (j3.cons (Imp.refl rfl) j3.nil))) rfl
def c3T(w:Wk)(n:Nat)(a:Am)(x:Ast)(u:Wb 1048576 w)(E:w.arms[n]?=some a)(J:J2 a=0)(F:-1<=x.holds)(I:x.holds<w.parts.length)
  (A:x.q.length=a.links.length) (B:x.v.length=a.links.length) (h:Asb 131072 x) :
  FZ 39 [w.c,ints n,x.c] (.tup [cls (cellL w a x (X4 a x)),ints (a2V w a x (X4 a x))]):=by
 refine kW Tryz.func39 (by cbv) (by rfl) λw' O R=>?_;have X:=(d0i.1 E).1;have H:=u.arms.1;have V:Ab 1073741824 a:=(R9 J).1.m rfl;have D:=c1A a x V ⟨⟨d0f h.1.1 (by decide),λr hr=>(h.1.2 r hr).m rfl⟩,d0f h.2.1 (by decide),λr hr=>(h.2.2 r hr).m rfl⟩ A B;have K:=c1t w n a x (X4 a x) u E J F I A (b5j B) (λr hr=>(h.1.2 r hr).m rfl) (c1B J h.2.2);clear u V h;unfold b8K at D;generalize cellL w a x (X4 a x)=cl at*;generalize a2V w a x (X4 a x)=Y at*;generalize a7s a x=bq at*;generalize X4 a x=bv at*;obtain⟨arms,M,parts,N,G,T⟩:=w;obtain⟨q,v,Z,holds⟩:=x;obtain⟨U,⟨bx,W,P,tu⟩,links⟩:=a
 simp only at E X H A B D K;simp only[j4,TT,II,OA,MM,LL,VV,FF];simp only[Wk.c,Wk.enc,Am.c,Am.enc,Ast.c,Ast.enc,ams,wls,pts,sls,gts,lks,rts,cls,sb,ints]at D K ⊢;(repeat first|refine uA ?_|simp(disch:=omega) only[go_sem,Nat.reduceAdd,d0d,d0q,E,d0e,d0h,Am.enc,lks,sb]|refine uD D (tz R) rfl ?_|refine uD K (tz R) rfl ?_);(exact uQ rfl (Imp.tup (by repeat' first|exact j3.nil|exact Imp.refl rfl|apply j3.cons)) rfl rfl)
def b1X(t:Int)(z:Lk×Nm.Rt×Nm.Rt):Bool:=!decide (0<Nm.A9 (q9 (Nm.d9 z.2.1-Nm.d9 z.2.2)) (Nm.d9 z.1.speed*(t:Rat)))
def a8i(a:Am)(k n:Ky):Bool:=(a.links.zip (n.q.zip k.q)).all (b1X (n.tick-k.tick))
def c7R(a:Am)(k n:Ky)(hl:Ab 1048576 a)(hk:k.q.length=a.links.length)(hn:n.q.length=a.links.length)(bk:Rbs 131072 k.q)(bn:Rbs 131072 n.q)(tk:0<=k.tick/\k.tick<=2000)(tn:0<=n.tick/\n.tick<=2000) :
  FZ 72 [a.c,k.c,n.c] (.v (.bool (a8i a k n))):=by
 refine kW Tryz.func72 (by cbv) (by rfl) λw O F=>?_;unfold a8i;obtain⟨kt,q⟩:=k;obtain⟨nt,u⟩:=n;obtain⟨ab,⟨bx,ag,aa,tu⟩,links⟩:=a;obtain⟨b0,⟨b1,b2,b3⟩,R,hb⟩:=hl;simp only at b0 b1 b2 b3 R hb hk hn bk bn tk tn ⊢;obtain⟨ac,V⟩:=bk;obtain⟨ah,Y⟩:=bn;obtain⟨T,hT⟩:∃T,T=nt-kt:=⟨_,rfl⟩
 have o0:=a2M T (by omega) (by omega);have H:Rb 8 (Nm.ofQ (T:Rat)):=a3W (by omega);rw[<- hT];simp only[j4,TT,II,OA,OB,MM,LL,VV,FF];simp only[Am.c,Am.enc,lks,Ky.c,Ky.enc,rts,rq,rc,sb,ints]at o0 ⊢
 (repeat first|refine uA ?_|simp(disch:=omega) only[go_sem,Nat.reduceAdd,ww,<- hT,d0d]|refine uD o0 (tz F) rfl ?_);refine S.loop (X:=Nat) (λi=>⟨[(4,.bp 1 0),(5,.bp 2 0),(7,.bp 3 0),(17,lks links),(18,ints links.length),(19,ints i)],[.gone,.box 101 [ints kt,rts q],.box 101 [ints nt,rts u],.box 29 (rcs (Nm.ofQ (T:Rat)))]⟩) (λi=>i<=links.length/\(links.zip (u.zip q)).all (b1X T)=((links.zip (u.zip q)).drop i).all (b1X T)) (λi=>links.length-i) 0 ⟨d0k _,rfl⟩ (by repeat first|refine uA ?_|refine⟨rfl,?_⟩|rfl|simp) ?_
 rintro i ⟨hi,N⟩;simp only[rts,lks,rcs,sb,ints];refine uV rfl ?_;apply uJ rfl<;>intro hc
 ·have W:i<links.length:=by omega
  have E:=d0b W;have B:=d0b (show i<q.length by omega);have h:=d0b (show i<u.length by omega);generalize links[i]=l at E;generalize q[i]'_=D at B;generalize u[i]'_=A at h;have K:=c3v (f:=b1X T) (M5 E (M5 h B));have bl:=hb l (d0g E);have bq:=V D (d0g B);have bu:=Y A (d0g h);have P:=R6 (bu.g rfl) (bq.g rfl);have bm:=L6 (bl.2.2.2.1.g rfl) H;have U:=a5c A D (bu.m rfl) (bq.m rfl);have I:=a2W (Nm.ofQ (Nm.d9 A-Nm.d9 D)) (P.m rfl);have J:=b4R l.speed (Nm.ofQ (T:Rat)) (bl.2.2.2.1.m rfl) (H.m rfl);rw[Nm.y8]at I J;have M:=P8 (Nm.ofQ (q9 (Nm.d9 A-Nm.d9 D))) (Nm.ofQ (Nm.d9 l.speed*(T:Rat))) ((a6H P).m rfl) (bm.m rfl);rw[Nm.y8,Nm.y8]at M
  have Z:b1X T (l,A,D)=!decide (0<Nm.A9 (q9 (Nm.d9 A-Nm.d9 D)) (Nm.d9 l.speed*(T:Rat))):=rfl;rw[Z]at K;clear Z P bm;generalize Nm.A9 (q9 (Nm.d9 A-Nm.d9 D)) (Nm.d9 l.speed*(T:Rat))=c1 at*;unfold rq at U I J;generalize Nm.ofQ (Nm.d9 A-Nm.d9 D)=z at*;generalize Nm.ofQ (q9 (Nm.d9 A-Nm.d9 D))=az at*;generalize Nm.ofQ (Nm.d9 l.speed*(T:Rat))=m at*;generalize Nm.ofQ (T:Rat)=tt at*;have ae:(i:Int)<q.length:=by omega
  have af:(i:Int)<u.length:=by omega
  simp only[rc,sb,ints]at U I J M;(repeat first|refine uA ?_|simp(disch:=omega) only[go_sem,Nat.reduceAdd,E,B,h,d0e,d0d,Lk.enc,rcs,vts,sb,d0h]|refine uD U (tz F) rfl ?_|refine uD I (tz F) rfl ?_|refine uD J (tz F) rfl ?_|refine uD M (tz F) rfl ?_);apply S.cond rfl<;>intro G
  ·rw[N,K,G];exact uT rfl rfl rfl
  ·rw[G]at K;(repeat first|refine uA ?_|simp(disch:=omega) only[go_sem]);exact S.next (i+1) ⟨by omega,by rw[N,K];rfl⟩ (by omega) (by repeat first|refine uA ?_|refine⟨rfl,?_⟩|rfl|simp)
 ·rw[N,List.drop_eq_nil_of_le (by simp only[List.length_zip];omega),List.all_nil];exact uT rfl rfl rfl
def a5A(a:Am):Option Ky->List Ky->Int
 | _,[]=>0
 | p,k::r=>if k.tick<0\/2000<k.tick then 1 else if Y1 a k.q≠0 then Y1 a k.q else match p with
  | none=>a5A a (some k) r
  | some p=>if k.tick<=p.tick then 9 else if a8i a p k=false then 19 else a5A a (some k) r
def b9K(a:Am)(p:Option Ky)(k:Ky)(r:List Ky):a5A a p (k::r)=if k.tick<0\/2000<k.tick then 1 else if Y1 a k.q≠0 then Y1 a k.q else match p with
  | none=>a5A a (some k) r
  | some p=>if k.tick<=p.tick then 9 else if a8i a p k=false then 19 else a5A a (some k) r:=by cases p<;>rfl
def b9Z(a:Am)(p:Option Ky):a5A a p []=0:=by cases p<;>rfl
def a6s(a:Am)(t:List Ky):Int:=if J2 a≠0 then J2 a else if t.length=0 then 14 else if 60<t.length then 2 else a5A a none t
def b4m{a:Am}{q:List Nm.Rt}(h:Y1 a q=0):q.length=a.links.length:=by
 unfold Y1 at h;split at h
 ·rename_i u;exact absurd h u
 ·split at h
  ·cases h
  ·rename_i A;exact Decidable.of_not_not A
def prevK(t:List Ky):Nat->Option Ky
 | 0=>none
 | i+1=>t[i]?
def b8d(a:Am)(t:List Ky)(Z:Ab 1048576 a)(ht:t.length<=131072)(R:∀k∈t,Kyb 131072 k):FZ 37 [a.c,kys t] (ints (a6s a t)):=by
 refine kW Tryz.func37 (by cbv) (by rfl) λw O V=>?_;have E:=a6D a (Z.m rfl);unfold a6s;have P:=λ(k:Ky) (hk:k∈t)=>b4E a k.q (Z.m rfl) ⟨d0f (R k hk).2.1 (by decide),λr hr=>((R k hk).2.2 r hr).m rfl⟩;have h3:=λ(p k:Ky) (W:p∈t) (hk:k∈t) (E:Y1 a p.q=0) (P:Y1 a k.q=0)=>c7R a p k Z (b4m E) (b4m P) (R p W).2 (R k hk).2;generalize hK:a5A a none t=K;generalize J2 a=A at E ⊢;simp only[j4,TT,II,OA,OB,OC,MM,LL,VV,FF,VG,FG];simp only[Am.c,Am.enc,lks,kys,Ky.c,Ky.enc,rts,sb,ints]at E P h3 ⊢;(repeat first|refine uA ?_|simp(disch:=omega) only[go_sem,Nat.reduceAdd]|refine uD E (tz V) rfl ?_);apply uJ rfl<;>intro B
 ·rw[if_pos B];exact uT rfl rfl rfl
 rw[if_neg (by omega)];(repeat first|refine uA ?_|simp(disch:=omega) only[go_sem,d0d]);apply uJ rfl<;>intro B
 ·rw[if_pos (by omega)];exact uT rfl rfl rfl
 rw[if_neg (by omega)];(repeat first|refine uA ?_|simp(disch:=omega) only[go_sem,d0d]);apply uJ rfl<;>intro B
 ·rw[if_pos (by omega)];exact uT rfl rfl rfl
 rw[if_neg (by omega)];(repeat first|refine uA ?_|simp(disch:=omega) only[go_sem,d0d]);refine S.loop (X:=Nat) (λi=>⟨[(1,kys t),(2,.bp 0 0),(20,kys t),(21,ints t.length),(22,ints i)],[.box 73 a.enc]⟩) (λi=>i<=t.length/\K=a5A a (prevK t i) (t.drop i)/\∀j k,j<i->t[j]?=some k->(0<=k.tick/\k.tick<=2000)/\Y1 a k.q=0) (λi=>t.length-i) 0 ⟨d0k _,hK.symm,λ_ _ h=>absurd h (Nat.not_lt_zero _)⟩ (by repeat first|refine uA ?_|refine⟨rfl,?_⟩|rfl|simp) ?_
 rintro i ⟨hi,u,hM⟩;simp only[Am.enc,lks,kys,sb,ints];refine uV rfl ?_;apply uJ rfl<;>intro B
 ·have U:i<t.length:=by omega
  have N:=d0b U;rw[List.drop_eq_getElem_cons U]at u;generalize t[i]=k at N u;have I:=d0g N;have o1:=P k I;have ab:=(R k I).1;rw[b9K]at u;(repeat first|refine uA ?_|simp(disch:=omega) only[go_sem,Nat.reduceAdd,N,d0e,d0d,d0h,Ky.enc,rts]);apply uJ rfl<;>intro B
  ·rw[if_pos B]at u;rw[u];exact uT rfl rfl rfl
  rw[if_neg (by omega)]at u;have G:Y1 a k.q=0->∀j M,j<i+1->t[j]?=some M->(0<=M.tick/\M.tick<=2000)/\Y1 a M.q=0:=λh j M hj J=>by
   rcases d0B j i with E|E
   ·exact hM j M E J
   ·have:j=i:=by omega
    subst this;rw[N]at J;cases J;exact⟨by omega,h⟩
  have T:=λp W E P=>h3 p k W I E P;have aa:∀p,a8i a p k=a8i a p k:=λ_=>rfl;obtain⟨F,hF⟩:∃F,F=Y1 a k.q:=⟨_,rfl⟩
  rw[<- hF]at o1 u G T;(repeat first|refine uA ?_|simp(disch:=omega) only[go_sem,Nat.reduceAdd]|refine uD o1 (tz V) rfl ?_);apply uJ rfl<;>intro B
  ·rw[if_pos B]at u;rw[u];exact uT rfl rfl rfl
  have H:F=0:=by omega
  rw[if_neg (by omega)]at u;rcases i with _|m
  ·simp only[prevK]at u;refine uV rfl ?_;refine S.cond rfl (λB=>?_) (λB=>by simp at B);(repeat first|refine uA ?_|simp(disch:=omega) only[go_sem]);exact S.next (x:=0) (0+1) ⟨by omega,by simp only[prevK,N];exact u,G H⟩ (by omega) (by repeat first|refine uA ?_|refine⟨rfl,?_⟩|rfl|simp)
  ·have D:=d0b (show m<t.length by omega);simp only[prevK]at u;rw[D]at u;generalize t[m]'_=p at D u;obtain⟨tp,fp⟩:=hM m p (by omega) D;have Y:=d0g D;have o2:=T p Y fp H tp (by omega);have em:((m+1:Nat):Int)-1=(m:Int):=by omega
   simp only at u;generalize a8i a p k=sl at*;(repeat first|refine uA ?_|simp(disch:=omega) only[go_sem]);refine S.cond rfl (λB=>by simp at B;omega) (λB=>?_)
   (repeat first|refine uA ?_|simp(disch:=omega) only[go_sem,Nat.reduceAdd,ww,em,D,d0e,d0d,d0h,Ky.enc,rts]);apply uJ rfl<;>intro B
   ·rw[if_pos B]at u;rw[u];exact uT rfl rfl rfl
   rw[if_neg (by omega)]at u;(repeat first|refine uA ?_|simp(disch:=omega) only[go_sem,Nat.reduceAdd,ww,em,D,d0e,d0d,d0h,Ky.enc,rts]|refine uD o2 (tz V) rfl ?_);cases sl
   ·refine S.cond rfl (λB=>?_) (λB=>by simp at B);rw[if_pos rfl]at u;rw[u];exact uT rfl rfl rfl
   ·refine S.cond rfl (λB=>by simp at B) (λB=>?_);rw[if_neg (by decide)]at u;(repeat first|refine uA ?_|simp(disch:=omega) only[go_sem]);exact S.next (x:=m+1) (m+1+1) ⟨by omega,by simp only[prevK,N];exact u,G H⟩ (by omega) (by repeat first|refine uA ?_|refine⟨rfl,?_⟩|rfl|simp)
 ·rw[List.drop_eq_nil_of_le (by omega)]at u;rw[b9Z]at u;rw[u];exact uT rfl rfl rfl
set_option maxHeartbeats 8000000
def c7J(g:Nat)(D:callable Tryz.prog g=true)(I:List C)(p:List Cl->Bool)(l:List (List Cl))(P:l.length<=1000000000)(M:∀x∈l,FZ g [cls x,.ep I] (.v (.bool (p x)))) :
  FZ 187 [a1O l,.clo g [.ep I]] (ints (a1b p l)):=by
 refine kW Tryz.func187 (by cbv) (by rfl) λw O K=>?_;simp only[j4,TT,II,OA,MM,VV,a1O,ints];(repeat first|refine uA ?_|simp(disch:=omega) only[go_sem,Nat.reduceAdd,d0d]);refine S.loop (X:=Nat) (λi=>⟨[(0,a1O l),(1,.clo g [.ep I]),(7,ints l.length),(8,ints i)],[]⟩) (λi=>i<=l.length/\∀j,j<i->∀x,l[j]?=some x->p x=false) (λi=>l.length-i) 0 ⟨d0k _,λ_ h=>absurd h (Nat.not_lt_zero _)⟩ (by repeat first|refine uA ?_|refine⟨rfl,?_⟩|rfl|simp) ?_
 rintro i ⟨T,F⟩;simp only[a1O,ints];refine uV rfl ?_;apply uJ rfl<;>intro N
 ·have A:i<l.length:=by omega
  have u:=d0b A;generalize l[i]=x at u;have G:=M x (d0g u);simp only[cls]at G;generalize E:p x=b at G;(repeat first|refine uA ?_|simp(disch:=omega) only[go_sem,u,d0e,d0d,d0q,cls,d0h,D]|refine uD G (tz K) rfl ?_);apply S.cond rfl<;>intro B
  ·rw[a2e (p:=p) u (E.trans B) F];exact uT rfl rfl rfl
  ·(repeat first|refine uA ?_|simp(disch:=omega) only[go_sem]);refine S.next (i+1) ⟨by omega,λj R y H=>?_⟩ (by omega) (by repeat first|refine uA ?_|refine⟨rfl,?_⟩|rfl|simp)
   rcases d0B j i with J|J
   ·exact F j J y H
   ·have:j=i:=by omega
    subst this;rw[u]at H;cases H;exact E.trans B
 ·have A:i=l.length:=by omega
  subst A;rw[a1l F];exact uT rfl rfl rfl
def c8b(g:Nat)(u:callable Tryz.prog g=true)(A:List C)(p:List Cl->Bool)(l:List (List Cl))(E:l.length<=1000000000)(D:∀x∈l,FZ g [cls x,.ep A] (.v (.bool (p x)))) :
  FZ 145 [a1O l,.clo g [.ep A]] (.v (.bool (l.any p))):=by
 refine kW Tryz.func145 (by cbv) (by rfl) λw O B=>?_;have h:=c7J g u A p l E D;rw[<- a2A];generalize a1b p l=n at*;simp only[j4,TT,II,OA,MM];simp only[a1O,ints]at*;(repeat first|refine uA ?_|simp(disch:=omega) only[go_sem,Nat.reduceAdd]|refine uD h (tz B) rfl ?_);exact uS rfl rfl
def c6r(g:Nat)(D:callable Tryz.prog g=true)(I:List C)(p:Vt->Bool)(l:List (Vt))(P:l.length<=1000000000)(M:∀x∈l,FZ g [x.c,.ep I] (.v (.bool (p x)))) :
  FZ 148 [vts l,.clo g [.ep I]] (ints (a1b p l)):=by
 refine kW Tryz.func148 (by cbv) (by rfl) λw O K=>?_;simp only[j4,TT,II,OA,MM,LL,vts,ints];(repeat first|refine uA ?_|simp(disch:=omega) only[go_sem,Nat.reduceAdd,d0d]);refine S.loop (X:=Nat) (λi=>⟨[(0,vts l),(1,.clo g [.ep I]),(7,ints l.length),(8,ints i)],[]⟩) (λi=>i<=l.length/\∀j,j<i->∀x,l[j]?=some x->p x=false) (λi=>l.length-i) 0 ⟨d0k _,λ_ h=>absurd h (Nat.not_lt_zero _)⟩ (by repeat first|refine uA ?_|refine⟨rfl,?_⟩|rfl|simp) ?_
 rintro i ⟨T,F⟩;simp only[vts,ints];refine uV rfl ?_;apply uJ rfl<;>intro N
 ·have A:i<l.length:=by omega
  have u:=d0b A;generalize l[i]=x at u;have G:=M x (d0g u);simp only[Vt.c,Vt.enc,sb]at G;generalize E:p x=b at G;(repeat first|refine uA ?_|simp(disch:=omega) only[go_sem,Nat.reduceAdd,u,d0e,d0d,d0q,Vt.enc,sb,d0h,D]|refine uD G (tz K) rfl ?_);apply S.cond rfl<;>intro B
  ·rw[a2e (p:=p) u (E.trans B) F];exact uT rfl rfl rfl
  ·(repeat first|refine uA ?_|simp(disch:=omega) only[go_sem]);refine S.next (i+1) ⟨by omega,λj R y H=>?_⟩ (by omega) (by repeat first|refine uA ?_|refine⟨rfl,?_⟩|rfl|simp)
   rcases d0B j i with J|J
   ·exact F j J y H
   ·have:j=i:=by omega
    subst this;rw[u]at H;cases H;exact E.trans B
 ·have A:i=l.length:=by omega
  subst A;rw[a1l F];exact uT rfl rfl rfl
def c5F(g:Nat)(u:callable Tryz.prog g=true)(A:List C)(p:Vt->Bool)(l:List (Vt))(E:l.length<=1000000000)(D:∀x∈l,FZ g [x.c,.ep A] (.v (.bool (p x)))) :
  FZ 103 [vts l,.clo g [.ep A]] (.v (.bool (l.any p))):=by
 refine kW Tryz.func103 (by cbv) (by rfl) λw O B=>?_;have h:=c6r g u A p l E D;rw[<- a2A];generalize a1b p l=n at*;simp only[j4,TT,II,OA,MM];simp only[vts,ints]at*;(repeat first|refine uA ?_|simp(disch:=omega) only[go_sem,Nat.reduceAdd]|refine uD h (tz B) rfl ?_);exact uS rfl rfl
def c5W(m l:List Cl)(A:m.length<=100000000)(u:l.length<=100000000):FZ 146 [cls m,.ep [cls l]] (.v (.bool (l.any λc=>m.contains c))):=by
 refine kW Tryz.func146 (by cbv) (by rfl) λw O B=>?_;have h:=c8v l m u A;rw[<- c3y];generalize a8C l m=z at*;rw[show decide (0<z.length)=decide ((0:Int)<(z.length:Int)) by simp];simp only[j4,TT,II,OA,MM,VV];simp only[cls]at*;(repeat first|refine uA ?_|simp(disch:=omega) only[go_sem,Nat.reduceAdd,d0d]|refine uB h rfl ?_);exact uS rfl rfl
def a3A(w:Nm.Rt)(n:Nm.Rt):Bool:=!F9 n||decide (0<Nm.A9 (q9 (Nm.d9 n)) (Nm.d9 w))
def c1M(d:Dy)(n:Nm.Rt)(D:Rb 131072 n)(B:Rb 131072 d.works.walk):FZ 102 [rc n,.ep d.enc] (.v (.bool (a3A d.works.walk n))):=by
 refine kW Tryz.func102 (by cbv) (by rfl) λw O h=>?_;have E:=a0S n (D.m rfl);have A:=a2W n (D.m rfl);have u:=P8 (Nm.ofQ (q9 (Nm.d9 n))) d.works.walk (a6H ((D.g rfl).m rfl)) (B.m rfl);rw[Nm.y8]at u;have F:a3A d.works.walk n=(!decide n.I4||decide (0<Nm.A9 (q9 (Nm.d9 n)) (Nm.d9 d.works.walk))):=rfl;rw[F];generalize Nm.A9 (q9 (Nm.d9 n)) (Nm.d9 d.works.walk)=H at*;generalize decide n.I4=G at*;unfold rq at A;generalize Nm.ofQ (q9 (Nm.d9 n))=z at*;simp only[j4,TT,II,OA,OC,MM,LL,LG,FG];simp only[rc,Dy.enc,sb,ints]at E A u ⊢
 (repeat first|refine uA ?_|simp(disch:=omega) only[go_sem,Nat.reduceAdd]|refine uD E (tz h) rfl ?_|refine uD A (tz h) rfl ?_|refine uD u (tz h) rfl ?_);cases G
 ·exact uS rfl rfl
 ·exact uS rfl rfl
def c8t(d:Dy)(v:Vt)(B:Vb 131072 v)(u:Rb 131072 d.works.walk):FZ 104 [v.c,.ep [.clo 102 [.ep d.enc]]] (.v (.bool (a3A d.works.walk v.x||a3A d.works.walk v.y))):=by
 refine kW Tryz.func104 (by cbv) (by rfl) λw O A=>?_;have h:callable Tryz.prog 102=true:=by kernel_rfl
 have E:=c1M d v.x B.1 u;have D:=c1M d v.y B.2 u;generalize a3A d.works.walk v.x=F at*;generalize a3A d.works.walk v.y=G at*;simp only[j4,TT,OA,OC,MM,LL,VV,FF,LG,VG,FG];simp only[Vt.c,Vt.enc,rc,sb]at E D ⊢;(repeat first|refine uA ?_|simp(disch:=omega) only[go_sem,Nat.reduceAdd,h]|refine uD E (tz A) rfl ?_|refine uD D (tz A) rfl ?_);cases F
 ·exact uS rfl rfl
 ·exact uS rfl rfl
set_option maxHeartbeats 16000000
def K6(w:Wk)(z:Am×Ast):List Cl:=cellL w z.1 z.2 (X4 z.1 z.2)
def a3h(w:Wk)(z:Am×Ast):Int:=a2V w z.1 z.2 (X4 z.1 z.2)
def a2U(w:Wk):List (List Cl)->List (Am×Ast)->Int
 | _,[]=>0
 | o,z::r=>if a3h w z≠0 then a3h w z else if(o.any λm=>(K6 w z).any λc=>m.contains c)=true then 10 else a2U w (o++[K6 w z]) r
def a7w(w:Wk):List Cl->List (Am×Ast)->Int
 | _,[]=>0
 | o,z::r=>if a3h w z≠0 then a3h w z else if((K6 w z).any λc=>o.contains c)=true then 10 else a7w w (o++K6 w z) r
theorem b5z(w:Wk):∀(B:List (Am×Ast)) (ls:List (List Cl)),a2U w ls B=0->a7w w ls.flatten B=0
 | [],_,_=>rfl
 | z::r,ls,h=>by
  unfold a2U at h;unfold a7w;split at h
  ·rename_i h1;exact absurd h h1
  rename_i h1;rw[if_neg h1];split at h
  ·cases h
  rename_i h2;rw[if_neg]
  ·have:=b5z w r _ h;rwa[List.flatten_append,List.flatten_cons,List.flatten_nil,List.append_nil]at this
  ·intro A;refine h2 ?_;rw[List.any_eq_true]at A ⊢;obtain⟨c,E,D⟩:=A;rw[List.contains_iff_mem,List.mem_flatten]at D;obtain⟨m,F,u⟩:=D;refine⟨m,F,?_⟩;rw[List.any_eq_true];exact⟨c,E,List.contains_iff_mem.2 u⟩
def a7t(w:Wk)(z:Am×Ast):(K6 w z).length<=400:=by
 unfold K6 cellL;split
 ·rename_i h;unfold a2V at h;split at h
  ·exact(b7d h).2
  ·cases h
 ·exact d0k _
def b9v(w:Wk)(o:List (List Cl))(z:Am×Ast)(r:List (Am×Ast)):a2U w o (z::r)=if a3h w z≠0 then a3h w z else if(o.any λm=>(K6 w z).any λc=>m.contains c)=true then 10 else a2U w (o++[K6 w z]) r:=by rw[a2U]
def c7w(d:Dy)(T:Wb 131072 d.works)(N:Stb 131072 d.start)(aa:Z5 d.works d.start=0) :
  FZ 101 [d.c] (.tup [a1O (if a2U d.works [] (d.works.arms.zip d.start.arms)=0 then(d.works.arms.zip d.start.arms).map (K6 d.works) else[]),ints (a2U d.works [] (d.works.arms.zip d.start.arms))]):=by
 refine kW Tryz.func101 (by cbv) (by rfl) λw' O hw=>?_;have G:=b0A aa;have ab:=G.arms;have ac:=G.big;have h:=λ(i:Nat) (a:Am) (x:Ast) (D:d.works.arms[i]?=some a) (A:d.start.arms[i]?=some x)=>c0H (G.one (a,x) (d0g (M5 D A)));have hR:=λ(i:Nat) (a:Am) (x:Ast) (D:d.works.arms[i]?=some a) (A:d.start.arms[i]?=some x)=>c5L d.works i a x (T.m rfl) D (h i a x D A).arm (h i a x D A).holds.1 (h i a x D A).holds.2 (h i a x D A).q (h i a x D A).v (N.arms.2 x (d0g A));have H:callable Tryz.prog 146=true:=by kernel_rfl
 have F:=λ(out:List (List Cl)) (l:List Cl) (R:out.length<=1000000000) (Z:∀m∈out,m.length<=400) (h3:l.length<=400)=>c8b 146 H [cls l] (λm=>l.any λc=>m.contains c) out R λm W=>c5W m l (d0f (Z m W) (by decide)) (d0f h3 (by decide));have ae:Wk.c d.works=.agg d.works.enc:=rfl;generalize hZ:d.works.arms.zip d.start.arms=u;have ag:u.length=d.start.arms.length:=by rw[<- hZ,List.length_zip];omega
 have U:∀(i:Nat) (a:Am) (x:Ast),d.works.arms[i]?=some a->d.start.arms[i]?=some x->u[i]?=some (a,x):=λi a x R Z=>by rw[<- hZ];exact M5 R Z
 generalize hK:a2U d.works [] u=K;simp only[j4,TT,II,OA,OB,MM,LL,VV,FF];simp only[Dy.c,Dy.enc,Wk.c,Wk.enc,Ast.c,Ast.enc,ams,wls,pts,sls,gts,J9,frs,vts,bls,tks,fts,rts,a1O,cls,sb,ints]at hR F ⊢
 (repeat first|refine uA ?_|(refine uK ?_ ?_;focus first|omega|(intros;simp_all<;>omega))|simp(disch:=omega) only[go_sem,Nat.reduceAdd,d0d]);refine S.loop (X:=Nat) (λi=>⟨[(1,.bp 0 0),(4,.rv 1),(11,J9 d.start.arms),(12,ints d.start.arms.length),(13,ints i)],[.box 41 d.enc,.row 113 1 (((u.take i).map (K6 d.works)).map λl=>[cls l])]⟩) (λi=>i<=d.start.arms.length/\K=a2U d.works ((u.take i).map (K6 d.works)) (u.drop i)) (λi=>d.start.arms.length-i) 0 ⟨d0k _,hK.symm⟩ (Ent.trans (Ent.pack 4 113 1 rfl) (by(repeat first|refine uA ?_|(refine⟨?_,?_⟩;focus first|rfl|simp[slot])|rfl|simp))) ?_
 rintro i ⟨hi,B⟩;simp only[Dy.enc,ams,wls,pts,sls,gts,J9,frs,vts,bls,tks,fts,sb,ints];(repeat first|refine uA ?_|(refine uK ?_ ?_;focus first|omega|(intros;simp_all<;>omega))|simp(disch:=omega) only[go_sem]);(refine uJ rfl (λE=>?_) λE=>?_)
 ·have M:i<d.start.arms.length:=by omega
  have A:=d0b M;have D:=d0b (show i<d.works.arms.length by omega);generalize d.start.arms[i]=x at A;generalize d.works.arms[i]'_=a at D;have hz:=U i a x D A;have P:u.drop i=(a,x)::u.drop (i+1):=by
   obtain⟨hl,he⟩:=d0i.1 hz;rw[List.drop_eq_getElem_cons hl,he]
  have J:(u.take (i+1)).map (K6 d.works)=(u.take i).map (K6 d.works)++[K6 d.works (a,x)]:=by rw[List.take_add_one,hz,d0u];rfl
  rw[P,b9v]at B;have o1:=hR i a x D A;have V:=a7t d.works (a,x);have Y:∀m∈(u.take i).map (K6 d.works),m.length<=400:=λm W=>by obtain⟨y,_,rfl⟩:=List.mem_map.1 W;exact a7t _ _
  have af:((u.take i).map (K6 d.works)).length<=1000000:=by rw[d0d,d0r];omega
  have o2:=F ((u.take i).map (K6 d.works)) (K6 d.works (a,x)) (by omega) Y V;rw[show cellL d.works a x (X4 a x)=K6 d.works (a,x) from rfl,show a2V d.works a x (X4 a x)=a3h d.works (a,x) from rfl]at o1;generalize I:(u.take (i+1)).map (K6 d.works)=L1 at*;generalize(u.take i).map (K6 d.works)=L at*;generalize a3h d.works (a,x)=e at*;generalize K6 d.works (a,x)=l at*;(repeat first|refine uA ?_|(refine uK ?_ ?_;focus first|omega|(intros;simp_all<;>omega))|simp(disch:=omega) only[go_sem,Nat.reduceAdd,A,d0e,d0d,d0q,d0h,Ast.enc,rts]|(refine uD o1 ?_ ?_ ?_;exact tz hw;exact rfl));(refine uJ rfl (λE=>?_) λE=>?_)
  ·rw[if_pos E]at B;rw[B,if_neg E];(repeat first|refine uA ?_|(refine uK ?_ ?_;focus first|omega|(intros;simp_all<;>omega))|simp(disch:=omega) only[go_sem]);(exact uQ rfl (Imp.tup (by(repeat' (first|exact j3.nil|exact Imp.refl rfl|exact Imp.frz rfl rfl rfl|exact Imp.D8|refine Imp.agg ?_|refine j3.cons ?_ ?_)))) rfl rfl)
  rw[if_neg (by omega)]at B;generalize(L.any λm=>l.any λc=>m.contains c)=an at*;(repeat first|refine uA ?_|(refine uK ?_ ?_;focus first|omega|(intros;simp_all<;>omega))|simp(disch:=omega) only[go_sem]|(refine uE o2 ?_ ?_ ?_ ?_;exact tz hw;exact rfl;focus (repeat' first|exact j3.nil|exact Imp.refl rfl|exact Imp.D8|exact Imp.fbx rfl rfl (j3.refl rfl) rfl rfl|refine Imp.clo ?_|exact Imp.frz rfl rfl rfl|(refine Imp.O0 rfl rfl ?_ ?_;(focus ((try simp only[d0c]);omega));(focus first|rfl|assumption))|refine Imp.agg ?_|refine j3.cons ?_ ?_);done));cases an
  ·refine S.cond rfl (λE=>by simp at E) (λE=>?_);rw[if_neg (by decide)]at B;(repeat first|refine uA ?_|(refine uK ?_ ?_;focus first|omega|(intros;simp_all<;>omega))|simp(disch:=omega) only[go_sem,Nat.reduceAdd,ww,d0d,d0j,List.length_nil,d0l,d0p]);refine S.next (x:=i) (i+1) ⟨by omega,by rw[I,J];exact B⟩ (by omega) (by simp only[I,J,d0u,d0l,d0p,cls];exact(by(repeat first|refine uA ?_|(refine⟨?_,?_⟩;focus first|rfl|simp[slot])|rfl|simp)))
  ·refine S.cond rfl (λE=>?_) (λE=>by simp at E);rw[if_pos rfl]at B;rw[B,if_neg (by decide)];(repeat first|refine uA ?_|(refine uK ?_ ?_;focus first|omega|(intros;simp_all<;>omega))|simp(disch:=omega) only[go_sem]);(exact uQ rfl (Imp.tup (by(repeat' (first|exact j3.nil|exact Imp.refl rfl|exact Imp.frz rfl rfl rfl|exact Imp.D8|refine Imp.agg ?_|refine j3.cons ?_ ?_)))) rfl rfl)
 ·have M:i=u.length:=by omega
  rw[List.drop_eq_nil_of_le (by omega)]at B;have B:K=0:=B;rw[d0y (by omega),B,if_pos rfl];generalize u.map (K6 d.works)=L;simp only[cls];(repeat first|refine uA ?_|(refine uK ?_ ?_;focus first|omega|(intros;simp_all<;>omega))|simp(disch:=omega) only[go_sem]);(exact uQ rfl (Imp.tup (by(repeat' (first|exact j3.nil|exact Imp.refl rfl|exact Imp.frz rfl rfl rfl|exact Imp.D8|refine Imp.agg ?_|refine j3.cons ?_ ?_)))) rfl rfl)
set_option maxRecDepth 10000
set_option maxHeartbeats 1000000
def c5f:p8 Tryz.prog 142 [] (strs b5f):=by
 refine kS Tryz.func142 (by cbv) (by rfl) λw O=>?_;simp only[j4,OA,MM];(repeat first|refine uA ?_|simp(disch:=omega) only[go_sem,Nat.reduceAdd]);exact S.done (H6.out rfl (Imp.frz rfl rfl rfl) rfl)
def wr(n:Int):Int:=IntKind.i64.wrap n
def a9Q{x y:Ft}(h:x.tick=y.tick/\x.kind=y.kind/\x.n=y.n):x=y:=by
 obtain⟨a,b,c⟩:=x;obtain⟨d,e,g⟩:=y;simp_all
set_option maxRecDepth 100000
def lastT(f:List Ft)(i:Nat):Int:=if i=0 then 0 else((f[i-1]?).map Ft.tick).getD 0
def a4c(f:List Ft)(arms:Int)(i:Nat):Option Int:=
 match f[i]? with
 | none=>none
 | some x=>
  if x.tick<0\/2000<x.tick then some 1 else
  if x.kind<0\/5<x.kind then some 3 else
  if x.n<0\/(x.kind<3/\40<x.n)\/(3<=x.kind/\arms<=x.n) then some 1 else
  if x.tick<lastT f i then some 9 else
  if(x.kind=3/\a3X (f.take i) x.n 2000=true)\/(x.kind=4/\a3X (f.take i) x.n 2000=false) then some 7 else none
def Z7(f:List Ft)(arms:Int):Int:=if 40<f.length then 2 else((List.range f.length).findSome? (a4c f arms)).getD 0
def b2i{α:Type}{g:Nat->Option α}{n i:Nat}{x:α}(h:∀j,j<i->g j=none)(E:g i=some x)(F:i<n):(List.range n).findSome? g=some x:=by
 induction n with
 | zero=>omega
 | succ n ih=>
  rw[List.range_succ,List.findSome?_append];rcases d0B i n with A|D
  ·rw[ih A];rfl
  ·have u:i=n:=by omega
   subst u;have:(List.range i).findSome? g=none:=by
    rw[List.findSome?_eq_none_iff];intro j B;exact h j (List.mem_range.1 B)
   rw[this];simp[E]
def b3Y{α:Type}{g:Nat->Option α}{n:Nat}(h:∀j,j<n->g j=none):(List.range n).findSome? g=none:=by
 rw[List.findSome?_eq_none_iff];intro j u;exact h j (List.mem_range.1 u)
def b1r{f:List Ft}{u e:Int}{i:Nat}(D:f.length<=40)(h:∀j,j<i->a4c f u j=none)(B:i<f.length)(A:a4c f u i=some e):Z7 f u=e:=by
 unfold Z7;rw[if_neg (by omega),b2i h A B];rfl
def a9e{f:List Ft}{u:Int}(A:f.length<=40)(h:∀j,j<f.length->a4c f u j=none):Z7 f u=0:=by
 unfold Z7;rw[if_neg (by omega),b3Y h];rfl
def c2b{f:List Ft}{u:Int}{i:Nat}{x:Ft}(A:f[i]?=some x)(h:a4c f u i=none):x.tick<=2000/\0<=x.tick:=by
 unfold a4c at h;rw[A]at h;simp only at h;split at h
 ·cases h
 ·omega
def c3I(f:List Ft)(A:Int)(U:f.length<=1000000000):p8 Tryz.prog 38 [fts f,ints A] (ints (Z7 f A)):=by
 refine kS Tryz.func38 (by cbv) (by rfl) λw O=>?_;simp only[j4,TT,II,OA,OB,OC,MM,LL,VV,FF,MG,VG,FG,ints,fts];(repeat first|refine uA ?_|simp(disch:=omega) only[go_sem,Nat.reduceAdd]);apply uJ rfl<;>intro E
 ·have I:Z7 f A=2:=by unfold Z7;rw[if_pos (by omega)]
  rw[I];exact uT rfl rfl rfl
 ·have M:f.length<=40:=by omega
  (repeat first|refine uA ?_|simp(disch:=omega) only[go_sem]);refine S.loop (X:=Nat) (λi=>⟨[(0,fts f),(1,ints A),(5,ints (lastT f i)),(12,fts f),(13,ints f.length),(14,ints i)],[]⟩)
   (λi=>i<=f.length/\∀j,j<i->a4c f A j=none) (λi=>f.length-i) 0 ⟨d0k _,λ_ h=>absurd h (Nat.not_lt_zero _)⟩ (by repeat first|refine uA ?_|refine⟨rfl,?_⟩|rfl|simp) ?_
  rintro i ⟨R,J⟩;simp only[ints,fts]at R ⊢;refine uV rfl ?_;apply uJ rfl<;>intro E
  ·have D:i<f.length:=by omega
   have B:=d0b D;generalize T:f[i]=z at B;have u:=λe I=>b1r (e:=e) M J D I;unfold a4c at u;rw[B]at u;simp only at u;(repeat first|refine uA ?_|(apply uK;· first|omega|trivial|(intro h;rw[h];rfl)|(intro h F;rw[h,F];rfl)|(intro h;(try simp at h);omega)|(intros;simp_all<;>omega))|simp only[go_sem,Nat.reduceAdd,Nat.reduceLeDiff,B,Ft.enc]|simp(disch:=omega) only[ww,B,Ft.enc]);apply uJ rfl<;>intro E
   ·rw[u 1 (by rw[if_pos (by omega)])];exact uT rfl rfl rfl
   (repeat first|refine uA ?_|simp(disch:=omega) only[go_sem,Nat.reduceAdd]);apply uJ rfl<;>intro E
   ·rw[u 3 (by rw[if_neg (by omega),if_pos (by omega)])];exact uT rfl rfl rfl
   (repeat first|refine uA ?_|(apply uK;· first|omega|trivial|(intro h;rw[h];rfl)|(intro h F;rw[h,F];rfl)|(intro h;(try simp at h);omega)|(intros;simp_all<;>omega))|simp(disch:=omega) only[go_sem,Nat.reduceAdd]);apply uJ rfl<;>intro E
   ·rw[u 1 (by rw[if_neg (by omega),if_neg (by omega),if_pos (by omega)])];exact uT rfl rfl rfl
   (repeat first|refine uA ?_|simp(disch:=omega) only[go_sem,Nat.reduceAdd]);apply uJ rfl<;>intro E
   ·rw[u 9 (by rw[if_neg (by omega),if_neg (by omega),if_neg (by omega),if_pos (by omega)])];exact uT rfl rfl rfl
   have G:=c1F (f.take i) z.n 2000 (by rw[d0r];omega);simp only[fts,ints]at G;(repeat first|refine uA ?_|(apply uK;· first|omega|trivial|(intro h;rw[h];rfl)|(intro h F;rw[h,F];rfl)|(intro h;(try simp at h);omega)|(intros;simp_all<;>omega))|simp(disch:=omega) only[go_sem,Nat.reduceAdd]|refine uB G rfl ?_);apply uJ rfl<;>intro E
   ·rw[u 7 (by rw[if_neg (by omega),if_neg (by omega),if_neg (by omega),if_neg (by omega),if_pos E])];exact uT rfl rfl rfl
   ·(repeat first|refine uA ?_|simp(disch:=omega) only[go_sem]);have K:lastT f (i+1)=z.tick:=by simp[lastT,B]
    refine S.next (i+1) ⟨by omega,λj V=>?_⟩ (by omega) (by rw[K];exact(by repeat first|refine uA ?_|refine⟨rfl,?_⟩|rfl|simp));rcases d0B j i with H|P
    ·exact J j H
    ·have:j=i:=by omega
     subst this;unfold a4c;rw[B];simp only;rw[if_neg (by omega),if_neg (by omega),if_neg (by omega),if_neg (by omega),if_neg (by rintro(⟨N,F⟩|⟨N,F⟩)<;>simp_all)]
  ·have D:i=f.length:=by omega
   subst D;rw[a9e M J];exact uT rfl rfl rfl
def a1t(es:List (Value×Value))(x:Ft):List (Value×Value):=if x.kind=3\/x.kind=4 then a0u (.int .i64 x.n) (.bool (decide (x.kind=3))) es else es
def isInt(v:Value):Prop:=∃n,v=.int .i64 n
theorem b1J(n m:Int)(v:Value):∀(es:List (Value×Value)),(∀e∈es,isInt e.1)->a0d (.int .i64 n) (a0u (.int .i64 m) v es)=if n=m then some v else a0d (.int .i64 n) es
 | [],_=>by
  simp only[a0u,a0d,a0Z];by_cases h:n=m<;>simp[h]
 | (k,u)::es,h=>by
  obtain⟨c,hc⟩:=h _ (List.mem_cons_self ..);simp only at hc;subst hc;have F:=b1J n m v es (λe G=>h e (List.mem_cons_of_mem _ G));simp only[a0u,a0Z];by_cases B:m=c
  ·subst B;simp only[beq_self_eq_true,if_true,a0d,a0Z];by_cases A:n=m<;>simp[A]
  ·have E:(m==c)=false:=by simpa using B
   simp only[E,d0P,if_false,a0d,a0Z,F];by_cases A:n=c
   ·subst A;rw[if_pos (by simp),if_neg (λe=>B e.symm)];simp
   ·have D:(n==c)=false:=by simpa using A
    simp[D]
theorem b5Q(m:Int)(v:Value):∀(es:List (Value×Value)),(∀e∈es,isInt e.1)->∀e∈a0u (.int .i64 m) v es,isInt e.1
 | [],_,e,he=>by
  simp only[a0u,List.mem_singleton]at he;subst he;exact⟨m,rfl⟩
 | (k,u)::es,h,e,he=>by
  simp only[a0u]at he;split at he
  ·rcases List.mem_cons.1 he with rfl|he
   ·exact⟨m,rfl⟩
   ·exact h e (List.mem_cons_of_mem _ he)
  ·rcases List.mem_cons.1 he with rfl|he
   ·exact h _ (List.mem_cons_self ..)
   ·exact b5Q m v es (λe he=>h e (List.mem_cons_of_mem _ he)) e he
def c6B(n:Int)(l:List Ft):∀(es:List (Value×Value)) (b:Bool),(∀e∈es,isInt e.1)->(∀x∈l,x.tick<=2000)->(a0d (.int .i64 n) es).getD (.bool false)=.bool b ->
  (a0d (.int .i64 n) (l.foldl a1t es)).getD (.bool false)=.bool (l.foldl (a4H n 2000) b):=by
 induction l with
 | nil=>intro es b _ _ h;exact h
 | cons x l ih=>
  intro es b u D h;have E:=D x (List.mem_cons_self ..);refine ih _ _ ?_ (λy F=>D y (List.mem_cons_of_mem _ F)) ?_
  ·unfold a1t;split
   ·exact b5Q _ _ es u
   ·exact u
  ·unfold a1t a4H;by_cases A:x.kind=3\/x.kind=4
   ·rw[if_pos A,b1J _ _ _ _ u];by_cases B:n=x.n
    ·subst B;rw[if_pos rfl,if_pos ⟨rfl,E,A⟩];rfl
    ·rw[if_neg B,if_neg (λe=>B e.1.symm)];exact h
   ·rw[if_neg A,if_neg (λe=>A e.2.2)];exact h
def c4Y(f:List Ft)(u:Int)(hn:f.length<=1000000000):p8 Tryz.prog 100 [fts f,ints u] (ints (Z7 f u)):=by
 refine kS Tryz.func100 (by cbv) (by rfl) λw O=>?_;simp only[j4,TT,II,OA,OB,OC,MM,LL,VV,FF,MG,VG,FG,ints,fts];(repeat first|refine uA ?_|simp(disch:=omega) only[go_sem,Nat.reduceAdd]);apply uJ rfl<;>intro I
 ·have P:Z7 f u=2:=by unfold Z7;rw[if_pos (by omega)]
  rw[P];exact uT rfl rfl rfl
 ·have Z:f.length<=40:=by omega
  (repeat first|refine uA ?_|simp(disch:=omega) only[go_sem]);refine S.loop (X:=Nat) (λi=>⟨[(0,fts f),(1,ints u),(5,.mp 0),(12,fts f),(13,ints f.length),(14,ints i)],[.map false ((f.take i).foldl a1t [])]⟩)
   (λi=>i<=f.length/\∀j,j<i->a4c f u j=none) (λi=>f.length-i) 0 ⟨d0k _,λ_ h=>absurd h (Nat.not_lt_zero _)⟩ (by repeat first|refine uA ?_|refine⟨rfl,?_⟩|rfl|simp) ?_
  rintro i ⟨hi,W⟩;simp only[ints,fts]at hi ⊢;refine uV rfl ?_;apply uJ rfl<;>intro I
  ·have E:i<f.length:=by omega
   have D:=d0b E;have F:=a7h a1t [] E;have Y:=λn=>c6B n (f.take i) [] false (λe P=>by cases P) (λx hx=>by
    obtain⟨j,U⟩:=List.mem_iff_getElem?.1 hx;rw[List.getElem?_take]at U;split at U
    ·exact(c2b U (W j (by assumption))).1
    ·cases U) rfl
   generalize hz:f[i]=z at D F;have A:=λe P=>b1r (e:=e) Z W E P;unfold a4c at A;rw[D]at A;simp only at A;(repeat first|refine uA ?_|(apply uK;· first|omega|trivial|(intro h;rw[h];rfl)|(intro h H;rw[h,H];rfl)|(intro h;(try simp at h);omega)|(intros;simp_all<;>omega))|simp only[go_sem,Nat.reduceAdd,Nat.reduceLeDiff,D,Ft.enc]|simp(disch:=omega) only[ww,D,Ft.enc]);apply uJ rfl<;>intro I
   ·rw[A 1 (by rw[if_pos (by omega)])];exact uT rfl rfl rfl
   (repeat first|refine uA ?_|simp only[go_sem,Nat.reduceAdd,b5f]|simp(disch:=omega) only[ww,b5f]|refine uB c5f rfl ?_);apply uJ rfl<;>intro I
   ·rw[A 3 (by rw[if_neg (by omega),if_pos (by omega)])];exact uT rfl rfl rfl
   have R:=c9w z.kind;simp only[ints]at R;(repeat first|refine uA ?_|(apply uK;· first|omega|trivial|(intro h;rw[h];rfl)|(intro h H;rw[h,H];rfl)|(intro h;(try simp at h);omega)|(intros;simp_all<;>omega))|simp(disch:=omega) only[go_sem,Nat.reduceAdd]|refine uB R rfl ?_);apply uJ rfl<;>intro I
   ·rw[A 1 (by rw[if_neg (by omega),if_neg (by omega),if_pos (by omega)])];exact uT rfl rfl rfl
   have J:((i:Int)-1).toNat<f.length:=by omega
   have N:=d0b J;have B:lastT f i=if i=0 then 0 else f[((i:Int)-1).toNat].tick:=by
    unfold lastT;split
    ·rfl
    ·have:i-1=((i:Int)-1).toNat:=by omega
     rw[this,N];rfl
   generalize f[((i:Int)-1).toNat]=y at N B;(repeat first|refine uA ?_|(apply uK;· first|omega|trivial|(intro h;rw[h];rfl)|(intro h H;rw[h,H];rfl)|(intro h;(try simp at h);omega)|(intros;simp_all<;>omega))|simp only[go_sem,Nat.reduceAdd,Ft.enc]|simp(disch:=omega) only[ww,N]);apply uJ rfl<;>intro I
   ·have G:z.tick<lastT f i:=by
     rw[B];split<;>omega
    rw[A 9 (by rw[if_neg (by omega),if_neg (by omega),if_neg (by omega),if_pos G])];exact uT rfl rfl rfl
   have G:¬z.tick<lastT f i:=by
    rw[B];split<;>omega
   have T:(a0d (.int .i64 z.n) ((f.take i).foldl a1t [])).getD (.bool false)=.bool (a3X (f.take i) z.n 2000):=Y z.n;(repeat first|refine uA ?_|(apply uK;· first|omega|trivial|(intro h;rw[h];rfl)|(intro h H;rw[h,H];rfl)|(intro h;(try simp at h);omega)|(intros;simp_all<;>omega))|simp only[go_sem,Nat.reduceAdd,T]|simp(disch:=omega) only[ww,T]);apply uJ rfl<;>intro I
   ·rw[A 7 (by rw[if_neg (by omega),if_neg (by omega),if_neg (by omega),if_neg G,if_pos I])];exact uT rfl rfl rfl
   have M:a4c f u i=none:=by
    unfold a4c;rw[D];simp only;rw[if_neg (by omega),if_neg (by omega),if_neg (by omega),if_neg G,if_neg (by rintro(⟨h1,H⟩|⟨h1,H⟩)<;>simp_all)]
   have V:∀j,j<i+1->a4c f u j=none:=λj U=>by
    rcases d0B j i with J|aa
    ·exact W j J
    ·have:j=i:=by omega
     subst this;exact M
   (repeat first|refine uA ?_|simp(disch:=omega) only[go_sem,Nat.reduceAdd]);apply uJ rfl<;>intro I
   ·have K:a1t ((f.take i).foldl a1t []) z=a0u (.int .i64 z.n) (.bool (decide (z.kind=3))) ((f.take i).foldl a1t []):=by unfold a1t;rw[if_pos (by omega)]
    (repeat first|refine uA ?_|simp(disch:=omega) only[go_sem,Nat.reduceAdd]);refine S.next (i+1) ⟨by omega,V⟩ (by omega) (by rw[F,K];exact(by repeat first|refine uA ?_|refine⟨rfl,?_⟩|rfl|simp))
   ·have K:a1t ((f.take i).foldl a1t []) z=(f.take i).foldl a1t []:=by unfold a1t;rw[if_neg (by omega)]
    (repeat first|refine uA ?_|simp(disch:=omega) only[go_sem]);refine S.next (i+1) ⟨by omega,V⟩ (by omega) (by rw[F,K];exact(by repeat first|refine uA ?_|refine⟨rfl,?_⟩|rfl|simp))
  ·have E:i=f.length:=by omega
   subst E;rw[a9e Z W];exact uT rfl rfl rfl
set_option maxHeartbeats 16000000
def a4f(z:Am×List Ky):Int:=if z.2.length=0 then 0 else a6s z.1 z.2
def b4n(d:Dy)(l:List Vt):Bool:=!decide ((l.length:Int)=d.start.people.length)||l.any λv=>a3A d.works.walk v.x||a3A d.works.walk v.y
def a2k(d:Dy):Int:=
 if Z5 d.works d.start≠0 then Z5 d.works d.start else
 if((d.tracks.length:Int)≠d.works.arms.length\/d.ticks<0\/2000-d.start.tick<d.ticks\/d.ticks<d.walks.length) then 1 else
 if G7 a4f (d.works.arms.zip d.tracks)≠0 then G7 a4f (d.works.arms.zip d.tracks) else
 if Z7 d.faults d.works.arms.length≠0 then Z7 d.faults d.works.arms.length else
 if a2U d.works [] (d.works.arms.zip d.start.arms)≠0 then a2U d.works [] (d.works.arms.zip d.start.arms) else
 if d.walks.any (b4n d)=true then 1 else 0
def c3x(d:Dy)(A:Dyb 131072 d):FZ 60 [d.c] (ints (a2k d)):=by
 refine kW Tryz.func60 (by cbv) (by rfl) λw' O V=>?_;have B:=c3i d.works d.start (A.works.m rfl) (A.start.m rfl);obtain⟨ac,ab⟩:=A.ints.1;obtain⟨af,ag⟩:=A.ticks;have F:=λ(i:Nat) (a:Am) (t:List Ky) (G:d.works.arms[i]?=some a) (D:d.tracks[i]?=some t)=>b8d a t ((A.works.arms.2 a (d0g G)).m rfl) (A.tracks.2 t (d0g D)).1 (A.tracks.2 t (d0g D)).2;have h2:=c4Y d.faults d.works.arms.length (d0f A.faults.1 (by decide));have P:=λh=>c7w d A.works A.start h;have M:callable Tryz.prog 104=true:=by kernel_rfl
 have h4:=λ(l:List Vt) (Y:l∈d.walks)=>c5F 104 M [.clo 102 [.ep d.enc]] (λv=>a3A d.works.walk v.x||a3A d.works.walk v.y) l (d0f (A.walks.2 l Y).1 (by decide)) λv I=>c8t d v ((A.walks.2 l Y).2 v I) A.works.walk;have hW:∀l,b4n d l=(!decide ((l.length:Int)=d.start.people.length)||l.any λv=>a3A d.works.walk v.x||a3A d.works.walk v.y):=λ_=>rfl;have aj:=A.works.arms.1;have ah:=A.walks.1;unfold a2k;generalize a2U d.works [] (d.works.arms.zip d.start.arms)=RF at*;generalize Z5 d.works d.start=SE at*;generalize Z7 d.faults d.works.arms.length=FE at*;generalize hz:d.works.arms.zip d.tracks=zs at*;generalize Z:G7 a4f zs=TE;clear A
 simp only[j4,TT,II,OA,OB,OC,MM,LL,VV,FF,MG,VG,FG];simp only[Dy.c,Dy.enc,Wk.c,Wk.enc,Stt.c,Stt.enc,Am.c,Am.enc,lks,ams,wls,pts,sls,gts,J9,frs,vts,bls,tks,kys,fts,a1O,cls,sb,ints]at B F h2 P h4 ⊢;(repeat first|refine uA ?_|simp(disch:=omega) only[go_sem,Nat.reduceAdd]|refine uD B (tz V) rfl ?_);apply uJ rfl<;>intro u
 ·rw[if_pos u];exact uT rfl rfl rfl
 have aa:SE=0:=by omega
 rw[if_neg (by omega)];have P:=P aa;clear B;(repeat first|refine uA ?_|simp(disch:=omega) only[go_sem,Nat.reduceAdd,ww,d0d]);apply S.cond rfl<;>intro u
 ·rw[if_pos (by simp at u;omega)];exact uT rfl rfl rfl
 have ae:(d.tracks.length:Int)=d.works.arms.length:=by simp at u;omega
 rw[if_neg (by simp at u;omega)];(repeat first|refine uA ?_|simp(disch:=omega) only[go_sem,Nat.reduceAdd,d0d]);refine S.loop (X:=Nat) (λi=>⟨[(1,.bp 0 0),(52,tks d.tracks),(53,ints d.tracks.length),(54,ints i)],[.box 41 d.enc]⟩) (λi=>i<=d.tracks.length/\TE=G7 a4f (zs.drop i)) (λi=>d.tracks.length-i) 0 ⟨d0k _,Z.symm⟩ (by repeat first|refine uA ?_|refine⟨rfl,?_⟩|rfl|simp) ?_
 rintro i ⟨hi,U⟩;simp only[Dy.enc,ams,wls,pts,sls,gts,J9,frs,vts,bls,tks,fts,sb,ints];refine uV rfl ?_;apply uJ rfl<;>intro u
 ·have E:i<d.tracks.length:=by omega
  have D:=d0b E;have G:=d0b (show i<d.works.arms.length by omega);generalize d.tracks[i]=t at D;generalize d.works.arms[i]'_=a at G;have gz:zs[i]?=some (a,t):=by rw[<- hz];exact M5 G D
  have o1:=F i a t G D;have T:=λh=>a0s (f:=a4f) gz h;have N:=λh=>a0r (f:=a4f) gz h;have I:a4f (a,t)=if t.length=0 then 0 else a6s a t:=rfl
  rw[I]at T N;generalize a6s a t=te at*;have ak:(kys t)=(kys t):=rfl;(repeat first|refine uA ?_|simp(disch:=omega) only[go_sem,Nat.reduceAdd,D,G,d0e,d0d,d0q,d0h,Am.enc,lks,tkC,sb]|refine uD o1 (tz V) rfl ?_);apply S.cond rfl<;>intro u
  ·have u:¬te=0/\0<t.length:=by simp at u;omega
   have h:=T (by rw[if_neg (by omega)];exact u.1);rw[if_neg (by omega)]at h;rw[U,h,if_pos u.1];exact uT rfl rfl rfl
  ·have B:(if t.length=0 then 0 else te)=0:=by
    by_cases B:t.length=0
    ·rw[if_pos B]
    ·rw[if_neg B];by_cases R:te=0
     ·exact R
     ·exfalso;simp[R]at u;exact B (by rw[u];rfl)
   have h:=N B;(repeat first|refine uA ?_|simp(disch:=omega) only[go_sem]);exact S.next (x:=i) (i+1) ⟨by omega,by rw[U,h]⟩ (by omega) (by repeat first|refine uA ?_|refine⟨rfl,?_⟩|rfl|simp)
 have ai:TE=0:=by rw[U];exact a0N (by rw[<- hz,List.length_zip];omega)
 rw[if_neg (by omega)];clear F U;(repeat first|refine uA ?_|simp(disch:=omega) only[go_sem,Nat.reduceAdd,d0d]|refine uB h2 rfl ?_);apply uJ rfl<;>intro u
 ·rw[if_pos u];exact uT rfl rfl rfl
 rw[if_neg (by omega)];clear h2;(repeat first|refine uA ?_|simp(disch:=omega) only[go_sem,Nat.reduceAdd]|refine uD P (tz V) rfl ?_);apply uJ rfl<;>intro u
 ·rw[if_pos u];exact uT rfl rfl rfl
 rw[if_neg (by omega)];clear P;(repeat first|refine uA ?_|simp(disch:=omega) only[go_sem,Nat.reduceAdd,d0d]);refine S.loop (X:=Nat) (λi=>⟨[(1,.bp 0 0),(10,.bp 1 0),(96,wls d.walks),(97,ints d.walks.length),(98,ints i)],[.box 41 d.enc,.box 167 [.clo 102 [.bp 0 0]]]⟩) (λi=>i<=d.walks.length/\∀j l,j<i->d.walks[j]?=some l->b4n d l=false) (λi=>d.walks.length-i) 0 ⟨d0k _,λ_ _ h=>absurd h (Nat.not_lt_zero _)⟩ (by repeat first|refine uA ?_|refine⟨rfl,?_⟩|rfl|simp) ?_
 rintro i ⟨hi,hM⟩;simp only[Dy.enc,ams,wls,pts,sls,gts,J9,frs,vts,bls,tks,fts,sb,ints];refine uV rfl ?_;apply uJ rfl<;>intro u
 ·have E:i<d.walks.length:=by omega
  have W:=d0b E;generalize d.walks[i]=l at W;have H:=d0g W;have o1:=h4 l H;have I:=hW l;generalize(l.any λv=>a3A d.works.walk v.x||a3A d.works.walk v.y)=an at*;(repeat first|refine uA ?_|simp(disch:=omega) only[go_sem,Nat.reduceAdd,W,d0e,d0d,d0q,d0h]);refine uE o1 (tz V) rfl (j3.cons (Imp.refl rfl) (j3.cons (Imp.clo (j3.cons (Imp.fbx rfl rfl (j3.cons (Imp.clo (j3.cons (Imp.fbx rfl rfl (j3.refl rfl) rfl rfl) j3.nil)) j3.nil) rfl rfl) j3.nil)) j3.nil)) ?_
  (repeat first|refine uA ?_|simp(disch:=omega) only[go_sem]);rw[<- I];apply S.cond rfl<;>intro K
  ·rw[if_pos (List.any_eq_true.2 ⟨l,H,K⟩)];exact uT rfl rfl rfl
  ·(repeat first|refine uA ?_|simp(disch:=omega) only[go_sem]);refine S.next (x:=i) (i+1) ⟨by omega,λj m hj hm=>?_⟩ (by omega) (by repeat first|refine uA ?_|refine⟨rfl,?_⟩|rfl|simp)
   rcases d0B j i with F|F
   ·exact hM j m F hm
   ·have:j=i:=by omega
    subst this;rw[W]at hm;cases hm;exact K
 ·have J:d.walks.any (b4n d)=false:=by
   rw[List.any_eq_false];intro l Y;obtain⟨j,hj⟩:=List.mem_iff_getElem?.1 Y;have:=hM j l (by have:=(d0i.1 hj).1;omega) hj;rw[this];decide
  rw[J,if_neg (by decide)];exact uT rfl rfl rfl
set_option maxHeartbeats 8000000
def CX.onG{α:Type}{f:Nat}{enc:α->List C}{D:Cd->α->Prop}{T:Cd->α->Cd×α}(h:CX f [] enc D T){E:Ctx}(V:E.P=Tryz.prog){rs rs2:List Res}(p m q:Nat){c:Cd}{x:α}{t:TypeId}(M:∀x,C.clL (enc x)=true)(H:D c x)
 (F:(p==m||p==q||m==q)=false) (O:rs[p]?=some (a2c (λk=>if k=0 then p else if k=1 then m else q) c.box)) (N:rs[m]?=some (.box t (enc x))) (R:rs[q]?=some c.row)
 (A:rs2=(((rs.map (Res.y9 [q])).set p (a2c (λk=>if k=0 then p else if k=1 then m else q) (T c x).1.box)).set m (.box t (enc (T c x).2))).set q (T c x).1.row):l5 E rs f [.bp p 0,.bp m 0] (a0K []) rs2 [q]:=by
 simp only[d0F]at F;obtain⟨⟨I,B⟩,G⟩:=F;have I:p≠m:=by simpa using I
 have B:p≠q:=by simpa using B
 have G:m≠q:=by simpa using G
 have X:=(d0i.1 O).1;have lm:=(d0i.1 N).1;have l2:=(d0i.1 R).1;have K:=h E V c x t [] [] rfl rfl H;simp only[List.nil_append,List.append_nil]at K;refine l5.at (rs:=rs) (rs2:=rs2) (λk=>if k=0 then p else if k=1 then m else q) K (λk l u J e=>by
  simp only[RR,d0j,List.length_nil]at u J
  repeat' split at e
  all_goals omega) rfl (by rw[A];simp) (λk r u=>by
  match k,u with
  | 0,u=>simp[RR]at u;subst u;exact O
  | 1,u=>simp[RR]at u;subst u;simp only[a2c];rw[a4B _ (M _)];exact N
  | 2,u=>simp[RR]at u;subst u;rw[a5S];exact R
  | k+3,u=>simp[RR]at u) (λk r u=>by
  match k,u with
  | 0,u=>
   simp[RR]at u;subst u;rw[A]
   show((((rs.map (Res.y9 [q])).set p _).set m _).set q _)[p]?=_;rw[List.getElem?_set_ne (by omega),List.getElem?_set_ne (by omega),List.getElem?_set_self (by simpa using X)]
  | 1,u=>
   simp[RR]at u;subst u;simp only[a2c];rw[a4B _ (M _),A]
   show((((rs.map (Res.y9 [q])).set p _).set m _).set q _)[m]?=_;rw[List.getElem?_set_ne (by omega),List.getElem?_set_self (by simpa using lm)]
  | 2,u=>
   simp[RR]at u;subst u;rw[a5S,A]
   show((((rs.map (Res.y9 [q])).set p _).set m _).set q _)[q]?=_;rw[List.getElem?_set_self (by simpa using l2)]
  | k+3,u=>simp[RR]at u) (λl J=>by
  have W:p≠l:=by have:=J 0 (by simp[RR]);simpa using this
  have Y:m≠l:=by have:=J 1 (by simp[RR]);simpa using this
  have U:q≠l:=by have:=J 2 (by simp[RR]);simpa using this
  rw[A,List.getElem?_set_ne U,List.getElem?_set_ne Y,List.getElem?_set_ne W,d0q];rfl) (by
  show((okR 3 c.box&&(okR 3 (.box t (enc x))&&(okR 3 c.row&&true))))=true;rw[a7M 0,a7H];simp only[okR,a4I 3 (M _)];rfl) (by
  show((okR 3 (T c x).1.box&&(okR 3 (.box t (enc (T c x).2))&&(okR 3 (T c x).1.row&&true))))=true;rw[a7M 0,a7H];simp only[okR,a4I 3 (M _)];rfl) rfl rfl
def wrE(d:Dy):Int:=if a2k d≠0 then a2k d else if 65536<(a2r d).length then 2 else 0
def wrB(d:Dy):List UInt8:=if a2k d≠0 then[] else if 65536<(a2r d).length then[] else a2r d
def c2R(d:Dy):(a2r d).length=(dyB d).length+10:=by
 unfold a2r;rw[d0c,b7M,d0j,d0j]
def c5Z(d:Dy)(I:Dyb 131072 d)(K:DyD d)(V:(dyB d).length<=16777000):FZ 10 [d.c] (.tup [.sl 1 ((wrB d).map u7),ints (wrE d)]):=by
 refine kW Tryz.func10 (by cbv) (by rfl) λU O J=>?_;have F:=c3x d I;have H:=λ(E:Ctx) (hP:E.P=Tryz.prog)=>c4C.onG hP (rs:=[.box 41 d.enc,.fb 5 [71,49],.box 54 [.rv 1,.sl 1 [],.v (.bool false),.v (.bool false)]]) (rs2:=[.box 41 d.enc,.row 5 1 ((71::49::dyB d).map u7),.box 54 [.rv 1,.sl 1 [],.v (.bool false),.v (.bool false)]]) 2 0 1 (c:=⟨false,[],false,[71,49],true⟩) (x:=d) (λ_=>rfl) ⟨λh=>(by cases h),λ_=>⟨K,by show 2+_<=_;omega⟩⟩ rfl rfl rfl rfl rfl;have D:=λ(E:Ctx) (hP:E.P=Tryz.prog)=>l5.b4L (ex:=[.box 54 [.rv 1,.sl 1 [],.v (.bool false),.v (.bool false)]]) (b6c hP (71::49::dyB d) (by simp only[d0j];omega) 41 d.enc rfl) rfl rfl rfl
 have u:wrE d=if a2k d≠0 then a2k d else if 65536<(a2r d).length then 2 else 0:=rfl
 have A:wrB d=if a2k d≠0 then[] else if 65536<(a2r d).length then[] else a2r d:=rfl
 have M:=c2R d;rw[show(71::49::dyB d)++leB 8 (a1W (71::49::dyB d))=a2r d from rfl]at D;generalize a2k d=e at*;generalize a2r d=R at*;generalize dyB d=B at*;generalize wrE d=T at*;generalize wrB d=N at*;simp only[j4,TT,II,OA,MM,LL,VV,FF];simp only[Dy.c,Dy.enc,ams,wls,pts,sls,gts,J9,frs,vts,bls,tks,fts,sb,ints]at F H D ⊢;(repeat first|refine uA ?_|simp(disch:=omega) only[go_sem,Nat.reduceAdd]|refine uD F (tz J) rfl ?_);apply uJ rfl<;>intro G
 ·rw[if_pos G]at u A;subst u A;exact uX rfl rfl (Imp.tup (j3.cons Imp.D8 (j3.cons (Imp.refl rfl) j3.nil))) rfl rfl
 rw[if_neg (by omega)]at u A;(repeat first|refine uA ?_|(apply uK;· first|omega|(intros;simp_all<;>omega))|simp(disch:=omega) only[go_sem,Nat.reduceAdd,d0d]|refine j5.t (l5.vg (H _ rfl) (j3.eq rfl rfl) (by repeat' first|exact C9.nil|exact RI.gone _|exact RI.fb _ _ _ rfl|(refine RI.box _ _ _ (j3.eq rfl ?_);exact rfl)|(refine RI.box _ _ _ (j3.cons (Imp.refl rfl) (j3.cons Imp.D8 (j3.cons (Imp.refl rfl) (j3.cons (Imp.refl rfl) j3.nil)))))|refine C9.cons ?_ ?_) rfl) ?_|refine j5.t (D _ rfl) ?_);apply uJ rfl<;>intro G
 ·rw[if_pos (by omega)]at u A;subst u A;exact uX rfl rfl (Imp.tup (j3.cons Imp.D8 (j3.cons (Imp.refl rfl) j3.nil))) rfl rfl
 rw[if_neg (by omega)]at u A;subst u A;exact uX rfl rfl (Imp.tup (j3.cons (Imp.frz rfl rfl rfl) (j3.cons (Imp.refl rfl) j3.nil))) rfl rfl
def P5(b:List UInt8):List UInt8:=b.take (b.length-8)
def b1Y(b:List UInt8):List UInt8:=b++leB 8 (a1W b)
def a1E(b:List UInt8):Dy×Rs:=a9t ⟨(P5 b).drop 2,false⟩
abbrev z17:List C:=[.v (.slice none 0 0),.v (.slice none 0 0),.v (.slice none 0 0),.v (.slice none 0 0),.v (.slice none 0 0),.v (.bool false),sb [],sb [],ints 0,.v (.slice none 0 0),.v (.slice none 0 0),.v (.slice none 0 0),.v (.slice none 0 0),.v (.slice none 0 0),.v (.slice none 0 0),.v (.slice none 0 0),ints 0]
def rdO(b:List UInt8):Dy×Int:=
 if 65536<b.length then(dy0,2) else
 if b.length<10 then(dy0,14) else
 if(P5 b).take 2≠[71,49] then(dy0,3) else
 if b1Y (P5 b)≠b then(dy0,13) else
 if(a1E b).2.bad=true then(dy0,3) else
 if 0<(a1E b).2.inp.length then(dy0,3) else
 if wrE (a1E b).1≠0 then(dy0,3) else
 if wrB (a1E b).1≠b then(dy0,3) else((a1E b).1,0)
def c8G{E:Ctx}(B:E.P=Tryz.prog)(i:List UInt8)(Y:Dy×Rs)(A:a9t ⟨i,false⟩=Y)(t:TypeId)(cs:List C)(u:C.clL cs=true):l5 E [.box t cs,.gone,.box 54 [.v (.slice none 0 0),.sl 1 (i.map u7),.v (.bool true),.v (.bool false)],.box 41 dy0.enc] 9 [.bp 2 0,.bp 3 0] (a0K []) [.box t cs,.gone,.box 54 [.v (.slice none 0 0),.sl 1 (Y.2.inp.map u7),.v (.bool true),.v (.bool Y.2.bad)],.box 41 Y.1.enc] [1]:=by
 have D:tr a9t dyB ⟨true,i,false,[],false⟩ dy0=(⟨true,Y.2.inp,Y.2.bad,[],false⟩,Y.1):=by simp only[tr,cond_true,A]
 refine c4C.onG B 2 3 1 (c:=⟨true,i,false,[],false⟩) (x:=dy0) (λ_=>rfl) ⟨λ_=>rfl,λh=>(by cases h)⟩ rfl rfl rfl rfl ?_;rw[D]
 show _=[Res.y9 [1] (.box t cs),_,_,_]
 simp only[Res.y9,F4 [1] u];rfl
def a2R{α:Type}{k:Nat}(hk:k<=1099511627776){l:List α}(h:l.length<=k):LsD Y7 l:=⟨d0f h hk,λ_ _=>trivial⟩
def c9t{k:Nat}(hk:k<=1099511627776){d:Dy}(h:Dyb k d):DyD d:=
 ⟨⟨⟨d0f h.works.arms.1 hk,λa u=>⟨d0f (h.works.arms.2 a u).2.2.1 hk,λl A=>a2R hk ((h.works.arms.2 a u).2.2.2 l A).2.2.2.2.2.1⟩⟩,⟨d0f h.works.walls.1 hk,λl A=>a2R hk (h.works.walls.2 l A).1⟩,
  ⟨d0f h.works.parts.1 hk,λp D=>a2R hk (h.works.parts.2 p D).2.1.1⟩,a2R hk h.works.slots.1,a2R hk h.works.gates.1⟩,
  ⟨⟨d0f h.start.arms.1 hk,λa u=>⟨a2R hk (h.start.arms.2 a u).1.1,a2R hk (h.start.arms.2 a u).2.1,h.ints.2 a u⟩⟩,a2R hk h.start.parts.1,a2R hk h.start.people.1,a2R hk h.start.gates⟩,
  ⟨d0f h.tracks.1 hk,λt B=>⟨d0f (h.tracks.2 t B).1 hk,λy E=>a2R hk ((h.tracks.2 t B).2 y E).2.1⟩⟩,a2R hk h.faults.1,⟨d0f h.walks.1 hk,λl A=>a2R hk (h.walks.2 l A).1⟩⟩
def b1T{b:List UInt8}{k:Nat}(h:b.length<=k):Dyb (k+1) (a1E b).1:=b8e k _ (by
 show((b.take (b.length-8)).drop 2).length<=k;rw[d0L,d0r];omega)
def c1Y{b:List UInt8}(h:(a1E b).2.bad=false):(dyB (a1E b).1).length<=b.length:=by
 have u:=c0D _ h;have A:((P5 b).drop 2).length<=b.length:=by
  unfold P5;rw[d0L,d0r];omega
 have u:(dyB (a1E b).1).length+_<=((P5 b).drop 2).length+0:=u;omega
def b9V(b:List UInt8)(hB:b.length<=1000000000):FZ 4 [.sl 1 (b.map u7)] (.tup [(rdO b).1.c,ints (rdO b).2]):=by
 refine a0w.of (eff:=J6) Tryz.func4 (by cbv) (by exact d0n rfl) λw' O U=>?_;have u:rdO b=if 65536<b.length then(dy0,2) else if b.length<10 then(dy0,14) else if(P5 b).take 2≠[71,49] then(dy0,3) else if b1Y (P5 b)≠b then(dy0,13) else if(a1E b).2.bad=true then(dy0,3) else if 0<(a1E b).2.inp.length then(dy0,3) else if wrE (a1E b).1≠0 then(dy0,3) else if wrB (a1E b).1≠b then(dy0,3) else((a1E b).1,0):=rfl
 generalize rdO b=X at*;have Z:(⟨#[71,49]⟩:ByteArray)=bs [71,49]:=rfl;simp only[j4,TT,II,OA,OB,OC,MM,LL,VV,FF,MG,VG,FG];simp only[Dy.c,Dy.enc,ams,wls,pts,sls,gts,J9,frs,vts,bls,tks,fts,sb,ints];(repeat first|refine uA ?_|(refine uK ?_ ?_;focus first|omega|(intros;simp_all<;>omega))|simp(disch:=omega) only[go_sem,d0d]);(refine uJ rfl (λA=>?_) λA=>?_)
 ·rw[if_pos (by omega)]at u;subst u;(repeat first|refine uA ?_|(refine uK ?_ ?_;focus first|omega|(intros;simp_all<;>omega))|simp(disch:=omega) only[go_sem,Nat.reduceAdd]);(exact uQ rfl (Imp.tup (by(repeat' (first|exact j3.nil|exact Imp.refl rfl|exact Imp.frz rfl rfl rfl|exact Imp.D8|refine Imp.agg ?_|refine j3.cons ?_ ?_)))) rfl rfl)
 rw[if_neg (by omega)]at u;(repeat first|refine uA ?_|(refine uK ?_ ?_;focus first|omega|(intros;simp_all<;>omega))|simp(disch:=omega) only[go_sem,d0d]);(refine uJ rfl (λA=>?_) λA=>?_)
 ·rw[if_pos (by omega)]at u;subst u;(repeat first|refine uA ?_|(refine uK ?_ ?_;focus first|omega|(intros;simp_all<;>omega))|simp(disch:=omega) only[go_sem,Nat.reduceAdd]);(exact uQ rfl (Imp.tup (by(repeat' (first|exact j3.nil|exact Imp.refl rfl|exact Imp.frz rfl rfl rfl|exact Imp.D8|refine Imp.agg ?_|refine j3.cons ?_ ?_)))) rfl rfl)
 rw[if_neg (by omega)]at u;have J:((b.length:Int)-8).toNat=b.length-8:=by omega
 have N:b.take (b.length-8)=P5 b:=rfl;have T:(P5 b).length=b.length-8:=by unfold P5;rw[d0r];omega
 (repeat first|refine uA ?_|(refine uK ?_ ?_;focus first|omega|(intros;simp_all<;>omega))|simp(disch:=omega) only[go_sem,ww,d0d,J,<- List.map_take,<- List.map_drop,N,Q8,Z,a1J,a6S]);refine S.cond rfl (λA=>?_) (λA=>?_)
 ·rw[if_pos (by simpa using A)]at u;subst u;(repeat first|refine uA ?_|(refine uK ?_ ?_;focus first|omega|(intros;simp_all<;>omega))|simp(disch:=omega) only[go_sem,Nat.reduceAdd]);(exact uQ rfl (Imp.tup (by(repeat' (first|exact j3.nil|exact Imp.refl rfl|exact Imp.frz rfl rfl rfl|exact Imp.D8|refine Imp.agg ?_|refine j3.cons ?_ ?_)))) rfl rfl)
 rw[if_neg (by simpa using A)]at u;have H:=λ(E:Ctx) (hP:E.P=Tryz.prog)=>b6c hP (P5 b) (by omega) 41 z17 rfl;rw[show P5 b++leB 8 (a1W (P5 b))=b1Y (P5 b) from rfl]at H;simp only[z17,sb,ints]at H;(repeat first|refine uA ?_|(refine uK ?_ ?_;focus first|omega|(intros;simp_all<;>omega))|simp(disch:=omega) only[go_sem,Nat.reduceAdd,KMd,opsV,Nat.reduceAdd,tX,d0d,Q8,a1J,a6S]|refine j5.t (H _ rfl) ?_);refine S.cond rfl (λA=>?_) (λA=>?_)
 ·rw[if_pos (by simpa using A)]at u;subst u;(repeat first|refine uA ?_|(refine uK ?_ ?_;focus first|omega|(intros;simp_all<;>omega))|simp(disch:=omega) only[go_sem,Nat.reduceAdd]);(exact uQ rfl (Imp.tup (by(repeat' (first|exact j3.nil|exact Imp.refl rfl|exact Imp.frz rfl rfl rfl|exact Imp.D8|refine Imp.agg ?_|refine j3.cons ?_ ?_)))) rfl rfl)
 rw[if_neg (by simpa using A)]at u;clear H;have I:=λ(E:Ctx) (hP:E.P=Tryz.prog) (t':TypeId) (cs':List C) (hcs:C.clL cs'=true)=>c8G hP ((P5 b).drop 2) (a1E b) rfl t' cs' hcs;have F:=b1T (b:=b) (k:=131071) (by omega);have G:=c1Y (b:=b);generalize a1E b=Y at*;obtain⟨d,aa,M⟩:=Y;simp only at u F G;have I:=λ(E:Ctx) (hP:E.P=Tryz.prog)=>I E hP 41 z17 rfl;simp only[z17,Dy.enc,dy0,wk0,b2D,ams,wls,pts,sls,gts,J9,frs,vts,bls,tks,fts,sb,ints,d0p]at I;have K:((P5 b).drop 2).take ((P5 b).length-2)=(P5 b).drop 2:=d0y (by rw[d0L];exact d0m _)
 (repeat first|refine uA ?_|(refine uK ?_ ?_;focus first|omega|(intros;simp_all<;>omega))|simp(disch:=omega) only[go_sem,Nat.reduceAdd,K,d0d,<- List.map_take,<- List.map_drop]|refine j5.t (l5.vg (I _ rfl) (j3.eq rfl rfl) (by repeat' first|exact C9.nil|exact RI.gone _|(refine RI.box _ _ _ (j3.eq rfl ?_);exact rfl)|(refine RI.box _ _ _ ?_;repeat' first|exact j3.nil|exact Imp.D8|exact Imp.refl rfl|refine j3.cons ?_ ?_)|refine C9.cons ?_ ?_) rfl) ?_);cases M
 ·rw[if_neg (by decide)]at u;have G:=G rfl;(refine uJ rfl (λA=>?_) λA=>?_)
  ·rw[if_pos (by rcases A with h|h;cases h;omega)]at u;subst u;(repeat first|refine uA ?_|(refine uK ?_ ?_;focus first|omega|(intros;simp_all<;>omega))|simp(disch:=omega) only[go_sem,Nat.reduceAdd]);(exact uQ rfl (Imp.tup (by(repeat' (first|exact j3.nil|exact Imp.refl rfl|exact Imp.frz rfl rfl rfl|exact Imp.D8|refine Imp.agg ?_|refine j3.cons ?_ ?_)))) rfl rfl)
  rw[if_neg (by have:=A.2;omega)]at u;have R:=c5Z d F (c9t (by decide) F) (by omega);generalize wrE d=W at*;generalize wrB d=V at*;simp only[Dy.c,Dy.enc,ams,wls,pts,sls,gts,J9,frs,vts,bls,tks,fts,sb,ints]at R;(repeat first|refine uA ?_|(refine uK ?_ ?_;focus first|omega|(intros;simp_all<;>omega))|simp(disch:=omega) only[go_sem,Nat.reduceAdd,Q8,a1J,a6S]|(refine uD R ?_ ?_ ?_;exact tz U;exact rfl));by_cases D:W=0
  ·rw[if_neg (by omega)]at u;by_cases B:V=b
   ·rw[if_neg (λh=>h B)]at u;subst u;refine S.cond rfl (λA=>by simp[D,B]at A) (λA=>?_);(repeat first|refine uA ?_|(refine uK ?_ ?_;focus first|omega|(intros;simp_all<;>omega))|simp(disch:=omega) only[go_sem,Nat.reduceAdd]);(exact uQ rfl (Imp.tup (by(repeat' (first|exact j3.nil|exact Imp.refl rfl|exact Imp.frz rfl rfl rfl|exact Imp.D8|refine Imp.agg ?_|refine j3.cons ?_ ?_)))) rfl rfl)
   ·rw[if_pos B]at u;subst u;refine S.cond rfl (λA=>?_) (λA=>by simp[B]at A);(repeat first|refine uA ?_|(refine uK ?_ ?_;focus first|omega|(intros;simp_all<;>omega))|simp(disch:=omega) only[go_sem,Nat.reduceAdd]);(exact uQ rfl (Imp.tup (by(repeat' (first|exact j3.nil|exact Imp.refl rfl|exact Imp.frz rfl rfl rfl|exact Imp.D8|refine Imp.agg ?_|refine j3.cons ?_ ?_)))) rfl rfl)
  ·rw[if_pos D]at u;subst u;refine S.cond rfl (λA=>?_) (λA=>by simp[D]at A);(repeat first|refine uA ?_|(refine uK ?_ ?_;focus first|omega|(intros;simp_all<;>omega))|simp(disch:=omega) only[go_sem,Nat.reduceAdd]);(exact uQ rfl (Imp.tup (by(repeat' (first|exact j3.nil|exact Imp.refl rfl|exact Imp.frz rfl rfl rfl|exact Imp.D8|refine Imp.agg ?_|refine j3.cons ?_ ?_)))) rfl rfl)
 ·rw[if_pos rfl]at u;subst u;refine S.cond rfl (λA=>?_) (λA=>by simp at A);(repeat first|refine uA ?_|(refine uK ?_ ?_;focus first|omega|(intros;simp_all<;>omega))|simp(disch:=omega) only[go_sem,Nat.reduceAdd]);(exact uQ rfl (Imp.tup (by(repeat' (first|exact j3.nil|exact Imp.refl rfl|exact Imp.frz rfl rfl rfl|exact Imp.D8|refine Imp.agg ?_|refine j3.cons ?_ ?_)))) rfl rfl)
set_option maxHeartbeats 16000000
def c1G(v s:Rat):0<Nm.A9 (q9 v) s <-> (0<Nm.A9 v s\/0<Nm.A9 (-v) s):=by
 rw[a2P,a2P,a2P];have A:v.num<0 <-> v<0:=by
  have:=@Rat.num_nonneg v;rw[<- Rat.not_le,<- this];omega
 unfold q9;by_cases h:v<0
 ·rw[if_pos (A.2 h)];constructor
  ·exact .inr
  ·rintro(u|u)
   ·grind
   ·exact u
 ·rw[if_neg (λB=>h (A.1 B))];constructor
  ·exact .inl
  ·rintro(u|u)
   ·exact u
   ·grind
def c0l(h:List Int)(n k:Int):(a4P h n).contains k=(h.contains k||decide (n=k)):=by
 rw[Bool.eq_iff_iff];unfold a4P;split
 ·rename_i A;simp only[List.contains_iff_mem,d0R,d0t]at A ⊢;exact⟨.inl,λu=>u.elim id λB=>B ▸ A⟩
 ·simp only[List.contains_iff_mem,List.mem_append,List.mem_singleton,d0R,d0t];exact⟨λu=>u.imp id Eq.symm,λu=>u.imp id Eq.symm⟩
def b8y{α:Type}{f:α->Bool}{l:List α}{i:Nat}{x:α}(h:l[i]?=some x):(l.take (i+1)).any f=((l.take i).any f||f x):=by
 rw[List.take_succ,h];simp
def c4c(f:Fr):a2K f=!(!([f.x,f.y,f.t].all F9)||(f.half && !decide (F3 (Nm.d9 f.t)=0))):=by
 rw[a7e];unfold a2K a4X;cases F9 f.x<;>cases F9 f.y<;>cases F9 f.t<;>cases f.half<;>cases decide (F3 (Nm.d9 f.t)=0)<;>rfl
def c4j(w:Wk)(s:Stt)(hb:Wb 1073741824 w)(hs:Stb 1073741824 s):FZ 36 [w.c,s.c] (ints (Z5 w s)):=by
 refine kW Tryz.func36 (by cbv) (by rfl) λw' O hw=>?_;have ay:=c4m w hb;obtain⟨⟨n1,b1⟩,⟨n2,b2⟩,⟨n3,b3⟩,n4⟩:=hs;obtain⟨m1,a1⟩:=hb.arms;have m2:=hb.parts.1;have m3:=hb.gates.1;unfold Z5;generalize a3e w=e0 at*;generalize hr:H8 (a1Z w.parts.length) [] (w.arms.zip s.arms)=r;obtain⟨e1,zs⟩:=r;generalize az:s.parts.all a2K=pA;generalize aE:s.people.all a4g=pB;obtain⟨G,N,D,M,P,E⟩:=w;obtain⟨T,u,A,B,H⟩:=s;simp only at*;simp only[j4];simp only[Wk.c,Wk.enc,Stt.c,Stt.enc,ams,wls,pts,sls,gts,J9,frs,vts,bls,sb,ints]at ay ⊢
 (repeat first|refine uA ?_|simp(disch:=omega) only[go_sem,Nat.reduceAdd]|refine uD ay (tz hw) rfl ?_);apply S.cond rfl<;>intro V
 ·rw[if_pos (by simpa using V)];exact uT rfl rfl rfl
 rw[if_neg (by simpa using V)];(repeat first|refine uA ?_|simp(disch:=omega) only[go_sem,Nat.reduceAdd,d0d]);apply S.cond rfl<;>intro V
 ·rw[if_pos (by simp only[d0t]at V;omega)];exact uT rfl rfl rfl
 rw[if_neg (by simp only[d0x]at V;omega)];(repeat first|refine uA ?_|simp(disch:=omega) only[go_sem,Nat.reduceAdd,d0d]);apply S.cond rfl<;>intro V
 ·rw[if_pos (by simp only[d0R,Bool.not_eq_true',d0t,d0x]at V;omega)];exact uT rfl rfl rfl
 have aL:u.length=G.length:=by simp only[d0F,Bool.not_eq_false',d0t,d0x]at V;omega
 rw[if_neg (by simp only[d0F,Bool.not_eq_false',d0t,d0x]at V;omega)];clear V;(repeat first|refine uA ?_|simp(disch:=omega) only[go_sem,Nat.reduceAdd,d0d]);refine S.loop (X:=Nat×List Int) (λx=>⟨[(2,.bp 0 0),(3,.bp 1 0),(63,J9 u),(64,ints u.length),(65,ints x.1)],[.box 31 [ams G,wls N,pts D,sls M,gts P,.v (.bool E.neg),sb E.num,sb E.den],.box 37 [ints T,J9 u,frs A,vts B,bls H]]⟩)
  (λx=>x.1<=u.length/\(∀k,x.2.contains k=(u.take x.1).any λy=>decide (y.holds=k))/\(e1,zs)=H8 (a1Z D.length) x.2 ((G.zip u).drop x.1)) (λx=>u.length-x.1) (0,[]) ⟨d0k _,λk=>rfl,hr.symm⟩ (by repeat first|refine uA ?_|refine⟨rfl,?_⟩|rfl|simp) ?_
 rintro⟨i,h⟩ ⟨hi,hk,K⟩;simp only[ams,wls,pts,sls,gts,J9,frs,vts,bls,sb,ints]at hi hk K ⊢;refine uV rfl ?_;apply uJ rfl<;>intro V
 ·have ae:=d0b (show i<u.length by omega);have ac:=d0b (show i<G.length by omega);generalize u[i]'_=x at ae;generalize G[i]'_=a at ac;have hz:=M5 ac ae;have J:=a0p (f:=a1Z D.length) (s:=h) hz;have ab:=a0n (f:=a1Z D.length) (s:=h) hz;have hv:a1Z D.length h (a,x)=if a3v a x D.length≠0 then(a3v a x D.length,h) else if(decide (0<=x.holds)&&h.contains x.holds)=true then(10,h) else(0,a4P h x.holds):=rfl
  rw[hv]at J ab;clear hv;have Z:=b1 x (d0g ae);have ar:=a1 a (d0g ac);have o1:=a7U x.q ⟨by have:=Z.1.1;omega,λr hr=>(Z.1.2 r hr).m rfl⟩;have o2:=a7U x.v ⟨by have:=Z.2.1;omega,λr hr=>(Z.2.2 r hr).m rfl⟩;have o3:=b4E a x.q ar Z.1;have F:a3v a x D.length=if(x.q.all F9&&x.v.all F9)=false then 3 else if Y1 a x.q≠0 then Y1 a x.q else if x.v.length≠a.links.length\/x.holds < -1\/(D.length:Int)<=x.holds then 1 else G7 a1r (a.links.zip x.v):=rfl
  have al:=hk x.holds;have aq:∀k,(a4P h x.holds).contains k=(u.take (i+1)).any λy=>decide (y.holds=k):=λk=>by rw[c0l,hk,b8y ae]
  generalize h.contains x.holds=c1 at*;generalize a4P h x.holds=h' at*;generalize a3v a x D.length=o at*;generalize aF:x.q.all F9=q1 at*;generalize aD:x.v.all F9=q2 at*;generalize Y1 a x.q=fe at*;obtain⟨aC,av⟩:=Z.2;obtain⟨_,_,aH,ax⟩:=ar;obtain⟨an,⟨bx,aM,bh,bt⟩,I⟩:=a;obtain⟨xq,xv,xp,xh⟩:=x;have aK:(i:Int)<G.length:=by omega
  simp only[Am.c,Am.enc,lks,rts,sb,ints]at o1 o2 o3 F al aq aC av aH ax J ab;clear aF aD hk;(repeat first|refine uA ?_|simp(disch:=omega) only[go_sem,Nat.reduceAdd,ac,ae,d0e,d0d,Am.enc,Ast.enc,lks,rts,sb,ints,d0h]|refine uD o1 (tz hw) rfl ?_|refine uD o2 (tz hw) rfl ?_);apply S.cond rfl<;>intro W
  ·rw[if_pos (by cases q1<;>cases q2<;>simp_all)]at F;subst F;rw[if_pos (by decide)]at J;rw[J (show(3:Int)≠0 by decide)]at K;injection K with U g2;rw[if_pos (by rw[U];decide),U];exact uT rfl rfl rfl
  rw[if_neg (by cases q1<;>cases q2<;>simp_all)]at F;(repeat first|refine uA ?_|simp(disch:=omega) only[go_sem,Nat.reduceAdd,ac,d0e,d0d,Am.enc,lks,sb,d0h]|refine uD o3 (tz hw) rfl ?_);apply S.cond rfl<;>intro am
  ·have h0:fe≠0:=by simpa using am
   rw[if_pos h0]at F;subst F;rw[if_pos h0]at J;rw[J h0]at K;injection K with U g2;rw[if_pos (by rw[U];exact h0),U];exact uT rfl rfl rfl
  rw[if_neg (by simpa using am)]at F;(repeat first|refine uA ?_|simp(disch:=omega) only[go_sem,Nat.reduceAdd,d0d]);apply S.cond rfl<;>intro ag
  ·rw[if_pos (by simp only[d0R,Bool.not_eq_true',d0t,d0x]at ag;omega)]at F;subst F;rw[if_pos (by decide)]at J;rw[J (show(1:Int)≠0 by decide)]at K;injection K with U g2;rw[if_pos (by rw[U];decide),U];exact uT rfl rfl rfl
  rw[if_neg (by simp only[d0F,Bool.not_eq_false',d0t,d0x]at ag;omega)]at F;have aJ:xv.length=I.length:=by simp only[d0F,Bool.not_eq_false',d0t,d0x]at ag;omega
  clear am ag W o1 o2 o3;(repeat first|refine uA ?_|simp(disch:=omega) only[go_sem,Nat.reduceAdd,d0d]);refine S.loop (X:=Nat) (λj=>⟨[(2,.bp 0 0),(3,.bp 1 0),(63,J9 u),(64,ints u.length),(65,ints i),(6,ints i),(7,.bp 2 0),(8,lks I),(117,rts xv),(118,ints xv.length),(119,ints j)],[.box 31 [ams G,wls N,pts D,sls M,gts P,.v (.bool E.neg),sb E.num,sb E.den],.box 37 [ints T,J9 u,frs A,vts B,bls H],.box 115 [rts xq,rts xv,.v (.bool xp),ints xh]]⟩)
   (λj=>j<=xv.length/\o=G7 a1r ((I.zip xv).drop j)) (λj=>xv.length-j) 0 ⟨d0k _,F⟩ (by repeat first|refine uA ?_|refine⟨rfl,?_⟩|rfl|simp) ?_
  rintro j ⟨hj,Y⟩;simp only[ams,wls,pts,sls,gts,J9,frs,vts,bls,lks,rts,sb,ints]at hj Y ⊢;refine uV rfl ?_;apply uJ rfl<;>intro V
  ·have af:=d0b (show j<xv.length by omega);have ah:=d0b (show j<I.length by omega);generalize xv[j]'_=v at af;generalize I[j]'_=l at ah;have ao:=M5 ah af;have s1:=a0s (f:=a1r) ao;have s2:=a0r (f:=a1r) ao;have vb:=av v (d0g af);have lb:=(ax l (d0g ah)).2.2.2.1;have p1:=P8 v l.speed (vb.m rfl) (lb.m rfl);have p2:=a7T v (vb.m rfl);have p3:=P8 (Nm.ofQ (- Nm.d9 v)) l.speed ((c0z vb (by decide)).m rfl) (lb.m rfl);rw[Nm.y8]at p3;have aA:a1r (l,v)=if(0<Nm.A9 (Nm.d9 v) (Nm.d9 l.speed)\/0<Nm.A9 (- Nm.d9 v) (Nm.d9 l.speed)) then 1 else 0:=by
    unfold a1r;simp only[c1G]
   rw[aA]at s1 s2;unfold rq at p2;generalize Nm.A9 (Nm.d9 v) (Nm.d9 l.speed)=c2 at*;generalize Nm.A9 (- Nm.d9 v) (Nm.d9 l.speed)=c3 at*;generalize Nm.ofQ (- Nm.d9 v)=nv at*;have aN:(j:Int)<I.length:=by omega
   simp only[rc,sb,ints]at p1 p2 p3;(repeat first|refine uA ?_|simp(disch:=omega) only[go_sem,Nat.reduceAdd,af,ah,d0e,d0d,rcs,Lk.enc,vts,sb,d0h]|refine uD p1 (tz hw) rfl ?_|refine uD p2 (tz hw) rfl ?_|refine uD p3 (tz hw) rfl ?_);apply S.cond rfl<;>intro aa
   ·rw[if_pos (by simp only[d0R,d0t]at aa;omega)]at s1;rw[s1 (by decide)]at Y;subst Y;rw[if_pos (by decide)]at J;rw[J (show(1:Int)≠0 by decide)]at K;injection K with U g2;rw[if_pos (by rw[U];decide),U];exact uT rfl rfl rfl
   ·rw[if_neg (by simp only[d0F,d0x]at aa;omega)]at s2;(repeat first|refine uA ?_|simp(disch:=omega) only[go_sem]);refine S.next (j+1) ⟨by omega,by rw[Y];exact s2 rfl⟩ (by omega) (by repeat first|refine uA ?_|refine⟨rfl,?_⟩|rfl|simp)
  rw[a0N (by rw[List.length_zip];omega)]at Y;subst Y;rw[if_neg (by decide)]at J ab;clear hj F;have aw:(u.take i).length=i:=by rw[d0r];omega
  (repeat first|refine uA ?_|simp(disch:=omega) only[go_sem,Nat.reduceAdd,d0d,aw,d0h]);refine S.loop (X:=Nat) (λj=>⟨[(2,.bp 0 0),(3,.bp 1 0),(63,J9 u),(64,ints u.length),(65,ints i),(6,ints i),(7,.bp 2 0),(147,J9 (u.take i)),(148,ints i),(149,ints j)],[.box 31 [ams G,wls N,pts D,sls M,gts P,.v (.bool E.neg),sb E.num,sb E.den],.box 37 [ints T,J9 u,frs A,vts B,bls H],.box 115 [rts xq,rts xv,.v (.bool xp),ints xh]]⟩)
   (λj=>j<=i/\(0<=xh->((u.take i).take j).any (λy=>decide (y.holds=xh))=false)) (λj=>i-j) 0 ⟨d0k _,λ_=>rfl⟩ (by repeat first|refine uA ?_|refine⟨rfl,?_⟩|rfl|simp) ?_
  rintro j ⟨hj,ak⟩;simp only[ams,wls,pts,sls,gts,J9,frs,vts,bls,rts,sb,ints]at hj ak ⊢;refine uV rfl ?_;apply uJ rfl<;>intro V
  ·have aj:=d0b (show j<(u.take i).length by omega);generalize(u.take i)[j]'_=y at aj;have ap:=b8y (f:=λy:Ast=>decide (y.holds=xh)) aj;have aB:=d0g aj;generalize u.take i=L at*;obtain⟨yq,yv,yp,yh⟩:=y;simp only at ap;(repeat first|refine uA ?_|simp(disch:=omega) only[go_sem,Nat.reduceAdd,aj,d0e,d0d,Ast.enc,rts,ints,d0h,aw]);apply S.cond rfl<;>intro aa
   ·have au:0<=xh/\xh=yh:=by simpa using aa
    have aI:c1=true:=by
     rw[al,List.any_eq_true];exact⟨_,aB,by simp[au.2]⟩
    rw[if_pos (by rw[aI];simp[au.1])]at J;rw[J (show(10:Int)≠0 by decide)]at K;injection K with U g2;rw[if_pos (by rw[U];decide),U];exact uT rfl rfl rfl
   ·(repeat first|refine uA ?_|simp(disch:=omega) only[go_sem]);refine S.next (j+1) ⟨by omega,λh0=>?_⟩ (by omega) (by repeat first|refine uA ?_|refine⟨rfl,?_⟩|rfl|simp)
    rw[ap,ak h0,Bool.false_or];have:¬(0<=xh/\xh=yh):=by simpa using aa
    exact decide_eq_false (λe=>this ⟨h0,e.symm⟩)
  have aG:j=i:=by omega
  subst aG;rw[if_neg (by
   intro ai;rw[d0s,d0t]at ai;have:=ak ai.1;rw[d0y (by omega)]at this;rw[al,this]at ai;exact absurd ai.2 (by decide))]at ab
  (repeat first|refine uA ?_|simp(disch:=omega) only[go_sem]);refine S.next (x:=(j,h)) (j+1,h') ⟨by simp only;omega,aq,by simp only;rw[K];exact ab rfl⟩ (by simp only;omega) (by repeat first|refine uA ?_|refine⟨rfl,?_⟩|rfl|simp)
 rw[a0Q (by rw[List.length_zip];omega)]at K;injection K with U g2;subst U;rw[if_neg (show ¬(0:Int)≠0 by simp)];clear hr b1 a1 hk hi;(repeat first|refine uA ?_|simp(disch:=omega) only[go_sem,Nat.reduceAdd,d0d]);refine S.loop (X:=Nat) (λi=>⟨[(2,.bp 0 0),(3,.bp 1 0),(166,frs A),(167,ints A.length),(168,ints i)],[.box 31 [ams G,wls N,pts D,sls M,gts P,.v (.bool E.neg),sb E.num,sb E.den],.box 37 [ints T,J9 u,frs A,vts B,bls H]]⟩)
  (λi=>i<=A.length/\pA=(A.drop i).all a2K) (λi=>A.length-i) 0 ⟨d0k _,az.symm⟩ (by repeat first|refine uA ?_|refine⟨rfl,?_⟩|rfl|simp) ?_
 rintro i' ⟨hi,K⟩;simp only[ams,wls,pts,sls,gts,J9,frs,vts,bls,sb,ints]at hi ⊢;refine uV rfl ?_;apply uJ rfl<;>intro V
 ·have R:=d0b (show i'<A.length by omega);generalize A[i']'(_)=f at R;obtain⟨f1,f2,f3⟩:=b2 f (d0g R);have hs:=a6E (f:=a2K) R;rw[c4c]at hs;have o1:=a7U _ (Rbs.three (by decide) (f1.mono (m:=17179869184) (by decide)) (f2.mono (m:=17179869184) (by decide)) (f3.mono (m:=17179869184) (by decide)));have o2:=U4 f.t (f3.m rfl);generalize[f.x,f.y,f.t].all F9=q1 at*;generalize F3 (Nm.d9 f.t)=s1 at*;obtain⟨fx,fy,fh,ft⟩:=f;simp only[rts,rcs,rc,sb,ints,d0l,d0p]at o1 o2 hs
  (repeat first|refine uA ?_|(apply uK;· first|omega|(intros;simp_all<;>omega))|simp(disch:=omega) only[go_sem,Nat.reduceAdd,R,d0e,d0d,Fr.enc,sb,d0h]|refine uD o2 (tz hw) rfl ?_|(refine uE o1 ?_ ?_ ?_ ?_;exact tz hw;exact rfl;focus (repeat' first|exact j3.nil|exact Imp.refl rfl|exact Imp.frz rfl rfl rfl|(refine Imp.O0 rfl rfl ?_ ?_;(focus ((try simp only[d0c,R,d0e,d0d,Fr.enc,sb,d0h]);omega));(focus first|rfl|assumption))|refine j3.cons ?_ ?_);done));apply S.cond rfl<;>intro W
  ·rw[W]at hs;rw[K,hs,Bool.not_true,Bool.false_and,Bool.false_and,if_neg (by decide)];exact uT rfl rfl rfl
  ·rw[W]at hs;(repeat first|refine uA ?_|simp(disch:=omega) only[go_sem]);refine S.next (i'+1) ⟨by omega,by rw[K,hs];rfl⟩ (by omega) (by repeat first|refine uA ?_|refine⟨rfl,?_⟩|rfl|simp)
 rw[a7y (by omega)]at K;subst K;rw[Bool.true_and];clear az b2 hi;(repeat first|refine uA ?_|simp(disch:=omega) only[go_sem,Nat.reduceAdd,d0d]);refine S.loop (X:=Nat) (λi=>⟨[(198,vts B),(199,ints B.length),(200,ints i)],[.box 31 [ams G,wls N,pts D,sls M,gts P,.v (.bool E.neg),sb E.num,sb E.den],.box 37 [ints T,J9 u,frs A,vts B,bls H]]⟩)
  (λi=>i<=B.length/\pB=(B.drop i).all a4g) (λi=>B.length-i) 0 ⟨d0k _,aE.symm⟩ (by repeat first|refine uA ?_|refine⟨rfl,?_⟩|rfl|simp) ?_
 rintro i2 ⟨hi,K⟩;simp only[ams,wls,pts,sls,gts,J9,frs,vts,bls,sb,ints]at hi ⊢;refine uV rfl ?_;apply uJ rfl<;>intro V
 ·have R:=d0b (show i2<B.length by omega);generalize B[i2]'(_)=f at R;obtain⟨f1,f2⟩:=b3 f (d0g R);have hs:=a6E (f:=a4g) R;rw[show a4g f=[f.x,f.y].all F9 by rw[a5Q];rfl]at hs;have o1:=a7U _ (Rbs.two (by decide) (f1.mono (m:=17179869184) (by decide)) (f2.mono (m:=17179869184) (by decide)));generalize[f.x,f.y].all F9=q1 at*;obtain⟨fx,fy⟩:=f;simp only[rts,rcs,sb,d0l,d0p]at o1 hs
  (repeat first|refine uA ?_|simp(disch:=omega) only[go_sem,Nat.reduceAdd,R,d0e,d0d,Vt.enc,sb,d0h]|(refine uE o1 ?_ ?_ ?_ ?_;exact tz hw;exact rfl;focus (repeat' first|exact j3.nil|exact Imp.refl rfl|exact Imp.frz rfl rfl rfl|(refine Imp.O0 rfl rfl ?_ ?_;(focus ((try simp only[d0c,R,d0e,d0d,Vt.enc,sb,d0h]);omega));(focus first|rfl|assumption))|refine j3.cons ?_ ?_);done));apply S.cond rfl<;>intro W
  ·have h0:q1=false:=by simpa using W
   rw[K,hs,h0,Bool.false_and,if_neg (by decide)];exact uT rfl rfl rfl
  ·have h0:q1=true:=by simpa using W
   (repeat first|refine uA ?_|simp(disch:=omega) only[go_sem]);refine S.next (i2+1) ⟨by omega,by rw[K,hs,h0,Bool.true_and]⟩ (by omega) (by repeat first|refine uA ?_|refine⟨rfl,?_⟩|rfl|simp)
 rw[a7y (by omega)]at K;subst K;rw[if_pos rfl];exact uT rfl rfl rfl
end Go.Proofs.YtfkipfnkpeobjaaGreatDoor
