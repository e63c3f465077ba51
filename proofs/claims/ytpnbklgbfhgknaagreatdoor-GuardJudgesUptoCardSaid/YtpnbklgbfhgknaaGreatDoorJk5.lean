/- A part of the proof: lemmas only, with the conditions that each names. -/
import Derived.Test.YtpnbklgbfhgknaaGreatDoorProg
import Derived.KernelRfl
import Derived.Shelf.Strings.Trim
import Derived.Shelf.Small.Utf8
import Derived.Shelf.Small.Bits
import Derived.Shelf.Small.Strs
import Derived.Shelf.Small.Wraps
import Derived.Shelf.Strconv.Itoa0
import Derived.Shelf.Strings.Search1
import Derived.Shelf.Strings.Runes
import Derived.Shelf.Strings.AsciiSet
import Derived.Shelf.Unicode.DecodeSlow
import Derived.Shelf.Slices.Turned
import Derived.Shelf.Spec.TrailingZeros
import Derived.Shelf.SlSortCmp.NoneTotal
import Derived.Ground.SlsfProg
import Derived.Shelf.Strings.SlTrimAscii
import Derived.Test.YtpnbklgbfhgknaaGreatDoorJk4
set_option linter.all false
namespace Go.Proofs.YtpnbklgbfhgknaaGreatDoor
open Go Go.RowKit Eng
set_option maxRecDepth 100000
set_option maxHeartbeats 4000000
theorem a5B (q:Rat):(q < 0/\q9 q=-q) \/ (0<=q/\q9 q=q):=by
 unfold q9;have h:=@Rat.num_nonneg q;by_cases hn:q.num < 0
 ·rw [if_pos hn];left;exact ⟨by rw [<- Rat.not_le,<- h];omega,rfl⟩
 ·rw [if_neg hn];right;exact ⟨h.1 (by omega),rfl⟩
theorem a9Z {b:Rat} (h:0 < q8 b):0 < b:=by
 rcases a2i b with ⟨h1,_⟩|⟨h1,_⟩|⟨_,h1⟩
 ·omega
 ·omega
 ·exact h1
structure Calm (w:Wk) (s:Stt) (k:Nat):Prop where
 st:J3 w s=0
 people:s.people=[]
 holds:∀ x ∈ s.arms,x.holds=-1
 q:∀ x ∈ s.arms,∀ r ∈ x.q,Rb (100+1000*k) r
 v:∀ x ∈ s.arms,∀ r ∈ x.v,Rb (200+20*k) r
 tick:s.tick=k
 parts:∀ f ∈ s.parts,Fb 1048576 f
def aQ (b v:Rat) (j:Nat):Rat:=if v-(j:Rat)*b<=0 then 0 else v-(j:Rat)*b
def sQ (b v:Rat):Nat->Rat
 | 0=>0
 | j+1=>sQ b v j+aQ b v (j+1)
theorem a4p (j:Nat):((j+1:Nat):Rat)=(j:Rat)+1:=by
 rw [Rat.natCast_add];rfl
theorem b4E (b v:Rat) (j:Nat):0<=aQ b v j:=by
 unfold aQ;split<;>grind
theorem b9D {b v:Rat} (hv:0<=v):aQ b v 0=v:=by
 unfold aQ;have h:((0:Nat):Rat)=0:=rfl;rw [h];split<;>grind
theorem c6l {b v:Rat} (hb:0 < b) (j:Nat):aQ b v (j+1)=if aQ b v j<=b then 0 else aQ b v j-b:=by
 unfold aQ;rw [a4p];generalize (j:Rat)=J;have e:(J+1)*b=J*b+b:=by grind
 rw [e];generalize J*b=t;split<;>split<;>(try split)<;>grind
theorem a9N (b v:Rat):∀ (j k:Nat),j<=k->sQ b v j<=sQ b v k
 | j,0,h=>by
  have:j=0:=by omega
  subst this;exact Rat.le_refl
 | j,k+1,h=>by
  rcases c8N j (k+1) with h1|h1
  ·have h2:=a9N b v j k (by omega);have h3:=b4E b v (k+1);rw [sQ];grind
  ·have:j=k+1:=by omega
   subst this;exact Rat.le_refl
theorem b2K (b v:Rat) (j:Nat):0<=sQ b v j:=a9N b v 0 j (c8w _)
theorem b2I {b v:Rat} (hb:0 < b) {n j:Nat} (h:v<=(n:Rat)*b) (hj:n<=j):aQ b v j=0:=by
 unfold aQ;have h1:(n:Rat)<=(j:Rat):=by exact_mod_cast hj
 have h2:(n:Rat)*b<=(j:Rat)*b:=Rat.mul_le_mul_of_nonneg_right h1 (by grind);rw [if_pos (by grind)]
theorem c3k {b v:Rat} (hb:0 < b) {n:Nat} (h:v<=(n:Rat)*b):∀ j,n<=j->sQ b v j=sQ b v n
 | 0,hj=>by
  have:n=0:=by omega
  subst this;rfl
 | j+1,hj=>by
  rcases c8N n (j+1) with h1|h1
  ·rw [sQ,c3k hb h j (by omega),b2I hb h hj];grind
  ·have:n=j+1:=by omega
   subst this;rfl
theorem c6S {b v:Rat} (hb:0 < b) {n:Nat} (h:v<=(n:Rat)*b) (j:Nat):sQ b v j<=sQ b v n:=by
 rcases Nat.le_total j n with h1|h1
 ·exact a9N b v j n h1
 ·rw [c3k hb h j h1];exact Rat.le_refl
theorem a9D {b v:Rat} (hb:0 < b):∀ (m:Nat),(m:Rat)*b<=v->sQ b v m=(m:Rat)*v-b*((m:Rat)*((m:Rat)+1) / 2)
 | 0,_=>by
  have h:((0:Nat):Rat)=0:=rfl;rw [h,sQ];grind
 | m+1,h=>by
  rw [a4p] at h ⊢;have h1:(m:Rat)*b<=v:=by
   have e:((m:Rat)+1)*b=(m:Rat)*b+b:=by grind
   grind
  have h2:aQ b v (m+1)=v-((m:Rat)+1)*b:=by
   unfold aQ;rw [a4p];split<;>grind
  rw [sQ,a9D hb m h1,h2];generalize (m:Rat)=M;grind
def a5d (b v:Rat) (n:Nat):Rat:=if n < 2 then 0 else ((n-1:Nat):Rat)*v-b*((n*(n-1) / 2:Nat):Rat)
theorem b1F (n:Nat):((n*(n-1) / 2:Nat):Rat)=((n-1:Nat):Rat)*(((n-1:Nat):Rat)+1) / 2:=by
 cases n with
 | zero=>decide +kernel
 | succ m=>
  have he:2 ∣ (m+1)*m:=by
   rcases Nat.mod_two_eq_zero_or_one m with h|h
   ·exact Nat.dvd_trans (Nat.dvd_of_mod_eq_zero h) (Nat.dvd_mul_left _ _)
   ·exact Nat.dvd_trans (Nat.dvd_of_mod_eq_zero (by omega)) (Nat.dvd_mul_right _ _)
  obtain ⟨k,hk⟩:=he;have hk2:(m+1)*(m+1-1) / 2=k:=by rw [Nat.add_sub_cancel,hk];omega
  rw [hk2,Nat.add_sub_cancel];have hc:((m+1:Nat):Rat)*(m:Rat)=2*(k:Rat):=by
   have:=congrArg (fun n:Nat=>(n:Rat)) hk;simp only [Rat.natCast_mul] at this;exact this
  rw [a4p] at hc;grind
theorem b8q {b v:Rat} (hb:0 < b) {n:Nat} (h1:v<=(n:Rat)*b) (h2:1<=n->((n-1:Nat):Rat)*b<=v):a5d b v n=sQ b v n:=by
 unfold a5d;split
 ·rename_i hn;have:n=0 \/ n=1:=by omega
  rcases this with rfl|rfl
  ·rfl
  ·rw [sQ,b2I hb h1 (c8B _)]
   show (0:Rat)=0+0;grind
 ·rename_i hn;obtain ⟨m,rfl⟩:∃ m,n=m+1:=⟨n-1,by omega⟩
  have h3:=a9D hb m (h2 (by omega));have h4:=b1F (m+1);rw [Nat.add_sub_cancel] at h4 ⊢;rw [h4,sQ,b2I hb h1 (c8B _),h3];grind
def sgQ (v:Rat):Rat:=if v < 0 then -1 else 1
theorem c0m (v:Rat):sgQ v*q9 v=v:=by
 unfold sgQ;rcases a5B v with ⟨h,e⟩|⟨h,e⟩
 ·rw [if_pos h,e];grind
 ·rw [if_neg (by grind),e];grind
theorem abs_nonneg (v:Rat):0<=q9 v:=by
 rcases a5B v with ⟨h,e⟩|⟨h,e⟩<;>rw [e]<;>grind
structure Jnt (T V B:Rat) (j:Nat) (q v:Nm.Rt):Prop where
 v:Nm.d9 v=sgQ V*aQ B (q9 V) j
 q:Nm.d9 q=T+sgQ V*sQ B (q9 V) j
theorem Jnt.start (q u:Nm.Rt) (B:Rat):Jnt (Nm.d9 q+Nm.d9 u) (Nm.d9 u) B 0 (a1R q u) u:=by
 refine ⟨by rw [b9D (abs_nonneg _),c0m],?_⟩;unfold a1R;rw [Nm.l6,sQ];grind
theorem Jnt.next {T V B:Rat} {j:Nat} {q v b:Nm.Rt} (h:Jnt T V B j q v) (hb:Nm.d9 b=B) (h0:0 < B):Jnt T V B (j+1) (a1R q (a3j b v)) (a3j b v):=by
 have hv:Nm.d9 (a3j b v)=sgQ V*aQ B (q9 V) (j+1):=by
  have h1:=h.v;have h2:=c6l (v:=q9 V) h0 j;have h3:=b4E B (q9 V) j;rw [h2];unfold a3j a1R;rw [hb,h1];generalize aQ B (q9 V) j=a at *;have hs:sgQ V=1 \/ sgQ V=-1:=by unfold sgQ;split<;>simp
  generalize sgQ V=s at *;have ha:q9 (s*a)=a:=by
   rcases a5B (s*a) with ⟨e1,e2⟩|⟨e1,e2⟩<;>rcases hs with rfl|rfl<;>rw [e2]<;>grind
  rw [ha];have hle:Nm.l8 a B<=0 <-> a<=B:=by
   have:=V8 a B;constructor
   ·intro h;have:¬ B < a:=fun h4=>by have:=this.2 h4;omega
    grind
   ·intro h;have:¬ 0 < Nm.l8 a B:=fun h4=>by have:=this.1 h4;grind
    omega
  by_cases hc:a<=B
  ·rw [if_pos (hle.2 hc),if_pos hc,Nm.l6];grind
  ·rw [if_neg (fun h=>hc (hle.1 h)),if_neg hc];have hsg:=a2i (s*a);split
   ·rw [Nm.l6];rcases hs with rfl|rfl<;>grind
   ·rw [Nm.l6];rcases hs with rfl|rfl<;>grind
 refine ⟨hv,?_⟩;unfold a1R;rw [Nm.l6,h.q,hv,sQ];grind
theorem Jnt.range {T V B:Rat} {j n:Nat} {q v:Nm.Rt} (h:Jnt T V B j q v) (h0:0 < B) (h1:q9 V<=(n:Rat)*B) (h2:1<=n->((n-1:Nat):Rat)*B<=q9 V) :
  (T<=Nm.d9 q/\Nm.d9 q<=T+sgQ V*a5d B (q9 V) n) \/ (T+sgQ V*a5d B (q9 V) n<=Nm.d9 q/\Nm.d9 q<=T):=by
 rw [h.q,b8q h0 h1 h2];have h3:=b2K B (q9 V) j;have h4:=c6S h0 h1 j;have hs:sgQ V=1 \/ sgQ V=-1:=by unfold sgQ;split<;>simp
 rcases hs with e|e<;>rw [e]
 ·left;grind
 ·right;grind
def r9 (B V:Rat):Int:=if ((q9 V / B).floor:Rat) < q9 V / B then (q9 V / B).floor+1 else (q9 V / B).floor
theorem a4Y {B V:Rat} (hB:0 < B):0<=r9 B V/\q9 V<=(((r9 B V).toNat:Nat):Rat)*B/\(1<=(r9 B V).toNat->(((r9 B V).toNat-1:Nat):Rat)*B<=q9 V):=by
 have hq:q9 V / B*B=q9 V:=Rat.div_mul_cancel (by grind);have h0:0<=q9 V / B:=by
  rw [Rat.div_def];exact Rat.mul_nonneg (abs_nonneg V) (Rat.le_of_lt (Rat.inv_pos.2 hB))
 unfold r9;generalize q9 V / B=q at *;have hf:0<=q.floor:=Rat.le_floor_iff.2 (by simpa using h0);have h1:=Rat.floor_le q;have h2:=Rat.lt_floor_add_one q;obtain ⟨f,hfe⟩:∃ f:Nat,q.floor=f:=⟨q.floor.toNat,by omega⟩
 rw [hfe] at h1 h2 ⊢;have e1:(((f:Int)+1:Int):Rat)=(f:Rat)+1:=by rw [Rat.intCast_add];rfl
 have e2:(((f:Nat):Int):Rat)=(f:Rat):=rfl;rw [e1] at h2;rw [e2] at h1 ⊢;rw [<- hq];split
 ·rename_i hlt;refine ⟨by omega,?_,fun _=>?_⟩
  ·rw [show ((f:Int)+1).toNat=f+1 by omega,a4p];exact Rat.mul_le_mul_of_nonneg_right (by grind) (by grind)
  ·rw [show ((f:Int)+1).toNat-1=f by omega];exact Rat.mul_le_mul_of_nonneg_right h1 (by grind)
 ·rename_i hlt;refine ⟨by omega,?_,fun _=>?_⟩
  ·rw [c8u];exact Rat.mul_le_mul_of_nonneg_right (by grind) (by grind)
  ·rw [c8u];have h3:((f-1:Nat):Rat)<=(f:Rat):=by exact_mod_cast Nat.sub_le f 1
   exact Rat.mul_le_mul_of_nonneg_right (by grind) (by grind)
theorem b0Q (p q:Rat):u6 p q<=p/\u6 p q<=q:=by
 unfold u6;have h:=V8 p q;split
 ·have:¬ q < p:=fun h2=>by have:=h.2 h2;omega
  grind
 ·have:q < p:=h.1 (by omega);grind
theorem a6z (p q:Rat):p<=D8 p q/\q<=D8 p q:=by
 unfold D8;have h:=Y6 p q;split
 ·have:¬ p < q:=fun h2=>by have:=h.2 h2;omega
  grind
 ·have:p < q:=h.1 (by omega);grind
def a9y (q u b:Nm.Rt):Rat:=Nm.d9 q+Nm.d9 u+sgQ (Nm.d9 u)*a5d (Nm.d9 b) (q9 (Nm.d9 u)) (r9 (Nm.d9 b) (Nm.d9 u)).toNat
def loQ (q u b:Nm.Rt):Rat:=u6 (u6 (Nm.d9 q+Nm.d9 u) (a9y q u b)) (Nm.d9 q)
def hiQ (q u b:Nm.Rt):Rat:=D8 (D8 (Nm.d9 q+Nm.d9 u) (a9y q u b)) (Nm.d9 q)
def c7W (q0 u b:Nm.Rt):Nat->Nm.Rt->Nm.Rt->Prop
 | 0,q,v=>q=q0/\Nm.d9 v=0
 | k+1,q,v=>Jnt (Nm.d9 q0+Nm.d9 u) (Nm.d9 u) (Nm.d9 b) k q v \/ (q=q0/\Nm.d9 v=0)
open Go Eng
set_option maxHeartbeats 8000000
theorem c5F (n:Nat) (hb:(Nm.enc n).length<=1099511627776):u7 Tryz.prog 195 [sb (Nm.enc n)] (.tup [ints (if n < 9223372036854775808 then n else 0:Nat),ints (if n < 9223372036854775808 then 0 else 2:Nat)]):=by
 refine kS Tryz.func195 (by cbv) (by rfl) fun w O=>?_;have o1:=a0N (Nm.enc n) (by omega);rw [Nm.a6L (Nm.a2Z _)] at o1;have o2:=a2y (Nm.enc n) (by omega);rw [Nm.J4] at o2;have h256:(256:Nat) ^ 8=18446744073709551616:=by decide
 by_cases hl:(Nm.enc n).length<=8
 ·have hn:n < 18446744073709551616:=by rw [<- h256];exact Nm.Z0 hl
  rw [Nat.mod_eq_of_lt hn] at o2;generalize Nm.enc n=l at *;have d1:decide ((8:Int) < (l.length:Int))=false:=decide_eq_false (by omega);simp only [j4,TT,II,OA,OC,MM,MG];simp only [sb,ints] at *;by_cases h63:n < 9223372036854775808
  ·rw [if_pos h63,if_pos h63];have d2:decide ((9223372036854775807:Int) < (n:Int))=false:=decide_eq_false (by omega);have w1:IntKind.i64.wrap (n:Int)=(n:Int):=Eng.wrap_i64 (by omega);(repeat first|refine uA ?_|(apply uK;· omega)|simp (disch:=omega) only [go_sem,Nat.reduceBEq,F5,d1,d2]|(apply uB o1;exact rfl)|(apply uB o2;exact rfl));refine S.cond rfl (fun hc=>by simp at hc) (fun hc=>?_);(repeat first|refine uA ?_|(apply uK;· omega)|simp (disch:=omega) only [go_sem,Nat.reduceBEq,w1]|(apply uB o2;exact rfl));(refine S.done ?_;simp only [D6,go_sem,Nat.reduceBEq];exact p8.out rfl (Imp.tup (by repeat' first|exact j3.nil|exact Imp.refl rfl|apply j3.cons)) rfl)
  ·rw [if_neg h63,if_neg h63];have d2:decide ((9223372036854775807:Int) < (n:Int))=true:=decide_eq_true (by omega);(repeat first|refine uA ?_|(apply uK;· omega)|simp (disch:=omega) only [go_sem,Nat.reduceBEq,F5,d1,d2]|(apply uB o1;exact rfl)|(apply uB o2;exact rfl));refine S.cond rfl (fun hc=>?_) (fun hc=>by simp at hc);(repeat first|refine uA ?_|(apply uK;· omega)|simp (disch:=omega) only [go_sem]);(refine S.done ?_;simp only [D6,go_sem,Nat.reduceBEq];exact p8.out rfl (Imp.tup (by repeat' first|exact j3.nil|exact Imp.refl rfl|apply j3.cons)) rfl)
 ·have hn:¬ n < 9223372036854775808:=fun h=>hl (Nm.H6 (by omega));rw [if_neg hn,if_neg hn];generalize Nm.enc n=l at *;have d1:decide ((8:Int) < (l.length:Int))=true:=decide_eq_true (by omega);simp only [j4,TT,II,OA,OC,MM,MG];simp only [sb,ints] at *;(repeat first|refine uF o2 ?_|refine uA ?_|(apply uK;· omega)|simp (disch:=omega) only [go_sem,Nat.reduceBEq,F5,d1]|(apply uB o1;exact rfl));refine S.cond rfl (fun hc=>?_) (fun hc=>by simp at hc);(repeat first|refine uA ?_|(apply uK;· omega)|simp (disch:=omega) only [go_sem]);(refine S.done ?_;simp only [D6,go_sem,Nat.reduceBEq];exact p8.out rfl (Imp.tup (by repeat' first|exact j3.nil|exact Imp.refl rfl|apply j3.cons)) rfl)
theorem b3Z {p:Rat} (h:0<=p):0<=p.floor:=Rat.le_floor_iff.2 (by simpa using h)
theorem a8V (p:Rat):p.floor=Nm.sgn (decide (p.num < 0)) (if p.num < 0/\p.num.natAbs % p.den ≠ 0 then p.num.natAbs / p.den+1 else p.num.natAbs / p.den):=by
 rw [Rat.floor_def];have hd:0 < p.den:=Nat.pos_of_ne_zero p.den_nz;generalize p.den=d at *;generalize p.num=n at *;unfold Nm.sgn;by_cases hn:n < 0
 ·rw [decide_eq_true hn,if_pos rfl];obtain ⟨m,rfl⟩:∃ m:Nat,n=-(m:Int):=⟨n.natAbs,by omega⟩
  rw [Int.natAbs_neg,Int.natAbs_natCast];have h1:=Nat.div_add_mod m d;have h2:=Nat.mod_lt m hd;have e1:((m:Int))=(d:Int)*((m / d:Nat):Int)+((m % d:Nat):Int):=by rw [<- Int.natCast_mul,<- Int.natCast_add,h1]
  by_cases hz:m % d=0
  ·rw [if_neg (by simp [hz])];refine ((Int.ediv_emod_unique (r:=0) (show (0:Int) < d by omega)).2 ⟨?_,by omega,by omega⟩).1;rw [e1,hz];grind
  ·rw [if_pos ⟨hn,hz⟩];refine ((Int.ediv_emod_unique (r:=((d-m % d:Nat):Int)) (show (0:Int) < d by omega)).2 ⟨?_,by omega,by omega⟩).1;have e2:((d-m % d:Nat):Int)=(d:Int)-((m % d:Nat):Int):=by omega
   rw [e2];have e3:((m / d+1:Nat):Int)=((m / d:Nat):Int)+1:=by omega
   rw [e3];grind
 ·rw [decide_eq_false hn,if_neg (by decide),if_neg (by simp [hn])];rw [Int.natCast_ediv];congr 1;omega
theorem b6F (p:Rat) (hb:Rb 1073741824 (Nm.ofQ p)):FZ 194 [rq p] (rq (p.floor:Rat)):=by
 refine kW Tryz.func194 (by cbv) (by rfl) fun w O hw=>?_;obtain ⟨h1,h2⟩:=hb;simp only [Nm.ofQ] at h1 h2;have o1:=b2B (Nm.enc p.num.natAbs) (Nm.enc p.den) (by omega) (by omega) (by rw [Nm.J4];exact p.den_nz);simp only [Nm.J4] at o1;have hle:p.num.natAbs / p.den<=p.num.natAbs:=Nat.div_le_self _ _;have hl1:=Nm.a2T hle;have o0:=f_add (Nm.enc (p.num.natAbs / p.den)) [1] (by omega) (by decide);rw [Nm.J4,show Nm.val [1]=1 from rfl] at o0;have hl2:=Nm.a2G (k:=1073741824) (show (Nm.enc (p.num.natAbs / p.den)).length<=1073741824 by omega) (show (Nm.enc 1).length<=1073741824 by rw [Nm.O9];decide);have o2:=a3o (decide (p.num < 0)) (p.num.natAbs / p.den) 1 (by decide) (by omega) (by rw [Nm.O9];decide)
 have o3:=a3o (decide (p.num < 0)) (p.num.natAbs / p.den+1) 1 (by decide) (by omega) (by rw [Nm.O9];decide);rw [Rat.mkRat_one,Nm.O9] at o2 o3;have hf:=a8V p;have hez:(Nm.enc (p.num.natAbs % p.den)=[])=(p.num.natAbs % p.den=0):=a2Y _;generalize p.floor=f at *;by_cases hn:p.num < 0
 ·by_cases hz:p.num.natAbs % p.den=0
  ·rw [if_neg (by simp [hz])] at hf;rw [<- hf] at o2;have e0:decide (p.num < 0)=true:=decide_eq_true hn;simp only [j4,TT,OA,OB,OC,MM,VV,FF,MG];simp only [rq,rc,sb,ints,Nm.ofQ,e0] at *;(repeat first|refine uA ?_|(apply uK;· first|omega|(intros;simp_all<;>omega))|simp (disch:=omega) only [go_sem,Nat.reduceBEq,Nat.reduceAdd,a0n,hz]|(refine uB o1 ?_ ?_;rfl));refine S.cond rfl (fun hc=>by first|exact absurd (a2Y 0 ▸ rfl) hc|(simp [a2Y] at hc)) (fun hc=>?_);(repeat first|refine uA ?_|(apply uK;· first|omega|(intros;simp_all<;>omega))|simp (disch:=omega) only [go_sem,Nat.reduceBEq,Nat.reduceAdd]|(refine uD o2 ?_ ?_ ?_;exact tz hw;rfl));exact uS rfl rfl
  ·rw [if_pos ⟨hn,hz⟩] at hf;rw [<- hf] at o3;have e0:decide (p.num < 0)=true:=decide_eq_true hn;have e1:decide (p.num.natAbs % p.den=0)=false:=decide_eq_false hz;simp only [j4,TT,OA,OB,OC,MM,VV,FF,MG];simp only [rq,rc,sb,ints,Nm.ofQ,e0] at *;(repeat first|refine uA ?_|(apply uK;· first|omega|(intros;simp_all<;>omega))|simp (disch:=omega) only [go_sem,Nat.reduceBEq,Nat.reduceAdd,a0n,hez,e1]|(refine uB o1 ?_ ?_;rfl));refine S.cond rfl (fun hc=>?_) (fun hc=>by simp at hc);(repeat first|refine uA ?_|(apply uK;· first|omega|(intros;simp_all<;>omega))|simp (disch:=omega) only [go_sem,Nat.reduceBEq,Nat.reduceAdd]|(refine uB o0 ?_ ?_;rfl)|(refine uD o3 ?_ ?_ ?_;exact tz hw;rfl));exact uS rfl rfl
 ·rw [if_neg (by simp [hn])] at hf;rw [<- hf] at o2;have e0:decide (p.num < 0)=false:=decide_eq_false hn;simp only [j4,TT,OA,OB,OC,MM,VV,FF,MG];simp only [rq,rc,sb,ints,Nm.ofQ,e0] at *;(repeat first|refine uA ?_|(apply uK;· first|omega|(intros;simp_all<;>omega))|simp (disch:=omega) only [go_sem,Nat.reduceBEq,Nat.reduceAdd]|(refine uB o1 ?_ ?_;rfl));refine S.cond rfl (fun hc=>by simp at hc) (fun hc=>?_);(repeat first|refine uA ?_|(apply uK;· first|omega|(intros;simp_all<;>omega))|simp (disch:=omega) only [go_sem,Nat.reduceBEq,Nat.reduceAdd]|(refine uD o2 ?_ ?_ ?_;exact tz hw;rfl));exact uS rfl rfl
def flI (p:Rat):Int:=if p.floor.natAbs < 9223372036854775808 then p.floor else 0
def flE (p:Rat):Int:=if p.floor.natAbs < 9223372036854775808 then 0 else 2
theorem a9v {k:Nat} {p:Rat} (h:Rb k (Nm.ofQ p)):Rb (k+1) (Nm.ofQ (p.floor:Rat)):=by
 have h0:=a5r h;have h1:=h.1;simp only [Nm.ofQ] at h1;rw [a8V];have hle:(Nm.enc (p.num.natAbs / p.den)).length<=k:=c8y (Nm.a2T (Nat.div_le_self _ _)) h1;have hk:(Nm.enc 1).length<=k:=by rw [Nm.O9];exact h0
 refine ⟨?_,?_⟩
 ·show (Nm.enc (Rat.num _).natAbs).length<=_;rw [Rat.num_intCast];have e:∀ b n,(Nm.sgn b n).natAbs=n:=fun b n=>by unfold Nm.sgn;split<;>omega
  rw [e];split
  ·exact Nm.a2G hle hk
  ·omega
 ·show (Nm.enc (Rat.den _)).length<=_;rw [Rat.den_intCast];omega
theorem a9E (a:Nm.Rt) (hb:Rb 1073741824 a):FZ 161 [rc a] (.tup [ints (flI (Nm.d9 a)),ints (flE (Nm.d9 a))]):=by
 refine kW Tryz.func161 (by cbv) (by rfl) fun w O hw=>?_;have o1:=V6 a (hb.m rfl);have hb2:=hb.fit (show 1<=1073741824 by decide);have o2:=b6F (Nm.d9 a) hb2;have hfb:=(a9v hb2).1;unfold flI flE;generalize (Nm.d9 a).floor=f at *;have e1:Nm.ofQ (f:Rat)=⟨decide (f < 0),Nm.enc f.natAbs,Nm.enc 1⟩:=by
  unfold Nm.ofQ;rw [Rat.num_intCast,Rat.den_intCast]
 rw [e1] at hfb;simp only at hfb;have o3:=c5F f.natAbs (by omega);unfold rq at *;rw [e1] at o2;generalize Nm.ofQ (Nm.d9 a)=z at *;have e2:(if f.natAbs < 9223372036854775808 then f else 0)=if f < 0 then IntKind.i64.wrap (0-((if f.natAbs < 9223372036854775808 then f.natAbs else 0:Nat):Int)) else ((if f.natAbs < 9223372036854775808 then f.natAbs else 0:Nat):Int):=by
  by_cases h:f.natAbs < 9223372036854775808
  ·rw [if_pos h,if_pos h];split
   ·rw [Eng.wrap_i64 (by omega)];omega
   ·omega
  ·rw [if_neg h,if_neg h];split
   ·rw [Eng.wrap_i64 (by omega)];rfl
   ·rfl
 have e3:(if f.natAbs < 9223372036854775808 then (0:Int) else 2)=((if f.natAbs < 9223372036854775808 then 0 else 2:Nat):Int):=by split<;>rfl
 rw [e2,e3];generalize (if f.natAbs < 9223372036854775808 then f.natAbs else 0)=m at *;generalize (if f.natAbs < 9223372036854775808 then 0 else 2)=e at *;simp only [j4,TT,II,OA,OB,MM,LL,VV,FF];simp only [rc,sb,ints] at *;(repeat first|refine uA ?_|(apply uK;· omega)|simp (disch:=omega) only [go_sem,Nat.reduceBEq]|(apply uB o3;exact rfl)|(apply uD o1;exact tz hw;rfl)|(apply uD o2;exact tz hw;rfl));refine S.cond rfl (fun hc=>?_) (fun hc=>?_)
 ·rw [if_pos (by simpa using hc)];(repeat first|refine uA ?_|(apply uK;· omega)|simp (disch:=omega) only [go_sem,Nat.reduceBEq]);(refine S.done ?_;simp only [D6,go_sem,Nat.reduceBEq,Nat.reduceAdd];exact p8.out rfl (Imp.tup (by repeat' first|exact j3.nil|exact Imp.refl rfl|apply j3.cons)) rfl)
 ·rw [if_neg (by simpa using hc)];(repeat first|refine uA ?_|(apply uK;· omega)|simp (disch:=omega) only [go_sem,Nat.reduceBEq]);(refine S.done ?_;simp only [D6,go_sem,Nat.reduceBEq,Nat.reduceAdd];exact p8.out rfl (Imp.tup (by repeat' first|exact j3.nil|exact Imp.refl rfl|apply j3.cons)) rfl)
theorem a4h {n:Int} (h:n.natAbs < 18446744073709551616):Rb 8 (Nm.ofQ (n:Rat)):=by
 refine ⟨Nm.H6 ?_,Nm.H6 ?_⟩
 ·rw [Rat.num_intCast,show (256:Nat) ^ 8=18446744073709551616 by decide];exact h
 ·rw [Rat.den_intCast];decide
theorem X5 {k:Nat} {p:Rat} (h:Rb k (Nm.ofQ p)):Rb k (Nm.ofQ (q9 p)):=by
 rcases a5B p with ⟨_,e⟩|⟨_,e⟩<;>rw [e]
 ·exact a0x h
 ·exact h
structure Few (l:Lk) (v:Nm.Rt):Prop where
 hb:Rb 3 l.brake
 hv:Rb 1024 v
 pos:0 < q8 (Nm.d9 l.brake)
 few:r9 (Nm.d9 l.brake) (Nm.d9 v)<=8
def X3 (l:Lk) (v:Nm.Rt):Rat:=sgQ (Nm.d9 v)*a5d (Nm.d9 l.brake) (q9 (Nm.d9 v)) (r9 (Nm.d9 l.brake) (Nm.d9 v)).toNat
theorem c2v (v:Rat):q8 v < 0 <-> v < 0:=by
 have h:=a2i v;rcases h with h|h|h<;>constructor<;>intro h2<;>first|omega|grind
structure Sn where
 lo:Nm.Rt
 hi:Nm.Rt
def Sn.enc (s:Sn):List C:=[.v (.bool s.lo.neg),sb s.lo.num,sb s.lo.den,.v (.bool s.hi.neg),sb s.hi.num,sb s.hi.den]
def Sn.c (s:Sn):C:=.agg s.enc
def snQ (p q:Rat):Sn:=⟨Nm.ofQ p,Nm.ofQ q⟩
structure Sp where
 lo:Rat
 hi:Rat
def Sp.c (s:Sp):C:=(snQ s.lo s.hi).c
def Zb (k:Nat) (s:Sp):Prop:=Rb k (Nm.ofQ s.lo)/\Rb k (Nm.ofQ s.hi)
theorem Zb.mono {k m:Nat} {s:Sp} (h:Zb k s) (hk:k<=m):Zb m s:=⟨h.1.mono hk,h.2.mono hk⟩
theorem Zb.m {k m:Nat} {s:Sp} (h:Zb k s) (e:Nat.ble k m=true):Zb m s:=h.mono (c8G e)
def G7 (s:Sp):Sp:=if Nm.l8 s.lo s.hi<=0 then s else ⟨0,0⟩
theorem a5k {k:Nat} (h:1<=k):Rb k (Nm.ofQ 0):=⟨by show (Nm.enc (Rat.num 0).natAbs).length<=k;rw [show (Rat.num 0).natAbs=0 from rfl,Nm.a1r];exact c8w _,by show (Nm.enc (Rat.den 0)).length<=k;rw [show Rat.den 0=1 from rfl,Nm.O9];exact h⟩
theorem K6 {k:Nat} {s:Sp} (h:Zb k s):Zb k (G7 s):=by
 unfold G7;split
 ·exact h
 ·exact ⟨a5k (a5r h.1),a5k (a5r h.1)⟩
theorem a8F {p q:Rat} (h:p<=q):G7 ⟨p,q⟩=⟨p,q⟩:=by
 unfold G7;rw [if_pos];have h1:=V8 p q;have:¬ 0 < Nm.l8 p q:=fun h2=>by have:=h1.1 h2;grind
 simp only;omega
theorem Y2 (a:Nm.Rt) (h:Rb 1073741824 a):FZ 106 [rc a] (Sp.mk (Nm.d9 a) (Nm.d9 a)).c:=by
 refine kW Tryz.func106 (by cbv) (by rfl) fun w O hw=>?_;have o1:=a2k a a (h.m rfl) (h.m rfl);rw [show u6 (Nm.d9 a) (Nm.d9 a)=Nm.d9 a by unfold u6;split<;>rfl] at o1;unfold Sp.c snQ;unfold rq at *;simp only;generalize Nm.ofQ (Nm.d9 a)=z at *;simp only [j4,TT,OA,OB,LL];simp only [Sn.c,Sn.enc,rc,sb] at *;(repeat first|refine uA ?_|(apply uK;· first|omega|(intros;simp_all<;>omega))|simp (disch:=omega) only [go_sem,Nat.reduceBEq,Nat.reduceAdd]|(refine uD o1 ?_ ?_ ?_;exact tz hw;rfl));exact uS rfl rfl
theorem c0I (s:Sp) (h:Zb 1073741824 s):FZ 177 [s.c] (.v (.bool (decide (Nm.l8 s.lo s.hi<=0)))):=by
 refine kW Tryz.func177 (by cbv) (by rfl) fun w O hw=>?_;obtain ⟨p,q⟩:=s;obtain ⟨hp,hq⟩:=h;simp only at hp hq;have o1:=a0p (Nm.ofQ p) (hp.m rfl);have o2:=a0p (Nm.ofQ q) (hq.m rfl);rw [decide_eq_true (Nm.a6v _)] at o1 o2;have o3:=F6 (Nm.ofQ p) (Nm.ofQ q) (hp.m rfl) (hq.m rfl);rw [Nm.l6,Nm.l6] at o3;unfold Sp.c snQ;simp only;generalize Nm.l8 p q=c at *;generalize Nm.ofQ p=x at *;generalize Nm.ofQ q=y at *;simp only [j4,TT,II,OA,OC,MM,LL,FF,LG,FG];simp only [Sn.c,Sn.enc,rc,sb,ints] at *
 (repeat first|refine uA ?_|(apply uK;· first|omega|(intros;simp_all<;>omega))|simp (disch:=omega) only [go_sem,Nat.reduceBEq,Nat.reduceAdd]|(refine uD o1 ?_ ?_ ?_;exact tz hw;rfl)|(refine uD o2 ?_ ?_ ?_;exact tz hw;rfl)|(refine uD o3 ?_ ?_ ?_;exact tz hw;rfl));exact uS rfl rfl
theorem a1l (s:Sp) (h:Zb 1073741824 s):FZ 135 [s.c] (G7 s).c:=by
 refine kW Tryz.func135 (by cbv) (by rfl) fun w O hw=>?_;have o1:=c0I s h;have o2:=a1q;have o3:=Y2 (Nm.ofQ 0) (O8.m rfl);rw [Nm.l6] at o3;obtain ⟨p,q⟩:=s;unfold G7;simp only at o1 ⊢;generalize Nm.l8 p q=c at *;unfold Sp.c snQ at *;unfold rq at *;simp only at o1 o3 ⊢;by_cases hc:c<=0
 ·rw [if_pos hc];rw [decide_eq_true hc] at o1;simp only;generalize Nm.ofQ p=x at *;generalize Nm.ofQ q=y at *;simp only [j4,TT,II,OA,OB,LL];simp only [Sn.c,Sn.enc,sb] at o1 ⊢;(repeat first|refine uA ?_|(apply uK;· first|omega|(intros;simp_all<;>omega))|simp (disch:=omega) only [go_sem,Nat.reduceBEq,Nat.reduceAdd]|(refine uD o1 ?_ ?_ ?_;exact tz hw;rfl));refine S.cond rfl (fun hc=>by simp at hc) (fun hc=>?_);(repeat first|refine uA ?_|(apply uK;· first|omega|(intros;simp_all<;>omega))|simp (disch:=omega) only [go_sem,Nat.reduceBEq,Nat.reduceAdd]);exact uS rfl rfl
 ·rw [if_neg hc];rw [decide_eq_false hc] at o1;simp only;generalize Nm.ofQ 0=z at *;generalize Nm.ofQ p=x at *;generalize Nm.ofQ q=y at *;simp only [j4,TT,II,OA,OB,LL];simp only [Sn.c,Sn.enc,rc,sb] at o1 o2 o3 ⊢;(repeat first|refine uA ?_|(apply uK;· first|omega|(intros;simp_all<;>omega))|simp (disch:=omega) only [go_sem,Nat.reduceBEq,Nat.reduceAdd]|(refine uD o1 ?_ ?_ ?_;exact tz hw;rfl));refine S.cond rfl (fun hc=>?_) (fun hc=>by simp at hc);(repeat first|refine uA ?_|(apply uK;· first|omega|(intros;simp_all<;>omega))|simp (disch:=omega) only [go_sem,Nat.reduceBEq,Nat.reduceAdd]|(refine uD o2 ?_ ?_ ?_;exact tz hw;rfl)|(refine uD o3 ?_ ?_ ?_;exact tz hw;rfl));exact uS rfl rfl
def O4 (a b:Sp):Sp:=⟨u6 (G7 a).lo (G7 b).lo,D8 (G7 a).hi (G7 b).hi⟩
theorem a5s (a b:Sp) (ha:Zb 1073741824 a) (hb:Zb 1073741824 b):FZ 105 [a.c,b.c] (O4 a b).c:=by
 refine kW Tryz.func105 (by cbv) (by rfl) fun w O hw=>?_;have o1:=a1l a ha;have o2:=a1l b hb;have fa:=K6 ha;have fb:=K6 hb;unfold O4;generalize G7 a=a2 at *;generalize G7 b=b2 at *;obtain ⟨p,q⟩:=a2;obtain ⟨r,s⟩:=b2;have o3:=a2k (Nm.ofQ p) (Nm.ofQ r) (fa.1.m rfl) (fb.1.m rfl);have o4:=a3q (Nm.ofQ q) (Nm.ofQ s) (fa.2.m rfl) (fb.2.m rfl);rw [Nm.l6,Nm.l6] at o3 o4;obtain ⟨a1,a2⟩:=a;obtain ⟨b1,b2⟩:=b;unfold Sp.c snQ at *;unfold rq at *;simp only at o1 o2 o3 o4 ⊢;generalize Nm.ofQ (u6 p r)=m1 at *;generalize Nm.ofQ (D8 q s)=m2 at *;generalize Nm.ofQ p=x at *;generalize Nm.ofQ q=y at *;generalize Nm.ofQ r=z at *;generalize Nm.ofQ s=t at *;generalize Nm.ofQ a1=n1 at *;generalize Nm.ofQ a2=n2 at *
 generalize Nm.ofQ b1=n3 at *;generalize Nm.ofQ b2=n4 at *;simp only [j4,TT,OA,OB,LL,FF];simp only [Sn.c,Sn.enc,rc,sb] at o1 o2 o3 o4 ⊢;(repeat first|refine uA ?_|(apply uK;· first|omega|(intros;simp_all<;>omega))|simp (disch:=omega) only [go_sem,Nat.reduceBEq,Nat.reduceAdd]|(refine uD o1 ?_ ?_ ?_;exact tz hw;rfl)|(refine uD o2 ?_ ?_ ?_;exact tz hw;rfl)|(refine uD o3 ?_ ?_ ?_;exact tz hw;rfl)|(refine uD o4 ?_ ?_ ?_;exact tz hw;rfl));exact uS rfl rfl
def b0v (l:Lk) (t v:Nm.Rt):Sn:=snQ (u6 (Nm.d9 t) (Nm.d9 t+X3 l v)) (D8 (Nm.d9 t) (Nm.d9 t+X3 l v))
def a4m (L:List Lk) (t v:List Nm.Rt):List Sn:=(L.zip (t.zip v)).map fun z=>b0v z.1 z.2.1 z.2.2
theorem a7E {L:List Lk} {t v:List Nm.Rt} {i:Nat} {l:Lk} {x y:Nm.Rt} (h1:L[i]?=some l) (h2:t[i]?=some x) (h3:v[i]?=some y):(a4m L t v)[i]?=some (b0v l x y):=by
 unfold a4m;rw [c8x,J5 h1 (J5 h2 h3)];rfl
theorem a7Y {L:List Lk} {t v:List Nm.Rt} (h1:t.length=L.length) (h2:v.length=L.length):(a4m L t v).length=L.length:=by
 unfold a4m;simp only [c8r,List.length_zip];omega
def U8 (a b:Sp):Sp:=⟨(G7 a).lo+(G7 b).lo,(G7 a).hi+(G7 b).hi⟩
theorem a3C {k m:Nat} {a b:Sp} (ha:Zb k a) (hb:Zb m b):Zb (k+m+1) (U8 a b):=⟨I5 (K6 ha).1 (K6 hb).1,I5 (K6 ha).2 (K6 hb).2⟩
theorem a4O (a b:Sp) (ha:Zb 1073741824 a) (hb:Zb 1073741824 b):FZ 204 [a.c,b.c] (U8 a b).c:=by
 refine kW Tryz.func204 (by cbv) (by rfl) fun w O hw=>?_;have o1:=a1l a ha;have o2:=a1l b hb;have fa:=K6 ha;have fb:=K6 hb;unfold U8;generalize G7 a=a2 at *;generalize G7 b=b2 at *;obtain ⟨p,q⟩:=a2;obtain ⟨r,s⟩:=b2;have o3:=a1p p r (fa.1.m rfl) (fb.1.m rfl);have o4:=a1p q s (fa.2.m rfl) (fb.2.m rfl);obtain ⟨a1,a2⟩:=a;obtain ⟨b1,b2⟩:=b;unfold Sp.c snQ at *;unfold rq at *;simp only at o1 o2 o3 o4 ⊢;generalize Nm.ofQ (p+r)=m1 at *;generalize Nm.ofQ (q+s)=m2 at *;generalize Nm.ofQ p=x at *;generalize Nm.ofQ q=y at *;generalize Nm.ofQ r=z at *;generalize Nm.ofQ s=t at *;generalize Nm.ofQ a1=n1 at *;generalize Nm.ofQ a2=n2 at *;generalize Nm.ofQ b1=n3 at *;generalize Nm.ofQ b2=n4 at *
 simp only [j4,TT,OA,OB,LL,FF];simp only [Sn.c,Sn.enc,rc,sb] at o1 o2 o3 o4 ⊢;(repeat first|refine uA ?_|(apply uK;· first|omega|(intros;simp_all<;>omega))|simp (disch:=omega) only [go_sem,Nat.reduceBEq,Nat.reduceAdd]|(apply uD o1;exact tz hw;rfl)|(apply uD o2;exact tz hw;rfl)|(apply uD o3;exact tz hw;rfl)|(apply uD o4;exact tz hw;rfl));exact uS rfl rfl
def a2L (a b:Sp):Sp:=⟨(G7 a).lo-(G7 b).hi,(G7 a).hi-(G7 b).lo⟩
theorem b1f {k m:Nat} {a b:Sp} (ha:Zb k a) (hb:Zb m b):Zb (k+m+1) (a2L a b):=⟨F9 (K6 ha).1 (K6 hb).2,F9 (K6 ha).2 (K6 hb).1⟩
theorem b6s (a b:Sp) (ha:Zb 1073741824 a) (hb:Zb 1073741824 b):FZ 202 [a.c,b.c] (a2L a b).c:=by
 refine kW Tryz.func202 (by cbv) (by rfl) fun w O hw=>?_;have o1:=a1l a ha;have o2:=a1l b hb;have fa:=K6 ha;have fb:=K6 hb;unfold a2L;generalize G7 a=a2 at *;generalize G7 b=b2 at *;obtain ⟨p,q⟩:=a2;obtain ⟨r,s⟩:=b2;have o3:=a3W p s (fa.1.m rfl) (fb.2.m rfl);have o4:=a3W q r (fa.2.m rfl) (fb.1.m rfl);obtain ⟨a1,a2⟩:=a;obtain ⟨b1,b2⟩:=b;unfold Sp.c snQ at *;unfold rq at *;simp only at o1 o2 o3 o4 ⊢;generalize Nm.ofQ (p-s)=m1 at *;generalize Nm.ofQ (q-r)=m2 at *;generalize Nm.ofQ p=x at *;generalize Nm.ofQ q=y at *;generalize Nm.ofQ r=z at *;generalize Nm.ofQ s=t at *;generalize Nm.ofQ a1=n1 at *;generalize Nm.ofQ a2=n2 at *;generalize Nm.ofQ b1=n3 at *;generalize Nm.ofQ b2=n4 at *
 simp only [j4,TT,OA,OB,LL,FF];simp only [Sn.c,Sn.enc,rc,sb] at o1 o2 o3 o4 ⊢;(repeat first|refine uA ?_|(apply uK;· first|omega|(intros;simp_all<;>omega))|simp (disch:=omega) only [go_sem,Nat.reduceBEq,Nat.reduceAdd]|(apply uD o1;exact tz hw;rfl)|(apply uD o2;exact tz hw;rfl)|(apply uD o3;exact tz hw;rfl)|(apply uD o4;exact tz hw;rfl));exact uS rfl rfl
theorem a3z {k:Nat} {p q:Rat} (hp:Rb k (Nm.ofQ p)) (hq:Rb k (Nm.ofQ q)):Rb k (Nm.ofQ (u6 p q)):=by unfold u6;split;exact hp;exact hq
theorem a0T {k:Nat} {p q:Rat} (hp:Rb k (Nm.ofQ p)) (hq:Rb k (Nm.ofQ q)):Rb k (Nm.ofQ (D8 p q)):=by unfold D8;split;exact hp;exact hq
def arF (q:Rat) (l:List Rat):Sp:=l.foldl (fun s a=>⟨u6 s.lo a,D8 s.hi a⟩) ⟨q,q⟩
theorem b6Z {k:Nat}:∀ (l:List Rat) (s:Sp),Zb k s->(∀ a ∈ l,Rb k (Nm.ofQ a))->Zb k (l.foldl (fun s a=>⟨u6 s.lo a,D8 s.hi a⟩) s)
 | [],s,h,_=>h
 | a::l,s,h,hl=>b6Z l _ ⟨a3z h.1 (hl a (by simp)),a0T h.2 (hl a (by simp))⟩ fun b hb=>hl b (by simp [hb])
def arI (q:Rat) (l:List Rat) (i:Nat):Sp:=arF q (l.take i)
theorem c7x {k:Nat} {q:Rat} {l:List Rat} (hq:Rb k (Nm.ofQ q)) (hl:∀ a ∈ l,Rb k (Nm.ofQ a)) (i:Nat):Zb k (arI q l i):=b6Z _ _ ⟨hq,hq⟩ fun a ha=>hl a (List.mem_of_mem_take ha)
theorem c2n {q:Rat} {l:List Rat} {i:Nat} {a:Rat} (h:l[i]?=some a):arI q l (i+1)=⟨u6 (arI q l i).lo a,D8 (arI q l i).hi a⟩:=by
 unfold arI arF;rw [take_at h,List.foldl_append];rfl
theorem b3p (q:Rat) (l:List Rat) (hq:Rb 1073741824 (Nm.ofQ q)) (hl:∀ a ∈ l,Rb 1073741824 (Nm.ofQ a)) (hn:l.length<=1000):FZ 232 [.sl 3 (rcs (Nm.ofQ q)::l.map fun a=>rcs (Nm.ofQ a))] (arF q l).c:=by
 refine kW Tryz.func232 (by cbv) (by rfl) fun w O hw=>?_;have o1:=Y2 (Nm.ofQ q) hq;rw [Nm.l6] at o1;have hE:arI q l l.length=arF q l:=by unfold arI;rw [c8J]
 have hB:=c7x hq hl;have hS:=@c2n q l;have h0:arI q l 0=⟨q,q⟩:=rfl;rw [<- hE];clear hE;generalize arI q l=F at *;simp only [j4,TT,II,OA,OB,MM,LL,FF];simp only [Sp.c,snQ,Sn.c,Sn.enc,rc,rcs,sb] at o1 ⊢;(repeat first|refine uA ?_|(apply uK;· omega)|simp (disch:=omega) only [go_sem,Nat.reduceBEq,c8R,c8r,List.getElem?_cons_zero,Int.toNat_zero,Nat.add_sub_cancel,c8J]|(apply uD o1;exact tz hw;rfl))
 refine S.loop (X:=Nat) (fun i=>⟨[(2,.bp 0 0),(3,.bp 1 0),(11,.sl 3 (l.map fun a=>rcs (Nm.ofQ a))),(12,ints l.length),(13,ints i)],[.box 98 [.v (.bool false),sb [],sb [],.v (.bool false),sb [],sb []],.box 98 (snQ (F i).lo (F i).hi).enc]⟩) (fun i=>i<=l.length) (fun i=>l.length-i) 0 (c8w _) (by rw [h0];exact (by repeat first|refine uA ?_|(refine ⟨?_,?_⟩;· first|rfl|simp [slot])|rfl|simp)) ?_;intro i hi;simp only [rcs,sb,ints,snQ,Sn.enc];(repeat first|refine uA ?_|(apply uK;· omega)|simp (disch:=omega) only [go_sem,Nat.reduceBEq]);(refine uJ rfl (fun hc=>?_) fun hc=>?_)
 ·have hi':i < l.length:=by omega
  have hg:=c8q hi';generalize l[i]=a at *;have hs:=hS hg;have ra:=hl a (c8t hg);have rF:=hB i;have o2:=a2k (Nm.ofQ (F i).lo) (Nm.ofQ a) (rF.1.m rfl) (ra.m rfl);have o3:=a3q (Nm.ofQ (F i).hi) (Nm.ofQ a) (rF.2.m rfl) (ra.m rfl);rw [Nm.l6,Nm.l6] at o2 o3;clear hB hS h0 o1 rF ra;unfold rq at o2 o3;simp only [rc,sb] at o2 o3;(repeat first|refine uA ?_|(apply uK;· first|omega|(intros;simp_all<;>omega))|simp (disch:=omega) only [go_sem,Nat.reduceBEq,Nat.reduceAdd,ww,hg,c8s,c8r,c8u]|(apply uD o2;exact tz hw;rfl)|(apply uD o3;exact tz hw;rfl));refine S.next (i+1) (by omega) (by omega) (by rw [hs];exact (by repeat first|refine uA ?_|(refine ⟨?_,?_⟩;· first|rfl|simp [slot])|rfl|simp))
 ·have hi':i=l.length:=by omega
  subst hi';(repeat first|refine uA ?_|(apply uK;· omega)|simp (disch:=omega) only [go_sem,Nat.reduceBEq]);exact uS rfl rfl
def I8 (a b:Sp):Sp:=arF ((G7 a).lo*(G7 b).lo) [(G7 a).lo*(G7 b).hi,(G7 a).hi*(G7 b).lo,(G7 a).hi*(G7 b).hi]
theorem V7 {k m:Nat} {a b:Sp} (ha:Zb k a) (hb:Zb m b):Zb (k+m) (I8 a b):=by
 have fa:=K6 ha;have fb:=K6 hb;refine b6Z _ _ ⟨y9 fa.1 fb.1,y9 fa.1 fb.1⟩ fun x hx=>?_;simp only [List.mem_cons,List.not_mem_nil,or_false] at hx;rcases hx with rfl|rfl|rfl
 ·exact y9 fa.1 fb.2
 ·exact y9 fa.2 fb.1
 ·exact y9 fa.2 fb.2
theorem a1N (a b:Sp) (ha:Zb 268435456 a) (hb:Zb 268435456 b):FZ 203 [a.c,b.c] (I8 a b).c:=by
 refine kW Tryz.func203 (by cbv) (by rfl) fun w O hw=>?_;have o1:=a1l a (ha.m rfl);have o2:=a1l b (hb.m rfl);have fa:=K6 ha;have fb:=K6 hb;unfold I8;generalize G7 a=a2 at *;generalize G7 b=b2 at *;obtain ⟨p,q⟩:=a2;obtain ⟨r,s⟩:=b2
 try simp only at fa fb
 have o3:=a1g p r (fa.1.m rfl) (fb.1.m rfl);have o4:=a1g p s (fa.1.m rfl) (fb.2.m rfl);have o5:=a1g q r (fa.2.m rfl) (fb.1.m rfl);have o6:=a1g q s (fa.2.m rfl) (fb.2.m rfl);have o7:=b3p (p*r) [p*s,q*r,q*s] ((y9 fa.1 fb.1).m rfl) (fun x hx=>by
  simp only [List.mem_cons,List.not_mem_nil,or_false] at hx;rcases hx with rfl|rfl|rfl
  ·exact (y9 fa.1 fb.2).m rfl
  ·exact (y9 fa.2 fb.1).m rfl
  ·exact (y9 fa.2 fb.2).m rfl) (by simp)
 simp only;generalize arF (p*r) [p*s,q*r,q*s]=R at *;obtain ⟨a1,a2⟩:=a;obtain ⟨b1,b2⟩:=b;obtain ⟨r1,r2⟩:=R;unfold Sp.c snQ at *;unfold rq at *;simp only [c8K,c8O] at o1 o2 o7 ⊢;generalize Nm.ofQ (p*r)=m1 at *;generalize Nm.ofQ (p*s)=m2 at *;generalize Nm.ofQ (q*r)=m3 at *;generalize Nm.ofQ (q*s)=m4 at *;generalize Nm.ofQ p=x at *;generalize Nm.ofQ q=y at *;generalize Nm.ofQ r=z at *;generalize Nm.ofQ s=t at *;generalize Nm.ofQ a1=n1 at *;generalize Nm.ofQ a2=n2 at *;generalize Nm.ofQ b1=n3 at *;generalize Nm.ofQ b2=n4 at *;generalize Nm.ofQ r1=n5 at *;generalize Nm.ofQ r2=n6 at *;simp only [j4,TT,OA,OB,LL,FF];simp only [Sn.c,Sn.enc,rc,rcs,sb] at o1 o2 o3 o4 o5 o6 o7 ⊢
 (repeat first|refine uA ?_|(apply uK;· first|omega|(intros;simp_all<;>omega))|simp (disch:=omega) only [go_sem,Nat.reduceBEq,Nat.reduceAdd]|(apply uD o1;exact tz hw;rfl)|(apply uD o2;exact tz hw;rfl)|(apply uD o3;exact tz hw;rfl)|(apply uD o4;exact tz hw;rfl)|(apply uD o5;exact tz hw;rfl)|(apply uD o6;exact tz hw;rfl)|(apply uE o7;exact tz hw;exact rfl;focus (repeat' first|exact j3.nil|exact Imp.refl rfl|exact Imp.frz rfl rfl rfl|(refine Imp.K5 rfl rfl ?_ ?_;(focus ((try simp only [c8A]);omega));(focus first|rfl|assumption))|refine j3.cons ?_ ?_);done));exact uS rfl rfl
def X9 (s:Sp) (a:Rat):Bool:=decide (Nm.l8 (G7 s).lo a<=0) && decide (Nm.l8 a (G7 s).hi<=0)
theorem a8v (s:Sp) (a:Nm.Rt) (hs:Zb 1073741824 s) (ha:Rb 1073741824 a):FZ 66 [s.c,rc a] (.v (.bool (X9 s (Nm.d9 a)))):=by
 refine kW Tryz.func66 (by cbv) (by rfl) fun w O hw=>?_;have o1:=a1l s hs;have fs:=K6 hs;unfold X9;generalize G7 s=s2 at *;obtain ⟨p,q⟩:=s2
 try simp only at fs
 have o2:=F6 (Nm.ofQ p) a (fs.1.m rfl) (ha.m rfl);have o3:=F6 a (Nm.ofQ q) (ha.m rfl) (fs.2.m rfl);rw [Nm.l6] at o2 o3;obtain ⟨s1,s2⟩:=s;unfold Sp.c snQ at *;simp only at o1 ⊢;generalize Nm.l8 p (Nm.d9 a)=c1 at *;generalize Nm.l8 (Nm.d9 a) q=c2 at *;generalize Nm.ofQ p=x at *;generalize Nm.ofQ q=y at *;generalize Nm.ofQ s1=n1 at *;generalize Nm.ofQ s2=n2 at *;simp only [j4,TT,II,OA,OB,OC,MM,LL,FF,LG,FG];simp only [Sn.c,Sn.enc,rc,sb,ints] at o1 o2 o3 ⊢;(repeat first|refine uA ?_|(apply uK;· first|omega|(intros;simp_all<;>omega))|simp (disch:=omega) only [go_sem,Nat.reduceBEq,Nat.reduceAdd]|(apply uD o1;exact tz hw;rfl)|(apply uD o2;exact tz hw;rfl)|(apply uD o3;exact tz hw;rfl))
 exact uS rfl rfl
def sqI (s:Sp):Sp:=arF ((G7 s).lo*(G7 s).lo) [(G7 s).hi*(G7 s).hi]
def a5S (s:Sp):Sp:=if X9 (G7 s) 0=true then ⟨0,(sqI s).hi⟩ else sqI s
theorem c2W {k:Nat} {s:Sp} (h:Zb k s):Zb (k+k) (sqI s):=by
 have fa:=K6 h;refine b6Z _ _ ⟨y9 fa.1 fa.1,y9 fa.1 fa.1⟩ fun x hx=>?_;rw [List.mem_singleton] at hx;subst hx;exact y9 fa.2 fa.2
theorem b2W {k:Nat} {s:Sp} (h:Zb k s):Zb (k+k) (a5S s):=by
 have:=c2W h;unfold a5S;split
 ·exact ⟨a5k (a5r this.1),this.2⟩
 ·exact this
def a1w (p:Rat):Rat:=mkRat (p*1000000).floor 1000000
theorem a8E:(Nm.enc 1000000).length<=3:=Nm.H6 (by decide)
theorem b9S:Nm.ofQ (1000000:Rat)=⟨false,Nm.enc 1000000,Nm.enc 1⟩:=by
 unfold Nm.ofQ;rw [show (1000000:Rat)=((1000000:Int):Rat) from rfl,Rat.num_intCast,Rat.den_intCast];rfl
theorem b3R:Rb 3 (Nm.ofQ (1000000:Rat)):=by
 rw [b9S];exact ⟨a8E,by show (Nm.enc 1).length<=3;rw [Nm.O9];decide⟩
theorem b0P (f:Int):Nm.sgn (decide (f < 0)) f.natAbs=f:=by
 unfold Nm.sgn;by_cases h:f < 0
 ·rw [decide_eq_true h,if_pos rfl];omega
 ·rw [decide_eq_false h,if_neg (by decide)];omega
theorem a2V (f:Int):Nm.ofQ (f:Rat)=⟨decide (f < 0),Nm.enc f.natAbs,Nm.enc 1⟩:=by
 unfold Nm.ofQ;rw [Rat.num_intCast,Rat.den_intCast]
theorem b4y {k:Nat} {p:Rat} (h:Rb k (Nm.ofQ p)):Rb (k+4) (Nm.ofQ (a1w p)):=by
 have h2:=(a9v (y9 h b3R)).1;rw [a2V] at h2;unfold a1w;rw [<- b0P (p*1000000).floor];have h3:=a8E;exact a6r (k:=k+4) (by decide) (by simp only at h2;omega) (by omega) (by omega) (c8B _)
theorem b9P (p:Rat) (hp:Rb 536870912 (Nm.ofQ p)):FZ 246 [rq p,.v (.int .i64 1000000)] (rq (a1w p)):=by
 refine kW Tryz.func246 (by cbv) (by rfl) fun w O hw=>?_;have o1:=b3D 1000000 (by decide);rw [show (1000000:Int).toNat=1000000 from rfl] at o1;have o2:=a1g p 1000000 (hp.m rfl) (b3R.m rfl);have h1:=y9 hp b3R;have o3:=b6F (p*1000000) (h1.m rfl);have h2:=(a9v h1).1;unfold a1w;generalize p*1000000=x at *;generalize x.floor=f at *;have h3:=a8E;rw [a2V] at h2;have o4:=a3o (decide (f < 0)) f.natAbs 1000000 (by decide) (by simp only at h2;omega) (by omega);rw [b0P] at o4;unfold rq at *;rw [b9S] at o2;rw [a2V] at o3;rw [Nm.O9] at o2 o3;clear h1 h2 h3 hp;generalize Nm.enc 1000000=e at *;generalize decide (f < 0)=s at *;generalize Nm.enc f.natAbs=n at *;generalize Nm.ofQ (mkRat f 1000000)=r at *
 generalize Nm.ofQ p=m1 at *;generalize Nm.ofQ x=m2 at *;simp only [j4,TT,II,OA,OB,MM,LL,VV,FF];simp only [rc,sb,ints] at *;(repeat first|refine uA ?_|(apply uK;· first|omega|(intros;simp_all<;>omega))|simp (disch:=omega) only [go_sem,Nat.reduceBEq,Nat.reduceAdd]|(apply uB o1;exact rfl)|(apply uD o2;exact tz hw;rfl)|(apply uD o3;exact tz hw;rfl)|(apply uD o4;exact tz hw;rfl));exact uS rfl rfl
def upQ (p:Rat):Rat:=- a1w (- p)
theorem c8b {k:Nat} {p:Rat} (h:Rb k (Nm.ofQ p)):Rb (k+4) (Nm.ofQ (upQ p)):=a0x (b4y (a0x h))
theorem c7J (p:Rat) (hp:Rb 268435456 (Nm.ofQ p)):FZ 247 [rq p,.v (.int .i64 1000000)] (rq (upQ p)):=by
 refine kW Tryz.func247 (by cbv) (by rfl) fun w O hw=>?_;have o1:=a4S (Nm.ofQ p) (hp.m rfl);have h1:=a0x hp;have o2:=b9P (-p) (h1.m rfl);have o3:=a4S (Nm.ofQ (a1w (-p))) ((b4y h1).m rfl);rw [Nm.l6] at o1 o3;unfold upQ;unfold rq at *;generalize Nm.ofQ (- a1w (-p))=m1 at *;generalize Nm.ofQ (a1w (-p))=m2 at *;generalize Nm.ofQ (-p)=m3 at *;generalize Nm.ofQ p=m4 at *;simp only [j4,TT,OA,OB,MM,LL];simp only [rc,sb] at *;(repeat first|refine uA ?_|(apply uK;· first|omega|(intros;simp_all<;>omega))|simp (disch:=omega) only [go_sem,Nat.reduceBEq,Nat.reduceAdd]|(apply uD o1;exact tz hw;rfl)|(apply uD o2;exact tz hw;rfl)|(apply uD o3;exact tz hw;rfl));exact uS rfl rfl
def a7s (s:Sp):Sp:=⟨a1w (G7 s).lo,upQ (G7 s).hi⟩
theorem b4G {k:Nat} {s:Sp} (h:Zb k s):Zb (k+4) (a7s s):=⟨b4y (K6 h).1,c8b (K6 h).2⟩
theorem c4A (s:Sp) (hs:Zb 268435456 s):FZ 230 [s.c,.v (.int .i64 1000000)] (a7s s).c:=by
 refine kW Tryz.func230 (by cbv) (by rfl) fun w O hw=>?_;have o1:=a1l s (hs.m rfl);have fs:=K6 hs;unfold a7s;generalize G7 s=t at *;obtain ⟨p,q⟩:=t;have o2:=b9P p (fs.1.m rfl);have o3:=c7J q (fs.2.m rfl);obtain ⟨s1,s2⟩:=s;unfold Sp.c snQ at *;unfold rq at *;simp only at o1 ⊢;generalize Nm.ofQ (a1w p)=m1 at *;generalize Nm.ofQ (upQ q)=m2 at *;generalize Nm.ofQ p=m3 at *;generalize Nm.ofQ q=m4 at *;generalize Nm.ofQ s1=m5 at *;generalize Nm.ofQ s2=m6 at *;simp only [j4,TT,OA,OB,MM,LL,FF];simp only [Sn.c,Sn.enc,rc,sb] at o1 o2 o3 ⊢
 (repeat first|refine uA ?_|(apply uK;· first|omega|(intros;simp_all<;>omega))|simp (disch:=omega) only [go_sem,Nat.reduceBEq,Nat.reduceAdd]|(apply uD o1;exact tz hw;rfl)|(apply uD o2;exact tz hw;rfl)|(apply uD o3;exact tz hw;rfl));exact uS rfl rfl
def c1Z:Sp:=⟨-1,1⟩
theorem a8D:Rb 8 (Nm.ofQ (-1)):=a0x R8
theorem c5x:FZ 231 [] c1Z.c:=by
 refine kW Tryz.func231 (by cbv) (by rfl) fun w O hw=>?_;have o1:=a1y 1 (by decide) (by decide);have o2:=a1y (-1) (by decide) (by decide);rw [show ((1:Int):Rat)=1 from rfl] at o1;rw [show ((-1:Int):Rat)=-1 from rfl] at o2;unfold Sp.c snQ c1Z;unfold rq at *;simp only;generalize Nm.ofQ (-1)=m1 at *;generalize Nm.ofQ 1=m2 at *;simp only [j4,TT,II,OA,OB];simp only [Sn.c,Sn.enc,rc,sb,ints] at o1 o2 ⊢;(repeat first|refine uA ?_|(apply uK;· omega)|simp (disch:=omega) only [go_sem,Nat.reduceBEq]|(apply uD o1;exact tz hw;rfl)|(apply uD o2;exact tz hw;rfl));exact uS rfl rfl
def a2l (s:Sp):Sp:=⟨D8 (a7s s).lo (-1),u6 (a7s s).hi 1⟩
theorem b8U {k:Nat} {s:Sp} (h:Zb k s):Zb (k+12) (a2l s):=⟨a0T ((b4G h).1.mono (by omega)) (a8D.mono (by omega)),a3z ((b4G h).2.mono (by omega)) (R8.mono (by omega))⟩
theorem c2R (s:Sp) (hs:Zb 268435456 s):FZ 201 [s.c] (a2l s).c:=by
 refine kW Tryz.func201 (by cbv) (by rfl) fun w O hw=>?_;have o1:=c4A s hs;have fs:=b4G hs;have o2:=c5x;unfold a2l;generalize a7s s=t at *;obtain ⟨p,q⟩:=t;have o3:=a3q (Nm.ofQ p) (Nm.ofQ (-1)) (fs.1.m rfl) (a8D.m rfl);have o4:=a2k (Nm.ofQ q) (Nm.ofQ 1) (fs.2.m rfl) (R8.m rfl);rw [Nm.l6,Nm.l6] at o3 o4;obtain ⟨s1,s2⟩:=s;unfold c1Z at o2;unfold Sp.c snQ at *;unfold rq at *;simp only at o1 o2 ⊢;generalize Nm.ofQ (D8 p (-1))=m1 at *;generalize Nm.ofQ (u6 q 1)=m2 at *;generalize Nm.ofQ p=m3 at *;generalize Nm.ofQ q=m4 at *;generalize Nm.ofQ s1=m5 at *;generalize Nm.ofQ s2=m6 at *;generalize Nm.ofQ (-1)=m7 at *;generalize Nm.ofQ 1=m8 at *;simp only [j4,TT,II,OA,OB,LL,FF]
 simp only [Sn.c,Sn.enc,rc,sb] at o1 o2 o3 o4 ⊢;(repeat first|refine uA ?_|(apply uK;· first|omega|(intros;simp_all<;>omega))|simp (disch:=omega) only [go_sem,Nat.reduceBEq,Nat.reduceAdd]|(apply uD o1;exact tz hw;rfl)|(apply uD o2;exact tz hw;rfl)|(apply uD o3;exact tz hw;rfl)|(apply uD o4;exact tz hw;rfl));exact uS rfl rfl
def a6V (a:Rat):Rat:=(1-a) / (1+a)
theorem one_add {a:Rat} (h:0<=a):1+a ≠ 0:=by
 intro e;have h1:(0:Rat) < 1:=by decide
 grind
theorem b8W {k:Nat} {a:Rat} (h0:0<=a) (h:Rb k (Nm.ofQ a)):Rb (k+k+18) (Nm.ofQ (a6V a)):=(a7C (one_add h0) (F9 R8 h) (I5 R8 h)).mono (by omega)
theorem b8O (a:Rat) (h0:0<=a) (h:Rb 1073741824 (Nm.ofQ a)):FZ 229 [rq a] (rq (a6V a)):=by
 refine kW Tryz.func229 (by cbv) (by rfl) fun w O hw=>?_;have o1:=a1y 1 (by decide) (by decide);rw [show ((1:Int):Rat)=1 from rfl] at o1;have o2:=a3W 1 a (R8.m rfl) (h.m rfl);have o3:=a1p 1 a (R8.m rfl) (h.m rfl);have o4:=b7c (1-a) (1+a) ((F9 R8 h).m rfl) ((I5 R8 h).m rfl);rw [show a3r (1-a) (1+a)=Nm.ofQ ((1-a) / (1+a)) by unfold a3r;rw [if_neg (one_add h0)]] at o4;unfold a6V;unfold rq at *;generalize Nm.ofQ ((1-a) / (1+a))=m1 at *;generalize Nm.ofQ (1-a)=m2 at *;generalize Nm.ofQ (1+a)=m3 at *;generalize Nm.ofQ a=m4 at *;generalize Nm.ofQ 1=m5 at *;simp only [j4,TT,II,OA,OB,MM,LL];simp only [rc,sb,ints] at *
 (repeat first|refine uA ?_|(apply uK;· omega)|simp (disch:=omega) only [go_sem,Nat.reduceBEq]|(apply uD o1;exact tz hw;rfl)|(apply uD o2;exact tz hw;rfl)|(apply uD o3;exact tz hw;rfl)|(apply uD o4;exact tz hw;rfl));exact uS rfl rfl
theorem b8b:∀ (l:List Rat) (s:Sp),0<=s.lo->0<=s.hi->(∀ a ∈ l,0<=a)->0<=(l.foldl (fun s a=>(⟨u6 s.lo a,D8 s.hi a⟩:Sp)) s).lo/\0<=(l.foldl (fun s a=>(⟨u6 s.lo a,D8 s.hi a⟩:Sp)) s).hi
 | [],s,h1,h2,_=>⟨h1,h2⟩
 | a::l,s,h1,h2,hl=>b8b l _ (by simp only [u6];split;exact h1;exact hl a (by simp)) (by simp only [D8];split;exact h2;exact hl a (by simp)) fun b hb=>hl b (by simp [hb])
theorem c3Z (s:Sp):0<=(sqI s).lo/\0<=(sqI s).hi:=b8b _ _ (sq_nonneg _) (sq_nonneg _) fun a ha=>by
 rw [List.mem_singleton] at ha;rw [ha];exact sq_nonneg _
theorem a5l (s:Sp):0<=(a5S s).lo/\0<=(a5S s).hi:=by
 have h:=c3Z s;unfold a5S;split
 ·exact ⟨Rat.le_refl,h.2⟩
 ·exact h
def a9q (s:Sp):Sp:=⟨a6V (a5S s).hi,a6V (a5S s).lo⟩
theorem c5V {k:Nat} {s:Sp} (h:Zb k s):Zb (4*k+18) (a9q s):=⟨(b8W (a5l s).2 (b2W h).2).mono (by omega),(b8W (a5l s).1 (b2W h).1).mono (by omega)⟩
structure Lq where
 x:Sp
 y:Sp
 c:Sp
 s:Sp
def Sp.enc (s:Sp):List C:=(snQ s.lo s.hi).enc
def Lq.enc (l:Lq):List C:=l.x.enc++l.y.enc++l.c.enc++l.s.enc
def Zl (k:Nat) (l:Lq):Prop:=Zb k l.x/\Zb k l.y/\Zb k l.c/\Zb k l.s
def ptS (a:Nm.Rt):Sp:=⟨Nm.d9 a,Nm.d9 a⟩
theorem a3X {k:Nat} {a:Nm.Rt} (h:Rb k a) (hk:1<=k):Zb k (ptS a):=⟨h.fit hk,h.fit hk⟩
def atX (l:Lq) (v:Vt):Sp:=U8 l.x (a2L (I8 (ptS v.x) l.c) (I8 (ptS v.y) l.s))
def atY (l:Lq) (v:Vt):Sp:=U8 l.y (U8 (I8 (ptS v.x) l.s) (I8 (ptS v.y) l.c))
theorem a3O {k:Nat} {a b:Sp} (ha:Zb k a) (hb:Zb k b):Zb k (O4 a b):=⟨a3z (K6 ha).1 (K6 hb).1,a0T (K6 ha).2 (K6 hb).2⟩
def ptQ (q:Rat):Sp:=⟨q,q⟩
def a3J (u s:Sp) (l:List Int):Sp:=l.foldl (fun s (n:Int)=>if X9 u (n:Rat)=true then O4 s (ptQ n) else s) s
def b7A (u:Sp):Sp:=O4 (ptQ (Y3 u.lo)) (ptQ (Y3 u.hi))
def a9x (t:Sp):Sp:=a3J (O4 t t) (b7A (O4 t t)) [-1,1]
theorem a4q {k:Nat} {q:Rat} (h:Rb k (Nm.ofQ q)):Rb (4*k+18) (Nm.ofQ (Y3 q)):=(a7C (b0y q) (I5 h h) (I5 R8 (y9 h h))).mono (by omega)
theorem b8L {k:Nat} {u:Sp} (h:Zb k u):Zb (4*k+18) (b7A u):=a3O ⟨a4q h.1,a4q h.1⟩ ⟨a4q h.2,a4q h.2⟩
theorem b5U {k:Nat} {n:Int} (hk:8<=k) (h:n=-1 \/ n=1):Rb k (Nm.ofQ (n:Rat)):=by
 rcases h with rfl|rfl
 ·exact a8D.mono hk
 ·exact R8.mono hk
theorem b3n {k:Nat} {u:Sp} (hk:8<=k):∀ (l:List Int) (s:Sp),Zb k s->(∀ n ∈ l,n=-1 \/ n=1)->Zb k (a3J u s l)
 | [],s,h,_=>h
 | n::l,s,h,hl=>by
  refine b3n hk l _ ?_ fun m hm=>hl m (by simp [hm]);have:=b5U hk (hl n (by simp))
  show Zb k (if X9 u (n:Rat)=true then O4 s (ptQ n) else s);split
  ·exact a3O h ⟨this,this⟩
  ·exact h
theorem c6a {k:Nat} {t:Sp} (h:Zb k t):Zb (4*k+18) (a9x t):=b3n (by omega) _ _ (b8L (a3O h h)) (by simp)
theorem b9T (u s:Sp) {l:List Int} {i:Nat} {n:Int} (h:l[i]?=some n):a3J u s (l.take (i+1))=if X9 u (n:Rat)=true then O4 (a3J u s (l.take i)) (ptQ n) else a3J u s (l.take i):=by
 unfold a3J;rw [take_at h,List.foldl_append];rfl
def a2K (n:Lq) (t:Sp):Lq:=⟨n.x,n.y,a2l (a2L (I8 n.c (a9q t)) (I8 n.s (a9x t))),a2l (U8 (I8 n.s (a9q t)) (I8 n.c (a9x t)))⟩
def a7F (f:Lq) (l:Lk):Lq:=⟨U8 f.x (I8 (ptS l.length) f.c),U8 f.y (I8 (ptS l.length) f.s),f.c,f.s⟩
def K9:Lq->List (Lk × Sp)->List Lq
 | n,[]=>[n]
 | n,(l,t)::r=>a2K n t::K9 (a7F (a2K n t) l) r
def a0u (b:Fr):Lq:=⟨ptS b.x,ptS b.y,ptQ (a2e b.half (K7 b.half b.t)),ptQ (Y3 (K7 b.half b.t))⟩
def SB (i:Nat):Nat:=262144*6 ^ i
theorem Zl.mono {k m:Nat} {l:Lq} (h:Zl k l) (hm:k<=m):Zl m l:=⟨h.1.mono hm,h.2.1.mono hm,h.2.2.1.mono hm,h.2.2.2.mono hm⟩
theorem Zl.m {k m:Nat} {l:Lq} (h:Zl k l) (e:Nat.ble k m=true):Zl m l:=h.mono (c8G e)
theorem c7S {L:List Lk} {q:List Sp} {i:Nat} {l:Lk} {t:Sp} (h1:L[i]?=some l) (h2:q[i]?=some t):(L.zip q)[i]?=some (l,t):=by
 rw [List.getElem?_zip_eq_some];exact ⟨h1,h2⟩
structure Bq where
 lx:Rat
 ly:Rat
 hx:Rat
 hy:Rat
def Bq.enc (b:Bq):List C:=[.v (.bool (Nm.ofQ b.lx).neg),sb (Nm.ofQ b.lx).num,sb (Nm.ofQ b.lx).den,.v (.bool (Nm.ofQ b.ly).neg),sb (Nm.ofQ b.ly).num,sb (Nm.ofQ b.ly).den,.v (.bool (Nm.ofQ b.hx).neg),sb (Nm.ofQ b.hx).num,sb (Nm.ofQ b.hx).den,.v (.bool (Nm.ofQ b.hy).neg),sb (Nm.ofQ b.hy).num,sb (Nm.ofQ b.hy).den]
def b0K (l:Lq):Bq:=⟨l.x.lo,l.y.lo,l.x.hi,l.y.hi⟩
theorem c6P (l:Lq):FZ 171 [.agg l.enc] (.agg (b0K l).enc):=by
 refine kW Tryz.func171 (by cbv) (by rfl) fun w O hw=>?_;obtain ⟨⟨x1,x2⟩,⟨y1,y2⟩,⟨c1,c2⟩,⟨s1,s2⟩⟩:=l;simp only [j4,TT,OA,OB,LL,FF];simp only [b0K,Bq.enc,Lq.enc,Sp.enc,Sn.enc,snQ,sb,List.cons_append,List.nil_append];(repeat first|refine uA ?_|(apply uK;· first|omega|(intros;simp_all<;>omega))|simp (disch:=omega) only [go_sem,Nat.reduceBEq,Nat.reduceAdd]);exact uS rfl rfl
theorem a2r:∀ (Z:List (Lk × Sp)) (n:Lq),(K9 n Z).length=Z.length+1
 | [],_=>rfl
 | (l,t)::r,n=>by rw [K9,c8R,a2r r,c8R]
def a1I (a:Am) (q:List Sp):List Bq:=(K9 (a0u a.base) (a.links.zip q)).map b0K
theorem c6f (x y:Sp):FZ 171 [.agg (x.enc++y.enc++[.v (.bool false),sb [],sb [],.v (.bool false),sb [],sb [],.v (.bool false),sb [],sb [],.v (.bool false),sb [],sb []])] (.agg (Bq.mk x.lo y.lo x.hi y.hi).enc):=by
 refine kW Tryz.func171 (by cbv) (by rfl) fun w O hw=>?_;obtain ⟨x1,x2⟩:=x;obtain ⟨y1,y2⟩:=y;simp only [j4,TT,OA,OB,LL,FF];simp only [Bq.enc,Sp.enc,Sn.enc,snQ,sb,List.cons_append,List.nil_append];(repeat first|refine uA ?_|(apply uK;· first|omega|(intros;simp_all<;>omega))|simp (disch:=omega) only [go_sem,Nat.reduceBEq,Nat.reduceAdd]);exact uS rfl rfl
theorem b0z {l:Lk} (h:R4 l=0):3<=l.shape.length/\l.shape.length<=8/\∀ v ∈ l.shape,Rb 8 v.x/\Rb 8 v.y:=by
 unfold R4 at h;split at h
 ·cases h
 split at h
 ·cases h
 split at h
 ·rename_i h1;exact absurd h h1
 ·rename_i h1;have h1:J8 l.shape 8=0:=Classical.not_not.1 h1;unfold J8 at h1;split at h1
  ·cases h1
  split at h1
  ·cases h1
  split at h
  ·rename_i h4;refine ⟨by omega,by omega,fun v hv=>?_⟩;have:=List.all_eq_true.1 h4 v hv;simp only [c8F] at this;exact ⟨(a2j this.1).m rfl,(a2j this.2).m rfl⟩
  ·cases h
def ptI (f:Lq) (s:Sp × Sp) (r:List Vt):Sp × Sp:=r.foldl (fun s v=>(O4 s.1 (atX f v),O4 s.2 (atY f v))) s
def shB (f:Lq) (l:Lk):Bq:=match l.shape with
 | []=>⟨0,0,0,0⟩
 | v::r=>⟨(ptI f (atX f v,atY f v) r).1.lo,(ptI f (atX f v,atY f v) r).2.lo,(ptI f (atX f v,atY f v) r).1.hi,(ptI f (atX f v,atY f v) r).2.hi⟩
def a3e (T:List Lq) (L:List Lk):List Bq:=(L.zip T).map fun z=>shB z.2 z.1
theorem c2C (f:Lq) (s:Sp × Sp) {r:List Vt} {i:Nat} {v:Vt} (h:r[i]?=some v):ptI f s (r.take (i+1))=(O4 (ptI f s (r.take i)).1 (atX f v),O4 (ptI f s (r.take i)).2 (atY f v)):=by
 unfold ptI;rw [take_at h,List.foldl_append];rfl
theorem b5N {a:Am} (ha:H9 a=0):Zl (SB 0) (a0u a.base):=by
 obtain ⟨fb,_⟩:=a6f ha;have rT:=b1h (h:=a.base.half) (fb.2.2.mono (show tB 0<=64 by decide)) (by decide);have rC:Rb 262144 (Nm.ofQ (a2e a.base.half (K7 a.base.half a.base.t))):=(b9J _ rT).m rfl;have rS:Rb 262144 (Nm.ofQ (Y3 (K7 a.base.half a.base.t))):=(a4q rT).m rfl;exact ⟨(a3X (fb.1.mono (show xB 0<=64 by decide)) (by decide)).m rfl,(a3X (fb.2.1.mono (show xB 0<=64 by decide)) (by decide)).m rfl,⟨rC,rC⟩,⟨rS,rS⟩⟩
def Bb (k:Nat) (b:Bq):Prop:=Rb k (Nm.ofQ b.lx)/\Rb k (Nm.ofQ b.ly)/\Rb k (Nm.ofQ b.hx)/\Rb k (Nm.ofQ b.hy)
def a0b (b:Bq) (r:Rat):Bq:=⟨b.lx-r,b.ly-r,b.hx+r,b.hy+r⟩
theorem a6s {k m:Nat} {b:Bq} {r:Rat} (h:Bb k b) (hr:Rb m (Nm.ofQ r)):Bb (k+m+1) (a0b b r):=⟨F9 h.1 hr,F9 h.2.1 hr,I5 h.2.2.1 hr,I5 h.2.2.2 hr⟩
theorem c5k (b:Bq) (r:Rat) (hb:Bb 1073741824 b) (hr:Rb 1073741824 (Nm.ofQ r)):FZ 54 [.agg b.enc,rq r] (.agg (a0b b r).enc):=by
 refine kW Tryz.func54 (by cbv) (by rfl) fun w O hw=>?_;obtain ⟨lx,ly,hx,hy⟩:=b;obtain ⟨b1,b2,b3,b4⟩:=hb;simp only at b1 b2 b3 b4;have o1:=a3W lx r (b1.m rfl) (hr.m rfl);have o2:=a3W ly r (b2.m rfl) (hr.m rfl);have o3:=a1p hx r (b3.m rfl) (hr.m rfl);have o4:=a1p hy r (b4.m rfl) (hr.m rfl);unfold a0b;simp only;generalize lx-r=x1 at *;generalize ly-r=x2 at *;generalize hx+r=x3 at *;generalize hy+r=x4 at *;simp only [j4,TT,OA,OB,LL,FF];simp only [Bq.enc,rq,rc,sb] at o1 o2 o3 o4 ⊢
 (repeat first|refine uA ?_|(apply uK;· first|omega|(intros;simp_all<;>omega))|simp (disch:=omega) only [go_sem,Nat.reduceBEq,Nat.reduceAdd]|(apply uD o1;exact tz hw;rfl)|(apply uD o2;exact tz hw;rfl)|(apply uD o3;exact tz hw;rfl)|(apply uD o4;exact tz hw;rfl));exact uS rfl rfl
def a9I (b:Bq) (r:Rat):Bq:=a0b b (D8 r 0)
theorem c4Q (b:Bq) (r:Rat) (hb:Bb 1073741824 b) (hr:Rb 1073741824 (Nm.ofQ r)):FZ 122 [.agg b.enc,rq r] (.agg (a9I b r).enc):=by
 refine kW Tryz.func122 (by cbv) (by rfl) fun w O hw=>?_;obtain ⟨lx,ly,hx,hy⟩:=b;obtain ⟨b1,b2,b3,b4⟩:=hb;simp only at b1 b2 b3 b4;have o0:=a1q;have o5:=a3q (Nm.ofQ r) (Nm.ofQ 0) (hr.m rfl) (O8.m rfl);rw [Nm.l6,Nm.l6] at o5;have hm:Rb 1073741824 (Nm.ofQ (D8 r 0)):=a0T hr (O8.m rfl);unfold a9I a0b;simp only;generalize D8 r 0=r' at *;have o1:=a3W lx r' (b1.m rfl) (hm.m rfl);have o2:=a3W ly r' (b2.m rfl) (hm.m rfl);have o3:=a1p hx r' (b3.m rfl) (hm.m rfl);have o4:=a1p hy r' (b4.m rfl) (hm.m rfl);generalize lx-r'=x1 at *;generalize ly-r'=x2 at *;generalize hx+r'=x3 at *;generalize hy+r'=x4 at *;generalize (0:Rat)=z at *;simp only [j4,TT,II,OA,OB,LL,FF]
 simp only [Bq.enc,rq,rc,sb] at o0 o1 o2 o3 o4 o5 ⊢;(repeat first|refine uA ?_|(apply uK;· first|omega|(intros;simp_all<;>omega))|simp (disch:=omega) only [go_sem,Nat.reduceBEq,Nat.reduceAdd]|(apply uD o0;exact tz hw;rfl)|(apply uD o5;exact tz hw;rfl)|(apply uD o1;exact tz hw;rfl)|(apply uD o2;exact tz hw;rfl)|(apply uD o3;exact tz hw;rfl)|(apply uD o4;exact tz hw;rfl));exact uS rfl rfl
def a6b (walk:Rat) (n:Int):Rat:=D8 walk 0*(n:Rat)
theorem c7f (p:Nm.Rt) (n:Int) (hp:Rb 1073741824 p) (h0:0<=n) (h1:n<=1000000):FZ 123 [rc p,ints n] (rq (a6b (Nm.d9 p) n)):=by
 refine kW Tryz.func123 (by cbv) (by rfl) fun w O hw=>?_;have o0:=a1q;have o1:=a3q p (Nm.ofQ 0) (hp.m rfl) (O8.m rfl);rw [Nm.l6] at o1;have hm:Rb 1073741824 (Nm.ofQ (D8 (Nm.d9 p) 0)):=a0T (hp.g rfl) (O8.m rfl);have o2:=a1y n (by omega) (by omega);have hn:Rb 8 (Nm.ofQ (n:Rat)):=by
  rw [a2V];exact ⟨Nm.H6 (by omega),by show (Nm.enc 1).length<=8;rw [Nm.O9];decide⟩
 have o3:=a1g (D8 (Nm.d9 p) 0) (n:Rat) (hm.m rfl) (hn.m rfl);unfold a6b;generalize D8 (Nm.d9 p) 0*(n:Rat)=x1 at *;generalize D8 (Nm.d9 p) 0=x2 at *;have hmx:(if n < 0 then 0 else n)=n:=if_neg (by omega);generalize (n:Rat)=x3 at *;generalize (0:Rat)=z at *;simp only [j4,TT,II,OA,OB,MM,LL];simp only [rq,rc,sb,ints] at o0 o1 o2 o3 ⊢;(repeat first|refine uA ?_|(apply uK;· first|omega|(intros;simp_all<;>omega))|simp (disch:=omega) only [go_sem,Nat.reduceBEq,Nat.reduceAdd,hmx]|(apply uD o0;exact tz hw;rfl)|(apply uD o1;exact tz hw;rfl)|(apply uD o2;exact tz hw;rfl)|(apply uD o3;exact tz hw;rfl));exact uS rfl rfl
def a5f (b:Bq):Bool:=decide (Nm.l8 b.lx b.hx<=0) && decide (Nm.l8 b.ly b.hy<=0)
theorem b5S (b:Bq) (hb:Bb 4294967296 b):FZ 121 [.agg b.enc] (.v (.bool (a5f b))):=by
 refine kW Tryz.func121 (by cbv) (by rfl) fun w O hw=>?_;obtain ⟨lx,ly,hx,hy⟩:=b;obtain ⟨b1,b2,b3,b4⟩:=hb;simp only at b1 b2 b3 b4;have o1:=F6 (Nm.ofQ lx) (Nm.ofQ hx) (b1.m rfl) (b3.m rfl);have o2:=F6 (Nm.ofQ ly) (Nm.ofQ hy) (b2.m rfl) (b4.m rfl);rw [Nm.l6,Nm.l6] at o1 o2;unfold a5f;simp only;generalize Nm.l8 lx hx=c1 at *;generalize Nm.l8 ly hy=c2 at *;simp only [j4,TT,II,OA,OC,MM,LL,FF,LG,FG];simp only [Bq.enc,rc,sb,ints] at o1 o2 ⊢;(repeat first|refine uA ?_|(apply uK;· first|omega|(intros;simp_all<;>omega))|simp (disch:=omega) only [go_sem,Nat.reduceBEq,Nat.reduceAdd]|(apply uD o1;exact tz hw;rfl)|(apply uD o2;exact tz hw;rfl));exact uS rfl rfl
def a4x (a b:Bq):Bool:=a5f a && a5f b && decide (Nm.l8 a.lx b.hx<=0) && decide (Nm.l8 b.lx a.hx<=0) && decide (Nm.l8 a.ly b.hy<=0) && decide (Nm.l8 b.ly a.hy<=0)
theorem b8M (a b:Bq) (ha:Bb 4294967296 a) (hb:Bb 4294967296 b):FZ 51 [.agg a.enc,.agg b.enc] (.v (.bool (a4x a b))):=by
 refine kW Tryz.func51 (by cbv) (by rfl) fun w O hw=>?_;have v1:=b5S a ha;have v2:=b5S b hb;unfold a4x;generalize a5f a=u1 at *;generalize a5f b=u2 at *;obtain ⟨lx,ly,hx,hy⟩:=a;obtain ⟨kx,ky,gx,gy⟩:=b;obtain ⟨a1,a2,a3,a4⟩:=ha;obtain ⟨b1,b2,b3,b4⟩:=hb;simp only at a1 a2 a3 a4 b1 b2 b3 b4;have o1:=F6 (Nm.ofQ lx) (Nm.ofQ gx) (a1.m rfl) (b3.m rfl);have o2:=F6 (Nm.ofQ kx) (Nm.ofQ hx) (b1.m rfl) (a3.m rfl);have o3:=F6 (Nm.ofQ ly) (Nm.ofQ gy) (a2.m rfl) (b4.m rfl);have o4:=F6 (Nm.ofQ ky) (Nm.ofQ hy) (b2.m rfl) (a4.m rfl);rw [Nm.l6,Nm.l6] at o1 o2 o3 o4;simp only;generalize Nm.l8 lx gx=c1 at *;generalize Nm.l8 kx hx=c2 at *;generalize Nm.l8 ly gy=c3 at *;generalize Nm.l8 ky hy=c4 at *
 simp only [j4,TT,II,OA,OC,MM,LL,LG,FG];simp only [Bq.enc,rc,sb,ints] at v1 v2 o1 o2 o3 o4 ⊢;(repeat first|refine uA ?_|(apply uK;· first|omega|(intros;simp_all<;>omega))|simp (disch:=omega) only [go_sem,Nat.reduceBEq,Nat.reduceAdd]|(apply uD v1;exact tz hw;rfl)|(apply uD v2;exact tz hw;rfl)|(apply uD o1;exact tz hw;rfl)|(apply uD o2;exact tz hw;rfl)|(apply uD o3;exact tz hw;rfl)|(apply uD o4;exact tz hw;rfl));exact uS rfl rfl
def Q7 (b:Bq):List Vt:=if 0<=Nm.l8 b.lx b.hx \/ 0<=Nm.l8 b.ly b.hy then [] else [⟨Nm.ofQ b.lx,Nm.ofQ b.ly⟩,⟨Nm.ofQ b.hx,Nm.ofQ b.ly⟩,⟨Nm.ofQ b.hx,Nm.ofQ b.hy⟩,⟨Nm.ofQ b.lx,Nm.ofQ b.hy⟩]
theorem c2l (b:Bq) (hb:Bb 4294967296 b):FZ 44 [.agg b.enc] (vts (Q7 b)):=by
 refine kW Tryz.func44 (by cbv) (by rfl) fun w O hw=>?_;obtain ⟨lx,ly,hx,hy⟩:=b;obtain ⟨b1,b2,b3,b4⟩:=hb;simp only at b1 b2 b3 b4;have o1:=F6 (Nm.ofQ lx) (Nm.ofQ hx) (b1.m rfl) (b3.m rfl);have o2:=F6 (Nm.ofQ ly) (Nm.ofQ hy) (b2.m rfl) (b4.m rfl);rw [Nm.l6,Nm.l6] at o1 o2;unfold Q7;simp only;generalize Nm.l8 lx hx=c1 at *;generalize Nm.l8 ly hy=c2 at *;simp only [j4,TT,II,OA,OC,MM,LL,FF,LG,FG];simp only [Bq.enc,rc,sb,ints] at o1 o2 ⊢;(repeat first|refine uA ?_|(apply uK;· first|omega|(intros;simp_all<;>omega))|simp (disch:=omega) only [go_sem,Nat.reduceBEq,Nat.reduceAdd]|(apply uD o1;exact tz hw;rfl)|(apply uD o2;exact tz hw;rfl));refine S.cond rfl (fun hc=>?_) (fun hc=>?_)
 ·rw [if_pos (by first|simpa using hc|(simp at hc;omega)|(simp only [c9f,c8D] at hc;omega)|(revert hc;by_cases 0<=c1<;>by_cases 0<=c2<;>simp_all))];(repeat first|refine uA ?_|(apply uK;· omega)|simp (disch:=omega) only [go_sem]);exact S.done (p8.out rfl Imp.I9 rfl)
 ·rw [if_neg (by first|simpa using hc|(simp at hc;omega)|(simp only [c9f,c8D] at hc;omega)|(revert hc;by_cases 0<=c1<;>by_cases 0<=c2<;>simp_all))];(repeat first|refine uA ?_|(apply uK;· first|omega|(intros;simp_all<;>omega))|simp (disch:=omega) only [go_sem,Nat.reduceBEq,Nat.reduceAdd]);simp only [vts,c8K,c8O,Vt.enc,sb];exact uQ rfl (Imp.frz rfl rfl rfl) rfl rfl
def a7O (a:Nm.Rt):Nm.Rt:=⟨false,Nm.enc (Nm.d9 a).num.natAbs,Nm.enc (Nm.d9 a).den⟩
theorem c5Y {k:Nat} {a:Nm.Rt} (h:Rb k a) (hk:1<=k):Rb k (a7O a):=h.fit hk
def b1a (z:Lk × Nm.Rt × Nm.Rt):Bool:=decide z.2.2.F7 && !decide (0 < Nm.l8 (Nm.d9 (a7O z.2.2)) (Nm.d9 z.1.speed)) && !decide (Nm.l8 (Nm.d9 z.2.1+Nm.d9 z.2.2) (Nm.d9 z.1.low) < 0) && !decide (0 < Nm.l8 (Nm.d9 z.2.1+Nm.d9 z.2.2) (Nm.d9 z.1.high))
def a0O (Z:List (Lk × Nm.Rt × Nm.Rt)):Bool:=Z.all b1a
theorem b1S (a:Am) (q u:List Nm.Rt) (hl:Ab 1073741824 a) (hq:q.length=a.links.length) (hu:u.length=a.links.length) (hqb:∀ r ∈ q,Rb 1073741824 r) (hub:∀ r ∈ u,Rb 1073741824 r):FZ 38 [a.c,rts q,rts u] (.v (.bool (a0O (a.links.zip (q.zip u))))):=by
 refine kW Tryz.func38 (cF rfl rfl (by cbv) (by repeat' first|exact cS|exact cT|exact cE|apply cA|apply cC|apply cB|apply cL|(apply cR;cbv)|(apply cD;cbv;cbv;kernel_rfl))) (by rfl) fun w O hw=>?_;have hn:=hl.2.2.1;have hlk:=hl.2.2.2;obtain ⟨name,⟨bx,by',half,tu⟩,links⟩:=a;simp only at hq hu hn hlk ⊢;have hz0:a0O (links.zip (q.zip u))=a0O ((links.zip (q.zip u)).drop 0):=rfl;generalize hB:a0O (links.zip (q.zip u))=B at *;simp only [j4,TT,II,OA,OB,OC,MM,LL,VV,FF,MG,LG,FG];simp only [Am.c,Am.enc,lks,rts,sb];(repeat first|refine uA ?_|(apply uK;· first|omega|(intros;simp_all<;>omega))|simp (disch:=omega) only [go_sem,Nat.reduceBEq,Nat.reduceAdd,c8r])
 refine S.cond rfl (fun hc=>by simp at hc;omega) (fun hc=>?_);(repeat first|refine uA ?_|(apply uK;· first|omega|(intros;simp_all<;>omega))|simp (disch:=omega) only [go_sem,Nat.reduceBEq,Nat.reduceAdd,c8r]);refine S.loop (X:=Nat) (fun i=>⟨[(1,rts q),(2,rts u),(17,lks links),(18,ints links.length),(19,ints i)],[]⟩) (fun i=>i<=links.length/\B=a0O ((links.zip (q.zip u)).drop i)) (fun i=>links.length-i) 0 ⟨c8w _,hz0⟩ (by repeat first|refine uA ?_|(refine ⟨?_,?_⟩;· first|rfl|simp [slot])|rfl|simp) ?_;rintro i ⟨hi,hb⟩;simp only [lks,rts,ints];(repeat first|refine uA ?_|(apply uK;· first|omega|(intros;simp_all<;>omega))|simp (disch:=omega) only [go_sem,Nat.reduceBEq])
 (refine uJ rfl (fun hc=>?_) fun hc=>?_)
 ·have hi':i < links.length:=by omega
  have hgl:=c8q hi';have hgq:=c8q (show i < q.length by omega);have hgu:=c8q (show i < u.length by omega);generalize links[i]=l at *;generalize q[i]'_=x at *;generalize u[i]'_=y at *;have rl:=hlk l (c8t hgl);have rx:=hqb x (c8t hgq);have ry:=hub y (c8t hgu);have o1:=Z7 x y (rx.m rfl) (ry.m rfl);have r1:=I5 (rx.g rfl) (ry.g rfl);have o2:=a0p y (ry.m rfl);have o3:=b8o y (ry.m rfl);have o4:=F6 (a7O y) l.speed ((c5Y ry (by decide)).m rfl) (rl.2.2.2.1.m rfl);have o5:=F6 (Nm.ofQ (Nm.d9 x+Nm.d9 y)) l.low (r1.m rfl) (rl.2.1.m rfl);have o6:=F6 (Nm.ofQ (Nm.d9 x+Nm.d9 y)) l.high (r1.m rfl) (rl.2.2.1.m rfl);rw [Nm.l6] at o5 o6
  rw [show (⟨false,Nm.enc (Nm.d9 y).num.natAbs,Nm.enc (Nm.d9 y).den⟩:Nm.Rt)=a7O y from rfl] at o3;rw [drop_at (J5 hgl (J5 hgq hgu))] at hb;unfold a0O at hb;rw [List.all_cons] at hb;generalize hko:b1a (l,x,y)=ok at hb;unfold b1a at hko;simp only at hko;have hqi:(i:Int) < q.length:=by omega
  have hui:(i:Int) < u.length:=by omega
  clear rl rx ry r1 hlk hqb hub hB hz0;generalize Nm.l8 (Nm.d9 (a7O y)) (Nm.d9 l.speed)=c1 at *;generalize Nm.l8 (Nm.d9 x+Nm.d9 y) (Nm.d9 l.low)=c2 at *;generalize Nm.l8 (Nm.d9 x+Nm.d9 y) (Nm.d9 l.high)=c3 at *;generalize Nm.d9 x+Nm.d9 y=s at *;generalize decide y.F7=g at *;generalize a7O y=ya at *;simp only [rq,rc,sb,ints] at o1 o2 o3 o4 o5 o6
  (repeat first|refine uA ?_|(apply uK;· first|omega|(intros;simp_all<;>omega))|simp (disch:=omega) only [go_sem,Nat.reduceBEq,Nat.reduceAdd,hgl,hgq,hgu,c8s,c8r,Lk.enc,rcs,vts,sb,c8u]|(refine uD o1 ?_ ?_ ?_;exact tz hw;rfl)|(refine uD o2 ?_ ?_ ?_;exact tz hw;rfl)|(refine uD o3 ?_ ?_ ?_;exact tz hw;rfl)|(refine uD o4 ?_ ?_ ?_;exact tz hw;rfl)|(refine uD o5 ?_ ?_ ?_;exact tz hw;rfl)|(refine uD o6 ?_ ?_ ?_;exact tz hw;rfl));refine S.cond rfl (fun hc=>?_) (fun hc=>?_)
  ·have hB0:B=false:=by
    rw [hb,<- hko];revert hc;cases g<;>by_cases h1:0 < c1<;>by_cases h2:c2 < 0<;>by_cases h3:0 < c3<;>simp [h1,h2,h3]
   rw [hB0];(repeat first|refine uA ?_|(apply uK;· first|omega|(intros;simp_all<;>omega))|simp (disch:=omega) only [go_sem]);exact uS rfl rfl
  ·have hB1:B=a0O ((links.zip (q.zip u)).drop (i+1)):=by
    rw [hb,<- hko];revert hc;unfold a0O;cases g<;>by_cases h1:0 < c1<;>by_cases h2:c2 < 0<;>by_cases h3:0 < c3<;>simp [h1,h2,h3]
   (repeat first|refine uA ?_|(apply uK;· first|omega|(intros;simp_all<;>omega))|simp (disch:=omega) only [go_sem,Nat.reduceBEq,ww]);refine S.next (x:=i) (i+1) ⟨by omega,hB1⟩ (by omega) (by repeat first|refine uA ?_|(refine ⟨?_,?_⟩;· first|rfl|simp [slot])|rfl|simp)
 ·have hi':i=links.length:=by omega
  subst hi';rw [List.drop_eq_nil_of_le (by rw [List.length_zip];omega)] at hb;rw [hb];(repeat first|refine uA ?_|(apply uK;· first|omega|(intros;simp_all<;>omega))|simp (disch:=omega) only [go_sem]);exact uS rfl rfl
def P7 (px py:Rat) (walk:Nm.Rt) (n:Int):Bq:=a9I ⟨px,py,px,py⟩ (a6b (Nm.d9 walk) n)
theorem b7T {p:Nm.Rt} {n:Int} (hp:Rb 1048576 p) (h0:0<=n) (h1:n<=1000000):Rb 1048584 (Nm.ofQ (a6b (Nm.d9 p) n)):=by
 have hm:Rb 1048576 (Nm.ofQ (D8 (Nm.d9 p) 0)):=a0T (hp.g rfl) (O8.m rfl);have hn:Rb 8 (Nm.ofQ (n:Rat)):=by
  rw [a2V];exact ⟨Nm.H6 (by omega),by show (Nm.enc 1).length<=8;rw [Nm.O9];decide⟩
 exact y9 hm hn
theorem b6B (px py:Rat) (walk:Nm.Rt) (n:Int) (h1:Rb 1048576 (Nm.ofQ px)) (h2:Rb 1048576 (Nm.ofQ py)) (hw':Rb 1048576 walk) (n0:0<=n) (n1:n<=1000000):FZ 53 [.agg (Vt.mk (Nm.ofQ px) (Nm.ofQ py)).enc,rc walk,ints n] (.agg (P7 px py walk n).enc):=by
 refine kW Tryz.func53 (by cbv) (by rfl) fun w O hw=>?_;have o1:=c7f walk n (hw'.m rfl) n0 n1;have o2:=c4Q ⟨px,py,px,py⟩ (a6b (Nm.d9 walk) n) ⟨h1.m rfl,h2.m rfl,h1.m rfl,h2.m rfl⟩ ((b7T hw' n0 n1).m rfl);unfold P7;generalize a9I ⟨px,py,px,py⟩ (a6b (Nm.d9 walk) n)=b at *;generalize a6b (Nm.d9 walk) n=f at *;obtain ⟨b1,b2,b3,b4⟩:=b;simp only [j4,TT,OA,OB,MM,LL];simp only [Bq.enc,Vt.enc,rq,rc,sb,ints] at o1 o2 ⊢;(repeat first|refine uA ?_|(apply uK;· first|omega|(intros;simp_all<;>omega))|simp (disch:=omega) only [go_sem,Nat.reduceBEq,Nat.reduceAdd]|(apply uD o1;exact tz hw;rfl)|(apply uD o2;exact tz hw;rfl));exact uS rfl rfl
abbrev Cl:=Int × Int
def b3X (a b:Int):Int:=if a < b then -1 else if b < a then 1 else 0
def a1z (a b:Cl):Int:=if b3X a.2 b.2=0 then b3X a.1 b.1 else b3X a.2 b.2
def ltC (a b:Cl):Bool:=decide (a1z a b < 0)
theorem c3N {a b:Cl}:a1z a b < 0 <-> a.2 < b.2 \/ (a.2=b.2/\a.1 < b.1):=by
 obtain ⟨a1,a2⟩:=a;obtain ⟨b1,b2⟩:=b;simp only [a1z,b3X];split<;>(try split)<;>(try split)<;>(try split)<;>omega
theorem b6i {a b:Cl}:a1z a b=0 <-> a=b:=by
 obtain ⟨a1,a2⟩:=a;obtain ⟨b1,b2⟩:=b;rw [Prod.mk.injEq];simp only [a1z,b3X];split<;>(try split)<;>(try split)<;>(try split)<;>omega
theorem b0S {a b:Cl}:ltC a b=true <-> a.2 < b.2 \/ (a.2=b.2/\a.1 < b.1):=by
 unfold ltC;rw [decide_eq_true_iff,c3N]
theorem a8H {a b:Cl}:ltC a b=false <-> ¬ (a.2 < b.2 \/ (a.2=b.2/\a.1 < b.1)):=by
 rw [<- b0S,Bool.not_eq_true]
theorem a6P (a:Cl):ltC a a=false:=by rw [a8H];omega
theorem a4l {a b c:Cl} (h:ltC a b=true) (k:ltC b c=true):ltC a c=true:=by rw [b0S] at *;omega
theorem b0k {a b c:Cl} (h:ltC a b=false) (k:ltC b c=false):ltC a c=false:=by rw [a8H] at *;omega
theorem b1V {a b:Cl} (h:ltC a b=false) (k:ltC b a=false):a=b:=by
 rw [a8H] at *;exact Prod.ext (by omega) (by omega)
theorem c5c {a b c:Cl} (h:ltC b a=false) (k:ltC b c=true):ltC a c=true:=by rw [a8H] at h;rw [b0S] at *;omega
def Up (l:List Cl):Prop:=l.Pairwise fun a b=>ltC a b=true
theorem Up.sub {l m:List Cl} (h:Up l) (s:m.Sublist l):Up m:=h.sublist s
theorem Up.get {l:List Cl} (h:Up l) {i j:Nat} {x y:Cl} (hij:i < j) (hi:l[i]?=some x) (hj:l[j]?=some y):ltC x y=true:=by
 obtain ⟨a,rfl⟩:=c8v.1 hi;obtain ⟨b,rfl⟩:=c8v.1 hj;exact List.pairwise_iff_getElem.1 h i j a b hij
def dd (l:List Cl):Nat->List Cl
 | 0=>[]
 | r+1=>if 0 < r/\l[r-1]?=l[r]? then dd l r else dd l r++(l[r]?).toList
theorem b3A {l:List Cl} {r:Nat} {x y:Cl} (hr:0 < r) (hx:l[r]?=some x) (hy:l[r-1]?=some y) (h:x=y):dd l (r+1)=dd l r:=by
 show (if 0 < r/\l[r-1]?=l[r]? then dd l r else dd l r++(l[r]?).toList)=_;rw [if_pos ⟨hr,by rw [hx,hy,h]⟩]
theorem b8l {l:List Cl} {r:Nat} {x y:Cl} (hx:l[r]?=some x) (hy:l[r-1]?=some y) (h:x ≠ y):dd l (r+1)=dd l r++[x]:=by
 show (if 0 < r/\l[r-1]?=l[r]? then dd l r else dd l r++(l[r]?).toList)=_;rw [if_neg (fun k=>h (by have:=k.2;rw [hx,hy] at this;injection this with this;exact this.symm)),hx];rfl
theorem c5N {l:List Cl} {x:Cl} (hx:l[0]?=some x):dd l 1=[x]:=by
 show (if 0 < 0/\l[0-1]?=l[0]? then dd l 0 else dd l 0++(l[0]?).toList)=_;rw [if_neg (fun k=>absurd k.1 (Nat.lt_irrefl _)),hx];rfl
theorem b3a {l:List Cl}:∀ r:Nat,r<=l.length->(∀ j,0 < j->j < r->l[j]? ≠ l[j-1]?)->dd l r=l.take r
 | 0,_,_=>by simp [dd]
 | r+1,hr,h=>by
  have ih:=b3a r (by omega) fun j h0 h1=>h j h0 (by omega);have hx:=c8q (show r < l.length by omega);generalize l[r]'_=x at hx
  show (if 0 < r/\l[r-1]?=l[r]? then dd l r else dd l r++(l[r]?).toList)=_;rw [if_neg (fun k=>h r k.1 (by omega) k.2.symm),ih,List.take_add_one]
theorem a6d {l:List Cl} (hs:l.Pairwise fun a b=>ltC b a=false):∀ r:Nat,r<=l.length->Up (dd l r)/\(∀ x,x ∈ dd l r <-> x ∈ l.take r)/\(dd l r).length<=r
 | 0,_=>⟨List.Pairwise.nil,by simp [dd],c8B _⟩
 | r+1,hr=>by
  obtain ⟨h1,h2,h3⟩:=a6d hs r (by omega);have hx:=c8q (show r < l.length by omega);generalize l[r]'_=x at hx;have ht:l.take (r+1)=l.take r++[x]:=by rw [List.take_add_one,hx];rfl
  rw [ht];rcases c8Q r with h0|h0
  ·subst h0;rw [c5N hx];exact ⟨List.pairwise_singleton _ _,by simp,by simp⟩
  ·have hy:=c8q (show r-1 < l.length by omega);generalize l[r-1]'_=y at hy;have hyt:y ∈ l.take r:=c8t (i:=r-1) (by rw [List.getElem?_take,if_pos (by omega)];exact hy);by_cases hxy:x=y
   ·rw [b3A h0 hx hy hxy];subst hxy;refine ⟨h1,fun z=>?_,by omega⟩;rw [h2,List.mem_append,List.mem_singleton];exact ⟨.inl,fun h=>h.elim id fun e=>e ▸ hyt⟩
   ·rw [b8l hx hy hxy];have pw:=List.pairwise_iff_getElem.1 hs;have get:∀ {i j:Nat} {a b:Cl},i < j->l[i]?=some a->l[j]?=some b->ltC b a=false:=fun {i j a b} hij hi hj=>by
     obtain ⟨p,rfl⟩:=c8v.1 hi;obtain ⟨q,rfl⟩:=c8v.1 hj;exact pw i j p q hij
    have hyx:ltC y x=true:=by
     have h:=get (show r-1 < r by omega) hy hx;cases hc:ltC y x with
     | true=>rfl
     | false=>exact absurd (b1V h hc) hxy
    refine ⟨List.pairwise_append.2 ⟨h1,List.pairwise_singleton _ _,fun z hz w hw=>?_⟩,fun z=>?_,by rw [c8A];simp;omega⟩
    ·rw [List.mem_singleton] at hw;subst hw;rw [h2] at hz;obtain ⟨j,hj⟩:=List.mem_iff_getElem?.1 hz;rw [List.getElem?_take] at hj;split at hj
     ·rcases c8N j (r-1) with h|h
      ·exact c5c (get h hj hy) hyx
      ·have:j=r-1:=by omega
       subst this;rw [hy] at hj;injection hj with hj;rw [<- hj];exact hyx
     ·cases hj
    ·rw [List.mem_append,List.mem_append,h2]
def leC (a b:Cl):Bool:=!ltC b a
def O3 (l:List Cl):List Cl:=dd (l.mergeSort leC) (l.mergeSort leC).length
theorem a7k (l:List Cl):(l.mergeSort leC).Pairwise fun a b=>ltC b a=false:=by
 have h:=List.pairwise_mergeSort (le:=leC) (fun a b c h1 h2=>by
  unfold leC at *;rw [Bool.not_eq_true'] at *;exact b0k h2 h1) (fun a b=>by
  unfold leC;cases h:ltC b a with
  | false=>rfl
  | true=>
   cases k:ltC a b with
   | false=>rfl
   | true=>exact absurd (a4l h k) (by rw [a6P];decide)) l
 exact h.imp fun {a b} k=>by unfold leC at k;rwa [Bool.not_eq_true'] at k
theorem b4z (l:List Cl):Up (O3 l):=(a6d (a7k l) _ (c8B _)).1
theorem a7I {l:List Cl} {x:Cl}:x ∈ O3 l <-> x ∈ l:=by
 unfold O3;rw [(a6d (a7k l) _ (c8B _)).2.1,c8J,List.mem_mergeSort]
theorem a5A (l:List Cl):(O3 l).length<=l.length:=by
 have:=(a6d (a7k l) _ (c8B _)).2.2;rw [List.length_mergeSort] at this;unfold O3;rwa [List.length_mergeSort]
def a1i (l:List Cl) (c:Cl):Bool:=l.contains c
def a1o (a b:List Cl):Bool:=a.all fun c=>a1i (O3 b) c
def a2q (a b:List Cl):List Cl:=(O3 a).filter fun c=>a1i (O3 b) c
theorem b5w {a b:List Cl}:a1o a b=true <-> ∀ c ∈ a,c ∈ b:=by
 unfold a1o a1i;simp only [List.all_eq_true,List.contains_iff_mem,a7I]
theorem b9n {a b:List Cl} {x:Cl}:x ∈ a2q a b <-> x ∈ a/\x ∈ b:=by
 unfold a2q a1i;rw [List.mem_filter,a7I,List.contains_iff_mem,a7I]
theorem b7B {l:List Cl} (hu:Up l) {t:Cl} {i:Nat} (h1:∀ k x,k < i->l[k]?=some x->ltC x t=true) (h2:∀ k x,i<=k->l[k]?=some x->ltC x t=false) :
  a1i l t=match l[i]? with|some x=>decide (a1z x t=0)|none=>false:=by
 unfold a1i;have mem:l.contains t=true->l[i]?=some t:=fun h=>by
  obtain ⟨m,hm⟩:=List.mem_iff_getElem?.1 (List.contains_iff_mem.1 h);rcases Nat.lt_trichotomy m i with k|k|k
  ·have:=h1 m t k hm;rw [a6P] at this;cases this
  ·rw [<- k];exact hm
  ·have hi:=c8q (show i < l.length by have:=(c8v.1 hm).1;omega);have a:=hu.get k hi hm;rw [h2 i _ (c8B _) hi] at a;cases a
 cases h:l.contains t with
 | true=>rw [mem h];simp [b6i]
 | false=>
  cases hi:l[i]? with
  | none=>rfl
  | some x=>
   simp only;refine (decide_eq_false fun e=>?_).symm;rw [b6i] at e;subst e;rw [List.contains_iff_mem.2 (c8t hi)] at h;cases h
end Go.Proofs.YtpnbklgbfhgknaaGreatDoor
namespace Go.Proofs
open Go.Shelf
def Tryz.a4r:Go.Shelf.Ren:=⟨fun|6=>100|15=>156|14=>155|28=>191|29=>192|20=>183|21=>184|22=>185|23=>186|24=>187|25=>188|26=>189|27=>190|46=>220|47=>221|48=>222|49=>223|50=>224|57=>244|n=>n,fun|22=>54|24=>61|25=>87|3=>3|39=>203|0=>0|53=>217|55=>213|4=>4|46=>237|45=>236|50=>167|5=>5|9=>9|66=>265|70=>269|76=>285|77=>286|n=>n,fun|n=>n⟩
theorem Tryz.b2l:Go.Proofs.SlLaysF0.n6 Tryz.prog Tryz.a4r:={
 mixed:=by kernel_rfl
 f6:=⟨Tryz.f100.name,by decide,Tryz.func100.trans (congrArg some (by kernel_rfl))⟩
 f14:=⟨Tryz.f155.name,by decide,Tryz.func155.trans (congrArg some (by kernel_rfl))⟩
 f15:=Tryz.func156.trans (congrArg some (by kernel_rfl))
 f20:=⟨Tryz.f183.name,by decide,Tryz.func183.trans (congrArg some (by kernel_rfl))⟩
 f21:=⟨Tryz.f184.name,by decide,Tryz.func184.trans (congrArg some (by kernel_rfl))⟩
 f22:=⟨Tryz.f185.name,by decide,Tryz.func185.trans (congrArg some (by kernel_rfl))⟩
 f23:=⟨Tryz.f186.name,by decide,Tryz.func186.trans (congrArg some (by kernel_rfl))⟩
 f24:=⟨Tryz.f187.name,by decide,Tryz.func187.trans (congrArg some (by kernel_rfl))⟩
 f25:=⟨Tryz.f188.name,by decide,Tryz.func188.trans (congrArg some (by kernel_rfl))⟩
 f26:=⟨Tryz.f189.name,by decide,Tryz.func189.trans (congrArg some (by kernel_rfl))⟩
 f27:=⟨Tryz.f190.name,by decide,Tryz.func190.trans (congrArg some (by kernel_rfl))⟩
 f28:=Tryz.func191.trans (congrArg some (by kernel_rfl))
 f29:=Tryz.func192.trans (congrArg some (by kernel_rfl))
 f46:=⟨Tryz.f220.name,by decide,Tryz.func220.trans (congrArg some (by kernel_rfl))⟩
 f47:=Tryz.func221.trans (congrArg some (by kernel_rfl))
 f48:=Tryz.func222.trans (congrArg some (by kernel_rfl))
 f49:=⟨Tryz.f223.name,by decide,Tryz.func223.trans (congrArg some (by kernel_rfl))⟩
 f50:=⟨Tryz.f224.name,by decide,Tryz.func224.trans (congrArg some (by kernel_rfl))⟩
 f57:=⟨Tryz.f244.name,by decide,Tryz.func244.trans (congrArg some (by kernel_rfl))⟩
 t0:=Tryz.underlying0
 a0:=Tryz.isAgg0
 z0:=Tryz.sizeOf0
 v0:=Tryz.zeroValue0
 t3:=Tryz.underlying3
 a3:=Tryz.isAgg3
 z3:=Tryz.sizeOf3
 v3:=Tryz.zeroValue3
 t4:=Tryz.underlying4
 a4:=Tryz.isAgg4
 z4:=Tryz.sizeOf4
 v4:=Tryz.zeroValue4
 t5:=Tryz.underlying5
 a5:=Tryz.isAgg5
 z5:=Tryz.sizeOf5
 v5:=Tryz.zeroValue5
 t9:=Tryz.underlying9
 a9:=Tryz.isAgg9
 z9:=Tryz.sizeOf9
 v9:=Tryz.zeroValue9
 t22:=Tryz.underlying54
 a22:=Tryz.isAgg54
 z22:=Tryz.sizeOf54
 v22:=Tryz.zeroValue54
 t25:=Tryz.underlying87
 a25:=Tryz.isAgg87
 z25:=Tryz.sizeOf87
 v25:=Tryz.zeroValue87
 t39:=Tryz.underlying203
 a39:=Tryz.isAgg203
 z39:=Tryz.sizeOf203
 v39:=Tryz.zeroValue203
 t45:=Tryz.underlying236
 a45:=Tryz.isAgg236
 z45:=Tryz.sizeOf236
 v45:=Tryz.zeroValue236
 t46:=Tryz.underlying237
 a46:=Tryz.isAgg237
 z46:=Tryz.sizeOf237
 v46:=Tryz.zeroValue237
 t50:=Tryz.underlying167
 a50:=Tryz.isAgg167
 z50:=Tryz.sizeOf167
 v50:=Tryz.zeroValue167
 t53:=Tryz.underlying217
 a53:=Tryz.isAgg217
 z53:=Tryz.sizeOf217
 v53:=Tryz.zeroValue217
 t55:=Tryz.underlying213
 a55:=Tryz.isAgg213
 z55:=Tryz.sizeOf213
 v55:=Tryz.zeroValue213
 t66:=Tryz.underlying265
 a66:=Tryz.isAgg265
 z66:=Tryz.sizeOf265
 v66:=Tryz.zeroValue265
 t70:=Tryz.underlying269
 a70:=Tryz.isAgg269
 z70:=Tryz.sizeOf269
 v70:=Tryz.zeroValue269
 t76:=Tryz.underlying285
 a76:=Tryz.isAgg285
 z76:=Tryz.sizeOf285
 v76:=Tryz.zeroValue285
 t77:=Tryz.underlying286
 a77:=Tryz.isAgg286
 z77:=Tryz.sizeOf286
 v77:=Tryz.zeroValue286 }
def Tryz.b5s:Go.Shelf.Ren:=⟨fun|122=>98|215=>153|n=>n,fun|3=>3|4=>4|n=>n,fun|n=>n⟩
theorem Tryz.c3I:Go.Proofs.Lays.n122 Tryz.prog Tryz.b5s:={
 mixed:=by kernel_rfl
 f122:=Tryz.func98.trans (congrArg some (by kernel_rfl))
 f215:=Tryz.func153.trans (congrArg some (by kernel_rfl))
 t3:=Tryz.underlying3
 a3:=Tryz.isAgg3
 z3:=Tryz.sizeOf3
 v3:=Tryz.zeroValue3
 t4:=Tryz.underlying4
 a4:=Tryz.isAgg4
 z4:=Tryz.sizeOf4
 v4:=Tryz.zeroValue4 }
open Go.RowKit in
theorem Tryz.cmp_Compare_int (x y:Int) (w:World) :
  Calls Tryz.prog 98 #[.int .i64 x,.int .i64 y] w fun e w'=>e=.returned (.int .i64 (Lib.compareInt x y))/\w'=w:=Any.cmp_Compare_int Tryz.c3I x y w
end Go.Proofs
namespace Go.Proofs.YtpnbklgbfhgknaaGreatDoor
open Go Go.RowKit Go.Lib Go.Sort Eng
set_option maxRecDepth 100000
set_option maxHeartbeats 4000000
def ce (p:Cl):List C:=[.v (.int .i64 p.1),.v (.int .i64 p.2)]
def cls (l:List Cl):C:=.sl 2 (l.map ce)
def cv (p:Cl):List Value:=[.int .i64 p.1,.int .i64 p.2]
theorem c6p {l:List Cl}:∀ q ∈ l.map ce,q.length=2:=fun q hq=>by
 obtain ⟨p,_,rfl⟩:=List.mem_map.1 hq;rfl
theorem b4c {l:List Cl}:∀ q ∈ l.map cv,q.length=2:=fun q hq=>by
 obtain ⟨p,_,rfl⟩:=List.mem_map.1 hq;rfl
theorem b7e:∀ l:List Cl,(l.map ce).flatten=((l.map cv).flatten).map C.v
 | []=>rfl
 | p::l=>by
  rw [c8K,List.flatten_cons,b7e l,c8K,List.flatten_cons,c9i];rfl
theorem c2X {w:World} {O:Nat->Prop}:∀ (xs vs:List Value),FzL w O (xs.map C.v) vs->vs=xs
 | [],vs,h=>by simpa only [c8O,FzL] using h
 | x::xs,vs,h=>by
  simp only [c8K,FzL,Fz] at h;obtain ⟨y,ys,rfl,rfl,h⟩:=h;rw [c2X xs ys h]
theorem flat_get {α:Type} {es:List (List α)} {sz k i:Nat} {q:List α} (hl:∀ q ∈ es,q.length=sz) (hq:es[k]?=some q) (hi:i < sz):es.flatten[k*sz+i]?=q[i]?:=by
 rw [<- a2X hl hq,List.getElem?_take,if_pos hi,c9e]
theorem b5J (l:List Cl):(flatK cv 2 l.toArray).toList=(l.map cv).flatten:=by
 apply List.ext_getElem?;intro j;have hlen:(l.map cv).flatten.length=l.length*2:=by rw [Q5 (sz:=2) b4c,c8r]
 rcases c8N j (l.length*2) with h|h
 ·have hk:j / 2 < l.length:=by omega
  have e1:(l.map cv)[j / 2]?=some (cv l[j / 2]):=by rw [c8x,c8q hk];rfl
  have e2:=flat_get (i:=j % 2) b4c e1 (by omega);rw [show j / 2*2+j % 2=j by omega] at e2;rw [e2];simp only [flatK,Array.getElem?_toList,Array.getElem?_map,Array.getElem?_range,List.size_toArray];rw [if_pos h,c8s,getElem!_pos l.toArray (j / 2) (by simpa using hk)];have e3:(cv l[j / 2])[j % 2]?=some ((cv l[j / 2])[j % 2]!):=by
   rcases (show j % 2=0 \/ j % 2=1 by omega) with h|h<;>rw [h]<;>rfl
  rw [e3];rfl
 ·rw [c8W (by simpa using h),c8W (by omega)]
theorem b5O (x1 x2 y1 y2:Int) (W:World):Calls Tryz.prog 33 #[.agg #[.int .i64 x1,.int .i64 x2],.agg #[.int .i64 y1,.int .i64 y2]] W fun e w'=>e=.returned (.int .i64 (a1z (x1,x2) (y1,y2)))/\∃ q os',w'=grow (W.drewN q) os':=by
 have he:a1z (x1,x2) (y1,y2)=if Lib.compareInt x2 y2=0 then Lib.compareInt x1 y1 else Lib.compareInt x2 y2:=rfl
 rw [he];have h:=fun a b W'=>Tryz.cmp_Compare_int a b W';clear he;generalize Lib.compareInt=cf at *
 go_enter Tryz.func33,Tryz.ntmps33
 go_wp2_with (go_at_call 98;refine (h _ _ _).mono ?_;rintro e w' ⟨rfl,rfl⟩)
 all_goals (go_ret;exact ⟨by simp_all,0,_,by rw [alloc_eq_grow,alloc_eq_grow,grow_grow];rfl⟩)
theorem b6A (a b:Cl):u7 Tryz.prog 33 [.agg (ce a),.agg (ce b)] (ints (a1z a b)):=by
 intro O w vs hO hA;simp only [FzL,ce,Fz] at hA;obtain ⟨y,ys,rfl,⟨us,⟨z,zs,rfl,rfl,z2,zs2,rfl,rfl,rfl⟩,rfl⟩,y2,ys2,rfl,⟨us,⟨z,zs,rfl,rfl,z2,zs2,rfl,rfl,rfl⟩,rfl⟩,rfl⟩:=hA;refine (b5O a.1 a.2 b.1 b.2 w).mono ?_;rintro e w' ⟨rfl,q,os,rfl⟩;refine ⟨_,rfl,⟨rfl,rfl,rfl,?_,fun k hk=>?_⟩,by simp only [ints,Fz]⟩
 ·show w.heap.size<=(w.heap++os).size;simp
 ·show (w.heap++os)[k]?=w.heap[k]?;rw [Array.getElem?_append_left hk]
theorem c5P {E:Ctx} (hP:E.P=Tryz.prog) (es:List Cl) (hn:es.length < 4611686018427387904) :
 l7 E [.row 61 2 (es.map ce)] 100 [.rv 0,.v (.func (.func 33) #[] #[])] (.v (.tuple #[])) [.row 61 2 ((es.mergeSort leC).map ce)] []:=by
 obtain ⟨P,eff',N,w0,own0,av0,nu0,pk0⟩:=E;simp only at hP;subst hP;intro av ν w vs hR hav hF hD;simp only [j6,Den] at hD;obtain ⟨x,ys,rfl,⟨hx,_⟩,y2,ys2,rfl,rfl,rfl⟩:=hD;obtain ⟨hl,vs,hFz,hone,hrow⟩:=hR.get (k:=0) rfl hx;have hν:ν=[x]:=by
  have hlen:=hR.len
  match ν,hlen,hx with
  | [z],_,h=>simp at h;rw [h]
 subst hν;have hvs:vs=(es.map cv).flatten:=c2X _ _ (by rw [<- b7e];exact hFz);rw [c8r] at hrow;have fin:∀ w',RG av own0 w0.heap.size [x] ([Res.row 61 2 (es.map ce)].set 0 (.row 61 2 ((es.mergeSort leC).map ce))) w'/\Mv [Res.row 61 2 (es.map ce)] [x] w [] ([Res.row 61 2 (es.map ce)].set 0 (.row 61 2 ((es.mergeSort leC).map ce))) [x] w' ->
  ∃ ν',RG av own0 w0.heap.size ν' [.row 61 2 ((es.mergeSort leC).map ce)] w'/\Mv [.row 61 2 (es.map ce)] [x] w [] [.row 61 2 ((es.mergeSort leC).map ce)] ν' w'/\Den ν' w' (OO av [.row 61 2 ((es.mergeSort leC).map ce)] ν') (.v (.tuple #[])) (.tuple #[]):=
  fun w' h=>⟨[x],h.1,h.2,by simp only [Den]⟩
 rcases hrow.2 with ⟨h0,A,rfl⟩|⟨g,cap,cur,rfl,hc0,hg,hnc,hcm,hcs,htake⟩
 ·have he:es=[]:=c8V h0;subst he;have h:=AnyF.slices_SortFunc_none (P:=Tryz.prog) (ρ:=Tryz.a4r) { Tryz.b2l with } A 0 (.func (.func 33) #[] #[]) w;refine h.mono ?_;rintro e w' ⟨rfl,rfl⟩;refine (fin _ ?_).elim fun ν' h=>⟨_,ν',rfl,h⟩
  rw [show ([]:List Cl).mergeSort leC=[] by simp,set_self rfl];exact ⟨hR,Mv.of_below (Below.refl _ _)⟩
 ·have hgl:g < w.heap.size:=(Array.getElem?_eq_some_iff.1 hg).1;have hcz:es.length*2<=cur.size:=by rw [hcs];exact c8X _ hnc
  have hH:HoldsK cv 2 w g 0 es.toArray:=by
   intro j hj;rw [size_flatK,List.size_toArray] at hj;have e1:(flatK cv 2 es.toArray)[j]! = cur[j]'(by omega):=by
    have h1:(flatK cv 2 es.toArray).toList[j]?=cur.toList[j]?:=by
     rw [b5J,<- hvs,<- htake,List.getElem?_take,if_pos hj]
    rw [Array.getElem?_toList,Array.getElem?_toList,Array.getElem?_eq_getElem (show j < cur.size by omega),Array.getElem?_eq_getElem (show j < (flatK cv 2 es.toArray).size by rw [size_flatK,List.size_toArray];exact hj)] at h1;injection h1 with h1;rw [getElem!_pos _ _ (by rw [size_flatK,List.size_toArray];exact hj),h1]
   rw [e1];have hj2:j < cur.size:=by omega
   constructor
   ·simp [World.cell?,hg,hj2]
   ·simp [World.frozen?,hg]
  have hcmp:CmpLays Tryz.prog 33 #[] cv 2 a1z g 0 es.toArray.size w:=fun _ _ _ _ a b=>b5O a.1 a.2 b.1 b.2 _;have eg:∀ args w,(callFunc 33 args).run Tryz.prog w=.ok (.enter 33 args) w:=enters_of Tryz.func33 (by kernel_rfl) rfl;have hswo:SWO (ltOf a1z):=⟨a6P,fun _ _ _ h k=>a4l h k,fun _ _ _ h k=>b0k h k⟩
  have h:=AnyQ.slices_SortFunc_total (P:=Tryz.prog) (ρ:=Tryz.a4r) Tryz.b2l 2 Tryz.isAgg61 Tryz.sizeOf61 cv (fun _=>rfl) (fun a v hv=>by simp [cv] at hv;rcases hv with rfl|rfl<;>rfl) a1z hswo 33 #[] g 0 cap es.toArray w eg hcmp hH hgl (by simpa using hn) (fun _ _ h k=>b1V h k);have hsz:es.toArray.size=es.length:=by simp
  rw [hsz] at h;refine Calls.mono h ?_;rintro e w' ⟨rfl,n,os,rfl⟩;refine (fin _ ?_).elim fun ν' h=>⟨_,ν',rfl,h⟩
  have hms:(List.mergeSort es.toArray.toList fun x y=>!(ltOf a1z) y x)=es.mergeSort leC:=rfl;rw [hms];generalize hM:es.mergeSort leC=M;have hml:M.length=es.length:=by rw [<- hM,List.length_mergeSort]
  have hheap:∀ k,k < w.heap.size->(sortWorldK cv 2 w g 0 n M.toArray os).heap[k]?=if g=k then some (.cells (putCells id 0 (flatK cv 2 M.toArray) cur) 61 (0,0)) else w.heap[k]?:=fun k hk=>by
   show ((w.heap.modify g (onCells (putCells id 0 (flatK cv 2 M.toArray))))++os)[k]?=_;rw [Array.getElem?_append_left (by simpa using hk),Array.getElem?_modify];split
   ·rename_i e;subst e;rw [hg];rfl
   ·rfl
  refine hR.upd (r':=.row 61 2 (M.map ce)) rfl rfl ⟨rfl,rfl,rfl,?_,fun b hb hn=>?_⟩ (fun b hb=>hb) fun hkp=>?_
  ·show w.heap.size<=((w.heap.modify g _)++os).size;simp
  ·rw [hheap b hb,if_neg fun e=>hn (by simp only [fp,D5];rw [if_neg (by omega),e])]
  ·refine ⟨c6p,(M.map cv).flatten,by rw [b7e];exact FzL.vs _,fun u hu=>?_,?_⟩
   ·obtain ⟨q,hq,hu⟩:=List.mem_flatten.1 hu;obtain ⟨p,_,rfl⟩:=List.mem_map.1 hq;simp [cv] at hu;rcases hu with rfl|rfl<;>rfl
   ·rw [c8r,hml];refine ⟨by rw [Q5 (sz:=2) b4c,c8r,hml],.inr ⟨g,cap,_,rfl,hc0,by rw [hheap g hgl,if_pos rfl],hnc,hcm,by simpa [putCells] using hcs,?_⟩⟩;rw [<- b5J];apply List.ext_getElem?;intro j;rw [List.getElem?_take];split
    ·rename_i hj;have hj':j < (flatK cv 2 M.toArray).size:=by rw [size_flatK,List.size_toArray,hml];exact hj
     have hj2:j < cur.size:=by omega
     simp only [Array.getElem?_toList,putCells,Array.getElem?_mapIdx];rw [Array.getElem?_eq_getElem hj2,c8s,if_pos ⟨c8w _,by omega⟩,Array.getElem?_eq_getElem hj',Nat.sub_zero,getElem!_pos (flatK cv 2 M.toArray) j hj'];rfl
    ·rename_i hj;rw [c8W];rw [Array.length_toList,size_flatK,List.size_toArray,hml];omega
open Go Eng
open Go Go.RowKit Eng
set_option maxHeartbeats 8000000
theorem l7.vg {E:Ctx} {rs rs2 rs':List Res} {f:Nat} {args args':List C} {s:C} {pk:List Nat} (h:l7 E rs2 f args' s rs' pk) (hi:j3 rs rs2 args args') (hrs:D9 rs rs2 rs2 rs) (hlen:rs2.length=rs.length):l7 E rs f args s rs' pk:=by
 intro av ν w vs hR hav hF hD;have hk:=a2c hrs;have hD':=hi.den hR (Cut.of hR hk) hD;have et:ν.take rs2.length=ν:=by rw [hlen,<- hR.len];exact c8J
 rw [et] at hD';have hR2:=hR.weak hrs;rw [et] at hR2;refine (h av ν w vs hR2 hav hF hD').mono ?_;rintro e w' ⟨y,ν',rfl,h1,h2,h3⟩;exact ⟨y,ν',rfl,h1,⟨h2.os,h2.tape,h2.output,h2.size,fun b hb hn=>h2.block b hb (fun ho=>hn (a3i hk ho)),fun b hb=>(h2.own b hb).imp (a3i hk) id,h2.nu⟩,h3⟩
theorem c4U (n:Nat) (hn:n<=1000000000):FNew Tryz.prog 154 [.v (.slice none 0 0),ints n] 61 2 []:=by
 refine FNew.of (eff:=eff) Tryz.func154 (by cbv) (by exact c8G rfl) fun w O=>?_;simp only [j4,TT,II,OA,OB,MM,ints];(repeat first|refine uA ?_|(apply uK;· first|omega|(intros;simp_all<;>omega))|simp (disch:=omega) only [go_sem,Nat.reduceBEq,Nat.reduceAdd]);(refine uJ rfl (fun hc=>?_) fun hc=>?_)
 ·omega
 (repeat first|refine uA ?_|(apply uK;· omega)|simp (disch:=omega) only [go_sem,Nat.reduceBEq,ww]);(refine uJ rfl (fun hc=>?_) fun hc=>?_)
 ·(repeat first|refine uA ?_|(apply uK;· omega)|simp (disch:=omega) only [go_sem,Nat.reduceBEq]);refine S.weaken (Ent.shrink 4 0 rfl rfl (c8w _) ⟨.inr (c8w _),trivial⟩) ?_;exact S.done (p8.new rfl rfl rfl)
 ·(repeat first|refine uA ?_|(apply uK;· omega)|simp (disch:=omega) only [go_sem,Nat.reduceBEq]);refine S.weaken (Ent.pack 4 61 2 rfl) ?_;exact S.done (p8.new rfl rfl rfl)
def H7 (ls:List (List Cl)):C:=.sl 1 (ls.map fun l=>[cls l])
theorem b1X {ls:List (List Cl)} {i:Nat} {l:List Cl} (h:ls[i]?=some l):(ls.take (i+1)).flatten=(ls.take i).flatten++l:=by
 rw [List.take_add_one,h,List.flatten_append];simp
def a2W (ls:List (List Cl)) (i:Nat):Nat:=((ls.take i).flatten).length
theorem b8s (ls:List (List Cl)):a2W ls 0=0:=by simp [a2W]
theorem b8y {ls:List (List Cl)} {i:Nat} {l:List Cl} (h:ls[i]?=some l):a2W ls (i+1)=a2W ls i+l.length:=by unfold a2W;rw [b1X h,c8A]
theorem c1n (ls:List (List Cl)) (hl:ls.length<=1000) (hn:∀ i,a2W ls i<=1000000000):FNew Tryz.prog 99 [H7 ls] 61 2 (ls.flatten.map ce):=by
 refine FNew.of (eff:=eff) Tryz.func99 (by cbv) (by exact c8G rfl) fun w O=>?_;have hg:=c4U ls.flatten.length (by have:=hn ls.length;unfold a2W at this;rwa [c8J] at this);simp only [j4,TT,II,OA,OB,MM,VV,H7];(repeat first|refine uA ?_|(apply uK;· omega)|simp (disch:=omega) only [go_sem,Nat.reduceBEq,c8r]);refine S.loop (X:=Nat) (fun i=>⟨[(0,H7 ls),(3,ints (a2W ls i:Nat)),(9,H7 ls),(10,ints ls.length),(11,ints i)],[]⟩) (fun i=>i<=ls.length) (fun i=>ls.length-i) 0 (c8w _) (by simp only [b8s];exact (by repeat first|refine uA ?_|(refine ⟨?_,?_⟩;· first|rfl|simp [slot])|rfl|simp)) ?_
 ·intro i hi;simp only [H7,ints];(repeat first|refine uA ?_|(apply uK;· omega)|simp (disch:=omega) only [go_sem,Nat.reduceBEq]);(refine uJ rfl (fun hc=>?_) fun hc=>?_)
  ·have hi':i < ls.length:=by omega
   have hgl:=c8q hi';generalize ls[i]=l at hgl;have hs:=b8y hgl;have h1:=hn (i+1);generalize e1:a2W ls (i+1)=n1 at *;generalize a2W ls i=n0 at *;have hsi:(n0:Int)+(l.length:Int)=(n1:Int):=by omega
   (repeat first|refine uA ?_|(apply uK;· omega)|simp (disch:=omega) only [go_sem,Nat.reduceBEq,ww,c8r,c8x,hgl,c8s,c8u,cls,hsi]);(refine uJ rfl (fun hc=>?_) fun hc=>?_)
   ·omega
   (repeat first|refine uA ?_|(apply uK;· omega)|simp (disch:=omega) only [go_sem,Nat.reduceBEq,ww]);refine S.next (i+1) (by omega) (by omega) (by simp only [e1];exact (by repeat first|refine uA ?_|(refine ⟨?_,?_⟩;· first|rfl|simp [slot])|rfl|simp))
  ·have hi':i=ls.length:=by omega
   subst hi';rw [show a2W ls ls.length=ls.flatten.length by unfold a2W;rw [c8J]];generalize hm:ls.flatten.length=m at hg;(repeat first|refine uA ?_|(apply uK;· omega)|simp (disch:=omega) only [go_sem,Nat.reduceBEq,c8r]|refine l9.t (FNew.t hg rfl) ?_);refine S.loop (X:=Nat) (fun i=>⟨[(6,.rv 0),(25,H7 ls),(26,ints ls.length),(27,ints i)],[.row 61 2 (((ls.take i).flatten).map ce)]⟩) (fun i=>i<=ls.length) (fun i=>ls.length-i) 0 (c8w _) (by simp only [List.take_zero,List.flatten_nil,c8O];exact (by repeat first|refine uA ?_|(refine ⟨?_,?_⟩;· first|rfl|simp [slot])|rfl|simp)) ?_;intro i hi;clear hg;simp only [H7,ints]
   (repeat first|refine uA ?_|(apply uK;· omega)|simp (disch:=omega) only [go_sem,Nat.reduceBEq]);(refine uJ rfl (fun hc=>?_) fun hc=>?_)
   ·have hi':i < ls.length:=by omega
    have hgl:=c8q hi';generalize ls[i]=l at hgl;have hs:=b1X hgl;have h1:=hn (i+1);have h0:=hn i;unfold a2W at h1 h0;rw [hs,c8A] at h1;generalize e1:(ls.take (i+1)).flatten=n1 at *;generalize (ls.take i).flatten=n0 at *;(repeat first|refine uA ?_|(apply uK;· first|omega|(intros;simp_all<;>omega))|simp (disch:=omega) only [go_sem,Nat.reduceBEq,ww,c8r,c8x,hgl,c8s,c8u,cls]);refine S.next (i+1) (by omega) (by omega) (by simp only [e1,hs,c9i];exact (by repeat first|refine uA ?_|(refine ⟨?_,?_⟩;· first|rfl|simp [slot])|rfl|simp))
   ·have hi':i=ls.length:=by omega
    subst hi';rw [c8J];(repeat first|refine uA ?_|(apply uK;· omega)|simp (disch:=omega) only [go_sem,Nat.reduceBEq]);exact S.done (p8.new rfl rfl rfl)
theorem b8G {E:Ctx} (hP:E.P=Tryz.prog) (l:List Cl) (hn:l.length<=1000000000) :
 l7 E [.row 61 2 (l.map ce)] 101 [.rv 0] (.wv 0 2 0 (dd l l.length).length) [.row 61 2 ((dd l l.length++List.replicate (l.length-(dd l l.length).length) (0,0)).map ce)] []:=by
 obtain ⟨P,eff',N,w0,own0,av0,nu0,pk0⟩:=E;simp only at hP;subst hP;refine l7.of (eff:=eff) Tryz.func101 (by cbv) (by exact c8G rfl) fun w own av ν hν=>?_;have hν0:ν.length<=1:=by rw [hν];exact c8B _
 have hall:(∀ j,0 < j->j < l.length->l[j]? ≠ l[j-1]?)->dd l l.length=l:=fun h=>by rw [b3a l.length (c8B _) h,c8J]
 have same:(∀ j,0 < j->j < l.length->l[j]? ≠ l[j-1]?)->(dd l l.length).length=l.length/\(dd l l.length++List.replicate (l.length-(dd l l.length).length) (0,0)).map ce=l.map ce:=fun h=>by
  rw [hall h];simp
 clear hall;simp only [j4,TT,II,OA,OB,MM,LL];(repeat first|refine uA ?_|(apply uK;· omega)|simp (disch:=omega) only [go_sem,Nat.reduceBEq,c8r]);(refine uJ rfl (fun hc=>?_) fun hc=>?_)
 ·obtain ⟨h1,h2⟩:=same fun j h0 h1=>by omega
  rw [h2,h1];(repeat first|refine uA ?_|(apply uK;· omega)|simp (disch:=omega) only [go_sem,Nat.reduceBEq]);exact S.done (p8.P6 (Imp.win rfl (by rw [c8r]) Nat.zero_lt_one) (by repeat first|refine uA ?_|rfl|simp [slot]) hν0)
 (repeat first|refine uA ?_|(apply uK;· omega)|simp (disch:=omega) only [go_sem]);refine S.loop (X:=Nat) (fun k=>⟨[(0,.rv 0),(3,ints k)],[.row 61 2 (l.map ce)]⟩) (fun k=>(1<=k/\k<=l.length)/\∀ j,0 < j->j < k->l[j]? ≠ l[j-1]?) (fun k=>l.length-k) 1 ⟨⟨c8B _,by omega⟩,fun j h0 h1=>by omega⟩ (by repeat first|refine uA ?_|(refine ⟨?_,?_⟩;· first|rfl|simp [slot])|rfl|simp|exact c8y hν0 (by simp)) ?_;rintro k ⟨⟨hk1,hk2⟩,hm⟩;simp only [ints];(repeat first|refine uA ?_|(apply uK;· omega)|simp (disch:=omega) only [go_sem,Nat.reduceBEq,c8r]);(refine uJ rfl (fun hc=>?_) fun hc=>?_)
 ·have hk:k < l.length:=by omega
  have hgx:=c8q hk;have hgy:=c8q (show k-1 < l.length by omega);generalize l[k]'_=x at hgx;generalize l[k-1]'_=y at hgy;have hkn:((k:Int)-1).toNat=k-1:=by omega
  (repeat first|refine uA ?_|(apply uK;· omega)|simp (disch:=omega) only [go_sem,Nat.reduceBEq,ww,c8r,c8x,hgx,hgy,hkn,c8s,c8u,ce]);refine S.cond rfl (fun hc=>?_) (fun hc=>?_)
  ·have hxy:x=y:=by
    simp only [c8F,c8D] at hc;exact Prod.ext hc.1 (by first|exact hc.2.1|exact hc.2)
   have hd0:dd l (k+1)=l.take k:=by rw [b3A (by omega) hgx hgy hxy,b3a k (by omega) hm]
   clear same hm;(repeat first|refine uA ?_|(apply uK;· omega)|simp (disch:=omega) only [go_sem,Nat.reduceBEq,c8r,c8u]);refine S.loop (X:=Nat × List Cl) (fun p=>⟨[(0,.rv 0),(3,ints ((dd l (k+p.1)).length:Nat)),(4,.wv 0 2 k (l.length-k)),(5,ints p.1)],[.row 61 2 (p.2.map ce)]⟩)
    (fun p=>(1<=p.1/\k+p.1<=l.length)/\p.2.length=l.length/\p.2.take (dd l (k+p.1)).length=dd l (k+p.1)/\(dd l (k+p.1)).length+1<=k+p.1/\∀ j,k+p.1-1<=j->p.2[j]?=l[j]?) (fun p=>l.length-p.1) (1,l)
    ⟨⟨c8B _,by simp only;omega⟩,rfl,by simp only [hd0,c8E];rw [Nat.min_eq_left (by omega)],by simp only [hd0,c8E];omega,fun _ _=>rfl⟩ (by simp only [hd0,c8E,Nat.min_eq_left hk2];exact (by repeat first|refine uA ?_|(refine ⟨?_,?_⟩;· first|rfl|simp [slot])|rfl|simp|exact c8y hν0 (by simp))) ?_
   rintro ⟨r,es⟩ ⟨⟨hr1,hr2⟩,hel,het,hew,hej⟩;simp only at hr1 hr2 hel het hew hej;simp only [ints];(repeat first|refine uA ?_|(apply uK;· omega)|simp (disch:=omega) only [go_sem,Nat.reduceBEq]);(refine uJ rfl (fun hc=>?_) fun hc=>?_)
   ·have hr:k+r < l.length:=by omega
    have gx:=c8q hr;have gy:=c8q (show k+r-1 < l.length by omega);generalize l[k+r]'_=u at gx;generalize l[k+r-1]'_=v at gy;have ex:=(hej (k+r) (by omega)).trans gx;have ey:=(hej (k+r-1) (c8B _)).trans gy;have hrn:((r:Int)-1).toNat=r-1:=by omega
    have hkr:k+(r-1)=k+r-1:=by omega
    (repeat first|refine uA ?_|(apply uK;· omega)|simp (disch:=omega) only [go_sem,Nat.reduceBEq,ww,c8r,c8x,hel,ex,ey,hrn,hkr,c8s,c8u,ce]);refine S.cond rfl (fun hc=>?_) (fun hc=>?_)
    ·have huv:u ≠ v:=fun e=>by
      subst e;simp at hc
     have hdn:=b8l gx gy huv;rw [show k+r+1=k+(r+1) by omega] at hdn;have hdl:(dd l (k+(r+1))).length=(dd l (k+r)).length+1:=by rw [hdn,c8A];rfl
     generalize hm:(dd l (k+r)).length=m at *;have hmg:=c8q (show m < es.length by omega);generalize es[m]'_=z at hmg;have hset:(es.map ce).set m [C.v (.int .i64 u.1),C.v (.int .i64 u.2)]=(es.set m u).map ce:=by rw [List.map_set];rfl
     have hnt:(es.set m u).take (m+1)=dd l (k+(r+1)):=by
      rw [hdn,List.take_add_one,List.getElem?_set_self (by omega),List.take_set_of_le (c8B _),het];rfl
     have hnj:∀ j,k+(r+1)-1<=j->(es.set m u)[j]?=l[j]?:=fun j hj=>by
      rw [List.getElem?_set_ne (by omega)];exact hej j (by omega)
     have hnl:(es.set m u).length=l.length:=by rw [c9h,hel]
     generalize es.set m u=es' at *;(repeat first|refine uA ?_|(apply uK;· omega)|simp (disch:=omega) only [go_sem,Nat.reduceBEq,ww,c8r,c8x,hel,ex,hmg,c8s,c8u,ce,List.take_zero,List.drop_zero,List.drop_succ_cons,List.nil_append,List.append_nil,hset]);refine S.next (m:=fun p:Nat × List Cl=>l.length-p.1) (x:=(r,es)) (r+1,es') ⟨⟨by simp only;omega,by simp only;omega⟩,hnl,by simp only [hdl];exact hnt,by simp only [hdl];omega,hnj⟩ (by simp only;omega) (by simp only [hdl];exact (by repeat first|refine uA ?_|(refine ⟨?_,?_⟩;· first|rfl|simp [slot])|rfl|simp|exact c8y hν0 (by simp)))
    ·have huv:u=v:=by
      simp at hc;exact Prod.ext hc.1 hc.2
     have hdn:=b3A (by omega) gx gy huv;rw [show k+r+1=k+(r+1) by omega] at hdn;(repeat first|refine uA ?_|(apply uK;· omega)|simp (disch:=omega) only [go_sem,Nat.reduceBEq,ww]);refine S.next (m:=fun p:Nat × List Cl=>l.length-p.1) (x:=(r,es)) (r+1,es) ⟨⟨by simp only;omega,by simp only;omega⟩,hel,by simp only [hdn];exact het,by simp only [hdn];omega,fun j hj=>hej j (by omega)⟩ (by simp only;omega) (by simp only [hdn];exact (by repeat first|refine uA ?_|(refine ⟨?_,?_⟩;· first|rfl|simp [slot])|rfl|simp|exact c8y hν0 (by simp)))
   ·have hrr:k+r=l.length:=by omega
    rw [hrr] at het hew ⊢;clear hej hd0;generalize hm:(dd l l.length).length=m at *;generalize dd l l.length=d at *;have hz:(es.map ce).take m++List.replicate (l.length-m) [C.v (.int .i64 0),.v (.int .i64 0)]=(d++List.replicate (l.length-m) (0,0)).map ce:=by
     rw [c9i,List.map_replicate,<- List.map_take,het];rfl
    generalize (d++List.replicate (l.length-m) (0,0)).map ce=R at *;have hRl:R.length=l.length:=by rw [<- hz];simp;omega
    have hz2:=hz;rw [<- List.map_take] at hz2;(repeat first|refine uA ?_|(apply uK;· omega)|simp (disch:=omega) only [go_sem,Nat.reduceBEq,c8r,hel,c8u,hz2,hRl]);exact S.done (p8.P6 (Imp.refl rfl) (D9.cons (RI.row _ _ _ _ (by first|exact hz|exact hz2|rfl)) D9.nil) hν0)
  ·have hxy:x ≠ y:=fun e=>by
    subst e;simp at hc
   (repeat first|refine uA ?_|(apply uK;· omega)|simp (disch:=omega) only [go_sem,Nat.reduceBEq,ww]);refine S.next (k+1) ⟨⟨by omega,by omega⟩,fun j h0 h1=>?_⟩ (by omega) (by repeat first|refine uA ?_|(refine ⟨?_,?_⟩;· first|rfl|simp [slot])|rfl|simp|exact c8y hν0 (by simp));rcases c8N j k with h|h
   ·exact hm j h0 h
   ·have:j=k:=by omega
    subst this;rw [hgx,hgy];exact fun e=>hxy (Option.some.inj e)
 ·have hk:k=l.length:=by omega
  subst hk;obtain ⟨h1,h2⟩:=same hm;rw [h2,h1];(repeat first|refine uA ?_|(apply uK;· omega)|simp (disch:=omega) only [go_sem,Nat.reduceBEq]);exact S.done (p8.P6 (Imp.win rfl (by rw [c8r]) Nat.zero_lt_one) (by repeat first|refine uA ?_|rfl|simp [slot]) hν0)
theorem c3D {ls:List (List Cl)} {i:Nat}:a2W ls i<=ls.flatten.length:=by
 unfold a2W;have h:ls.flatten=(ls.take i).flatten++(ls.drop i).flatten:=by rw [<- List.flatten_append,List.take_append_drop]
 rw [h,c8A];omega
theorem a9i (ls:List (List Cl)) (hl:ls.length<=1000) (hn:ls.flatten.length<=1000000000):FNew Tryz.prog 34 [H7 ls] 61 2 ((O3 ls.flatten).map ce):=by
 refine FNew.of (eff:=eff) Tryz.func34 (by cbv) (by exact c8G rfl) fun w O=>?_;have h1:=c1n ls hl (fun i=>c8y c3D hn);have h2:=fun (E:Ctx) (hP:E.P=Tryz.prog)=>c5P (E:=E) hP ls.flatten (by omega);have h3:=fun (E:Ctx) (hP:E.P=Tryz.prog)=>b8G (E:=E) hP (ls.flatten.mergeSort leC) (by rw [List.length_mergeSort];exact hn);have hd:=(a6d (a7k ls.flatten) _ (c8B _)).2.2;have hs:O3 ls.flatten=dd (ls.flatten.mergeSort leC) (ls.flatten.mergeSort leC).length:=rfl;rw [hs];generalize dd (ls.flatten.mergeSort leC) (ls.flatten.mergeSort leC).length=d at *;generalize hm:(ls.flatten.mergeSort leC).length-d.length=m at *;generalize ls.flatten.mergeSort leC=M at *;generalize ls.flatten=F at *
 simp only [j4,TT,OA,MM,H7] at h1 ⊢;(repeat first|refine uA ?_|(apply uK;· omega)|simp (disch:=omega) only [go_sem,Nat.reduceBEq]|refine l9.t (FNew.t h1 rfl) ?_|refine l9.t (h2 _ rfl) ?_|refine l9.t (h3 _ rfl) ?_);refine S.weaken (Ent.shrink 2 0 rfl rfl (by simp) ⟨.inr (c8w _),trivial⟩) ?_;exact S.done (p8.new rfl rfl (by simp [a1j,Res.y8]))
theorem Imp.c5m {rs rs':List Res} {c:C}:Imp rs rs' c (.any fun _=>True):=fun _ _ _ _ _ _ _ _ _=>by simp only [Den]
theorem b9f (l:List Cl) (t:Cl) (hu:Up l) (hn:l.length<=1000000000):u7 Tryz.prog 102 [cls l,.agg (ce t),.v (.func (.func 33) #[] #[])] (.tup [.any fun _=>True,.v (.bool (a1i l t))]):=by
 refine kS Tryz.func102 (by cbv) (by rfl) fun w O=>?_;have ho:=fun a=>b6A a t;have hcal:callable Tryz.prog 33=true:=by kernel_rfl
 simp only [j4,TT,II,OA,OC,MM,LL,MG,LG,cls,ce] at ho ⊢;(repeat first|refine uA ?_|(apply uK;· first|omega|(intros;simp_all<;>omega))|simp (disch:=omega) only [go_sem,Nat.reduceBEq,Nat.reduceAdd,c8r]);refine S.loop (X:=Nat × Nat) (fun p=>⟨[(0,cls l),(2,.v (.func (.func 33) #[] #[])),(4,.bp 0 0),(8,ints l.length),(9,ints p.1),(10,ints p.2)],[.box 61 (ce t)]⟩)
  (fun p=>(p.1<=p.2/\p.2<=l.length)/\(∀ k x,k < p.1->l[k]?=some x->ltC x t=true)/\(∀ k x,p.2<=k->l[k]?=some x->ltC x t=false)) (fun p=>p.2-p.1) (0,l.length)
  ⟨⟨c8w _,c8B _⟩,fun _ _ h=>absurd h (Nat.not_lt_zero _),fun k x h hx=>by have:=(c8v.1 hx).1;simp only at h;omega⟩ (by repeat first|refine uA ?_|(refine ⟨?_,?_⟩;· first|rfl|simp [slot])|rfl|simp) ?_
 rintro ⟨i,j⟩ ⟨⟨h1,h2⟩,h3,h4⟩;simp only at h1 h2 h3 h4;simp only [cls,ce,ints];(repeat first|refine uA ?_|(apply uK;· first|omega|(intros;simp_all<;>omega))|simp (disch:=omega) only [go_sem,Nat.reduceBEq]);(refine uJ rfl (fun hc=>?_) fun hc=>?_)
 ·obtain ⟨h,hh⟩:∃ h:Nat,h=(i+j) / 2:=⟨_,rfl⟩
  have hlt:h < l.length:=by omega
  have hg:=c8q hlt;generalize l[h]=x at hg;have hsh:((i:Int)+(j:Int)).fdiv (2 ^ 1)=(h:Int):=by
   rw [Int.fdiv_eq_ediv_of_nonneg _ (by decide)];omega
  have hox:=ho x;have hlx:ltC x t=decide (a1z x t < 0):=rfl;generalize a1z x t=c at hox hlx;(repeat first|refine uA ?_|(apply uK;· first|omega|(intros;simp_all<;>omega))|simp (disch:=omega) only [go_sem,Nat.reduceBEq,Nat.reduceAdd,ww,hsh,hg,hcal,c8r,c8x,c8s,c8u,ce]|(refine uB hox ?_ ?_;rfl));refine S.cond rfl (fun hc2=>?_) (fun hc2=>?_)
  ·rw [hc2] at hlx;(repeat first|refine uA ?_|(apply uK;· first|omega|(intros;simp_all<;>omega))|simp (disch:=omega) only [go_sem,Nat.reduceBEq,ww]);refine S.next (m:=fun p:Nat × Nat=>p.2-p.1) (x:=(i,j)) (h+1,j) ⟨⟨by simp only;omega,h2⟩,fun k y hk hy=>?_,h4⟩ (by simp only;omega) (by repeat first|refine uA ?_|(refine ⟨?_,?_⟩;· first|rfl|simp [slot])|rfl|simp);rcases c8N k h with hk'|hk'
   ·exact a4l (hu.get hk' hy hg) hlx
   ·have:k=h:=by simp only at hk;omega
    subst this;rw [hg] at hy;injection hy with hy;rw [<- hy];exact hlx
  ·rw [hc2] at hlx;(repeat first|refine uA ?_|(apply uK;· first|omega|(intros;simp_all<;>omega))|simp (disch:=omega) only [go_sem,Nat.reduceBEq]);refine S.next (m:=fun p:Nat × Nat=>p.2-p.1) (x:=(i,j)) (i,h) ⟨⟨by simp only;omega,by simp only;omega⟩,h3,fun k y hk hy=>?_⟩ (by simp only;omega) (by repeat first|refine uA ?_|(refine ⟨?_,?_⟩;· first|rfl|simp [slot])|rfl|simp);rcases c8N h k with hk'|hk'
   ·cases hy2:ltC y t with
    | false=>rfl
    | true=>rw [a4l (hu.get hk' hg hy) hy2] at hlx;cases hlx
   ·have:k=h:=by simp only at hk;omega
    subst this;rw [hg] at hy;injection hy with hy;rw [<- hy];exact hlx
 ·have hij:j=i:=by omega
  subst hij;have hf:=b7B hu h3 h4;rw [hf];clear h3 h4 hf;rcases c8N j l.length with hlt|hge
  ·have hg:=c8q hlt;generalize l[j]=x at hg;have hox:=ho x;rw [hg];simp only;generalize a1z x t=c at hox;have hjl:decide ((j:Int) < (l.length:Int))=true:=decide_eq_true (by omega);(repeat first|refine uA ?_|(apply uK;· first|omega|(intros;simp_all<;>omega))|simp (disch:=omega) only [go_sem,Nat.reduceBEq,Nat.reduceAdd,hg,hcal,c8r,c8x,c8s,c8u,ce,hjl]|(refine uB hox ?_ ?_;rfl));refine S.done ?_;simp only [D6,go_sem,Nat.reduceBEq];exact p8.out rfl (Imp.tup (j3.cons Imp.c5m (j3.cons (Imp.eq (by simp) rfl) j3.nil))) rfl
  ·rw [c8W hge];have hgn:l[j]?=none:=c8W hge;have hjl:decide ((j:Int) < (l.length:Int))=false:=decide_eq_false (by omega);(repeat first|refine uA ?_|(apply uK;· first|omega|(intros;simp_all<;>omega))|simp (disch:=omega) only [go_sem,Nat.reduceBEq,Nat.reduceAdd,c8r,hjl,hgn,c8x,Option.map_none,hcal,c8u]);refine a0E.mk (r:=.v (.int .i64 0)) (fun hp=>by cases hp) ?_;(repeat first|refine uA ?_|(apply uK;· first|omega|(intros;simp_all<;>omega))|simp (disch:=omega) only [go_sem,Nat.reduceBEq]);refine S.done ?_;simp only [D6,go_sem,Nat.reduceBEq];exact p8.out rfl (Imp.tup (j3.cons Imp.c5m (j3.cons (Imp.eq (by simp) rfl) j3.nil))) rfl
theorem c3s (l:List Cl) (t:Cl) (hu:Up l) (hn:l.length<=1000000000):u7 Tryz.prog 37 [cls l,.agg (ce t)] (.v (.bool (a1i l t))):=by
 refine kS Tryz.func37 (by cbv) (by rfl) fun w O=>?_;have h:=b9f l t hu hn;generalize a1i l t=b at *;simp only [j4,TT,OA,MM,LL,cls,ce] at h ⊢;(repeat first|refine uA ?_|(apply uK;· first|omega|(intros;simp_all<;>omega))|simp (disch:=omega) only [go_sem,Nat.reduceBEq,Nat.reduceAdd]|(apply uB h;exact rfl));exact uS rfl rfl
theorem c0u (l:List Cl) (t:Cl) (hu:Up l) (hn:l.length<=1000000000):u7 Tryz.prog 116 [.agg (ce t),.ep [cls l]] (.v (.bool (!a1i l t))):=by
 refine kS Tryz.func116 (by cbv) (by rfl) fun w O=>?_;have h:=c3s l t hu hn;generalize a1i l t=b at *;simp only [j4,TT,OA,MM,LL,VV,cls,ce] at h ⊢;(repeat first|refine uA ?_|(apply uK;· first|omega|(intros;simp_all<;>omega))|simp (disch:=omega) only [go_sem,Nat.reduceBEq,Nat.reduceAdd]|(apply uB h;exact rfl));exact uS rfl rfl
theorem c4z (l:List Cl) (t:Cl) (hu:Up l) (hn:l.length<=1000000000):u7 Tryz.prog 36 [.agg (ce t),.ep [cls l]] (.v (.bool (!a1i l t))):=by
 refine kS Tryz.func36 (by cbv) (by rfl) fun w O=>?_;have h:=c3s l t hu hn;generalize a1i l t=b at *;simp only [j4,TT,OA,MM,LL,VV,cls,ce] at h ⊢;(repeat first|refine uA ?_|(apply uK;· first|omega|(intros;simp_all<;>omega))|simp (disch:=omega) only [go_sem,Nat.reduceBEq,Nat.reduceAdd]|(apply uB h;exact rfl));exact uS rfl rfl
theorem b9d (g:Nat) (hcal:callable Tryz.prog g=true) (X:C) (p:Cl->Bool) (l:List Cl) (hn:l.length<=1000000000) (hX:C.cl X=true) (hg:∀ x:Cl,u7 Tryz.prog g [.agg (ce x),.ep [X]] (.v (.bool (p x)))) :
  u7 Tryz.prog 62 [cls l,.clo g [.ep [X]]] (ints (a0f p l)):=by
 refine kS Tryz.func62 (by cbv) (by rfl) fun w O=>?_;simp only [j4,TT,II,OA,MM,LL,cls,ints];(repeat first|refine uA ?_|(apply uK;· omega)|simp (disch:=omega) only [go_sem,Nat.reduceBEq,c8r]);refine S.loop (X:=Nat) (fun i=>⟨[(0,cls l),(1,.clo g [.ep [X]]),(7,ints l.length),(8,ints i)],[]⟩) (fun i=>i<=l.length/\∀ j,j < i->∀ x,l[j]?=some x->p x=false) (fun i=>l.length-i) 0 ⟨c8w _,fun _ h=>absurd h (Nat.not_lt_zero _)⟩ (by repeat first|refine uA ?_|(refine ⟨?_,?_⟩;· first|rfl|simp [slot])|rfl|simp) ?_;rintro i ⟨hi,hm⟩;simp only [cls,ints];(repeat first|refine uA ?_|(apply uK;· omega)|simp (disch:=omega) only [go_sem,Nat.reduceBEq]);(refine uJ rfl (fun hc=>?_) fun hc=>?_)
 ·have hi':i < l.length:=by omega
  have hgi:=c8q hi';generalize l[i]=x at hgi;have hs:=hg x;simp only [ce] at hs;generalize hpx:p x=b at hs;(repeat first|refine uA ?_|(apply uK;· omega)|simp (disch:=omega) only [go_sem,Nat.reduceBEq,hgi,c8s,c8r,c8x,ce,c8u,hcal]|(apply uB hs;exact rfl));refine S.cond rfl (fun hc2=>?_) (fun hc2=>?_)
  ·rw [a0W (p:=p) hgi (hpx.trans hc2) hm];(repeat first|refine uA ?_|(apply uK;· omega)|simp (disch:=omega) only [go_sem,Nat.reduceBEq]);exact uS rfl rfl
  ·(repeat first|refine uA ?_|(apply uK;· omega)|simp (disch:=omega) only [go_sem,Nat.reduceBEq,ww]);refine S.next (i+1) ⟨by omega,fun j hj y hy=>?_⟩ (by omega) (by repeat first|refine uA ?_|(refine ⟨?_,?_⟩;· first|rfl|simp [slot])|rfl|simp);rcases c8N j i with h1|h1
   ·exact hm j h1 y hy
   ·have:j=i:=by omega
    subst this;rw [hgi] at hy;cases hy;exact hpx.trans hc2
 ·have hi':i=l.length:=by omega
  subst hi';rw [a0k hm];(repeat first|refine uA ?_|(apply uK;· omega)|simp (disch:=omega) only [go_sem]);exact uS rfl rfl
theorem b6v (g:Nat) (hcal:callable Tryz.prog g=true) (X:C) (p:Cl->Bool) (l:List Cl) (hn:l.length<=1000000000) (hX:C.cl X=true) (hg:∀ x:Cl,u7 Tryz.prog g [.agg (ce x),.ep [X]] (.v (.bool (p x)))) :
  u7 Tryz.prog 17 [cls l,.clo g [.ep [X]]] (.v (.bool (l.any p))):=by
 refine kS Tryz.func17 (by cbv) (by rfl) fun w O=>?_;have h:=b9d g hcal X p l hn hX hg;rw [<- a1E];generalize a0f p l=n at *;simp only [j4,TT,II,OA,MM];simp only [cls,ints] at *;(repeat first|refine uA ?_|(apply uK;· first|omega|(intros;simp_all<;>omega))|simp (disch:=omega) only [go_sem,Nat.reduceBEq,Nat.reduceAdd]|(apply uB h;exact rfl));exact uS rfl rfl
theorem c0W (a b:List Cl) (ha:a.length<=100000000) (hb:b.length<=100000000):u7 Tryz.prog 43 [cls a,cls b] (.v (.bool (a1o a b))):=by
 refine kS Tryz.func43 (by cbv) (by rfl) fun w O=>?_;have h:=(a9i [b] (by show 1<=1000;decide) (by simp;omega)).spec;rw [show [b].flatten=b by simp] at h;have hB:=a5A b;have hu:=b4z b;have h2:=b6v 116 (by kernel_rfl) (cls (O3 b)) (fun t=>!a1i (O3 b) t) a (by omega) rfl (fun x=>c0u (O3 b) x hu (by omega));have he:a1o a b=!(a.any fun t=>!a1i (O3 b) t):=by unfold a1o;rw [List.not_any_eq_all_not];simp
 rw [he];generalize (a.any fun t=>!a1i (O3 b) t)=r at *;generalize O3 b=B at *;simp only [j4,TT,OA,OB,MM,VV,cls];simp only [H7,c8K,c8O,cls] at h h2;(repeat first|refine uA ?_|(apply uK;· first|omega|(intros;simp_all<;>omega))|simp (disch:=omega) only [go_sem,Nat.reduceBEq,Nat.reduceAdd]);refine l9.b7h [.sl 1 [[cls b]]] [.box 54 [cls b],.gone] h (j3.cons (Imp.frz rfl rfl rfl) j3.nil) rfl (D9.cons (RI.box _ _ _ (j3.refl rfl)) (D9.cons (RI.gone _) D9.nil)) rfl ?_
 (repeat first|refine uA ?_|(apply uK;· omega)|simp (disch:=omega) only [go_sem,Nat.reduceBEq]|(apply uC h2;exact rfl;focus (repeat' first|exact j3.nil|exact Imp.refl rfl|exact Imp.I9|exact Imp.fbx rfl rfl (j3.refl rfl) rfl rfl|refine Imp.clo ?_|exact Imp.frz rfl rfl rfl|(refine Imp.K5 rfl rfl ?_ ?_;(focus ((try simp only [c8A]);omega));(focus first|rfl|assumption))|refine Imp.agg ?_|refine j3.cons ?_ ?_);done));exact uS rfl rfl
theorem b1z {α:Type} (p:α->Bool):∀ l:List α,(∀ (j:Nat) (x:α),j < l.length->l[j]?=some x->p x=false) \/ ∃ (i:Nat) (x:α),l[i]?=some x/\p x=true/\∀ j,j < i->∀ x,l[j]?=some x->p x=false
 | []=>.inl fun j x h=>by simp at h
 | a::l=>by
  cases ha:p a with
  | true=>exact .inr ⟨0,a,rfl,ha,fun j h=>absurd h (Nat.not_lt_zero _)⟩
  | false=>
   rcases b1z p l with h|⟨i,x,hx,hp,h⟩
   ·refine .inl fun j x hj hx=>?_;cases j with
    | zero=>simp at hx;subst hx;exact ha
    | succ j=>exact h j x (by simpa using hj) (by simpa using hx)
   ·refine .inr ⟨i+1,x,by simpa using hx,hp,fun j hj y hy=>?_⟩;cases j with
    | zero=>simp at hy;subst hy;exact ha
    | succ j=>exact h j (by omega) y (by simpa using hy)
theorem b4t {p:Cl->Bool} {l:List Cl} (i:Nat) (h:∀ j,j < i->∀ x,l[j]?=some x->p x=false):(l.take i).filter (fun x=>!p x)=l.take i:=by
 rw [List.filter_eq_self];intro x hx;obtain ⟨j,hj⟩:=List.mem_iff_getElem?.1 hx;rw [List.getElem?_take] at hj;split at hj
 ·rw [h j (by assumption) x hj];rfl
 ·cases hj
theorem b1l {p:Cl->Bool} {l:List Cl} {i:Nat} {x:Cl} (h:l[i]?=some x):(l.take (i+1)).filter (fun x=>!p x)=(l.take i).filter (fun x=>!p x)++(if p x=true then [] else [x]):=by
 rw [List.take_add_one,h,List.filter_append];cases hp:p x<;>simp [hp]
theorem c0V {E:Ctx} (hP:E.P=Tryz.prog) (g:Nat) (hcal:callable Tryz.prog g=true) (B:List Cl) (p:Cl->Bool) (l:List Cl) (hn:l.length<=1000000000) (hg:∀ x:Cl,u7 Tryz.prog g [.agg (ce x),.ep [cls B]] (.v (.bool (p x)))) :
  l7 E [.gone,.gone,.gone,.row 61 2 (l.map ce)] 35 [.rv 3,.clo g [.ep [cls B]]] (.wv 3 2 0 (l.filter fun x=>!p x).length) [.gone,.gone,.gone,.row 61 2 (((l.filter fun x=>!p x)++List.replicate (l.length-(l.filter fun x=>!p x).length) (0,0)).map ce)] []:=by
 obtain ⟨P,eff',N,w0,own0,av0,nu0,pk0⟩:=E;simp only at hP;subst hP;refine l7.of (eff:=eff) Tryz.func35 (by cbv) (by exact c8G rfl) fun w own av ν hν=>?_;have hν0:ν.length<=4:=by rw [hν];exact c8B _
 have hI:=b9d g hcal (cls B) p l hn rfl hg;simp only [j4,TT,II,OA,OB,MM,LL];rcases b1z p l with hnone|⟨i,x0,hx0,hp0,hfirst⟩
 ·rw [a0k (fun j hj x hx=>hnone j x hj hx)] at hI;have hF:l.filter (fun x=>!p x)=l:=by
   have:=b4t (p:=p) (l:=l) l.length (fun j hj x hx=>hnone j x hj hx);rwa [c8J] at this
  rw [hF];simp only [cls,ints,Nat.sub_self,List.replicate_zero,List.append_nil] at hI ⊢;(repeat first|refine uA ?_|(apply uK;· first|omega|(intros;simp_all<;>omega))|simp (disch:=omega) only [go_sem,Nat.reduceBEq,Nat.reduceAdd]|(apply uC hI;exact rfl;focus (repeat' first|exact j3.nil|exact Imp.refl rfl|exact Imp.I9|exact Imp.fbx rfl rfl (j3.refl rfl) rfl rfl|refine Imp.clo ?_|exact Imp.frz rfl rfl rfl|(refine Imp.K5 rfl rfl ?_ ?_;(focus ((try simp only [c8A]);omega));(focus first|rfl|assumption))|refine Imp.agg ?_|refine j3.cons ?_ ?_);done));(refine uJ rfl (fun hc=>?_) fun hc=>?_)
  ·(repeat first|refine uA ?_|(apply uK;· omega)|simp (disch:=omega) only [go_sem,Nat.reduceBEq]);exact S.done (p8.P6 (Imp.win rfl (by rw [c8r]) (by show 3 < 4;decide)) (by repeat first|refine uA ?_|rfl|simp [slot]) hν0)
  ·first|omega|exact (hc rfl).elim|(simp at hc;done)
 ·rw [a0W (p:=p) hx0 hp0 hfirst] at hI;have hil:=(c8v.1 hx0).1;simp only [cls,ints] at hI ⊢;(repeat first|refine uA ?_|(apply uK;· first|omega|(intros;simp_all<;>omega))|simp (disch:=omega) only [go_sem,Nat.reduceBEq,Nat.reduceAdd]|(apply uC hI;exact rfl;focus (repeat' first|exact j3.nil|exact Imp.refl rfl|exact Imp.I9|exact Imp.fbx rfl rfl (j3.refl rfl) rfl rfl|refine Imp.clo ?_|exact Imp.frz rfl rfl rfl|(refine Imp.K5 rfl rfl ?_ ?_;(focus ((try simp only [c8A]);omega));(focus first|rfl|assumption))|refine Imp.agg ?_|refine j3.cons ?_ ?_);done));(refine uJ rfl (fun hc=>?_) fun hc=>?_)
  ·omega
  have hs0:(l.take (i+1)).filter (fun x=>!p x)=l.take i:=by rw [b1l hx0,if_pos hp0,List.append_nil,b4t i hfirst]
  (repeat first|refine uA ?_|(apply uK;· omega)|simp (disch:=omega) only [go_sem,Nat.reduceBEq,ww]);refine S.loop (X:=Nat × List Cl) (fun q=>⟨[(0,.rv 3),(1,.clo g [.ep [cls B]]),(5,ints (((l.take q.1).filter fun x=>!p x).length:Nat)),(6,ints q.1)],[.gone,.gone,.gone,.row 61 2 (q.2.map ce)]⟩)
   (fun q=>(1<=q.1/\q.1<=l.length)/\q.2.length=l.length/\q.2.take ((l.take q.1).filter fun x=>!p x).length=(l.take q.1).filter (fun x=>!p x)/\((l.take q.1).filter fun x=>!p x).length+1<=q.1/\∀ j,q.1<=j->q.2[j]?=l[j]?) (fun q=>l.length-q.1) (i+1,l)
   ⟨⟨by simp only;omega,hil⟩,rfl,by simp only [hs0,c8E];rw [Nat.min_eq_left (by omega)],by simp only [hs0,c8E];omega,fun _ _=>rfl⟩ (by simp only [hs0,c8E,Nat.min_eq_left (Nat.le_of_lt hil),cls];exact (by repeat first|refine uA ?_|(refine ⟨?_,?_⟩;· first|rfl|simp [slot])|rfl|simp|exact c8y hν0 (by simp))) ?_
  clear hI hs0 hfirst hx0;rintro ⟨r,es⟩ ⟨⟨hr1,hr2⟩,hel,het,hew,hej⟩;simp only at hr1 hr2 hel het hew hej;simp only [ints,cls];(repeat first|refine uA ?_|(apply uK;· omega)|simp (disch:=omega) only [go_sem,Nat.reduceBEq,c8r]);(refine uJ rfl (fun hc=>?_) fun hc=>?_)
  ·have hr:r < l.length:=by omega
   have gx:=c8q hr;generalize l[r]=u at gx;have ex:=(hej r (c8B _)).trans gx;have hfs:=b1l (p:=p) gx;have hgu:=hg u;simp only [cls,ce] at hgu;generalize p u=b at *;(repeat first|refine uA ?_|(apply uK;· omega)|simp (disch:=omega) only [go_sem,Nat.reduceBEq,c8r,c8x,hel,ex,c8s,c8u,ce,hcal]|(apply uB hgu;exact rfl));refine S.cond rfl (fun hc=>?_) (fun hc=>?_)
   ·have hb:b=false:=by simpa using hc
    rw [hb,if_neg (by decide)] at hfs;have hdl:((l.take (r+1)).filter fun x=>!p x).length=((l.take r).filter fun x=>!p x).length+1:=by rw [hfs,c8A];rfl
    generalize hm:((l.take r).filter fun x=>!p x).length=m at *;have hmg:=c8q (show m < es.length by omega);generalize es[m]'_=z at hmg;have hset:(es.map ce).set m [C.v (.int .i64 u.1),C.v (.int .i64 u.2)]=(es.set m u).map ce:=by rw [List.map_set];rfl
    have hnt:(es.set m u).take (m+1)=(l.take (r+1)).filter fun x=>!p x:=by
     rw [hfs,List.take_add_one,List.getElem?_set_self (by omega),List.take_set_of_le (c8B _),het];rfl
    have hnj:∀ j,r+1<=j->(es.set m u)[j]?=l[j]?:=fun j hj=>by
     rw [List.getElem?_set_ne (by omega)];exact hej j (by omega)
    have hnl:(es.set m u).length=l.length:=by rw [c9h,hel]
    generalize es.set m u=es' at *;(repeat first|refine uA ?_|(apply uK;· omega)|simp (disch:=omega) only [go_sem,Nat.reduceBEq,ww,c8r,c8x,hel,hmg,c8s,c8u,ce,List.take_zero,List.drop_zero,List.drop_succ_cons,List.nil_append,List.append_nil,hset]);refine S.next (m:=fun q:Nat × List Cl=>l.length-q.1) (x:=(r,es)) (r+1,es') ⟨⟨by simp only;omega,hr⟩,hnl,by simp only [hdl];exact hnt,by simp only [hdl];omega,hnj⟩ (by simp only;omega) (by simp only [hdl];exact (by repeat first|refine uA ?_|(refine ⟨?_,?_⟩;· first|rfl|simp [slot])|rfl|simp|exact c8y hν0 (by simp)))
   ·have hb:b=true:=by simpa using hc
    rw [hb,if_pos rfl,List.append_nil] at hfs;(repeat first|refine uA ?_|(apply uK;· omega)|simp (disch:=omega) only [go_sem,Nat.reduceBEq,ww]);refine S.next (m:=fun q:Nat × List Cl=>l.length-q.1) (x:=(r,es)) (r+1,es) ⟨⟨by simp only;omega,hr⟩,hel,by simp only [hfs];exact het,by simp only [hfs];omega,fun j hj=>hej j (by omega)⟩ (by simp only;omega) (by simp only [hfs];exact (by repeat first|refine uA ?_|(refine ⟨?_,?_⟩;· first|rfl|simp [slot])|rfl|simp|exact c8y hν0 (by simp)))
  ·have hrr:r=l.length:=by omega
   subst hrr;rw [c8J] at het hew ⊢;clear hej hil hp0;generalize hm:(l.filter fun x=>!p x).length=m at *;generalize (l.filter fun x=>!p x)=d at *;have hz:(es.map ce).take m++List.replicate (l.length-m) [C.v (.int .i64 0),.v (.int .i64 0)]=(d++List.replicate (l.length-m) (0,0)).map ce:=by
    rw [c9i,List.map_replicate,<- List.map_take,het];rfl
   generalize (d++List.replicate (l.length-m) (0,0)).map ce=R at *;have hRl:R.length=l.length:=by rw [<- hz];simp;omega
   have hz2:=hz;rw [<- List.map_take] at hz2;(repeat first|refine uA ?_|(apply uK;· omega)|simp (disch:=omega) only [go_sem,Nat.reduceBEq,c8r,hel,c8u,hz2,hRl]);exact S.done (p8.P6 (Imp.refl rfl) (D9.cons (RI.gone _) (D9.cons (RI.gone _) (D9.cons (RI.gone _) (D9.cons (RI.row _ _ _ _ (by first|exact hz|exact hz2|rfl)) D9.nil)))) hν0)
theorem c6h (a b:List Cl) (ha:a.length<=100000000) (hb:b.length<=100000000):u7 Tryz.prog 14 [cls a,cls b] (cls (a2q a b)):=by
 refine kS Tryz.func14 (by cbv) (by rfl) fun w O=>?_;have h:=(a9i [b] (by show 1<=1000;decide) (by simp;omega)).spec;have h':=a9i [a] (by show 1<=1000;decide) (by simp;omega);rw [show [b].flatten=b by simp] at h;rw [show [a].flatten=a by simp] at h';have hB:=a5A b;have hA:=a5A a;have hu:=b4z b;have h2:=fun (E:Ctx) (hP:E.P=Tryz.prog)=>c0V (E:=E) hP 36 (by kernel_rfl) (O3 b) (fun t=>!a1i (O3 b) t) (O3 a) (by omega) (fun x=>c4z (O3 b) x hu (by omega));have he:a2q a b=(O3 a).filter fun t=>!(!a1i (O3 b) t):=by unfold a2q;simp
 rw [he];have hf:=List.length_filter_le (fun t=>!(!a1i (O3 b) t)) (O3 a);generalize ((O3 a).filter fun t=>!(!a1i (O3 b) t))=F at *;generalize hm:(O3 a).length-F.length=m at *;generalize O3 b=B at *;generalize O3 a=A at *;simp only [j4,TT,OA,OB,MM,VV,cls];simp only [H7,c8K,c8O,cls] at h h' h2;(repeat first|refine uA ?_|(apply uK;· first|omega|(intros;simp_all<;>omega))|simp (disch:=omega) only [go_sem,Nat.reduceBEq,Nat.reduceAdd]);refine l9.b7h [.sl 1 [[cls b]]] [.box 54 [cls b],.gone] h (j3.cons (Imp.frz rfl rfl rfl) j3.nil) rfl (D9.cons (RI.box _ _ _ (j3.refl rfl)) (D9.cons (RI.gone _) D9.nil)) rfl ?_
 (repeat first|refine uA ?_|(apply uK;· omega)|simp (disch:=omega) only [go_sem,Nat.reduceBEq]);refine l9.t (l7.vg (rs2:=[.box 54 [cls B],.gone,.gone]) (FNew.t h' rfl) (j3.cons (Imp.frz rfl rfl rfl) j3.nil) (D9.cons (RI.box _ _ _ (j3.refl rfl)) (D9.cons (RI.gone _) (D9.cons (RI.gone _) D9.nil))) rfl) ?_;(repeat first|refine uA ?_|(apply uK;· omega)|simp (disch:=omega) only [go_sem,Nat.reduceBEq]);refine l9.t (l7.vg (h2 _ rfl) (j3.cons (Imp.refl rfl) (j3.cons (Imp.clo (j3.cons (Imp.fbx rfl rfl (j3.refl rfl) rfl rfl) j3.nil)) j3.nil)) (D9.cons (RI.gone _) (D9.cons (RI.gone _) (D9.cons (RI.gone _) (D9.cons (RI.row _ _ _ _ rfl) D9.nil)))) rfl) ?_
 (repeat first|refine uA ?_|(apply uK;· omega)|simp (disch:=omega) only [go_sem,Nat.reduceBEq]);exact uQ rfl (Imp.K5 rfl rfl (by simp) (by simp)) rfl rfl
open Go
def onB (n:Int):Bool:=decide (-64<=n) && decide (n < 64)
theorem b6O {n:Int}:onB n=true <-> -64<=n/\n < 64:=by unfold onB;rw [c8F,decide_eq_true_iff,decide_eq_true_iff]
def N8 (lo:Rat):Int:=-flI (-lo)-1
def a1J (lo hi:Rat):Bool:=decide (flE hi=0) && decide (flE (-lo)=0) && onB (N8 lo) && onB (flI hi)
def ofE (b:Bq):Int:=if 0 < Nm.l8 b.lx b.hx \/ 0 < Nm.l8 b.ly b.hy then 1 else if (a1J b.lx b.hx && a1J b.ly b.hy)=false then 17 else if 400 < (flI b.hx-N8 b.lx+1)*(flI b.hy-N8 b.ly+1) then 2 else 0
def a3I (x0 y:Int) (n:Nat):List Cl:=(List.range n).map fun k:Nat=>(x0+(k:Int),y)
def a5b (x0 y0:Int) (m n:Nat):List Cl:=(List.range n).flatMap fun k:Nat=>a3I x0 (y0+(k:Int)) m
theorem b8f (x0 y:Int) (n:Nat):a3I x0 y (n+1)=a3I x0 y n++[(x0+(n:Int),y)]:=by simp [a3I,List.range_succ]
theorem b1m (x0 y0:Int) (m n:Nat):a5b x0 y0 m (n+1)=a5b x0 y0 m n++a3I x0 (y0+(n:Int)) m:=by simp [a5b,List.range_succ]
theorem b3k (x0 y:Int) (n:Nat):(a3I x0 y n).length=n:=by simp [a3I]
theorem a9w (x0 y0:Int) (m:Nat):∀ n,(a5b x0 y0 m n).length=n*m
 | 0=>by simp [a5b]
 | n+1=>by rw [b1m,c8A,a9w x0 y0 m n,b3k,Nat.succ_mul]
def wid (a b:Int):Nat:=(b+1-a).toNat
def ofC (b:Bq):List Cl:=if ofE b=0 then a5b (N8 b.lx) (N8 b.ly) (wid (N8 b.lx) (flI b.hx)) (wid (N8 b.ly) (flI b.hy)) else []
theorem b9x {b:Bq} (h:ofE b=0):(onB (N8 b.lx)=true/\onB (flI b.hx)=true)/\(onB (N8 b.ly)=true/\onB (flI b.hy)=true):=by
 unfold ofE at h;split at h
 ·cases h
 ·split at h
  ·cases h
  ·rename_i _ h2;rw [Bool.not_eq_false,c8F] at h2;unfold a1J at h2;simp only [c8F] at h2;exact ⟨⟨h2.1.1.2,h2.1.2⟩,⟨h2.2.1.2,h2.2.2⟩⟩
theorem b6k (b:Bq):(ofC b).length<=16384:=by
 unfold ofC;split
 ·rename_i h0;obtain ⟨⟨a1,a2⟩,a3,a4⟩:=b9x h0;rw [a9w];rw [b6O] at *;have h1:wid (N8 b.lx) (flI b.hx)<=128:=by unfold wid;omega
  have h2:wid (N8 b.ly) (flI b.hy)<=128:=by unfold wid;omega
  exact c8y (Nat.mul_le_mul h2 h1) (by decide)
 ·exact c8w _
def b7k (l:List Cl):Prop:=l.length<=400/\(∀ c ∈ l,onB c.1=true/\onB c.2=true)/\Up l
theorem b7P (n:Int):u7 Tryz.prog 32 [ints n] (.v (.bool (onB n))):=by
 refine kS Tryz.func32 (by cbv) (by rfl) fun w O=>?_;unfold onB;simp only [j4,TT,II,OA,OC,MM,MG,ints];(repeat first|refine uA ?_|(apply uK;· omega)|simp (disch:=omega) only [go_sem,Nat.reduceBEq]);exact uS rfl rfl
theorem c3c (p:Rat):-9223372036854775807<=flI p/\flI p<=9223372036854775807:=by
 unfold flI;split<;>omega
theorem b6e (lo hi:Rat) (hl:Rb 1000000000 (Nm.ofQ lo)) (hh:Rb 1000000000 (Nm.ofQ hi)):FZ 115 [rq lo,rq hi] (.tup [ints (N8 lo),ints (flI hi),.v (.bool (a1J lo hi))]):=by
 refine kW Tryz.func115 (by cbv) (by rfl) fun w O hw=>?_;have o1:=a9E (Nm.ofQ hi) (hh.m rfl);have o2:=a4S (Nm.ofQ lo) (hl.m rfl);have r2:=a0x hl;have o3:=a9E (Nm.ofQ (-lo)) (r2.m rfl);rw [Nm.l6] at o1 o2 o3;have b1:=c3c hi;have b2:=c3c (-lo);have hs:N8 lo=-flI (-lo)-1:=rfl;have hB:a1J lo hi=(decide (flE hi=0) && decide (flE (-lo)=0) && onB (N8 lo) && onB (flI hi)):=rfl;rw [hB];generalize N8 lo=x at *;generalize flE hi=e1 at *;generalize flE (-lo)=e2 at *;generalize flI hi=y at *;generalize flI (-lo)=z at *;have o4:=b7P x;have o5:=b7P y;have hx:-z-1=x:=hs.symm;have hx2:0-z-1=x:=by omega
 generalize onB x=u1 at *;generalize onB y=u2 at *;simp only [j4,TT,II,OA,OC,MM,LL,MG];simp only [rq,rc,sb,ints] at o1 o2 o3 o4 o5 ⊢;(repeat first|refine uA ?_|(apply uK;· first|omega|(intros;simp_all<;>omega))|simp (disch:=omega) only [go_sem,Nat.reduceBEq,Nat.reduceAdd,ww,hx2]|(apply uB o4;exact rfl)|(apply uB o5;exact rfl)|(apply uD o1;exact tz hw;rfl)|(apply uD o2;exact tz hw;rfl)|(apply uD o3;exact tz hw;rfl));refine S.done ?_;simp only [D6,go_sem,Nat.reduceBEq];(repeat (refine ⟨?_,?_⟩;· first|trivial|omega|simp));exact p8.out rfl (Imp.tup (j3.cons (Imp.refl rfl) (j3.cons (Imp.refl rfl) (j3.cons (Imp.eq (by simp) rfl) j3.nil)))) rfl
theorem c6b (b:Bq) (hb:Bb 1000000000 b):FZ 42 [.agg b.enc] (.tup [cls (ofC b),ints (ofE b)]):=by
 refine kW Tryz.func42 (by cbv) (by rfl) fun w O hw=>?_;have hon:=@b9x b;have hE:ofE b=if 0 < Nm.l8 b.lx b.hx \/ 0 < Nm.l8 b.ly b.hy then 1 else if (a1J b.lx b.hx && a1J b.ly b.hy)=false then 17 else if 400 < (flI b.hx-N8 b.lx+1)*(flI b.hy-N8 b.ly+1) then 2 else 0:=rfl
 have hC:ofC b=if ofE b=0 then a5b (N8 b.lx) (N8 b.ly) (wid (N8 b.lx) (flI b.hx)) (wid (N8 b.ly) (flI b.hy)) else []:=rfl
 have hS:(a1J b.lx b.hx && a1J b.ly b.hy)=true->(onB (N8 b.lx)=true/\onB (flI b.hx)=true)/\(onB (N8 b.ly)=true/\onB (flI b.hy)=true):=fun h2=>by
  unfold a1J at h2;simp only [c8F] at h2;exact ⟨⟨h2.1.1.2,h2.1.2⟩,⟨h2.2.1.2,h2.2.2⟩⟩
 rw [hC];clear hon hC;obtain ⟨lx,ly,hx,hy⟩:=b;obtain ⟨b1,b2,b3,b4⟩:=hb;simp only at b1 b2 b3 b4 hE hS ⊢;have o1:=F6 (Nm.ofQ lx) (Nm.ofQ hx) (b1.m rfl) (b3.m rfl);have o2:=F6 (Nm.ofQ ly) (Nm.ofQ hy) (b2.m rfl) (b4.m rfl);rw [Nm.l6,Nm.l6] at o1 o2;have o3:=b6e lx hx b1 b3;have o4:=b6e ly hy b2 b4;generalize ofE ⟨lx,ly,hx,hy⟩=E at *;generalize Nm.l8 lx hx=c1 at *;generalize Nm.l8 ly hy=c2 at *;generalize a1J lx hx=s1 at *;generalize a1J ly hy=s2 at *;generalize N8 lx=x0 at *;generalize N8 ly=y0 at *;generalize flI hx=x1 at *;generalize flI hy=y1 at *;clear b1 b2 b3 b4;simp only [j4,TT,II,OA,OC,MM,LL,FF,MG,LG,FG];simp only [Bq.enc,rq,rc,sb,ints,cls] at o1 o2 o3 o4 ⊢
 (repeat first|refine uA ?_|(apply uK;· first|omega|(intros;simp_all<;>omega))|simp (disch:=omega) only [go_sem,Nat.reduceBEq,Nat.reduceAdd]|(refine uD o1 ?_ ?_ ?_;exact tz hw;rfl)|(refine uD o2 ?_ ?_ ?_;exact tz hw;rfl));refine S.cond rfl (fun hc=>?_) (fun hc=>?_)
 ·have h1:0 < c1 \/ 0 < c2:=by
   revert hc;by_cases k1:0 < c1<;>by_cases k2:0 < c2<;>simp [k1,k2]
  rw [if_pos h1] at hE;subst hE;rw [if_neg (by decide)];(repeat first|refine uA ?_|(apply uK;· first|omega|(intros;simp_all<;>omega))|simp (disch:=omega) only [go_sem]);(refine S.done ?_;simp only [D6,go_sem,Nat.reduceBEq];(repeat (refine ⟨?_,?_⟩;· first|trivial|omega|simp));exact p8.out rfl (Imp.tup (by (repeat' (first|exact j3.nil|exact Imp.refl rfl|exact Imp.frz rfl rfl rfl|exact Imp.I9|refine Imp.agg ?_|refine j3.cons ?_ ?_)))) rfl)
 have h1:¬ (0 < c1 \/ 0 < c2):=by
  revert hc;by_cases k1:0 < c1<;>by_cases k2:0 < c2<;>simp [k1,k2]
 rw [if_neg h1] at hE;(repeat first|refine uA ?_|(apply uK;· first|omega|(intros;simp_all<;>omega))|simp (disch:=omega) only [go_sem,Nat.reduceBEq,Nat.reduceAdd]|(refine uD o3 ?_ ?_ ?_;exact tz hw;rfl)|(refine uD o4 ?_ ?_ ?_;exact tz hw;rfl));refine S.cond rfl (fun hc=>?_) (fun hc=>?_)
 ·have h2:(s1 && s2)=false:=by
   revert hc;cases s1<;>cases s2<;>simp
  rw [if_pos h2] at hE;subst hE;rw [if_neg (by decide)];(repeat first|refine uA ?_|(apply uK;· first|omega|(intros;simp_all<;>omega))|simp (disch:=omega) only [go_sem]);(refine S.done ?_;simp only [D6,go_sem,Nat.reduceBEq];(repeat (refine ⟨?_,?_⟩;· first|trivial|omega|simp));exact p8.out rfl (Imp.tup (by (repeat' (first|exact j3.nil|exact Imp.refl rfl|exact Imp.frz rfl rfl rfl|exact Imp.I9|refine Imp.agg ?_|refine j3.cons ?_ ?_)))) rfl)
 have h2:(s1 && s2)=true:=by
  revert hc;cases s1<;>cases s2<;>simp
 obtain ⟨⟨e1,e2⟩,e3,e4⟩:=hS h2;rw [if_neg (by rw [h2];decide)] at hE;rw [b6O] at e1 e2 e3 e4;obtain ⟨A,hA⟩:∃ A,A=x1-x0+1:=⟨_,rfl⟩
 obtain ⟨B,hB⟩:∃ B,B=y1-y0+1:=⟨_,rfl⟩
 rw [<- hA,<- hB] at hE;have hP:-65536<=A*B/\A*B<=65536:=by
  have a1:-128<=A/\A<=128:=by omega
  have a2:-128<=B/\B<=128:=by omega
  have hq:=Int.natAbs_mul A B;have:=Nat.mul_le_mul (show A.natAbs<=128 by omega) (show B.natAbs<=128 by omega);omega
 have hA':x1-x0+1=A:=hA.symm;have hB':y1-y0+1=B:=hB.symm;generalize hAB:A*B=AB at hE hP;(repeat first|refine uA ?_|(apply uK;· first|omega|(intros;simp_all<;>omega))|simp (disch:=omega) only [go_sem,Nat.reduceBEq,ww,hA',hB',hAB]);refine S.cond rfl (fun hc=>?_) (fun hc=>?_)
 ·rw [if_pos (by simpa using hc)] at hE;subst hE;rw [if_neg (by decide)];(repeat first|refine uA ?_|(apply uK;· first|omega|(intros;simp_all<;>omega))|simp (disch:=omega) only [go_sem]);(refine S.done ?_;simp only [D6,go_sem,Nat.reduceBEq];(repeat (refine ⟨?_,?_⟩;· first|trivial|omega|simp));exact p8.out rfl (Imp.tup (by (repeat' (first|exact j3.nil|exact Imp.refl rfl|exact Imp.frz rfl rfl rfl|exact Imp.I9|refine Imp.agg ?_|refine j3.cons ?_ ?_)))) rfl)
 rw [if_neg (by simpa using hc)] at hE;subst hE;rw [if_pos rfl];obtain ⟨m,hm⟩:∃ m,m=wid x0 x1:=⟨_,rfl⟩
 obtain ⟨n,hn⟩:∃ n,n=wid y0 y1:=⟨_,rfl⟩
 have hm':m=(x1+1-x0).toNat:=hm;have hn':n=(y1+1-y0).toNat:=hn;rw [<- hm,<- hn];have hlen:∀ i j,i<=n->j<=m->(a5b x0 y0 m i).length+j<=20000:=fun i j hi hj=>by
  rw [a9w];have:=Nat.mul_le_mul (show i<=128 by omega) (show m<=128 by omega);omega
 clear o1 o2 o3 o4 hP hAB hA' hB' hA hB hm hn;(repeat first|refine uA ?_|(apply uK;· first|omega|(intros;simp_all<;>omega))|simp (disch:=omega) only [go_sem,Nat.reduceBEq]);refine S.loop (X:=Nat) (fun i=>⟨[(4,ints x0),(5,ints x1),(8,ints y1),(10,.rv 1),(11,ints (y0+(i:Int)))],[.gone,.row 61 2 ((a5b x0 y0 m i).map ce)]⟩) (fun i=>i<=n) (fun i=>n-i) 0 (c8w _) (Ent.trans (Ent.pack 10 61 2 rfl) (by simp only [ints,Int.natCast_zero,Int.add_zero,show a5b x0 y0 m 0=[] from rfl,c8O];exact (by repeat first|refine uA ?_|(refine ⟨?_,?_⟩;· first|rfl|simp [slot])|rfl|simp))) ?_;intro i hi;simp only [ints]
 (repeat first|refine uA ?_|(apply uK;· first|omega|(intros;simp_all<;>omega))|simp (disch:=omega) only [go_sem,Nat.reduceBEq]);(refine uJ rfl (fun hc=>?_) fun hc=>?_)
 ·have hi':i < n:=by omega
  have hl0:=hlen i;have hsu:=b1m x0 y0 m i;generalize a5b x0 y0 m i=T at *;obtain ⟨y,hy⟩:∃ y,y=y0+(i:Int):=⟨_,rfl⟩
  have hyn:y0+((i+1:Nat):Int)=y+1:=by omega
  rw [<- hy] at hsu ⊢;(repeat first|refine uA ?_|(apply uK;· first|omega|(intros;simp_all<;>omega))|simp (disch:=omega) only [go_sem,Nat.reduceBEq]);refine S.loop (X:=Nat) (fun j=>⟨[(4,ints x0),(5,ints x1),(8,ints y1),(10,.rv 1),(11,ints y),(12,ints (x0+(j:Int)))],[.gone,.row 61 2 ((T++a3I x0 y j).map ce)]⟩) (fun j=>j<=m) (fun j=>m-j) 0 (c8w _) (by simp only [ints,Int.natCast_zero,Int.add_zero,show a3I x0 y 0=[] from rfl,List.append_nil];exact (by repeat first|refine uA ?_|(refine ⟨?_,?_⟩;· first|rfl|simp [slot])|rfl|simp)) ?_;intro j hj;simp only [ints];(repeat first|refine uA ?_|(apply uK;· first|omega|(intros;simp_all<;>omega))|simp (disch:=omega) only [go_sem,Nat.reduceBEq])
  (refine uJ rfl (fun hc=>?_) fun hc=>?_)
  ·have hj':j < m:=by omega
   have hl1:=hl0 j (by omega) hj;have hrs:=b8f x0 y j;have hrl:=b3k x0 y j;have hxn:x0+((j+1:Nat):Int)=x0+(j:Int)+1:=by omega
   obtain ⟨x,hx⟩:∃ x,x=x0+(j:Int):=⟨_,rfl⟩
   rw [<- hx] at hrs hxn ⊢;have hap:(T++a3I x0 y (j+1)).map ce=(T++a3I x0 y j).map ce++[[C.v (.int .i64 x),.v (.int .i64 y)]]:=by
    rw [hrs,<- c9j,c9i (l₂:=[(x,y)])];rfl
   have hTl:((T++a3I x0 y j).map ce).length<=20000:=by rw [c8r,c8A,hrl];exact hl1
   generalize (T++a3I x0 y j).map ce=R at *;(repeat first|refine uA ?_|(apply uK;· first|omega|(intros;simp_all<;>omega))|simp (disch:=omega) only [go_sem,Nat.reduceBEq,Nat.reduceAdd,ww]);refine S.next (j+1) (by omega) (by omega) (by simp only [hxn,hap];exact (by repeat first|refine uA ?_|(refine ⟨?_,?_⟩;· first|rfl|simp [slot])|rfl|simp))
  ·have hj':j=m:=by omega
   subst hj';rw [<- hsu];(repeat first|refine uA ?_|(apply uK;· first|omega|(intros;simp_all<;>omega))|simp (disch:=omega) only [go_sem,Nat.reduceBEq,ww]);refine S.next (i+1) (by omega) (by omega) (by simp only [hyn];exact (by repeat first|refine uA ?_|(refine ⟨?_,?_⟩;· first|rfl|simp [slot])|rfl|simp))
 ·have hi':i=n:=by omega
  subst hi';(repeat first|refine uA ?_|(apply uK;· first|omega|(intros;simp_all<;>omega))|simp (disch:=omega) only [go_sem,Nat.reduceBEq]);(refine S.done ?_;simp only [D6,go_sem,Nat.reduceBEq];(repeat (refine ⟨?_,?_⟩;· first|trivial|omega|simp));exact p8.out rfl (Imp.tup (by (repeat' (first|exact j3.nil|exact Imp.refl rfl|exact Imp.frz rfl rfl rfl|exact Imp.I9|refine Imp.agg ?_|refine j3.cons ?_ ?_)))) rfl)
set_option maxRecDepth 10000
theorem b9G (x n:Int) (h:1<=n):x % n=(if x.tmod n < 0 then x.tmod n+n else x.tmod n)/\-n < x.tmod n/\x.tmod n < n:=by
 have hq:x=n*(x.tdiv n)+x.tmod n:=(Int.mul_tdiv_add_tmod x n).symm;have he:x % n=x.tmod n % n:=by
  conv=>lhs;rw [hq]
  exact Int.mul_add_emod_self_left ..
 have h2:=Int.tmod_lt_of_pos x (show 0 < n by omega);have h3:-n < x.tmod n:=by
  have:=Int.tmod_lt_of_pos (-x) (show 0 < n by omega);rw [Int.neg_tmod] at this;omega
 refine ⟨?_,h3,h2⟩;rw [he];split
 ·rename_i hc;have:x.tmod n % n=(x.tmod n+n) % n:=by simp
  rw [this];exact Int.emod_eq_of_lt (by omega) (by omega)
 ·exact Int.emod_eq_of_lt (by omega) (by omega)
theorem c2m (x n:Int) (h:1<=n/\n<=4611686018427387904):u7 Tryz.prog 141 [ints x,ints n] (ints (x % n)):=by
 refine kS Tryz.func141 (by cbv) (by rfl) fun w O=>?_;simp only [j4,TT,II,OA,MM,ints];have hn:¬ n=0:=by omega
 obtain ⟨he,hlt⟩:=b9G x n (by omega);(repeat first|refine uA ?_|(apply uK;· first|omega|(intros;simp_all<;>omega))|simp (disch:=omega) only [go_sem,Nat.reduceBEq,Nat.reduceAdd]);(refine uJ rfl (fun hc=>?_) fun hc=>?_)
 ·rw [he,if_pos hc];(repeat first|refine uA ?_|(apply uK;· omega)|simp (disch:=omega) only [go_sem,Nat.reduceBEq,ww]);exact uS rfl rfl
 ·rw [he,if_neg hc];(repeat first|refine uA ?_|(apply uK;· omega)|simp (disch:=omega) only [go_sem,Nat.reduceBEq]);exact uS rfl rfl
def O7 (l:List Int):C:=.sl 1 (l.map fun n=>[.v (.int .i64 n)])
theorem a1G {E:Ctx} (hP:E.P=Tryz.prog) (l:List Int) (n:Int) (h:1<=n/\n<=4611686018427387904) :
  l7 E [.box 133 [O7 l]] 72 [.bp 0 0,ints n] (ints (nx l n)) [.box 133 [O7 (l.drop 1)]] []:=by
 obtain ⟨P,eff',N,w0,own0,av0,nu0,pk0⟩:=E;simp only at hP;subst hP;refine l7.of (eff:=eff) Tryz.func72 (by cbv) (by exact c8G rfl) fun w own av ν hν=>?_;have hν0:ν.length<=1:=by rw [hν];exact c8B _
 have hn1:decide (n < 1)=false:=decide_eq_false (by omega);cases l with
 | nil=>
  have e:nx [] n=0:=by unfold nx;rw [List.headD_nil,Int.zero_emod]
  rw [e];simp only [j4,TT,II,OA,OB,OC,MM,VV,FF,MG,O7,ints,List.drop_nil,c8O];(repeat first|refine uA ?_|(apply uK;· first|omega|(intros;simp_all<;>omega))|simp (disch:=omega) only [go_sem,Nat.reduceBEq,Nat.reduceAdd,hn1,List.length_nil]);refine S.cond rfl (fun hc=>?_) (fun hc=>by simp at hc);(repeat first|refine uA ?_|(apply uK;· first|omega|(intros;simp_all<;>omega))|simp (disch:=omega) only [go_sem]);(refine S.done ?_;simp only [D6,go_sem,Nat.reduceBEq];(repeat (refine ⟨?_,?_⟩;· first|trivial|omega|simp));exact p8.P6 (Imp.refl rfl) (by repeat first|refine uA ?_|(refine ⟨?_,?_⟩;· first|rfl|simp [slot])|rfl|simp) (c8y hν0 (by simp)))
 | cons x r=>
  have e:nx (x::r) n=x % n:=by unfold nx;rw [List.headD_cons]
  rw [e];have hb:=c2m x n h;have h0:decide (((r.length:Int)+1)=0)=false:=decide_eq_false (by omega);simp only [j4,TT,II,OA,OB,OC,MM,VV,FF,MG,O7,ints,c8K,List.drop_succ_cons,List.drop_zero] at *;(repeat first|refine uA ?_|(apply uK;· first|omega|(intros;simp_all<;>omega))|simp (disch:=omega) only [go_sem,Nat.reduceBEq,Nat.reduceAdd,hn1,c8R,c8r]|(refine uB hb ?_ ?_;rfl));refine S.cond rfl (fun hc=>by simp at hc;omega) (fun hc=>?_);(repeat first|refine uA ?_|(apply uK;· first|omega|(intros;simp_all<;>omega))|simp (disch:=omega) only [go_sem,Nat.reduceBEq,Nat.reduceAdd,c8R,c8r,List.getElem?_cons_zero,List.drop_succ_cons,Nat.add_sub_cancel,c8J]|(refine uB hb ?_ ?_;rfl))
  (refine S.done ?_;simp only [D6,go_sem,Nat.reduceBEq];(repeat (refine ⟨?_,?_⟩;· first|trivial|omega|simp));exact p8.P6 (Imp.refl rfl) (by repeat first|refine uA ?_|(refine ⟨?_,?_⟩;· first|rfl|simp [slot])|rfl|simp) (c8y hν0 (by simp)))
set_option maxRecDepth 100000
set_option maxHeartbeats 4000000
def nuI (a:Nm.Rt):Int:=Nm.sgn a.neg (Nm.val a.num)
def deI (a:Nm.Rt):Int:=max (Nm.val a.den:Int) 1
def c7r (x:Lk) (k:Int):Nm.Rt:=Q (8*nuI x.low*deI x.high+(nuI x.high*deI x.low-nuI x.low*deI x.high)*k) (8*deI x.low*deI x.high)
def c3l:List Lk->List Int->List Nm.Rt
 | [],_=>[]
 | x::r,l=>c7r x (nx l 9)::c3l r (l.drop 1)
structure c8n (x:Lk) (k:Int):Prop where
 n1:-1000000<=nuI x.low/\nuI x.low<=1000000
 n2:-1000000<=nuI x.high/\nuI x.high<=1000000
 d1:1<=deI x.low/\deI x.low<=1000
 d2:1<=deI x.high/\deI x.high<=1000
 p1:-1000000000<=nuI x.low*deI x.high/\nuI x.low*deI x.high<=1000000000
 p2:-1000000000<=nuI x.high*deI x.low/\nuI x.high*deI x.low<=1000000000
 p3:-16000000000<=(nuI x.high*deI x.low-nuI x.low*deI x.high)*k/\(nuI x.high*deI x.low-nuI x.low*deI x.high)*k<=16000000000
 p4:1<=deI x.low*deI x.high/\deI x.low*deI x.high<=1000000
 p5:8*nuI x.low*deI x.high=8*(nuI x.low*deI x.high)
 p6:8*deI x.low*deI x.high=8*(deI x.low*deI x.high)
theorem a9h (l:List UInt8) (b:UInt8):Nm.val (l++[b])=256*Nm.val l+b.toNat:=by
 unfold Nm.val;rw [List.foldl_append];rfl
def c6Z (x:Lk) (c q:Nm.Rt):Nm.Rt:=Nm.ofQ (D8 (-(Nm.d9 x.speed)) (u6 (Nm.d9 x.speed) (Nm.d9 c-Nm.d9 q)))
def c7C (L:List Lk) (c q:List Nm.Rt):List Nm.Rt:=(L.zip (c.zip q)).map fun z=>c6Z z.1 z.2.1 z.2.2
def c7v (z:List (Am × Ast)) (to:List Int) (i:Nat):List Nm.Rt:=match z[i]? with
 | some (a,x)=>c7C a.links (c3l a.links (to.drop (3*i))) x.q
 | none=>[]
def c3p (z:List (Am × Ast)) (to:List Int) (n:Nat):List (List Nm.Rt):=(List.range n).map (c7v z to)
structure c8o (w:Wk) (s:Stt) (k:Nat):Prop where
 st:J3 w s=0
 q:∀ x ∈ s.arms,∀ r ∈ x.q,Rb (100+1000*k) r
structure c5R (y b:Ast) (j:Nat) (v:Nm.Rt):Prop where
 ex:∃ bv q bq,b.v[j]?=some bv/\y.q[j]?=some q/\b.q[j]?=some bq/\¬ 0 < Nm.l8 (q9 (Nm.d9 v)) (q9 (Nm.d9 bv))/\(q8 (Nm.d9 bv)=0->q=bq)/\Rb 1048576 bv/\Rb 1048576 v
structure c8p (y b:Ast):Prop where
 power:y.power=false
 vlen:y.v.length=b.v.length
 qlen:y.q.length=y.v.length
 small:y.v.length<=3
 joint:∀ j v,y.v[j]?=some v->c5R y b j v
structure c8m (w:Wk) (s:Stt) (to:List Int):Prop where
 step:c6I w s (c3p (w.arms.zip s.arms) to w.arms.length) (List.replicate w.arms.length true) []=0
 next:Calm w (c6M w s (c3p (w.arms.zip s.arms) to w.arms.length) (List.replicate w.arms.length true) []) 1
set_option maxRecDepth 10000
set_option maxHeartbeats 8000000
instance :DecidableEq Nm.Rt:=fun ⟨a,b,c⟩ ⟨d,e,f⟩=>decidable_of_iff (a=d/\b=e/\c=f) ⟨fun ⟨h1,h2,h3⟩=>by rw [h1,h2,h3],fun h=>by injection h with h1 h2 h3;exact ⟨h1,h2,h3⟩⟩
instance :DecidableEq Vt:=fun ⟨a,b⟩ ⟨d,e⟩=>decidable_of_iff (a=d/\b=e) ⟨fun ⟨h1,h2⟩=>by rw [h1,h2],fun h=>by injection h with h1 h2;exact ⟨h1,h2⟩⟩
instance :DecidableEq Fr:=fun ⟨a,b,c,g⟩ ⟨d,e,f,h⟩=>decidable_of_iff (a=d/\b=e/\c=f/\g=h) ⟨fun ⟨h1,h2,h3,h4⟩=>by rw [h1,h2,h3,h4],fun h=>by injection h with h1 h2 h3 h4;exact ⟨h1,h2,h3,h4⟩⟩
instance :DecidableEq Ast:=fun ⟨a,b,c,g⟩ ⟨d,e,f,h⟩=>decidable_of_iff (a=d/\b=e/\c=f/\g=h) ⟨fun ⟨h1,h2,h3,h4⟩=>by rw [h1,h2,h3,h4],fun h=>by injection h with h1 h2 h3 h4;exact ⟨h1,h2,h3,h4⟩⟩
instance :DecidableEq Stt:=fun ⟨a,b,c,g,i⟩ ⟨d,e,f,h,j⟩=>decidable_of_iff (a=d/\b=e/\c=f/\g=h/\i=j) ⟨fun ⟨h1,h2,h3,h4,h5⟩=>by rw [h1,h2,h3,h4,h5],fun h=>by injection h with h1 h2 h3 h4 h5;exact ⟨h1,h2,h3,h4,h5⟩⟩
theorem c1e (a b:List Bool) (hn:a.length<=1000000000000) (hb:b.length<=1000000000000):u7 Tryz.prog 11 [bls a,bls b] (.v (.bool (decide (a=b)))):=by
 refine kS Tryz.func11 (by cbv) (by rfl) fun w O=>?_;simp only [j4,TT,II,OA,MM,VV,bls];(repeat first|refine uA ?_|(apply uK;· first|omega|(intros;simp_all<;>omega))|simp (disch:=omega) only [go_sem,Nat.reduceBEq,Nat.reduceAdd,c8r]);(refine uJ rfl (fun hc=>?_) fun hc=>?_)
 ·have hne:¬ a=b:=fun e=>hc (by rw [e]);rw [decide_eq_false hne];(repeat first|refine uA ?_|(apply uK;· omega)|simp (disch:=omega) only [go_sem]);exact uS rfl rfl
 have hlen:a.length=b.length:=by omega
 (repeat first|refine uA ?_|(apply uK;· omega)|simp (disch:=omega) only [go_sem,Nat.reduceBEq,c8r]);refine S.loop (X:=Nat) (fun i=>⟨[(0,bls a),(1,bls b),(12,ints a.length),(13,ints i)],[]⟩)
  (fun i=>i<=a.length/\a.take i=b.take i) (fun i=>a.length-i) 0 ⟨c8w _,by simp⟩ (by repeat first|refine uA ?_|(refine ⟨?_,?_⟩;· first|rfl|simp [slot])|rfl|simp) ?_
 rintro i ⟨hi,he⟩;simp only [ints,bls] at hi ⊢;(repeat first|refine uA ?_|(apply uK;· omega)|simp (disch:=omega) only [go_sem,Nat.reduceBEq]);(refine uJ rfl (fun hc=>?_) fun hc=>?_)
 ·have hgi:=c8q (show i < a.length by omega);have hgj:=c8q (show i < b.length by omega);have hti:=c9k (show i < a.length by omega);have htj:=c9k (show i < b.length by omega);generalize a[i]'_=z at hgi hti;generalize b[i]'_=y at hgj htj;by_cases hzy:z=y
  ·subst hzy;(repeat first|refine uA ?_|(apply uK;· omega)|simp (disch:=omega) only [go_sem,Nat.reduceBEq,hgi,hgj,c8s,c8r,c8u,beq_self_eq_true]);refine S.cond rfl (fun hc2=>by simp at hc2) (fun hc2=>?_);(repeat first|refine uA ?_|(apply uK;· omega)|simp (disch:=omega) only [go_sem,Nat.reduceBEq,ww]);refine S.next (i+1) ⟨by omega,by rw [hti,htj,he]⟩ (by omega) (by repeat first|refine uA ?_|(refine ⟨?_,?_⟩;· first|rfl|simp [slot])|rfl|simp)
  ·have hne:¬ a=b:=fun e=>by
    subst e;rw [hgi] at hgj;injection hgj with hgj;exact hzy hgj
   skip
   skip
   (repeat first|refine uA ?_|(apply uK;· omega)|simp (disch:=omega) only [go_sem,Nat.reduceBEq,hgi,hgj,c8s,c8r,c8u]);refine S.cond rfl (fun hc2=>?_) (fun hc2=>by simp at hc2 hzy;simp_all);rw [decide_eq_false hne];(repeat first|refine uA ?_|(apply uK;· omega)|simp (disch:=omega) only [go_sem]);exact uS rfl rfl
 have hi':i=a.length:=by omega
 subst hi';have hab:a=b:=by
  rw [c8J] at he;rw [hlen,c8J] at he;exact he
 rw [decide_eq_true hab];(repeat first|refine uA ?_|(apply uK;· omega)|simp (disch:=omega) only [go_sem]);exact uS rfl rfl
set_option maxHeartbeats 4000000
def azL:List UInt8:=[97,98,99,100,101,102,103,104,105,106,107,108,109,110,111,112,113,114,115,116,117,118,119,120,121,122]
theorem c5w:∀ n:Fin 256,azL.contains (UInt8.ofNat n)=K8 (UInt8.ofNat n):=by decide +kernel
theorem c0w (b:UInt8):azL.contains b=K8 b:=by
 have h:=c5w ⟨b.toNat,b.toNat_lt⟩;simpa using h
theorem b8e {p:UInt8->Bool} {x:UInt8}:∀ {l:List UInt8},x ∈ l.takeWhile p->p x=true
 | [],h=>by simp at h
 | y::l,h=>by
  rw [List.takeWhile_cons] at h;split at h
  ·rcases List.mem_cons.1 h with rfl|h
   ·assumption
   ·exact b8e h
  ·cases h
theorem b4s {p:UInt8->Bool}:∀ {l:List UInt8},l.dropWhile p=[] <-> l.all p=true
 | []=>by simp
 | x::l=>by
  rw [List.dropWhile_cons,List.all_cons];cases h:p x
  ·simp
  ·simpa using b4s (p:=p) (l:=l)
theorem c1H (l:List UInt8):Lib.trimS l azL=[] <-> l.all K8=true:=by
 have hf:(fun b=>azL.contains b)=K8:=funext c0w;unfold Lib.trimS Lib.trimLeftS Lib.trimRightS;rw [hf,b4s];constructor
 ·intro h;rw [List.all_eq_true] at h ⊢;intro x hx;cases hl:K8 x with
  | true=>rfl
  | false=>
   have:x ∈ (l.reverse.dropWhile K8).reverse:=by
    rw [List.mem_reverse];have hx':x ∈ l.reverse:=List.mem_reverse.2 hx;rw [<- List.takeWhile_append_dropWhile (p:=K8) (l:=l.reverse)] at hx';rcases List.mem_append.1 hx' with h1|h1
    ·have:=b8e h1;rw [hl] at this;cases this
    ·exact h1
   have:=h x this;rw [hl] at this;cases this
 ·intro h;rw [List.all_eq_true] at h ⊢;intro x hx;exact h x (List.mem_reverse.1 ((List.dropWhile_sublist _).mem (List.mem_reverse.1 hx)))
theorem c4V (s:List UInt8) (hs:s.length<=1099511627776):u7 Tryz.prog 175 [sb s,.v (.string ⟨#[97,98,99,100,101,102,103,104,105,106,107,108,109,110,111,112,113,114,115,116,117,118,119,120,121,122]⟩)] (sb (Lib.trimS s azL)):=by
 intro O w vs hO hA;simp only [FzL,sb,Fz] at hA;obtain ⟨y,ys,rfl,rfl,z,zs,rfl,rfl,rfl⟩:=hA;refine (Any.strings_Trim_laid Tryz.c4S (by kernel_rfl) (bs s) ⟨#[97,98,99,100,101,102,103,104,105,106,107,108,109,110,111,112,113,114,115,116,117,118,119,120,121,122]⟩ w (by rw [F5];omega) (by decide) (ascii_of_all (by decide))).mono ?_;rintro e w' ⟨rfl,hb⟩;exact ⟨_,rfl,hb,by simp only [sb,Fz,a0l];rfl⟩
theorem c4D (s:List UInt8) (hs:s.length<=1099511627776):u7 Tryz.prog 128 [sb s] (.v (.bool (a1h s))):=by
 refine kS Tryz.func128 (by cbv) (by rfl) fun w O=>?_;have h:=c4V s hs;have e:a1h s=((!decide (s=[]) && decide ((s.length:Int)<=12)) && decide (Lib.trimS s azL=[])):=by
  have h1:decide (Lib.trimS s azL=[])=s.all K8:=by
   have:=c1H s;cases h:s.all K8
   ·exact decide_eq_false (fun h2=>by rw [this.1 h2] at h;cases h)
   ·exact decide_eq_true (this.2 h)
  have h2:(s.all fun b=>decide (97<=b.toNat) && decide (b.toNat<=122))=s.all K8:=rfl;have h3:decide (1<=s.length)=!decide (s=[]):=by cases s<;>simp
  have h4:decide (s.length<=12)=decide ((s.length:Int)<=12):=by apply decide_eq_decide.2;omega
  unfold a1h;rw [h1,h2,h3,h4];cases s.all K8<;>cases (decide (s=[]))<;>cases (decide ((s.length:Int)<=12))<;>rfl
 rw [e];generalize Lib.trimS s azL=t at *;simp only [j4,TT,II,OA,OC,MM,MG];simp only [sb] at *;(repeat first|refine uA ?_|(apply uK;· omega)|simp (disch:=omega) only [go_sem,Nat.reduceBEq,F5,a0n]|(apply uB h;exact rfl));exact uS rfl rfl
theorem a5a {α:Type} {f:α->Bool} {l:List α} {i:Nat} {x:α} (h:l[i]?=some x):(l.drop i).all f=(f x && (l.drop (i+1)).all f):=by
 obtain ⟨h1,h2⟩:=c8v.1 h;rw [List.drop_eq_getElem_cons h1,List.all_cons,h2]
theorem a6i {α:Type} {f:α->Bool} {l:List α} {i:Nat} (h:l.length<=i):(l.drop i).all f=true:=by rw [List.drop_eq_nil_of_le h];rfl
theorem a0g {a:Nm.Rt}:j5 a=(decide a.F7 && j5 a):=by
 unfold j5;cases decide a.F7<;>simp
theorem a5c (l:List Nm.Rt) (hl:Rbs 17179869184 l):FZ 132 [rts l] (.v (.bool (l.all j5))):=by
 refine kW Tryz.func132 (by cbv) (by rfl) fun w O hw=>?_;obtain ⟨hn,hb⟩:=hl;simp only [j4,TT,II,OA,OB,OC,MM,LL,LG,rts];(repeat first|refine uA ?_|(apply uK;· omega)|simp (disch:=omega) only [go_sem,Nat.reduceBEq,c8r]);refine S.loop (X:=Nat) (fun i=>⟨[(5,rts l),(6,ints l.length),(7,ints i)],[]⟩) (fun i=>i<=l.length/\l.all j5=(l.drop i).all j5) (fun i=>l.length-i) 0 ⟨c8w _,rfl⟩ (by repeat first|refine uA ?_|(refine ⟨?_,?_⟩;· first|rfl|simp [slot])|rfl|simp) ?_;rintro i ⟨hi,hg⟩;simp only [rts,ints] at hi ⊢;(repeat first|refine uA ?_|(apply uK;· omega)|simp (disch:=omega) only [go_sem,Nat.reduceBEq]);(refine uJ rfl (fun hc=>?_) fun hc=>?_)
 ·have hgi:=c8q (show i < l.length by omega);generalize l[i]'(_)=x at hgi;have hx:=hb x (c8t hgi);have hs:=a5a (f:=j5) hgi;have o1:=a0p x (hx.m rfl);have o2:=a3M x hx;rw [a0g] at hs;generalize decide x.F7=q1 at *;generalize j5 x=q2 at *;simp only [rc,sb] at o1 o2;(repeat first|refine uA ?_|(apply uK;· first|omega|(intros;simp_all<;>omega))|simp (disch:=omega) only [go_sem,Nat.reduceBEq,Nat.reduceAdd,hgi,c8s,c8r,rcs,sb,c8u]|(apply uD o1;exact tz hw;rfl)|(apply uD o2;exact tz hw;rfl));refine S.cond rfl (fun hc2=>?_) (fun hc2=>?_)
  ·rw [hg,hs,show (q1 && q2)=false by cases q1<;>cases q2<;>simp_all,Bool.false_and];(repeat first|refine uA ?_|(apply uK;· omega)|simp (disch:=omega) only [go_sem]);exact uS rfl rfl
  ·(repeat first|refine uA ?_|(apply uK;· omega)|simp (disch:=omega) only [go_sem,Nat.reduceBEq,ww]);refine S.next (i+1) ⟨by omega,by rw [hg,hs,show (q1 && q2)=true by cases q1<;>cases q2<;>simp_all,Bool.true_and]⟩ (by omega) (by repeat first|refine uA ?_|(refine ⟨?_,?_⟩;· first|rfl|simp [slot])|rfl|simp)
 ·rw [hg,a6i (by omega)];(repeat first|refine uA ?_|(apply uK;· omega)|simp (disch:=omega) only [go_sem]);exact uS rfl rfl
theorem a6B (l:List Nm.Rt) (hl:Rbs 17179869184 l):FZ 58 [rts l] (.v (.bool (l.all C8))):=by
 refine kW Tryz.func58 (by cbv) (by rfl) fun w O hw=>?_;obtain ⟨hn,hb⟩:=hl;simp only [j4,TT,II,OA,OB,MM,LL,rts];(repeat first|refine uA ?_|(apply uK;· omega)|simp (disch:=omega) only [go_sem,Nat.reduceBEq,c8r]);refine S.loop (X:=Nat) (fun i=>⟨[(5,rts l),(6,ints l.length),(7,ints i)],[]⟩) (fun i=>i<=l.length/\l.all C8=(l.drop i).all C8) (fun i=>l.length-i) 0 ⟨c8w _,rfl⟩ (by repeat first|refine uA ?_|(refine ⟨?_,?_⟩;· first|rfl|simp [slot])|rfl|simp) ?_;rintro i ⟨hi,hg⟩;simp only [rts,ints] at hi ⊢;(repeat first|refine uA ?_|(apply uK;· omega)|simp (disch:=omega) only [go_sem,Nat.reduceBEq]);(refine uJ rfl (fun hc=>?_) fun hc=>?_)
 ·have hgi:=c8q (show i < l.length by omega);generalize l[i]'(_)=x at hgi;have hx:=hb x (c8t hgi);have hs:=a5a (f:=C8) hgi;have o1:=a0p x (hx.m rfl);rw [show decide x.F7=C8 x from rfl] at o1;generalize C8 x=q1 at *;simp only [rc,sb] at o1;(repeat first|refine uA ?_|(apply uK;· omega)|simp (disch:=omega) only [go_sem,Nat.reduceBEq,hgi,c8s,c8r,rcs,sb,c8u]|(apply uD o1;exact tz hw;rfl));refine S.cond rfl (fun hc2=>?_) (fun hc2=>?_)
  ·rw [hg,hs,show q1=false by simpa using hc2,Bool.false_and];(repeat first|refine uA ?_|(apply uK;· omega)|simp (disch:=omega) only [go_sem]);exact uS rfl rfl
  ·(repeat first|refine uA ?_|(apply uK;· omega)|simp (disch:=omega) only [go_sem,Nat.reduceBEq,ww]);refine S.next (i+1) ⟨by omega,by rw [hg,hs,show q1=true by simpa using hc2,Bool.true_and]⟩ (by omega) (by repeat first|refine uA ?_|(refine ⟨?_,?_⟩;· first|rfl|simp [slot])|rfl|simp)
 ·rw [hg,a6i (by omega)];(repeat first|refine uA ?_|(apply uK;· omega)|simp (disch:=omega) only [go_sem]);exact uS rfl rfl
theorem okF_eq (f:Fr):okF f=([f.x,f.y,f.t].all j5 && !a3w f.half f.t):=by
 rw [a5I,a0g (a:=f.x),a0g (a:=f.y),a0g (a:=f.t)];unfold okF okV;simp only;generalize a3w f.half f.t=z;cases decide f.x.F7<;>cases decide f.y.F7<;>cases decide f.t.F7<;>cases j5 f.x<;>cases j5 f.y<;>cases j5 f.t<;>cases z<;>rfl
theorem b3s (v:Vt):okV v=[v.x,v.y].all j5:=by
 rw [a6o,a0g (a:=v.x),a0g (a:=v.y)];unfold okV;cases decide v.x.F7<;>cases decide v.y.F7<;>cases j5 v.x<;>cases j5 v.y<;>rfl
theorem b4P (f:Fr) (hf:Fb 17179869184 f):FZ 131 [f.c] (.v (.bool (okF f))):=by
 refine kW Tryz.func131 (by cbv) (by rfl) fun w O hw=>?_;rw [okF_eq];obtain ⟨x,y,half,t⟩:=f;obtain ⟨b1,b2,b3⟩:=hf;simp only at b1 b2 b3;have h1:=a5c _ (Rbs.three (by decide) b1 b2 b3);have h4:=M8 t b3;unfold a3w;simp only;generalize [x,y,t].all j5=q1 at *;generalize q8 (Nm.d9 t)=n at *;simp only [j4,TT,II,OA,OC,MM,LL,FF,MG,LG,VG,FG];simp only [Fr.c,Fr.enc,rts,rcs,rc,sb,ints,c8K,c8O] at *
 (repeat first|refine uA ?_|(apply uK;· first|omega|(intros;simp_all<;>omega))|simp (disch:=omega) only [go_sem,Nat.reduceBEq,Nat.reduceAdd]|(apply uD h4;exact tz hw;rfl)|(apply uE h1;exact tz hw;exact rfl;focus (repeat' first|exact j3.nil|exact Imp.refl rfl|exact Imp.frz rfl rfl rfl|(refine Imp.K5 rfl rfl ?_ ?_;(focus ((try simp only [c8A]);omega));(focus first|rfl|assumption))|refine j3.cons ?_ ?_);done));exact uQ rfl (Imp.refl (by rfl)) rfl rfl
theorem b4A (l:List Vt) (hl:Vbs 1073741824 l):FZ 130 [vts l] (ints (P9 l)):=by
 refine kW Tryz.func130 (by cbv) (by rfl) fun w O hw=>?_;have h1:=a5W l hl;obtain ⟨hn,hb⟩:=hl;unfold P9;generalize J8 l 8=e at *;simp only [j4,TT,II,OA,OB,MM,LL,FF];simp only [vts,ints] at *;(repeat first|refine uA ?_|(apply uK;· omega)|simp (disch:=omega) only [go_sem,Nat.reduceBEq]|(apply uD h1;exact tz hw;rfl));refine S.cond rfl (fun hc=>?_) (fun hc=>?_)
 ·rw [if_pos (by simpa using hc)];(repeat first|refine uA ?_|(apply uK;· omega)|simp (disch:=omega) only [go_sem,Nat.reduceBEq]);exact uS rfl rfl
 rw [if_neg (by simpa using hc)];(repeat first|refine uA ?_|(apply uK;· omega)|simp (disch:=omega) only [go_sem,Nat.reduceBEq,c8r]);refine S.loop (X:=Nat) (fun i=>⟨[(11,vts l),(12,ints l.length),(13,ints i)],[]⟩) (fun i=>i<=l.length/\l.all okV=(l.drop i).all okV) (fun i=>l.length-i) 0 ⟨c8w _,rfl⟩ (by repeat first|refine uA ?_|(refine ⟨?_,?_⟩;· first|rfl|simp [slot])|rfl|simp) ?_;rintro i ⟨hi,hg⟩;simp only [vts,ints] at hi ⊢;(repeat first|refine uA ?_|(apply uK;· omega)|simp (disch:=omega) only [go_sem,Nat.reduceBEq]);(refine uJ rfl (fun hc=>?_) fun hc=>?_)
 ·have hgi:=c8q (show i < l.length by omega);generalize l[i]'(_)=v at hgi;have hv:=hb v (c8t hgi);have hs:=a5a (f:=okV) hgi;rw [b3s] at hs;have o1:=a5c _ (Rbs.two (by decide) (hv.1.mono (m:=17179869184) (by decide)) (hv.2.mono (m:=17179869184) (by decide)));generalize [v.x,v.y].all j5=q at *;simp only [rts,rcs,sb,c8K,c8O] at o1
  (repeat first|refine uA ?_|(apply uK;· first|omega|(intros;simp_all<;>omega))|simp (disch:=omega) only [go_sem,Nat.reduceBEq,Nat.reduceAdd,hgi,c8s,c8r,Vt.enc,sb,c8u]|(apply uE o1;exact tz hw;exact rfl;focus (repeat' first|exact j3.nil|exact Imp.refl rfl|exact Imp.frz rfl rfl rfl|(refine Imp.K5 rfl rfl ?_ ?_;(focus ((try simp only [c8A,hgi,c8s,c8r,Vt.enc,sb,c8u]);omega));(focus first|rfl|assumption))|refine j3.cons ?_ ?_);done));refine S.cond rfl (fun hc2=>?_) (fun hc2=>?_)
  ·rw [hg,hs,show q=false by simpa using hc2,Bool.false_and,if_neg (by decide)];(repeat first|refine uA ?_|(apply uK;· omega)|simp (disch:=omega) only [go_sem]);exact uS rfl rfl
  ·(repeat first|refine uA ?_|(apply uK;· omega)|simp (disch:=omega) only [go_sem,Nat.reduceBEq,ww]);refine S.next (i+1) ⟨by omega,by rw [hg,hs,show q=true by simpa using hc2,Bool.true_and]⟩ (by omega) (by repeat first|refine uA ?_|(refine ⟨?_,?_⟩;· first|rfl|simp [slot])|rfl|simp)
 ·rw [hg,a6i (by omega),if_pos rfl];(repeat first|refine uA ?_|(apply uK;· omega)|simp (disch:=omega) only [go_sem]);exact uS rfl rfl
end Go.Proofs.YtpnbklgbfhgknaaGreatDoor
namespace Go.Proofs.YtpnbklgbfhgknaaGreatDoor.Eng
open Go Go.RowKit
theorem l7.b7v {E:Ctx} {rs rs':List Res} {pk:List Nat} (ex:List Res) {f:Nat} {args:List C} {s:C} (h:l7 E rs f args s rs' pk) (hl:rs'.length=rs.length) (hb:rs.all (Res.bdr rs.length)=true) (ha:C.bdL rs.length args=true):l7 E (rs++ex) f args s (rs'++ex.map (Res.y8 pk)) pk:=by
 intro av ν w vs hR hav hF hD;have hlen:=hR.len;have hl1:(ν.take rs.length).length=rs.length:=by rw [c8E,hlen,c8A];omega
 generalize hν1:ν.take rs.length=ν1 at hl1;have hown:=fun b=>a4j hlen b;rw [hν1] at hown;have hx:∀ b k r x,ex[k]?=some r->ν[rs.length+k]?=some x->fp r x b->¬ owned rs ν1 b:=by
  rintro b k r x h1 h2 h3 ⟨l,q,y,g1,g2,g3⟩;have hlt:=(c8v.1 g1).1;rw [<- hν1] at g2;exact hR.dis l (rs.length+k) q r y x b (by omega) (by rw [c8H hlt];exact g1) (by rw [c8M (by omega),show rs.length+k-rs.length=k by omega];exact h1) (Z5 g2) h2 g3 h3
 let av':Nat->Prop:=fun b=>OO av (rs++ex) ν b/\¬ owned rs ν1 b
 have hOO:∀ b,OO av' rs ν1 b->OO av (rs++ex) ν b:=fun b hb=>by
  rcases hb with hb|hb
  ·exact hb.1
  ·exact .inr ((hown b).2 (.inl hb))
 have hRG:RG av' E.own0 E.w0.heap.size ν1 rs w:=by
  refine ⟨hl1,fun k r hk=>?_,fun l m q q' y y' b hne h1 h2 h3 h4=>?_,fun b hb=>?_,fun b hb=>?_,hR.n0⟩
  ·have hlt:=(c8v.1 hk).1;obtain ⟨x,hx,hok⟩:=hR.res k r (by rw [c8H hlt];exact hk);refine ⟨x,by rw [<- hν1];exact L9 hlt hx,?_⟩;rw [<- hν1];rw [List.all_eq_true] at hb;exact b8Z (hb r (c8t hk)) (by rw [hν1];exact hOO) hok
  ·have g1:=(c8v.1 h1).1;have g2:=(c8v.1 h2).1;rw [<- hν1] at h3 h4;exact hR.dis l m q q' y y' b hne (by rw [c8H g1];exact h1) (by rw [c8H g2];exact h2) (Z5 h3) (Z5 h4)
  ·obtain ⟨g1,g2,g3⟩:=hR.low b ((hown b).2 (.inl hb));exact ⟨g1,fun h=>h.2 hb,g3⟩
  ·rcases hb.1 with h1|h1
   ·exact hR.av b h1
   ·exact (hR.low b h1).1
 have hnav:∀ b,av b->¬ owned rs ν1 b:=fun b hb ho=>(hR.low b ((hown b).2 (.inl ho))).2.1 hb;have hD':j6 ν1 w (OO av' rs ν1) args vs:=by
  have:=j6.keep (Keeps.sub hOO) (j6.takeν rs.length ha hD);rwa [hν1] at this
 refine (h av' ν1 w vs hRG (fun b hb=>⟨.inl (hav b hb),hnav b (hav b hb)⟩) hF hD').mono ?_;rintro e w' ⟨y,ν',rfl,h1,h2,h3⟩;have hl':ν'.length=rs.length:=by rw [h1.len,hl]
 let ν2:List Value:=ν'++ν.drop rs.length
 have hdl:(ν.drop rs.length).length=ex.length:=by rw [c9g,hlen,c8A];omega
 have hlen':ν2.length=(rs'++ex.map (Res.y8 pk)).length:=by rw [c8A,c8A,hl',hdl,hl,c8r]
 have tk:ν2.take rs'.length=ν':=by rw [hl,<- hl'];simp [ν2]
 have tl:∀ k,ν2[rs.length+k]?=ν[rs.length+k]?:=fun k=>by
  show (ν'++ν.drop rs.length)[rs.length+k]?=_;rw [c8M (by omega),hl',show rs.length+k-rs.length=k by omega,c9e]
 have hown':=fun b=>a4j hlen' b;rw [tk,hl] at hown';have hnu:Y5 [] ν' ν2:=fun k x _ hx=>by show (ν'++_)[k]?=_;rw [c8H (c8v.1 hx).1];exact hx
 have hnu2:Y5 pk ν ν2:=fun k x hk hx=>by
  rcases c8N k rs.length with h0|h0
  ·show (ν'++_)[k]?=_;rw [c8H (by omega)];exact h2.nu k x hk (by rw [<- hν1];exact L9 h0 hx)
  ·have:=tl (k-rs.length);rw [show rs.length+(k-rs.length)=k by omega] at this;rw [this];exact hx
 have hxo:∀ b k r x,ex[k]?=some r->ν[rs.length+k]?=some x->fp r x b->owned (rs++ex) ν b:=fun b k r x g1 g2 g3=>(hown b).2 (.inr ⟨k,r,x,g1,g2,g3⟩);have hex:∀ b,(∃ k r x,(ex.map (Res.y8 pk))[k]?=some r/\ν2[rs.length+k]?=some x/\fp r x b)->∃ k r x,ex[k]?=some r/\ν[rs.length+k]?=some x/\fp r x b:=by
  rintro b ⟨k,r,x,g1,g2,g3⟩;rw [c8x] at g1;cases hk:ex[k]? with
  | none=>rw [hk] at g1;cases g1
  | some r0=>
   rw [hk] at g1;simp only [c8s,Option.some.injEq] at g1;subst g1;rw [a1s] at g3;exact ⟨k,r0,x,hk,by rw [<- tl];exact g2,g3⟩
 have hOO':∀ b,OO av (rs'++ex.map (Res.y8 pk)) ν2 b->OO av' rs' ν' b:=fun b hb=>by
  rcases hb with hb|hb
  ·exact .inl ⟨.inl hb,hnav b hb⟩
  ·rcases (hown' b).1 hb with hb|hb
   ·exact .inr hb
   ·obtain ⟨k,r,x,g1,g2,g3⟩:=hex b hb;exact .inl ⟨.inr (hxo b k r x g1 g2 g3),hx b k r x g1 g2 g3⟩
 have hM:Mv (rs++ex) ν w pk (rs'++ex.map (Res.y8 pk)) ν2 w':=by
  refine ⟨h2.os,h2.tape,h2.output,h2.size,fun b hb hn=>h2.block b hb fun ho=>hn ((hown b).2 (.inl ho)),fun b hb=>?_,hnu2⟩;rcases (hown' b).1 hb with hb|hb
  ·rcases h2.own b hb with g|g
   ·exact .inl ((hown b).2 (.inl g))
   ·exact .inr g
  ·obtain ⟨k,r,x,g1,g2,g3⟩:=hex b hb;exact .inl (hxo b k r x g1 g2 g3)
 have old:∀ {l q z},l < rs'.length->(rs'++ex.map (Res.y8 pk))[l]?=some q->ν2[l]?=some z->rs'[l]?=some q/\ν'[l]?=some z:=fun hlt a1 a2=>by
  rw [c8H hlt] at a1;exact ⟨a1,by rw [<- tk];exact L9 hlt a2⟩
 have new:∀ {l q z b},rs'.length<=l->(rs'++ex.map (Res.y8 pk))[l]?=some q->ν2[l]?=some z->fp q z b->∃ q0,ex[l-rs'.length]?=some q0/\ν[rs.length+(l-rs'.length)]?=some z/\fp q0 z b:=fun {l q z b} hge a1 a2 a3=>by
  rw [c8M hge,c8x] at a1;cases hk:ex[l-rs'.length]? with
  | none=>rw [hk] at a1;cases a1
  | some q0=>
   rw [hk] at a1;simp only [c8s,Option.some.injEq] at a1;subst a1;rw [a1s] at a3;refine ⟨q0,rfl,?_,a3⟩;rw [<- tl,show rs.length+(l-rs'.length)=l by omega];exact a2
 refine ⟨y,ν2,rfl,⟨hlen',fun k r hk=>?_,fun l m q q' z z' b hne g1 g2 g3 g4 g5 g6=>?_,fun b hb=>?_,fun b hb=>c8U (hR.av b hb) h2.size,c8y hR.n0 h2.size⟩,hM,Den.keep (Keeps.sub hOO') (Den.nu hnu (fun k hk=>by cases hk) h3)⟩
 ·rcases c8N k rs'.length with hlt|hge
  ·rw [c8H hlt] at hk;obtain ⟨x,hx',hok⟩:=h1.res k r hk;exact ⟨x,hnu k x (fun hk=>by cases hk) hx',c2V hnu hOO' hok⟩
  ·rw [c8M hge,c8x] at hk;cases hk0:ex[k-rs'.length]? with
   | none=>rw [hk0] at hk;cases hk
   | some r0=>
    rw [hk0] at hk;simp only [c8s,Option.some.injEq] at hk;subst hk;have hk':(rs++ex)[k]?=some r0:=by rw [c8M (by omega),<- hl];exact hk0
    obtain ⟨x,hx',hok⟩:=hR.res k r0 hk';have hx2:ν[rs.length+(k-rs'.length)]?=some x:=by rw [show rs.length+(k-rs'.length)=k by omega];exact hx'
    refine ⟨x,by have:=tl (k-rs'.length);rw [show rs.length+(k-rs'.length)=k by omega] at this;rw [this];exact hx',?_⟩;exact hok.mv (O':=OO av (rs'++ex.map (Res.y8 pk)) ν2) (hM.keeps (av:=av)) hM.nu (fun b hf=>h2.block b (hR.lt hk' hx' hf) (hx b (k-rs'.length) r0 x hk0 hx2 hf))
 ·rcases c8N l rs'.length with hl2|hl2<;>rcases c8N m rs'.length with hm2|hm2
  ·obtain ⟨a1,a2⟩:=old hl2 g1 g3;obtain ⟨a3,a4⟩:=old hm2 g2 g4;exact h1.dis l m q q' z z' b hne a1 a3 a2 a4 g5 g6
  ·obtain ⟨a1,a2⟩:=old hl2 g1 g3;obtain ⟨q0,a3,a4,a5⟩:=new hm2 g2 g4 g6;rcases h2.own b ⟨l,q,z,a1,a2,g5⟩ with ho|ho
   ·exact hx b _ q0 z' a3 a4 a5 ho
   ·have:=(hR.low b (hxo b _ q0 z' a3 a4 a5)).1;omega
  ·obtain ⟨q0,a1,a2,a5⟩:=new hl2 g1 g3 g5;obtain ⟨a3,a4⟩:=old hm2 g2 g4;rcases h2.own b ⟨m,q',z',a3,a4,g6⟩ with ho|ho
   ·exact hx b _ q0 z a1 a2 a5 ho
   ·have:=(hR.low b (hxo b _ q0 z a1 a2 a5)).1;omega
  ·obtain ⟨q0,a1,a2,a5⟩:=new hl2 g1 g3 g5;obtain ⟨q1,a3,a4,a6⟩:=new hm2 g2 g4 g6;rw [show rs.length+(l-rs'.length)=l by omega] at a2;rw [show rs.length+(m-rs'.length)=m by omega] at a4;exact hR.dis l m q0 q1 z z' b hne (by rw [c8M (by omega),<- hl];exact a1) (by rw [c8M (by omega),<- hl];exact a3) a2 a4 a5 a6
 ·rcases (hown' b).1 hb with hb|hb
  ·obtain ⟨a1,a2,a3⟩:=h1.low b hb;exact ⟨a1,fun ha=>a2 ⟨.inl ha,hnav b ha⟩,a3⟩
  ·obtain ⟨k,r,x,g1,g2,g3⟩:=hex b hb;obtain ⟨a1,a2,a3⟩:=hR.low b (hxo b k r x g1 g2 g3);exact ⟨c8U a1 h2.size,a2,a3⟩
theorem l7.quiet {P:Program} {f:Nat} {args:List C} {s s':C} {rs':List Res} (h:∀ E:Ctx,E.P=P->l7 E [] f args s rs' []) (hi:Imp rs' [] s s') (hc:s'.cl=true):u7 P f args s':=by
 intro O w vs hO hA;have ho0:∀ b,¬ owned [] [] b:=fun b ⟨k,r,x,hk,_⟩=>by simp at hk
 have hRG:RG O (fun _=>False) w.heap.size [] [] w:=⟨rfl,fun k r hk=>by simp at hk,fun k l r r' x x' b _ hk=>by simp at hk,fun b hb=>(ho0 b hb).elim,hO,c8B _⟩
 have hsub:∀ b,OO O [] [] b->O b:=fun b hb=>hb.elim id fun h=>(ho0 b h).elim;refine (h ⟨P,fun _=>false,0,w,fun _=>False,O,[],[]⟩ rfl O [] w vs hRG (fun b hb=>hb) ⟨rfl,rfl,rfl,c8B _,fun _ _ _=>rfl⟩ ((FzL.keep (Keeps.sub hsub) hA).den [])).mono ?_;rintro e w' ⟨y,ν',rfl,h1,h2,h3⟩;have hC:Cut O rs' [] ν':=Cut.of h1 (by simp [U1]);have h4:=hi O (fun _=>False) w.heap.size ν' w' y h1 hC h3;exact ⟨y,rfl,⟨h2.os,h2.tape,h2.output,h2.size,fun b hb=>h2.block b hb (ho0 b)⟩,Fz.keep (Keeps.sub fun b hb=>.inl hb) (Den.fz hc h4)⟩
end Go.Proofs.YtpnbklgbfhgknaaGreatDoor.Eng
namespace Go.Proofs.YtpnbklgbfhgknaaGreatDoor
open Go Go.RowKit Eng
set_option maxRecDepth 10000
set_option maxHeartbeats 16000000
def nmR (n:Nms):List (List C):=n.map fun s=>[sb s]
theorem c6z (n:Nms) (s:List UInt8) (hn:n.length<=1099511627776):u7 Tryz.prog 176 [.sl 1 (nmR n),sb s] (ints (a0f (fun x=>decide (s=x)) n)):=by
 refine kS Tryz.func176 (by cbv) (by rfl) fun w O=>?_;simp only [j4,TT,II,OA,MM,VV,nmR,sb];(repeat first|refine uA ?_|(apply uK;· omega)|simp (disch:=omega) only [go_sem,Nat.reduceBEq,c8r]);refine S.loop (X:=Nat) (fun i=>⟨[(0,.sl 1 (nmR n)),(1,sb s),(7,ints n.length),(8,ints i)],[]⟩) (fun i=>i<=n.length/\∀ j,j < i->∀ x,n[j]?=some x->decide (s=x)=false) (fun i=>n.length-i) 0 ⟨c8w _,fun _ h=>absurd h (Nat.not_lt_zero _)⟩ (by simp only [nmR,sb];exact (by repeat first|refine uA ?_|(refine ⟨?_,?_⟩;· first|rfl|simp [slot])|rfl|simp)) ?_;rintro i ⟨hi,hm⟩;simp only [nmR,sb,ints];(repeat first|refine uA ?_|(apply uK;· omega)|simp (disch:=omega) only [go_sem,Nat.reduceBEq])
 (refine uJ rfl (fun hc=>?_) fun hc=>?_)
 ·have hgi:=c8q (show i < n.length by omega);generalize n[i]'(_)=x at hgi;(repeat first|refine uA ?_|(apply uK;· omega)|simp (disch:=omega) only [go_sem,Nat.reduceBEq,hgi,c8s,c8r,c8u,b2E]);refine S.cond rfl (fun hc2=>?_) (fun hc2=>?_)
  ·rw [a0W (p:=fun x=>decide (s=x)) hgi hc2 hm];(repeat first|refine uA ?_|(apply uK;· omega)|simp (disch:=omega) only [go_sem,Nat.reduceBEq]);exact uS rfl rfl
  ·(repeat first|refine uA ?_|(apply uK;· omega)|simp (disch:=omega) only [go_sem,Nat.reduceBEq,ww]);refine S.next (i+1) ⟨by omega,fun j hj y hy=>?_⟩ (by omega) (by repeat first|refine uA ?_|(refine ⟨?_,?_⟩;· first|rfl|simp [slot])|rfl|simp);rcases c8N j i with h1|h1
   ·exact hm j h1 y hy
   ·have:j=i:=by omega
    subst this;rw [hgi] at hy;cases hy;exact hc2
 ·have hi':i=n.length:=by omega
  subst hi';rw [a0k hm];(repeat first|refine uA ?_|(apply uK;· omega)|simp (disch:=omega) only [go_sem]);exact uS rfl rfl
theorem c4p (n:Nms) (s:List UInt8):n.any (fun x=>decide (s=x))=n.contains s:=by
 rw [Bool.eq_iff_iff,List.any_eq_true,List.contains_iff_mem];exact ⟨fun ⟨x,h1,h2⟩=>by rw [of_decide_eq_true h2];exact h1,fun h=>⟨s,h,by simp⟩⟩
theorem c6m (n:Nms) (s:List UInt8) (hn:n.length<=1099511627776):u7 Tryz.prog 129 [.sl 1 (nmR n),sb s] (.v (.bool (n.contains s))):=by
 refine kS Tryz.func129 (by cbv) (by rfl) fun w O=>?_;have h:=c6z n s hn;rw [<- c4p,<- a1E];generalize a0f (fun x=>decide (s=x)) n=k at *;simp only [j4,TT,II,OA,MM];simp only [sb,ints] at *;(repeat first|refine uA ?_|(apply uK;· first|omega|(intros;simp_all<;>omega))|simp (disch:=omega) only [go_sem,Nat.reduceBEq,Nat.reduceAdd]|(apply uB h;exact rfl));exact uS rfl rfl
def rsR (w:Wk) (n:Nms):List Res:=[.box 30 w.enc,.box 137 [.rv 2],.row 9 1 (nmR n)]
theorem c4f {E:Ctx} (hP:E.P=Tryz.prog) (w:Wk) (n:Nms) (s:List UInt8) (hs:s.length<=1099511627776) (hn:n.length<=1000000) :
  l7 E (rsR w n) 127 [sb s,.bp 1 0] (ints (N7 n s).1) (rsR w (N7 n s).2) [2]:=by
 obtain ⟨P,eff',N,w0,own0,av0,nu0,pk0⟩:=E;simp only at hP;subst hP;refine l7.of (eff:=eff) Tryz.func127 (by cbv) (by exact c8G rfl) fun w' own av ν hν=>?_;have hν0:ν.length<=3:=by rw [hν];exact c8B _
 have h1:=c4D s hs;have h2:=c6m n s (by omega);have hap:nmR (n++[s])=nmR n++[[sb s]]:=by simp [nmR]
 unfold N7;generalize a1h s=q at *;generalize n.contains s=c at *;have hl:(nmR n).length=n.length:=by simp [nmR]
 obtain ⟨arms,walls,parts,slots,gates,walk⟩:=w;simp only [j4,TT,II,OA,OB,MM,VV];simp only [rsR,Wk.enc,ams,wls,pts,sls,gts,sb,ints] at h1 h2 hap ⊢;(repeat first|refine uA ?_|(apply uK;· first|omega|(intros;simp_all<;>omega))|simp (disch:=omega) only [go_sem,Nat.reduceBEq,Nat.reduceAdd]|(refine uB h1 ?_ ?_;rfl));refine S.cond rfl (fun hc=>?_) (fun hc=>?_)
 ·rw [if_pos (by simpa using hc)];(repeat first|refine uA ?_|(apply uK;· first|omega|(intros;simp_all<;>omega))|simp (disch:=omega) only [go_sem]);(refine S.done ?_;simp only [D6,go_sem,Nat.reduceBEq];(repeat (refine ⟨?_,?_⟩;· first|trivial|omega|simp));exact p8.P6 (Imp.refl rfl) (by repeat first|refine uA ?_|(refine ⟨?_,?_⟩;· first|rfl|simp [slot])|rfl|simp) (c8y hν0 (by simp)))
 rw [if_neg (by simpa using hc)];(repeat first|refine uA ?_|(apply uK;· first|omega|(intros;simp_all<;>omega))|simp (disch:=omega) only [go_sem,Nat.reduceBEq]|(refine uC h2 ?_ ?_ ?_;exact rfl;focus (repeat' first|exact j3.nil|exact Imp.refl rfl|exact Imp.frz rfl rfl rfl|(refine Imp.K5 rfl rfl ?_ ?_;(focus ((try simp only [c8A]);omega));(focus first|rfl|assumption))|refine j3.cons ?_ ?_);done));refine S.cond rfl (fun hc=>?_) (fun hc=>?_)
 ·rw [if_pos hc];(repeat first|refine uA ?_|(apply uK;· first|omega|(intros;simp_all<;>omega))|simp (disch:=omega) only [go_sem]);(refine S.done ?_;simp only [D6,go_sem,Nat.reduceBEq];(repeat (refine ⟨?_,?_⟩;· first|trivial|omega|simp));exact p8.P6 (Imp.refl rfl) (by repeat first|refine uA ?_|(refine ⟨?_,?_⟩;· first|rfl|simp [slot])|rfl|simp) (c8y hν0 (by simp)))
 ·rw [if_neg (by rw [hc];decide)];simp only [hap];(repeat first|refine uA ?_|(apply uK;· first|omega|(intros;simp_all<;>omega))|simp (disch:=omega) only [go_sem,Nat.reduceBEq,Nat.reduceAdd,hl]);(refine S.done ?_;simp only [D6,go_sem,Nat.reduceBEq];(repeat (refine ⟨?_,?_⟩;· first|trivial|omega|simp));exact p8.P6 (Imp.refl rfl) (by repeat first|refine uA ?_|(refine ⟨?_,?_⟩;· first|rfl|simp [slot])|rfl|simp) (c8y hν0 (by simp)))
theorem a6I (n:Nms) (s:List UInt8):(N7 n s).2.length<=n.length+1:=by
 unfold N7;split
 ·simp
 ·split
  ·simp
  ·simp
theorem b5I (p q:Rat):decide (Nm.l8 p q=1)=!decide (Nm.l8 p q<=0):=by
 have h:-1<=Nm.l8 p q/\Nm.l8 p q<=1:=by
  unfold Nm.l8
  repeat' split
  all_goals first
   | omega
   | (have:=b0f (p.num.natAbs*q.den) (q.num.natAbs*p.den);omega)
 by_cases h1:Nm.l8 p q<=0
 ·rw [decide_eq_true h1,decide_eq_false (by omega)];rfl
 ·rw [decide_eq_false h1,decide_eq_true (by omega)];rfl
theorem b2M (q:Rat):-1<=q8 q/\q8 q<=1:=by unfold q8;split;omega;split<;>omega
theorem sign_one (q:Rat):decide (q8 q < 1)=!decide (0 < q8 q):=by
 rw [<- decide_not];apply decide_eq_decide.2;omega
theorem b8F (q:Rat):decide (q8 q=-1)=!decide (0<=q8 q):=by
 have:=b2M q;rw [<- decide_not];apply decide_eq_decide.2;omega
open Go Eng
set_option maxRecDepth 100000
def dX (t f g:Fr):Rat:=Nm.d9 t.x-c5n f ⟨g.x,g.y⟩
def dY (t f g:Fr):Rat:=Nm.d9 t.y-c5I f ⟨g.x,g.y⟩
def c5s (t f g:Fr):Prop:=0 < Nm.l8 (q9 (dX t f g)) (1 / 8) \/ 0 < Nm.l8 (q9 (dY t f g)) (1 / 8)
instance (t f g:Fr):Decidable (c5s t f g):=by unfold c5s;infer_instance
set_option maxHeartbeats 4000000
set_option maxHeartbeats 16000000
set_option maxRecDepth 10000
set_option maxHeartbeats 8000000
def a7N (l:List UInt8) (i:Nat) (out:List UInt8):Prop:=
 out.length=l.length/\∀ k,k < l.length->out[k]?=if k < i \/ l.length-i<=k then l[l.length-1-k]? else l[k]?
theorem b5d (l:List UInt8):a7N l 0 l:=⟨rfl,fun k hk=>by rw [if_neg (by omega)]⟩
theorem b5z {l out:List UInt8} {i:Nat} {x y:UInt8} (h:a7N l i out) (hi:i+1 < l.length-i) (hx:out[i]?=some x) (hy:out[l.length-1-i]?=some y):a7N l (i+1) ((out.set i y).set (l.length-1-i) x):=by
 obtain ⟨h1,h2⟩:=h;have e1:=h2 i (by omega);have e2:=h2 (l.length-1-i) (by omega);rw [if_neg (by omega),hx] at e1;rw [if_neg (by omega),hy] at e2;refine ⟨by simp [h1],fun k hk=>?_⟩;by_cases k1:k=l.length-1-i
 ·subst k1;rw [List.getElem?_set_self (by simp;omega),if_pos (by omega),e1];congr 1;omega
 ·rw [List.getElem?_set_ne (fun e=>k1 e.symm)];by_cases k2:k=i
  ·subst k2;rw [List.getElem?_set_self (by omega),if_pos (by omega),e2]
  ·rw [List.getElem?_set_ne (fun e=>k2 e.symm),h2 k hk];by_cases k3:k < i \/ l.length-i<=k
   ·rw [if_pos k3,if_pos (by omega)]
   ·rw [if_neg k3,if_neg (by omega)]
theorem b7Y {l out:List UInt8} {i:Nat} (h:a7N l i out) (hi:l.length-i<=i+1):out=l.reverse:=by
 obtain ⟨h1,h2⟩:=h;apply List.ext_getElem?;intro k;rcases c8N k l.length with hk|hk
 ·rw [h2 k hk,List.getElem?_reverse hk];by_cases k3:k < i \/ l.length-i<=k
  ·rw [if_pos k3]
  ·rw [if_neg k3,show l.length-1-k=k by omega]
 ·rw [c8W (by omega),c8W (by simp;omega)]
theorem c7i {E:Ctx} (hP:E.P=Tryz.prog) (l:List UInt8) (hl:l.length<=1099511627776):l7 E [.row 5 1 (l.map I6)] 143 [.rv 0] (.tup []) [.row 5 1 (l.reverse.map I6)] []:=by
 obtain ⟨P,eff',N,w0,own0,av0,nu0,pk0⟩:=E;simp only at hP;subst hP;refine l7.of (eff:=eff) Tryz.func143 (by cbv) (by exact c8G rfl) fun w own av ν hν=>?_;have hν0:ν.length<=1:=by rw [hν];exact c8B _
 simp only [j4,TT,II,OA,OB,MM,VV];(repeat first|refine uA ?_|(apply uK;· omega)|simp (disch:=omega) only [go_sem,Nat.reduceBEq,ww,c8r]);refine S.loop (X:=Nat × List UInt8) (fun x=>⟨[(0,.rv 0),(2,ints x.1),(3,ints ((l.length:Int)-1-(x.1:Int)))],[.row 5 1 (x.2.map I6)]⟩) (fun x=>x.1<=l.length/\a7N l x.1 x.2) (fun x=>l.length-x.1) (0,l) ⟨c8w _,b5d l⟩ (by simp only [Int.natCast_zero,Int.sub_zero];exact (by repeat first|refine uA ?_|(refine ⟨?_,?_⟩;· first|rfl|simp [slot])|rfl|simp|exact c8y hν0 (by simp))) ?_;rintro ⟨i,out⟩ ⟨hi,hinv⟩;simp only [ints] at hi hinv ⊢;have hol:=hinv.1;(repeat first|refine uA ?_|(apply uK;· omega)|simp (disch:=omega) only [go_sem,Nat.reduceBEq])
 (refine uJ rfl (fun hc=>?_) fun hc=>?_)
 ·have gi:out[i]?=some (out[i]'(by omega)):=c8q (by omega);have gj:out[l.length-1-i]?=some (out[l.length-1-i]'(by omega)):=c8q (by omega);have hst:=b5z hinv (by omega) gi gj;have hsk:l.length-1-i ≠ i:=by omega
  generalize out[i]'_=xi at *;generalize out[l.length-1-i]'_=xj at *;have gj2:(out.set i xj)[l.length-1-i]?=some xj:=by rw [List.getElem?_set_ne (Ne.symm hsk)];exact gj
  have n0:((l.length:Int)-1-(i:Int)).toNat=l.length-1-i:=by omega
  have e1:(out.map I6).set i [.v (.int .u8 ((xj.toNat:Nat):Int))]=(out.set i xj).map I6:=a7X out i xj;have e2:((out.set i xj).map I6).set (l.length-1-i) [.v (.int .u8 ((xi.toNat:Nat):Int))]=((out.set i xj).set (l.length-1-i) xi).map I6:=a7X _ _ _;have hr:(l.length:Int)-1-((i+1:Nat):Int)=(l.length:Int)-1-(i:Int)-1:=by omega
  (repeat first|refine uA ?_|(apply uK;· omega)|simp (disch:=omega) only [go_sem,Nat.reduceBEq,ww,c8r,gi,gj,gj2,n0,e1,e2,I6,c8s,c8u,c9h]);refine S.next (x:=(i,out)) (i+1,_) ⟨by simp only;omega,hst⟩ (by simp only;omega) (by simp only [hr];exact (by repeat first|refine uA ?_|(refine ⟨?_,?_⟩;· first|rfl|simp [slot])|rfl|simp|exact c8y hν0 (by simp)))
 ·have:=b7Y hinv (by omega);subst this;(repeat first|refine uA ?_|(apply uK;· omega)|simp (disch:=omega) only [go_sem,Nat.reduceBEq,ww]);exact S.end_ (p8.own rfl)
theorem b4T (n:Nat) (hn:n < 4611686018427387904):u7 Tryz.prog 78 [.v (.int .i64 (n:Int))] (sb (Nm.enc n)):=by
 refine kS Tryz.func78 (by cbv) (by rfl) fun w O=>?_;have h8:(Nm.enc n).length<=8:=Nm.H6 (by omega);simp only [j4,TT,II,OA,MM,sb];(repeat first|refine uA ?_|(apply uK;· omega)|simp (disch:=omega) only [go_sem]);refine S.loop (X:=Nat × List UInt8) (fun x=>⟨[(0,ints x.1),(3,.rv 0)],[.row 5 1 (x.2.map I6)]⟩) (fun x=>x.1<=n/\Nm.enc x.1++x.2.reverse=Nm.enc n) (fun x=>x.1) (n,[]) ⟨c8B _,by simp⟩ (Ent.trans (Ent.pack 3 5 1 rfl) (by repeat first|refine uA ?_|(refine ⟨?_,?_⟩;· first|rfl|simp [slot])|rfl|simp)) ?_;rintro ⟨m,out⟩ ⟨hm,hinv⟩;simp only [ints] at hm hinv ⊢;have hol:out.length<=8:=by
  have:=congrArg List.length hinv;simp only [c8A,List.length_reverse] at this;omega
 (repeat first|refine uA ?_|(apply uK;· omega)|simp (disch:=omega) only [go_sem,Nat.reduceBEq]);(refine uJ rfl (fun hc=>?_) fun hc=>?_)
 ·have he:Nm.enc m=Nm.enc (m / 256)++[UInt8.ofNat (m % 256)]:=by
   conv=>lhs;unfold Nm.enc
   rw [if_neg (by omega)]
  have hb:(UInt8.ofNat (m % 256)).toNat=m % 256:=by simp
  have h1:IntKind.u8.wrap (Int.tmod (m:Int) 256)=(((UInt8.ofNat (m % 256)).toNat:Nat):Int):=by
   rw [hb,show Int.tmod (m:Int) 256=((m % 256:Nat):Int) from rfl,a2C];omega
  have h2:Int.tdiv (m:Int) 256=((m / 256:Nat):Int):=rfl;have hap:Nm.enc (m / 256)++(out++[UInt8.ofNat (m % 256)]).reverse=Nm.enc n:=by
   rw [List.reverse_append,<- hinv,he];simp
  generalize UInt8.ofNat (m % 256)=b at *;(repeat first|refine uA ?_|(apply uK;· first|omega|(intros;simp_all<;>omega))|simp (disch:=omega) only [go_sem,Nat.reduceBEq,Nat.reduceAdd,ww,c8r,h1,h2]);refine S.next (x:=(m,out)) (m / 256,out++[b]) ⟨by simp only;omega,hap⟩ (by simp only;omega) (by simp only [c9i,c8K,c8O,I6];exact (by repeat first|refine uA ?_|(refine ⟨?_,?_⟩;· first|rfl|simp [slot])|rfl|simp))
 ·have h0:m=0:=by omega
  subst h0;rw [Nm.a1r,List.nil_append] at hinv;have hr:=fun (E:Ctx) (hP:E.P=Tryz.prog)=>c7i hP out (by omega);rw [hinv] at hr;(repeat first|refine uA ?_|(apply uK;· omega)|simp (disch:=omega) only [go_sem,Nat.reduceBEq,a0I,a6T]|refine l9.t (l7.lift (k:=0) rfl (hr _ rfl) rfl rfl rfl) ?_);exact uS rfl rfl
theorem c1f (a b:Nat) (h:0 < b):Nat.gcd b (a % b)=Nat.gcd a b:=by
 rw [Nat.gcd_comm b,<- Nat.gcd_rec,Nat.gcd_comm]
theorem a3Z (n d:Int) (hn:-1099511627776<=n/\n<=1099511627776) (hd:1<=d/\d<=1099511627776):u7 Tryz.prog 23 [ints n,ints d] (rc (Q n d)):=by
 refine kS Tryz.func23 (by cbv) (by rfl) fun w O=>?_;obtain ⟨m,rfl⟩:∃ m:Nat,d=m:=⟨d.toNat,by omega⟩
 have hq:Q n m=Nm.ofQ (mkRat (Nm.sgn (decide (n < 0)) n.natAbs) m):=by
  unfold Q;have:Nm.sgn (decide (n < 0)) n.natAbs=n:=by unfold Nm.sgn;by_cases h:n < 0<;>simp [h]<;>omega
  rw [this,c8u]
 rw [hq,<- Nm.b1b _ (by omega)];have hmx:(if n < -n then -n else n)=((n.natAbs:Nat):Int):=by split<;>omega
 have hwn:IntKind.i64.wrap (0-n)=-n:=by rw [Eng.wrap_i64 (by omega)];omega
 have hgp:0 < Nat.gcd n.natAbs m:=Nat.gcd_pos_of_pos_right _ (by omega);simp only [j4,TT,II,OA,OB,MM,ints];(repeat first|refine uA ?_|(apply uK;· first|omega|(intros;simp_all<;>omega))|simp (disch:=omega) only [go_sem,Nat.reduceBEq,Nat.reduceAdd,hwn,hmx]);refine S.loop (X:=Nat × Nat) (fun x=>⟨[(0,ints n),(1,ints m),(4,.bp 0 0),(5,ints x.1),(6,ints x.2)],[.box 28 [.v (.bool false),.v (.string ⟨#[]⟩),.v (.string ⟨#[]⟩)]]⟩) (fun x=>Nat.gcd x.1 x.2=Nat.gcd n.natAbs m/\x.1<=1099511627776/\x.2<=1099511627776) (fun x=>x.2) (n.natAbs,m) ⟨rfl,by omega,by omega⟩ (by repeat first|refine uA ?_|(refine ⟨?_,?_⟩;· first|rfl|simp [slot])|rfl|simp) ?_;rintro ⟨a,b⟩ ⟨hg,ha,hb⟩;simp only [ints] at hg ha hb ⊢
 (repeat first|refine uA ?_|(apply uK;· first|omega|(intros;simp_all<;>omega))|simp (disch:=omega) only [go_sem,Nat.reduceBEq]);(refine uJ rfl (fun hc=>?_) fun hc=>?_)
 ·have h1:Int.tmod (a:Int) (b:Int)=((a % b:Nat):Int):=rfl;have hlt:a % b < b:=Nat.mod_lt _ (by omega);have hb0:¬ ((b:Int)=0):=by omega
  (repeat first|refine uA ?_|(apply uK;· first|omega|(intros;simp_all<;>omega))|simp (disch:=omega) only [go_sem,Nat.reduceBEq,h1]);refine S.next (x:=(a,b)) (b,a % b) ⟨by simp only;rw [c1f a b (by omega)];exact hg,by simp only;omega,by simp only;omega⟩ (by simp only;omega) (by repeat first|refine uA ?_|(refine ⟨?_,?_⟩;· first|rfl|simp [slot])|rfl|simp)
 ·have hb0:b=0:=by omega
  subst hb0;rw [Nat.gcd_zero_right] at hg;subst hg;have ha0:¬ (((Nat.gcd n.natAbs m:Nat):Int)=0):=by omega
  generalize hgg:Nat.gcd n.natAbs m=g at *;have hdvn:g ∣ n.natAbs:=by rw [<- hgg];exact Nat.gcd_dvd_left ..
  have e2:Int.tdiv (m:Int) (g:Int)=((m / g:Nat):Int):=rfl;obtain ⟨k,hk⟩:=hdvn;have hkq:n.natAbs / g=k:=by rw [hk];exact Nat.mul_div_cancel_left _ hgp
  have e1:Int.tdiv n (g:Int)=Nm.sgn (decide (n < 0)) k:=by
   have h3:(n:Int)=(g:Int)*Nm.sgn (decide (n < 0)) k:=by
    have h4:((n.natAbs:Nat):Int)=(g:Int)*(k:Int):=by rw [hk];simp
    unfold Nm.sgn;by_cases h:n < 0
    ·simp only [h,decide_true,if_true,Int.mul_neg];omega
    ·simp only [h,decide_false,c9d,if_false];omega
   rw [show Int.tdiv n (g:Int)=Int.tdiv ((g:Int)*Nm.sgn (decide (n < 0)) k) (g:Int) from congrArg (fun z=>Int.tdiv z (g:Int)) h3];exact Int.mul_tdiv_cancel_left _ (by omega)
  have hkb:k<=1099511627776:=by
   have:k<=g*k:=Nat.le_mul_of_pos_left k hgp;omega
  have hmb:m / g<=m:=Nat.div_le_self _ _;have hs:-1099511627776<=Nm.sgn (decide (n < 0)) k/\Nm.sgn (decide (n < 0)) k<=1099511627776:=by unfold Nm.sgn;split<;>omega
  have hneg:decide (Nm.sgn (decide (n < 0)) k < 0)=(decide (n < 0) && !decide (k=0)):=by
   unfold Nm.sgn;by_cases h:n < 0
   ·by_cases h0:k=0
    ·subst h0;simp [h]
    ·simp [h,h0];try omega
   ·simp [h];try omega
  have hab:(if Nm.sgn (decide (n < 0)) k < -(Nm.sgn (decide (n < 0)) k) then -(Nm.sgn (decide (n < 0)) k) else Nm.sgn (decide (n < 0)) k)=((k:Nat):Int):=by unfold Nm.sgn;split<;>split<;>omega
  have hws:IntKind.i64.wrap (0-Nm.sgn (decide (n < 0)) k)=-(Nm.sgn (decide (n < 0)) k):=by rw [Eng.wrap_i64 (by omega)];omega
  have hwm:IntKind.i64.wrap ((m / g:Nat):Int)=((m / g:Nat):Int):=by
   generalize m / g=z at *;exact Eng.wrap_i64 (by omega)
  have d1:=b4T k (by omega);have d2:=b4T (m / g) (by omega);have hres:(if n.natAbs=0 then Nm.a3P else ⟨decide (n < 0),Nm.enc (n.natAbs / g),Nm.enc (m / g)⟩:Nm.Rt)=⟨decide (n < 0) && !decide (k=0),Nm.enc k,Nm.enc (m / g)⟩:=by
   rw [hkq];by_cases h0:n.natAbs=0
   ·have hn0:n=0:=by omega
    subst hn0;have hk0:k=0:=by
     rcases c8Q k with h|h
     ·exact h
     ·have:=Nat.mul_pos hgp h;omega
    have hgm:g=m:=by rw [<- hgg];simp
    subst hk0;have h1:m / g=1:=by rw [hgm];exact Nat.div_self (by omega)
    rw [h1,Nm.O9,Nm.a1r];rfl
   ·have hk0:k ≠ 0:=by intro h;subst h;omega
    rw [if_neg h0];simp [hk0]
  rw [hres];rw [<- hneg];simp only [rc,sb] at d1 d2 ⊢;generalize Nm.sgn (decide (n < 0)) k=s at *;(repeat first|refine uA ?_|(apply uK;· first|omega|(intros;simp_all<;>omega))|simp (disch:=omega) only [go_sem,Nat.reduceBEq,Nat.reduceAdd,ww,e1,e2,hws,hab,hwm]|(refine uB d1 ?_ ?_;rfl)|(refine uB d2 ?_ ?_;rfl));exact uS rfl rfl
theorem a8e (x y:Int) (hx:-1000000<=x/\x<=1000000) (hy:-1000000<=y/\y<=1000000):u7 Tryz.prog 76 [ints x,ints y] (atV x y).c:=by
 refine kS Tryz.func76 (by cbv) (by rfl) fun w O=>?_;have h1:=a3Z x 4 (by omega) (by omega);have h2:=a3Z y 4 (by omega) (by omega);unfold atV;generalize Q x 4=qx at *;generalize Q y 4=qy at *;simp only [j4,TT,II,OA,OB,MM];simp only [rc,sb,ints,Vt.c,Vt.enc] at *;(repeat first|refine uA ?_|(apply uK;· first|omega|(intros;simp_all<;>omega))|simp (disch:=omega) only [go_sem,Nat.reduceBEq,Nat.reduceAdd]|(apply uB h1;exact rfl)|(apply uB h2;exact rfl));exact uS rfl rfl
theorem c6B (x y u v:Int) (hx:-100000<=x/\x<=100000) (hy:-100000<=y/\y<=100000) (hu:-100000<=u/\u<=100000) (hv:-100000<=v/\v<=100000):u7 Tryz.prog 74 [ints x,ints y,ints u,ints v] (vts (b2C x y u v)):=by
 refine kS Tryz.func74 (by cbv) (by rfl) fun w O=>?_;have h1:=a8e x y (by omega) (by omega);have h2:=a8e u y (by omega) (by omega);have h3:=a8e u v (by omega) (by omega);have h4:=a8e x v (by omega) (by omega);unfold b2C;generalize atV x y=p1 at *;generalize atV u y=p2 at *;generalize atV u v=p3 at *;generalize atV x v=p4 at *;simp only [j4,TT,OA,MM];simp only [vts,Vt.c,Vt.enc,sb,ints] at *;(repeat first|refine uA ?_|(apply uK;· first|omega|(intros;simp_all<;>omega))|simp (disch:=omega) only [go_sem,Nat.reduceBEq,Nat.reduceAdd]|(apply uB h1;exact rfl)|(apply uB h2;exact rfl)|(apply uB h3;exact rfl)|(apply uB h4;exact rfl));exact uQ rfl (Imp.frz rfl rfl rfl) rfl rfl
set_option maxRecDepth 100000
set_option maxHeartbeats 16000000
theorem c2t (n:Nat) (h:n<=3):([[C.v (.string ⟨#[111,110,101]⟩)],[C.v (.string ⟨#[116,119,111]⟩)],[C.v (.string ⟨#[116,104,114,101,101]⟩)],[C.v (.string ⟨#[102,111,117,114]⟩)]]:List (List C))[n]?=some [C.v (.string (bs (c1G n)))]:=by
 match n,h with
 | 0,_=>rfl
 | 1,_=>rfl
 | 2,_=>rfl
 | 3,_=>rfl
theorem c5b (k:Int) (h0:0<=k) (h1:k < 4):([[C.v (.int .i64 0)],[C.v (.int .i64 1)],[C.v (.int .i64 (-1))],[C.v (.int .i64 1)]]:List (List C))[k.toNat]?=some [C.v (.int .i64 (a7e k))]:=by
 have:k=0 \/ k=1 \/ k=2 \/ k=3:=by omega
 rcases this with rfl|rfl|rfl|rfl<;>rfl
theorem b9s (k:Int):-1<=a7e k/\a7e k<=1:=by unfold a7e;split;omega;split<;>omega
theorem c6X {E:Ctx} (hP:E.P=Tryz.prog) (l:List Int) (n:Nat) (hn:n<=3) :
  l7 E [.box 133 [O7 l]] 73 [.bp 0 0,.v (.int .i64 (n:Int))] (b3M l n).c [.box 133 [O7 (a9k l)]] []:=by
 obtain ⟨P,eff',N,w0,own0,av0,nu0,pk0⟩:=E;simp only at hP;subst hP;refine l7.of (eff:=eff) Tryz.func73 (by cbv) (by exact c8G rfl) fun w own av ν hν=>?_;have hν0:ν.length<=1:=by rw [hν];exact c8B _
 have hnm:=c2t n hn;have h1:=a8e (40*(n:Int)) 0 (by omega) (by omega);have k1:=fun (E:Ctx) (hP:E.P=Tryz.prog)=>a1G hP l 4 (by decide);have k2:=fun (E:Ctx) (hP:E.P=Tryz.prog)=>a1G hP (l.drop 1) 3 (by decide);have k3:=fun (E:Ctx) (hP:E.P=Tryz.prog)=>a1G hP (l.drop 2) 3 (by decide);have a1:=a0S l (n:=4) (by decide);have a2:=a4C l (n:=4) (by decide);have a3:=a0S (l.drop 1) (n:=3) (by decide);have a4:=a4C (l.drop 1) (n:=3) (by decide);have a5:=a0S (l.drop 2) (n:=3) (by decide);have a6:=a4C (l.drop 2) (n:=3) (by decide);have htn:=c5b (nx l 4) a1 a2;have htr:=b9s (nx l 4);have h2:=a3Z (a7e (nx l 4)) (1+nx (l.drop 1) 3) (by omega) (by omega);rw [List.drop_drop] at k2 k3
 have hc:((a7h l:Nat):Int)=1+nx (l.drop 2) 3:=by unfold a7h;omega
 have hc3:a7h l<=3:=by omega
 have hR:a9k l=(l.drop 3).drop (6*a7h l):=by unfold a9k;rw [List.drop_drop]
 unfold b3M;rw [hR];generalize a7h l=c at *;generalize l.drop 3=l0 at *;unfold atV at h1;generalize Q (40*(n:Int)) 4=q1 at *;generalize Q 0 4=q2 at *;generalize a7e (nx l 4)=tn at *;generalize Q tn (1+nx (l.drop 1) 3)=q3 at *;generalize nx l 4=x1 at *;generalize nx (l.drop 1) 3=x2 at *;generalize nx (l.drop 2) 3=x3 at *;generalize c1G n=nm at *;simp only [j4,TT,II,OA,OB,MM,LL,VV,FF];simp only [Am.c,Am.enc,Vt.c,Vt.enc,rc,O7,sb,ints,lks] at h1 h2 k1 k2 k3 ⊢
 (repeat first|refine uA ?_|(apply uK;· first|omega|trivial|(intros;simp_all<;>omega))|simp (disch:=omega) only [go_sem,Nat.reduceBEq,Nat.reduceAdd,Nat.reduceLeDiff,ww,hnm,htn,c8u]|refine l9.t (l7.lift (k:=0) rfl (k1 _ rfl) rfl rfl rfl) ?_|refine l9.t (l7.lift (k:=0) rfl (k2 _ rfl) rfl rfl rfl) ?_|(refine uB h1 ?_ ?_;rfl)|(refine uB h2 ?_ ?_;rfl));(repeat first|refine uA ?_|(apply uK;· first|omega|trivial|(intros;simp_all<;>omega))|simp (disch:=omega) only [go_sem,Nat.reduceBEq,ww]|refine l9.t (l7.lift (k:=0) rfl (k3 _ rfl) rfl rfl rfl) ?_);rw [<- hc]
 refine S.loop (X:=Nat × List Lk × List Int) (fun x=>⟨[(0,.bp 0 0),(4,.bp 1 0),(5,.bp 3 0),(30,ints c),(31,ints x.1)],[.box 133 [O7 x.2.2],.box 80 [.v (.string ⟨#[]⟩),.v (.bool false),.v (.string ⟨#[]⟩),.v (.string ⟨#[]⟩),.v (.bool false),.v (.string ⟨#[]⟩),.v (.string ⟨#[]⟩),.v (.bool false),.v (.bool false),.v (.string ⟨#[]⟩),.v (.string ⟨#[]⟩),.v (.slice none 0 0)],.gone,.box 80 [.v (.string (bs nm)),.v (.bool q1.neg),.v (.string (bs q1.num)),.v (.string (bs q1.den)),.v (.bool q2.neg),.v (.string (bs q2.num)),.v (.string (bs q2.den)),.v (.bool false),.v (.bool q3.neg),.v (.string (bs q3.num)),.v (.string (bs q3.den)),.rv 4],.row 95 16 (x.2.1.map Lk.enc)]⟩)
  (fun x=>x.1<=c/\x.2.1.length=x.1/\x.2.1++a6j (c-x.1) x.2.2=a6j c l0/\x.2.2.drop (6*(c-x.1))=l0.drop (6*c)) (fun x=>c-x.1) (0,[],l0) ⟨c8w _,rfl,rfl,rfl⟩ (Ent.trans (Ent.a6S 3 11 95 16 rfl rfl rfl) (by repeat first|refine uA ?_|(refine ⟨?_,?_⟩;· first|rfl|trivial|(simp [slot];done))|rfl|trivial|simp|exact c8y hν0 (by simp))) ?_
 rintro ⟨i,ls,m⟩ ⟨hi,hls,hL,hM⟩;simp only [ints,O7] at hi hls hL hM ⊢;(repeat first|refine uA ?_|(apply uK;· first|omega|trivial|(intros;simp_all<;>omega))|simp (disch:=omega) only [go_sem,Nat.reduceBEq]);(refine uJ rfl (fun hc=>?_) fun hc=>?_)
 ·have hi':c-i=(c-i-1)+1:=by omega
  have n0:=fun (E:Ctx) (hP:E.P=Tryz.prog)=>a1G hP (m.drop 0) 4 (by decide);have a0:=a0S (m.drop 0) (n:=4) (by decide);have b0:=a4C (m.drop 0) (n:=4) (by decide);have n1:=fun (E:Ctx) (hP:E.P=Tryz.prog)=>a1G hP (m.drop 1) 6 (by decide);have a1:=a0S (m.drop 1) (n:=6) (by decide);have b1:=a4C (m.drop 1) (n:=6) (by decide);have n2:=fun (E:Ctx) (hP:E.P=Tryz.prog)=>a1G hP (m.drop 2) 6 (by decide);have a2:=a0S (m.drop 2) (n:=6) (by decide);have b2:=a4C (m.drop 2) (n:=6) (by decide);have n3:=fun (E:Ctx) (hP:E.P=Tryz.prog)=>a1G hP (m.drop 3) 8 (by decide);have a3:=a0S (m.drop 3) (n:=8) (by decide);have b3:=a4C (m.drop 3) (n:=8) (by decide)
  have n4:=fun (E:Ctx) (hP:E.P=Tryz.prog)=>a1G hP (m.drop 4) 20 (by decide);have a4:=a0S (m.drop 4) (n:=20) (by decide);have b4:=a4C (m.drop 4) (n:=20) (by decide);have n5:=fun (E:Ctx) (hP:E.P=Tryz.prog)=>a1G hP (m.drop 5) 3 (by decide);have a5:=a0S (m.drop 5) (n:=3) (by decide);have b5:=a4C (m.drop 5) (n:=3) (by decide);rw [hi',a6j] at hL;have hM2:(m.drop 6).drop (6*(c-(i+1)))=l0.drop (6*c):=by rw [List.drop_drop,<- hM];congr 1;omega
  rw [show c-i-1=c-(i+1) by omega] at hL;simp only [List.drop_drop,List.drop_zero] at n0 n1 n2 n3 n4 n5 a0 b0;unfold c3e c3j at hL;have o1:=a3Z (4+2*nx m 4) 4 (by omega) (by omega);have o2:=a3Z (-1-nx (m.drop 1) 6) 3 (by omega) (by omega);have o3:=a3Z (1+nx (m.drop 2) 6) 3 (by omega) (by omega);have o4:=a3Z 1 (4+nx (m.drop 3) 8) (by omega) (by omega);have o5:=a3Z 1 (10+nx (m.drop 4) 20) (by omega) (by omega);have o6:=c6B (-1) (-1) (4+2*nx m 4+1) 1 (by omega) (by omega) (by omega) (by omega);have o7:=a8e (-1) (-1) (by omega) (by omega);have o8:=a8e (4+2*nx m 4+1) 0 (by omega) (by omega);have o9:=a8e (-1) 1 (by omega) (by omega);generalize Q (4+2*nx m 4) 4=p1 at *
  generalize Q (-1-nx (m.drop 1) 6) 3=p2 at *;generalize Q (1+nx (m.drop 2) 6) 3=p3 at *;generalize Q 1 (4+nx (m.drop 3) 8)=p4 at *;generalize Q 1 (10+nx (m.drop 4) 20)=p5 at *;generalize b2C (-1) (-1) (4+2*nx m 4+1) 1=r6 at *;generalize atV (-1) (-1)=v7 at *;generalize atV (4+2*nx m 4+1) 0=v8 at *;generalize atV (-1) 1=v9 at *;generalize nx m 4=y0 at *;generalize nx (m.drop 1) 6=y1 at *;generalize nx (m.drop 2) 6=y2 at *;generalize nx (m.drop 3) 8=y3 at *;generalize nx (m.drop 4) 20=y4 at *;generalize nx (m.drop 5) 3=y5 at *;simp only [O7,ints,rc,sb,vts,Vt.c,Vt.enc] at n0 n1 n2 n3 n4 n5 o1 o2 o3 o4 o5 o6 o7 o8 o9
  (repeat first|refine uA ?_|(apply uK;· first|omega|trivial|(intros;simp_all<;>omega))|simp (disch:=omega) only [go_sem,Nat.reduceBEq,Nat.reduceAdd,Nat.reduceLeDiff,ww]|refine l9.t (l7.lift (k:=0) rfl (n0 _ rfl) rfl rfl rfl) ?_|refine l9.t (l7.lift (k:=0) rfl (n1 _ rfl) rfl rfl rfl) ?_|refine l9.t (l7.lift (k:=0) rfl (n2 _ rfl) rfl rfl rfl) ?_|refine l9.t (l7.lift (k:=0) rfl (n3 _ rfl) rfl rfl rfl) ?_|refine l9.t (l7.lift (k:=0) rfl (n4 _ rfl) rfl rfl rfl) ?_|refine l9.t (l7.lift (k:=0) rfl (n5 _ rfl) rfl rfl rfl) ?_|(refine uB o1 ?_ ?_;rfl)|(refine uB o2 ?_ ?_;rfl)|(refine uB o3 ?_ ?_;rfl)|(refine uB o4 ?_ ?_;rfl)|(refine uB o5 ?_ ?_;rfl)|(refine uB o6 ?_ ?_;rfl))
  refine S.join (Y:=List Vt) (fun sh=>⟨[(0,.bp 0 0),(4,.bp 1 0),(5,.bp 3 0),(7,.bp 5 0),(30,ints c),(31,ints i)],[.box 133 [O7 (m.drop 6)],.box 80 [.v (.string ⟨#[]⟩),.v (.bool false),.v (.string ⟨#[]⟩),.v (.string ⟨#[]⟩),.v (.bool false),.v (.string ⟨#[]⟩),.v (.string ⟨#[]⟩),.v (.bool false),.v (.bool false),.v (.string ⟨#[]⟩),.v (.string ⟨#[]⟩),.v (.slice none 0 0)],.gone,.box 80 [.v (.string (bs nm)),.v (.bool q1.neg),.v (.string (bs q1.num)),.v (.string (bs q1.den)),.v (.bool q2.neg),.v (.string (bs q2.num)),.v (.string (bs q2.den)),.v (.bool false),.v (.bool q3.neg),.v (.string (bs q3.num)),.v (.string (bs q3.den)),.rv 4],.row 95 16 (ls.map Lk.enc),.box 95 (Lk.enc ⟨p1,p2,p3,p4,p5,sh⟩)]⟩) (fun sh=>sh=if y5=2 then [v7,v8,v9] else r6) ?_ ?_
  ·refine S.cond rfl (fun hc=>?_) (fun hc=>?_)
   ·(repeat first|refine uA ?_|(apply uK;· first|omega|trivial|(intros;simp_all<;>omega))|simp (disch:=omega) only [go_sem,Nat.reduceBEq,Nat.reduceAdd,Nat.reduceLeDiff,ww]|(refine uB o7 ?_ ?_;rfl)|(refine uB o8 ?_ ?_;rfl)|(refine uB o9 ?_ ?_;rfl))
    exact S.met [v7,v8,v9] (by simp at hc;rw [if_pos hc]) (Ent.mk _ _ (by (repeat' (first|exact R3.nil|exact Imp.junk|exact Imp.refl rfl|exact Imp.eq (by simp [slot];done) rfl|refine R3.cons ?_ ?_))) (by (repeat' (first|exact D9.nil|exact RI.gone _|exact RI.row _ _ _ _ rfl|exact RI.map _ _ _ rfl|exact RI.box _ _ _ (j3.refl rfl)|(refine RI.box _ _ _ ?_;(repeat' (first|exact j3.nil|exact Imp.refl rfl|exact Imp.frz rfl rfl rfl|exact Imp.I9|refine j3.cons ?_ ?_)))|refine D9.cons ?_ ?_))) (c8y hν0 (by simp)))
   ·(repeat first|refine uA ?_|(apply uK;· first|omega|trivial|(intros;simp_all<;>omega))|simp (disch:=omega) only [go_sem]);exact S.met r6 (by simp at hc;rw [if_neg hc]) (by repeat first|refine uA ?_|(refine ⟨?_,?_⟩;· first|rfl|trivial|(simp [slot];done))|rfl|trivial|simp|exact c8y hν0 (by simp))
  rintro sh hsh;rw [<- hsh] at hL;simp only [O7,ints,Lk.enc,vts];(repeat first|refine uA ?_|(apply uK;· first|omega|trivial|(intros;simp_all<;>omega))|simp (disch:=omega) only [go_sem,Nat.reduceBEq,Nat.reduceAdd,Nat.reduceLeDiff,ww,c8r,hls]);refine S.next (x:=(i,ls,m)) (i+1,ls++[⟨p1,p2,p3,p4,p5,sh⟩],m.drop 6) ⟨by simp only;omega,by simp [hls],by simp only;rw [c9j];exact hL,by simp only;exact hM2⟩ (by simp only;omega) (by simp only [c9i,c8K,c8O];exact (by repeat first|refine uA ?_|(refine ⟨?_,?_⟩;· first|rfl|trivial|(simp [slot];done))|rfl|trivial|simp|exact c8y hν0 (by simp)))
 ·have hi':i=c:=by omega
  subst hi';rw [Nat.sub_self,a6j,List.append_nil] at hL;rw [Nat.sub_self,Nat.mul_zero,List.drop_zero] at hM;subst hL;subst hM;(repeat first|refine uA ?_|(apply uK;· first|omega|trivial|(intros;simp_all<;>omega))|simp (disch:=omega) only [go_sem,Nat.reduceBEq,Nat.reduceAdd,Nat.reduceLeDiff]);exact uR rfl (Imp.agg (by (repeat' (first|exact j3.nil|exact Imp.refl rfl|exact Imp.frz rfl rfl rfl|exact Imp.I9|refine j3.cons ?_ ?_)))) (by repeat first|refine uA ?_|(refine ⟨?_,?_⟩;· first|rfl|trivial|(simp [slot];done))|rfl|trivial|simp) (c8y hν0 (by simp))
set_option maxHeartbeats 32000000
theorem c6c {w:World} {O:Nat->Prop} {sz:Nat}:Fz w O (.sl sz []) (.slice none 0 0):=by
 simp only [Fz];exact ⟨none,0,rfl,c8B _,c8w _,fun h=>absurd h (by simp)⟩
set_option maxHeartbeats 16000000
theorem l7.b7h {E:Ctx} {rs rs2 rs':List Res} {f:Nat} {args args':List C} {s:C} {pk:List Nat} (h:l7 E rs2 f args' s rs' pk) (hi:j3 rs rs2 args args') (hrs:D9 rs rs2 rs2 rs) (hlen:rs2.length=rs.length):l7 E rs f args s rs' pk:=by
 intro av ν w vs hR hav hF hD;have hk:=a2c hrs;have hD':=hi.den hR (Cut.of hR hk) hD;have et:ν.take rs2.length=ν:=by rw [hlen,<- hR.len];exact c8J
 rw [et] at hD';have hR2:=hR.weak hrs;rw [et] at hR2;refine (h av ν w vs hR2 hav hF hD').mono ?_;rintro e w' ⟨y,ν',rfl,h1,h2,h3⟩;exact ⟨y,ν',rfl,h1,⟨h2.os,h2.tape,h2.output,h2.size,fun b hb hn=>h2.block b hb (fun ho=>hn (a3i hk ho)),fun b hb=>(h2.own b hb).imp (a3i hk) id,h2.nu⟩,h3⟩
theorem c1C {α:Type} {l m:List α} {i:Nat} {y:α} (hl:l.length=m.length) (hy:m[i]?=some y):(l.take i++m.drop i)[i]?=some y:=by
 have hi:=(c8v.1 hy).1;have h1:(l.take i).length=i:=by rw [c8E];omega
 rw [c8M (by omega),h1,Nat.sub_self,c9e,Nat.add_zero,hy]
set_option maxHeartbeats 4000000
structure Run (a:Am) (q0 u:List Nm.Rt) (j:Nat) (y:Ast):Prop where
 q:y.q.length=a.links.length
 v:y.v.length=a.links.length
 pos:∀ (i:Nat) (l:Lk) (b c q v:Nm.Rt),a.links[i]?=some l->q0[i]?=some b->u[i]?=some c->y.q[i]?=some q->y.v[i]?=some v->c7W b c l.brake j q v
def J2 (z:List (Lk × Nm.Rt)):Int:=z.foldl (fun m z=>max m (r9 (Nm.d9 z.1.brake) (Nm.d9 z.2))) 0
theorem b3I {α:Type} {f:α->Int}:∀ (l:List α) (m:Int),m<=l.foldl (fun m z=>max m (f z)) m/\∀ z ∈ l,f z<=l.foldl (fun m z=>max m (f z)) m
 | [],m=>⟨Int.le_refl _,fun z hz=>by cases hz⟩
 | x::l,m=>by
  obtain ⟨h1,h2⟩:=b3I (f:=f) l (max m (f x));rw [List.foldl_cons];refine ⟨by omega,fun z hz=>?_⟩;rcases List.mem_cons.1 hz with rfl|hz
  ·omega
  ·exact h2 z hz
theorem a2M (z:List (Lk × Nm.Rt)):0<=J2 z:=(b3I (f:=fun z:Lk × Nm.Rt=>r9 (Nm.d9 z.1.brake) (Nm.d9 z.2)) z 0).1
set_option maxHeartbeats 8000000
def b0E (l:Lk) (q u:Nm.Rt):Sn:=snQ (loQ q u l.brake) (hiQ q u l.brake)
def N9 (L:List Lk) (q u:List Nm.Rt):List Sn:=(L.zip (q.zip u)).map fun z=>b0E z.1 z.2.1 z.2.2
theorem b2f {L:List Lk} {t v:List Nm.Rt} {i:Nat} {l:Lk} {x y:Nm.Rt} (h1:L[i]?=some l) (h2:t[i]?=some x) (h3:v[i]?=some y):(N9 L t v)[i]?=some (b0E l x y):=by
 unfold N9;rw [c8x,J5 h1 (J5 h2 h3)];rfl
theorem a5N {L:List Lk} {t v:List Nm.Rt} (h1:t.length=L.length) (h2:v.length=L.length):(N9 L t v).length=L.length:=by
 unfold N9;simp only [c8r,List.length_zip];omega
def toL (q u:List Nm.Rt):List Nm.Rt:=(q.zip u).map fun z=>a1R z.1 z.2
theorem b8R {q u:List Nm.Rt} {i:Nat} {x y:Nm.Rt} (h2:q[i]?=some x) (h3:u[i]?=some y):(toL q u)[i]?=some (a1R x y):=by
 unfold toL;rw [c8x,J5 h2 h3];rfl
theorem b9Y {q u:List Nm.Rt} (h:u.length=q.length):(toL q u).length=q.length:=by
 unfold toL;simp only [c8r,List.length_zip];omega
theorem a9e {z:List (Lk × Nm.Rt)} {i:Nat} {x:Lk × Nm.Rt} (h:z[i]?=some x):J2 (z.take (i+1))=if J2 (z.take i) < r9 (Nm.d9 x.1.brake) (Nm.d9 x.2) then r9 (Nm.d9 x.1.brake) (Nm.d9 x.2) else J2 (z.take i):=by
 unfold J2;rw [take_at h,List.foldl_append,List.foldl_cons,List.foldl_nil];generalize List.foldl _ _ _=m;generalize r9 _ _=k;split<;>omega
theorem c4e (p q:Rat):u6 p q<=D8 p q:=by
 have h1:=(b0Q p q).1;have h2:=(a6z p q).1;grind
theorem a6h {k:Nat} {p q:Rat} (hp:Rb k (Nm.ofQ p)) (hq:Rb k (Nm.ofQ q)):Rb k (Nm.ofQ (u6 p q)):=by unfold u6;split;exact hp;exact hq
theorem a6w {k:Nat} {p q:Rat} (hp:Rb k (Nm.ofQ p)) (hq:Rb k (Nm.ofQ q)):Rb k (Nm.ofQ (D8 p q)):=by unfold D8;split;exact hp;exact hq
def a0P (L:List Lk) (q u:List Nm.Rt):List Sp:=(L.zip (q.zip u)).map fun z=>⟨loQ z.2.1 z.2.2 z.1.brake,hiQ z.2.1 z.2.2 z.1.brake⟩
theorem b1Q (L:List Lk) (q u:List Nm.Rt):(N9 L q u).map Sn.enc=(a0P L q u).map Sp.enc:=by
 unfold N9 a0P;rw [List.map_map,List.map_map];rfl
theorem b0D {L:List Lk} {t v:List Nm.Rt} (h1:t.length=L.length) (h2:v.length=L.length):(a0P L t v).length=L.length:=by
 unfold a0P;simp only [c8r,List.length_zip];omega
def a1P (a:Am) (q:List Sp):List Bq:=a3e (K9 (a0u a.base) (a.links.zip q)) a.links
theorem a9F {a:Am} {q:List Sp} (h:q.length=a.links.length):(a1P a q).length=a.links.length:=by
 unfold a1P a3e;rw [c8r,List.length_zip,a2r,List.length_zip];omega
theorem a8b (a b c d:Rat) (ha:Rb 1000000000 (Nm.ofQ a)) (hb:Rb 1000000000 (Nm.ofQ b)) (hc:Rb 1000000000 (Nm.ofQ c)) (hd:Rb 1000000000 (Nm.ofQ d)) :
  FZ 173 [vq a b,vq c d] (rq (a*c+b*d)):=by
 refine kW Tryz.func173 (by cbv) (by rfl) fun w O hw=>?_;have h1:=a1g a c (ha.m rfl) (hc.m rfl);have h2:=a1g b d (hb.m rfl) (hd.m rfl);have h3:=a1p (a*c) (b*d) ((y9 ha hc).m rfl) ((y9 hb hd).m rfl);unfold vq rq at *;generalize Nm.ofQ (a*c+b*d)=r3 at *;generalize Nm.ofQ (a*c)=r1 at *;generalize Nm.ofQ (b*d)=r2 at *;simp only [j4,TT,OA,OB,LL,FF];simp only [rc,vc,sb] at *;(repeat first|refine uA ?_|(apply uK;· first|omega|(intros;simp_all<;>omega))|simp (disch:=omega) only [go_sem,Nat.reduceBEq,Nat.reduceAdd]|(apply uD h1;exact tz hw;rfl)|(apply uD h2;exact tz hw;rfl)|(apply uD h3;exact tz hw;rfl));exact uS rfl rfl
theorem b3m (l:List Vt) (hl:Vbs 1073741824 l):FZ 172 [vts l] (ints (J8 l 64)):=by
 refine kW Tryz.func172 (by cbv) (by rfl) fun w O hw=>?_;have h:FZ 179 [vts l,ints 64] (ints (J8 l 64)):=b3T l 64 hl (by decide);generalize J8 l 64=e at *;simp only [j4,TT,II,OA,MM];simp only [vts,ints] at *;(repeat first|refine uA ?_|(apply uK;· omega)|simp (disch:=omega) only [go_sem,Nat.reduceBEq]|(apply uD h;exact tz hw;rfl));exact uS rfl rfl
def R9 (a b:List Vt):Int:=if J8 a 64=0 then J8 b 64 else J8 a 64
theorem c5U (a b:List Vt) (ha:Vbs 1073741824 a) (hb:Vbs 1073741824 b):FZ 118 [vts a,vts b] (ints (R9 a b)):=by
 refine kW Tryz.func118 (by cbv) (by rfl) fun w O hw=>?_;have h1:=b3m a ha;have h2:=b3m b hb;unfold R9;generalize J8 a 64=e1 at *;generalize J8 b 64=e2 at *;simp only [j4,TT,II,OA,MM];simp only [vts,ints] at *;(repeat first|refine uA ?_|(apply uK;· omega)|simp (disch:=omega) only [go_sem,Nat.reduceBEq]|(apply uD h1;exact tz hw;rfl));(refine uJ rfl (fun hc=>?_) fun hc=>?_)
 ·rw [if_neg (by omega)];(repeat first|refine uA ?_|(apply uK;· omega)|simp (disch:=omega) only [go_sem,Nat.reduceBEq]);exact uS rfl rfl
 ·rw [if_pos (by omega)];(repeat first|refine uA ?_|(apply uK;· first|omega|(intros;simp_all<;>omega))|simp (disch:=omega) only [go_sem,Nat.reduceBEq,Nat.reduceAdd]|(apply uD h2;exact tz hw;rfl));exact uS rfl rfl
def b7x (x y q:Vt):Int:=q8 ((Nm.d9 y.y-Nm.d9 x.y)*(Nm.d9 q.x-Nm.d9 x.x)+(-(Nm.d9 y.x-Nm.d9 x.x))*(Nm.d9 q.y-Nm.d9 x.y))
def a0J (a b:List Vt) (i:Nat):Bool:=b.all fun q=>decide (0 < b7x (a.getD i Vt.zero) (a.getD ((i+1) % a.length) Vt.zero) q)
def a0y (a b:List Vt):Bool:=(List.range a.length).any (a0J a b)
theorem b7D {a b:List Vt} {i:Nat} (hi:i < a.length) (h:a0J a b i=true):a0y a b=true:=List.any_eq_true.2 ⟨i,List.mem_range.2 hi,h⟩
theorem b5D {a b:List Vt} (h:∀ j,j < a.length->a0J a b j=false):a0y a b=false:=by
 unfold a0y;rw [List.any_eq_false];intro j hj;rw [h j (List.mem_range.1 hj)];decide
def b6X (x y:Vt):Vt:=⟨Nm.ofQ (Nm.d9 y.y-Nm.d9 x.y),Nm.ofQ (-(Nm.d9 y.x-Nm.d9 x.x))⟩
def a3L (a b:List Vt):Vt:=match (List.range a.length).find? (a0J a b) with
 | some i=>b6X (a.getD i Vt.zero) (a.getD ((i+1) % a.length) Vt.zero)
 | none=>Vt.zero
theorem b4Z {a b:List Vt} {i:Nat} {x y:Vt} (hx:a[i]?=some x) (hy:a[(i+1) % a.length]?=some y) (h:a0J a b i=true) (hm:∀ j,j < i->a0J a b j=false):a3L a b=b6X x y:=by
 have hi:=(c8v.1 hx).1;have:(List.range a.length).find? (a0J a b)=some i:=by
  rw [List.find?_eq_some_iff_getElem];exact ⟨h,i,by simpa using hi,by simp,fun j hj=>by simp [hm j hj]⟩
 unfold a3L;rw [this];simp only;rw [c8C,c8C,hx,hy];rfl
theorem b4d {a b:List Vt} (hm:∀ j,j < a.length->a0J a b j=false):a3L a b=Vt.zero:=by
 have:(List.range a.length).find? (a0J a b)=none:=List.find?_eq_none.2 fun j hj=>by simp [hm j (List.mem_range.1 hj)]
 unfold a3L;rw [this]
theorem b4H (a b:List Vt) (ha:Vbs 268435456 a) (hb:Vbs 268435456 b):FZ 119 [vts a,vts b] (.tup [(a3L a b).c,.v (.bool (a0y a b))]):=by
 refine kW Tryz.func119 (by cbv) (by rfl) fun w O hw=>?_;obtain ⟨an,ab⟩:=ha;obtain ⟨bn,bb⟩:=hb;simp only [j4,TT,II,OA,OB,OC,MM,LL,FF,LG];simp only [vts];(repeat first|refine uA ?_|(apply uK;· first|omega|(intros;simp_all<;>omega))|simp (disch:=omega) only [go_sem,Nat.reduceBEq,Nat.reduceAdd,c8r]);refine S.loop (X:=Nat) (fun i=>⟨[(0,vts a),(1,vts b),(4,.bp 0 0),(13,vts a),(14,ints a.length),(15,ints i)],[.box 73 [.v (.bool false),sb [],sb [],.v (.bool false),sb [],sb []]]⟩) (fun i=>i<=a.length/\∀ j,j < i->a0J a b j=false) (fun i=>a.length-i) 0 ⟨c8w _,fun _ h=>absurd h (Nat.not_lt_zero _)⟩ (by repeat first|refine uA ?_|(refine ⟨?_,?_⟩;· first|rfl|simp [slot])|rfl|simp) ?_;rintro i ⟨hi,hm⟩
 simp only [vts,ints,sb];(repeat first|refine uA ?_|(apply uK;· first|omega|(intros;simp_all<;>omega))|simp (disch:=omega) only [go_sem,Nat.reduceBEq]);(refine uJ rfl (fun hc=>?_) fun hc=>?_)
 ·have hi':i < a.length:=by omega
  have hylt:(i+1) % a.length < a.length:=Nat.mod_lt _ (by omega);have gx:=c8q hi';have gy:=c8q hylt;generalize a[i]=x at gx;generalize a[(i+1) % a.length]=y at gy;have haw:a0J a b i=b.all fun q=>decide (0 < b7x x y q):=by
   unfold a0J;rw [c8C,c8C,gx,gy];rfl
  have hV:=fun h=>b4Z (b:=b) gx gy h hm;unfold b6X at hV;have hx:=ab x (c8t gx);have hy:=ab y (c8t gy);have o1:=a2E y.x y.y x.x x.y (hy.1.m rfl) (hy.2.m rfl) (hx.1.m rfl) (hx.2.m rfl);have g1:=F9 (hy.1.g rfl) (hx.1.g rfl);have g2:=F9 (hy.2.g rfl) (hx.2.g rfl);have o2:=a4S (Nm.ofQ (Nm.d9 y.x-Nm.d9 x.x)) (g1.m rfl);have g3:=a0x g1;rw [Nm.l6] at o2;unfold b7x at haw;generalize Nm.d9 y.y-Nm.d9 x.y=n1 at *;generalize Nm.d9 y.x-Nm.d9 x.x=m1 at *;generalize -m1=n2 at *;simp only [vq,rq,rc,vc,sb] at o1 o2
  (repeat first|refine uA ?_|(apply uK;· first|omega|(intros;simp_all<;>omega))|simp (disch:=omega) only [go_sem,Nat.reduceBEq,Nat.reduceAdd,ww,gx,gy,c8s,tmod_one,c8r,c8x,Vt.enc,sb,c8u]|(refine uD o1 ?_ ?_ ?_;exact tz hw;rfl)|(refine uD o2 ?_ ?_ ?_;exact tz hw;rfl))
  refine S.loop (X:=Nat) (fun j=>⟨[(0,vts a),(1,vts b),(4,.bp 0 0),(7,.bp 1 0),(9,.bp 3 0),(10,.v (.bool ((b.take j).all fun q=>decide (0 < q8 (n1*(Nm.d9 q.x-Nm.d9 x.x)+n2*(Nm.d9 q.y-Nm.d9 x.y)))))),(13,vts a),(14,ints a.length),(15,ints i),(36,vts b),(37,ints b.length),(38,ints j)],[.box 73 [.v (.bool false),sb [],sb [],.v (.bool false),sb [],sb []],.box 73 x.enc,.gone,.box 73 (Vt.mk (Nm.ofQ n1) (Nm.ofQ n2)).enc]⟩) (fun j=>j<=b.length) (fun j=>b.length-j) 0 (c8w _) (by simp only [List.take_zero,List.all_nil,Vt.enc,sb];exact (by repeat first|refine uA ?_|(refine ⟨?_,?_⟩;· first|rfl|simp [slot])|rfl|simp)) ?_;intro j hj;clear o1 o2;simp only [vts,ints,Vt.enc,sb]
  (repeat first|refine uA ?_|(apply uK;· first|omega|(intros;simp_all<;>omega))|simp (disch:=omega) only [go_sem,Nat.reduceBEq]);(refine uJ rfl (fun hc=>?_) fun hc=>?_)
  ·have hj':j < b.length:=by omega
   have gq:=c8q hj';generalize b[j]=q at gq;have hq:=bb q (c8t gq);have o1:=a2E q.x q.y x.x x.y (hq.1.m rfl) (hq.2.m rfl) (hx.1.m rfl) (hx.2.m rfl);have k1:=F9 (hq.1.g rfl) (hx.1.g rfl);have k2:=F9 (hq.2.g rfl) (hx.2.g rfl);have hts:(b.take (j+1)).all (fun q=>decide (0 < q8 (n1*(Nm.d9 q.x-Nm.d9 x.x)+n2*(Nm.d9 q.y-Nm.d9 x.y))))=((b.take j).all (fun q=>decide (0 < q8 (n1*(Nm.d9 q.x-Nm.d9 x.x)+n2*(Nm.d9 q.y-Nm.d9 x.y)))) && decide (0 < q8 (n1*(Nm.d9 q.x-Nm.d9 x.x)+n2*(Nm.d9 q.y-Nm.d9 x.y)))):=by
    rw [List.take_add_one,gq,List.all_append];simp
   generalize hB1:(b.take (j+1)).all (fun q=>decide (0 < q8 (n1*(Nm.d9 q.x-Nm.d9 x.x)+n2*(Nm.d9 q.y-Nm.d9 x.y))))=B1 at *;generalize (b.take j).all (fun q=>decide (0 < q8 (n1*(Nm.d9 q.x-Nm.d9 x.x)+n2*(Nm.d9 q.y-Nm.d9 x.y))))=B0 at *;generalize Nm.d9 q.x-Nm.d9 x.x=d1 at *;generalize Nm.d9 q.y-Nm.d9 x.y=d2 at *;have o2:=a8b n1 n2 d1 d2 (g2.m rfl) (g3.m rfl) (k1.m rfl) (k2.m rfl);have k3:=I5 (y9 g2 k1) (y9 g3 k2);have o3:=M8 (Nm.ofQ (n1*d1+n2*d2)) (k3.m rfl);rw [Nm.l6] at o3;generalize q8 (n1*d1+n2*d2)=c at *;generalize n1*d1+n2*d2=d at *;clear k1 k2 k3 hq;simp only [vq,rq,rc,vc,sb,ints] at o1 o2 o3
   (repeat first|refine uA ?_|(apply uK;· first|omega|(intros;simp_all<;>omega))|simp (disch:=omega) only [go_sem,Nat.reduceBEq,Nat.reduceAdd,ww,gq,c8s,c8r,c8x,Vt.enc,sb,c8u]|(refine uD o1 ?_ ?_ ?_;exact tz hw;rfl)|(refine uD o2 ?_ ?_ ?_;exact tz hw;rfl)|(refine uD o3 ?_ ?_ ?_;exact tz hw;rfl));refine S.next (j+1) (by omega) (by omega) (by simp only [hB1,hts];exact (by repeat first|refine uA ?_|(refine ⟨?_,?_⟩;· first|rfl|simp [slot])|rfl|simp))
  ·have hj':j=b.length:=by omega
   subst hj';rw [c8J];rw [<- haw];generalize hA:a0J a b i=A at *;clear haw;(repeat first|refine uA ?_|(apply uK;· first|omega|(intros;simp_all<;>omega))|simp (disch:=omega) only [go_sem,Nat.reduceBEq]);refine S.cond rfl (fun hc=>?_) (fun hc=>?_)
   ·rw [b7D hi' (hA.trans hc),hV hc];simp only [Vt.c,Vt.enc,sb];(repeat first|refine uA ?_|(apply uK;· first|omega|(intros;simp_all<;>omega))|simp (disch:=omega) only [go_sem,Nat.reduceBEq,Nat.reduceAdd]);exact uQ rfl (Imp.tup (by repeat' first|exact j3.nil|exact Imp.refl rfl|apply j3.cons)) rfl rfl
   ·have hcf:=hA.trans hc;(repeat first|refine uA ?_|(apply uK;· first|omega|(intros;simp_all<;>omega))|simp (disch:=omega) only [go_sem,Nat.reduceBEq,ww]);refine S.next (x:=i) (i+1) ⟨by omega,fun k hk=>?_⟩ (by omega) (by repeat first|refine uA ?_|(refine ⟨?_,?_⟩;· first|rfl|simp [slot])|rfl|simp);rcases c8N k i with h|h
    ·exact hm k h
    ·have:k=i:=by omega
     subst this;exact hcf
 ·have hi':i=a.length:=by omega
  subst hi';rw [b5D hm,b4d hm];simp only [Vt.c,Vt.enc,Vt.zero,sb];(repeat first|refine uA ?_|(apply uK;· first|omega|(intros;simp_all<;>omega))|simp (disch:=omega) only [go_sem,Nat.reduceBEq,Nat.reduceAdd]);exact uQ rfl (Imp.tup (by repeat' first|exact j3.nil|exact Imp.refl rfl|apply j3.cons)) rfl rfl
def a2D (a b:List Vt):Bool:=decide (R9 a b=0) && (!a0y a b && !a0y b a)
theorem b4b (a b:List Vt) (ha:Vbs 268435456 a) (hb:Vbs 268435456 b):FZ 47 [vts a,vts b] (.tup [.v (.bool (a2D a b)),ints (R9 a b)]):=by
 refine kW Tryz.func47 (by cbv) (by rfl) fun w O hw=>?_;have h1:=c5U a b ⟨c8y ha.1 (by decide),fun v hv=>(ha.2 v hv).m rfl⟩ ⟨c8y hb.1 (by decide),fun v hv=>(hb.2 v hv).m rfl⟩;have h2:=b4H a b ha hb;have h3:=b4H b a hb ha;unfold a2D;generalize R9 a b=e at *;generalize a0y a b=u1 at *;generalize a0y b a=u2 at *;generalize a3L a b=v1 at *;generalize a3L b a=v2 at *;simp only [j4,TT,II,OA,OB,OC,MM,MG];simp only [vts,ints,Vt.c,Vt.enc,sb] at *;(repeat first|refine uA ?_|(apply uK;· first|omega|(intros;simp_all<;>omega))|simp (disch:=omega) only [go_sem,Nat.reduceBEq,Nat.reduceAdd]|(apply uD h1;exact tz hw;rfl));(refine uJ rfl (fun hc=>?_) fun hc=>?_)
 ·rw [decide_eq_false (by omega),Bool.false_and];(repeat first|refine uA ?_|(apply uK;· omega)|simp (disch:=omega) only [go_sem,Nat.reduceBEq]);(refine S.done ?_;simp only [D6,go_sem,Nat.reduceBEq];exact p8.out rfl (Imp.tup (by repeat' first|exact j3.nil|exact Imp.refl rfl|apply j3.cons)) rfl)
 ·have he:e=0:=by omega
  subst he;(repeat first|refine uA ?_|(apply uK;· omega)|simp (disch:=omega) only [go_sem,Nat.reduceBEq]|(apply uD h2;exact tz hw;rfl)|(apply uD h3;exact tz hw;rfl));refine S.done ?_;simp only [D6,go_sem,Nat.reduceBEq,Nat.reduceAdd];(repeat (refine ⟨?_,?_⟩;· first|trivial|omega|simp));exact p8.out rfl (Imp.tup (j3.cons (Imp.eq (by cases u1<;>cases u2<;>rfl) rfl) (j3.cons (Imp.refl rfl) j3.nil))) rfl
set_option maxRecDepth 10000
set_option maxHeartbeats 4000000
def b3g (px py ax ay bx by':Rat):Rat:=
 if q8 ((px-ax)*(bx-ax)+(py-ay)*(by'-ay))<=0 then (px-ax)*(px-ax)+(py-ay)*(py-ay) else
 if 0<=Nm.l8 ((px-ax)*(bx-ax)+(py-ay)*(by'-ay)) ((bx-ax)*(bx-ax)+(by'-ay)*(by'-ay)) then (px-bx)*(px-bx)+(py-by')*(py-by') else
 ((bx-ax)*(py-ay)-(by'-ay)*(px-ax))*((bx-ax)*(py-ay)-(by'-ay)*(px-ax)) / ((bx-ax)*(bx-ax)+(by'-ay)*(by'-ay))
theorem a5n {x:Rat} (h:x ≠ 0):0 < x*x:=by
 have h1:=sq_nonneg x;have h2:x*x ≠ 0:=fun h2=>by
  rcases Rat.mul_eq_zero.1 h2 with h3|h3<;>exact h h3
 grind
theorem two_pos {x y:Rat} (h:x ≠ 0 \/ y ≠ 0):0 < x*x+y*y:=by
 have h1:=sq_nonneg x;have h2:=sq_nonneg y;rcases h with h|h
 ·have:=a5n h;grind
 ·have:=a5n h;grind
theorem a8s {px py ax ay bx by' nx ny k:Rat} (h:(nx*px+ny*py+k<=0/\0 < nx*ax+ny*ay+k/\0 < nx*bx+ny*by'+k) \/ (0 < nx*px+ny*py+k/\nx*ax+ny*ay+k<=0/\nx*bx+ny*by'+k<=0)):0 < b3g px py ax ay bx by':=by
 have hpa:px-ax ≠ 0 \/ py-ay ≠ 0:=by
  by_cases h1:px-ax=0
  ·by_cases h2:py-ay=0
   ·exfalso;have e1:px=ax:=by grind
    have e2:py=ay:=by grind
    subst e1 e2;grind
   ·exact .inr h2
  ·exact .inl h1
 have hpb:px-bx ≠ 0 \/ py-by' ≠ 0:=by
  by_cases h1:px-bx=0
  ·by_cases h2:py-by'=0
   ·exfalso;have e1:px=bx:=by grind
    have e2:py=by':=by grind
    subst e1 e2;grind
   ·exact .inr h2
  ·exact .inl h1
 unfold b3g;split
 ·exact two_pos hpa
 rename_i ht;split
 ·exact two_pos hpb
 rename_i hs;have ht':0 < (px-ax)*(bx-ax)+(py-ay)*(by'-ay):=by
  have:=a2i ((px-ax)*(bx-ax)+(py-ay)*(by'-ay));rcases this with h|h|h<;>first|omega|grind
 have hs':(px-ax)*(bx-ax)+(py-ay)*(by'-ay) < (bx-ax)*(bx-ax)+(by'-ay)*(by'-ay):=(Y6 _ _).1 (by omega);have hc:(bx-ax)*(py-ay)-(by'-ay)*(px-ax) ≠ 0:=fun hc=>by
  have key:((bx-ax)*(bx-ax)+(by'-ay)*(by'-ay))*(nx*px+ny*py+k)=((bx-ax)*(bx-ax)+(by'-ay)*(by'-ay)-((px-ax)*(bx-ax)+(py-ay)*(by'-ay)))*(nx*ax+ny*ay+k)+((px-ax)*(bx-ax)+(py-ay)*(by'-ay))*(nx*bx+ny*by'+k)+(ny*(bx-ax)-nx*(by'-ay))*((bx-ax)*(py-ay)-(by'-ay)*(px-ax)):=by grind
  rw [hc,Rat.mul_zero,Rat.add_zero] at key;generalize (px-ax)*(bx-ax)+(py-ay)*(by'-ay)=t at *;generalize (bx-ax)*(bx-ax)+(by'-ay)*(by'-ay)=s at *;generalize nx*px+ny*py+k=fp at *;generalize nx*ax+ny*ay+k=fa at *;generalize nx*bx+ny*by'+k=fb at *;have h1:0 < s-t:=by grind
  have h0:0 < s:=by grind
  rcases h with ⟨g1,g2,g3⟩|⟨g1,g2,g3⟩
  ·have k1:=Rat.mul_pos h1 g2;have k2:=Rat.mul_pos ht' g3;have k3:=Rat.mul_nonneg (Rat.le_of_lt h0) (show 0<=-fp by grind);grind
  ·have k1:=Rat.mul_nonneg (Rat.le_of_lt h1) (show 0<=-fa by grind);have k2:=Rat.mul_nonneg (Rat.le_of_lt ht') (show 0<=-fb by grind);have k3:=Rat.mul_pos h0 g1;grind
 rw [Rat.div_def];exact Rat.mul_pos (a5n hc) (Rat.inv_pos.2 (by grind))
def a2m (p a b:Vt):Rat:=b3g (Nm.d9 p.x) (Nm.d9 p.y) (Nm.d9 a.x) (Nm.d9 a.y) (Nm.d9 b.x) (Nm.d9 b.y)
def a3Y (p:Vt) (l:List Vt) (i:Nat):Rat:=a2m p (l.getD i Vt.zero) (l.getD ((i+1) % l.length) Vt.zero)
def F4 (p:Vt) (l:List Vt):Rat:=(List.range l.length).foldl (fun m i=>u6 m (a3Y p l i)) (a2m p (l.getD 0 Vt.zero) (l.getD 1 Vt.zero))
def sqV (a b:List Vt):Rat:=b.foldl (fun m q=>u6 m (F4 q a)) (a.foldl (fun m p=>u6 m (F4 p b)) (F4 (a.getD 0 Vt.zero) b))
theorem c3X {p q:Rat} (hp:0 < p) (hq:0 < q):0 < u6 p q:=by unfold u6;split<;>assumption
theorem a6G {α:Type} {f:α->Rat}:∀ (l:List α) (m:Rat),0 < m->(∀ x ∈ l,0 < f x)->0 < l.foldl (fun m x=>u6 m (f x)) m
 | [],_,hm,_=>hm
 | x::l,m,hm,h=>a6G l _ (c3X hm (h x (by simp))) fun y hy=>h y (by simp [hy])
theorem a0Z {l:List Vt} {i:Nat} (h:i < l.length):l.getD i Vt.zero ∈ l:=by
 rw [c8C,c8q h];exact c8L h
theorem b3x {p:Vt} {l:List Vt} (hl:2<=l.length) (h:∀ a ∈ l,∀ b ∈ l,0 < a2m p a b):0 < F4 p l:=by
 refine a6G _ _ (h _ (a0Z (by omega)) _ (a0Z (by omega))) fun i hi=>?_;rw [List.mem_range] at hi;exact h _ (a0Z hi) _ (a0Z (Nat.mod_lt _ (by omega)))
def a5x (nx ny k:Rat) (v:Vt):Rat:=nx*Nm.d9 v.x+ny*Nm.d9 v.y+k
theorem sq_pos {a b:List Vt} {nx ny k:Rat} (ha:3<=a.length) (hb:3<=b.length) (h:((∀ p ∈ a,a5x nx ny k p<=0)/\∀ q ∈ b,0 < a5x nx ny k q) \/ ((∀ p ∈ a,0 < a5x nx ny k p)/\∀ q ∈ b,a5x nx ny k q<=0)):0 < sqV a b:=by
 have h1:∀ p ∈ a,0 < F4 p b:=fun p hp=>b3x (by omega) fun x hx y hy=>by
  rcases h with ⟨g1,g2⟩|⟨g1,g2⟩
  ·exact a8s (nx:=nx) (ny:=ny) (k:=k) (.inl ⟨g1 p hp,g2 x hx,g2 y hy⟩)
  ·exact a8s (nx:=nx) (ny:=ny) (k:=k) (.inr ⟨g1 p hp,g2 x hx,g2 y hy⟩)
 have h2:∀ q ∈ b,0 < F4 q a:=fun q hq=>b3x (by omega) fun x hx y hy=>by
  rcases h with ⟨g1,g2⟩|⟨g1,g2⟩
  ·exact a8s (nx:=nx) (ny:=ny) (k:=k) (.inr ⟨g2 q hq,g1 x hx,g1 y hy⟩)
  ·exact a8s (nx:=nx) (ny:=ny) (k:=k) (.inl ⟨g2 q hq,g1 x hx,g1 y hy⟩)
 exact a6G _ _ (a6G _ _ (h1 _ (a0Z (by omega))) h1) h2
theorem a0F {l:List Vt} {m:Nat} (h:J8 l m=0):3<=l.length/\∀ i k,i < l.length->k < l.length->2<=k->0 < a3h l i k:=by
 unfold J8 at h;split at h
 ·cases h
 split at h
 ·cases h
 split at h
 ·rename_i h1 h2 h3;refine ⟨by omega,fun i k hi hk h2=>?_⟩;have:=List.all_eq_true.1 (List.all_eq_true.1 h3 i (List.mem_range.2 hi)) k (List.mem_range.2 hk);simp only [c9f,c8D] at this;omega
 ·cases h
theorem a6C {q:Rat} (h:0 < q8 q):0 < q:=by
 have:=a2i q;rcases this with h1|h1|h1<;>first|omega|grind
theorem a8Z {a b:List Vt} (ha:J8 a 64=0) (h:a0y a b=true):∃ nx ny k:Rat,(∀ p ∈ a,a5x nx ny k p<=0)/\∀ q ∈ b,0 < a5x nx ny k q:=by
 obtain ⟨h3,hc⟩:=a0F ha;obtain ⟨i,hi,hq⟩:=List.any_eq_true.1 h;rw [List.mem_range] at hi;unfold a0J at hq;rw [List.all_eq_true] at hq;have hcv:=fun k=>hc i k hi;obtain ⟨x,hx⟩:∃ x,a.getD i Vt.zero=x:=⟨_,rfl⟩
 obtain ⟨y,hy⟩:∃ y,a.getD ((i+1) % a.length) Vt.zero=y:=⟨_,rfl⟩
 unfold a3h at hcv;rw [hx,hy] at hq hcv;refine ⟨Nm.d9 y.y-Nm.d9 x.y,-(Nm.d9 y.x-Nm.d9 x.x),-((Nm.d9 y.y-Nm.d9 x.y)*Nm.d9 x.x+-(Nm.d9 y.x-Nm.d9 x.x)*Nm.d9 x.y),fun p hp=>?_,fun q hm=>?_⟩
 ·obtain ⟨j,hj,rfl⟩:=List.getElem_of_mem hp;have hjp:a.getD j Vt.zero=a[j]:=by rw [c8C,c8q hj];rfl
  have hk:(i+(j+a.length-i) % a.length) % a.length=j:=by
   rw [Nat.add_mod_mod];rw [show i+(j+a.length-i)=j+a.length by omega,Nat.add_mod_right,Nat.mod_eq_of_lt hj]
  have hkl:(j+a.length-i) % a.length < a.length:=Nat.mod_lt _ (by omega);generalize (j+a.length-i) % a.length=k at *;have h2:=hcv k hkl;rw [hk,hjp] at h2;unfold a5x;by_cases hk2:2<=k
  ·have h4:=a6C (h2 hk2);generalize a[j]=p at *;grind
  ·have hk3:k=0 \/ k=1:=by omega
   rcases hk3 with rfl|rfl
   ·rw [Nat.add_zero,Nat.mod_eq_of_lt hi] at hk;subst hk;rw [<- hjp,hx];grind
   ·rw [hk,hjp] at hy;rw [hy];grind
 ·have h4:=a6C (of_decide_eq_true (hq q hm));unfold a5x;grind
theorem c1o {a b:List Vt} (h:R9 a b=0) (hm:a2D a b=false):0 < sqV a b:=by
 have hab:J8 a 64=0/\J8 b 64=0:=by
  unfold R9 at h;split at h
  ·exact ⟨by assumption,h⟩
  ·contradiction
 have h1:=(a0F hab.1).1;have h2:=(a0F hab.2).1;unfold a2D at hm;rw [decide_eq_true h,Bool.true_and] at hm;by_cases c:a0y a b=true
 ·obtain ⟨nx,ny,k,g1,g2⟩:=a8Z hab.1 c;exact sq_pos h1 h2 (.inl ⟨g1,g2⟩)
 ·have c2:a0y b a=true:=by
   cases c3:a0y b a with
   | true=>rfl
   | false=>simp [c,c3] at hm
  obtain ⟨nx,ny,k,g1,g2⟩:=a8Z hab.2 c2;exact sq_pos h1 h2 (.inr ⟨g2,g1⟩)
end Go.Proofs.YtpnbklgbfhgknaaGreatDoor
