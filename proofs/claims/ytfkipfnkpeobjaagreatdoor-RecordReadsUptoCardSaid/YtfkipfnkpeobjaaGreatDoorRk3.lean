/- A part of the proof: lemmas only, with the conditions that each names. -/
import Derived.Laws.Bits64b
import Derived.Test.YtfkipfnkpeobjaaGreatDoorProg
import Derived.KernelRfl
import Derived.Shelf.Strings.Trim
import Derived.Shelf.Small.Utf8
import Derived.Shelf.Small.Bits
import Derived.Shelf.Small.Strs
import Derived.Shelf.Small.Wraps
import Derived.Shelf.Strconv.Itoa0
import Derived.Shelf.Strings.Search1
import Derived.Shelf.Strings.Runes
import Derived.Shelf.Strings.AsciiSet
import Derived.Shelf.Unicode.DecodeSlow
import Derived.Shelf.Slices.Turned
import Derived.Shelf.Spec.TrailingZeros
import Derived.Test.YtfkipfnkpeobjaaGreatDoorRk2
set_option linter.all false
namespace Go.Proofs.YtfkipfnkpeobjaaGreatDoor.Eng
open Go Go.RowKit
def isG:C->Bool
 | .g _ _=>true
 | _=>false
def b9H:BinOp->Int->Int->Option C
 | .eql,a,b=>some (.v (.bool (decide (a=b))))
 | .neq,a,b=>some (.v (.bool (!decide (a=b))))
 | .lss,a,b=>some (.v (.bool (decide (a<b))))
 | .leq,a,b=>some (.v (.bool (decide (a<=b))))
 | .gtr,a,b=>some (.v (.bool (decide (b<a))))
 | .geq,a,b=>some (.v (.bool (decide (b<=a))))
 | _,_,_=>none
def stC(fr:List (Nat×C)):IOp->Option C
 | .mv x=>bif isG (opv fr x) then none else some (opv fr x)
 | .bin op x y=>match opv fr x,opv fr y with
  | .v (.int .i64 a),.v (.int .i64 b)=>b9H op a b
  | _,_=>none
 | _=>none
def mvR:List (Nat×C)->List G6->Option (List (Nat×C))
 | fr,[]=>some fr
 | fr,⟨some d,o,none⟩::l=>match stC fr o with
  | some c=>mvR ((d,c)::fr) l
  | none=>none
 | _,_=>none
def goR:Nat->List (Nat×C)->List It->List (Nat×C)×List It
 | 0,fr,k=>(fr,k)
 | n+1,fr,.code .skip::k=>goR n fr k
 | n+1,fr,.code (.seq a b)::k=>goR n fr (.code a::.code b::k)
 | n+1,fr,.code (.block i a)::k=>goR n fr (.code a::.blk i::k)
 | n+1,fr,.blk _::k=>goR n fr k
 | n+1,fr,.code (.reg l)::k=>match mvR fr l with
  | some fr'=>goR n fr' k
  | none=>(fr,.code (.reg l)::k)
 | n+1,fr,.code (.exit i)::k=>match a3m i k with
  | some k'=>goR n fr k'
  | none=>(fr,.code (.exit i)::k)
 | _+1,fr,k=>(fr,k)
section
variable {E:Ctx} {Q:Exit->Act->World->Prop} {rs:List Res}
def c5R{u:BinOp}{a b:Int}{c:C}{K:C->Prop}(h:b9H u a b=some c)(A:K c):a8a u (.int .i64 a) (.int .i64 b) true K:=by
 cases u<;>(unfold b9H at h;first|(injection h with h;subst h;exact⟨rfl,A⟩)|cases h)
def c8n{fr:List (Nat×C)}{o:IOp}{c:C}{K:C->Prop}(h:stC fr o=some c)(A:K c):b1D o=false/\G9 (opv fr) rs true o K:=by
 cases o with
 | mv x=>
  have h:(bif isG (opv fr x) then none else some (opv fr x))=some c:=h;cases u:isG (opv fr x) with
  | true=>rw[u]at h;cases h
  | false=>
   rw[u,cond_false]at h;injection h with h;subst h;refine⟨rfl,?_⟩
   show req true (opv fr x)/\K (strip (opv fr x));cases B:opv fr x with
   | g p c=>rw[B]at u;cases u
   | _=>rw[B]at A;exact⟨trivial,A⟩
 | bin op x y=>
  have h:(match opv fr x,opv fr y with
   | .v (.int .i64 a),.v (.int .i64 b)=>b9H op a b
   | _,_=>none)=some c:=h
  split at h
  ·rename_i E D;refine⟨rfl,?_⟩
   show req true (opv fr x)/\req true (opv fr y)/\match strip (opv fr x),strip (opv fr y) with
    | .v a,.v b=>a8a op a b true K
    | _,_=>False
   rw[E,D];exact⟨trivial,trivial,c5R h A⟩
  ·cases h
 | _=>unfold stC at h;cases h
theorem c0U{K:St->Prop}:∀{l:List G6} {fr u:List (Nat×C)},mvR fr l=some u->K ⟨u,rs⟩->ev E l ⟨fr,rs⟩ K
 | [],fr,u,h,hk=>by
  simp only[mvR]at h;injection h with h;subst h;exact hk
 | ⟨dst,op,guard⟩::l,fr,u,h,hk=>by
  cases guard with
  | some g=>cases dst<;>cases h
  | none=>cases dst with
   | none=>cases h
   | some d=>
    have h:(match stC fr op with
     | some c=>mvR ((d,c)::fr) l
     | none=>none)=some u:=h
    cases A:stC fr op with
    | none=>rw[A]at h;cases h
    | some c=>
     rw[A]at h;have D:=c0U (K:=K) h hk;have B:=c8n (rs:=rs) (K:=λc=>ev E l ⟨(d,c)::fr,rs⟩ K) A D
     show match b1D op with
      | true=>evE E (opv fr) rs op (KE E ⟨fr,rs⟩ (some d) (KR E l K))
      | false=>G9 (opv fr) rs true op (KP ⟨fr,rs⟩ (some d) (KR E l K))
     rw[B.1];exact B.2
theorem a6a:∀(n:Nat) (fr:List (Nat×C)) (k:List It) (fr':List (Nat×C)) (k':List It),goR n fr k=(fr',k')->S E Q ⟨fr',rs⟩ k'->S E Q ⟨fr,rs⟩ k
 | 0,_,_,_,_,e,h=>by cases e;exact h
 | n+1,fr,k,fr',k',e,h=>by
  unfold goR at e;split at e
  ·cases ‹_=0›
  ·cases ‹n+1=_›;exact S.skip (a6a _ _ _ _ _ e h)
  ·cases ‹n+1=_›;exact S.seq (a6a _ _ _ _ _ e h)
  ·cases ‹n+1=_›;exact S.block (a6a _ _ _ _ _ e h)
  ·cases ‹n+1=_›;exact S.blk (a6a _ _ _ _ _ e h)
  ·cases ‹n+1=_›;split at e
   ·rename_i hm;exact S.reg (c0U hm (a6a _ _ _ _ _ e h))
   ·cases e;exact h
  ·cases ‹n+1=_›;split at e
   ·rename_i hm;exact S.exit hm (a6a _ _ _ _ _ e h)
   ·cases e;exact h
  ·cases e;exact h
def uV{st:St}{k k':List It}{fr':List (Nat×C)}(h:goR 99 st.fr k=(fr',k'))(x:S E Q ⟨fr',st.rs⟩ k'):S E Q st k:=a6a 99 st.fr k fr' k' h x
def uT{st:St}{k k':List It}{fr':List (Nat×C)}{rvs:List RV}{r:C}{cs:List C}(h:goR 99 st.fr k=(fr',.code .ret::k'))(h2:(a4r fr' st.rs rvs,a0K cs,(C.bd 0 r&&r.cl))=(some cs,r,true))(h3:E.own0=λ_=>False):S E (Fin E.P rvs (Out E r)) st k:=uV h (uS h2 h3)
def uX{st:St}{k k':List It}{fr':List (Nat×C)}{rvs:List RV}{r:C}{cs:List C}(h:goR 99 st.fr k=(fr',.code .ret::k'))(h2:a4r fr' st.rs rvs=some cs)(hi:Imp st.rs [] (a0K cs) r)(hb:r.cl=true)(h3:E.own0=λ_=>False):S E (Fin E.P rvs (Out E r)) st k:=uV h (uQ h2 hi hb h3)
def uY{st:St}{k k':List It}{fr':List (Nat×C)}{rvs:List RV}{rs':List Res}{s:C}{cs:List C}(h:goR 99 st.fr k=(fr',.code .ret::k'))(h2:a4r fr' st.rs rvs=some cs)(hi:Imp st.rs rs' (a0K cs) s)(h3:C9 st.rs rs' rs' st.rs)(h4:E.nu0.length<=rs'.length):S E (Fin E.P rvs (b0O E rs' s)) st k:=uV h (uR h2 hi h3 h4)
end
def a9T(Pw:World->Prop):Prop:=∀w w':World,w.heap.size<=w'.heap.size->(∀b,b<w.heap.size->w'.heap[b]?=w.heap[b]?)->Pw w->Pw w'
def a0w(P:Program)(Pw:World->Prop)(f:Nat)(args:List C)(r:C):Prop:=∀(O:Nat->Prop) (w:World) (vs:List Value),Pw w->(∀b,O b->b<w.heap.size)->FzL w O args vs ->
 Calls P f vs.toArray w λe h=>∃y,e=.returned y/\Below w.heap.size w h/\Fz h O r y
theorem p8.w{P:Program}{Pw:World->Prop}{f:Nat}{u:List C}{r:C}(h:p8 P f u r):a0w P Pw f u r:=λO w vs _ B A=>h O w vs B A
def a0w.mono{P:Program}{Pw Pw':World->Prop}{f:Nat}{args:List C}{r:C}(h:a0w P Pw f args r)(hp:∀w,Pw' w->Pw w):a0w P Pw' f args r:=λO w vs u B A=>h O w vs (hp w u) B A
def a0w.of{eff:Nat->Bool}{P:Program}{Pw:World->Prop}{f:Nat}{D:Func}{B:a3N}(I:P.funcs[f]?=some D)(F:a0D eff P D=some B){u:List C}{r:C}(H:u.length<=B.ntmps)
  (h:∀w O,Pw w->S ⟨P,eff,B.ntmps,w,λ_=>False,O,[],[]⟩ (Fin P B.results (Out ⟨P,eff,B.ntmps,w,λ_=>False,O,[],[]⟩ r)) ⟨j4 0 u,[]⟩ [.code B.body]):a0w P Pw f u r:=by
 intro O w vs G E A;exact enter I F O E u A H (h w O G)
theorem a9T.cell{ad:Addr}{Q:Value->Prop}:a9T λw=>∃v,w.cell? ad=some v/\Q v:=by
 rintro w B D u ⟨v,h,A⟩;refine⟨v,?_,A⟩;rw[<- h];exact World.cell?_of_block (u _ (block_lt_of_cell h))
def a9T.and{A B:World->Prop}(ha:a9T A)(hb:a9T B):a9T λw=>A w/\B w:=λw u E D h=>⟨ha w u E D h.1,hb w u E D h.2⟩
end Go.Proofs.YtfkipfnkpeobjaaGreatDoor.Eng
namespace Go.Proofs.YtfkipfnkpeobjaaGreatDoor.Nm
def val(l:List UInt8):Nat:=l.foldl (λn b=>256*n+b.toNat) 0
theorem a6T:∀(l:List UInt8) (n:Nat),l.foldl (λn b=>256*n+b.toNat) n=n*256^l.length+val l
 | [],n=>by simp[val]
 | b::l,n=>by
  have h1:=a6T l (256*n+b.toNat);have h:=a6T l (256*0+b.toNat);simp only[List.foldl_cons,val,d0j,d0O]at h1 h ⊢;rw[h1,h];grind
def b2f:val []=0:=rfl
def a0W(b:UInt8)(l:List UInt8):val (b::l)=b.toNat*256^l.length+val l:=by
 have:=a6T l (256*0+b.toNat);simp only[val,List.foldl_cons]at this ⊢;rw[this];simp
def b8o(a b:List UInt8):val (a++b)=val a*256^b.length+val b:=by
 unfold val;rw[List.foldl_append,a6T];rfl
def b0G(a:List UInt8)(b:UInt8):val (a++[b])=256*val a+b.toNat:=by
 rw[b8o,a0W];simp[b2f];omega
theorem a0U:∀(l:List UInt8),val l<256^l.length
 | []=>by simp[val]
 | b::l=>by
  have h:=a0U l;have u:=b.toNat_lt;rw[a0W,d0j,d0O];have:b.toNat*256^l.length<=255*256^l.length:=d0M _ (by omega);omega
def trim:List UInt8->List UInt8
 | []=>[]
 | b::l=>if b=0 then trim l else b::l
theorem X5:∀l,val (trim l)=val l
 | []=>rfl
 | b::l=>by
  unfold trim;split
  ·rename_i h;subst h;rw[X5 l,a0W];simp
  ·rfl
theorem a0J:∀l,(trim l).length<=l.length
 | []=>d0m _
 | b::l=>by
  unfold trim;split
  ·have:=a0J l;simp;omega
  ·exact d0m _
def canon(l:List UInt8):Prop:=∀r,l≠0::r
theorem a0q:∀l,canon (trim l)
 | [],r=>by simp[trim]
 | b::l,r=>by
  unfold trim;split
  ·exact a0q l r
  ·intro e;injection e;contradiction
def a8t{l:List UInt8}(h:canon l):trim l=l:=by
 cases l with
 | nil=>rfl
 | cons b l=>
  unfold trim;rw[if_neg];intro e;exact h l (by rw[e])
def a9j(l:List UInt8):trim (trim l)=trim l:=a8t (a0q l)
def a9z:canon []:=λr h=>by cases h
def b1p{b:UInt8}{l:List UInt8}(h:canon (b::l)):256^l.length<=val (b::l):=by
 have A:1<=b.toNat:=by
  rcases d0K b.toNat with u|u
  ·exact absurd (by rw[show b=0 from UInt8.toNat.inj u]) (h l)
  ·exact u
 rw[a0W];have:=d0M (256^l.length) A;omega
def val_zero{l:List UInt8}(h:canon l):val l=0 <-> l=[]:=by
 cases l with
 | nil=>simp[val]
 | cons b l=>
  have:=b1p h;have:=Nat.pow_pos (n:=l.length) (show 0<256 by decide);simp;omega
theorem b0j:∀{a b:List UInt8},a.length=b.length->val a=val b->a=b
 | [],[],_,_=>rfl
 | [],_::_,h,_=>by cases h
 | _::_,[],h,_=>by cases h
 | x::a,y::b,h,hv=>by
  simp only[d0j,Nat.add_right_cancel_iff]at h;rw[a0W,a0W,h]at hv;have h1:=a0U a;have D:=a0U b;rw[h]at h1;have A:=Nat.pow_pos (n:=b.length) (show 0<256 by decide);have B:(x.toNat*256^b.length+val a)/256^b.length=x.toNat:=by
   rw[Nat.mul_comm,Nat.mul_add_div A,Nat.div_eq_of_lt h1];rfl
  have E:(y.toNat*256^b.length+val b)/256^b.length=y.toNat:=by
   rw[Nat.mul_comm,Nat.mul_add_div A,Nat.div_eq_of_lt D];rfl
  rw[hv,E]at B;have u:x=y:=UInt8.toNat.inj B.symm;subst u;rw[b0j h (by omega)]
def a4h{a b:List UInt8}(u:canon b)(h:a.length<b.length):val a<val b:=by
 cases b with
 | nil=>simp at h
 | cons y b=>
  have A:=b1p u;have D:=a0U a;have B:256^a.length<=256^b.length:=d0G (by decide) (by simp at h;omega);omega
def c0F{a b:List UInt8}(B:canon a)(A:canon b)(h:val a=val b):a=b:=by
 refine b0j ?_ h;rcases Nat.lt_trichotomy a.length b.length with u|u|u
 ·have:=a4h A u;omega
 ·exact u
 ·have:=a4h B u;omega
def enc(n:Nat):List UInt8:=if n=0 then[] else enc (n/256)++[UInt8.ofNat (n%256)]
termination_by n
decreasing_by omega
def a3s:enc 0=[]:=by unfold enc;rfl
def L8(n:Nat):val (enc n)=n:=by
 induction n using Nat.strongRecOn with
 | _ n ih=>
  unfold enc;split
  ·rename_i h;subst h;rfl
  ·rw[b0G,ih _ (by omega)];have:(UInt8.ofNat (n%256)).toNat=n%256:=by simp
   rw[this];omega
def a7Q{n:Nat}(h:n≠0):enc n≠[]:=λe=>h (by rw[<- L8 n,e];rfl)
def a3D(n:Nat):canon (enc n):=by
 induction n using Nat.strongRecOn with
 | _ n ih=>
  unfold enc;split
  ·exact a9z
  ·rename_i D;intro r hr;by_cases B:n/256=0
   ·rw[B,a3s,List.nil_append]at hr;injection hr with h _;have u:=congrArg UInt8.toNat h;simp at u;omega
   ·have h:=ih (n/256) (by omega);cases A:enc (n/256) with
    | nil=>exact a7Q B A
    | cons b l=>
     rw[A]at hr h;injection hr with u _;exact h l (by rw[u])
def a9B(l:List UInt8):enc (val l)=trim l:=c0F (a3D _) (a0q l) (by rw[L8,X5])
def a2I{l:List UInt8}(h:canon l):enc (val l)=l:=by rw[a9B,a8t h]
def a9Q{a b:Nat}(h:enc a=enc b):a=b:=by rw[<- L8 a,h,L8]
def O1{n k:Nat}(h:n<256^k):(enc n).length<=k:=by
 rcases d0B k (enc n).length with u|u
 ·cases A:enc n with
  | nil=>rw[A]at u;simp at u
  | cons b l=>
   have B:=b1p (A ▸ a3D n);rw[<- A,L8]at B;rw[A]at u;have:256^k<=256^l.length:=d0G (by decide) (by simp at u;omega);omega
 ·exact u
def a0H{n k:Nat}(h:(enc n).length<=k):n<256^k:=by
 have u:=a0U (enc n);rw[L8]at u;have:256^(enc n).length<=256^k:=d0G (by decide) h;omega
def a1u{l:List UInt8}{k:Nat}(h:l.length<=k):val l<256^k:=by
 have:=a0U l;have:256^l.length<=256^k:=d0G (by decide) h;omega
def wv(B:Nat):List Nat->Nat
 | []=>0
 | w::r=>w+B*wv B r
theorem a8W(B:Nat):∀(a b:List Nat),wv B (a++b)=wv B a+B^a.length*wv B b
 | [],b=>by simp[wv]
 | x::a,b=>by
  simp only[List.cons_append,wv,a8W B a b,d0j,d0O];grind
def a9Y(B:Nat)(a:List Nat)(x:Nat):wv B (a++[x])=wv B a+B^a.length*x:=by
 rw[a8W];simp[wv]
def G5(B:Nat){l:List Nat}{i:Nat}(h:i<l.length):wv B (l.take (i+1))=wv B (l.take i)+B^i*l[i]:=by
 rw[d0T h,a9Y,d0r];rw[Nat.min_eq_left (by omega)]
def a4p(B:Nat)(l:List Nat)(i:Nat)(h:i<=l.length):wv B l=wv B (l.take i)+B^i*wv B (l.drop i):=by
 have:=a8W B (l.take i) (l.drop i);rw[List.take_append_drop,d0r,Nat.min_eq_left h]at this;exact this
theorem a6n(B:Nat):∀{l:List Nat} {i:Nat} (h:i<l.length) (v:Nat),wv B (l.set i v)+B^i*l[i]=wv B l+B^i*v
 | [],i,h,v=>by simp at h
 | x::l,0,h,v=>by simp[wv];omega
 | x::l,i+1,h,v=>by
  have:=a6n B (l:=l) (i:=i) (by simpa using h) v;simp only[List.set_cons_succ,wv,List.getElem_cons_succ,d0O];grind
theorem Q7(B:Nat):∀{l:List Nat},(∀w∈l,w<B)->wv B l<B^l.length
 | [],_=>by simp[wv]
 | x::l,h=>by
  have h1:=Q7 B (l:=l) λw u=>h w (by simp[u]);have D:=h x (by simp);simp only[wv,d0j,d0O];have A:B*(wv B l+1)<=B*B^l.length:=Nat.mul_le_mul_left _ h1;rw[Nat.mul_add,Nat.mul_one]at A;rw[Nat.mul_comm (B^l.length) B];omega
theorem a8s(B:Nat):∀n,wv B (List.replicate n 0)=0
 | 0=>rfl
 | n+1=>by simp[List.replicate_succ,wv,a8s B n]
def b5b{B:Nat}{l:List Nat}{x:Nat}(h:x≠0):B^l.length<=wv B (l++[x]):=by
 rw[a9Y];have:B^l.length*1<=B^l.length*x:=Nat.mul_le_mul_left _ (by omega);omega
def mem_set{α:Type}{l:List α}{i:Nat}{v x:α}(h:x∈l.set i v):x=v\/x∈l:=by
 rcases List.mem_or_eq_of_mem_set h with h|h
 ·exact .inr h
 ·exact .inl h
def dig(B:Nat):Nat->Nat->List Nat
 | 0,_=>[]
 | L+1,n=>n%B::dig B L (n/B)
theorem M6(B:Nat):∀L n,(dig B L n).length=L
 | 0,_=>rfl
 | L+1,n=>by simp[dig,M6 B L]
theorem a2g{B:Nat}(hB:0<B):∀L n,∀w∈dig B L n,w<B
 | 0,_,w,h=>by simp[dig]at h
 | L+1,n,w,h=>by
  simp only[dig,List.mem_cons]at h;rcases h with rfl|h
  ·exact Nat.mod_lt _ hB
  ·exact a2g hB L _ w h
theorem c1N(B:Nat):∀L n,wv B (dig B L n)=n%B^L
 | 0,n=>by simp[dig,wv,Nat.mod_one]
 | L+1,n=>by
  simp only[dig,wv,c1N B L];rw[d0O,Nat.mul_comm (B^L) B,Nat.mod_mul]
def a0x{B L n:Nat}(h:n<B^L):wv B (dig B L n)=n:=by rw[c1N,Nat.mod_eq_of_lt h]
theorem c1o{B:Nat}(u:0<B):∀{l:List Nat},(∀w∈l,w<B)->l=dig B l.length (wv B l)
 | [],_=>rfl
 | x::l,h=>by
  have hx:=h x (by simp);have A:=c1o u (l:=l) λw D=>h w (by simp[D]);simp only[d0j,dig,wv];rw[Nat.add_mul_mod_self_left,Nat.mod_eq_of_lt hx,Nat.add_mul_div_left _ _ u,Nat.div_eq_of_lt hx,d0A,<- A]
def a0A{B L n:Nat}{l:List Nat}(D:0<B)(h:∀w∈l,w<B)(u:l.length=L)(A:wv B l=n):l=dig B L n:=by
 have:=c1o D h;rw[u,A]at this;exact this
def a8M{l:List UInt8}{i:Nat}(h:i<l.length):val (l.drop (l.length-1-i))=(l[l.length-1-i]).toNat*256^i+val (l.drop (l.length-i)):=by
 have u:l.drop (l.length-1-i)=l[l.length-1-i]::l.drop (l.length-i):=by
  rw[List.drop_eq_getElem_cons (by omega)];congr 2;omega
 rw[u,a0W,d0L];congr 2;congr 1;omega
def a6G(l:List UInt8)(i:Nat)(out:List Nat):Prop:=
 out.length=(l.length+3)/4/\(∀w∈out,w<4294967296)/\wv 4294967296 out=val (l.drop (l.length-i))/\∀j (h:j<out.length),out[j]<256^(i-4*j)
def b3S(l:List UInt8):a6G l 0 (List.replicate ((l.length+3)/4) 0):=by
 refine⟨by simp,λw u=>by rw[d0H u];decide,?_,λj h=>by simp⟩;rw[a8s];simp[val]
def c1r(i:Nat):4294967296^(i/4)*256^(i%4)=256^i:=by
 have h:(4294967296:Nat)=256^4:=by decide
 rw[h,<- Nat.pow_mul,<- Nat.pow_add];congr 1;omega
def a4o{a b r:Nat}(h:a<2^r):a ||| (b*2^r)=a+b*2^r:=by
 have:=Nat.two_pow_add_eq_or_of_lt h b;rw[Nat.mul_comm b,Nat.add_comm a,this,Nat.or_comm]
def b3X{l:List UInt8}{i:Nat}{out:List Nat}(h:a6G l i out)(T:i<l.length)(G:i/4<out.length) :
  a6G l (i+1) (out.set (i/4) (out[i/4] ||| (l[l.length-1-i]).toNat*2^(8*(i%4))))/\out[i/4] ||| (l[l.length-1-i]).toNat*2^(8*(i%4))<4294967296/\(l[l.length-1-i]).toNat*2^(8*(i%4))<4294967296:=by
 obtain⟨N,R,O,K⟩:=h;have u:2^(8*(i%4))=256^(i%4):=by rw[Nat.pow_mul]
 have V:=(l[l.length-1-i]).toNat_lt;have A:=K (i/4) G;rw[show i-4*(i/4)=i%4 by omega]at A;have F:out[i/4] ||| (l[l.length-1-i]).toNat*2^(8*(i%4))=out[i/4]+(l[l.length-1-i]).toNat*256^(i%4):=by
  rw[a4o (by rw[u];exact A),u]
 rw[F,u];have I:=Nat.pow_pos (n:=i%4) (show 0<256 by decide);have J:(l[l.length-1-i]).toNat*256^(i%4)<=255*256^(i%4):=d0M _ (by omega);have B:out[i/4]+(l[l.length-1-i]).toNat*256^(i%4)<256^(i%4+1):=by rw[d0O];omega
 have M:(256:Nat)^(i%4+1)<=256^4:=d0G (by decide) (by omega);have U:(256:Nat)^4=4294967296:=by decide
 refine⟨⟨by simp[N],λw D=>?_,?_,λj H=>?_⟩,by omega,by omega⟩
 ·rcases mem_set D with rfl|D
  ·omega
  ·exact R w D
 ·have P:=a6n 4294967296 G (out[i/4]+(l[l.length-1-i]).toNat*256^(i%4));rw[Nat.mul_add,<- d0N,Nat.mul_right_comm,d0N,Nat.mul_comm (l[l.length-1-i]).toNat,Nat.mul_comm _ (l[l.length-1-i]).toNat]at P;rw[show l.length-(i+1)=l.length-1-i by omega,a8M T,<- O,<- c1r i];have:4294967296^(i/4)*((l[l.length-1-i]).toNat*256^(i%4))=(l[l.length-1-i]).toNat*(4294967296^(i/4)*256^(i%4)):=by grind
  have E:=a6n 4294967296 G (out[i/4]+(l[l.length-1-i]).toNat*256^(i%4));rw[Nat.mul_add]at E;omega
 ·rw[List.getElem_set];split
  ·rename_i e;subst e;rw[show i+1-4*(i/4)=i%4+1 by omega];exact B
  ·have W:=K j (by simpa using H);have:(256:Nat)^(i-4*j)<=256^(i+1-4*j):=d0G (by decide) (by omega);omega
def N7(l:List UInt8):List Nat:=dig 4294967296 (((trim l).length+3)/4) (val l)
def b5e{l:List UInt8}{out:List Nat}(h:a6G (trim l) (trim l).length out):out=N7 l:=by
 obtain⟨u,B,A,_⟩:=h;refine a0A (by decide) B u ?_;rw[A,Nat.sub_self,List.drop_zero,X5]
def b7e(l:List UInt8):val l<4294967296^(((trim l).length+3)/4):=by
 have h:=a0U (trim l);rw[X5]at h;have u:(4294967296:Nat)=256^4:=by decide
 rw[u,<- Nat.pow_mul];have:256^(trim l).length<=256^(4*(((trim l).length+3)/4)):=d0G (by decide) (by omega);omega
def a0o(l:List UInt8):(N7 l).length=((trim l).length+3)/4:=M6 _ _ _
def a1o(l:List UInt8):wv 4294967296 (N7 l)=val l:=a0x (b7e l)
def a1n(l:List UInt8):∀w∈N7 l,w<4294967296:=a2g (by decide) _ _
def a9k(l:List UInt8)(h:N7 l≠[]):4294967296^((N7 l).length-1)<=val l:=by
 have u:=a0o l;have B:=a0q l;have D:=X5 l;cases A:trim l with
 | nil=>rw[A]at u;exact absurd (d0I (by simpa using u)) h
 | cons b r=>
  rw[A]at B u D;have:=b1p B;have E:(4294967296:Nat)=256^4:=by decide
  rw[E,<- Nat.pow_mul];have:256^(4*((N7 l).length-1))<=256^r.length:=d0G (by decide) (by simp at u;omega);omega
theorem b3v{α:Type}(x0 B u A:α):∀(k:Nat) (b:List α),k+3<b.length->((((b.set k x0).set (k+1) B).set (k+2) u).set (k+3) A).drop k=x0::B::u::A::b.drop (k+4)
 | 0,b,h=>by
  match b,h with
  | _::_::_::_::r,_=>simp
 | k+1,[],h=>by simp at h
 | k+1,a::b,h=>by
  have:=b3v x0 B u A k b (by simp at h;omega);simpa using this
def a7F(l:List Nat)(i:Nat)(b:List UInt8):Prop:=b.length=4*l.length/\val (b.drop (4*(l.length-i)))=wv 4294967296 (l.take i)
def b5q(l:List Nat):a7F l 0 (List.replicate (4*l.length) 0):=by
 refine⟨by simp,?_⟩;rw[List.drop_of_length_le (by simp)];rfl
def b6j{l:List Nat}{i:Nat}{b:List UInt8}(h:a7F l i b)(N:i<l.length)(U:l[i]<4294967296){x0 B u A:UInt8}
  (G:x0.toNat=l[i]/16777216%256) (E:B.toNat=l[i]/65536%256) (K:u.toNat=l[i]/256%256) (F:A.toNat=l[i]%256) :
  a7F l (i+1) ((((b.set (4*(l.length-1-i)) x0).set (4*(l.length-1-i)+1) B).set (4*(l.length-1-i)+2) u).set (4*(l.length-1-i)+3) A):=by
 obtain⟨H,J⟩:=h;refine⟨by simp[H],?_⟩;rw[show 4*(l.length-(i+1))=4*(l.length-1-i) by omega,b3v _ _ _ _ _ _ (by omega),show 4*(l.length-1-i)+4=4*(l.length-i) by omega,G5 _ N,<- J];have M:(b.drop (4*(l.length-i))).length=4*i:=by rw[d0L];omega
 simp only[a0W,d0j,M];have O:(4294967296:Nat)=256^4:=by decide
 rw[O,<- Nat.pow_mul];have e:l[i]=x0.toNat*16777216+B.toNat*65536+u.toNat*256+A.toNat:=by rw[G,E,K,F];omega
 rw[e];generalize x0.toNat=V;generalize B.toNat=W;generalize u.toNat=T;generalize A.toNat=R;have P:(256:Nat)^(4*i+1+1+1)=16777216*256^(4*i):=by rw[d0O,d0O,d0O];omega
 have D:(256:Nat)^(4*i+1+1)=65536*256^(4*i):=by rw[d0O,d0O];omega
 have I:(256:Nat)^(4*i+1)=256*256^(4*i):=by rw[d0O];omega
 rw[P,D,I];grind
def b7l{l:List Nat}{b:List UInt8}(h:a7F l l.length b):trim b=enc (wv 4294967296 l):=by
 obtain⟨_,h⟩:=h;rw[Nat.sub_self,Nat.mul_zero,List.drop_zero,d0w]at h;rw[<- h,a9B]
def oB(n:Nat):UInt8:=UInt8.ofNat (n%256)
def a3d(n:Nat):(oB n).toNat=n%256:=by simp[oB]
def be8(n:Nat):List UInt8:=[oB (n/72057594037927936),oB (n/281474976710656),oB (n/1099511627776),oB (n/4294967296),oB (n/16777216),oB (n/65536),oB (n/256),oB n]
def b8t{n:Nat}(h:n<18446744073709551616):val (be8 n)=n:=by
 simp only[be8,val,List.foldl_cons,List.foldl_nil,a3d];omega
def b5l{n:Nat}(h:n<18446744073709551616):trim (be8 n)=enc n:=by rw[<- a9B,b8t h]
def b9J(v b:Nat)(u:b<256):(v%18446744073709551616*256)%18446744073709551616 ||| b=(256*v+b)%18446744073709551616:=by
 have h:(v%18446744073709551616*256)%18446744073709551616=(v%72057594037927936)*2^8:=by omega
 rw[h,Nat.mul_comm _ (2^8),<- Nat.two_pow_add_eq_or_of_lt (by simpa using u)];omega
def V6(B:Nat){l:List Nat}{i:Nat}(h:i<l.length)(v:Nat):wv B ((l.set i v).take (i+1))=wv B (l.take i)+B^i*v:=by
 rw[G5 B (by simpa using h),List.getElem_set_self,List.take_set_of_le (d0m _)]
def a4a(B:Nat)(l:List Nat)(i:Nat):wv B (l.take (i+1))=wv B (l.take i)+B^i*l.getD i 0:=by
 rcases d0B i l.length with h|h
 ·rw[G5 B h,d0C,d0b h];rfl
 ·rw[d0y (by omega),d0y h,d0C,d0J h];simp
def a5l(x y:List Nat)(i:Nat)(out:List Nat)(c:Nat):Prop:=
 out.length=x.length+1/\(∀w∈out,w<4294967296)/\c<=1/\wv 4294967296 (out.take i)+4294967296^i*c=wv 4294967296 (x.take i)+wv 4294967296 (y.take i)
def b0v(x y:List Nat):a5l x y 0 (List.replicate (x.length+1) 0) 0:=by
 refine⟨by simp,λw h=>by rw[d0H h];decide,by omega,by simp[wv]⟩
def b6W{x y:List Nat}{i:Nat}{out:List Nat}{c:Nat}(h:a5l x y i out c)(E:i<x.length)(G:x[i]<4294967296)(I:y.getD i 0<4294967296){s:Nat}(B:s=c+x[i]+y.getD i 0) :
  a5l x y (i+1) (out.set i (s%4294967296)) (s/4294967296):=by
 obtain⟨F,A,H,K⟩:=h;refine⟨by simp[F],λw u=>?_,by omega,?_⟩
 ·rcases mem_set u with rfl|u
  ·exact Nat.mod_lt _ (by decide)
  ·exact A w u
 ·rw[V6 _ (by omega),G5 _ E,a4a];have D:s=s%4294967296+4294967296*(s/4294967296):=by omega
  have e:4294967296^i*s=4294967296^i*c+4294967296^i*x[i]+4294967296^i*y.getD i 0:=by rw[B,Nat.mul_add,Nat.mul_add]
  have J:4294967296^i*s=4294967296^i*(s%4294967296)+4294967296^(i+1)*(s/4294967296):=by
   conv=>lhs;rw[D,Nat.mul_add,<- d0N,<- d0O]
  omega
def b1s{x y:List Nat}{out:List Nat}{c:Nat}(h:a5l x y x.length out c)(B:y.length<=x.length):wv 4294967296 (out.set x.length c)=wv 4294967296 x+wv 4294967296 y/\∀w∈out.set x.length c,w<4294967296:=by
 obtain⟨D,A,F,E⟩:=h;refine⟨?_,λw u=>?_⟩
 ·have:=V6 4294967296 (l:=out) (i:=x.length) (by omega) c;rw[d0y (by simp[D])]at this;rw[d0w,d0y B]at E;omega
 ·rcases mem_set u with rfl|u
  ·omega
  ·exact A w u
def a8Z(x y:List Nat)(i:Nat)(out:List Nat)(c:Nat):Prop:=
 out.length=x.length/\(∀w∈out,w<4294967296)/\c<=1/\out.drop i=x.drop i/\wv 4294967296 (out.take i)+wv 4294967296 (y.take i)+4294967296^i*0=wv 4294967296 (x.take i)+4294967296^i*c
def b7h{x:List Nat}(y:List Nat)(h:∀w∈x,w<4294967296):a8Z x y 0 x 0:=by
 refine⟨rfl,h,by omega,rfl,by simp[wv]⟩
def a1z{α:Type}{a b:List α}{i:Nat}(h:a.drop i=b.drop i):a[i]?=b[i]?:=by
 have:=congrArg (λl=>l[0]?) h;simpa using this
def a1e{α:Type}{a b:List α}{i:Nat}(v:α)(h:a.drop i=b.drop i):(a.set i v).drop (i+1)=b.drop (i+1):=by
 rw[List.drop_set_of_lt (by omega)];have:=congrArg (List.drop 1) h;simpa[List.drop_drop] using this
def b6L{x y:List Nat}{i:Nat}{out:List Nat}{c:Nat}(h:a8Z x y i out c)(F:i<x.length){t c':Nat}(D:t<4294967296)(H:c'<=1)(B:t+c+y.getD i 0=x[i]+4294967296*c') :
  a8Z x y (i+1) (out.set i t) c':=by
 obtain⟨E,A,I,G,J⟩:=h;refine⟨by simp[E],λw u=>?_,H,a1e _ G,?_⟩
 ·rcases mem_set u with rfl|u
  ·exact D
  ·exact A w u
 ·rw[V6 _ (by omega),G5 _ F,a4a];have e:=congrArg (4294967296^i*·) B;simp only[Nat.mul_add]at e;rw[<- d0N,<- d0O]at e;simp only[Nat.succ_eq_add_one]at e;omega
def b9L{x y:List Nat}{out:List Nat}{c:Nat}(h:a8Z x y x.length out c)(D:y.length<=x.length)(A:wv 4294967296 y<=wv 4294967296 x):c=0/\wv 4294967296 out+wv 4294967296 y=wv 4294967296 x:=by
 obtain⟨E,B,H,_,F⟩:=h;rw[d0w,d0y (by omega),d0y D]at F;have:=Q7 4294967296 B;rw[E]at this;have G:c=0:=by
  rcases d0K c with u|u
  ·exact u
  ·have:c=1:=by omega
   subst this;omega
 subst G;exact⟨rfl,by omega⟩
def a8P(x y:List Nat)(i:Nat)(out:List Nat):Prop:=
 out.length=x.length+y.length/\(∀w∈out,w<4294967296)/\wv 4294967296 out=wv 4294967296 (x.take i)*wv 4294967296 y/\∀j,i+y.length<=j->out.getD j 0=0
def b1B(x y:List Nat)(i k:Nat)(out:List Nat)(c:Nat):Prop:=
 out.length=x.length+y.length/\(∀w∈out,w<4294967296)/\c<4294967296/\wv 4294967296 out+4294967296^(i+k)*c=wv 4294967296 (x.take i)*wv 4294967296 y+4294967296^i*(x.getD i 0*wv 4294967296 (y.take k))/\∀j,i+y.length<=j->out.getD j 0=0
def b7j(x y:List Nat):a8P x y 0 (List.replicate (x.length+y.length) 0):=by
 refine⟨by simp,λw h=>by rw[d0H h];decide,by rw[a8s];simp[wv],λj _=>?_⟩;rw[d0C,List.getElem?_replicate];split<;>rfl
def b8Y{x y:List Nat}{i:Nat}{out:List Nat}(h:a8P x y i out):b1B x y i 0 out 0:=by
 obtain⟨u,B,A,D⟩:=h;exact⟨u,B,by decide,by rw[A];simp[wv],D⟩
def getD_set_ne{l:List Nat}{i j v:Nat}(h:i≠j):(l.set i v).getD j 0=l.getD j 0:=by
 simp[d0C,List.getElem?_set_ne h]
def b9N{x y:List Nat}{i k:Nat}{out:List Nat}{c:Nat}(h:b1B x y i k out c)(J:i<x.length)(G:k<y.length)(P:x[i]<4294967296)(V:y[k]<4294967296){s:Nat}(D:i+k<out.length)(E:s=c+x[i]*y[k]+out[i+k]) :
  b1B x y i (k+1) (out.set (i+k) (s%4294967296)) (s/4294967296)/\s<=18446744073709551615:=by
 obtain⟨F,B,U,N,O⟩:=h;have X:x[i]*y[k]<=4294967295*4294967295:=Nat.mul_le_mul (by omega) (by omega);have I:=B _ (d0z D);have u:s<=18446744073709551615:=by omega
 refine⟨⟨by simp[F],λw A=>?_,by omega,?_,λj H=>?_⟩,u⟩
 ·rcases mem_set A with rfl|A
  ·exact Nat.mod_lt _ (by decide)
  ·exact B w A
 ·have e0:=a6n 4294967296 D (s%4294967296);rw[G5 _ G];have K:s=s%4294967296+4294967296*(s/4294967296):=by omega
  have T:4294967296^(i+k)*s=4294967296^(i+k)*(s%4294967296)+4294967296^(i+(k+1))*(s/4294967296):=by
   conv=>lhs;rw[K,Nat.mul_add,<- d0N,<- d0O]
   rfl
  have W:4294967296^(i+k)*s=4294967296^(i+k)*c+4294967296^(i+k)*(x[i]*y[k])+4294967296^(i+k)*out[i+k]:=by rw[E,Nat.mul_add,Nat.mul_add]
  have M:x.getD i 0=x[i]:=by rw[d0C,d0b J];rfl
  rw[M]at N ⊢;have R:4294967296^i*(x[i]*(wv 4294967296 (y.take k)+4294967296^k*y[k]))=4294967296^i*(x[i]*wv 4294967296 (y.take k))+4294967296^(i+k)*(x[i]*y[k]):=by
   rw[Nat.pow_add,Nat.mul_add,Nat.mul_add];congr 1;generalize 4294967296^i=p;generalize 4294967296^k=q;grind
  omega
 ·rw[getD_set_ne (by omega)];exact O j H
def c1c{x y:List Nat}{i:Nat}{out:List Nat}{c:Nat}(h:b1B x y i y.length out c)(J:i<x.length):a8P x y (i+1) (out.set (i+y.length) c):=by
 obtain⟨G,F,E,H,D⟩:=h;have B:i+y.length<out.length:=by omega
 refine⟨by simp[G],λw u=>?_,?_,λj I=>?_⟩
 ·rcases mem_set u with rfl|u
  ·exact E
  ·exact F w u
 ·have e0:=a6n 4294967296 B c;have A:=D _ (d0m (i+y.length));rw[d0C,d0b B]at A;simp only[Option.getD_some]at A;rw[A,Nat.mul_zero,Nat.add_zero]at e0;rw[e0,H,d0w,a4a];grind
 ·rw[getD_set_ne (by omega)];exact D j (by omega)
def b8P{x y:List Nat}{out:List Nat}(h:a8P x y x.length out):wv 4294967296 out=wv 4294967296 x*wv 4294967296 y:=by
 obtain⟨_,_,h,_⟩:=h;rw[d0w]at h;exact h
section
variable {W V p v1 v2 lo2 top u2 wl d rest:Nat}
def c6X(B:v1*p<=V)(E:W<(top+1)*p)(A:0<v1):W/V<=top/v1:=by
 rw[Nat.le_div_iff_mul_le A];rcases d0B top (W/V*v1) with h|h
 ·exfalso;have D:(top+1)*p<=W/V*v1*p:=d0M p h;have u:W/V*(v1*p)<=W/V*V:=Nat.mul_le_mul_left _ B;have F:W/V*V<=W:=Nat.div_mul_le_self W V;rw[<- d0N]at u;omega
 ·exact h
def c5T{B:Nat}(F:(v1*B+v2)*p<=V)(I:W<(top*B+u2+1)*p)(A:top=d*v1+rest)(H:rest*B+u2<d*v2):W/V<d:=by
 have D:top*B+u2+1<=d*(v1*B+v2):=by
  rw[A,Nat.add_mul,Nat.mul_add,d0N];omega
 have G:(top*B+u2+1)*p<=d*(v1*B+v2)*p:=d0M p D;have u:d*((v1*B+v2)*p)<=d*V:=Nat.mul_le_mul_left _ F;rw[<- d0N]at u;have E:W<d*V:=by omega
 rcases d0K V with h|h
 ·subst h;simp at E
 ·rwa[Nat.div_lt_iff_lt_mul h]
def c8j{B:Nat}(P:V<(v1*B+v2+1)*p)(N:(top*B+u2)*p<=W)(u:top=d*v1+rest)(M:d*v2<=rest*B+u2)(H:d<B)(A:0<v1):(d-1)*V<=W:=by
 rcases d0K d with h|h
 ·subst h;simp
 obtain⟨e,rfl⟩:∃e,d=e+1:=⟨d-1,by omega⟩
 simp only[Nat.add_sub_cancel];have D:B<=v1*B:=by have:=d0M B A;omega
 have K:(e+1)*(v1*B+v2)<=top*B+u2:=by
  have I:=Nat.mul_add (e+1) (v1*B) v2;have J:=Nat.add_mul ((e+1)*v1) rest B;have G:=d0N (e+1) v1 B;rw[u];omega
 have E:e*(v1*B+v2+1)<=top*B+u2:=by
  have:(e+1)*(v1*B+v2)=e*(v1*B+v2)+(v1*B+v2):=by rw[Nat.add_mul,Nat.one_mul]
  have:e*(v1*B+v2+1)=e*(v1*B+v2)+e:=by rw[Nat.mul_add _ _ 1,Nat.mul_one]
  omega
 have F:e*V<=e*((v1*B+v2+1)*p):=Nat.mul_le_mul_left _ (by omega);have O:e*(v1*B+v2+1)*p<=(top*B+u2)*p:=d0M p E;rw[<- d0N]at F;omega
end
def c2p{W V d:Nat}(D:W/V<=d)(B:(d-1)*V<=W)(A:0<V):(d*V<=W/\W/V=d)\/(W<d*V/\0<d/\W/V=d-1):=by
 rcases d0B W (d*V) with h|h
 ·refine .inr ⟨h,?_,?_⟩
  ·rcases d0K d with u|u
   ·subst u;simp at h
   ·exact u
  ·have:W/V<d:=by rwa[Nat.div_lt_iff_lt_mul A]
   have:d-1<=W/V:=by rwa[Nat.le_div_iff_mul_le A]
   omega
 ·refine .inl ⟨h,?_⟩;have:d<=W/V:=by rwa[Nat.le_div_iff_mul_le A]
  omega
def leftInv(x:List Nat)(p i:Nat)(out:List Nat):Prop:=
 out.length=x.length+1/\(∀w∈out,w<4294967296)/\out.getD i 0<p/\wv 4294967296 (out.take i)+4294967296^i*out.getD i 0=wv 4294967296 (x.take i)*p
def getD_lt{l:List Nat}{i:Nat}(h:i<l.length):l.getD i 0=l[i]:=by rw[d0C,d0b h];rfl
def b6C(x:List Nat){p:Nat}(u:0<p):leftInv x p 0 (List.replicate (x.length+1) 0):=by
 refine⟨by simp,λw h=>by rw[d0H h];decide,?_,by simp[wv]⟩;rw[getD_lt (by simp)];simp;omega
def a9y{l:List Nat}{i v u:Nat}(h:i+1<l.length):((l.set i v).set (i+1) u).getD (i+1) 0=u:=by
 rw[getD_lt (by simp;omega)];simp
def b6g{x:List Nat}{r i:Nat}{out:List Nat}(h:leftInv x (2^r) i out)(hr:r<32)(V:i<x.length)(P:x[i]<4294967296)(M:i<out.length) :
  leftInv x (2^r) (i+1) ((out.set i (out[i] ||| (x[i]*2^r%4294967296))).set (i+1) (x[i]*2^r/4294967296))/\x[i]*2^r<18446744073709551616/\out[i] ||| (x[i]*2^r%4294967296)<4294967296/\x[i]*2^r/4294967296<4294967296:=by
 obtain⟨O,R,I,N⟩:=h;rw[getD_lt M]at I N;have T:(2:Nat)^r<=2^31:=d0G (by decide) (by omega);have F:0<(2:Nat)^r:=Nat.pow_pos (by decide);have K:x[i]*2^r<=4294967295*2147483648:=Nat.mul_le_mul (by omega) T;have E:(4294967296:Nat)=2^(32-r)*2^r:=by rw[<- Nat.pow_add,show 32-r+r=32 by omega]
 have A:x[i]*2^r%4294967296=(x[i]%2^(32-r))*2^r:=by rw[E,Nat.mul_mod_mul_right]
 have H:out[i] ||| (x[i]*2^r%4294967296)=out[i]+x[i]*2^r%4294967296:=by rw[A,a4o I]
 have W:x[i]%2^(32-r)+1<=2^(32-r):=Nat.mod_lt _ (Nat.pow_pos (by decide));have G:(x[i]%2^(32-r)+1)*2^r<=4294967296:=by
  have:=d0M (2^r) W;rw[<- E]at this;exact this
 have u:out[i]+x[i]*2^r%4294967296<4294967296:=by rw[A];rw[Nat.add_mul,Nat.one_mul]at G;omega
 have D:x[i]*2^r/4294967296<2^r:=by
  rw[Nat.div_lt_iff_lt_mul (by decide),Nat.mul_comm];exact Nat.mul_lt_mul_of_pos_left P F
 rw[H];refine⟨⟨by simp[O],λw B=>?_,?_,?_⟩,by omega,u,by omega⟩
 ·rcases mem_set B with rfl|B
  ·omega
  ·rcases mem_set B with rfl|B
   ·exact u
   ·exact R w B
 ·rw[a9y (by omega)];exact D
 ·rw[a9y (by omega),List.take_set_of_le (d0m _),V6 _ M,G5 _ V,Nat.add_mul,<- N,d0N,d0O];have U:x[i]*2^r=x[i]*2^r%4294967296+4294967296*(x[i]*2^r/4294967296):=by omega
  have J:=congrArg (4294967296^i*·) U;simp only[Nat.mul_add]at J;rw[J,Nat.mul_add,d0N];omega
def b7r{x:List Nat}{p:Nat}{out:List Nat}(h:leftInv x p x.length out):wv 4294967296 out=wv 4294967296 x*p/\out.getD x.length 0<p:=by
 obtain⟨E,D,A,B⟩:=h;refine⟨?_,A⟩;have u:x.length<out.length:=by omega
 have:=G5 4294967296 u;rw[d0y (by omega),<- getD_lt u]at this;rw[d0w]at B;omega
def a6p(r0:List Nat)(p i:Nat)(out:List Nat):Prop:=
 out.length=r0.length/\(∀w∈out,w<4294967296)/\out.drop i=r0.drop i/\wv 4294967296 (out.take i)*p+r0.getD 0 0%p=wv 4294967296 (r0.take i)+4294967296^i*(r0.getD i 0%p)
def b3Z{r0:List Nat}{p:Nat}(h:∀w∈r0,w<4294967296):a6p r0 p 0 r0:=⟨rfl,h,rfl,by simp[wv]⟩
def b3V{r0:List Nat}{u i:Nat}{out:List Nat}(h:a6p r0 (2^u) i out)(Y:u<32)(J:i<r0.length)(W:∀w∈r0,w<4294967296){t:Nat}
  (N:t=if i+1<r0.length then r0[i]/2^u ||| (r0.getD (i+1) 0*2^(32-u)%4294967296) else r0[i]/2^u):a6p r0 (2^u) (i+1) (out.set i t)/\t<4294967296:=by
 obtain⟨O,R,P,V⟩:=h;have D:0<(2:Nat)^u:=Nat.pow_pos (by decide);have K:=W _ (d0z J);have A:(4294967296:Nat)=2^u*2^(32-u):=by rw[<- Nat.pow_add,show u+(32-u)=32 by omega]
 have U:r0[i]/2^u<2^(32-u):=by
  rw[Nat.div_lt_iff_lt_mul D,Nat.mul_comm,<- A];exact K
 have E:t=r0[i]/2^u+(r0.getD (i+1) 0%2^u)*2^(32-u):=by
  rw[N];split
  ·rename_i B;have F:r0.getD (i+1) 0*2^(32-u)%4294967296=(r0.getD (i+1) 0%2^u)*2^(32-u):=by
    conv=>lhs;rw[A,Nat.mul_mod_mul_right]
   rw[F,a4o U]
  ·rename_i T;have:r0.getD (i+1) 0=0:=by rw[d0C,d0J (by omega)];rfl
   rw[this];simp
 have G:r0.getD (i+1) 0%2^u+1<=2^u:=Nat.mod_lt _ D;have H:(r0.getD (i+1) 0%2^u+1)*2^(32-u)<=4294967296:=by
  have:=d0M (2^(32-u)) G;rw[<- A]at this;exact this
 have B:t<4294967296:=by rw[E];rw[Nat.add_mul,Nat.one_mul]at H;omega
 refine⟨⟨by simp[O],λw I=>?_,a1e _ P,?_⟩,B⟩
 ·rcases mem_set I with rfl|I
  ·exact B
  ·exact R w I
 ·rw[V6 _ (by omega),G5 _ J];rw[getD_lt J]at V;have X:t*2^u=r0[i]/2^u*2^u+(r0.getD (i+1) 0%2^u)*4294967296:=by
   rw[E,Nat.add_mul,d0N (r0.getD (i+1) 0%2^u),Nat.mul_comm (2^(32-u)),<- A]
  have M:r0[i]=r0[i]/2^u*2^u+r0[i]%2^u:=by
   have:=Nat.div_add_mod r0[i] (2^u);rw[Nat.mul_comm]at this;omega
  rw[Nat.add_mul,d0N,X,d0O];generalize r0[i]/2^u*2^u=a at*;generalize r0[i]%2^u=b at*;rw[M];generalize r0.getD (i+1) 0%2^u=c at*;grind
def b4v{r0:List Nat}{u:Nat}{out:List Nat}(h:a6p r0 (2^u) r0.length out)(H:u<=32){z:Nat}(A:wv 4294967296 r0=z*2^u):wv 4294967296 out=z:=by
 obtain⟨J,I,_,B⟩:=h;have D:0<(2:Nat)^u:=Nat.pow_pos (by decide);rw[d0y (by omega),d0w,A]at B;have e0:r0.getD r0.length 0=0:=by rw[d0C,d0J (d0m _)];rfl
 rw[e0,Nat.zero_mod,Nat.mul_zero,Nat.add_zero]at B;have G:r0.getD 0 0%2^u=0:=by
  cases hr:r0 with
  | nil=>simp
  | cons a l=>
   rw[hr]at A;simp only[wv]at A;have E:(4294967296:Nat)=2^u*2^(32-u):=by rw[<- Nat.pow_add,show u+(32-u)=32 by omega]
   rw[E,d0N]at A;have F:(a+2^u*(2^(32-u)*wv (2^u*2^(32-u)) l))%2^u=a%2^u:=Nat.add_mul_mod_self_left ..;rw[A,Nat.mul_mod_left]at F;exact F.symm
 rw[G,Nat.add_zero]at B;exact Nat.eq_of_mul_eq_mul_right D B
def b1L(u v:List Nat)(d i:Nat)(out:List Nat)(c b:Nat):Prop:=
 out.length=u.length/\(∀w∈out,w<4294967296)/\c<4294967296/\b<=1/\out.drop i=u.drop i/\wv 4294967296 (out.take i)+d*wv 4294967296 (v.take i)=wv 4294967296 (u.take i)+4294967296^i*c+4294967296^i*b
def b9G{u:List Nat}(v:List Nat)(d:Nat)(h:∀w∈u,w<4294967296):b1L u v d 0 u 0 0:=⟨rfl,h,by decide,by decide,rfl,by simp[wv]⟩
def b8N{u v:List Nat}{d i:Nat}{out:List Nat}{c b:Nat}(h:b1L u v d i out c b)(K:i<v.length)(I:i<u.length)(N:v[i]<4294967296)(R:d<4294967296){t b':Nat}(F:t<4294967296)(D:b'<=1)
  (E:t+(c+d*v[i])%4294967296+b=u[i]+4294967296*b'):b1L u v d (i+1) (out.set i t) ((c+d*v[i])/4294967296) b'/\c+d*v[i]<=18446744073709551615:=by
 obtain⟨G,J,P,H,M,T⟩:=h;have U:d*v[i]<=4294967295*4294967295:=Nat.mul_le_mul (by omega) (by omega);refine⟨⟨by simp[G],λw B=>?_,by omega,D,a1e _ M,?_⟩,by omega⟩
 ·rcases mem_set B with rfl|B
  ·exact F
  ·exact J w B
 ·rw[V6 _ (by omega),G5 _ K,G5 _ I,d0O];have A:c+d*v[i]=(c+d*v[i])%4294967296+4294967296*((c+d*v[i])/4294967296):=by omega
  have V:=congrArg (4294967296^i*·) A;have O:=congrArg (4294967296^i*·) E;generalize(c+d*v[i])%4294967296=lo at*;generalize(c+d*v[i])/4294967296=hi' at*;grind
def c0w{u v:List Nat}{d:Nat}{out:List Nat}{c b:Nat}(h:b1L u v d v.length out c b)(G:u.length=v.length+1){t f:Nat}(F:t<4294967296)(E:t+c+b=u[v.length]+4294967296*f) :
  wv 4294967296 (out.set v.length t)+d*wv 4294967296 v=wv 4294967296 u+4294967296^u.length*f/\(∀w∈out.set v.length t,w<4294967296):=by
 obtain⟨M,D,J,I,N,H⟩:=h;refine⟨?_,λw A=>?_⟩
 ·have e0:=V6 4294967296 (l:=out) (i:=v.length) (by omega) t;rw[d0y (by simp;omega)]at e0;have B:=G5 4294967296 (l:=u) (i:=v.length) (by omega);rw[d0y (by omega)]at B;rw[d0w]at H;have K:=congrArg (4294967296^v.length*·) E;rw[G,d0O,e0,B];grind
 ·rcases mem_set A with rfl|A
  ·exact F
  ·exact D w A
def b1z(u v:List Nat)(i:Nat)(out:List Nat)(c:Nat):Prop:=
 out.length=u.length/\(∀w∈out,w<4294967296)/\c<=1/\out.drop i=u.drop i/\wv 4294967296 (out.take i)+4294967296^i*c=wv 4294967296 (u.take i)+wv 4294967296 (v.take i)
def b9c{u:List Nat}(v:List Nat)(h:∀w∈u,w<4294967296):b1z u v 0 u 0:=⟨rfl,h,by decide,rfl,by simp[wv]⟩
def b8F{u v:List Nat}{i:Nat}{out:List Nat}{c:Nat}(h:b1z u v i out c)(I:i<v.length)(G:i<u.length)(K:v[i]<4294967296)(M:u[i]<4294967296){s:Nat}(D:s=c+u[i]+v[i]) :
  b1z u v (i+1) (out.set i (s%4294967296)) (s/4294967296):=by
 obtain⟨E,H,P,J,R⟩:=h;refine⟨by simp[E],λw B=>?_,by omega,a1e _ J,?_⟩
 ·rcases mem_set B with rfl|B
  ·exact Nat.mod_lt _ (by decide)
  ·exact H w B
 ·rw[V6 _ (by omega),G5 _ I,G5 _ G,d0O];have A:s=s%4294967296+4294967296*(s/4294967296):=by omega
  have T:=congrArg (4294967296^i*·) A;have N:=congrArg (4294967296^i*·) D;generalize s%4294967296=O at*;generalize s/4294967296=F at*;grind
def b9X{u v:List Nat}{out:List Nat}{c:Nat}(h:b1z u v v.length out c)(O:u.length=v.length+1){t:Nat}(H:t=(u[v.length]+c)%4294967296){z:Nat}(K:wv 4294967296 u+wv 4294967296 v=z+4294967296^u.length)(J:z<4294967296^u.length) :
  wv 4294967296 (out.set v.length t)=z/\(∀w∈out.set v.length t,w<4294967296):=by
 obtain⟨I,N,T,V,M⟩:=h;have F:∀w∈out.set v.length t,w<4294967296:=λw E=>by
  rcases mem_set E with rfl|E
  ·rw[H];exact Nat.mod_lt _ (by decide)
  ·exact N w E
 refine⟨?_,F⟩;have B:=Q7 4294967296 F;rw[d0S,I]at B;have e0:=V6 4294967296 (l:=out) (i:=v.length) (by omega) t;rw[d0y (by simp;omega)]at e0;have G:=G5 4294967296 (l:=u) (i:=v.length) (by omega);rw[d0y (by omega)]at G;rw[d0w]at M;have D:u[v.length]+c=t+4294967296*((u[v.length]+c)/4294967296):=by omega
 generalize(u[v.length]+c)/4294967296=f at*;have U:=congrArg (4294967296^v.length*·) D;have P:wv 4294967296 (out.set v.length t)+4294967296^u.length*f=z+4294967296^u.length:=by
  rw[<- K,O,d0O,e0,G];grind
 have R:f=1:=by
  rcases Nat.lt_trichotomy f 1 with A|A|A
  ·have:f=0:=by omega
   subst this;omega
  ·exact A
  ·have:=Nat.mul_le_mul_left (4294967296^u.length) A;omega
 subst R;omega
def I9(l:List Nat):Prop:=∀w∈l,w<4294967296
theorem I9.take{l:List Nat}(h:I9 l)(n:Nat):I9 (l.take n):=λw u=>h w (List.mem_of_mem_take u)
theorem I9.drop{l:List Nat}(h:I9 l)(n:Nat):I9 (l.drop n):=λw u=>h w (List.mem_of_mem_drop u)
def I9.app{a b:List Nat}(h:I9 a)(k:I9 b):I9 (a++b):=λw u=>by
 rcases List.mem_append.1 u with u|u
 ·exact h w u
 ·exact k w u
theorem I9.set{a:List Nat}(h:I9 a){i v:Nat}(k:v<4294967296):I9 (a.set i v):=λw u=>by
 rcases mem_set u with rfl|u
 ·exact k
 ·exact h w u
def c6b{l:List Nat}{m:Nat}(h:l.length=m+2)(A:I9 l):∃r,r<4294967296^m/\wv 4294967296 l=r+(l[m+1]*4294967296+l[m])*4294967296^m:=by
 refine⟨wv 4294967296 (l.take m),?_,?_⟩
 ·have:=Q7 4294967296 (A.take m);rw[d0r,Nat.min_eq_left (by omega)]at this;exact this
 ·have u:=G5 4294967296 (l:=l) (i:=m+1) (by omega);have B:=G5 4294967296 (l:=l) (i:=m) (by omega);rw[d0y (by omega)]at u;rw[u,B,d0O];grind
def c5K{l:List Nat}{m:Nat}(h:l.length=m+3)(u:I9 l):∃r,r<4294967296^m/\wv 4294967296 l=r+((l[m+2]*4294967296+l[m+1])*4294967296+l[m])*4294967296^m:=by
 refine⟨wv 4294967296 (l.take m),?_,?_⟩
 ·have:=Q7 4294967296 (u.take m);rw[d0r,Nat.min_eq_left (by omega)]at this;exact this
 ·have e0:=G5 4294967296 (l:=l) (i:=m+2) (by omega);have B:=G5 4294967296 (l:=l) (i:=m+1) (by omega);have A:=G5 4294967296 (l:=l) (i:=m) (by omega);rw[d0y (by omega)]at e0;rw[e0,B,A,d0O,d0O];grind
structure Est(W V v1 v2 top u2 p:Nat):Prop where
 ge:(v1*4294967296+v2)*p<=V
 lt:V<(v1*4294967296+v2+1)*p
 wlt:W<(top*4294967296+u2+1)*p
 wge:(top*4294967296+u2)*p<=W
 hv1:0<v1
 hv2:v2<4294967296
 hu2:u2<4294967296
 hW:W<4294967296*V
def Est.of{v win:List Nat}{m:Nat}(D:v.length=m+2)(F:win.length=m+3)(u:I9 v)(h:I9 win)(E:0<v[m+1])(G:wv 4294967296 win<4294967296*wv 4294967296 v) :
  Est (wv 4294967296 win) (wv 4294967296 v) v[m+1] v[m] (win[m+2]*4294967296+win[m+1]) win[m] (4294967296^m):=by
 obtain⟨r,hr,B⟩:=c6b D u;obtain⟨s,H,A⟩:=c5K F h;refine⟨by rw[B];omega,by rw[B,Nat.add_mul _ 1,Nat.one_mul];omega,by rw[A,Nat.add_mul _ 1,Nat.one_mul];omega,by rw[A];omega,E,u _ (d0z _),h _ (d0z _),G⟩
def Est.pos{W V A v2 top B p:Nat}(h:Est W V A v2 top B p):0<V:=by
 have:=h.hW;rcases d0K V with u|u
 ·subst u;omega
 ·exact u
def Est.start{W V u v2 top A p:Nat}(h:Est W V u v2 top A p):W/V<=top/u:=by
 refine c6X (p:=4294967296*p) ?_ ?_ h.hv1
 ·have:=h.ge;rw[Nat.add_mul,d0N]at this;omega
 ·have D:=h.wlt;have B:(top*4294967296+A+1)*p<=((top+1)*4294967296)*p:=d0M p (by have:=h.hu2;omega);rw[d0N]at B;omega
def Est.dec{W V A v2 top B p d rest:Nat}(h:Est W V A v2 top B p)(E:W/V<=d)(D:top=d*A+rest)(u:4294967296<=d\/rest*4294967296+B<d*v2):W/V<d:=by
 rcases u with u|u
 ·have:W/V<4294967296:=by rw[Nat.div_lt_iff_lt_mul h.pos];exact h.hW
  omega
 ·exact c5T h.ge h.wlt D u
def Est.fin{W V A v2 top B p d rest:Nat}(h:Est W V A v2 top B p)(F:W/V<=d)(D:top=d*A+rest)(E:d<4294967296)(u:4294967296<=rest\/d*v2<=rest*4294967296+B):(d*V<=W/\W/V=d)\/(W<d*V/\0<d/\W/V=d-1):=by
 refine c2p F (c8j h.lt h.wge D ?_ E h.hv1) h.pos;rcases u with u|u
 ·have H:d*v2<=4294967296*4294967296:=Nat.mul_le_mul (by omega) (by have:=h.hv2;omega);have G:4294967296*4294967296<=rest*4294967296:=d0M _ u;omega
 ·exact u
def Est.small{W V u v2 top B p d rest:Nat}(h:Est W V u v2 top B p)(E:top=d*u+rest)(A:top<u*4294967296+4294967296)(hr:4294967296<=rest):d<4294967296:=by
 have D:=h.hv1;have:d*u<4294967296*u:=by rw[Nat.mul_comm 4294967296];omega
 exact Nat.lt_of_mul_lt_mul_right this
def a8l(U0:Nat)(v:List Nat)(L k:Nat)(u q:List Nat):Prop:=
 u.length=L/\I9 u/\q.length=L-v.length/\I9 q/\wv 4294967296 u+4294967296^k*(wv 4294967296 v*wv 4294967296 (q.drop k))=U0/\wv 4294967296 (u.drop k)<wv 4294967296 v
def a3Z(B:Nat){l:List Nat}{k:Nat}(h:k<l.length):wv B (l.drop k)=l[k]+B*wv B (l.drop (k+1)):=by
 rw[List.drop_eq_getElem_cons h];rfl
def b3O{J:Nat}{v:List Nat}{L k:Nat}{u q:List Nat}(h:a8l J v L (k+1) u q)(H:I9 v)(N:k+1<=L-v.length) :
  wv 4294967296 ((u.drop k).take (v.length+1))=wv 4294967296 (u.drop k)/\wv 4294967296 (u.drop k)<4294967296*wv 4294967296 v/\wv 4294967296 (u.drop (k+v.length+1))=0/\((u.drop k).take (v.length+1)).length=v.length+1:=by
 obtain⟨M,K,O,W,P,V⟩:=h;have A:k<u.length:=by omega
 have U:=K _ (d0z A);have R:=a3Z 4294967296 A;have D:wv 4294967296 (u.drop k)<4294967296*wv 4294967296 v:=by omega
 have F:=Q7 4294967296 H;have B:=a4p 4294967296 (u.drop k) (v.length+1) (by rw[d0L];omega);rw[List.drop_drop]at B;have G:wv 4294967296 (u.drop (k+v.length+1))=0:=by
  rcases d0K (wv 4294967296 (u.drop (k+v.length+1))) with E|E
  ·exact E
  ·exfalso;rw[show k+(v.length+1)=k+v.length+1 by omega]at B;have I:=Nat.mul_le_mul_left (4294967296^(v.length+1)) E;have T:4294967296*wv 4294967296 v<=4294967296*4294967296^v.length:=Nat.mul_le_mul_left _ (Nat.le_of_lt F);rw[d0O]at I B;omega
 refine⟨?_,D,G,by rw[d0r,d0L];omega⟩;rw[show k+(v.length+1)=k+v.length+1 by omega,G,Nat.mul_zero,Nat.add_zero]at B;exact B.symm
def b9r{J:Nat}{v:List Nat}{L k:Nat}{u q win:List Nat}(h:a8l J v L (k+1) u q)(N:I9 v)(P:k+1<=L-v.length)(X:win.length=v.length+1)(H:I9 win){d:Nat}(M:d=wv 4294967296 (u.drop k)/wv 4294967296 v)
 (R:wv 4294967296 win+d*wv 4294967296 v=wv 4294967296 (u.drop k)) (A:0<wv 4294967296 v):a8l J v L k (u.take k++win++u.drop (k+v.length+1)) (q.set k d):=by
 obtain⟨g1,g2,Y,g4⟩:=b3O h N P;obtain⟨h1,K,T,h4,U,h6⟩:=h;have O:k<u.length:=by omega
 have B:d<4294967296:=by rw[M,Nat.div_lt_iff_lt_mul A];exact g2
 have I:k<q.length:=by omega
 have hl:(u.take k++win++u.drop (k+v.length+1)).length=L:=by
  simp only[d0c,d0r,d0L];omega
 have E:(u.take k).length=k:=by rw[d0r];omega
 have G:(u.take k++win++u.drop (k+v.length+1)).drop k=win++u.drop (k+v.length+1):=by
  rw[d0o,List.drop_append,E,Nat.sub_self,List.drop_of_length_le (by omega),List.nil_append,List.drop_zero]
 have F:wv 4294967296 (win++u.drop (k+v.length+1))=wv 4294967296 win:=by rw[a8W,Y,Nat.mul_zero,Nat.add_zero]
 have D:wv 4294967296 win=wv 4294967296 (u.drop k)%wv 4294967296 v:=by
  have:=Nat.div_add_mod (wv 4294967296 (u.drop k)) (wv 4294967296 v);rw[<- M,Nat.mul_comm]at this;omega
 refine⟨hl,((K.take k).app H).app (K.drop _),by simp[T],h4.set B,?_,?_⟩
 ·have V:wv 4294967296 (u.take k++win++u.drop (k+v.length+1))=wv 4294967296 (u.take k)+4294967296^k*wv 4294967296 win:=by
   rw[d0o,a8W,E,F]
  have W:=a4p 4294967296 u k (by omega);have Z:wv 4294967296 ((q.set k d).drop k)=d+4294967296*wv 4294967296 (q.drop (k+1)):=by
   rw[a3Z _ (by simpa using I),List.getElem_set_self,List.drop_set_of_lt (by omega)]
  rw[V,Z,<- U,W,<- R,d0O];grind
 ·rw[G,F,D];exact Nat.mod_lt _ A
def c2i{A:Nat}{v:List Nat}{L:Nat}{u q:List Nat}(h:a8l A v L 0 u q)(G:I9 v)(M:v.length<=L):wv 4294967296 q=A/wv 4294967296 v/\wv 4294967296 (u.take v.length)=A%wv 4294967296 v:=by
 obtain⟨N,K,J,O,B,D⟩:=h;rw[List.drop_zero]at B D;simp only[Nat.pow_zero,Nat.one_mul]at B;have I:=Q7 4294967296 G;have F:=a4p 4294967296 u v.length (by omega);have H:wv 4294967296 (u.drop v.length)=0:=by
  rcases d0K (wv 4294967296 (u.drop v.length)) with E|E
  ·exact E
  ·have:=Nat.mul_le_mul_left (4294967296^v.length) E;omega
 rw[H,Nat.mul_zero,Nat.add_zero]at F;rw[<- F,<- B];refine⟨?_,?_⟩
 ·rw[Nat.add_mul_div_left _ _ (by omega),Nat.div_eq_of_lt D,d0A]
 ·rw[Nat.add_mul_mod_self_left,Nat.mod_eq_of_lt D]
def a3U(l:List UInt8)(i:Nat)(out:List Nat):Prop:=
 out.length=(l.length+7)/8/\(∀w∈out,w<18446744073709551616)/\wv 18446744073709551616 out=val (l.drop (l.length-i))/\∀j (h:j<out.length),out[j]<256^(i-8*j)
def b1o(l:List UInt8):a3U l 0 (List.replicate ((l.length+7)/8) 0):=by
 refine⟨by simp,λw u=>by rw[d0H u];decide,?_,λj h=>by simp⟩;rw[a8s];simp[val]
def b7v(i:Nat):18446744073709551616^(i/8)*256^(i%8)=256^i:=by
 have h:(18446744073709551616:Nat)=256^8:=by decide
 rw[h,<- Nat.pow_mul,<- Nat.pow_add];congr 1;omega
def b1G{l:List UInt8}{i:Nat}{out:List Nat}(h:a3U l i out)(T:i<l.length)(G:i/8<out.length) :
  a3U l (i+1) (out.set (i/8) (out[i/8] ||| (l[l.length-1-i]).toNat*2^(8*(i%8))))/\out[i/8] ||| (l[l.length-1-i]).toNat*2^(8*(i%8))<18446744073709551616/\(l[l.length-1-i]).toNat*2^(8*(i%8))<18446744073709551616:=by
 obtain⟨N,R,O,K⟩:=h;have u:2^(8*(i%8))=256^(i%8):=by rw[Nat.pow_mul]
 have V:=(l[l.length-1-i]).toNat_lt;have A:=K (i/8) G;rw[show i-8*(i/8)=i%8 by omega]at A;have F:out[i/8] ||| (l[l.length-1-i]).toNat*2^(8*(i%8))=out[i/8]+(l[l.length-1-i]).toNat*256^(i%8):=by
  rw[a4o (by rw[u];exact A),u]
 rw[F,u];have I:=Nat.pow_pos (n:=i%8) (show 0<256 by decide);have J:(l[l.length-1-i]).toNat*256^(i%8)<=255*256^(i%8):=d0M _ (by omega);have B:out[i/8]+(l[l.length-1-i]).toNat*256^(i%8)<256^(i%8+1):=by rw[d0O];omega
 have M:(256:Nat)^(i%8+1)<=256^8:=d0G (by decide) (by omega);have U:(256:Nat)^8=18446744073709551616:=by decide
 refine⟨⟨by simp[N],λw D=>?_,?_,λj H=>?_⟩,by omega,by omega⟩
 ·rcases mem_set D with rfl|D
  ·omega
  ·exact R w D
 ·have P:=a6n 18446744073709551616 G (out[i/8]+(l[l.length-1-i]).toNat*256^(i%8));rw[Nat.mul_add,<- d0N,Nat.mul_right_comm,d0N,Nat.mul_comm (l[l.length-1-i]).toNat,Nat.mul_comm _ (l[l.length-1-i]).toNat]at P;rw[show l.length-(i+1)=l.length-1-i by omega,a8M T,<- O,<- b7v i];have:18446744073709551616^(i/8)*((l[l.length-1-i]).toNat*256^(i%8))=(l[l.length-1-i]).toNat*(18446744073709551616^(i/8)*256^(i%8)):=by grind
  have E:=a6n 18446744073709551616 G (out[i/8]+(l[l.length-1-i]).toNat*256^(i%8));rw[Nat.mul_add]at E;omega
 ·rw[List.getElem_set];split
  ·rename_i e;subst e;rw[show i+1-8*(i/8)=i%8+1 by omega];exact B
  ·have W:=K j (by simpa using H);have:(256:Nat)^(i-8*j)<=256^(i+1-8*j):=d0G (by decide) (by omega);omega
def a4z(x y:List Nat)(i:Nat)(out:List Nat)(c:Nat):Prop:=
 out.length=x.length/\(∀w∈out,w<18446744073709551616)/\c<=1/\out.drop i=x.drop i/\wv 18446744073709551616 (out.take i)+wv 18446744073709551616 (y.take i)+18446744073709551616^i*0=wv 18446744073709551616 (x.take i)+18446744073709551616^i*c
def a8O{x:List Nat}(y:List Nat)(h:∀w∈x,w<18446744073709551616):a4z x y 0 x 0:=by
 refine⟨rfl,h,by omega,rfl,by simp[wv]⟩
def a8N{x y:List Nat}{i:Nat}{out:List Nat}{c:Nat}(h:a4z x y i out c)(F:i<x.length){t c':Nat}(D:t<18446744073709551616)(H:c'<=1)(B:t+c+y.getD i 0=x[i]+18446744073709551616*c') :
  a4z x y (i+1) (out.set i t) c':=by
 obtain⟨E,A,I,G,J⟩:=h;refine⟨by simp[E],λw u=>?_,H,a1e _ G,?_⟩
 ·rcases mem_set u with rfl|u
  ·exact D
  ·exact A w u
 ·rw[V6 _ (by omega),G5 _ F,a4a];have e:=congrArg (18446744073709551616^i*·) B;simp only[Nat.mul_add]at e;rw[<- d0N,<- d0O]at e;simp only[Nat.succ_eq_add_one]at e;omega
def a8X{x y:List Nat}{out:List Nat}{c:Nat}(h:a4z x y x.length out c)(D:y.length<=x.length)(A:wv 18446744073709551616 y<=wv 18446744073709551616 x):c=0/\wv 18446744073709551616 out+wv 18446744073709551616 y=wv 18446744073709551616 x:=by
 obtain⟨E,B,H,_,F⟩:=h;rw[d0w,d0y (by omega),d0y D]at F;have:=Q7 18446744073709551616 B;rw[E]at this;have G:c=0:=by
  rcases d0K c with u|u
  ·exact u
  ·have:c=1:=by omega
   subst this;omega
 subst G;exact⟨rfl,by omega⟩
def a2Q(r0:List Nat)(p i:Nat)(out:List Nat):Prop:=
 out.length=r0.length/\(∀w∈out,w<18446744073709551616)/\out.drop i=r0.drop i/\wv 18446744073709551616 (out.take i)*p+r0.getD 0 0%p=wv 18446744073709551616 (r0.take i)+18446744073709551616^i*(r0.getD i 0%p)
def a6X{r0:List Nat}{p:Nat}(h:∀w∈r0,w<18446744073709551616):a2Q r0 p 0 r0:=⟨rfl,h,rfl,by simp[wv]⟩
def a6R{r0:List Nat}{u i:Nat}{out:List Nat}(h:a2Q r0 (2^u) i out)(Y:u<64)(J:i<r0.length)(W:∀w∈r0,w<18446744073709551616){t:Nat}
  (N:t=if i+1<r0.length then r0[i]/2^u ||| (r0.getD (i+1) 0*2^(64-u)%18446744073709551616) else r0[i]/2^u):a2Q r0 (2^u) (i+1) (out.set i t)/\t<18446744073709551616:=by
 obtain⟨O,R,P,V⟩:=h;have D:0<(2:Nat)^u:=Nat.pow_pos (by decide);have K:=W _ (d0z J);have A:(18446744073709551616:Nat)=2^u*2^(64-u):=by rw[<- Nat.pow_add,show u+(64-u)=64 by omega]
 have U:r0[i]/2^u<2^(64-u):=by
  rw[Nat.div_lt_iff_lt_mul D,Nat.mul_comm,<- A];exact K
 have E:t=r0[i]/2^u+(r0.getD (i+1) 0%2^u)*2^(64-u):=by
  rw[N];split
  ·rename_i B;have F:r0.getD (i+1) 0*2^(64-u)%18446744073709551616=(r0.getD (i+1) 0%2^u)*2^(64-u):=by
    conv=>lhs;rw[A,Nat.mul_mod_mul_right]
   rw[F,a4o U]
  ·rename_i T;have:r0.getD (i+1) 0=0:=by rw[d0C,d0J (by omega)];rfl
   rw[this];simp
 have G:r0.getD (i+1) 0%2^u+1<=2^u:=Nat.mod_lt _ D;have H:(r0.getD (i+1) 0%2^u+1)*2^(64-u)<=18446744073709551616:=by
  have:=d0M (2^(64-u)) G;rw[<- A]at this;exact this
 have B:t<18446744073709551616:=by rw[E];rw[Nat.add_mul,Nat.one_mul]at H;omega
 refine⟨⟨by simp[O],λw I=>?_,a1e _ P,?_⟩,B⟩
 ·rcases mem_set I with rfl|I
  ·exact B
  ·exact R w I
 ·rw[V6 _ (by omega),G5 _ J];rw[getD_lt J]at V;have X:t*2^u=r0[i]/2^u*2^u+(r0.getD (i+1) 0%2^u)*18446744073709551616:=by
   rw[E,Nat.add_mul,d0N (r0.getD (i+1) 0%2^u),Nat.mul_comm (2^(64-u)),<- A]
  have M:r0[i]=r0[i]/2^u*2^u+r0[i]%2^u:=by
   have:=Nat.div_add_mod r0[i] (2^u);rw[Nat.mul_comm]at this;omega
  rw[Nat.add_mul,d0N,X,d0O];generalize r0[i]/2^u*2^u=a at*;generalize r0[i]%2^u=b at*;rw[M];generalize r0.getD (i+1) 0%2^u=c at*;grind
def a7A{r0:List Nat}{u:Nat}{out:List Nat}(h:a2Q r0 (2^u) r0.length out)(H:u<=64){z:Nat}(A:wv 18446744073709551616 r0=z*2^u):wv 18446744073709551616 out=z:=by
 obtain⟨J,I,_,B⟩:=h;have D:0<(2:Nat)^u:=Nat.pow_pos (by decide);rw[d0y (by omega),d0w,A]at B;have e0:r0.getD r0.length 0=0:=by rw[d0C,d0J (d0m _)];rfl
 rw[e0,Nat.zero_mod,Nat.mul_zero,Nat.add_zero]at B;have G:r0.getD 0 0%2^u=0:=by
  cases hr:r0 with
  | nil=>simp
  | cons a l=>
   rw[hr]at A;simp only[wv]at A;have E:(18446744073709551616:Nat)=2^u*2^(64-u):=by rw[<- Nat.pow_add,show u+(64-u)=64 by omega]
   rw[E,d0N]at A;have F:(a+2^u*(2^(64-u)*wv (2^u*2^(64-u)) l))%2^u=a%2^u:=Nat.add_mul_mod_self_left ..;rw[A,Nat.mul_mod_left]at F;exact F.symm
 rw[G,Nat.add_zero]at B;exact Nat.eq_of_mul_eq_mul_right D B
structure Rt where
 neg:Bool
 num:List UInt8
 den:List UInt8
 deriving DecidableEq
def sgn(neg:Bool)(n:Nat):Int:=if neg=true then -(n:Int) else n
instance(l:List UInt8):Decidable (canon l):=match l with
 | []=>.isTrue a9z
 | b::r=>if h:b=0 then .isFalse λu=>u r (by rw[h]) else .isTrue λq e=>h (by injection e)
def Rt.I4(a:Rt):Prop:=a.den≠[]/\canon a.den/\canon a.num/\(a.num=[]->a.neg=false/\a.den=[1])/\(a.den=[1]\/Nat.gcd (val a.num) (val a.den)=1)
instance(a:Rt):Decidable a.I4:=by unfold Rt.I4;infer_instance
def ofQ(q:Rat):Rt:=⟨decide (q.num<0),enc q.num.natAbs,enc q.den⟩
def toQ(a:Rt):Rat:=mkRat (sgn a.neg (val a.num)) (val a.den)
def d9(a:Rt):Rat:=if a.I4 then toQ a else 0
def a0m:enc 1=[1]:=by
 have:val [1]=1:=rfl;rw[<- this,a9B];rfl
def b7Q(q:Rat):sgn (decide (q.num<0)) q.num.natAbs=q.num:=by
 unfold sgn;by_cases h:q.num<0
 ·rw[if_pos (by simpa using h)];omega
 ·rw[if_neg (by simpa using h)];omega
def c9o(q:Rat):toQ (ofQ q)=q:=by
 unfold toQ ofQ;simp only[L8,b7Q];exact Rat.mkRat_self q
def b8B(q:Rat):(ofQ q).I4:=by
 unfold Rt.I4 ofQ;simp only[L8];refine⟨a7Q q.den_nz,a3D _,a3D _,λh=>?_,.inr q.reduced⟩;have u:q.num.natAbs=0:=by
  rcases d0K q.num.natAbs with u|u
  ·exact u
  ·exact absurd h (a7Q (by omega))
 have A:=q.reduced;rw[Nat.Coprime,u,Nat.gcd_zero_left]at A;rw[A,a0m];exact⟨decide_eq_false (by omega),rfl⟩
def a5B(b:Bool)(n:Nat):(sgn b n).natAbs=n:=by unfold sgn;split<;>omega
def c7H{a:Rt}(h:a.I4):Nat.gcd (val a.num) (val a.den)=1:=by
 rcases h.2.2.2.2 with u|u
 ·rw[u];exact Nat.gcd_one_right _
 ·exact u
def den_pos{a:Rt}(h:a.I4):val a.den≠0:=λu=>h.1 ((val_zero h.2.1).1 u)
def c5e{a:Rt}(h:a.I4):(toQ a).num=sgn a.neg (val a.num)/\(toQ a).den=val a.den:=by
 unfold toQ;rw[Rat.num_mkRat,Rat.den_mkRat,if_neg (den_pos h),if_neg (den_pos h),a5B,Nat.gcd_comm,c7H h];simp
def c9q{a:Rt}(h:a.I4):ofQ (toQ a)=a:=by
 obtain⟨F,E⟩:=c5e h;obtain⟨A,u,den⟩:=a;unfold ofQ;rw[F,E,a5B];simp only[a2I h.2.1,a2I h.2.2.1]at*;congr 1;have D:=val_zero h.2.2.1;have B:=h.2.2.2.1;simp only at D B;unfold sgn;cases A with
 | true=>
  simp only[if_true];have:val u≠0:=λG=>by have:=(B (D.1 G)).1;cases this
  exact decide_eq_true (by omega)
 | false=>
  simp only[d0P,if_false];exact decide_eq_false (by omega)
def y8(q:Rat):d9 (ofQ q)=q:=by unfold d9;rw[if_pos (b8B q),c9o]
def b1M{a:Rt}(h:a.I4):ofQ (d9 a)=a:=by unfold d9;rw[if_pos h,c9q h]
def a5E:Rt:=⟨false,[],[1]⟩
def a6i:ofQ 0=a5E:=by
 unfold ofQ a5E;have h:(0:Rat).num=0:=rfl;have u:(0:Rat).den=1:=rfl;rw[h,u,a0m];simp[a3s]
def b7z(h:Bool){n d:Nat}(A:d≠0):(if n=0 then a5E else⟨h,enc (n/Nat.gcd n d),enc (d/Nat.gcd n d)⟩)=ofQ (mkRat (sgn h n) d):=by
 split
 ·rename_i B;subst B;have:sgn h 0=0:=by unfold sgn;split<;>rfl
  rw[this,Rat.zero_mkRat,a6i]
 ·rename_i B;unfold ofQ;rw[Rat.num_mkRat,Rat.den_mkRat,if_neg A,if_neg A,a5B,Nat.gcd_comm d n];have D:0<Nat.gcd n d:=Nat.gcd_pos_of_pos_right _ (by omega);have u:Nat.gcd n d∣n:=Nat.gcd_dvd_left ..;have E:0<n/Nat.gcd n d:=Nat.div_pos (Nat.le_of_dvd (by omega) u) D;have e:sgn h n/((Nat.gcd n d:Nat):Int)=sgn h (n/Nat.gcd n d):=by
   unfold sgn;split
   ·rw[Int.neg_ediv_of_dvd (by exact Int.ofNat_dvd.2 u)];simp
   ·simp
  rw[e,a5B];congr 1;unfold sgn;cases h with
  | true=>simp only[if_true];exact(decide_eq_true (by omega)).symm
  | false=>simp only[d0P,if_false];exact(decide_eq_false (by omega)).symm
def R8(neg:Bool)(a:Nat)(mi:Bool)(b:Nat):Bool×Nat:=if neg=mi then(neg,a+b) else if b<=a then(neg,a-b) else(mi,b-a)
def b2S(h:Bool)(a:Nat)(u:Bool)(b:Nat):sgn (R8 h a u b).1 (R8 h a u b).2=sgn h a+sgn u b:=by
 unfold R8 sgn;cases h<;>cases u<;>simp only[if_true,d0P,if_false,reduceCtorEq]<;>(try split)<;>simp_all<;>omega
def c5l(x y:Bool)(a b:Nat):sgn (x != y) (a*b)=sgn x a*sgn y b:=by
 unfold sgn;cases x<;>cases y<;>simp[Int.natCast_mul,Int.neg_mul,Int.mul_neg]
def a7u(x:Bool)(a b:Nat):sgn x (a*b)=sgn x a*(b:Int):=by
 unfold sgn;cases x<;>simp[Int.natCast_mul,Int.neg_mul]
def A9(a b:Rat):Int:=if a<b then -1 else if a=b then 0 else 1
def a1C(a b:Nat):Int:=if a<b then -1 else if a=b then 0 else 1
def c5h(a b:Rat):A9 a b=if decide (a.num<0)≠decide (b.num<0) then(if decide (a.num<0)=true then -1 else 1) else if decide (a.num<0)=true then-a1C (a.num.natAbs*b.den) (b.num.natAbs*a.den) else a1C (a.num.natAbs*b.den) (b.num.natAbs*a.den):=by
 have E:=Rat.lt_iff a b;have A:=Rat.lt_iff b a;have G:0<(a.den:Int):=by have:=a.den_pos;omega
 have J:0<(b.den:Int):=by have:=b.den_pos;omega
 have H:a=b <-> a.num*b.den=b.num*a.den:=by
  constructor
  ·rintro rfl;rfl
  ·intro h;have M:¬a<b:=λI=>by have:=E.1 I;omega
   have K:¬b<a:=λI=>by have:=A.1 I;omega
   exact Rat.le_antisymm (Rat.not_lt.1 K) (Rat.not_lt.1 M)
 unfold A9;simp only[E,H];by_cases D:a.num<0
 ·by_cases u:b.num<0
  ·simp only[decide_eq_true D,decide_eq_true u,ne_eq,not_true_eq_false,if_false,if_true];have F:a.num*b.den=-((a.num.natAbs*b.den:Nat):Int):=by
    rw[Int.natCast_mul,<- Int.neg_mul];congr 1;omega
   have B:b.num*a.den=-((b.num.natAbs*a.den:Nat):Int):=by
    rw[Int.natCast_mul,<- Int.neg_mul];congr 1;omega
   rw[F,B];unfold a1C
   repeat' split
   all_goals omega
  ·simp only[decide_eq_true D,decide_eq_false u,ne_eq,reduceCtorEq,not_false_eq_true,if_true];have F:a.num*b.den<0:=Int.mul_neg_of_neg_of_pos D J;have B:0<=b.num*a.den:=Int.mul_nonneg (by omega) (by omega);rw[if_pos (by omega)]
 ·by_cases u:b.num<0
  ·simp only[decide_eq_false D,decide_eq_true u,ne_eq,reduceCtorEq,not_false_eq_true,if_true,if_false];have F:b.num*a.den<0:=Int.mul_neg_of_neg_of_pos u G;have B:0<=a.num*b.den:=Int.mul_nonneg (by omega) (by omega);rw[if_neg (by omega),if_neg (by omega)]
  ·simp only[decide_eq_false D,decide_eq_false u,ne_eq,reduceCtorEq,not_true_eq_false,if_false];have F:a.num*b.den=((a.num.natAbs*b.den:Nat):Int):=by
    rw[Int.natCast_mul];congr 1;omega
   have B:b.num*a.den=((b.num.natAbs*a.den:Nat):Int):=by
    rw[Int.natCast_mul];congr 1;omega
   rw[F,B];unfold a1C
   repeat' split
   all_goals omega
def a8K{d y:Nat}(u:y%2=1)(k:Nat):Nat.gcd (2^k*d) y=Nat.gcd d y:=by
 have h:Nat.Coprime (2^k) y:=by
  apply Nat.Coprime.pow_left;have:Nat.gcd 2 y=Nat.gcd (y%2) 2:=Nat.gcd_rec 2 y;unfold Nat.Coprime;rw[this,u];rfl
 exact Nat.Coprime.gcd_mul_left_cancel d h
def b3E{x y:Nat}(h:y<=x):Nat.gcd (x-y) y=Nat.gcd x y:=by
 have:x=(x-y)+y:=by omega
 conv=>rhs;rw[this]
 rw[Nat.gcd_add_self_left]
def c3W{x y n m:Nat}(u:x%2=1)(A:y%2=1):Nat.gcd (2^n*x) (2^m*y)=2^(min n m)*Nat.gcd x y:=by
 rcases Nat.le_total n m with h|h
 ·rw[Nat.min_eq_left h];obtain⟨k,rfl⟩:∃k,m=n+k:=⟨m-n,by omega⟩
  rw[Nat.pow_add,d0N,Nat.gcd_mul_left,Nat.gcd_comm x,a8K u,Nat.gcd_comm]
 ·rw[Nat.min_eq_right h];obtain⟨k,rfl⟩:∃k,n=m+k:=⟨n-m,by omega⟩
  rw[Nat.pow_add,d0N,Nat.gcd_mul_left,a8K A]
def v2(n:Nat):Nat:=if n=0 then 0 else if n%2=1 then 0 else 1+v2 (n/2)
termination_by n
decreasing_by omega
def a4u{n:Nat}(h:n≠0):∃q,n=2^v2 n*q/\q%2=1:=by
 induction n using Nat.strongRecOn with
 | _ n ih=>
  unfold v2;rw[if_neg h];split
  ·rename_i u;exact⟨n,by simp,u⟩
  ·obtain⟨q,u,A⟩:=ih (n/2) (by omega) (by omega);refine⟨q,?_,A⟩;rw[Nat.pow_add,Nat.pow_one,d0N,<- u];omega
def c4x{n k q:Nat}(h:n=2^k*q)(A:q%2=1):v2 n=k:=by
 induction k generalizing n with
 | zero=>
  unfold v2;rw[Nat.pow_zero,Nat.one_mul]at h;subst h;rw[if_neg (by omega),if_pos A]
 | succ k ih=>
  rw[d0O,Nat.mul_comm (2^k),d0N]at h;have u:n/2=2^k*q:=by omega
  have B:0<2^k*q:=Nat.mul_pos (Nat.pow_pos (by decide)) (by omega);unfold v2;rw[if_neg (by omega),if_neg (by omega),ih u];omega
end Go.Proofs.YtfkipfnkpeobjaaGreatDoor.Nm
namespace Go.Proofs.YtfkipfnkpeobjaaGreatDoor
open Go Go.RowKit Eng
def bs(l:List UInt8):ByteArray:=⟨l.toArray⟩
def R4(a b:List UInt8):bs a++bs b=bs (a++b):=by
 apply ByteArray.ext;simp[bs]
def x9(a:List UInt8):(bs a).size=a.length:=by simp[bs,ByteArray.size]
def a0F(l:List UInt8):(bs l).data.toList=l:=by simp[bs]
def b5h{a b:List UInt8}(h:bs a=bs b):a=b:=by
 have:=congrArg (λx:ByteArray=>x.data.toList) h;simpa[a0F] using this
def a6S(a b:List UInt8):(bs a=bs b)=(a=b):=propext ⟨b5h,λh=>by rw[h]⟩
def a1J(l:List UInt8):(⟨l.toArray⟩:ByteArray)=bs l:=rfl
def b5L(l:List UInt8)(i j:Nat):(bs l).extract i j=bs ((l.take j).drop i):=by
 apply ByteArray.ext;apply Array.ext';simp[bs,ByteArray.data_extract,Array.toList_extract,List.drop_take,List.extract_eq_take_drop]
def sb(l:List UInt8):C:=.v (.string (bs l))
def ints(n:Int):C:=.v (.int .i64 n)
def wd(w:Nat):List C:=[.v (.int .u32 w)]
def lm(w:Nat):List C:=[.v (.int .u64 w)]
attribute [go_sem] sb ints
def b4T(n:Nat):IntKind.u32.wrap (n:Int)=((n%4294967296:Nat):Int):=by
 have h:IntKind.u32.wrap (n:Int)=(n:Int)%4294967296:=by simp[IntKind.wrap,IntKind.signed,IntKind.bits]
 rw[h];omega
def a4L(n:Nat):IntKind.u8.wrap (n:Int)=((n%256:Nat):Int):=by
 have h:IntKind.u8.wrap (n:Int)=(n:Int)%256:=by simp[IntKind.wrap,IntKind.signed,IntKind.bits]
 rw[h];omega
def a6y(n:Nat):IntKind.u64.wrap (n:Int)=((n%18446744073709551616:Nat):Int):=by
 have h:IntKind.u64.wrap (n:Int)=(n:Int)%18446744073709551616:=by simp[IntKind.wrap,IntKind.signed,IntKind.bits]
 rw[h];omega
def a8U(a b:Nat)(ha:a<18446744073709551616)(hb:b<18446744073709551616):bits .or .u64 (a:Int) (b:Int)=((a ||| b:Nat):Int):=bits_or_u64_nat a b ha hb
def c2e(a b:Nat)(D:a<4294967296)(A:b<4294967296):bits .or .u32 (a:Int) (b:Int)=((a ||| b:Nat):Int):=by
 have B:a ||| b<2^32:=Nat.or_lt_two_pow (by omega) (by omega)
 have u:(BitVec.ofInt 32 (a:Int)).toNat=a:=by
  rw[BitVec.ofInt_natCast,BitVec.toNat_ofNat];exact Nat.mod_eq_of_lt (by omega)
 have h:(BitVec.ofInt 32 (b:Int)).toNat=b:=by
  rw[BitVec.ofInt_natCast,BitVec.toNat_ofNat];exact Nat.mod_eq_of_lt (by omega)
 show IntKind.u32.wrap ((BitVec.ofInt 32 (a:Int) ||| BitVec.ofInt 32 (b:Int)).toNat:Int)=_;rw[BitVec.toNat_or,u,h,Eng.wrap_u32 (by omega)]
def a3z(n k:Nat):Int.fdiv (n:Int) (k:Int)=((n/k:Nat):Int):=by
 rw[Int.fdiv_eq_ediv_of_nonneg _ (by omega)];rfl
end Go.Proofs.YtfkipfnkpeobjaaGreatDoor
namespace Go.Proofs.YtfkipfnkpeobjaaGreatDoor.Eng
open Go Go.RowKit
def TT(k:Nat):Operand:=.tmp k
def II(n:Int):Operand:=.const (.int .i64 n)
def OA(d:Nat)(x:IOp):G6:=⟨some d,x,none⟩
def OB(x:IOp):G6:=⟨none,x,none⟩
def OC(d:Nat)(x:IOp)(s:Nat)(b:Bool):G6:=⟨some d,x,some (s,b)⟩
def MM(d s:Nat):G6:=⟨some d,.mv (.tmp s),none⟩
def LL(d z s:Nat):G6:=⟨some d,.load true z (.tmp s),none⟩
def VV(d s:Nat):G6:=⟨some d,.load false 1 (.tmp s),none⟩
def FF(d o s:Nat):G6:=⟨some d,.faddr o (.tmp s),none⟩
def MG(d s k:Nat)(b:Bool):G6:=⟨some d,.mv (.tmp s),some (k,b)⟩
def LG(d z s k:Nat)(b:Bool):G6:=⟨some d,.load true z (.tmp s),some (k,b)⟩
def VG(d s k:Nat)(b:Bool):G6:=⟨some d,.load false 1 (.tmp s),some (k,b)⟩
def FG(d o s k:Nat)(b:Bool):G6:=⟨some d,.faddr o (.tmp s),some (k,b)⟩
end Go.Proofs.YtfkipfnkpeobjaaGreatDoor.Eng
namespace Go.Proofs.YtfkipfnkpeobjaaGreatDoor
open Go Eng
def c9K:List Nat:=[105,131,171,172,173,176,177,178,179,180,181,220,222,224,225,262,264,267,268,269]
def eff(f:Nat):Bool:=c9K.contains f
def kS{P:Program}{f:Nat}{fn:Func}{ir:a3N}(hf:P.funcs[f]?=some fn)(hc:a0D eff P fn=some ir){args:List C}{r:C}(hn:Nat.ble args.length ir.ntmps=true)(h:∀w O,S ⟨P,eff,ir.ntmps,w,λ_=>False,O,[],[]⟩ (Fin P ir.results (Out ⟨P,eff,ir.ntmps,w,λ_=>False,O,[],[]⟩ r)) ⟨j4 0 args,[]⟩ [.code ir.body]):p8 P f args r:=p8.of hf hc (d0n hn) h
def kW{P:Program}{Pw:World->Prop}{f:Nat}{fn:Func}{ir:a3N}(hf:P.funcs[f]?=some fn)(hc:a0D eff P fn=some ir){args:List C}{r:C}(hn:Nat.ble args.length ir.ntmps=true)(h:∀w O,Pw w->S ⟨P,eff,ir.ntmps,w,λ_=>False,O,[],[]⟩ (Fin P ir.results (Out ⟨P,eff,ir.ntmps,w,λ_=>False,O,[],[]⟩ r)) ⟨j4 0 args,[]⟩ [.code ir.body]):a0w P Pw f args r:=a0w.of hf hc (d0n hn) h
end Go.Proofs.YtfkipfnkpeobjaaGreatDoor
namespace Go.Proofs.YtfkipfnkpeobjaaGreatDoor
attribute [local go_sem] Eng.nbq beq_self_eq_true Eng.ww Eng.uk Eng.uk2
open Go Go.RowKit Eng
set_option maxRecDepth 10000
set_option maxHeartbeats 1000000
def a9F(b:UInt8):((b.toNat:Int)=0)=(b=0):=propext ⟨λh=>UInt8.toNat.inj (by simp;omega),λh=>by subst h;rfl⟩
def b8I{α:Type}(x:α)(l:List α):List.drop (Int.toNat 1) (List.take (l.length+1) (x::l))=l:=by simp
def c1h(v:Nat)(b:UInt8):bits .or .u64 (IntKind.u64.wrap (((v%18446744073709551616:Nat):Int)*256)) (IntKind.u64.wrap ((b.toNat:Nat):Int))=(((256*v+b.toNat)%18446744073709551616:Nat):Int):=by
 have u:=b.toNat_lt;have h:IntKind.u64.wrap (((v%18446744073709551616:Nat):Int)*256)=((v%18446744073709551616*256%18446744073709551616:Nat):Int):=by rw[<- a6y];rfl
 rw[h,a6y,a8U _ _ (by omega) (by omega),Nat.mod_eq_of_lt (a:=b.toNat) (by omega),Nm.b9J _ _ (by omega)]
def a1m(l:List UInt8)(G:l.length<=1099511627776):p8 Tryz.prog 127 [sb l] (sb (Nm.trim l)):=by
 refine kS Tryz.func127 (by cbv) (by rfl) λw O=>?_;simp only[j4,TT,II,OA,OC,MM,MG,sb];(repeat first|refine uA ?_|simp(disch:=omega) only[go_sem]);refine S.loop (X:=List UInt8) (λm=>⟨[(0,sb m)],[]⟩) (λm=>Nm.trim m=Nm.trim l) (λm=>m.length) l rfl (by repeat first|refine uA ?_|refine⟨rfl,?_⟩|rfl|simp) ?_
 intro m E;cases m with
 | nil=>
  simp only[sb];(repeat first|refine uA ?_|(apply uK;· first|omega|trivial|(intro h;rw[h];rfl)|(intro h A;rw[h,A];rfl)|(intro h;(try simp at h);omega)|(intros;simp_all<;>omega))|simp only[go_sem,x9,List.length_nil]|simp(disch:=omega) only[ww,x9,List.length_nil]);apply uJ rfl<;>intro u
  ·omega
  rw[<- E];exact uT rfl rfl rfl
 | cons b m=>
  simp only[sb];(repeat first|refine uA ?_|(apply uK;· first|omega|trivial|(intro h;rw[h];rfl)|(intro h A;rw[h,A];rfl)|(intro h;(try simp at h);omega)|(intros;simp_all<;>omega))|simp only[go_sem,x9,a0F,d0j,List.getD_cons_zero,a9F]|simp(disch:=omega) only[ww,x9,a0F,d0j,List.getD_cons_zero,b5L,a9F]);apply uJ rfl<;>intro u
  ·obtain⟨_,rfl⟩:=u;have D:Nm.trim m=Nm.trim l:=by rw[<- E];rfl
   (repeat first|refine uA ?_|(apply uK;· first|omega|trivial|(intro h;rw[h];rfl)|(intro h A;rw[h,A];rfl)|(intro h;(try simp at h);omega)|(intros;simp_all<;>omega))|simp only[go_sem,x9,d0j,b5L,d0w,List.take_succ_cons,List.drop_succ_cons,d0h]|simp(disch:=omega) only[ww,x9,a0F,d0j,b5L,d0w,List.take_succ_cons,List.drop_succ_cons,d0h,b8I]);refine S.next (m:=List.length) (x:=0::m) m D (by simp) (by exact(by repeat first|refine uA ?_|refine⟨rfl,?_⟩|rfl|simp[slot]))
  ·have B:b≠0:=by
    intro B;rcases u with u|u
    ·omega
    ·exact u B
   have F:Nm.trim l=b::m:=by rw[<- E];unfold Nm.trim;rw[if_neg B]
   rw[F];exact uT rfl rfl rfl
def a2O(l:List UInt8)(F:l.length<=1099511627776):p8 Tryz.prog 130 [sb l] (.v (.int .u64 ((Nm.val l%18446744073709551616:Nat):Int))):=by
 refine kS Tryz.func130 (by cbv) (by rfl) λw O=>?_;simp only[j4,TT,II,OA,MM,sb];(repeat first|refine uA ?_|simp only[go_sem,x9]|simp(disch:=omega) only[ww,x9]);refine S.loop (X:=Nat) (λi=>⟨[(0,sb l),(3,.v (.int .u64 ((Nm.val (l.take i)%18446744073709551616:Nat):Int))),(6,ints l.length),(7,ints i)],[]⟩) (λi=>i<=l.length) (λi=>l.length-i) 0 (d0k _) (by repeat first|refine uA ?_|refine⟨rfl,?_⟩|rfl|simp) ?_
 intro i G;simp only[sb,ints];refine uV rfl ?_;apply uJ rfl<;>intro H
 ·have u:i<l.length:=by omega
  have A:l.getD i 0=l[i]:=by rw[d0C,d0b u];rfl
  have B:Nm.val (l.take (i+1))=256*Nm.val (l.take i)+l[i].toNat:=by rw[d0T u,Nm.b0G]
  have E:=l[i].toNat_lt;(repeat first|refine uA ?_|(apply uK;· first|omega|trivial|(intro h;rw[h];rfl)|(intro h D;rw[h,D];rfl)|(intro h;(try simp at h);omega)|(intros;simp_all<;>omega))|simp only[go_sem,Nat.reduceLeDiff,Int.reducePow,x9,a0F,A,c1h]|simp(disch:=omega) only[ww]);refine S.next (i+1) u (by omega) (by rw[B];exact(by repeat first|refine uA ?_|refine⟨rfl,?_⟩|rfl|simp[slot]))
 ·have u:i=l.length:=by omega
  subst u;rw[d0w];exact uT rfl rfl rfl
def b8(n i:Nat):List C:=((Nm.be8 n).take i++List.replicate (8-i) 0).map λb:UInt8=>.v (.int .u8 ((b.toNat:Nat):Int))
def a8D(n k:Nat):IntKind.u8.wrap (Int.fdiv (n:Int) (k:Int))=(((Nm.oB (n/k)).toNat:Nat):Int):=by
 rw[a3z,a4L,Nm.a3d]
def c1g(n i:Nat)(h:i<=8):(b8 n i).length=8:=by simp[b8,Nm.be8];omega
def c5s(n:Nat):b8 n 0=[.v (.int .u8 0),.v (.int .u8 0),.v (.int .u8 0),.v (.int .u8 0),.v (.int .u8 0),.v (.int .u8 0),.v (.int .u8 0),.v (.int .u8 0)]:=rfl
def c5v(n i:Nat)(h:i<8):(b8 n i).take i++[C.v (.int .u8 (IntKind.u8.wrap (Int.fdiv (n:Int) (2^min (56-8*(i:Int)).toNat 64))))]++(b8 n i).drop (i+1)=b8 n (i+1):=by
 have:i=0\/i=1\/i=2\/i=3\/i=4\/i=5\/i=6\/i=7:=by omega
 have e:IntKind.u8.wrap (Int.fdiv (n:Int) (2^min (56-8*(i:Int)).toNat 64))=(((Nm.oB (n/2^(56-8*i))).toNat:Nat):Int):=by
  rw[<- a8D,show min (56-8*(i:Int)).toNat 64=56-8*i by omega];congr 2
 rw[e];rcases this with rfl|rfl|rfl|rfl|rfl|rfl|rfl|rfl<;>simp[b8,Nm.be8,List.replicate]
theorem b7T{α:Type}(k:Nat)(f:α->Value):∀l:List α,C.bdL k (l.map λx=>.v (f x))=true
 | []=>rfl
 | x::l=>by simp only[d0l,C.bdL,C.bd,Bool.true_and];exact b7T k f l
def b4O(n:Nat):a0L (List.map b2I (List.take 8 (b8 n 8)))=some (Nm.be8 n):=by
 have:List.map b2I (List.take 8 (b8 n 8))=(Nm.be8 n).map u7:=by simp[b8,Nm.be8,b2I,u7]
 rw[this,Q8]
def a1A(n:Nat)(D:n<18446744073709551616):p8 Tryz.prog 129 [.v (.int .u64 (n:Int))] (sb (Nm.enc n)):=by
 refine kS Tryz.func129 (by cbv) (by rfl) λw O=>?_;simp only[j4,TT,II,OA,OB,MM,sb];(repeat first|refine uA ?_|simp(disch:=omega) only[go_sem]);refine S.loop (X:=Nat) (λi=>⟨[(0,.v (.int .u64 (n:Int))),(3,.bp 0 0),(5,ints i)],[.box 268 (b8 n i)]⟩) (λi=>i<=8) (λi=>8-i) 0 (d0k _) (by rw[c5s];exact(by repeat first|refine uA ?_|refine⟨rfl,?_⟩|rfl|simp)) ?_
 intro i E;simp only[ints];refine uV rfl ?_;apply uJ rfl<;>intro F
 ·have u:=c1g n i (by omega);(repeat first|refine uA ?_|(apply uK;· first|omega|trivial|(intro h;rw[h];rfl)|(intro h B;rw[h,B];rfl)|(intro h;(try simp at h);omega)|(intros;simp_all<;>omega))|simp only[go_sem,d0A,Nat.mul_one]|simp(disch:=omega) only[ww]);refine S.next (i+1) (by omega) (by omega) (by rw[c5v n i (by omega)];exact Ent.mk _ _ (by repeat first|refine uA ?_|refine⟨rfl,?_⟩|rfl|simp[slot]) (C9.cons (RI.box _ _ _ (j3.refl (b7T _ _ _))) C9.nil) (d0k _))
 ·have A:i=8:=by omega
  subst A;have u:=c1g n 8 (by omega);(repeat first|refine uA ?_|(apply uK;· first|omega|trivial|(intro h;rw[h];rfl)|(intro h B;rw[h,B];rfl)|(intro h;(try simp at h);omega)|(intros;simp_all<;>omega))|simp only[go_sem,Nat.reduceAdd,Nat.reduceLeDiff,b4O,a1J,Nm.b5l D]|simp(disch:=omega) only[ww,b4O,a1J,Nm.b5l D]|refine uB (a1m (Nm.be8 n) (d0n rfl)) rfl ?_);exact uS rfl rfl
def b5E(n:Int)(u:n<=9223372036854775807):p8 Tryz.prog 154 [ints n] (sb (Nm.enc n.toNat)):=by
 refine kS Tryz.func154 (by cbv) (by rfl) λw O=>?_;simp only[j4,TT,II,OA,MM,sb,ints];refine uV rfl ?_;apply uJ rfl<;>intro A
 ·have h:n.toNat=0:=by omega
  rw[h,Nm.a3s];exact uT rfl rfl rfl
 ·obtain⟨m,rfl⟩:=Int.eq_ofNat_of_zero_le (show 0<=n by omega);(repeat first|refine uA ?_|simp(disch:=omega) only[go_sem]|refine uB (a1A m (by omega)) rfl ?_);exact uS rfl rfl
end Go.Proofs.YtfkipfnkpeobjaaGreatDoor
namespace Go.Proofs.YtfkipfnkpeobjaaGreatDoor.Eng
open Go Go.RowKit
def c8H(E:Ctx)(e sz:Nat)(es:List (List C))(y:Value)(w':World):Prop:=
 Below E.w0.heap.size E.w0 w'/\(∀b,E8 y=some b->E.w0.heap.size<=b/\b<w'.heap.size)/\N8 [] w' (λb=>E.av b\/E8 y=some b) y (.row e sz es)
def FNew(P:Program)(f:Nat)(args:List C)(e sz:Nat)(es:List (List C)):Prop:=∀(O:Nat->Prop) (w:World) (vs:List Value),(∀b,O b->b<w.heap.size)->FzL w O args vs ->
 Calls P f vs.toArray w λu h=>∃y,u=.returned y/\Below w.heap.size w h/\(∀b,E8 y=some b->w.heap.size<=b/\b<h.heap.size)/\N8 [] h (λb=>O b\/E8 y=some b) y (.row e sz es)
def a4F{w:World}{O O':Nat->Prop}{ν u:List Value}{x:Value}{e sz:Nat}{es:List (List C)}(h:∀b,O' b->O b)(hr:N8 ν w O x (.row e sz es)):N8 u w O' x (.row e sz es):=by
 obtain⟨E,vs,D,B,A⟩:=hr;exact⟨E,vs,FzL.keep (Keeps.sub h) D,B,A⟩
def H6.new{E:Ctx}(B:E.own0=λ_=>False){rs:List Res}{cs:List C}{k e sz:Nat}{es:List (List C)}(h:a0K cs=.rv k)(I:rs[k]?=some (.row e sz es)):H6 E rs (c8H E e sz es) cs:=by
 intro M ν w y J F O G;rw[h]at G;simp only[Den]at G;have H:=J.get I G.1;have A:∀b,E8 y=some b->owned rs ν b:=λb u=>⟨k,_,y,I,G.1,u⟩
 refine⟨⟨F.os,F.tape,F.output,F.size,λb u=>F.block b u (by rw[B];exact λh=>h)⟩,λb u=>?_,a4F (λb u=>?_) H⟩
 ·obtain⟨K,N,D⟩:=J.low b (A b u);rw[B]at D;rcases D with D|D
  ·exact D.elim
  ·exact⟨D,K⟩
 ·rcases u with u|u
  ·exact .inl u
  ·exact .inr (A b u)
def FNew.of{eff:Nat->Bool}{P:Program}{f:Nat}{D:Func}{B:a3N}(H:P.funcs[f]?=some D)(F:a0D eff P D=some B){u:List C}{e sz:Nat}{es:List (List C)}(G:u.length<=B.ntmps)
  (h:∀w O,S ⟨P,eff,B.ntmps,w,λ_=>False,O,[],[]⟩ (Fin P B.results (c8H ⟨P,eff,B.ntmps,w,λ_=>False,O,[],[]⟩ e sz es)) ⟨j4 0 u,[]⟩ [.code B.body]):FNew P f u e sz es:=by
 intro O w vs E A;exact enter H F O E u A G (h w O)
def FNew.spec{P:Program}{f:Nat}{u:List C}{e sz:Nat}{es:List (List C)}(h:FNew P f u e sz es):p8 P f u (.sl sz es):=by
 intro O w vs D F;refine(h O w vs D F).mono ?_;rintro U T ⟨y,rfl,E,K,J,N,G,M,H⟩;refine⟨y,rfl,E,c0n H rfl J (FzL.keep (Keeps.sub λb A=>.inl A) G) M λb A=>?_⟩;obtain⟨R,I⟩:=K b A;exact⟨I,λB=>by have:=D b B;omega⟩
def FNew.t{E:Ctx}{rs:List Res}{f:Nat}{u:List C}{e sz:Nat}{es:List (List C)}(h:FNew E.P f u e sz es)(B:(C.bdL rs.length u&&C.clL u)=true):l5 E rs f u (.rv rs.length) (rs++[.row e sz es]) []:=by
 rw[d0s]at B;intro M ν w vs H U Y T;have D:∀b,OO M rs ν b->b<w.heap.size:=λb B=>by
  rcases B with B|B
  ·exact H.av b B
  ·exact(H.low b B).1
 refine(h (OO M rs ν) w vs D (T.fz B.2)).mono ?_;rintro ee Z ⟨y,rfl,R,W,K⟩;have F:=H.add (x:=y) (r:=.row e sz es) R W (λ_ _=>a4F (λb B=>by
  rcases B with B|⟨k,q,z,G,I,O⟩
  ·exact .inl (.inl B)
  ·rcases d0B k rs.length with D|J
   ·rw[d0v D]at G;rw[d0v (by rw[H.len];exact D)]at I;exact .inl (.inr ⟨k,q,z,G,I,O⟩)
   ·rw[d0D J]at G;rw[d0D (by rw[H.len];exact J),H.len]at I;cases N:k-rs.length with
    | zero=>
     rw[N]at G I;simp at G I;subst G I;exact .inr O
    | succ n=>rw[N]at G;simp at G) K)
 refine⟨y,ν++[y],rfl,F.1,F.2,?_⟩;simp only[Den];obtain⟨_,X,_,_,V⟩:=K;exact⟨by rw[<- H.len];simp,V.slice.elim λA h=>h.elim λc h=>⟨A,_,c,h⟩⟩
def j5.vw{E:Ctx}{rs:List Res}{f:Nat}{args args':List C}{K:C->List Res->List Nat->Prop}{r:C}(hs:p8 E.P f args' r)(hi:j3 rs [] args args')(hcl:C.clL args'=true)(hr:r.flat=true)(hk:K r rs []):j5 E rs f args K:=
 j5.quiet (W9.view (λ_=>hs) (λ_=>hi) (λ_=>hcl) hr) hk
def a1H.vw{E:Ctx}{rs:List Res}{p:Bool}{f:Nat}{args args':List C}{K:C->Prop}{r:C}(hs:p8 E.P f args' r)(hi:j3 rs [] args args')(hcl:C.clL args'=true)(hr:r.flat=true)(hk:K r):a1H E rs p f args K:=
 a1H.mk (W9.view (λ_=>hs) (λ_=>hi) (λ_=>hcl) hr) hk
end Go.Proofs.YtfkipfnkpeobjaaGreatDoor.Eng
namespace Go.Proofs.YtfkipfnkpeobjaaGreatDoor
attribute [local go_sem] Eng.nbq beq_self_eq_true Eng.ww Eng.uk Eng.uk2
open Go Go.RowKit Eng
set_option maxRecDepth 10000
set_option maxHeartbeats 1000000
def ws(l:List Nat):List (List C):=l.map wd
def E9(l:List Nat):(ws l).length=l.length:=by simp[ws]
def H7(l:List Nat)(i:Nat):(ws l)[i]?=(l[i]?).map wd:=by simp[ws]
def N9(l:List Nat)(i v:Nat):(ws l).set i [.v (.int .u32 (v:Int))]=ws (l.set i v):=by
 simp[ws,wd,List.map_set]
def a4t(n:Nat):List.replicate n [C.v (.int .u32 0)]=ws (List.replicate n 0):=by simp[ws,wd]
def c9B(n:Nat)(h:n<=1099511627776):IntKind.i64.wrap (((n:Int)+3).tdiv 4)=(((n+3)/4:Nat):Int):=by
 have:((n:Int)+3).tdiv 4=(((n+3)/4:Nat):Int):=rfl;rw[this,Eng.wrap_i64 (by omega)]
def c9P(i:Nat)(h:i<=1099511627776):IntKind.i64.wrap ((i:Int).tdiv 4)=((i/4:Nat):Int):=by
 have:(i:Int).tdiv 4=((i/4:Nat):Int):=rfl;rw[this,Eng.wrap_i64 (by omega)]
def c8X(i:Nat):(i:Int).tmod 4=((i%4:Nat):Int):=rfl
def c0X(o:Nat)(b:UInt8)(i:Nat)(u:o<4294967296)(h:b.toNat*2^(8*(i%4))<4294967296) :
  bits .or .u32 (o:Int) (IntKind.u32.wrap (IntKind.u32.wrap ((b.toNat:Nat):Int)*2^min (((i%4:Nat):Int)*8).toNat 32))=((o ||| b.toNat*2^(8*(i%4)):Nat):Int):=by
 have A:=b.toNat_lt;rw[Eng.wrap_u32 (n:=((b.toNat:Nat):Int)) (by omega),show min (((i%4:Nat):Int)*8).toNat 32=8*(i%4) by omega];have e:((b.toNat:Nat):Int)*2^(8*(i%4))=((b.toNat*2^(8*(i%4)):Nat):Int):=by rw[Int.natCast_mul,Int.natCast_pow];rfl
 rw[e,Eng.wrap_u32 (by omega),c2e _ _ u h]
def a3I(l:List UInt8)(R:l.length<=1099511627776):FNew Tryz.prog 131 [sb l] 232 1 (ws (Nm.N7 l)):=by
 refine FNew.of (eff:=eff) Tryz.func131 (by cbv) (by exact d0n rfl) λw O=>?_;simp only[j4,TT,II,OA,OB,MM,VV,sb];have U:=Nm.a0J l;have D:=λout h=>Nm.b5e (l:=l) (out:=out) h;have K:=a1m l R;generalize Nm.trim l=m at*;have P:m.length<=1099511627776:=by omega
 (repeat first|refine uA ?_|(apply uK;· first|omega|trivial|(intro h;rw[h];rfl)|(intro h I;rw[h,I];rfl)|(intro h;(try simp at h);omega)|(intros;simp_all<;>omega))|simp only[go_sem,Nat.reduceAdd,x9]|simp(disch:=omega) only[ww,c9B m.length P]|refine uB K rfl ?_);refine S.loop (X:=Nat×List Nat) (λx=>⟨[(0,sb m),(3,.rv 0),(14,ints m.length),(15,ints x.1)],[.row 232 1 (ws x.2)]⟩) (λx=>x.1<=m.length/\Nm.a6G m x.1 x.2) (λx=>m.length-x.1) (0,List.replicate ((m.length+3)/4) 0) ⟨d0k _,Nm.b3S m⟩ (by simp only[<- a4t];exact(by repeat first|refine uA ?_|refine⟨rfl,?_⟩|rfl|simp[slot])) ?_
 rintro⟨i,out⟩ ⟨T,u⟩;simp only[sb,ints]at T u ⊢;refine uV rfl ?_;apply uJ rfl<;>intro V
 ·have A:i<m.length:=by omega
  have N:=u.1;have H:i/4<out.length:=by omega
  obtain⟨E,M,F⟩:=Nm.b3X u A H;have G:out[i/4]?=some out[i/4]:=d0b H;have B:=u.2.1 _ (d0z H);have J:m.getD ((m.length:Int)-1-(i:Int)).toNat 0=m[m.length-1-i]:=by
   rw[show((m.length:Int)-1-(i:Int)).toNat=m.length-1-i by omega,d0C,d0b (by omega)];rfl
  (repeat first|refine uA ?_|(apply uK;· first|omega|trivial|(intro h;rw[h];rfl)|(intro h I;rw[h,I];rfl)|(intro h;(try simp at h);omega)|(intros;simp_all<;>omega))|simp only[go_sem,Nat.reduceAdd,Nat.reduceLeDiff,x9,a0F,E9,H7,G,d0e,c9P i (by omega),c8X,wd]|simp(disch:=omega) only[ww,J,c0X _ _ _ B F,N9]);refine S.next (x:=(i,out)) (i+1,_) ⟨A,E⟩ (by simp only;omega) (by repeat first|refine uA ?_|refine⟨rfl,?_⟩|rfl|simp[slot])
 ·have A:i=m.length:=by omega
  subst A;(repeat first|refine uA ?_|simp(disch:=omega) only[go_sem]);rw[<- D _ u];exact S.done (H6.new rfl rfl rfl)
def b5R(n k:Nat):IntKind.u8.wrap (Int.fdiv (n:Int) (k:Int))=(((Nm.oB (n/k)).toNat:Nat):Int):=a8D n k
def b5Y(l:List UInt8)(i:Nat)(v:UInt8):(l.map u7).set i [.v (.int .u8 ((v.toNat:Nat):Int))]=(l.set i v).map u7:=by
 simp[u7,List.map_set]
def a4v(n:Nat):List.replicate n [C.v (.int .u8 0)]=(List.replicate n (0:UInt8)).map u7:=by simp[u7]
def a6q(l:List Nat)(hl:l.length<=274877906944)(T:Nm.I9 l):p8 Tryz.prog 132 [.sl 1 (ws l)] (sb (Nm.enc (Nm.wv 4294967296 l))):=by
 refine kS Tryz.func132 (by cbv) (by rfl) λw O=>?_;simp only[j4,TT,II,OA,OB,MM,VV,sb];(repeat first|refine uA ?_|(apply uK;· first|omega|trivial|(intro h;rw[h];rfl)|(intro h F;rw[h,F];rfl)|(intro h;(try simp at h);omega)|(intros;simp_all<;>omega))|simp only[go_sem,Nat.reduceAdd,E9]|simp(disch:=omega) only[ww]);refine S.loop (X:=Nat×List UInt8) (λx=>⟨[(0,.sl 1 (ws l)),(3,.rv 0),(11,.sl 1 (ws l)),(12,ints l.length),(13,ints x.1)],[.row 5 1 (x.2.map u7)]⟩) (λx=>x.1<=l.length/\Nm.a7F l x.1 x.2) (λx=>l.length-x.1) (0,List.replicate (4*l.length) 0) ⟨d0k _,Nm.b5q l⟩ (by simp only[<- a4v];exact(by repeat first|refine uA ?_|refine⟨rfl,?_⟩|rfl|simp[slot])) ?_
 rintro⟨i,b⟩ ⟨hi,u⟩;simp only[ints]at hi u ⊢;have P:=u.1;refine uV rfl ?_;apply uJ rfl<;>intro hc
 ·have A:i<l.length:=by omega
  have G:l[i]?=some l[i]:=d0b A;have D:=T _ (d0z A);have R:(l.length:Int)-1-(i:Int)=((l.length-1-i:Nat):Int):=by omega
  have H:=Nm.b6j u A D (Nm.a3d (l[i]/16777216)) (Nm.a3d (l[i]/65536)) (Nm.a3d (l[i]/256)) (Nm.a3d l[i]);have w1:IntKind.u8.wrap ((l[i]:Int).fdiv 16777216)=(((Nm.oB (l[i]/16777216)).toNat:Nat):Int):=b5R l[i] 16777216;have M:IntKind.u8.wrap ((l[i]:Int).fdiv 65536)=(((Nm.oB (l[i]/65536)).toNat:Nat):Int):=b5R l[i] 65536;have V:IntKind.u8.wrap ((l[i]:Int).fdiv 256)=(((Nm.oB (l[i]/256)).toNat:Nat):Int):=b5R l[i] 256;have Z:IntKind.u8.wrap (l[i]:Int)=(((Nm.oB l[i]).toNat:Nat):Int):=by rw[a4L,Nm.a3d]
  generalize Nm.oB (l[i]/16777216)=E at*;generalize Nm.oB (l[i]/65536)=I at*;generalize Nm.oB (l[i]/256)=J at*;generalize Nm.oB l[i]=x3 at*;generalize aa:l.length-1-i=k at*;have W:(4*(k:Int)).toNat=4*k:=by omega
  have n1:(4*(k:Int)+1).toNat=4*k+1:=by omega
  have U:(4*(k:Int)+2).toNat=4*k+2:=by omega
  have N:(4*(k:Int)+3).toNat=4*k+3:=by omega
  have K:b[4*k]?=some b[4*k]:=d0b (by omega);have Y:(b.set (4*k) E)[4*k+1]?=some _:=d0b (by simp;omega);have g2:((b.set (4*k) E).set (4*k+1) I)[4*k+2]?=some _:=d0b (by simp;omega);have g3:(((b.set (4*k) E).set (4*k+1) I).set (4*k+2) J)[4*k+3]?=some _:=d0b (by simp;omega)
  (repeat first|refine uA ?_|(apply uK;· first|omega|trivial|(intro h;rw[h];rfl)|(intro h F;rw[h,F];rfl)|(intro h;(try simp at h);omega)|(intros;simp_all<;>omega))|simp only[go_sem,Nat.reduceAdd,Nat.reduceLeDiff,Int.reducePow,E9,H7,G,d0e,wd,w1,M,V,Z,Y,g2,g3,b5Y,u7,d0S,d0q]|simp(disch:=omega) only[ww,d0e,R,W,n1,U,N,K,u7]);refine S.next (x:=(i,b)) (i+1,_) ⟨A,H⟩ (by simp only;omega) (by repeat first|refine uA ?_|refine⟨rfl,?_⟩|rfl|simp[slot])
 ·have A:i=l.length:=by omega
  subst A;have B:=Nm.b7l u;(repeat first|refine uA ?_|simp only[go_sem,Q8,a1J,B]|simp(disch:=omega) only[ww,Q8,a1J,B]|refine uB (a1m b (by omega)) rfl ?_);exact uS rfl rfl
def a4b(n:Nat):IntKind.u32.wrap (n:Int)=((n%4294967296:Nat):Int):=b4T n
def a2h(n:Nat):Int.fdiv (n:Int) 4294967296=((n/4294967296:Nat):Int):=a3z n 4294967296
def f_add(a b:List UInt8)(ha:a.length<=549755813888)(hb:b.length<=549755813888):p8 Tryz.prog 155 [sb a,sb b] (sb (Nm.enc (Nm.val a+Nm.val b))):=by
 refine kS Tryz.func155 (by cbv) (by rfl) λw O=>?_;simp only[j4,TT,II,OA,OB,OC,MM,VV,MG,sb];have ar:=Nm.a0J a;have av:=Nm.a0J b;have ae:=Nm.X5 a;have ak:=Nm.X5 b;have aq:=Nm.a0o (Nm.trim a);have am:=Nm.a0o (Nm.trim b);have T:=Nm.a1o (Nm.trim a);have M:=Nm.a1o (Nm.trim b);have aj:=Nm.a1n (Nm.trim a);have ag:=Nm.a1n (Nm.trim b);have ai:=a1m a (by omega);have ab:=a1m b (by omega);rw[Nm.a9j]at aq am;generalize Nm.trim a=x at*;generalize Nm.trim b=y at*;(repeat first|refine uA ?_|simp(disch:=omega) only[go_sem,Nat.reduceAdd,x9]|refine uB ai rfl ?_|refine uB ab rfl ?_);apply uJ rfl<;>intro J
 ·obtain⟨h1,h2⟩:=J;have hx:=Nm.a1u (l:=x) (k:=7) (by omega);have hy:=Nm.a1u (l:=y) (k:=7) (by omega);have e1:Nm.val x%18446744073709551616=Nm.val x:=Nat.mod_eq_of_lt (by omega);have e2:Nm.val y%18446744073709551616=Nm.val y:=Nat.mod_eq_of_lt (by omega);have fx:=a2O x (by omega);have fy:=a2O y (by omega);rw[e1]at fx;rw[e2]at fy;have hf:=a1A (Nm.val x+Nm.val y) (by omega);rw[<- ae,<- ak];(repeat first|refine uA ?_|simp(disch:=omega) only[go_sem]|refine uB fx rfl ?_|refine uB fy rfl ?_|refine uB hf rfl ?_);exact uS rfl rfl
 ·have aa:=(a3I x (by omega)).spec;have ac:=(a3I y (by omega)).spec;rw[<- ae,<- ak,<- T,<- M];generalize Nm.N7 x=p at*;generalize Nm.N7 y=q at*;(repeat first|refine uA ?_|simp(disch:=omega) only[go_sem,E9]|refine uB aa rfl ?_|refine uB ac rfl ?_);have zs:p.length<=137438953472:=by omega
  have au:q.length<=137438953472:=by omega
  have al:∀(x y out:List Nat) (i c:Nat),Nm.a5l x y i out c->i<x.length->(∀w∈x,w<4294967296)->(∀w∈y,w<4294967296)->∀s,s=c+x.getD i 0+y.getD i 0->Nm.a5l x y (i+1) (out.set i (s%4294967296)) (s/4294967296):=λx y out i c h Z hx hy s I=>by
   rw[Nm.getD_lt Z]at I;refine Nm.b6W h Z (hx _ (d0z Z)) ?_ I;rcases d0B i y.length with h1|h1
   ·rw[Nm.getD_lt h1];exact hy _ (d0z h1)
   ·rw[d0C,d0J h1];decide
  apply S.cond rfl<;>intro J
  all_goals simp only[d0t,d0x]at J
  all_goals clear aa ac ai ab
  ·rw[Nat.add_comm];generalize hP:q=P at*;generalize hQ:p=Q at*;have N:Q.length<=P.length:=by omega
   have ao:P.length<=137438953472:=by omega
   have H:∀w∈P,w<4294967296:=ag;have G:∀w∈Q,w<4294967296:=aj;clear hP hQ T M J;(repeat first|refine uA ?_|simp(disch:=omega) only[go_sem,Nat.reduceAdd,ww,E9]);have V:((P.length:Int)+1).toNat=P.length+1:=by omega
   refine S.loop (X:=Nat×List Nat×Nat) (λx=>⟨[(5,.sl 1 (ws P)),(6,.sl 1 (ws Q)),(7,.rv 0),(8,.v (.int .u64 (x.2.2:Int))),(44,.sl 1 (ws P)),(45,ints P.length),(46,ints x.1)],[.row 232 1 (ws x.2.1)]⟩) (λx=>x.1<=P.length/\Nm.a5l P Q x.1 x.2.1 x.2.2) (λx=>P.length-x.1) (0,List.replicate (P.length+1) 0,0) ⟨d0k _,Nm.b0v P Q⟩ (by simp only[<- a4t];rw[V];exact(by repeat first|refine uA ?_|refine⟨rfl,?_⟩|rfl|simp)) ?_;rintro⟨i,out,c⟩ ⟨Z,u⟩;simp only[ints]at Z u ⊢;have an:=u.1;have ap:=u.2.2.1;refine uV rfl ?_;apply uJ rfl<;>intro J
   ·have A:i<P.length:=by omega
    have W:P[i]?=some P[i]:=d0b A;have ah:=H _ (d0z A);have D:=al P Q out i c u A H G;rw[Nm.getD_lt A]at D;have B:out[i]?=some out[i]:=d0b (by omega);generalize P[i]=K at*;(repeat first|refine uA ?_|simp(disch:=omega) only[go_sem,ww,E9,H7,W,d0e,wd]);apply uJ rfl<;>intro J
    ·have F:i<Q.length:=by omega
     have U:Q[i]?=some Q[i]:=d0b F;have af:=G _ (d0z F);rw[Nm.getD_lt F]at D;generalize Q[i]=qi at*;obtain⟨s,I⟩:∃s:Nat,s=c+K+qi:=⟨_,rfl⟩
     have E:(c:Int)+(K:Int)+(qi:Int)=(s:Int):=by omega
     have D:=D s I;(repeat first|refine uA ?_|simp(disch:=omega) only[go_sem,Nat.reduceAdd,Nat.reduceLeDiff,Int.reducePow,ww,E9,H7,U,B,d0e,wd,E,a4b,a2h,N9]);refine S.next (x:=(i,out,c)) (i+1,_,_) ⟨A,D⟩ (by simp only;omega) (by repeat first|refine uA ?_|refine⟨rfl,?_⟩|rfl|simp)
    ·have Y:Q.getD i 0=0:=by rw[d0C,d0J (by omega)];rfl
     rw[Y,Nat.add_zero]at D;obtain⟨s,I⟩:∃s:Nat,s=c+K:=⟨_,rfl⟩
     have E:(c:Int)+(K:Int)=(s:Int):=by omega
     have D:=D s I;(repeat first|refine uA ?_|simp(disch:=omega) only[go_sem,Nat.reduceAdd,Nat.reduceLeDiff,Int.reducePow,ww,E9,H7,B,d0e,wd,E,a4b,a2h,N9]);refine S.next (x:=(i,out,c)) (i+1,_,_) ⟨A,D⟩ (by simp only;omega) (by repeat first|refine uA ?_|refine⟨rfl,?_⟩|rfl|simp)
   ·have A:i=P.length:=by omega
    subst A;obtain⟨he,R⟩:=Nm.b1s u N;have B:out[P.length]?=some out[P.length]:=d0b (by omega);rw[<- he];have ht:=a6q (out.set P.length c) (by rw[d0S];omega) R;(repeat first|refine uA ?_|simp(disch:=omega) only[go_sem,Nat.reduceAdd,Nat.reduceLeDiff,ww,E9,H7,B,d0e,wd,N9]|(refine uC ht ?_ ?_ ?_;exact rfl;focus (repeat' first|exact j3.nil|exact Imp.refl rfl|exact Imp.frz rfl rfl rfl|(refine Imp.O0 rfl rfl ?_ ?_;(focus ((try simp only[d0c,E9,H7,B,d0e,wd,N9]);omega));(focus first|rfl|assumption))|refine j3.cons ?_ ?_);done));exact uS rfl rfl
  ·generalize hP:p=P at*;generalize hQ:q=Q at*;have N:Q.length<=P.length:=by omega
   have ao:P.length<=137438953472:=by omega
   have H:∀w∈P,w<4294967296:=aj;have G:∀w∈Q,w<4294967296:=ag;clear hP hQ T M J;(repeat first|refine uA ?_|simp(disch:=omega) only[go_sem,Nat.reduceAdd,ww,E9]);have V:((P.length:Int)+1).toNat=P.length+1:=by omega
   refine S.loop (X:=Nat×List Nat×Nat) (λx=>⟨[(5,.sl 1 (ws P)),(6,.sl 1 (ws Q)),(7,.rv 0),(8,.v (.int .u64 (x.2.2:Int))),(44,.sl 1 (ws P)),(45,ints P.length),(46,ints x.1)],[.row 232 1 (ws x.2.1)]⟩) (λx=>x.1<=P.length/\Nm.a5l P Q x.1 x.2.1 x.2.2) (λx=>P.length-x.1) (0,List.replicate (P.length+1) 0,0) ⟨d0k _,Nm.b0v P Q⟩ (by simp only[<- a4t];rw[V];exact(by repeat first|refine uA ?_|refine⟨rfl,?_⟩|rfl|simp)) ?_;rintro⟨i,out,c⟩ ⟨Z,u⟩;simp only[ints]at Z u ⊢;have an:=u.1;have ap:=u.2.2.1;refine uV rfl ?_;apply uJ rfl<;>intro J
   ·have A:i<P.length:=by omega
    have W:P[i]?=some P[i]:=d0b A;have ah:=H _ (d0z A);have D:=al P Q out i c u A H G;rw[Nm.getD_lt A]at D;have B:out[i]?=some out[i]:=d0b (by omega);generalize P[i]=K at*;(repeat first|refine uA ?_|simp(disch:=omega) only[go_sem,ww,E9,H7,W,d0e,wd]);apply uJ rfl<;>intro J
    ·have F:i<Q.length:=by omega
     have U:Q[i]?=some Q[i]:=d0b F;have af:=G _ (d0z F);rw[Nm.getD_lt F]at D;generalize Q[i]=qi at*;obtain⟨s,I⟩:∃s:Nat,s=c+K+qi:=⟨_,rfl⟩
     have E:(c:Int)+(K:Int)+(qi:Int)=(s:Int):=by omega
     have D:=D s I;(repeat first|refine uA ?_|simp(disch:=omega) only[go_sem,Nat.reduceAdd,Nat.reduceLeDiff,Int.reducePow,ww,E9,H7,U,B,d0e,wd,E,a4b,a2h,N9]);refine S.next (x:=(i,out,c)) (i+1,_,_) ⟨A,D⟩ (by simp only;omega) (by repeat first|refine uA ?_|refine⟨rfl,?_⟩|rfl|simp)
    ·have Y:Q.getD i 0=0:=by rw[d0C,d0J (by omega)];rfl
     rw[Y,Nat.add_zero]at D;obtain⟨s,I⟩:∃s:Nat,s=c+K:=⟨_,rfl⟩
     have E:(c:Int)+(K:Int)=(s:Int):=by omega
     have D:=D s I;(repeat first|refine uA ?_|simp(disch:=omega) only[go_sem,Nat.reduceAdd,Nat.reduceLeDiff,Int.reducePow,ww,E9,H7,B,d0e,wd,E,a4b,a2h,N9]);refine S.next (x:=(i,out,c)) (i+1,_,_) ⟨A,D⟩ (by simp only;omega) (by repeat first|refine uA ?_|refine⟨rfl,?_⟩|rfl|simp)
   ·have A:i=P.length:=by omega
    subst A;obtain⟨he,R⟩:=Nm.b1s u N;have B:out[P.length]?=some out[P.length]:=d0b (by omega);rw[<- he];have ht:=a6q (out.set P.length c) (by rw[d0S];omega) R;(repeat first|refine uA ?_|simp(disch:=omega) only[go_sem,Nat.reduceAdd,Nat.reduceLeDiff,ww,E9,H7,B,d0e,wd,N9]|(refine uC ht ?_ ?_ ?_;exact rfl;focus (repeat' first|exact j3.nil|exact Imp.refl rfl|exact Imp.frz rfl rfl rfl|(refine Imp.O0 rfl rfl ?_ ?_;(focus ((try simp only[d0c,E9,H7,B,d0e,wd,N9]);omega));(focus first|rfl|assumption))|refine j3.cons ?_ ?_);done));exact uS rfl rfl
def b0z(p q c:Nat)(B:p<4294967296)(D:q<4294967296)(E:c<=1):∃t c':Nat,IntKind.u32.wrap (IntKind.u64.wrap (IntKind.u64.wrap ((p:Int)-(c:Int))-(q:Int)))=(t:Int)/\Int.fdiv (IntKind.u64.wrap (IntKind.u64.wrap ((p:Int)-(c:Int))-(q:Int))) 9223372036854775808=(c':Int)/\t<4294967296/\c'<=1/\t+c+q=p+4294967296*c':=by
 have u:∀n:Int,IntKind.u64.wrap n=n%18446744073709551616:=λn=>by simp[IntKind.wrap,IntKind.signed,IntKind.bits]
 have A:∀n:Int,IntKind.u32.wrap n=n%4294967296:=λn=>by simp[IntKind.wrap,IntKind.signed,IntKind.bits]
 rw[u,u,A];by_cases h:c+q<=p
 ·refine⟨p-c-q,0,by omega,?_,by omega,by omega,by omega⟩;rw[show(((p:Int)-(c:Int))%18446744073709551616-(q:Int))%18446744073709551616=((p-c-q:Nat):Int) by omega];have:=a3z (p-c-q) 9223372036854775808;rw[show((9223372036854775808:Nat):Int)=9223372036854775808 from rfl]at this;rw[this,Nat.div_eq_of_lt (by omega)]
 ·refine⟨p+4294967296-c-q,1,by omega,?_,by omega,by omega,by omega⟩;rw[show(((p:Int)-(c:Int))%18446744073709551616-(q:Int))%18446744073709551616=((p+18446744073709551616-c-q:Nat):Int) by omega];have:=a3z (p+18446744073709551616-c-q) 9223372036854775808;rw[show((9223372036854775808:Nat):Int)=9223372036854775808 from rfl]at this;rw[this];congr 1;omega
def c2h(p c:Nat)(B:p<4294967296)(D:c<=1):∃t c':Nat,IntKind.u32.wrap (IntKind.u64.wrap ((p:Int)-(c:Int)))=(t:Int)/\Int.fdiv (IntKind.u64.wrap ((p:Int)-(c:Int))) 9223372036854775808=(c':Int)/\t<4294967296/\c'<=1/\t+c+0=p+4294967296*c':=by
 obtain⟨t,c',h,u,A⟩:=b0z p 0 c B (by omega) D;have e:IntKind.u64.wrap (IntKind.u64.wrap ((p:Int)-(c:Int))-((0:Nat):Int))=IntKind.u64.wrap ((p:Int)-(c:Int)):=by
  have h:∀n:Int,IntKind.u64.wrap n=n%18446744073709551616:=λn=>by simp[IntKind.wrap,IntKind.signed,IntKind.bits]
  rw[h,h];omega
 rw[e]at h u;exact⟨t,c',h,u,A⟩
def c8g{E:Ctx}(hP:E.P=Tryz.prog)(u B:List Nat)(hl:u.length<=274877906944)(W:B.length<=u.length)(hx:Nm.I9 u)(hy:Nm.I9 B)(U:Nm.wv 4294967296 B<=Nm.wv 4294967296 u) :
  l5 E [.row 232 1 (ws u)] 262 [.rv 0,.sl 1 (ws B)] (.tup []) [.row 232 1 (ws (Nm.dig 4294967296 u.length (Nm.wv 4294967296 u-Nm.wv 4294967296 B)))] []:=by
 obtain⟨P,ac,N,w0,ae,aj,ag,af⟩:=E;simp only at hP;subst hP;refine l5.of (eff:=eff) Tryz.func262 (by cbv) (by exact d0n rfl) λw own av ν T=>?_;simp only[j4,TT,II,OA,OB,MM,VV];have D:ν.length<=1:=by rw[T];exact d0m _
 (repeat first|refine uA ?_|simp(disch:=omega) only[go_sem,Nat.reduceAdd,E9]);refine S.loop (X:=Nat×List Nat×Nat) (λx=>⟨[(0,.rv 0),(1,.sl 1 (ws B)),(4,.v (.int .u64 (x.2.2:Int))),(8,.rv 0),(9,ints u.length),(10,ints x.1)],[.row 232 1 (ws x.2.1)]⟩) (λx=>x.1<=u.length/\Nm.a8Z u B x.1 x.2.1 x.2.2) (λx=>u.length-x.1) (0,u,0) ⟨d0k _,Nm.b7h B hx⟩ (Ent.mk _ _ (by repeat first|refine uA ?_|refine⟨rfl,?_⟩|rfl|simp) (by repeat first|refine uA ?_|refine⟨rfl,?_⟩|rfl|simp) D) ?_
 rintro⟨i,out,c⟩ ⟨hi,h⟩;simp only[ints]at hi h ⊢;have V:=h.1;have O:=h.2.2.1;refine uV rfl ?_;apply uJ rfl<;>intro hc
 ·have A:i<u.length:=by omega
  have aa:u[i]?=some u[i]:=d0b A;have H:out[i]?=some u[i]:=by rw[Nm.a1z h.2.2.2.1,aa]
  have G:=hx _ (d0z A);have F:=λt c' J R K=>Nm.b6L (t:=t) (c':=c') h A J R K;generalize u[i]=pi at*;(repeat first|refine uA ?_|simp(disch:=omega) only[go_sem,ww,E9,H7,H,d0e,wd]);apply uJ rfl<;>intro hc
  ·have I:i<B.length:=by omega
   have Z:B[i]?=some B[i]:=d0b I;have M:=hy _ (d0z I);rw[Nm.getD_lt I]at F;generalize B[i]=qi at*;obtain⟨t,c',Y,e2,J,R,K⟩:=b0z pi qi c G M O;have F:=F t c' J R K;(repeat first|refine uA ?_|simp(disch:=omega) only[go_sem,Nat.reduceAdd,Nat.reduceLeDiff,Int.reducePow,ww,E9,H7,Z,H,d0e,wd,Y,e2,N9]);refine S.next (x:=(i,out,c)) (i+1,_,_) ⟨A,F⟩ (by simp only;omega) (Ent.mk _ _ (by repeat first|refine uA ?_|refine⟨rfl,?_⟩|rfl|simp) (by repeat first|refine uA ?_|refine⟨rfl,?_⟩|rfl|simp) D)
  ·have ab:B.getD i 0=0:=by rw[d0C,d0J (by omega)];rfl
   rw[ab]at F;obtain⟨t,c',Y,e2,J,R,K⟩:=c2h pi c G O;have F:=F t c' J R K;(repeat first|refine uA ?_|simp(disch:=omega) only[go_sem,Nat.reduceAdd,Nat.reduceLeDiff,Int.reducePow,ww,E9,H7,H,d0e,wd,Y,e2,N9]);refine S.next (x:=(i,out,c)) (i+1,_,_) ⟨A,F⟩ (by simp only;omega) (Ent.mk _ _ (by repeat first|refine uA ?_|refine⟨rfl,?_⟩|rfl|simp) (by repeat first|refine uA ?_|refine⟨rfl,?_⟩|rfl|simp) D)
 ·have A:i=u.length:=by omega
  subst A;obtain⟨ai,ah⟩:=Nm.b9L h W U;have hd:out=Nm.dig 4294967296 u.length (Nm.wv 4294967296 u-Nm.wv 4294967296 B):=Nm.a0A (by decide) h.2.1 V (by omega);rw[<- hd];(repeat first|refine uA ?_|simp(disch:=omega) only[go_sem]);exact S.end_ (H6.own rfl)
end Go.Proofs.YtfkipfnkpeobjaaGreatDoor
namespace Go.Proofs
open Go.Shelf
def Tryz.b7s:Go.Shelf.Ren:=⟨fun|133=>266|128=>217|n=>n,fun|51=>232|3=>3|4=>4|46=>47|5=>5|9=>9|n=>n,fun|n=>n⟩
def Tryz.c6v:Go.Proofs.Lays.n133 Tryz.prog Tryz.b7s:={
 mixed:=by kernel_rfl
 f128:=Tryz.func217.trans (congrArg some (by kernel_rfl))
 f133:=Tryz.func266.trans (congrArg some (by kernel_rfl))
 t3:=Tryz.underlying3
 a3:=Tryz.isAgg3
 z3:=Tryz.sizeOf3
 v3:=Tryz.zeroValue3
 t4:=Tryz.underlying4
 a4:=Tryz.isAgg4
 z4:=Tryz.sizeOf4
 v4:=Tryz.zeroValue4
 t5:=Tryz.underlying5
 a5:=Tryz.isAgg5
 z5:=Tryz.sizeOf5
 v5:=Tryz.zeroValue5
 t9:=Tryz.underlying9
 a9:=Tryz.isAgg9
 z9:=Tryz.sizeOf9
 v9:=Tryz.zeroValue9
 t46:=Tryz.underlying47
 a46:=Tryz.isAgg47
 z46:=Tryz.sizeOf47
 v46:=Tryz.zeroValue47
 t51:=Tryz.underlying232
 a51:=Tryz.isAgg232
 z51:=Tryz.sizeOf232
 v51:=Tryz.zeroValue232 }
theorem Tryz.bits_LeadingZeros32(x:Int)(w:World)(u:0<=x)(h:x<=4294967295) :
  Calls Tryz.prog 266 #[.int .u32 x] w λe w'=>e=.returned (.int .i64 (32-(Lib.bitLen x.toNat:Int)))/\w'=w:=Any.bits_LeadingZeros32 Tryz.c6v x w u h
def Tryz.b7u:Go.Shelf.Ren:=⟨fun|106=>128|213=>170|265=>226|n=>n,fun|9=>9|3=>3|n=>n,fun|n=>n⟩
def Tryz.c6k:Go.Proofs.Lays.n106 Tryz.prog Tryz.b7u:={
 mixed:=by kernel_rfl
 f106:=Tryz.func128.trans (congrArg some (by kernel_rfl))
 f213:=Tryz.func170.trans (congrArg some (by kernel_rfl))
 f265:=Tryz.func226.trans (congrArg some (by kernel_rfl))
 t3:=Tryz.underlying3
 a3:=Tryz.isAgg3
 z3:=Tryz.sizeOf3
 v3:=Tryz.zeroValue3
 t9:=Tryz.underlying9
 a9:=Tryz.isAgg9
 z9:=Tryz.sizeOf9
 v9:=Tryz.zeroValue9 }
open Go.RowKit in
theorem Tryz.strings_Compare(a b:ByteArray)(w:World) :
  Calls Tryz.prog 128 #[.string a,.string b] w λe w'=>e=.returned (.int .i64 (Lib.compareBytes a.data.toList b.data.toList))/\w'=w:=Any.strings_Compare Tryz.c6k a b w
end Go.Proofs
namespace Go.Proofs.YtfkipfnkpeobjaaGreatDoor
attribute [local go_sem] Eng.nbq beq_self_eq_true Eng.ww Eng.uk Eng.uk2
open Go Go.RowKit Eng
set_option maxRecDepth 10000
set_option maxHeartbeats 1000000
theorem b0t:∀{a b:List UInt8},a.length=b.length->Lib.compareBytes a b=Nm.a1C (Nm.val a) (Nm.val b)
 | [],[],_=>rfl
 | [],_::_,h=>by cases h
 | _::_,[],h=>by cases h
 | x::a,y::b,h=>by
  simp only[d0j,Nat.add_right_cancel_iff]at h;have ih:=b0t h;have A:=Nm.a0U a;have B:=Nm.a0U b;rw[h]at A;simp only[Lib.compareBytes,ih,Nm.a1C,Nm.a0W,h,UInt8.lt_iff_toNat_lt];rcases Nat.lt_trichotomy x.toNat y.toNat with u|u|u
  ·have:=d0M (256^b.length) u;rw[Nat.succ_mul]at this;rw[if_pos u,if_pos (by omega)]
  ·rw[if_neg (by omega),if_neg (by omega),u]
   repeat' split
   all_goals omega
  ·have:=d0M (256^b.length) u;rw[Nat.succ_mul]at this;rw[if_neg (by omega),if_pos u,if_neg (by omega),if_neg (by omega)]
def c2j(a b:List UInt8):p8 Tryz.prog 128 [sb a,sb b] (ints (Lib.compareBytes a b)):=by
 intro O w vs D h;simp only[FzL,sb,Fz]at h;obtain⟨y,A,rfl,rfl,z,B,rfl,rfl,rfl⟩:=h;refine(Tryz.strings_Compare (bs a) (bs b) w).mono ?_;rintro e u ⟨rfl,rfl⟩;exact⟨_,rfl,Below.refl _ _,by simp only[ints,Fz,a0F]⟩
def b1q(a b:List UInt8)(H:a.length<=1099511627776)(F:b.length<=1099511627776):p8 Tryz.prog 80 [sb a,sb b] (ints (Nm.a1C (Nm.val a) (Nm.val b))):=by
 refine kS Tryz.func80 (by cbv) (by rfl) λw O=>?_;simp only[j4,TT,II,OA,MM,sb,ints];have A:=a1m a H;have h:=a1m b F;have u:=Nm.a0q a;have B:=Nm.a0q b;rw[<- Nm.X5 a,<- Nm.X5 b];generalize Nm.trim a=x at*;generalize Nm.trim b=y at*;(repeat first|refine uA ?_|simp(disch:=omega) only[go_sem,Nat.reduceAdd,x9]|refine uB A rfl ?_|refine uB h rfl ?_);apply uJ rfl<;>intro I
 ·have:=Nm.a4h B (a:=x) (by omega);have D:Nm.a1C (Nm.val x) (Nm.val y)=-1:=by unfold Nm.a1C;rw[if_pos this]
  rw[D];exact uT rfl rfl rfl
 (repeat first|refine uA ?_|simp(disch:=omega) only[go_sem,x9]);apply uJ rfl<;>intro I
 ·have:=Nm.a4h u (a:=y) (by omega);have D:Nm.a1C (Nm.val x) (Nm.val y)=1:=by unfold Nm.a1C;rw[if_neg (by omega),if_neg (by omega)]
  rw[D];exact uT rfl rfl rfl
 ·have G:x.length=y.length:=by omega
  have E:=c2j x y;rw[b0t G]at E;(repeat first|refine uA ?_|simp(disch:=omega) only[go_sem]|refine uB E rfl ?_);exact uS rfl rfl
def J7(a b:Nat):List UInt8:=if b<=a then Nm.enc (a-b) else[]
def a6B(a b:Nat):Int:=if b<=a then 0 else 1
def b5r(a b:Nat):Nm.a1C a b<0 <-> a<b:=by unfold Nm.a1C;repeat' split;all_goals omega
def c4J(a b:List UInt8)(Z:a.length<=549755813888)(X:b.length<=549755813888):p8 Tryz.prog 219 [sb a,sb b] (.tup [sb (J7 (Nm.val a) (Nm.val b)),ints (a6B (Nm.val a) (Nm.val b))]):=by
 refine kS Tryz.func219 (by cbv) (by rfl) λw O=>?_;simp only[j4,TT,II,OA,MM,sb,ints];have B:=b5r (Nm.val a) (Nm.val b);(repeat first|refine uA ?_|simp(disch:=omega) only[go_sem,Nat.reduceAdd]|refine uB (b1q a b (by omega) (by omega)) rfl ?_);apply uJ rfl<;>intro I
 ·have E:=B.1 I;have F:J7 (Nm.val a) (Nm.val b)=[]:=by unfold J7;rw[if_neg (by omega)]
  have G:a6B (Nm.val a) (Nm.val b)=1:=by unfold a6B;rw[if_neg (by omega)]
  rw[F,G];exact uT rfl rfl rfl
 ·have E:Nm.val b<=Nm.val a:=by
   rcases d0B (Nm.val a) (Nm.val b) with h|h
   ·exact absurd (B.2 h) I
   ·exact h
  have F:J7 (Nm.val a) (Nm.val b)=Nm.enc (Nm.val a-Nm.val b):=by unfold J7;rw[if_pos E]
  have G:a6B (Nm.val a) (Nm.val b)=0:=by unfold a6B;rw[if_pos E]
  rw[F,G];have T:=Nm.a0J a;have W:=Nm.a0J b;have V:=Nm.a0o a;have U:=Nm.a0o b;have A:=Nm.a1o a;have u:=Nm.a1o b;have D:=Nm.a1n a;have N:=Nm.a1n b;have K:=a3I a (by omega);have M:=(a3I b (by omega)).spec;have J:(Nm.N7 b).length<=(Nm.N7 a).length:=by
   rcases d0B (Nm.N7 a).length (Nm.N7 b).length with h|h
   ·exfalso;have h2:=Nm.a9k b (λe=>by rw[e]at h;simp at h);have Y:=Nm.Q7 4294967296 D;have h4:4294967296^(Nm.N7 a).length<=4294967296^((Nm.N7 b).length-1):=d0G (by decide) (by omega);omega
   ·exact h
  have H:Nm.wv 4294967296 (Nm.N7 b)<=Nm.wv 4294967296 (Nm.N7 a):=by rw[A,u];exact E
  rw[<- A,<- u];clear A u E I B F G;generalize Nm.N7 a=p at*;generalize Nm.N7 b=q at*;have P:Nm.wv 4294967296 (Nm.dig 4294967296 p.length (Nm.wv 4294967296 p-Nm.wv 4294967296 q))=Nm.wv 4294967296 p-Nm.wv 4294967296 q:=by
   refine Nm.a0x ?_;have:=Nm.Q7 4294967296 D;omega
  have R:=a6q (Nm.dig 4294967296 p.length (Nm.wv 4294967296 p-Nm.wv 4294967296 q)) (by rw[Nm.M6];omega) (Nm.a2g (by decide) _ _);rw[P]at R;(repeat first|refine uA ?_|simp(disch:=omega) only[go_sem]|refine j5.t (FNew.t K rfl) ?_|refine j5.t (c8g rfl p q (by omega) J D N H) ?_|refine uB M rfl ?_|(refine uC R ?_ ?_ ?_;exact rfl;focus (repeat' first|exact j3.nil|exact Imp.refl rfl|exact Imp.frz rfl rfl rfl|(refine Imp.O0 rfl rfl ?_ ?_;(focus ((try simp only[d0c]);omega));(focus first|rfl|assumption))|refine j3.cons ?_ ?_);done));exact uS rfl rfl
def a4W(a b:List UInt8)(ha:a.length<=274877906944)(hb:b.length<=274877906944):p8 Tryz.prog 81 [sb a,sb b] (sb (Nm.enc (Nm.val a*Nm.val b))):=by
 refine kS Tryz.func81 (by cbv) (by rfl) λw O=>?_;simp only[j4,TT,II,OA,OB,MM,VV,sb];have ak:=Nm.a0J a;have aq:=Nm.a0J b;have K:=Nm.X5 a;have T:=Nm.X5 b;have ac:=Nm.a0o (Nm.trim a);have Z:=Nm.a0o (Nm.trim b);have N:=Nm.a1o (Nm.trim a);have H:=Nm.a1o (Nm.trim b);have ai:=Nm.a1n (Nm.trim a);have ae:=Nm.a1n (Nm.trim b);have R:=a1m a (by omega);have G:=a1m b (by omega);rw[Nm.a9j]at ac Z;rw[<- K,<- T];clear K T;generalize Nm.trim a=x at*;generalize Nm.trim b=y at*;(repeat first|refine uA ?_|simp(disch:=omega) only[go_sem,Nat.reduceAdd,ww,x9]|refine uB R rfl ?_|refine uB G rfl ?_);apply uJ rfl<;>intro W
 ·have hx:=Nm.a0U x;have hy:=Nm.a0U y;have hp:Nm.val x*Nm.val y<18446744073709551616:=by
   refine d0E (Nat.mul_lt_mul'' hx hy) ?_;rw[<- Nat.pow_add,show 18446744073709551616=256^8 by decide];exact d0G (by decide) (by omega)
  have fx:=a2O x (by omega);have fy:=a2O y (by omega);have ao:=Nm.a1u (l:=x) (k:=8) (by omega);have al:=Nm.a1u (l:=y) (k:=8) (by omega);have e1:Nm.val x%18446744073709551616=Nm.val x:=Nat.mod_eq_of_lt (by omega);have e2:Nm.val y%18446744073709551616=Nm.val y:=Nat.mod_eq_of_lt (by omega);rw[e1]at fx;rw[e2]at fy;have hf:=a1A (Nm.val x*Nm.val y) hp;have U:IntKind.u64.wrap ((Nm.val x:Int)*(Nm.val y:Int))=((Nm.val x*Nm.val y:Nat):Int):=by
   rw[Eng.wrap_u64]
   ·simp
   ·rw[<- Int.natCast_mul];omega
  (repeat first|refine uA ?_|simp(disch:=omega) only[go_sem,U]|refine uB fx rfl ?_|refine uB fy rfl ?_|refine uB hf rfl ?_);exact uS rfl rfl
 ·have F:=(a3I x (by omega)).spec;have I:=(a3I y (by omega)).spec;rw[<- N,<- H];clear N H R G W;generalize Nm.N7 x=p at*;generalize Nm.N7 y=q at*;have am:p.length<=68719476737:=by omega
  have ap:q.length<=68719476737:=by omega
  (repeat first|refine uA ?_|simp(disch:=omega) only[go_sem,Nat.reduceAdd,ww,E9]|refine uB F rfl ?_|refine uB I rfl ?_);have af:((p.length:Int)+(q.length:Int)).toNat=p.length+q.length:=by omega
  clear F I;refine S.loop (X:=Nat×List Nat) (λx=>⟨[(5,.sl 1 (ws p)),(6,.sl 1 (ws q)),(7,.rv 0),(39,.sl 1 (ws p)),(40,ints p.length),(41,ints x.1)],[.row 232 1 (ws x.2)]⟩) (λx=>x.1<=p.length/\Nm.a8P p q x.1 x.2) (λx=>p.length-x.1) (0,List.replicate (p.length+q.length) 0) ⟨d0k _,Nm.b7j p q⟩ (by simp only[<- a4t];rw[af];exact(by repeat first|refine uA ?_|refine⟨rfl,?_⟩|rfl|simp)) ?_;rintro⟨i,B⟩ ⟨hi,h⟩;simp only[ints]at hi h ⊢;have J:=h.1;refine uV rfl ?_;apply uJ rfl<;>intro W
  ·have u:i<p.length:=by omega
   have ag:p[i]?=some p[i]:=d0b u;have P:=ai _ (d0z u);(repeat first|refine uA ?_|simp(disch:=omega) only[go_sem,E9,H7,ag,d0e,wd]);refine S.loop (X:=Nat×List Nat×Nat) (λx=>⟨[(5,.sl 1 (ws p)),(6,.sl 1 (ws q)),(7,.rv 0),(39,.sl 1 (ws p)),(40,ints p.length),(41,ints i),(8,ints i),(9,.v (.int .u32 (p[i]:Int))),(10,.v (.int .u64 (x.2.2:Int))),(46,.sl 1 (ws q)),(47,ints q.length),(48,ints x.1)],[.row 232 1 (ws x.2.1)]⟩) (λx=>x.1<=q.length/\Nm.b1B p q i x.1 x.2.1 x.2.2) (λx=>q.length-x.1) (0,B,0) ⟨d0k _,Nm.b8Y h⟩ (by repeat first|refine uA ?_|refine⟨rfl,?_⟩|rfl|simp) ?_
   clear h J;rintro⟨k,out,c⟩ ⟨hk,h⟩;simp only[ints]at hk h ⊢;have J:=h.1;have an:=h.2.2.1;refine uV rfl ?_;apply uJ rfl<;>intro W
   ·have A:k<q.length:=by omega
    have ab:q[k]?=some q[k]:=d0b A;have M:=ae _ (d0z A);have E:out[i+k]?=some (out[i+k]'(by omega)):=d0b (by omega);have aj:=h.2.1 _ (d0z (show i+k<out.length by omega));obtain⟨hs,V⟩:=Nm.b9N h u A P M (by omega) rfl;generalize hP:p[i]=pi at*;generalize q[k]=qk at*;generalize hO:out[i+k]'(by omega)=o at*;obtain⟨m,U⟩:∃m:Nat,m=pi*qk:=⟨_,rfl⟩
    have ah:(pi:Int)*(qk:Int)=(m:Int):=by rw[U];simp
    rw[<- U]at hs V;have aa:(c:Int)+((m:Int)+(o:Int))=((c+m+o:Nat):Int):=by omega
    have D:((i:Int)+(k:Int)).toNat=i+k:=by omega
    (repeat first|refine uA ?_|simp(disch:=omega) only[go_sem,Nat.reduceAdd,Nat.reduceLeDiff,Int.reducePow,ww,E9,H7,ab,E,d0e,wd,ah,aa,D,a4b,a2h,N9]);refine S.next (x:=(k,out,c)) (k+1,_,_) ⟨A,hs⟩ (by simp only;omega) (by repeat first|refine uA ?_|refine⟨rfl,?_⟩|rfl|simp)
   ·have A:k=q.length:=by omega
    subst A;have Y:=Nm.c1c h u;have D:((i:Int)+(q.length:Int)).toNat=i+q.length:=by omega
    have E:out[i+q.length]?=some (out[i+q.length]'(by omega)):=d0b (by omega);(repeat first|refine uA ?_|simp(disch:=omega) only[go_sem,Nat.reduceAdd,Nat.reduceLeDiff,ww,E9,H7,E,d0e,wd,D,N9]);refine S.next (x:=(i,B)) (i+1,_) ⟨u,Y⟩ (by simp only;omega) (by repeat first|refine uA ?_|refine⟨rfl,?_⟩|rfl|simp)
  ·have u:i=p.length:=by omega
   subst u;have Y:=Nm.b8P h;rw[<- Y];have ht:=a6q B (by omega) h.2.1;(repeat first|refine uA ?_|simp(disch:=omega) only[go_sem]|(refine uC ht ?_ ?_ ?_;exact rfl;focus (repeat' first|exact j3.nil|exact Imp.refl rfl|exact Imp.frz rfl rfl rfl|(refine Imp.O0 rfl rfl ?_ ?_;(focus ((try simp only[d0c]);omega));(focus first|rfl|assumption))|refine j3.cons ?_ ?_);done));exact uS rfl rfl
def b8k(x r:Nat)(h:x*2^r<18446744073709551616)(hr:r<64):IntKind.u64.wrap ((x:Int)*2^min r 64)=((x*2^r:Nat):Int):=by
 rw[show min r 64=r by omega,Eng.wrap_u64]
 ·simp
 ·have e:(x:Int)*2^r=((x*2^r:Nat):Int):=by simp
  rw[e];omega
def c2f(o n:Nat)(ho:o<4294967296):bits .or .u32 (o:Int) (((n%4294967296:Nat)):Int)=((o ||| n%4294967296:Nat):Int):=c2e _ _ ho (Nat.mod_lt _ (by decide))
def c0Q(x:List Nat)(r:Nat)(hl:x.length<=274877906940)(P:Nm.I9 x)(hr:r<32):FNew Tryz.prog 267 [.sl 1 (ws x),ints r] 232 1 (ws (Nm.dig 4294967296 (x.length+1) (Nm.wv 4294967296 x*2^r))):=by
 refine FNew.of (eff:=eff) Tryz.func267 (by cbv) (by exact d0n rfl) λw O=>?_;simp only[j4,TT,II,OA,OB,MM,VV,ints];(repeat first|refine uA ?_|(apply uK;· first|omega|trivial|(intro h;rw[h];rfl)|(intro h B;rw[h,B];rfl)|(intro h;(try simp at h);omega)|(intros;simp_all<;>omega))|simp only[go_sem,Nat.reduceAdd,E9]|simp(disch:=omega) only[ww]);have J:((x.length:Int)+1).toNat=x.length+1:=by omega
 refine S.loop (X:=Nat×List Nat) (λs=>⟨[(0,.sl 1 (ws x)),(1,ints r),(5,.rv 0),(13,.sl 1 (ws x)),(14,ints x.length),(15,ints s.1)],[.row 232 1 (ws s.2)]⟩) (λs=>s.1<=x.length/\Nm.leftInv x (2^r) s.1 s.2) (λs=>x.length-s.1) (0,List.replicate (x.length+1) 0) ⟨d0k _,Nm.b6C x (Nat.pow_pos (by decide))⟩ (by simp only[<- a4t];rw[J];exact(by repeat first|refine uA ?_|refine⟨rfl,?_⟩|rfl|simp[slot])) ?_;rintro⟨i,out⟩ ⟨hi,u⟩;simp only[ints]at hi u ⊢;have F:=u.1
 (repeat first|refine uA ?_|(refine uK ?_ ?_;focus first|omega|trivial|(intro h;rw[h];rfl)|(intro h B;rw[h,B];rfl)|(intro h;(try simp at h);omega)|(intros;simp_all<;>omega))|simp only[go_sem]|simp(disch:=omega) only[ww]);(refine uJ rfl (λU=>?_) λU=>?_)
 ·have A:i<x.length:=by omega
  have K:x[i]?=some x[i]:=d0b A;have H:out[i]?=some (out[i]'(by omega)):=d0b (by omega);have I:out[i+1]?=some (out[i+1]'(by omega)):=d0b (by omega);have D:=u.2.1 _ (d0z (show i<out.length by omega));obtain⟨Z,Y,h1,B⟩:=Nm.b6g u hr A (P _ (d0z A)) (by omega);have N:=P _ (d0z A);generalize x[i]=R at*;generalize out[i]'(by omega)=o at*;generalize out[i+1]'(by omega)=V at*;have T:=b8k R r Y (by omega);generalize R*2^r=n at*;have E:=c2f o n D;have M:(out.set i (o ||| n%4294967296))[i+1]?=some V:=by rw[List.getElem?_set_ne (by omega)];exact I
  have G:((i:Int)+1).toNat=i+1:=by omega
  (repeat first|refine uA ?_|(refine uK ?_ ?_;focus first|omega|trivial|(intro h;rw[h];rfl)|(intro h B;rw[h,B];rfl)|(intro h;(try simp at h);omega)|(intros;simp_all<;>omega))|simp only[go_sem,Nat.reduceAdd,Nat.reduceLeDiff,Int.reducePow,E9,H7,K,H,d0e,wd,N9,d0S]|simp(disch:=omega) only[ww,H7,M,G,d0e,wd,T,a4b,a2h,E,N9]);refine S.next (x:=(i,out)) (i+1,_) ⟨A,Z⟩ (by simp only;omega) (by(repeat first|refine uA ?_|(refine⟨?_,?_⟩;focus first|rfl|trivial|(simp[slot];done))|rfl|trivial|simp))
 ·have A:i=x.length:=by omega
  subst A;have W:=(Nm.b7r u).1;have hd:out=Nm.dig 4294967296 (x.length+1) (Nm.wv 4294967296 x*2^r):=Nm.a0A (by decide) u.2.1 F W;rw[<- hd];(repeat first|refine uA ?_|(refine uK ?_ ?_;focus first|omega|trivial|(intro h;rw[h];rfl)|(intro h B;rw[h,B];rfl)|(intro h;(try simp at h);omega)|(intros;simp_all<;>omega))|simp only[go_sem]|simp(disch:=omega) only[ww]);exact S.done (H6.new rfl rfl rfl)
def put(us:List Nat)(k:Nat)(out:List Nat):List Nat:=us.take k++out++us.drop (k+out.length)
def a1f{us out:List Nat}{k:Nat}(h:k+out.length<=us.length):(put us k out).length=us.length:=by
 simp only[put,d0c,d0r,d0L];omega
def a0a{us out:List Nat}{k i:Nat}(h:k+out.length<=us.length)(u:i<out.length):(put us k out)[k+i]?=out[i]?:=by
 have A:(us.take k).length=k:=by rw[d0r];omega
 rw[put,d0o,d0D (by omega),A,Nat.add_sub_cancel_left,d0v u]
def a1g{us out:List Nat}{k i v:Nat}(h:k+out.length<=us.length)(u:i<out.length):(put us k out).set (k+i) v=put us k (out.set i v):=by
 have A:(us.take k).length=k:=by rw[d0r];omega
 rw[put,put,d0o,List.set_append_right _ _ (by omega),A,Nat.add_sub_cancel_left,List.set_append_left _ _ u,d0S,d0o]
def a6d{us:List Nat}{k n:Nat}(h:k+n<=us.length):put us k ((us.drop k).take n)=us:=by
 rw[put,d0r,d0L,show min n (us.length-k)=n by omega,d0o,<- List.drop_drop];rw[List.take_append_drop,List.take_append_drop]
def b7U(o h b:Nat)(F:o<4294967296)(G:h<4294967296)(A:b<=1):∃t c':Nat,IntKind.u32.wrap (IntKind.u64.wrap (IntKind.u64.wrap ((o:Int)-(h:Int))-(b:Int)))=(t:Int)/\Int.fdiv (IntKind.u64.wrap (IntKind.u64.wrap ((o:Int)-(h:Int))-(b:Int))) 9223372036854775808=(c':Int)/\t<4294967296/\c'<=1/\t+h+b=o+4294967296*c':=by
 obtain⟨t,c',H,B,D,E,I⟩:=b0z o h b F G A;have u:∀n:Int,IntKind.u64.wrap n=n%18446744073709551616:=λn=>by simp[IntKind.wrap,IntKind.signed,IntKind.bits]
 have e:IntKind.u64.wrap (IntKind.u64.wrap ((o:Int)-(h:Int))-(b:Int))=IntKind.u64.wrap (IntKind.u64.wrap ((o:Int)-(b:Int))-(h:Int)):=by
  rw[u,u,u,u];omega
 rw[e];exact⟨t,c',H,B,D,E,by omega⟩
def c6W{E:Ctx}(hP:E.P=Tryz.prog)(us qs v:List Nat)(k d:Nat)(hl:us.length<=274877906944)(O:k+v.length+1<=us.length)(hu:Nm.I9 us)(hv:Nm.I9 v)(hd:d<4294967296)
    {W:Nat} (hW:W=Nm.wv 4294967296 ((us.drop k).take (v.length+1))) :
    l5 E [.row 232 1 (ws us),.row 232 1 (ws qs)] 268 [.wv 0 1 k (v.length+1),.sl 1 (ws v),.v (.int .u64 (d:Int))] (.v (.bool (decide (W<d*Nm.wv 4294967296 v))))
      [.row 232 1 (ws (put us k (Nm.dig 4294967296 (v.length+1) ((W+4294967296^(v.length+1)*(if W<d*Nm.wv 4294967296 v then 1 else 0))-d*Nm.wv 4294967296 v)))),.row 232 1 (ws qs)] []:=by
  obtain⟨P,ao,N,w0,ap,au,ar,aq⟩:=E;simp only at hP;subst hP;refine l5.of (eff:=eff) Tryz.func268 (by cbv) (by exact d0n rfl) λw own av ν ab=>?_;simp only[j4,TT,II,OA,OB,MM,VV];have H:ν.length<=2:=by rw[ab];exact d0m _
  have G:((us.drop k).take (v.length+1)).length=v.length+1:=by rw[d0r,d0L];omega
  have F:Nm.I9 ((us.drop k).take (v.length+1)):=(hu.drop k).take _;have ah:put us k ((us.drop k).take (v.length+1))=us:=a6d (by omega);generalize(us.drop k).take (v.length+1)=u at*
  (repeat first|refine uA ?_|simp only[go_sem,Nat.reduceAdd,E9]|simp(disch:=omega) only[ww,E9]);refine S.loop (X:=Nat×List Nat×Nat×Nat) (λx=>⟨[(0,.wv 0 1 k (v.length+1)),(1,.sl 1 (ws v)),(2,.v (.int .u64 (d:Int))),(7,.v (.int .u64 (x.2.2.1:Int))),(8,.v (.int .u64 (x.2.2.2:Int))),(13,.sl 1 (ws v)),(14,ints v.length),(15,ints x.1)],[.row 232 1 (ws (put us k x.2.1)),.row 232 1 (ws qs)]⟩) (λx=>x.1<=v.length/\Nm.b1L u v d x.1 x.2.1 x.2.2.1 x.2.2.2) (λx=>v.length-x.1) (0,u,0,0) ⟨d0k _,Nm.b9G v d F⟩ (by simp only[ah];exact Ent.mk _ _ (by repeat first|refine uA ?_|refine⟨rfl,?_⟩|rfl|simp) (by repeat first|refine uA ?_|refine⟨rfl,?_⟩|rfl|simp) H) ?_
  rintro⟨i,out,c,b⟩ ⟨hi,A⟩;simp only[ints]at hi A ⊢;have af:=A.1;have ai:=A.2.2.1;have R:=A.2.2.2.1;have zs:(put us k out).length=us.length:=a1f (by omega);refine uV rfl ?_;apply uJ rfl<;>intro hc
  · have B:i<v.length:=by omega
    have al:v[i]?=some v[i]:=d0b B;have K:u[i]?=some (u[i]'(by omega)):=d0b (by omega);have M:(put us k out)[k+i]?=some (u[i]'(by omega)):=by rw[a0a (by omega) (by omega),Nm.a1z A.2.2.2.2.1,K]
    have D:=F _ (d0z (show i<u.length by omega));have U:=hv _ (d0z B);have aj:i<u.length:=by omega
    have O:=λt b' T I V=>Nm.b8N (t:=t) (b':=b') A B aj U hd T I V;generalize v[i]=vi at*;generalize u[i]'(by omega)=ui at*;obtain⟨m,hm⟩:∃m:Nat,m=d*vi:=⟨_,rfl⟩
    have ak:(d:Int)*(vi:Int)=(m:Int):=by rw[hm];simp
    have aw:m<=4294967295*4294967295:=by rw[hm];exact Nat.mul_le_mul (by omega) (by omega)
    rw[<- hm]at O;obtain⟨s,hs⟩:∃s:Nat,s=c+m:=⟨_,rfl⟩
    have ag:(c:Int)+(m:Int)=(s:Int):=by omega
    rw[<- hs]at O;obtain⟨t,b',e1,e2,T,I,V⟩:=b7U ui (s%4294967296) b D (Nat.mod_lt _ (by decide)) R;have O:=(O t b' T I V).1;have J:=a1g (us:=us) (out:=out) (k:=k) (i:=i) (v:=t) (by omega) (by omega);have ae:((k:Int)+(i:Int)).toNat=k+i:=by omega
    (repeat first|refine uA ?_|(apply uK;· first|omega|trivial|(intro h;rw[h];rfl)|(intro h I;rw[h,I];rfl)|(intro h;(try simp at h);omega)|(intros;simp_all<;>omega))|simp only[go_sem,Nat.reduceAdd,Nat.reduceLeDiff,Int.reducePow,E9,H7,al,M,d0e,wd]|simp(disch:=omega) only[ww,ak,ag,a4b,a2h,e1,e2,N9,J]);refine S.next (x:=(i,out,c,b)) (i+1,_,_,_) ⟨B,O⟩ (by simp only;omega) (Ent.mk _ _ (by repeat first|refine uA ?_|refine⟨rfl,?_⟩|rfl|simp[slot]) (by repeat first|refine uA ?_|refine⟨rfl,?_⟩|rfl|simp[slot]) H)
  · have B:i=v.length:=by omega
    subst B;have K:u[v.length]?=some (u[v.length]'(by omega)):=d0b (by omega);have M:(put us k out)[k+v.length]?=some (u[v.length]'(by omega)):=by rw[a0a (by omega) (by omega),Nm.a1z A.2.2.2.2.1,K]
    have D:=F _ (d0z (show v.length<u.length by omega));obtain⟨t,f,e1,e2,T,I,V⟩:=b7U _ c b D ai R;obtain⟨aa,Z⟩:=Nm.c0w (t:=t) (f:=f) A G T V;have J:=a1g (us:=us) (out:=out) (k:=k) (i:=v.length) (v:=t) (by omega) (by omega);have ac:=Nm.Q7 4294967296 Z;have Y:=Nm.Q7 4294967296 F;rw[d0S,af,G]at ac;rw[G,<- hW]at Y;rw[G,<- hW]at aa;have hf:f=if W<d*Nm.wv 4294967296 v then 1 else 0:=by
      have:f=0\/f=1:=by omega
      rcases this with rfl|rfl
      · rw[if_neg (by omega)]
      · rw[if_pos (by omega)]
    have an:out.set v.length t=Nm.dig 4294967296 (v.length+1) (W+4294967296^(v.length+1)*f-d*Nm.wv 4294967296 v):=Nm.a0A (by decide) Z (by rw[d0S];omega) (by omega);rw[<- hf,<- an];have am:decide (W<d*Nm.wv 4294967296 v)=decide ((0:Int)<(f:Int)):=by
      rw[hf];by_cases h:W<d*Nm.wv 4294967296 v<;>simp[h]
    rw[am];have ae:((k:Int)+(v.length:Int)).toNat=k+v.length:=by omega
    (repeat first|refine uA ?_|(apply uK;· first|omega|trivial|(intro h;rw[h];rfl)|(intro h I;rw[h,I];rfl)|(intro h;(try simp at h);omega)|(intros;simp_all<;>omega))|simp only[go_sem,Nat.reduceAdd,Nat.reduceLeDiff,Int.reducePow,E9,H7,M,d0e,wd]|simp(disch:=omega) only[ww,e1,e2,N9,J]);exact S.done (H6.own rfl)
end Go.Proofs.YtfkipfnkpeobjaaGreatDoor
namespace Go.Proofs.YtfkipfnkpeobjaaGreatDoor.Eng
open Go Go.RowKit
def Met(E:Ctx){Y:Type}(stY:Y->St)(preY:Y->Prop):Act->World->Prop:=λa w=>∃y ν',preY y/\Good E ν' (stY y) a w
def S.join{E:Ctx}{Q:Exit->Act->World->Prop}{G:St}{c:IC}{k:List It}{Y:Type}(A:Y->St)(u:Y->Prop)
  (h:S E Q G (.code c::.inv (Met E A u)::k)) (J:∀y,u y->S E Q (A y) k):S E Q G (.code c::k):=by
 intro H ν a w M code K;refine wp_mono (h H ν a w M code K) λe I N B=>?_;cases e with
 | normal=>
  simp only[wpS]at B;obtain⟨y,D,O,F⟩:=B;exact J y O H D I N F
 | exit i=>simpa only[exS] using B
 | _=>exact B
def S.b8T{E:Ctx}{Q:Exit->Act->World->Prop}{K:St}{c:IC}{id:Nat}{k:List It}{Y:Type}(F:Y->St)(A:Y->Prop)
  (h:S E Q K (.code c::.blk id::.inv (Met E F A)::k)) (J:∀y,A y->S E Q (F y) k):S E Q K (.code c::.blk id::k):=by
 intro G ν a w O code N;refine wp_mono (h G ν a w O code N) λe I M u=>?_;cases e with
 | normal=>
  simp only[wpS]at u ⊢;obtain⟨y,B,H,D⟩:=u;exact J y H G B I M D
 | exit i=>
  simp only[exS]at u ⊢;split
  ·rename_i e;rw[if_pos e]at u;simp only[wpS]at u;obtain⟨y,B,H,D⟩:=u;exact J y H G B I M D
  ·rename_i e;rw[if_neg e]at u;exact u
 | _=>exact u
def S.met{E:Ctx}{Q:Exit->Act->World->Prop}{F:St}{k:List It}{Y:Type}{A:Y->St}{u:Y->Prop}(y:Y)(I:u y)(h:Ent E F (A y)):S E Q F (.inv (Met E A u)::k):=by
 intro H ν a w G;obtain⟨D,B⟩:=h H ν a w G;exact⟨y,D,I,B⟩
end Go.Proofs.YtfkipfnkpeobjaaGreatDoor.Eng
namespace Go.Proofs.YtfkipfnkpeobjaaGreatDoor
attribute [local go_sem] Eng.nbq beq_self_eq_true Eng.ww Eng.uk Eng.uk2
open Go Go.RowKit Eng
set_option maxRecDepth 10000
set_option maxHeartbeats 1000000
def c5r{us a b:List Nat}{k:Nat}(u:a.length=b.length)(h:k+a.length<=us.length):put (put us k a) k b=put us k b:=by
 have A:(us.take k).length=k:=by rw[d0r];omega
 rw[put,put,put,<- u];congr 1
 ·congr 1;rw[d0o,List.take_append_of_le_length (by omega),d0y (by omega)]
 ·exact List.drop_left' (by rw[d0c,A])
def a3H{us a:List Nat}{k n:Nat}(u:n=a.length)(h:k+a.length<=us.length):((put us k a).drop k).take n=a:=by
 have A:(us.take k).length=k:=by rw[d0r];omega
 subst u;rw[put,d0o,List.drop_append,A,Nat.sub_self,List.drop_of_length_le (by omega),List.nil_append,List.drop_zero,List.take_append_of_le_length (d0m _),d0w]
def c5i{us a:List Nat}{k:Nat}(hu:Nm.I9 us)(ha:Nm.I9 a):Nm.I9 (put us k a):=((hu.take k).app ha).app (hu.drop _)
def c7i{E:Ctx}(hP:E.P=Tryz.prog)(us Y v:List Nat)(k:Nat)(hl:us.length<=274877906944)(T:k+v.length+1<=us.length)(hu:Nm.I9 us)(hv:Nm.I9 v)
    {W:Nat} (hW:W=Nm.wv 4294967296 ((us.drop k).take (v.length+1))) (ak:4294967296^(v.length+1)<=W+Nm.wv 4294967296 v) :
    l5 E [.row 232 1 (ws us),.row 232 1 (ws Y)] 269 [.wv 0 1 k (v.length+1),.sl 1 (ws v)] (.tup [])
      [.row 232 1 (ws (put us k (Nm.dig 4294967296 (v.length+1) (W+Nm.wv 4294967296 v-4294967296^(v.length+1))))),.row 232 1 (ws Y)] []:=by
  obtain⟨P,ag,N,w0,ah,ap,aj,ai⟩:=E;simp only at hP;subst hP;refine l5.of (eff:=eff) Tryz.func269 (by cbv) (by exact d0n rfl) λw own av ν R=>?_;simp only[j4,TT,II,OA,OB,MM,VV];have F:ν.length<=2:=by rw[R];exact d0m _
  have D:((us.drop k).take (v.length+1)).length=v.length+1:=by rw[d0r,d0L];omega
  have B:Nm.I9 ((us.drop k).take (v.length+1)):=(hu.drop k).take _;have Z:put us k ((us.drop k).take (v.length+1))=us:=a6d (by omega);generalize(us.drop k).take (v.length+1)=u at*
  (repeat first|refine uA ?_|simp(disch:=omega) only[go_sem,Nat.reduceAdd,E9]);refine S.loop (X:=Nat×List Nat×Nat) (λx=>⟨[(0,.wv 0 1 k (v.length+1)),(1,.sl 1 (ws v)),(4,.v (.int .u64 (x.2.2:Int))),(7,.sl 1 (ws v)),(8,ints v.length),(9,ints x.1)],[.row 232 1 (ws (put us k x.2.1)),.row 232 1 (ws Y)]⟩) (λx=>x.1<=v.length/\Nm.b1z u v x.1 x.2.1 x.2.2) (λx=>v.length-x.1) (0,u,0) ⟨d0k _,Nm.b9c v B⟩ (by simp only[Z];exact Ent.mk _ _ (by repeat first|refine uA ?_|refine⟨rfl,?_⟩|rfl|simp) (by repeat first|refine uA ?_|refine⟨rfl,?_⟩|rfl|simp) F) ?_
  rintro⟨i,out,c⟩ ⟨hi,h⟩;simp only[ints]at hi h ⊢;have al:=h.1;have ao:=h.2.2.1;have an:(put us k out).length=us.length:=a1f (by omega);refine uV rfl ?_;apply uJ rfl<;>intro hc
  · have A:i<v.length:=by omega
    have ab:i<u.length:=by omega
    have ac:v[i]?=some v[i]:=d0b A;have I:u[i]?=some (u[i]'(by omega)):=d0b (by omega);have J:(put us k out)[k+i]?=some (u[i]'(by omega)):=by rw[a0a (by omega) (by omega),Nm.a1z h.2.2.2.1,I]
    have G:=B _ (d0z (show i<u.length by omega));have K:=hv _ (d0z A);have T:=Nm.b8F h A ab K G rfl;generalize v[i]=vi at*;generalize u[i]'(by omega)=ui at*;obtain⟨s,hs⟩:∃s:Nat,s=c+ui+vi:=⟨_,rfl⟩
    have V:(c:Int)+((ui:Int)+(vi:Int))=(s:Int):=by omega
    rw[<- hs]at T;have H:=a1g (us:=us) (out:=out) (k:=k) (i:=i) (v:=s%4294967296) (by omega) (by omega);have U:((k:Int)+(i:Int)).toNat=k+i:=by omega
    (repeat first|refine uA ?_|simp(disch:=omega) only[go_sem,Nat.reduceAdd,Nat.reduceLeDiff,Int.reducePow,ww,E9,H7,ac,J,d0e,wd,V,a4b,a2h,N9,H]);refine S.next (x:=(i,out,c)) (i+1,_,_) ⟨A,T⟩ (by simp only;omega) (Ent.mk _ _ (by repeat first|refine uA ?_|refine⟨rfl,?_⟩|rfl|simp) (by repeat first|refine uA ?_|refine⟨rfl,?_⟩|rfl|simp) F)
  · have A:i=v.length:=by omega
    subst A;have I:u[v.length]?=some (u[v.length]'(by omega)):=d0b (by omega);have J:(put us k out)[k+v.length]?=some (u[v.length]'(by omega)):=by rw[a0a (by omega) (by omega),Nm.a1z h.2.2.2.1,I]
    have G:=B _ (d0z (show v.length<u.length by omega));have M:=Nm.Q7 4294967296 B;have am:=Nm.Q7 4294967296 hv;rw[D,<- hW]at M;have aq:4294967296^v.length<=4294967296^(v.length+1):=d0G (by decide) (by omega);obtain⟨O,ae⟩:=Nm.b9X h D rfl (z:=W+Nm.wv 4294967296 v-4294967296^(v.length+1)) (by rw[D,<- hW];omega) (by rw[D];omega);have af:=Nm.a0A (by decide) ae (show _=v.length+1 by rw[d0S];omega) O;rw[<- af];have H:=a1g (us:=us) (out:=out) (k:=k) (i:=v.length) (v:=(u[v.length]+c)%4294967296) (by omega) (by omega);have U:((k:Int)+(v.length:Int)).toNat=k+v.length:=by omega
    have aa:IntKind.u32.wrap ((u[v.length]:Int)+(c:Int))=(((u[v.length]+c)%4294967296:Nat):Int):=a4b (u[v.length]+c);(repeat first|refine uA ?_|simp(disch:=omega) only[go_sem,Nat.reduceAdd,Nat.reduceLeDiff,ww,E9,H7,J,d0e,wd,aa,N9,H]);exact S.end_ (H6.own rfl)
set_option maxHeartbeats 2000000
theorem b1N:∀(f x:Nat),x<2^f->f<=64->x≠0->0<Lib.bitLen x/\2^(Lib.bitLen x-1)<=x/\x<2^Lib.bitLen x
 | 0,x,h,_,h0=>by simp at h;omega
 | f+1,x,h,hf,h0=>by
  have h64:x<2^64:=d0E h (d0G (by decide) hf);rw[Lib.bitLen_half x h0 h64];by_cases u:x/2=0
  ·rw[u,show Lib.bitLen 0=0 from rfl];refine⟨by omega,?_,?_⟩
   ·simp;omega
   ·simp;omega
  ·obtain⟨B,D,A⟩:=b1N f (x/2) (by rw[d0O]at h;omega) (by omega) u;refine⟨by omega,?_,?_⟩
   ·rw[show 1+Lib.bitLen (x/2)-1=Lib.bitLen (x/2)-1+1 by omega,d0O];omega
   ·rw[Nat.add_comm,d0O];omega
def lz(x:Nat):Nat:=32-Lib.bitLen x
def b7X{x:Nat}(B:x≠0)(h:x<4294967296):lz x<32/\Lib.bitLen x+lz x=32/\(x+1)*2^lz x<=4294967296:=by
 obtain⟨E,F,A⟩:=b1N 32 x h (by decide) B;have D:Lib.bitLen x<=32:=by
  rcases d0B 32 (Lib.bitLen x) with u|u
  ·have:2^32<=2^(Lib.bitLen x-1):=d0G (by decide) (by omega);omega
  ·exact u
 refine⟨by unfold lz;omega,by unfold lz;omega,?_⟩;have:=d0M (2^lz x) (Nat.succ_le_of_lt A);rw[<- Nat.pow_add,show Lib.bitLen x+lz x=32 by unfold lz;omega]at this;exact this
def c9E(x:Nat)(A:x≠0)(h:x<4294967296):p8 Tryz.prog 266 [.v (.int .u32 (x:Int))] (ints (lz x)):=by
 intro O w vs E u;simp only[FzL,Fz]at u;obtain⟨y,D,rfl,rfl,rfl⟩:=u;refine(Tryz.bits_LeadingZeros32 (x:Int) w (by omega) (by omega)).mono ?_;rintro e B ⟨rfl,rfl⟩;refine⟨_,rfl,Below.refl _ _,?_⟩;have:=(b7X A h).2.1;simp only[ints,Fz,d0h];rw[show(32:Int)-(Lib.bitLen x:Int)=((lz x:Nat):Int) by omega]
namespace Nm
theorem b5M{B:Nat}:∀{m L n:Nat},m<=L->(dig B L n).take m=dig B m n
 | 0,_,_,_=>by simp[dig]
 | m+1,0,_,h=>by omega
 | m+1,L+1,n,h=>by simp only[dig,List.take_succ_cons];rw[b5M (by omega)]
def b8f{B:Nat}{l:List Nat}(h:∀w∈l,w<B){k:Nat}(u:k<=l.length):wv B (l.drop k)=wv B l/B^k:=by
 have e:=a4p B l k u;have D:wv B (l.take k)<B^k:=by
  have:=Q7 B (l:=l.take k) (λw A=>h w (List.mem_of_mem_take A));rwa[d0r,Nat.min_eq_left u]at this
 rw[e,Nat.add_mul_div_left _ _ (by omega),Nat.div_eq_of_lt D,d0A]
theorem Est.top{W V u v2 top B p:Nat}(h:Est W V u v2 top B p):top<u*4294967296+4294967296:=by
 have H:=h.wge;have F:=h.lt;have E:=h.hW;have I:=h.hv2;have G:0<p:=by
  rcases d0K p with A|A
  ·subst A;omega
  ·exact A
 have D:(top*4294967296+B)*p<(4294967296*(u*4294967296+v2+1))*p:=by
  rw[d0N 4294967296];omega
 have:=Nat.lt_of_mul_lt_mul_right D;omega
def b7i{x y:List Nat}{r:Nat}(F:I9 x)(N:I9 y)(O:y.length<=x.length)(h:4294967296^(y.length-1)<=wv 4294967296 y)(I:0<y.length)(hr:wv 4294967296 y*2^r<4294967296^y.length) :
  a8l (wv 4294967296 x*2^r) (dig 4294967296 y.length (wv 4294967296 y*2^r)) (x.length+1) (x.length+1-y.length) (dig 4294967296 (x.length+1) (wv 4294967296 x*2^r)) (List.replicate (x.length+1-y.length) 0):=by
 have E:0<2^r:=Nat.pow_pos (by decide);have u:=Q7 4294967296 F;have B:2^r<=4294967296:=by
  have K:4294967296^(y.length-1)*2^r<=wv 4294967296 y*2^r:=d0M _ h;have M:4294967296^y.length=4294967296^(y.length-1)*4294967296:=by rw[<- d0O,show(y.length-1).succ=y.length by omega]
  have J:4294967296^(y.length-1)*2^r<4294967296^(y.length-1)*4294967296:=by omega
  exact Nat.le_of_lt (Nat.lt_of_mul_lt_mul_left J)
 have G:wv 4294967296 x*2^r<4294967296^(x.length+1):=by
  rw[d0O];exact d0E (Nat.mul_lt_mul_of_pos_right u E) (Nat.mul_le_mul_left _ B)
 have A:wv 4294967296 (dig 4294967296 (x.length+1) (wv 4294967296 x*2^r))=wv 4294967296 x*2^r:=a0x G;have D:wv 4294967296 (dig 4294967296 y.length (wv 4294967296 y*2^r))=wv 4294967296 y*2^r:=a0x hr;refine⟨M6 _ _ _,a2g (by decide) _ _,by simp[M6],λw H=>by rw[d0H H];decide,?_,?_⟩
 ·rw[A,List.drop_of_length_le (by simp),show wv 4294967296 []=0 from rfl,Nat.mul_zero,Nat.mul_zero,Nat.add_zero]
 ·rw[b8f (a2g (by decide) _ _) (by rw[M6];omega),A,D];have e:4294967296^x.length=4294967296^(x.length+1-y.length)*4294967296^(y.length-1):=by
   rw[<- Nat.pow_add];congr 1;omega
  refine d0E ?_ (d0M (2^r) h);rw[Nat.div_lt_iff_lt_mul (Nat.pow_pos (by decide))];have:=Nat.mul_lt_mul_of_pos_right u E;rw[e]at this;exact Nat.lt_of_lt_of_eq this (by rw[d0N,Nat.mul_comm])
end Nm
def b5N(a b:Nat)(A:a<4294967296)(u:b<4294967296):bits .or .u64 ((a:Int)*4294967296) (b:Int)=((a*4294967296+b:Nat):Int):=by
 have h:(a:Int)*4294967296=((a*4294967296:Nat):Int):=by omega
 rw[h,a8U _ _ (by omega) (by omega)];have:=Nm.a4o (a:=b) (b:=a) (r:=32) u;rw[Nat.or_comm,show(4294967296:Nat)=2^32 from rfl,this,Nat.add_comm]
end Go.Proofs.YtfkipfnkpeobjaaGreatDoor
namespace Go.Proofs.YtfkipfnkpeobjaaGreatDoor
open Go Go.RowKit Eng
set_option maxRecDepth 10000
set_option maxHeartbeats 4000000
def c7v(x y:List Nat)(bJ:x.length<=274877906900)(hx:Nm.I9 x)(hy:Nm.I9 y)(hl:y.length<=x.length)(bQ:2<=y.length)(aI:4294967296^(y.length-1)<=Nm.wv 4294967296 y) :
 p8 Tryz.prog 225 [.sl 1 (ws x),.sl 1 (ws y)] (.tup [.sl 1 (ws (Nm.dig 4294967296 (x.length+1-y.length) (Nm.wv 4294967296 x/Nm.wv 4294967296 y))),.sl 1 (ws (Nm.dig 4294967296 y.length (Nm.wv 4294967296 x%Nm.wv 4294967296 y)))]):=by
 refine kS Tryz.func225 (cF rfl rfl (by cbv) (by repeat' first|exact cS|exact cT|exact cE|apply cA|apply cC|apply cB|apply cL|(apply cR;cbv)|(apply cD;cbv;cbv;kernel_rfl))) (by rfl) λw O=>?_;simp only[j4];have aG:y[y.length-1]?=some (y[y.length-1]'(by omega)):=d0b (by omega);have br:=Nm.G5 4294967296 (l:=y) (i:=y.length-1) (by omega);rw[show y.length-1+1=y.length by omega,d0w]at br;have bl:=Nm.Q7 4294967296 (l:=y.take (y.length-1)) (λw hw=>hy w (List.mem_of_mem_take hw));rw[d0r,Nat.min_eq_left (by omega)]at bl;have aq:=hy _ (d0z (show y.length-1<y.length by omega));generalize y[y.length-1]'(by omega)=t at*;have a7:t≠0:=λh=>by subst h;omega
 obtain⟨ab,_,bu⟩:=b7X a7 aq;have av:=c9E t a7 aq;generalize lz t=r at*;have hr:Nm.wv 4294967296 y*2^r<4294967296^y.length:=by
  have T:Nm.wv 4294967296 y<(t+1)*4294967296^(y.length-1):=by
   rw[Nat.add_mul,Nat.one_mul,Nat.mul_comm];omega
  have u:=Nat.mul_lt_mul_of_pos_right T (show 0<2^r from Nat.pow_pos (by decide));have h3:=d0M (4294967296^(y.length-1)) bu;rw[<- Nat.pow_succ',show(y.length-1).succ=y.length by omega]at h3;refine d0E u ?_;rw[d0N,Nat.mul_comm (4294967296^_),<- d0N];exact h3
 have aA:((y.length:Int)-1).toNat=y.length-1:=by omega
 have aP:=Nm.b5M (B:=4294967296) (m:=y.length) (L:=y.length+1) (n:=Nm.wv 4294967296 y*2^r) (by omega);have bo:=Nm.M6 4294967296 y.length (Nm.wv 4294967296 y*2^r);have D:Nm.I9 _:=Nm.a2g (B:=4294967296) (by decide) y.length (Nm.wv 4294967296 y*2^r);have a8:=Nm.a0x hr;have be:=Nm.b7i hx hy hl aI (by omega) hr;have aX:=c0Q x r (by omega) hx ab;have aT:=(c0Q y r (by omega) hy ab).spec;have aF:List.take y.length (ws (Nm.dig 4294967296 (y.length+1) (Nm.wv 4294967296 y*2^r)))=ws (Nm.dig 4294967296 y.length (Nm.wv 4294967296 y*2^r)):=by
  rw[<- aP];simp[ws]
 have bR:=Nm.M6 4294967296 (x.length+1) (Nm.wv 4294967296 x*2^r);have ba:(((x.length+1:Nat):Int)-(y.length:Int)).toNat=x.length+1-y.length:=by omega
 (repeat first|refine uA ?_|(refine uK ?_ ?_;focus first|omega|trivial|(intro h;rw[h];rfl)|(intro h u;rw[h,u];rfl)|(intro h;(try simp at h);omega)|(intros;simp_all<;>omega))|simp only[go_sem,Nat.reduceBEq,Nat.reduceAdd,Nat.reduceLeDiff,Int.reduceToNat,Int.reducePow,E9,H7,aG,aA,d0e,wd,Nm.M6,aF,ba,List.length_replicate]|simp(disch:=omega) only[ww,E9,H7,aG,aA,d0e,wd,Nm.M6,aF,ba,List.length_replicate]|refine j5.t (FNew.t aX rfl) ?_|(refine uB av ?_ ?_;exact rfl)|(refine uB aT ?_ ?_;exact rfl));clear av aX aT aF aP aG;have bq:∃m,y.length=m+2:=⟨y.length-2,by omega⟩
 obtain⟨m,hm⟩:=bq;have hV:Nm.wv 4294967296 y*2^r/2^r=Nm.wv 4294967296 y:=Nat.mul_div_cancel _ (Nat.pow_pos (by decide));generalize Nm.dig 4294967296 y.length (Nm.wv 4294967296 y*2^r)=v at*;generalize hn:y.length=n at*
 refine S.loop (X:=Nat×List Nat×List Nat) (λs=>⟨[(10,ints ((s.1:Int)-1)),(4,.rv 1),(9,.sl 1 (ws v)),(8,.rv 0),(7,ints n),(6,ints r)],[.row 232 1 (ws s.2.1),.row 232 1 (ws s.2.2)]⟩) (λs=>s.1<=x.length+1-n/\Nm.a8l (Nm.wv 4294967296 x*2^r) v (x.length+1) s.1 s.2.1 s.2.2) (λs=>s.1) (x.length+1-n,_,_) ⟨d0m _,be⟩ (by simp only[<- a4t];exact Ent.mk _ _ (by repeat' (first|exact Z0.nil|exact Imp.refl rfl|exact Imp.eq (by simp[slot];omega) rfl|refine Z0.cons ?_ ?_)) (by(repeat first|refine uA ?_|(refine⟨?_,?_⟩;focus first|rfl|trivial|(simp[slot];done))|rfl|trivial|simp)) (d0k _)) ?_;clear be;rintro⟨j,us,U⟩ ⟨hj,A⟩;simp only[ints]at hj A ⊢;have bK:=A.1
 have H:=A.2.1;have bU:=A.2.2.1;have bC:=A.2.2.2.1;(repeat first|refine uA ?_|(refine uK ?_ ?_;focus first|omega|trivial|(intro h;rw[h];rfl)|(intro h u;rw[h,u];rfl)|(intro h;(try simp at h);omega)|(intros;simp_all<;>omega))|simp only[go_sem,Nat.reduceBEq,Nat.reduceAdd,Nat.reduceLeDiff,Int.reduceToNat,Int.reducePow]|simp(disch:=omega) only[ww]);(refine uJ rfl (λN=>?_) λN=>?_)
 ·obtain⟨k,rfl⟩:∃k,j=k+1:=⟨j-1,by omega⟩
  rw[show(((k+1:Nat):Int)-1)=(k:Int) by omega];obtain⟨g1,g2,g3,g4⟩:=Nm.b3O A D (by omega);have a9:Nm.I9 ((us.drop k).take (v.length+1)):=(H.drop k).take _;have bg:0<v[m+1]'(by omega):=by
   have T:=Nm.G5 4294967296 (l:=v) (i:=m+1) (by omega);rw[d0y (by omega)]at T;have u:=Nm.Q7 4294967296 (l:=v.take (m+1)) (λw hw=>D w (List.mem_of_mem_take hw));rw[d0r,Nat.min_eq_left (by omega)]at u;have h3:Nm.wv 4294967296 y<=Nm.wv 4294967296 y*2^r:=Nat.le_mul_of_pos_right _ (Nat.pow_pos (by decide));rw[show n-1=m+1 by omega]at aI;rcases d0K (v[m+1]'(by omega)) with h0|h0
   ·rw[h0]at T;omega
   ·exact h0
  have hE:=Nm.Est.of (m:=m) (by omega) (by rw[g4];omega) D a9 bg (by rw[g1];exact g2);simp only[List.getElem_take,List.getElem_drop,g1]at hE;have a3:us[k+n]?=some (us[k+(m+2)]'(by omega)):=(show us[k+n]?=us[k+(m+2)]? by rw[hm]).trans (d0b (by omega));have aM:us[k+(m+1)]?=some (us[k+(m+1)]'(by omega)):=d0b (by omega);have a4:us[k+m]?=some (us[k+m]'(by omega)):=d0b (by omega);have am:v[m+1]?=some (v[m+1]'(by omega)):=d0b (by omega);have bf:v[m]?=some (v[m]'(by omega)):=d0b (by omega);have bh:=H _ (d0z (show k+(m+2)<us.length by omega));have bj:=H _ (d0z (show k+(m+1)<us.length by omega));have bm:=H _ (d0z (show k+m<us.length by omega))
  have bL:=D _ (d0z (show m+1<v.length by omega));have bV:=D _ (d0z (show m<v.length by omega));generalize us[k+(m+2)]'(by omega)=a2 at*;generalize us[k+(m+1)]'(by omega)=a1 at*;generalize us[k+m]'(by omega)=a0 at*;generalize v[m+1]'(by omega)=P at*;generalize v[m]'(by omega)=v2 at*;have aW:((k:Int)+(n:Int)).toNat=k+n:=by omega
  have aK:((k:Int)+(n:Int)-1).toNat=k+(m+1):=by omega
  have aO:((k:Int)+(n:Int)-2).toNat=k+m:=by omega
  have ap:((n:Int)-1).toNat=m+1:=by omega
  have aY:((n:Int)-2).toNat=m:=by omega
  have ae:=b5N a2 a1 bh bj;have bx:a2*4294967296+a1<18446744073709551616:=by omega
  have af:=hE.start;have aZ:=hE.top;have ai:=Nat.div_add_mod (a2*4294967296+a1) P;have an:=Nat.mod_lt (a2*4294967296+a1) bg;obtain⟨top,bz⟩:∃top,top=a2*4294967296+a1:=⟨_,rfl⟩
  rw[<- bz]at hE ae bx af aZ ai an;have hq:∀q:Nat,q=top/P->Int.tdiv (top:Int) (P:Int)=(q:Int):=λq h=>by rw[h];rfl
  have R:∀q:Nat,q=top%P->Int.tmod (top:Int) (P:Int)=(q:Int):=λq h=>by rw[h];rfl
  obtain⟨d0,G⟩:∃d0,d0=top/P:=⟨_,rfl⟩
  obtain⟨e0,K⟩:∃e0,e0=top%P:=⟨_,rfl⟩
  have hq:=hq d0 G;have R:=R e0 K;rw[<- G,<- K]at ai;rw[<- G]at af;rw[<- K]at an;have Z:d0<=18446744073709551615:=by
   have:d0<=top:=by rw[G];exact Nat.div_le_self _ _
   omega
  clear G K;(repeat first|refine uA ?_|(refine uK ?_ ?_;focus first|omega|trivial|(intro h;rw[h];rfl)|(intro h u;rw[h,u];rfl)|(intro h;(try simp at h);omega)|(intros;simp_all<;>omega))|simp only[go_sem,Nat.reduceBEq,Nat.reduceAdd,Nat.reduceLeDiff,Int.reduceToNat,Int.reducePow,E9,H7,a3,aM,am,d0e,wd,aW,aK,ap,ae,hq,R]|simp(disch:=omega) only[ww,E9,H7,a3,aM,am,d0e,wd,aW,aK,ap,ae,hq,R])
  refine S.b8T (Y:=Nat) (λd=>⟨[(10,ints k),(4,.rv 1),(9,.sl 1 (ws v)),(8,.rv 0),(7,ints n),(6,ints r),(12,.v (.int .u64 (d:Int)))],[.row 232 1 (ws us),.row 232 1 (ws U)]⟩) (λd=>d<4294967296/\((d*Nm.wv 4294967296 v<=Nm.wv 4294967296 (us.drop k)/\Nm.wv 4294967296 (us.drop k)/Nm.wv 4294967296 v=d)\/(Nm.wv 4294967296 (us.drop k)<d*Nm.wv 4294967296 v/\0<d/\Nm.wv 4294967296 (us.drop k)/Nm.wv 4294967296 v=d-1))) ?_ ?_
  ·refine S.loop (X:=Nat×Nat) (λs=>⟨[(10,ints k),(4,.rv 1),(9,.sl 1 (ws v)),(8,.rv 0),(7,ints n),(6,ints r),(12,.v (.int .u64 (s.1:Int))),(13,.v (.int .u64 (s.2:Int)))],[.row 232 1 (ws us),.row 232 1 (ws U)]⟩) (λs=>Nm.wv 4294967296 (us.drop k)/Nm.wv 4294967296 v<=s.1/\top=s.1*P+s.2/\s.2<4294967296/\s.1<=18446744073709551615) (λs=>s.1) (d0,e0) ⟨af,by rw[<- ai,Nat.mul_comm],by simp only;omega,Z⟩ (by(repeat first|refine uA ?_|(refine⟨?_,?_⟩;focus first|rfl|trivial|(simp[slot];done))|rfl|trivial|simp)) ?_;clear af ai an Z hq R;rintro⟨d,rest⟩ ⟨p1,p2,p3,p4⟩;simp only[ints]at p1 p2 p3 p4 ⊢;have aN:=b5N rest a0 p3 bm
   (repeat first|refine uA ?_|(refine uK ?_ ?_;focus first|omega|trivial|(intro h;rw[h];rfl)|(intro h u;rw[h,u];rfl)|(intro h;(try simp at h);omega)|(intros;simp_all<;>omega))|simp only[go_sem,Nat.reduceBEq,Nat.reduceAdd,Nat.reduceLeDiff,Int.reduceToNat,Int.reducePow,E9,H7,bf,a4,d0e,wd,aO,aY,a2h,aN]|simp(disch:=omega) only[ww,E9,H7,bf,a4,d0e,wd,aO,aY,a2h,aN]);have az:d<4294967296->IntKind.u64.wrap ((d:Int)*(v2:Int))=((d*v2:Nat):Int):=λh=>by
    have T:d*v2<=4294967295*4294967295:=Nat.mul_le_mul (by omega) (by omega);rw[<- Int.natCast_mul,Eng.wrap_u64 (by omega)]
   (refine uJ rfl (λN=>?_) λN=>?_)
   ·have zs:Nm.wv 4294967296 (us.drop k)/Nm.wv 4294967296 v<d:=by
     refine hE.dec p1 p2 ?_;rcases d0B d 4294967296 with h|h
     ·rw[az h]at N;omega
     ·exact Or.inl h
    have bS:1<=d:=Nat.lt_of_le_of_lt (d0k _) zs;have ah:(d:Int)-1=((d-1:Nat):Int):=by clear zs p1;omega
    have bc:(rest:Int)+(P:Int)=((rest+P:Nat):Int):=by omega
    have aC:top=(d-1)*P+(rest+P):=by
     rw[p2]
     conv=>lhs;rw[show d=d-1+1 by omega,Nat.add_mul,Nat.one_mul]
     omega
    (repeat first|refine uA ?_|(refine uK ?_ ?_;focus first|omega|trivial|(intro h;rw[h];rfl)|(intro h u;rw[h,u];rfl)|(intro h;(try simp at h);omega)|(intros;simp_all<;>omega))|simp only[go_sem,Nat.reduceBEq,Nat.reduceAdd,Nat.reduceLeDiff,Int.reduceToNat,Int.reducePow,E9,H7,am,d0e,wd,ap,a2h,ah,bc]|simp(disch:=omega) only[ww,E9,H7,am,d0e,wd,ap,a2h,ah,bc]);(refine uJ rfl (λN=>?_) λN=>?_)
    ·have a6:=hE.small aC aZ (by omega);(repeat first|refine uA ?_|(refine uK ?_ ?_;focus first|omega|trivial|(intro h;rw[h];rfl)|(intro h u;rw[h,u];rfl)|(intro h;(try simp at h);omega)|(intros;simp_all<;>omega))|simp only[go_sem,Nat.reduceBEq,Nat.reduceAdd,Nat.reduceLeDiff,Int.reduceToNat,Int.reducePow]|simp(disch:=omega) only[ww]);exact S.met (d-1) ⟨a6,hE.fin (by omega) aC a6 (by omega)⟩ (by(repeat first|refine uA ?_|(refine⟨?_,?_⟩;focus first|rfl|trivial|(simp[slot];done))|rfl|trivial|simp))
    ·(repeat first|refine uA ?_|(refine uK ?_ ?_;focus first|omega|trivial|(intro h;rw[h];rfl)|(intro h u;rw[h,u];rfl)|(intro h;(try simp at h);omega)|(intros;simp_all<;>omega))|simp only[go_sem,Nat.reduceBEq,Nat.reduceAdd,Nat.reduceLeDiff,Int.reduceToNat,Int.reducePow]|simp(disch:=omega) only[ww]);refine S.next (x:=(d,rest)) (d-1,rest+P) ⟨by simp only;omega,aC,by simp only;omega,by simp only;omega⟩ (by simp only;omega) (by(repeat first|refine uA ?_|(refine⟨?_,?_⟩;focus first|rfl|trivial|(simp[slot];done))|rfl|trivial|simp))
   ·have aB:d<4294967296:=by
     rcases d0B d 4294967296 with h|h
     ·exact h
     ·exfalso;omega
    rw[az aB]at N;(repeat first|refine uA ?_|(refine uK ?_ ?_;focus first|omega|trivial|(intro h;rw[h];rfl)|(intro h u;rw[h,u];rfl)|(intro h;(try simp at h);omega)|(intros;simp_all<;>omega))|simp only[go_sem,Nat.reduceBEq,Nat.reduceAdd,Nat.reduceLeDiff,Int.reduceToNat,Int.reducePow]|simp(disch:=omega) only[ww]);exact S.met d ⟨aB,hE.fin p1 p2 aB (by omega)⟩ (by(repeat first|refine uA ?_|(refine⟨?_,?_⟩;focus first|rfl|trivial|(simp[slot];done))|rfl|trivial|simp))
  ·clear af ai an Z hq R;rintro d ⟨bb,au⟩;simp only[ints];generalize hW:Nm.wv 4294967296 (us.drop k)=W at*;generalize I:Nm.wv 4294967296 v=V at*;have aa:=c6W (E:=⟨Tryz.prog,eff,179,w,λ_=>False,O,[],[]⟩) rfl us U v k d (by omega) (by omega) H D bb (W:=W) (by rw[g1]);rw[I]at aa;have al:((k:Int)+(n:Int)+1).toNat-k=v.length+1:=by omega
   have bv:k<U.length:=by omega
   have ak:U[k]?=some (U[k]'bv):=d0b bv;have aU:0<V:=hE.pos;have bM:k+v.length+1<=us.length:=by omega
   have bO:W<4294967296^(v.length+1):=by
    have:=Nm.Q7 4294967296 a9;rwa[g4,g1]at this
   have bH:V<=4294967296^(v.length+1):=by
    rw[<- I];exact Nat.le_of_lt (d0E (Nm.Q7 4294967296 D) (d0G (by decide) (by omega)))
   have a5:∀l,put us k (Nm.dig 4294967296 (v.length+1) l)=us.take k++Nm.dig 4294967296 (v.length+1) l++us.drop (k+v.length+1):=λl=>by
    rw[put,Nm.M6,Nat.add_assoc]
   have M:Nm.a8l (Nm.wv 4294967296 x*2^r) v (x.length+1) k (put us k (Nm.dig 4294967296 (v.length+1) (W-W/V*V))) (U.set k (W/V)):=by
    rw[a5];refine Nm.b9r A D (by omega) (Nm.M6 _ _ _) (Nm.a2g (by decide) _ _) (by rw[hW,I]) ?_ (by rw[I];exact aU);have bI:=Nat.div_mul_le_self W V;rw[Nm.a0x (by omega),hW,I];omega
   (repeat first|refine uA ?_|(refine uK ?_ ?_;focus first|omega|trivial|(intro h;rw[h];rfl)|(intro h u;rw[h,u];rfl)|(intro h;(try simp at h);omega)|(intros;simp_all<;>omega))|simp only[go_sem,Nat.reduceBEq,Nat.reduceAdd,Nat.reduceLeDiff,Int.reduceToNat,Int.reducePow,E9,al]|simp(disch:=omega) only[ww,E9,al]|refine j5.t aa ?_);(refine uJ rfl (λN=>?_) λN=>?_)
   ·rcases au with⟨T,u⟩|⟨T,u,h3⟩
    ·omega
    rw[if_pos T];have hm:(d-1)*V+V=d*V:=by
     conv=>rhs;rw[show d=d-1+1 by omega,Nat.add_mul,Nat.one_mul]
    have bt:=Nat.div_mul_le_self W V;rw[h3]at M bt;have aD:(put us k (Nm.dig 4294967296 (v.length+1) (W+4294967296^(v.length+1)*1-d*V))).length=us.length:=a1f (by rw[Nm.M6];omega);have bT:d*V<=W+4294967296^(v.length+1):=by
     omega
    have ac:=c7i (E:=⟨Tryz.prog,eff,179,w,λ_=>False,O,[],[]⟩) rfl (put us k (Nm.dig 4294967296 (v.length+1) (W+4294967296^(v.length+1)*1-d*V))) U v k (by omega) (by omega) (c5i H (Nm.a2g (by decide) _ _)) D (W:=W+4294967296^(v.length+1)*1-d*V) (by
     rw[a3H (Nm.M6 _ _ _).symm (by rw[Nm.M6];omega),Nm.a0x (by omega)]) (by rw[I];omega)
    rw[I,c5r (by rw[Nm.M6,Nm.M6]) (by rw[Nm.M6];omega),show W+4294967296^(v.length+1)*1-d*V+V-4294967296^(v.length+1)=W-(d-1)*V by omega]at ac;have ah:(d:Int)-1=((d-1:Nat):Int):=by omega
    (repeat first|refine uA ?_|(refine uK ?_ ?_;focus first|omega|trivial|(intro h;rw[h];rfl)|(intro h u;rw[h,u];rfl)|(intro h;(try simp at h);omega)|(intros;simp_all<;>omega))|simp only[go_sem,Nat.reduceBEq,Nat.reduceAdd,Nat.reduceLeDiff,Int.reduceToNat,Int.reducePow,E9,H7,ak,d0e,wd,al,aD,ah,N9]|simp(disch:=omega) only[ww,E9,H7,ak,d0e,wd,al,aD,ah,N9]|refine j5.t ac ?_);refine S.next (x:=(k+1,us,U)) (k,_,_) ⟨by simp only;omega,M⟩ (by simp only;omega) (by(repeat first|refine uA ?_|(refine⟨?_,?_⟩;focus first|rfl|trivial|(simp[slot];done))|rfl|trivial|simp))
   ·rcases au with⟨T,u⟩|⟨T,u,h3⟩
    ·rw[if_neg (by omega),Nat.mul_zero,Nat.add_zero];rw[u]at M;(repeat first|refine uA ?_|(refine uK ?_ ?_;focus first|omega|trivial|(intro h;rw[h];rfl)|(intro h u;rw[h,u];rfl)|(intro h;(try simp at h);omega)|(intros;simp_all<;>omega))|simp only[go_sem,Nat.reduceBEq,Nat.reduceAdd,Nat.reduceLeDiff,Int.reduceToNat,Int.reducePow,E9,H7,ak,d0e,wd,N9]|simp(disch:=omega) only[ww,E9,H7,ak,d0e,wd,N9]);refine S.next (x:=(k+1,us,U)) (k,_,_) ⟨by simp only;omega,M⟩ (by simp only;omega) (by(repeat first|refine uA ?_|(refine⟨?_,?_⟩;focus first|rfl|trivial|(simp[slot];done))|rfl|trivial|simp))
    ·omega
 ·have bD:j=0:=by omega
  subst bD;clear N hj;obtain⟨e1,e2⟩:=Nm.c2i A D (by omega);rw[a8,Nat.mul_div_mul_right _ _ (Nat.pow_pos (by decide))]at e1;rw[a8,Nat.mul_mod_mul_right,bo]at e2;have hq:U=Nm.dig 4294967296 (x.length+1-n) (Nm.wv 4294967296 x/Nm.wv 4294967296 y):=Nm.a0A (by decide) bC (by omega) e1;rw[<- hq];have bi:put us 0 (us.take n)=us:=by
   have:=a6d (us:=us) (k:=0) (n:=n) (by omega);rwa[List.drop_zero]at this
  have aj:Nm.I9 (us.take n):=H.take n;have bF:(us.take n).length=n:=by rw[d0r];omega
  generalize us.take n=r0 at*;(repeat first|refine uA ?_|(refine uK ?_ ?_;focus first|omega|trivial|(intro h;rw[h];rfl)|(intro h u;rw[h,u];rfl)|(intro h;(try simp at h);omega)|(intros;simp_all<;>omega))|simp only[go_sem,Nat.reduceBEq,Nat.reduceAdd,Nat.reduceLeDiff,Int.reduceToNat,Int.reducePow,E9]|simp(disch:=omega) only[ww,E9])
  refine S.loop (X:=Nat×List Nat) (λs=>⟨[(4,.rv 1),(5,.wv 0 1 0 n),(6,ints r),(7,ints n),(8,.rv 0),(145,ints n),(146,ints s.1)],[.row 232 1 (ws (put us 0 s.2)),.row 232 1 (ws U)]⟩) (λs=>s.1<=n/\Nm.a6p r0 (2^r) s.1 s.2) (λs=>n-s.1) (0,r0) ⟨d0k _,Nm.b3Z aj⟩ (by simp only[bi];exact(by(repeat first|refine uA ?_|(refine⟨?_,?_⟩;focus first|rfl|trivial|(simp[slot];done))|rfl|trivial|simp))) ?_;rintro⟨i,out⟩ ⟨hi,F⟩;simp only[ints]at hi F ⊢;have bN:=F.1;have aD:(put us 0 out).length=us.length:=a1f (by omega)
  (repeat first|refine uA ?_|(refine uK ?_ ?_;focus first|omega|trivial|(intro h;rw[h];rfl)|(intro h u;rw[h,u];rfl)|(intro h;(try simp at h);omega)|(intros;simp_all<;>omega))|simp only[go_sem,Nat.reduceBEq,Nat.reduceAdd,Nat.reduceLeDiff,Int.reduceToNat,Int.reducePow]|simp(disch:=omega) only[ww]);(refine uJ rfl (λN=>?_) λN=>?_)
  ·have ao:i<n:=by omega
   have bB:r0[i]?=some (r0[i]'(by omega)):=d0b (by omega);have aR:(put us 0 out)[i]?=some (r0[i]'(by omega)):=by
    have:=a0a (us:=us) (out:=out) (k:=0) (i:=i) (by omega) (by omega);rw[d0A]at this;rw[this,Nm.a1z F.2.2.1,bB]
   have aE:=aj _ (d0z (show i<r0.length by omega));have bn:i<r0.length:=by omega
   have hk:=λt ht=>Nm.b3V (t:=t) F ab bn aj ht;have J:∀a,(put us 0 out).set i a=put us 0 (out.set i a):=λa=>by
    have:=a1g (us:=us) (out:=out) (k:=0) (i:=i) (v:=a) (by omega) (by omega);rwa[d0A]at this
   generalize r0[i]'(by omega)=ri at*;have aH:Int.fdiv (ri:Int) (2^min r 32)=((ri/2^r:Nat):Int):=by
    rw[show min r 32=r by omega,<- a3z];congr 1
   have bk:ri/2^r<4294967296:=Nat.lt_of_le_of_lt (Nat.div_le_self _ _) aE;generalize ri/2^r=rs at*;(repeat first|refine uA ?_|(refine uK ?_ ?_;focus first|omega|trivial|(intro h;rw[h];rfl)|(intro h u;rw[h,u];rfl)|(intro h;(try simp at h);omega)|(intros;simp_all<;>omega))|simp only[go_sem,Nat.reduceBEq,Nat.reduceAdd,Nat.reduceLeDiff,Int.reduceToNat,Int.reducePow,E9,H7,aR,d0A,d0e,wd,N9,aH,J]|simp(disch:=omega) only[ww,E9,H7,aR,d0A,d0e,wd,N9,aH,J]);(refine uJ rfl (λN=>?_) λN=>?_)
   ·have aA:i+1<n:=by omega
    have aw:(put us 0 (out.set i rs)).length=us.length:=a1f (by rw[d0S];omega);have aV:(put us 0 (out.set i rs))[i]?=some rs:=by
     rw[<- J,List.getElem?_set_self (by omega)]
    have bE:r0[i+1]?=some (r0[i+1]'(by omega)):=d0b (by omega);have aJ:(put us 0 (out.set i rs))[i+1]?=some (r0[i+1]'(by omega)):=by
     have:=a0a (us:=us) (out:=out) (k:=0) (i:=i+1) (by omega) (by omega);rw[d0A]at this;rw[<- J,List.getElem?_set_ne (by omega),this];have h3:=congrArg (λl=>l[1]?) F.2.2.1;simp only[d0Q]at h3;rw[h3,bE]
    have bG:=aj _ (d0z (show i+1<r0.length by omega));have bA:r0.getD (i+1) 0=r0[i+1]'(by omega):=Nm.getD_lt (by omega);rw[bA]at hk;generalize r0[i+1]'(by omega)=rn at*;have bw:rn*2^(32-r)<18446744073709551616:=by
     have T:2^(32-r)<=2^32:=d0G (by decide) (by omega);have u:rn*2^(32-r)<=4294967295*4294967296:=Nat.mul_le_mul (by omega) T;omega
    have ax:=b8k rn (32-r) bw (by omega);have aS:((32:Int)-(r:Int)).toNat=32-r:=by omega
    have ay:=c2f rs (rn*2^(32-r)) bk;have hk:=hk _ rfl;rw[if_pos (by omega)]at hk;generalize rn*2^(32-r)=sh at*;generalize bP:rs ||| sh%4294967296=to at*
    have ag:(put us 0 (out.set i rs)).set i to=put us 0 (out.set i to):=by
     have:=a1g (us:=us) (out:=out.set i rs) (k:=0) (i:=i) (v:=to) (by rw[d0S];omega) (by rw[d0S];omega);rwa[d0A,List.set_set]at this
    have ar:((i:Int)+1).toNat=i+1:=by omega
    (repeat first|refine uA ?_|(refine uK ?_ ?_;focus first|omega|trivial|(intro h;rw[h];rfl)|(intro h u;rw[h,u];rfl)|(intro h;(try simp at h);omega)|(intros;simp_all<;>omega))|simp only[go_sem,Nat.reduceBEq,Nat.reduceAdd,Nat.reduceLeDiff,Int.reduceToNat,Int.reducePow,E9,H7,aV,aJ,aw,d0A,d0e,wd,aS,ar,ax,a4b,ay,N9,ag]|simp(disch:=omega) only[ww,E9,H7,aV,aJ,aw,d0A,d0e,wd,aS,ar,ax,a4b,ay,N9,ag]);refine S.next (x:=(i,out)) (i+1,_) ⟨ao,hk.1⟩ (by simp only;omega) (by(repeat first|refine uA ?_|(refine⟨?_,?_⟩;focus first|rfl|trivial|(simp[slot];done))|rfl|trivial|simp))
   ·have hk:=hk _ rfl;rw[if_neg (by omega)]at hk;(repeat first|refine uA ?_|(refine uK ?_ ?_;focus first|omega|trivial|(intro h;rw[h];rfl)|(intro h u;rw[h,u];rfl)|(intro h;(try simp at h);omega)|(intros;simp_all<;>omega))|simp only[go_sem,Nat.reduceBEq,Nat.reduceAdd,Nat.reduceLeDiff,Int.reduceToNat,Int.reducePow]|simp(disch:=omega) only[ww]);refine S.next (x:=(i,out)) (i+1,_) ⟨ao,hk.1⟩ (by simp only;omega) (by(repeat first|refine uA ?_|(refine⟨?_,?_⟩;focus first|rfl|trivial|(simp[slot];done))|rfl|trivial|simp))
  ·have ao:i=n:=by omega
   subst ao;rw[<- bF]at F;have he:=Nm.b4v F (by omega) e2;have hd:out=Nm.dig 4294967296 i (Nm.wv 4294967296 x%Nm.wv 4294967296 y):=Nm.a0A (by decide) F.2.1 (by omega) he;rw[<- hd];have aL:((ws (put us 0 out)).drop 0).take i=ws out:=by
    rw[List.drop_zero,put,List.take_zero,List.nil_append];simp only[ws,d0u];rw[List.take_append_of_le_length (by simp;omega),d0y (by simp;omega)]
   (repeat first|refine uA ?_|(refine uK ?_ ?_;focus first|omega|trivial|(intro h;rw[h];rfl)|(intro h u;rw[h,u];rfl)|(intro h;(try simp at h);omega)|(intros;simp_all<;>omega))|simp only[go_sem,Nat.reduceBEq,Nat.reduceAdd,Nat.reduceLeDiff,Int.reduceToNat,Int.reducePow]|simp(disch:=omega) only[ww]);exact S.done (H6.out rfl (Imp.tup (j3.cons (Imp.frz rfl rfl rfl) (j3.cons (Imp.O0 rfl rfl (by simp only[E9];omega) aL) j3.nil))) rfl)
namespace Nm
def b1b(x:List Nat)(d j:Nat)(out:List Nat)(rest:Nat):Prop:=
 out.length=x.length/\I9 out/\out.take j=x.take j/\wv 4294967296 (out.drop j)=wv 4294967296 (x.drop j)/d/\rest=wv 4294967296 (x.drop j)%d
def b6T{x:List Nat}{d:Nat}(h:I9 x):b1b x d x.length x 0:=by
 refine⟨rfl,h,rfl,?_,?_⟩<;>rw[List.drop_of_length_le (d0m _)]<;>simp[wv]
def b7q{x:List Nat}{d j:Nat}{out:List Nat}{rest:Nat}(h:b1b x d (j+1) out rest)(J:j<x.length)(A:0<d)(E:d<4294967296)(N:x[j]<4294967296) :
  b1b x d j (out.set j ((rest*4294967296+x[j])/d)) ((rest*4294967296+x[j])%d)/\(rest*4294967296+x[j])/d<4294967296/\rest<4294967296:=by
 obtain⟨H,K,I,M,F⟩:=h;have B:rest<d:=by rw[F];exact Nat.mod_lt _ A
 have D:(rest*4294967296+x[j])/d<4294967296:=by
  rw[Nat.div_lt_iff_lt_mul A];have:(rest+1)*4294967296<=d*4294967296:=d0M _ B;rw[Nat.mul_comm d]at this;omega
 have u:=a3Z 4294967296 J;have G:=Nat.div_add_mod (wv 4294967296 (x.drop (j+1))) d;rw[<- F,<- M]at G;have e:wv 4294967296 (x.drop j)=(rest*4294967296+x[j])+d*(4294967296*wv 4294967296 (out.drop (j+1))):=by
  rw[u,<- G,Nat.mul_add];grind
 refine⟨⟨by simp[H],K.set D,?_,?_,?_⟩,D,by omega⟩
 ·rw[List.take_set_of_le (d0m _)];have:=congrArg (List.take j) I;simpa[List.take_take,Nat.min_eq_left (show j<=j+1 by omega)] using this
 ·rw[a3Z _ (by rw[d0S];omega),List.getElem_set_self,List.drop_set_of_lt (by omega),e,Nat.add_mul_div_left _ _ A]
 ·rw[e,Nat.add_mul_mod_self_left]
def O6{α:Type}{a b:List α}{j:Nat}(h:a.take (j+1)=b.take (j+1)):a[j]?=b[j]?:=by
 have:=congrArg (λl=>l[j]?) h;simpa using this
end Nm
def a0V(l:List UInt8):(bs l=(⟨#[]⟩:ByteArray))=(l=[]):=a6S l []
def b4j(a b:List UInt8)(ha:a.length<=274877906944)(hb:b.length<=274877906944)(h0:Nm.val b≠0):p8 Tryz.prog 169 [sb a,sb b] (.tup [sb (Nm.enc (Nm.val a/Nm.val b)),sb (Nm.enc (Nm.val a%Nm.val b)),ints 0]):=by
 refine kS Tryz.func169 (by cbv) (by rfl) λw O=>?_;simp only[j4,sb,ints];have aC:=Nm.a0J a;have aB:=Nm.a0J b;have U:=Nm.X5 a;have M:=Nm.X5 b;have W:=Nm.a0o (Nm.trim a);have ag:=Nm.a0o (Nm.trim b);have H:=Nm.a1o (Nm.trim a);have F:=Nm.a1o (Nm.trim b);have G:=Nm.a1n (Nm.trim a);have N:=Nm.a1n (Nm.trim b);have ax:=Nm.a0q a;have aH:=Nm.a0q b;have u:=Nm.a9k (Nm.trim b);have E:=Nm.a9k (Nm.trim a);have ai:=a1m a (by omega);have ae:=a1m b (by omega);rw[Nm.a9j]at W ag;rw[<- U,<- M];rw[<- M]at h0;clear U M;generalize Nm.trim a=x at*;generalize Nm.trim b=y at*;have al:y≠[]:=λh=>by subst h;exact h0 rfl
 (repeat first|refine uA ?_|(refine uK ?_ ?_;focus first|omega|trivial|(intros;simp_all<;>omega))|simp(disch:=omega) only[go_sem,Nat.reduceBEq,Nat.reduceAdd,Nat.reduceLeDiff,Int.reduceToNat,Int.reducePow,ww,x9]|(refine uB ai ?_ ?_;exact rfl)|(refine uB ae ?_ ?_;exact rfl));(refine uJ rfl (λD=>?_) λD=>?_)
 ·rw[a0V]at D;exact absurd D al
 (repeat first|refine uA ?_|(refine uK ?_ ?_;focus first|omega|trivial|(intros;simp_all<;>omega))|simp(disch:=omega) only[go_sem,Nat.reduceBEq,Nat.reduceAdd,Nat.reduceLeDiff,Int.reduceToNat,Int.reducePow,ww,x9]);(refine uJ rfl (λD=>?_) λD=>?_)
 ·have aD:=Nm.a1u (l:=x) (k:=8) (by omega);have aG:=Nm.a1u (l:=y) (k:=8) (by omega);have e1:Nm.val x%18446744073709551616=Nm.val x:=Nat.mod_eq_of_lt (by omega);have e2:Nm.val y%18446744073709551616=Nm.val y:=Nat.mod_eq_of_lt (by omega);have fx:=a2O x (by omega);have fy:=a2O y (by omega);rw[e1]at fx;rw[e2]at fy;have av:Nm.val x/Nm.val y<18446744073709551616:=Nat.lt_of_le_of_lt (Nat.div_le_self _ _) (by omega);have ak:Nm.val x%Nm.val y<18446744073709551616:=d0E (Nat.mod_lt _ (by omega)) (by omega);have hf:=a1A _ av;have hg:=a1A _ ak;have hq:Int.tdiv (Nm.val x:Int) (Nm.val y:Int)=((Nm.val x/Nm.val y:Nat):Int):=rfl
  have hr:Int.tmod (Nm.val x:Int) (Nm.val y:Int)=((Nm.val x%Nm.val y:Nat):Int):=rfl;generalize Nm.val x/Nm.val y=q at*;generalize Nm.val x%Nm.val y=r at*;(repeat first|refine uA ?_|(refine uK ?_ ?_;focus first|omega|trivial|(intros;simp_all<;>omega))|simp(disch:=omega) only[go_sem,Nat.reduceBEq,Nat.reduceAdd,Nat.reduceLeDiff,Int.reduceToNat,Int.reducePow,ww,hq,hr]|(refine uB fx ?_ ?_;exact rfl)|(refine uB fy ?_ ?_;exact rfl)|(refine uB hf ?_ ?_;exact rfl)|(refine uB hg ?_ ?_;exact rfl));exact uS rfl rfl
 have K:=b5r (Nm.val x) (Nm.val y);(repeat first|refine uA ?_|(refine uK ?_ ?_;focus first|omega|trivial|(intros;simp_all<;>omega))|simp(disch:=omega) only[go_sem,Nat.reduceBEq,Nat.reduceAdd,Nat.reduceLeDiff,Int.reduceToNat,Int.reducePow,ww]|(refine uB (b1q x y (by omega) (by omega)) ?_ ?_;exact rfl));(refine uJ rfl (λD=>?_) λD=>?_)
 ·have h1:=K.1 D;rw[Nat.div_eq_of_lt h1,Nat.mod_eq_of_lt h1,Nm.a3s,Nm.a2I ax];(repeat first|refine uA ?_|(refine uK ?_ ?_;focus first|omega|trivial|(intros;simp_all<;>omega))|simp(disch:=omega) only[go_sem,Nat.reduceBEq,Nat.reduceAdd,Nat.reduceLeDiff,Int.reduceToNat,Int.reducePow,ww]);exact uS rfl rfl
 have aa:Nm.val y<=Nm.val x:=by
  rcases d0B (Nm.val x) (Nm.val y) with h|h
  ·exact absurd (K.2 h) D
  ·exact h
 have T:=a3I x (by omega);have V:=(a3I y (by omega)).spec;rw[<- H,<- F]at aa;rw[<- F]at h0;rw[<- H]at E;rw[<- F]at u;rw[<- H,<- F];clear H F K D;generalize Nm.N7 x=p at*;generalize Nm.N7 y=q at*;have I:q≠[]:=λh=>by subst h;exact h0 rfl
 have aF:0<q.length:=List.length_pos_iff.2 I;have R:q.length<=p.length:=by
  rcases d0B p.length q.length with h|h
  ·exfalso;have h2:=u I;have h3:=Nm.Q7 4294967296 G;have h4:4294967296^p.length<=4294967296^(q.length-1):=d0G (by decide) (by omega);omega
  ·exact h
 (repeat first|refine uA ?_|(refine uK ?_ ?_;focus first|omega|trivial|(intros;simp_all<;>omega))|simp(disch:=omega) only[go_sem,Nat.reduceBEq,Nat.reduceAdd,Nat.reduceLeDiff,Int.reduceToNat,Int.reducePow,ww,E9]|refine j5.t (FNew.t T rfl) ?_|(refine uB V ?_ ?_;exact rfl));clear T V ai ae;(refine uJ rfl (λD=>?_) λD=>?_)
 ·obtain⟨d,rfl⟩:∃d,q=[d]:=by
   match q,D with
   | [d],_=>exact⟨d,rfl⟩
   | [],h=>simp at h
   | _::_::_,h=>simp at h;omega
  have Z:d<4294967296:=N d (by simp);have ar:Nm.wv 4294967296 [d]=d:=by simp[Nm.wv]
  rw[ar]at h0 ⊢;have aA:p.length<=68719476737:=by omega
  clear aa R E u W ag D;(repeat first|refine uA ?_|(refine uK ?_ ?_;focus first|omega|trivial|(intros;simp_all<;>omega))|simp(disch:=omega) only[go_sem,Nat.reduceBEq,Nat.reduceAdd,Nat.reduceLeDiff,Int.reduceToNat,Int.reducePow,ww,E9]);refine S.loop (X:=Nat×List Nat×Nat) (λs=>⟨[(7,.rv 0),(8,.sl 1 (ws [d])),(9,.v (.int .u64 (s.2.2:Int))),(10,ints ((s.1:Int)-1))],[.row 232 1 (ws s.2.1)]⟩) (λs=>s.1<=p.length/\Nm.b1b p d s.1 s.2.1 s.2.2) (λs=>s.1) (p.length,p,0) ⟨d0m _,Nm.b6T G⟩ (by(repeat first|refine uA ?_|(refine⟨?_,?_⟩;focus first|rfl|trivial|(simp[slot];done))|rfl|trivial|simp)) ?_;rintro⟨j,out,rest⟩ ⟨hj,A⟩;simp only[ints]at hj A ⊢;have az:=A.1
  (repeat first|refine uA ?_|(refine uK ?_ ?_;focus first|omega|trivial|(intros;simp_all<;>omega))|simp(disch:=omega) only[go_sem,Nat.reduceBEq,Nat.reduceAdd,Nat.reduceLeDiff,Int.reduceToNat,Int.reducePow,ww]);(refine uJ rfl (λD=>?_) λD=>?_)
  ·obtain⟨k,rfl⟩:∃k,j=k+1:=⟨j-1,by omega⟩
   rw[show(((k+1:Nat):Int)-1)=(k:Int) by omega];have aw:p[k]?=some (p[k]'(by omega)):=d0b (by omega);have ao:out[k]?=some (p[k]'(by omega)):=by rw[Nm.O6 A.2.2.1,aw]
   have J:=G _ (d0z (show k<p.length by omega));obtain⟨hs,ay,ac⟩:=Nm.b7q A (by omega) (by omega) Z J;generalize p[k]'(by omega)=P at*;have am:=b5N rest P ac J;have af:(ws [d])[0]?=some (wd d):=rfl;have hq:Int.tdiv ((rest*4294967296+P:Nat):Int) (d:Int)=(((rest*4294967296+P)/d:Nat):Int):=rfl;have hr:Int.tmod ((rest*4294967296+P:Nat):Int) (d:Int)=(((rest*4294967296+P)%d:Nat):Int):=rfl;generalize rest*4294967296+P=s at*;generalize s/d=sq at*;generalize s%d=sr at*
   (repeat first|refine uA ?_|(refine uK ?_ ?_;focus first|omega|trivial|(intros;simp_all<;>omega))|simp(disch:=omega) only[go_sem,Nat.reduceBEq,Nat.reduceAdd,Nat.reduceLeDiff,Int.reduceToNat,Int.reducePow,ww,E9,H7,ao,af,d0e,wd,am,hq,hr,N9]);refine S.next (x:=(k+1,out,rest)) (k,_,_) ⟨by simp only;omega,hs⟩ (by simp only;omega) (by(repeat first|refine uA ?_|(refine⟨?_,?_⟩;focus first|rfl|trivial|(simp[slot];done))|rfl|trivial|simp))
  ·have au:j=0:=by omega
   subst au;obtain⟨h1,h2,_,h4,h5⟩:=A;rw[List.drop_zero]at h4 h5;rw[List.drop_zero]at h4;rw[<- h4,<- h5];have aE:rest<d:=by rw[h5];exact Nat.mod_lt _ (by omega)
   have ft:=a6q out (by omega) h2;have hf:=a1A rest (by omega);(repeat first|refine uA ?_|(refine uK ?_ ?_;focus first|omega|trivial|(intros;simp_all<;>omega))|simp(disch:=omega) only[go_sem,Nat.reduceBEq,Nat.reduceAdd,Nat.reduceLeDiff,Int.reduceToNat,Int.reducePow,ww]|(refine uB hf ?_ ?_;exact rfl)|(refine uC ft ?_ ?_ ?_;exact rfl;focus (repeat' first|exact j3.nil|exact Imp.refl rfl|exact Imp.frz rfl rfl rfl|(refine Imp.O0 rfl rfl ?_ ?_;(focus ((try simp only[d0c]);omega));(focus first|rfl|assumption))|refine j3.cons ?_ ?_);done));exact uS rfl rfl
 ·have an:=c7v p q (by omega) G N R (by omega) (u I);have Y:=Nm.Q7 4294967296 G;have aq:4294967296^p.length=4294967296^(p.length+1-q.length)*4294967296^(q.length-1):=by
   rw[<- Nat.pow_add];congr 1;omega
  have aj:Nm.wv 4294967296 p/Nm.wv 4294967296 q<4294967296^(p.length+1-q.length):=by
   rw[Nat.div_lt_iff_lt_mul (by omega)];rw[aq]at Y;exact d0E Y (Nat.mul_le_mul_left _ (u I))
  have zs:=Nm.Q7 4294967296 N;have ap:Nm.wv 4294967296 p%Nm.wv 4294967296 q<4294967296^q.length:=Nat.lt_trans (Nat.mod_lt _ (by omega)) zs;have ab:=a6q _ (by rw[Nm.M6];omega) (Nm.a2g (B:=4294967296) (by decide) (p.length+1-q.length) (Nm.wv 4294967296 p/Nm.wv 4294967296 q));have ah:=a6q _ (by rw[Nm.M6];omega) (Nm.a2g (B:=4294967296) (by decide) q.length (Nm.wv 4294967296 p%Nm.wv 4294967296 q));rw[Nm.a0x aj]at ab;rw[Nm.a0x ap]at ah
  refine S.weaken (st':=⟨[(7,.sl 1 (ws p)),(8,.sl 1 (ws q))],[.gone]⟩) (Ent.mk _ _ (Z0.cons (Imp.frz rfl rfl rfl) (Z0.cons (Imp.refl rfl) Z0.nil)) (by(repeat first|refine uA ?_|(refine⟨?_,?_⟩;focus first|rfl|trivial|(simp[slot];done))|rfl|trivial|simp)) (d0k _)) ?_;(repeat first|refine uA ?_|(refine uK ?_ ?_;focus first|omega|trivial|(intros;simp_all<;>omega))|simp(disch:=omega) only[go_sem,Nat.reduceBEq,Nat.reduceAdd,Nat.reduceLeDiff,Int.reduceToNat,Int.reducePow,ww]|(refine uB an ?_ ?_;exact rfl)|(refine uB ab ?_ ?_;exact rfl)|(refine uB ah ?_ ?_;exact rfl));exact uS rfl rfl
end Go.Proofs.YtfkipfnkpeobjaaGreatDoor
namespace Go.Proofs
open Go.Shelf
def Tryz.b4r:Go.Shelf.Ren:=⟨fun|29=>263|n=>n,fun|22=>45|3=>3|4=>4|25=>47|54=>372|0=>0|5=>5|n=>n,fun|1=>1|n=>n⟩
def Tryz.c4d:Go.Proofs.Lays7.n29 Tryz.prog Tryz.b4r:={
 mixed:=by kernel_rfl
 f29:=Tryz.func263.trans (congrArg some (by kernel_rfl))
 t0:=Tryz.underlying0
 a0:=Tryz.isAgg0
 z0:=Tryz.sizeOf0
 v0:=Tryz.zeroValue0
 i0:=by kernel_rfl
 t3:=Tryz.underlying3
 a3:=Tryz.isAgg3
 z3:=Tryz.sizeOf3
 v3:=Tryz.zeroValue3
 i3:=by kernel_rfl
 t4:=Tryz.underlying4
 a4:=Tryz.isAgg4
 z4:=Tryz.sizeOf4
 v4:=Tryz.zeroValue4
 i4:=by kernel_rfl
 t5:=Tryz.underlying5
 a5:=Tryz.isAgg5
 z5:=Tryz.sizeOf5
 v5:=Tryz.zeroValue5
 i5:=by kernel_rfl
 t22:=Tryz.underlying45
 a22:=Tryz.isAgg45
 z22:=Tryz.sizeOf45
 v22:=Tryz.zeroValue45
 i22:=by kernel_rfl
 t25:=Tryz.underlying47
 a25:=Tryz.isAgg47
 z25:=Tryz.sizeOf47
 v25:=Tryz.zeroValue47
 i25:=by kernel_rfl
 t54:=Tryz.underlying372
 a54:=Tryz.isAgg372
 z54:=Tryz.sizeOf372
 g1:=by kernel_rfl }
open Go.RowKit in
theorem Tryz.bits_TrailingZeros64(x:Nat)(h:x<18446744073709551616)(w:World)(u:x≠0->TabAt 1 Lib.deBruijn64tab w) :
  Calls Tryz.prog 263 #[.int .u64 x] w λe w'=>e=.returned (.int .i64 (Lib.ctz 64 x))/\w'=w:=Any7.bits_TrailingZeros64 Tryz.c4d x h w u
def Tryz.b7g:Go.Shelf.Ren:=⟨fun|160=>149|232=>193|231=>192|227=>194|234=>196|233=>195|236=>198|235=>197|228=>241|271=>244|151=>243|197=>242|120=>278|152=>277|260=>276|137=>292|119=>293|224=>294|225=>295|217=>299|266=>300|n=>n,fun|9=>9|4=>4|3=>3|5=>5|117=>290|116=>289|0=>0|124=>293|21=>21|105=>335|46=>47|119=>374|139=>377|138=>376|n=>n,fun|3=>2|4=>3|n=>n⟩
def Tryz.c5j:Go.Proofs.Lays.n160 Tryz.prog Tryz.b7g:={
 mixed:=by kernel_rfl
 f119:=Tryz.func293.trans (congrArg some (by kernel_rfl))
 f120:=Tryz.func278.trans (congrArg some (by kernel_rfl))
 f137:=Tryz.func292.trans (congrArg some (by kernel_rfl))
 f151:=Tryz.func243.trans (congrArg some (by kernel_rfl))
 f152:=Tryz.func277.trans (congrArg some (by kernel_rfl))
 f160:=Tryz.func149.trans (congrArg some (by kernel_rfl))
 f197:=Tryz.func242.trans (congrArg some (by kernel_rfl))
 f217:=Tryz.func299.trans (congrArg some (by kernel_rfl))
 f224:=Tryz.func294.trans (congrArg some (by kernel_rfl))
 f225:=Tryz.func295.trans (congrArg some (by kernel_rfl))
 f227:=Tryz.func194.trans (congrArg some (by kernel_rfl))
 f228:=Tryz.func241.trans (congrArg some (by kernel_rfl))
 f231:=Tryz.func192.trans (congrArg some (by kernel_rfl))
 f232:=Tryz.func193.trans (congrArg some (by kernel_rfl))
 f233:=Tryz.func195.trans (congrArg some (by kernel_rfl))
 f234:=Tryz.func196.trans (congrArg some (by kernel_rfl))
 f235:=Tryz.func197.trans (congrArg some (by kernel_rfl))
 f236:=Tryz.func198.trans (congrArg some (by kernel_rfl))
 f260:=Tryz.func276.trans (congrArg some (by kernel_rfl))
 f266:=Tryz.func300.trans (congrArg some (by kernel_rfl))
 f271:=Tryz.func244.trans (congrArg some (by kernel_rfl))
 t0:=Tryz.underlying0
 a0:=Tryz.isAgg0
 z0:=Tryz.sizeOf0
 v0:=Tryz.zeroValue0
 t3:=Tryz.underlying3
 a3:=Tryz.isAgg3
 z3:=Tryz.sizeOf3
 v3:=Tryz.zeroValue3
 t4:=Tryz.underlying4
 a4:=Tryz.isAgg4
 z4:=Tryz.sizeOf4
 v4:=Tryz.zeroValue4
 t5:=Tryz.underlying5
 a5:=Tryz.isAgg5
 z5:=Tryz.sizeOf5
 v5:=Tryz.zeroValue5
 t9:=Tryz.underlying9
 a9:=Tryz.isAgg9
 z9:=Tryz.sizeOf9
 v9:=Tryz.zeroValue9
 t21:=Tryz.underlying21
 a21:=Tryz.isAgg21
 z21:=Tryz.sizeOf21
 v21:=Tryz.zeroValue21
 t46:=Tryz.underlying47
 a46:=Tryz.isAgg47
 z46:=Tryz.sizeOf47
 v46:=Tryz.zeroValue47
 t105:=Tryz.underlying335
 a105:=Tryz.isAgg335
 z105:=Tryz.sizeOf335
 v105:=Tryz.zeroValue335
 t116:=Tryz.underlying289
 a116:=Tryz.isAgg289
 z116:=Tryz.sizeOf289
 t117:=Tryz.underlying290
 a117:=Tryz.isAgg290
 z117:=Tryz.sizeOf290
 v117:=Tryz.zeroValue290
 t119:=Tryz.underlying374
 a119:=Tryz.isAgg374
 z119:=Tryz.sizeOf374
 t124:=Tryz.underlying293
 a124:=Tryz.isAgg293
 z124:=Tryz.sizeOf293
 v124:=Tryz.zeroValue293
 t138:=Tryz.underlying376
 a138:=Tryz.isAgg376
 z138:=Tryz.sizeOf376
 v138:=Tryz.zeroValue376
 t139:=Tryz.underlying377
 a139:=Tryz.isAgg377
 z139:=Tryz.sizeOf377
 v139:=Tryz.zeroValue377
 g3:=by kernel_rfl
 g4:=by kernel_rfl }
end Go.Proofs
namespace Go.Proofs.YtfkipfnkpeobjaaGreatDoor
open Go Go.RowKit Eng
def Wz(w:World):Prop:=TabAt 1 Lib.deBruijn64tab w
abbrev FZ(f:Nat)(args:List C)(r:C):Prop:=a0w Tryz.prog Wz f args r
namespace Eng
def Tz(E:Ctx):Prop:=Wz E.w0/\¬E.own0 1
def c4F{w:World}(h:Wz w):1<w.heap.size:=by
 have:=h 0 (by decide);exact block_lt_of_cell this
def Tz.at{E:Ctx}(h:Tz E){w:World}(u:Frm E.own0 E.w0 w):Wz w:=by
 intro j A;rw[<- h.1 j A];exact World.cell?_of_block (u.block _ (c4F h.1) h.2)
section
variable {E:Ctx} {rs:List Res} {f:Nat} {args args':List C} {r:C}
def W9.c4R{p:Bool}(H:Tz E)(N:p=true->a0w E.P Wz f args' r)(T:p=true->j3 rs rs args args')(D:p=true->C.clL args'=true):W9 E rs p f args r:=by
 intro F G ν w vs A K O J;have B:∀b,OO G rs ν b->b<w.heap.size:=λb h=>by
  rcases h with h|h
  ·exact A.av b h
  ·exact(A.low b h).1
 have u:=(T F).den A (Cut.of A (a4T rs)) J;have M:ν.take rs.length=ν:=by rw[<- A.len];exact d0w
 rw[M]at u;refine(N F (OO G rs ν) w vs (H.at O) B (u.fz (D F))).mono ?_;rintro e U ⟨y,rfl,I,R⟩;exact⟨y,rfl,I,R.den ν⟩
def W9.c9h{p:Bool}(J:Tz E)(I:p=true->a0w E.P Wz f args' r)(R:p=true->j3 rs [] args args')(F:p=true->C.clL args'=true)(hr:r.flat=true):W9 E rs p f args r:=by
 intro D H ν w vs u T M O;have G:Cut H rs [] ν:=Cut.of u (by simp[X8]);have B:=(R D).den u G O;have A:∀b,OO H [] (ν.take ([]:List Res).length) b->b<w.heap.size:=λb h=>by
  rcases G.sub b h with h|h
  ·exact u.av b h
  ·exact(u.low b h).1
 refine(I D _ w vs (J.at M) A (B.fz (F D))).mono ?_;rintro e U ⟨y,rfl,K,N⟩;exact⟨y,rfl,K,Fz.flat hr N⟩
variable {g q:Prop} {p:Bool} {a a':List C}
def uD{P:Program}(B:a0w P Wz f a' r)[h:By g E rs p f a r q](D:Tz E)(e:(E.P,a,(C.bdL rs.length a&&C.clL a))=(P,a',true))(x:q):g:=by
 injection e with F A;injection A with A u;rw[d0s]at u;subst F A;exact h.go (W9.c4R D (λ_=>B) (λ_=>j3.refl u.1) (λ_=>u.2)) x
def uE{P:Program}(A:a0w P Wz f a' r)[h:By g E rs p f a r q](D:Tz E)(e:(E.P,C.clL a',r.flat)=(P,true,true))(F:j3 rs [] a a')(x:q):g:=by
 injection e with G u;injection u with u B;subst G;exact h.go (W9.c9h D (λ_=>A) (λ_=>F) (λ_=>u) B) x
def uG{P:Program}(hs:a0w P Wz f a' r){st:St}{ok:Prop}{d:Option Nat}{K:St->Prop}(x:ok/\KPg st false d K r):a1F E st false f a ok d K:=
 .inr ⟨x.1,.inr (.inr ⟨r,(λh=>absurd h (by decide)),x.2⟩)⟩
end
def tz{P:Program}{eff:Nat->Bool}{N:Nat}{w:World}{O:Nat->Prop}(hw:Wz w):Tz ⟨P,eff,N,w,λ_=>False,O,[],[]⟩:=⟨hw,λh=>h⟩
end Eng
def c8m{x:Nat}(A:x≠0)(h:x<18446744073709551616):Lib.ctz 64 x=Nm.v2 x:=by
 unfold Lib.ctz;rw[if_neg A];obtain⟨m,u,_⟩:=Lib.ctzFrom_spec 64 x (by omega) h;exact(Nm.c4x u (by omega)).symm
def c9M(x:Nat)(B:x≠0)(h:x<18446744073709551616):FZ 263 [.v (.int .u64 (x:Int))] (.v (.int .i64 (Nm.v2 x:Int))):=by
 intro O w vs A F u;simp only[FzL,Fz]at u;obtain⟨y,E,rfl,rfl,rfl⟩:=u;refine(Tryz.bits_TrailingZeros64 x h w (λ_=>A)).mono ?_;rintro e D ⟨rfl,rfl⟩;exact⟨_,rfl,Below.refl _ _,by simp only[Fz,c8m B h]⟩
end Go.Proofs.YtfkipfnkpeobjaaGreatDoor
namespace Go.Proofs.YtfkipfnkpeobjaaGreatDoor
attribute [local go_sem] Eng.nbq beq_self_eq_true Eng.ww Eng.uk Eng.uk2
open Go Go.RowKit Eng
set_option maxRecDepth 10000
set_option maxHeartbeats 4000000
def ls(l:List Nat):List (List C):=l.map lm
def I6(l:List Nat):(ls l).length=l.length:=by simp[ls]
def T9(l:List Nat)(i:Nat):(ls l)[i]?=(l[i]?).map lm:=by simp[ls]
def a2D(l:List Nat)(i v:Nat):(ls l).set i [.v (.int .u64 (v:Int))]=ls (l.set i v):=by
 simp only[ls,List.map_set,lm]
def c2K(n:Nat):List.replicate n [C.v (.int .u64 0)]=ls (List.replicate n 0):=by simp[ls,lm]
def c8P(n:Nat)(h:n<=1099511627776):IntKind.i64.wrap (((n:Int)+7).tdiv 8)=(((n+7)/8:Nat):Int):=by
 have:((n:Int)+7).tdiv 8=(((n+7)/8:Nat):Int):=rfl;rw[this,Eng.wrap_i64 (by omega)]
def c4z(i:Nat)(h:i<=1099511627776):IntKind.i64.wrap ((i:Int).tdiv 8)=((i/8:Nat):Int):=by
 have:(i:Int).tdiv 8=((i/8:Nat):Int):=rfl;rw[this,Eng.wrap_i64 (by omega)]
def b4J(i:Nat):(i:Int).tmod 8=((i%8:Nat):Int):=rfl
def c1X(o:Nat)(b:UInt8)(i:Nat)(u:o<18446744073709551616)(h:b.toNat*2^(8*(i%8))<18446744073709551616) :
  bits .or .u64 (o:Int) (IntKind.u64.wrap (IntKind.u64.wrap ((b.toNat:Nat):Int)*2^min (((i%8:Nat):Int)*8).toNat 64))=((o ||| b.toNat*2^(8*(i%8)):Nat):Int):=by
 have A:=b.toNat_lt;rw[Eng.wrap_u64 (n:=((b.toNat:Nat):Int)) (by omega),show min (((i%8:Nat):Int)*8).toNat 64=8*(i%8) by omega];have e:((b.toNat:Nat):Int)*2^(8*(i%8))=((b.toNat*2^(8*(i%8)):Nat):Int):=by rw[Int.natCast_mul,Int.natCast_pow];rfl
 rw[e,Eng.wrap_u64 (by omega),a8U _ _ u h]
namespace Nm
def R7(l:List Nat):Prop:=∀w∈l,w<18446744073709551616
theorem R7.take{l:List Nat}(h:R7 l)(n:Nat):R7 (l.take n):=λw u=>h w (List.mem_of_mem_take u)
theorem R7.drop{l:List Nat}(h:R7 l)(n:Nat):R7 (l.drop n):=λw u=>h w (List.mem_of_mem_drop u)
def X6(l:List UInt8):List Nat:=dig 18446744073709551616 ((l.length+7)/8) (val l)
def b0u(l:List UInt8):(X6 l).length=(l.length+7)/8:=M6 _ _ _
def b1R(l:List UInt8):R7 (X6 l):=a2g (by decide) _ _
def b1H(l:List UInt8):wv 18446744073709551616 (X6 l)=val l:=a0x (by
 refine d0E (a0U l) ?_;rw[show(18446744073709551616:Nat)=256^8 by decide,<- Nat.pow_mul];exact d0G (by decide) (by omega))
def b2A{l:List UInt8}{out:List Nat}(h:a3U l l.length out):out=X6 l:=by
 obtain⟨u,B,A,_⟩:=h;exact a0A (by decide) B u (by rw[A,Nat.sub_self,List.drop_zero])
end Nm
def b7Y(m:List UInt8)(K:m.length<=1099511627776):FNew Tryz.prog 220 [sb m] 45 1 (ls (Nm.X6 m)):=by
 refine FNew.of (eff:=eff) Tryz.func220 (by cbv) (by exact d0n rfl) λw O=>?_;simp only[j4,TT,II,OA,OB,MM,VV,sb];(repeat first|refine uA ?_|(apply uK;· omega)|simp only[go_sem,Nat.reduceAdd,x9]|simp(disch:=omega) only[ww,c8P m.length K]);refine S.loop (X:=Nat×List Nat) (λx=>⟨[(0,sb m),(3,.rv 0),(11,ints m.length),(12,ints x.1)],[.row 45 1 (ls x.2)]⟩) (λx=>x.1<=m.length/\Nm.a3U m x.1 x.2) (λx=>m.length-x.1) (0,List.replicate ((m.length+7)/8) 0) ⟨d0k _,Nm.b1o m⟩ (by simp only[<- c2K];exact(by repeat first|refine uA ?_|refine⟨rfl,?_⟩|rfl|simp[slot])) ?_
 rintro⟨i,out⟩ ⟨I,h⟩;simp only[sb,ints]at I h ⊢;refine uV rfl ?_;apply uJ rfl<;>intro M
 ·have u:i<m.length:=by omega
  have H:=h.1;have B:i/8<out.length:=by omega
  obtain⟨D,J,F⟩:=Nm.b1G h u B;have G:out[i/8]?=some out[i/8]:=d0b B;have A:=h.2.1 _ (d0z B);have E:m.getD ((m.length:Int)-1-(i:Int)).toNat 0=m[m.length-1-i]:=by
   rw[show((m.length:Int)-1-(i:Int)).toNat=m.length-1-i by omega,d0C,d0b (by omega)];rfl
  (repeat first|refine uA ?_|(apply uK;· omega)|simp only[go_sem,Nat.reduceAdd,Nat.reduceLeDiff,x9,a0F,I6,T9,G,d0e,c4z i (by omega),b4J,lm]|simp(disch:=omega) only[ww,E,c1X _ _ _ A F,a2D]);refine S.next (x:=(i,out)) (i+1,_) ⟨u,D⟩ (by simp only;omega) (by repeat first|refine uA ?_|refine⟨rfl,?_⟩|rfl|simp[slot])
 ·have u:i=m.length:=by omega
  subst u;(repeat first|refine uA ?_|simp(disch:=omega) only[go_sem]);rw[<- Nm.b2A h];exact S.done (H6.new rfl rfl rfl)
def b6A(x y:Nat)(E:x<18446744073709551616)(B:y<18446744073709551616):p8 Tryz.prog 167 [.v (.int .u64 (x:Int)),.v (.int .u64 (y:Int))] (.v (.int .u64 (Nat.gcd x y:Int))):=by
 refine kS Tryz.func167 (by cbv) (by rfl) λw O=>?_;simp only[j4,TT,OA,MM];(repeat first|refine uA ?_|simp(disch:=omega) only[go_sem]);refine S.loop (X:=Nat×Nat) (λs=>⟨[(0,.v (.int .u64 (s.1:Int))),(1,.v (.int .u64 (s.2:Int)))],[]⟩) (λs=>Nat.gcd s.1 s.2=Nat.gcd x y/\s.2<18446744073709551616) (λs=>s.2) (x,y) ⟨rfl,B⟩ (by repeat first|refine uA ?_|refine⟨rfl,?_⟩|rfl|simp) ?_
 rintro⟨a,b⟩ ⟨h,A⟩;simp only at h A ⊢;(repeat first|refine uA ?_|simp(disch:=omega) only[go_sem]);apply uJ rfl<;>intro F
 ·have hr:Int.tmod (a:Int) (b:Int)=((a%b:Nat):Int):=rfl;have D:a%b<b:=Nat.mod_lt _ (by omega);(repeat first|refine uA ?_|(apply uK;· omega)|simp only[go_sem,hr]|simp(disch:=omega) only[ww,hr]);refine S.next (x:=(a,b)) (b,a%b) ⟨by rw[<- h];simp only;rw[Nat.gcd_comm b,<- Nat.gcd_rec,Nat.gcd_comm],by simp only;omega⟩ (by simp only;omega) (by repeat first|refine uA ?_|refine⟨rfl,?_⟩|rfl|simp[slot])
 ·have u:b=0:=by omega
  subst u;rw[Nat.gcd_zero_right]at h;rw[<- h];exact uT rfl rfl rfl
def c6x(x y:List Nat)(aa:x.length<=274877906944)(ab:y.length<=274877906944)(Y:Nm.R7 x)(Z:Nm.R7 y)(P:∀h:x≠[],x.getLast h≠0)(M:∀h:y≠[],y.getLast h≠0) :
 p8 Tryz.prog 223 [.sl 1 (ls x),.sl 1 (ls y)] (.v (.bool (decide (Nm.wv 18446744073709551616 x<Nm.wv 18446744073709551616 y)))):=by
 have top:∀{a b:List Nat},Nm.R7 a->(∀h:b≠[],b.getLast h≠0)->a.length<b.length->Nm.wv 18446744073709551616 a<Nm.wv 18446744073709551616 b:=by
  intro a b ha hb hl;have I:b≠[]:=λh=>by subst h;simp at hl
  have F:=Nm.b5b (B:=18446744073709551616) (l:=b.dropLast) (hb I);rw[List.dropLast_concat_getLast I,List.length_dropLast]at F;have h2:=Nm.Q7 18446744073709551616 ha;have h3:18446744073709551616^a.length<=18446744073709551616^(b.length-1):=d0G (by decide) (by omega);omega
 refine kS Tryz.func223 (by cbv) (by rfl) λw O=>?_;simp only[j4,TT,II,OA,MM,VV];(repeat first|refine uA ?_|simp only[go_sem,Nat.reduceAdd,I6]|simp(disch:=omega) only[ww,I6]);apply uJ rfl<;>intro hc
 ·have H:decide (Nm.wv 18446744073709551616 x<Nm.wv 18446744073709551616 y)=decide ((x.length:Int)<(y.length:Int)):=by
   rw[decide_eq_decide];constructor
   ·intro h;rcases Nat.lt_trichotomy x.length y.length with F|F|F
    ·omega
    ·omega
    ·have:=top Z P F;omega
   ·intro h;exact top Y M (by omega)
  rw[H];(repeat first|refine uA ?_|simp only[go_sem,I6]|simp(disch:=omega) only[ww,I6]);exact uS rfl rfl
 ·have hl:x.length=y.length:=by omega
  (repeat first|refine uA ?_|simp(disch:=omega) only[go_sem,I6]);refine S.loop (X:=Nat) (λj=>⟨[(0,.sl 1 (ls x)),(1,.sl 1 (ls y)),(5,ints ((j:Int)-1))],[]⟩) (λj=>j<=x.length/\x.drop j=y.drop j) (λj=>j) x.length ⟨d0m _,by rw[List.drop_of_length_le (d0m _),List.drop_of_length_le (by omega)]⟩ (by repeat first|refine uA ?_|refine⟨rfl,?_⟩|rfl|simp) ?_
  rintro j ⟨hj,K⟩;simp only[ints];refine uV rfl ?_;apply uJ rfl<;>intro hc
  ·obtain⟨k,rfl⟩:∃k,j=k+1:=⟨j-1,by omega⟩
   rw[show(((k+1:Nat):Int)-1)=(k:Int) by omega];have A:x[k]?=some (x[k]'(by omega)):=d0b (by omega);have u:y[k]?=some (y[k]'(by omega)):=d0b (by omega);have E:=Nm.a4p 18446744073709551616 x k (by omega);have D:=Nm.a4p 18446744073709551616 y k (by omega);have G:x.drop k=x[k]'(by omega)::x.drop (k+1):=List.drop_eq_getElem_cons (by omega);have J:y.drop k=y[k]'(by omega)::y.drop (k+1):=List.drop_eq_getElem_cons (by omega);generalize x[k]'(by omega)=U at*;generalize y[k]'(by omega)=V at*;rw[G]at E;rw[J,<- K]at D;simp only[Nm.wv]at E D;generalize Nm.wv 18446744073709551616 (x.drop (k+1))=T at*;have W:=Nm.Q7 18446744073709551616 (Y.take k)
   have N:=Nm.Q7 18446744073709551616 (Z.take k);rw[d0r,Nat.min_eq_left (by omega)]at W N;rw[Nat.mul_add]at E D;(repeat first|refine uA ?_|(apply uK;· omega)|simp only[go_sem,I6,T9,A,u,d0e,lm]|simp(disch:=omega) only[ww,I6,T9,A,u,d0e,lm]);apply uJ rfl<;>intro hc
   ·have H:decide (Nm.wv 18446744073709551616 x<Nm.wv 18446744073709551616 y)=decide ((U:Int)<(V:Int)):=by
     rw[decide_eq_decide];rcases Nat.lt_trichotomy U V with h|h|h
     ·have:=Nat.mul_le_mul_left (18446744073709551616^k) h;rw[Nat.mul_succ]at this;omega
     ·omega
     ·have:=Nat.mul_le_mul_left (18446744073709551616^k) h;rw[Nat.mul_succ]at this;omega
    rw[H];(repeat first|refine uA ?_|(apply uK;· omega)|simp only[go_sem,I6,T9,A,u,d0e,lm]|simp(disch:=omega) only[ww,I6,T9,A,u,d0e,lm]);exact uS rfl rfl
   ·have:U=V:=by omega
    (repeat first|refine uA ?_|simp(disch:=omega) only[go_sem]);refine S.next (x:=k+1) k ⟨by omega,by rw[G,J,this,K]⟩ (by omega) (by repeat first|refine uA ?_|refine⟨rfl,?_⟩|rfl|simp)
  ·have R:j=0:=by omega
   subst R;rw[List.drop_zero,List.drop_zero]at K;rw[K];have H:decide (Nm.wv 18446744073709551616 y<Nm.wv 18446744073709551616 y)=false:=by simp
   rw[H];exact uT rfl rfl rfl
def c5p{x n:Nat}{T:Nat}(E:x≠0)(h:x<18446744073709551616):Nm.v2 (18446744073709551616^n*(x+18446744073709551616*T))=64*n+Nm.v2 x:=by
 obtain⟨q,D,G⟩:=Nm.a4u E;have J:Nm.v2 x<64:=by
  rcases d0B (Nm.v2 x) 64 with u|u
  ·exact u
  ·exfalso;have H:2^64<=2^Nm.v2 x:=d0G (by decide) u;have I:2^Nm.v2 x<=2^Nm.v2 x*q:=Nat.le_mul_of_pos_right _ (by omega);omega
 refine Nm.c4x (q:=q+2^(64-Nm.v2 x)*T) ?_ ?_
 ·have F:(18446744073709551616:Nat)=2^Nm.v2 x*2^(64-Nm.v2 x):=by rw[<- Nat.pow_add,show Nm.v2 x+(64-Nm.v2 x)=64 by omega]
  have B:(18446744073709551616:Nat)^n=2^(64*n):=by rw[Nat.pow_mul]
  rw[B,Nat.pow_add,d0N];congr 1
  conv=>lhs;rw[D]
  rw[Nat.mul_add,<- d0N (2^Nm.v2 x),<- F]
 ·have A:2^(64-Nm.v2 x)=2*2^(64-Nm.v2 x-1):=by rw[<- Nat.pow_succ'];congr 1;omega
  rw[A,d0N];omega
def a9N(x:List Nat)(M:x.length<=274877906944)(P:Nm.R7 x)(N:Nm.wv 18446744073709551616 x≠0):FZ 221 [.sl 1 (ls x)] (ints (Nm.v2 (Nm.wv 18446744073709551616 x))):=by
 refine kW Tryz.func221 (by cbv) (by rfl) λw O K=>?_;simp only[j4,TT,II,OA,MM,VV,ints];(repeat first|refine uA ?_|simp(disch:=omega) only[go_sem]);refine S.loop (X:=Nat) (λn=>⟨[(0,.sl 1 (ls x)),(3,ints n)],[]⟩) (λn=>n<=x.length/\Nm.wv 18446744073709551616 x=18446744073709551616^n*Nm.wv 18446744073709551616 (x.drop n)) (λn=>x.length-n) 0 ⟨d0k _,by simp⟩ (by repeat first|refine uA ?_|refine⟨rfl,?_⟩|rfl|simp) ?_
 rintro n ⟨Y,D⟩;simp only[ints];have A:n<x.length:=by
  rcases d0B n x.length with h|h
  ·exact h
  ·rw[List.drop_of_length_le h]at D;simp[Nm.wv]at D;exact absurd D N
 have F:x[n]?=some (x[n]'A):=d0b A;have R:x.drop n=x[n]'A::x.drop (n+1):=List.drop_eq_getElem_cons A;have B:=P _ (d0z A);generalize x[n]'A=u at*;rw[R]at D;simp only[Nm.wv]at D;(repeat first|refine uA ?_|(apply uK;· omega)|simp only[go_sem,I6,T9,F,d0e,lm]|simp(disch:=omega) only[ww,I6,T9,F,d0e,lm]);apply uJ rfl<;>intro W
 ·have G:u=0:=by omega
  subst G;(repeat first|refine uA ?_|simp(disch:=omega) only[go_sem]);refine S.next (x:=n) (n+1) ⟨A,by rw[D,d0A,<- d0N,d0O]⟩ (by omega) (by repeat first|refine uA ?_|refine⟨rfl,?_⟩|rfl|simp)
 ·have G:u≠0:=by omega
  have J:=c5p (n:=n) (T:=Nm.wv 18446744073709551616 (x.drop (n+1))) G B;rw[<- D]at J;rw[J];have I:=c9M u G B;have V:Nm.v2 u<64:=by
   obtain⟨q,U,h2⟩:=Nm.a4u G;rcases d0B (Nm.v2 u) 64 with H|H
   ·exact H
   ·exfalso;have h4:2^64<=2^Nm.v2 u:=d0G (by decide) H;have Z:2^Nm.v2 u<=2^Nm.v2 u*q:=Nat.le_mul_of_pos_right _ (by omega);omega
  have E:((64*n+Nm.v2 u:Nat):Int)=64*(n:Int)+(Nm.v2 u:Int):=by omega
  rw[E];generalize Nm.v2 u=k at*;(repeat first|refine uA ?_|simp(disch:=omega) only[go_sem,I6,T9,F,d0e,lm]|refine uD I (tz K) rfl ?_);exact uS rfl rfl
namespace Nm
def J4(l:List Nat):List Nat:=(l.reverse.dropWhile (· == 0)).reverse
def a8j(l:List Nat):J4 (l++[0])=J4 l:=by simp[J4]
def a5x{l:List Nat}{x:Nat}(h:x≠0):J4 (l++[x])=l++[x]:=by simp[J4,h]
def a8R:J4 []=[]:=rfl
def a6O(l:List Nat):J4 l=l.take (J4 l).length/\(J4 l).length<=l.length/\(∀B,wv B (J4 l)=wv B l)/\(∀h:J4 l≠[],(J4 l).getLast h≠0):=by
 obtain⟨r,rfl⟩:∃r,l=r.reverse:=⟨l.reverse,by simp⟩
 induction r with
 | nil=>simp[a8R]
 | cons x r ih=>
  rw[List.reverse_cons];by_cases u:x=0
  ·subst u;rw[a8j];obtain⟨E,D,A,F⟩:=ih;refine⟨?_,by rw[d0c];omega,λB=>?_,F⟩
   ·rw[List.take_append_of_le_length D];exact E
   ·rw[A,a9Y];simp
  ·rw[a5x u];refine⟨by rw[d0w],d0m _,λB=>rfl,λh=>?_⟩;rw[List.getLast_concat];exact u
def c1D(l:List Nat):(J4 l).length<=l.length:=(a6O l).2.1
def c2F(B:Nat)(l:List Nat):wv B (J4 l)=wv B l:=(a6O l).2.2.1 B
def b9l(l:List Nat):l.take (J4 l).length=J4 l:=(a6O l).1.symm
def b1u(l:List Nat)(h:J4 l≠[]):(J4 l).getLast h≠0:=(a6O l).2.2.2 h
end Nm
def rw2(s:Bool)(u o:List Nat):List Res:=match s with
 | true=>[.row 45 1 (ls u),.row 45 1 (ls o)]
 | false=>[.row 45 1 (ls o),.row 45 1 (ls u)]
section
variable {rs rs' l:List Res} {u o:List Nat} {r:Res}
instance :Sb (C9 rs rs' (rw2 true u o) l) (C9 rs rs' [.row 45 1 (ls u),.row 45 1 (ls o)] l):=⟨id⟩
instance :Sb (C9 rs rs' (rw2 false u o) l) (C9 rs rs' [.row 45 1 (ls o),.row 45 1 (ls u)] l):=⟨id⟩
instance :Sb (C9 rs rs' (r::l) (rw2 true u o)) (C9 rs rs' (r::l) [.row 45 1 (ls u),.row 45 1 (ls o)]):=⟨id⟩
instance :Sb (C9 rs rs' (r::l) (rw2 false u o)) (C9 rs rs' (r::l) [.row 45 1 (ls o),.row 45 1 (ls u)]):=⟨id⟩
end
def kx(s:Bool):Nat:=match s with
 | true=>0
 | false=>1
def a9W{E:Ctx}(W:E.P=Tryz.prog)(s:Bool)(u o:List Nat)(A n:Nat)(hl:u.length<=274877906944)(hn:A+n<=u.length)(ab:A<u.length) :
 l5 E (rw2 s u o) 264 [.wv (kx s) 1 A n] (.wv (kx s) 1 A (Nm.J4 ((u.drop A).take n)).length) (rw2 s u o) []:=by
 obtain⟨P,Y,N,w0,Z,ae,ac,aa⟩:=E;simp only at W;subst W;cases s
 all_goals
  refine l5.of (eff:=eff) Tryz.func264 (by cbv) (by exact d0n rfl) λw own av ν R=>?_;simp only[j4,TT,II,OA,OC,MM,MG,VG,rw2,kx];have B:ν.length<=2:=by rw[R];exact d0m _
  (repeat first|refine uA ?_|simp(disch:=omega) only[go_sem])
 ·refine S.loop (X:=Nat) (λm=>⟨[(0,.wv 1 1 A m)],[.row 45 1 (ls o),.row 45 1 (ls u)]⟩) (λm=>m<=n/\Nm.J4 ((u.drop A).take m)=Nm.J4 ((u.drop A).take n)) (λm=>m) n ⟨d0m _,rfl⟩ (Ent.mk _ _ (by repeat first|refine uA ?_|refine⟨rfl,?_⟩|rfl|simp) (by repeat first|refine uA ?_|refine⟨rfl,?_⟩|rfl|simp) B) ?_;rintro m ⟨hm,G⟩;have V:A+((m:Int)-1).toNat<u.length:=by omega
  have M:u[A+((m:Int)-1).toNat]?=some (u[A+((m:Int)-1).toNat]'V):=d0b V;have D:0<m->(u.drop A).take m=(u.drop A).take (m-1)++[u[A+((m:Int)-1).toNat]'V]:=λh=>by
   have U:(u.drop A)[m-1]?=some (u[A+((m:Int)-1).toNat]'V):=by
    rw[d0Q,<- M];congr 1;omega
   conv=>lhs;rw[show m=m-1+1 by omega,List.take_add_one,U]
   rfl
  generalize u[A+((m:Int)-1).toNat]'V=c at*;(repeat first|refine uA ?_|(apply uK;· first|omega|(intros;simp_all<;>omega))|simp(disch:=omega) only[go_sem,ww,I6,T9,M,d0e,lm]);apply uJ rfl<;>intro T
  ·obtain⟨F,h1⟩:=T;have K:c=0:=by omega
   have O:((m:Int)-1)=((m-1:Nat):Int):=by omega
   rw[D (by omega),K,Nm.a8j]at G;have I:((m:Int)-1).toNat=m-1:=by omega
   (repeat first|refine uA ?_|simp(disch:=omega) only[go_sem,I,Nat.add_zero,Nat.sub_zero,Int.toNat_zero]);refine S.next (x:=m) (m-1) ⟨by omega,G⟩ (by omega) (Ent.mk _ _ (by repeat first|refine uA ?_|refine⟨rfl,?_⟩|rfl|simp) (by repeat first|refine uA ?_|refine⟨rfl,?_⟩|rfl|simp) B)
  ·have J:(Nm.J4 ((u.drop A).take n)).length=m:=by
    rw[<- G];rcases d0K m with F|F
    ·subst F;simp[Nm.a8R]
    ·have H:c≠0:=by omega
     rw[D F,Nm.a5x H,d0c,d0r,d0L,List.length_singleton];omega
   rw[J];(repeat first|refine uA ?_|simp(disch:=omega) only[go_sem]);exact S.done (H6.own rfl)
 ·refine S.loop (X:=Nat) (λm=>⟨[(0,.wv 0 1 A m)],[.row 45 1 (ls u),.row 45 1 (ls o)]⟩) (λm=>m<=n/\Nm.J4 ((u.drop A).take m)=Nm.J4 ((u.drop A).take n)) (λm=>m) n ⟨d0m _,rfl⟩ (Ent.mk _ _ (by repeat first|refine uA ?_|refine⟨rfl,?_⟩|rfl|simp) (by repeat first|refine uA ?_|refine⟨rfl,?_⟩|rfl|simp) B) ?_;rintro m ⟨hm,G⟩;have V:A+((m:Int)-1).toNat<u.length:=by omega
  have M:u[A+((m:Int)-1).toNat]?=some (u[A+((m:Int)-1).toNat]'V):=d0b V;have D:0<m->(u.drop A).take m=(u.drop A).take (m-1)++[u[A+((m:Int)-1).toNat]'V]:=λh=>by
   have U:(u.drop A)[m-1]?=some (u[A+((m:Int)-1).toNat]'V):=by
    rw[d0Q,<- M];congr 1;omega
   conv=>lhs;rw[show m=m-1+1 by omega,List.take_add_one,U]
   rfl
  generalize u[A+((m:Int)-1).toNat]'V=c at*;(repeat first|refine uA ?_|(apply uK;· first|omega|(intros;simp_all<;>omega))|simp(disch:=omega) only[go_sem,ww,I6,T9,M,d0e,lm]);apply uJ rfl<;>intro T
  ·obtain⟨F,h1⟩:=T;have K:c=0:=by omega
   have O:((m:Int)-1)=((m-1:Nat):Int):=by omega
   rw[D (by omega),K,Nm.a8j]at G;have I:((m:Int)-1).toNat=m-1:=by omega
   (repeat first|refine uA ?_|simp(disch:=omega) only[go_sem,I,Nat.add_zero,Nat.sub_zero,Int.toNat_zero]);refine S.next (x:=m) (m-1) ⟨by omega,G⟩ (by omega) (Ent.mk _ _ (by repeat first|refine uA ?_|refine⟨rfl,?_⟩|rfl|simp) (by repeat first|refine uA ?_|refine⟨rfl,?_⟩|rfl|simp) B)
  ·have J:(Nm.J4 ((u.drop A).take n)).length=m:=by
    rw[<- G];rcases d0K m with F|F
    ·subst F;simp[Nm.a8R]
    ·have H:c≠0:=by omega
     rw[D F,Nm.a5x H,d0c,d0r,d0L,List.length_singleton];omega
   rw[J];(repeat first|refine uA ?_|simp(disch:=omega) only[go_sem]);exact S.done (H6.own rfl)
def c6q{E:Ctx}(hP:E.P=Tryz.prog)(s:Bool)(u o:List Nat)(B n D R:Nat)(hl:u.length<=274877906944)(zs:o.length<=274877906944)(hn:B+n<=u.length)(az:B<u.length)(aB:D+R<=o.length)(aC:R<=n)
  (hu:Nm.R7 u) (ho:Nm.R7 o) {X Y:Nat} (hX:X=Nm.wv 18446744073709551616 ((u.drop B).take n)) (hY:Y=Nm.wv 18446744073709551616 ((o.drop D).take R)) (ay:Y<=X) :
  l5 E (rw2 s u o) 224 [.wv (kx s) 1 B n,.wv (kx !s) 1 D R] (.wv (kx s) 1 B (Nm.J4 (Nm.dig 18446744073709551616 n (X-Y))).length) (rw2 s (put u B (Nm.dig 18446744073709551616 n (X-Y))) o) []:=by
 obtain⟨P,ar,N,w0,au,aD,aA,ax⟩:=E;simp only at hP;subst hP;have al:((u.drop B).take n).length=n:=by rw[d0r,d0L];omega
 have aw:((o.drop D).take R).length=R:=by rw[d0r,d0L];omega
 have ac:Nm.R7 ((u.drop B).take n):=(hu.drop B).take _;have aj:Nm.R7 ((o.drop D).take R):=(ho.drop D).take _;have ai:put u B ((u.drop B).take n)=u:=a6d hn;have ae:∀i,i<R->o[D+i]?=((o.drop D).take R)[i]?:=λi hi=>by rw[List.getElem?_take_of_lt hi,d0Q]
 generalize(u.drop B).take n=x at*;generalize(o.drop D).take R=y at*;cases s
 all_goals
  refine l5.of (eff:=eff) Tryz.func224 (by cbv) (by exact d0n rfl) λw own av ν an=>?_;simp only[j4,TT,II,OA,OB,MM,VV,rw2,kx,Bool.not_true,Bool.not_false];have F:ν.length<=2:=by rw[an];exact d0m _
  (repeat first|refine uA ?_|simp(disch:=omega) only[go_sem])
 ·refine S.loop (X:=Nat×List Nat×Nat) (λs=>⟨[(0,.wv 1 1 B n),(1,.wv 0 1 D R),(5,.v (.int .u64 (s.2.2:Int))),(8,.wv 1 1 B n),(9,ints n),(10,ints s.1)],[.row 45 1 (ls o),.row 45 1 (ls (put u B s.2.1))]⟩) (λs=>s.1<=n/\Nm.a4z x y s.1 s.2.1 s.2.2) (λs=>n-s.1) (0,x,0) ⟨d0k _,Nm.a8O y ac⟩ (by simp only[ai];exact Ent.mk _ _ (by repeat first|refine uA ?_|refine⟨rfl,?_⟩|rfl|simp) (by repeat first|refine uA ?_|refine⟨rfl,?_⟩|rfl|simp) F) ?_;rintro⟨i,out,c⟩ ⟨hi,A⟩;simp only[ints]at hi A ⊢;have am:=A.1;have aq:=A.2.2.1;have U:(put u B out).length=u.length:=a1f (by omega);refine uV rfl ?_;apply uJ rfl<;>intro hc
  ·have G:i<n:=by omega
   have M:i<x.length:=by omega
   have ah:x[i]?=some (x[i]'M):=d0b M;have V:(put u B out)[B+i]?=some (x[i]'M):=by rw[a0a (by omega) (by omega),Nm.a1z A.2.2.2.1,ah]
   have ak:=ac _ (d0z M);have I:=λt c' T Z h3=>Nm.a8N (t:=t) (c':=c') A M T Z h3;generalize x[i]'M=O at*;have J:∀d:Nat,d<18446744073709551616->∃t c':Nat,((O:Int)+18446744073709551616-(d:Int)-(c:Int))%18446744073709551616=(t:Int)/\(if(O:Int)<(d:Int)+(c:Int) then(1:Int) else 0)=(c':Int)/\t<18446744073709551616/\c'<=1/\t+c+d=O+18446744073709551616*c':=λd hd=>by
    by_cases h:O<d+c
    ·exact⟨O+18446744073709551616-d-c,1,by omega,by rw[if_pos (by omega)];rfl,by omega,by omega,by omega⟩
    ·exact⟨O-d-c,0,by omega,by rw[if_neg (by omega)];rfl,by omega,by omega,by omega⟩
   have aa:∀t,(put u B out).set (B+i) t=put u B (out.set i t):=λt=>a1g (by omega) (by omega);(repeat first|refine uA ?_|simp(disch:=omega) only[go_sem]);apply uJ rfl<;>intro hc
   ·have K:i<y.length:=by omega
    have ag:y[i]?=some (y[i]'K):=d0b K;have W:=(ae i (by omega)).trans ag;have ab:=aj _ (d0z K);rw[Nm.getD_lt K]at I;generalize y[i]'K=yi at*;obtain⟨t,c',e1,e2,T,Z,h3⟩:=J yi ab;have I:=I t c' T Z h3;(repeat first|refine uA ?_|simp(disch:=omega) only[go_sem,I6,T9,V,W,U,d0e,lm,e1,e2,a2D,aa]);refine S.next (x:=(i,out,c)) (i+1,_,_) ⟨G,I⟩ (by simp only;omega) (Ent.mk _ _ (by repeat first|refine uA ?_|refine⟨rfl,?_⟩|rfl|simp) (by repeat first|refine uA ?_|refine⟨rfl,?_⟩|rfl|simp) F)
   ·have af:y.getD i 0=0:=by rw[d0C,d0J (by omega)];rfl
    rw[af]at I;obtain⟨t,c',e1,e2,T,Z,h3⟩   := J 0 (by decide);rw[show((0:Nat):Int)=0 from rfl]at e1 e2;have I:=I t c' T Z h3;(repeat first|refine uA ?_|simp(disch:=omega) only[go_sem,I6,T9,V,U,d0e,lm,e1,e2,a2D,aa]);refine S.next (x:=(i,out,c)) (i+1,_,_) ⟨G,I⟩ (by simp only;omega) (Ent.mk _ _ (by repeat first|refine uA ?_|refine⟨rfl,?_⟩|rfl|simp) (by repeat first|refine uA ?_|refine⟨rfl,?_⟩|rfl|simp) F)
  ·have G:i=n:=by omega
   subst G;rw[<- al]at A;obtain⟨ap,ao⟩:=Nm.a8X A (by omega) (by omega);have hd:out=Nm.dig 18446744073709551616 i (X-Y):=Nm.a0A (by decide) A.2.1 (by omega) (by omega);rw[<- hd];have H:=λ(E:Ctx) (hP:E.P=Tryz.prog)=>a9W (E:=E) hP (match 1 with|0=>true|_=>false) (put u B out) o B i (by omega) (by omega) (by omega);rw[a3H (by omega) (by omega)]at H;(repeat first|refine uA ?_|simp(disch:=omega) only[go_sem]|refine j5.t (H _ rfl) ?_);exact S.done (H6.own rfl)
 ·refine S.loop (X:=Nat×List Nat×Nat) (λs=>⟨[(0,.wv 0 1 B n),(1,.wv 1 1 D R),(5,.v (.int .u64 (s.2.2:Int))),(8,.wv 0 1 B n),(9,ints n),(10,ints s.1)],[.row 45 1 (ls (put u B s.2.1)),.row 45 1 (ls o)]⟩) (λs=>s.1<=n/\Nm.a4z x y s.1 s.2.1 s.2.2) (λs=>n-s.1) (0,x,0) ⟨d0k _,Nm.a8O y ac⟩ (by simp only[ai];exact Ent.mk _ _ (by repeat first|refine uA ?_|refine⟨rfl,?_⟩|rfl|simp) (by repeat first|refine uA ?_|refine⟨rfl,?_⟩|rfl|simp) F) ?_;rintro⟨i,out,c⟩ ⟨hi,A⟩;simp only[ints]at hi A ⊢;have am:=A.1;have aq:=A.2.2.1;have U:(put u B out).length=u.length:=a1f (by omega);refine uV rfl ?_;apply uJ rfl<;>intro hc
  ·have G:i<n:=by omega
   have M:i<x.length:=by omega
   have ah:x[i]?=some (x[i]'M):=d0b M;have V:(put u B out)[B+i]?=some (x[i]'M):=by rw[a0a (by omega) (by omega),Nm.a1z A.2.2.2.1,ah]
   have ak:=ac _ (d0z M);have I:=λt c' T Z h3=>Nm.a8N (t:=t) (c':=c') A M T Z h3;generalize x[i]'M=O at*;have J:∀d:Nat,d<18446744073709551616->∃t c':Nat,((O:Int)+18446744073709551616-(d:Int)-(c:Int))%18446744073709551616=(t:Int)/\(if(O:Int)<(d:Int)+(c:Int) then(1:Int) else 0)=(c':Int)/\t<18446744073709551616/\c'<=1/\t+c+d=O+18446744073709551616*c':=λd hd=>by
    by_cases h:O<d+c
    ·exact⟨O+18446744073709551616-d-c,1,by omega,by rw[if_pos (by omega)];rfl,by omega,by omega,by omega⟩
    ·exact⟨O-d-c,0,by omega,by rw[if_neg (by omega)];rfl,by omega,by omega,by omega⟩
   have aa:∀t,(put u B out).set (B+i) t=put u B (out.set i t):=λt=>a1g (by omega) (by omega);(repeat first|refine uA ?_|simp(disch:=omega) only[go_sem]);apply uJ rfl<;>intro hc
   ·have K:i<y.length:=by omega
    have ag:y[i]?=some (y[i]'K):=d0b K;have W:=(ae i (by omega)).trans ag;have ab:=aj _ (d0z K);rw[Nm.getD_lt K]at I;generalize y[i]'K=yi at*;obtain⟨t,c',e1,e2,T,Z,h3⟩:=J yi ab;have I:=I t c' T Z h3;(repeat first|refine uA ?_|simp(disch:=omega) only[go_sem,I6,T9,V,W,U,d0e,lm,e1,e2,a2D,aa]);refine S.next (x:=(i,out,c)) (i+1,_,_) ⟨G,I⟩ (by simp only;omega) (Ent.mk _ _ (by repeat first|refine uA ?_|refine⟨rfl,?_⟩|rfl|simp) (by repeat first|refine uA ?_|refine⟨rfl,?_⟩|rfl|simp) F)
   ·have af:y.getD i 0=0:=by rw[d0C,d0J (by omega)];rfl
    rw[af]at I;obtain⟨t,c',e1,e2,T,Z,h3⟩   := J 0 (by decide);rw[show((0:Nat):Int)=0 from rfl]at e1 e2;have I:=I t c' T Z h3;(repeat first|refine uA ?_|simp(disch:=omega) only[go_sem,I6,T9,V,U,d0e,lm,e1,e2,a2D,aa]);refine S.next (x:=(i,out,c)) (i+1,_,_) ⟨G,I⟩ (by simp only;omega) (Ent.mk _ _ (by repeat first|refine uA ?_|refine⟨rfl,?_⟩|rfl|simp) (by repeat first|refine uA ?_|refine⟨rfl,?_⟩|rfl|simp) F)
  ·have G:i=n:=by omega
   subst G;rw[<- al]at A;obtain⟨ap,ao⟩:=Nm.a8X A (by omega) (by omega);have hd:out=Nm.dig 18446744073709551616 i (X-Y):=Nm.a0A (by decide) A.2.1 (by omega) (by omega);rw[<- hd];have H:=λ(E:Ctx) (hP:E.P=Tryz.prog)=>a9W (E:=E) hP (match 0 with|0=>true|_=>false) (put u B out) o B i (by omega) (by omega) (by omega);rw[a3H (by omega) (by omega)]at H;(repeat first|refine uA ?_|simp(disch:=omega) only[go_sem]|refine j5.t (H _ rfl) ?_);exact S.done (H6.own rfl)
def c8F(i:Nat)(h:i<=70368744177664):IntKind.i64.wrap ((i:Int).tdiv 64)=((i/64:Nat):Int):=by
 have:(i:Int).tdiv 64=((i/64:Nat):Int):=rfl;rw[this,Eng.wrap_i64 (by omega)]
def c5z(i:Nat):(i:Int).tmod 64=((i%64:Nat):Int):=rfl
def b5k(o n:Nat)(ho:o<18446744073709551616):bits .or .u64 (o:Int) (((n%18446744073709551616:Nat)):Int)=((o ||| n%18446744073709551616:Nat):Int):=a8U _ _ ho (Nat.mod_lt _ (by decide))
def b3M(x r:Nat)(hr:r<=64):IntKind.u64.wrap ((x:Int)*2^min r 64)=((x*2^r%18446744073709551616:Nat):Int):=by
 rw[show min r 64=r by omega,<- a6y];congr 1
def a9U{E:Ctx}(hP:E.P=Tryz.prog)(s:Bool)(u o:List Nat)(Y n A z:Nat)(hl:u.length<=274877906944)(hn:Y+n<=u.length)(hb:A<=70368744177664)
  (hu:Nm.R7 u) (hz:z≠0) (hX:Nm.wv 18446744073709551616 ((u.drop Y).take n)=z*2^A) :
  A/64<n/\z<18446744073709551616^(n-A/64)/\l5 E (rw2 s u o) 222 [.wv (kx s) 1 Y n,ints A] (.wv (kx s) 1 (Y+A/64) (Nm.J4 (Nm.dig 18446744073709551616 (n-A/64) z)).length) (rw2 s (put u (Y+A/64) (Nm.dig 18446744073709551616 (n-A/64) z)) o) []:=by
 have ax:((u.drop Y).take n).length=n:=by rw[d0r,d0L];omega
 have aj:Nm.R7 ((u.drop Y).take n):=(hu.drop Y).take _;have e2:2^A=18446744073709551616^(A/64)*2^(A%64):=by
  rw[show(18446744073709551616:Nat)=2^64 by decide,<- Nat.pow_mul,<- Nat.pow_add];congr 1;omega
 have aF:A/64<n:=by
  rcases d0B (A/64) n with h|h
  ·exact h
  ·exfalso;have h1:=Nm.Q7 18446744073709551616 aj;have h2:18446744073709551616^n<=18446744073709551616^(A/64):=d0G (by decide) h;have h3:18446744073709551616^(A/64)<=2^A:=by rw[e2];exact Nat.le_mul_of_pos_right _ (Nat.pow_pos (by decide))
   have h4:2^A<=z*2^A:=Nat.le_mul_of_pos_left _ (by omega);rw[ax]at h1;omega
 have zs:((u.drop Y).take n).drop (A/64)=(u.drop (Y+A/64)).take (n-A/64):=by
  rw[List.drop_take,List.drop_drop]
 have U:Nm.wv 18446744073709551616 ((u.drop (Y+A/64)).take (n-A/64))=z*2^(A%64):=by
  rw[<- zs,Nm.b8f aj (by omega),hX,e2,<- d0N,Nat.mul_comm z,d0N,Nat.mul_comm (18446744073709551616^_) (z*_),Nat.mul_div_cancel _ (Nat.pow_pos (by decide))]
 have ae:A%64<64:=Nat.mod_lt _ (by decide);have aL:A/64<=1099511627776:=by omega
 clear zs hX e2;have aw:=c8F A hb;have au:=c5z A;generalize A/64=j at*;generalize A%64=b at*;generalize hp:n-j=p at*;generalize ay:Y+j=l1 at*;have aE:l1+p<=u.length:=by omega
 have aI:0<p:=by omega
 have az:n-j=p:=hp;have F:Nm.R7 ((u.drop l1).take p):=(hu.drop l1).take _;have W:put u l1 ((u.drop l1).take p)=u:=a6d aE;have V:((u.drop l1).take p).length=p:=by rw[d0r,d0L];omega
 generalize(u.drop l1).take p=r0 at*;have aB:z<18446744073709551616^p:=by
  have h1:=Nm.Q7 18446744073709551616 F;rw[V,U]at h1;exact Nat.lt_of_le_of_lt (Nat.le_mul_of_pos_right _ (Nat.pow_pos (by decide))) h1
 refine⟨aF,aB,?_⟩;clear ax aj;obtain⟨P,aH,N,w0,aG,aJ,aM,aK⟩:=E;simp only at hP;subst hP;cases s
 all_goals
  refine l5.of (eff:=eff) Tryz.func222 (by cbv) (by exact d0n rfl) λw own av ν aD=>?_;simp only[j4,TT,II,OA,OB,MM,VV,rw2,kx,ints];have H:ν.length<=2:=by rw[aD];exact d0m _
  (repeat first|refine uA ?_|(apply uK;focus omega)|simp only[go_sem,Nat.reduceAdd,aw,au,ay,az]|simp(disch:=omega) only[ww,aw,au,I6,ay,az]);(refine uJ rfl (λhc=>?_) λhc=>?_)
 ·(repeat first|refine uA ?_|(apply uK;focus omega)|simp(disch:=omega) only[go_sem]);refine S.loop (X:=Nat×List Nat) (λs=>⟨[(0,.wv 1 1 l1 p),(1,ints b),(15,ints p),(16,ints s.1)],[.row 45 1 (ls o),.row 45 1 (ls (put u l1 s.2))]⟩) (λs=>s.1<=p/\Nm.a2Q r0 (2^b) s.1 s.2) (λs=>p-s.1) (0,r0) ⟨d0k _,Nm.a6X F⟩ (by simp only[W];exact Ent.mk _ _ (by(repeat first|refine uA ?_|(refine⟨?_,?_⟩;focus first|rfl|trivial|(simp[slot];done))|rfl|trivial|simp)) (by(repeat first|refine uA ?_|(refine⟨?_,?_⟩;focus first|rfl|trivial|(simp[slot];done))|rfl|trivial|simp)) H) ?_
  rintro⟨i,out⟩ ⟨hi,B⟩;simp only[ints]at hi B ⊢;have aA:=B.1;have af:(put u l1 out).length=u.length:=a1f (by omega);(repeat first|refine uA ?_|(apply uK;focus omega)|simp(disch:=omega) only[go_sem]);(refine uJ rfl (λhc=>?_) λhc=>?_)
  ·have J:i<p:=by omega
   have R:i<r0.length:=by omega
   have al:r0[i]?=some (r0[i]'R):=d0b R;have am:(put u l1 out)[l1+i]?=some (r0[i]'R):=by
    rw[a0a (by omega) (by omega),Nm.a1z B.2.2.1,al]
   have M:=F _ (d0z R);have I:=λt ht=>Nm.a6R (t:=t) B ae R F ht;have G:∀a,(put u l1 out).set (l1+i) a=put u l1 (out.set i a):=λa=>a1g (by omega) (by omega);generalize r0[i]'R=ri at*;have ag:Int.fdiv (ri:Int) (2^min b 64)=((ri/2^b:Nat):Int):=by
    rw[show min b 64=b by omega,<- a3z];congr 1
   have ah:ri/2^b<18446744073709551616:=Nat.lt_of_le_of_lt (Nat.div_le_self _ _) M;generalize ri/2^b=K at*;(repeat first|refine uA ?_|(apply uK;focus omega)|simp only[go_sem,Nat.reduceAdd,Nat.reduceLeDiff,I6,T9,am,af,d0e,lm,a2D,ag,G]|simp(disch:=omega) only[ww]);(refine uJ rfl (λhc=>?_) λhc=>?_)
   ·have O:i+1<r0.length:=by omega
    have ab:(put u l1 (out.set i K)).length=u.length:=a1f (by rw[d0S];omega);have aq:(put u l1 (out.set i K))[l1+i]?=some K:=by
     rw[<- G,List.getElem?_set_self (by omega)]
    have ap:r0[i+1]?=some (r0[i+1]'O):=d0b O;have ai:(put u l1 (out.set i K))[l1+(i+1)]?=some (r0[i+1]'O):=by
     have:=a0a (us:=u) (out:=out) (k:=l1) (i:=i+1) (by omega) (by omega);rw[<- G,List.getElem?_set_ne (by omega),this];have h3:=congrArg (λl=>l[1]?) B.2.2.1;simp only[d0Q]at h3;rw[h3,ap]
    have ar:=F _ (d0z O);have ak:r0.getD (i+1) 0=r0[i+1]'O:=Nm.getD_lt O;rw[ak]at I;generalize r0[i+1]'O=rn at*;have ac:=b3M rn (64-b) (by omega);have an:((64:Int)-(b:Int)).toNat=64-b:=by omega
    have aa:=b5k K (rn*2^(64-b)) ah;have I:=I _ rfl;rw[if_pos (by omega)]at I;generalize rn*2^(64-b)=sh at*;generalize aC:K ||| sh%18446744073709551616=to at*
    have T:(put u l1 (out.set i K)).set (l1+i) to=put u l1 (out.set i to):=by
     have:=a1g (us:=u) (out:=out.set i K) (k:=l1) (i:=i) (v:=to) (by rw[d0S];omega) (by rw[d0S];omega);rwa[List.set_set]at this
    have Z:((i:Int)+1).toNat=i+1:=by omega
    (repeat first|refine uA ?_|(apply uK;focus omega)|simp only[go_sem,Nat.reduceAdd,Nat.reduceLeDiff,I6,T9,aq,ab,d0e,lm]|simp(disch:=omega) only[ww,ai,d0e,lm,an,Z,ac,aa,a2D,T]);refine S.next (x:=(i,out)) (i+1,_) ⟨J,I.1⟩ (by simp only;omega) (Ent.mk _ _ (by(repeat first|refine uA ?_|(refine⟨?_,?_⟩;focus first|rfl|trivial|(simp[slot];done))|rfl|trivial|simp)) (by(repeat first|refine uA ?_|(refine⟨?_,?_⟩;focus first|rfl|trivial|(simp[slot];done))|rfl|trivial|simp)) H)
   ·have I:=I _ rfl;rw[if_neg (by omega)]at I;(repeat first|refine uA ?_|(apply uK;focus omega)|simp(disch:=omega) only[go_sem,ww]);refine S.next (x:=(i,out)) (i+1,_) ⟨J,I.1⟩ (by simp only;omega) (Ent.mk _ _ (by(repeat first|refine uA ?_|(refine⟨?_,?_⟩;focus first|rfl|trivial|(simp[slot];done))|rfl|trivial|simp)) (by(repeat first|refine uA ?_|(refine⟨?_,?_⟩;focus first|rfl|trivial|(simp[slot];done))|rfl|trivial|simp)) H)
  ·have J:i=p:=by omega
   subst J;rw[<- V]at B;have he:=Nm.a7A B (by omega) U;have hd:out=Nm.dig 18446744073709551616 i z:=Nm.a0A (by decide) B.2.1 (by omega) he;rw[<- hd];have D:=λ(E:Ctx) (hP:E.P=Tryz.prog)=>a9W (E:=E) hP (match 1 with|0=>true|_=>false) (put u l1 out) o l1 i (by omega) (by omega) (by omega);rw[a3H (by omega) (by omega)]at D;(repeat first|refine uA ?_|(apply uK;focus omega)|simp(disch:=omega) only[go_sem]|refine j5.t (D _ rfl) ?_);exact S.done (H6.own rfl)
 ·have ao:b=0:=by omega
  subst ao;rw[Nat.pow_zero,Nat.mul_one]at U;have hd:r0=Nm.dig 18446744073709551616 p z:=Nm.a0A (by decide) F V U;have D:=λ(E:Ctx) (hP:E.P=Tryz.prog)=>a9W (E:=E) hP (match 1 with|0=>true|_=>false) u o l1 p (by omega) (by omega) (by omega);have hw:(u.drop l1).take p=r0:=by rw[<- W];exact a3H V.symm (by omega)
  rw[hw]at D;rw[<- hd,W];(repeat first|refine uA ?_|(apply uK;focus omega)|simp(disch:=omega) only[go_sem]|refine j5.t (D _ rfl) ?_);exact S.done (H6.own rfl)
 ·(repeat first|refine uA ?_|(apply uK;focus omega)|simp(disch:=omega) only[go_sem]);refine S.loop (X:=Nat×List Nat) (λs=>⟨[(0,.wv 0 1 l1 p),(1,ints b),(15,ints p),(16,ints s.1)],[.row 45 1 (ls (put u l1 s.2)),.row 45 1 (ls o)]⟩) (λs=>s.1<=p/\Nm.a2Q r0 (2^b) s.1 s.2) (λs=>p-s.1) (0,r0) ⟨d0k _,Nm.a6X F⟩ (by simp only[W];exact Ent.mk _ _ (by(repeat first|refine uA ?_|(refine⟨?_,?_⟩;focus first|rfl|trivial|(simp[slot];done))|rfl|trivial|simp)) (by(repeat first|refine uA ?_|(refine⟨?_,?_⟩;focus first|rfl|trivial|(simp[slot];done))|rfl|trivial|simp)) H) ?_
  rintro⟨i,out⟩ ⟨hi,B⟩;simp only[ints]at hi B ⊢;have aA:=B.1;have af:(put u l1 out).length=u.length:=a1f (by omega);(repeat first|refine uA ?_|(apply uK;focus omega)|simp(disch:=omega) only[go_sem]);(refine uJ rfl (λhc=>?_) λhc=>?_)
  ·have J:i<p:=by omega
   have R:i<r0.length:=by omega
   have al:r0[i]?=some (r0[i]'R):=d0b R;have am:(put u l1 out)[l1+i]?=some (r0[i]'R):=by
    rw[a0a (by omega) (by omega),Nm.a1z B.2.2.1,al]
   have M:=F _ (d0z R);have I:=λt ht=>Nm.a6R (t:=t) B ae R F ht;have G:∀a,(put u l1 out).set (l1+i) a=put u l1 (out.set i a):=λa=>a1g (by omega) (by omega);generalize r0[i]'R=ri at*;have ag:Int.fdiv (ri:Int) (2^min b 64)=((ri/2^b:Nat):Int):=by
    rw[show min b 64=b by omega,<- a3z];congr 1
   have ah:ri/2^b<18446744073709551616:=Nat.lt_of_le_of_lt (Nat.div_le_self _ _) M;generalize ri/2^b=K at*;(repeat first|refine uA ?_|(apply uK;focus omega)|simp only[go_sem,Nat.reduceAdd,Nat.reduceLeDiff,I6,T9,am,af,d0e,lm,a2D,ag,G]|simp(disch:=omega) only[ww]);(refine uJ rfl (λhc=>?_) λhc=>?_)
   ·have O:i+1<r0.length:=by omega
    have ab:(put u l1 (out.set i K)).length=u.length:=a1f (by rw[d0S];omega);have aq:(put u l1 (out.set i K))[l1+i]?=some K:=by
     rw[<- G,List.getElem?_set_self (by omega)]
    have ap:r0[i+1]?=some (r0[i+1]'O):=d0b O;have ai:(put u l1 (out.set i K))[l1+(i+1)]?=some (r0[i+1]'O):=by
     have:=a0a (us:=u) (out:=out) (k:=l1) (i:=i+1) (by omega) (by omega);rw[<- G,List.getElem?_set_ne (by omega),this];have h3:=congrArg (λl=>l[1]?) B.2.2.1;simp only[d0Q]at h3;rw[h3,ap]
    have ar:=F _ (d0z O);have ak:r0.getD (i+1) 0=r0[i+1]'O:=Nm.getD_lt O;rw[ak]at I;generalize r0[i+1]'O=rn at*;have ac:=b3M rn (64-b) (by omega);have an:((64:Int)-(b:Int)).toNat=64-b:=by omega
    have aa:=b5k K (rn*2^(64-b)) ah;have I:=I _ rfl;rw[if_pos (by omega)]at I;generalize rn*2^(64-b)=sh at*;generalize aC:K ||| sh%18446744073709551616=to at*
    have T:(put u l1 (out.set i K)).set (l1+i) to=put u l1 (out.set i to):=by
     have:=a1g (us:=u) (out:=out.set i K) (k:=l1) (i:=i) (v:=to) (by rw[d0S];omega) (by rw[d0S];omega);rwa[List.set_set]at this
    have Z:((i:Int)+1).toNat=i+1:=by omega
    (repeat first|refine uA ?_|(apply uK;focus omega)|simp only[go_sem,Nat.reduceAdd,Nat.reduceLeDiff,I6,T9,aq,ab,d0e,lm]|simp(disch:=omega) only[ww,ai,d0e,lm,an,Z,ac,aa,a2D,T]);refine S.next (x:=(i,out)) (i+1,_) ⟨J,I.1⟩ (by simp only;omega) (Ent.mk _ _ (by(repeat first|refine uA ?_|(refine⟨?_,?_⟩;focus first|rfl|trivial|(simp[slot];done))|rfl|trivial|simp)) (by(repeat first|refine uA ?_|(refine⟨?_,?_⟩;focus first|rfl|trivial|(simp[slot];done))|rfl|trivial|simp)) H)
   ·have I:=I _ rfl;rw[if_neg (by omega)]at I;(repeat first|refine uA ?_|(apply uK;focus omega)|simp(disch:=omega) only[go_sem,ww]);refine S.next (x:=(i,out)) (i+1,_) ⟨J,I.1⟩ (by simp only;omega) (Ent.mk _ _ (by(repeat first|refine uA ?_|(refine⟨?_,?_⟩;focus first|rfl|trivial|(simp[slot];done))|rfl|trivial|simp)) (by(repeat first|refine uA ?_|(refine⟨?_,?_⟩;focus first|rfl|trivial|(simp[slot];done))|rfl|trivial|simp)) H)
  ·have J:i=p:=by omega
   subst J;rw[<- V]at B;have he:=Nm.a7A B (by omega) U;have hd:out=Nm.dig 18446744073709551616 i z:=Nm.a0A (by decide) B.2.1 (by omega) he;rw[<- hd];have D:=λ(E:Ctx) (hP:E.P=Tryz.prog)=>a9W (E:=E) hP (match 0 with|0=>true|_=>false) (put u l1 out) o l1 i (by omega) (by omega) (by omega);rw[a3H (by omega) (by omega)]at D;(repeat first|refine uA ?_|(apply uK;focus omega)|simp(disch:=omega) only[go_sem]|refine j5.t (D _ rfl) ?_);exact S.done (H6.own rfl)
 ·have ao:b=0:=by omega
  subst ao;rw[Nat.pow_zero,Nat.mul_one]at U;have hd:r0=Nm.dig 18446744073709551616 p z:=Nm.a0A (by decide) F V U;have D:=λ(E:Ctx) (hP:E.P=Tryz.prog)=>a9W (E:=E) hP (match 0 with|0=>true|_=>false) u o l1 p (by omega) (by omega) (by omega);have hw:(u.drop l1).take p=r0:=by rw[<- W];exact a3H V.symm (by omega)
  rw[hw]at D;rw[<- hd,W];(repeat first|refine uA ?_|(apply uK;focus omega)|simp(disch:=omega) only[go_sem]|refine j5.t (D _ rfl) ?_);exact S.done (H6.own rfl)
structure Win(u:List Nat)(lo n v:Nat):Prop where
 hn:lo+n<=u.length
 hlo:lo<u.length
 hl:u.length<=17179869184
 ha:Nm.R7 u
 hv:Nm.wv 18446744073709551616 ((u.drop lo).take n)=v
 ht:Nm.J4 ((u.drop lo).take n)=(u.drop lo).take n
def Win.len{u:List Nat}{A n v:Nat}(h:Win u A n v):((u.drop A).take n).length=n:=by
 have:=h.hn;rw[d0r,d0L];omega
def c0T{us a:List Nat}{k:Nat}(hu:Nm.R7 us)(ha:Nm.R7 a):Nm.R7 (put us k a):=λw h=>by
 simp only[put,List.mem_append]at h;rcases h with(h|h)|h
 ·exact hu w (List.mem_of_mem_take h)
 ·exact ha w h
 ·exact hu w (List.mem_of_mem_drop h)
theorem Win.put{u:List Nat}{l1 p z:Nat}(N:l1+p<=u.length)(H:l1<u.length)(J:u.length<=17179869184)(F:Nm.R7 u)(I:z<18446744073709551616^p) :
  Win (put u l1 (Nm.dig 18446744073709551616 p z)) l1 (Nm.J4 (Nm.dig 18446744073709551616 p z)).length z:=by
 have A:(Go.Proofs.YtfkipfnkpeobjaaGreatDoor.put u l1 (Nm.dig 18446744073709551616 p z)).length=u.length:=a1f (by rw[Nm.M6];omega);have B:=Nm.c1D (Nm.dig 18446744073709551616 p z);rw[Nm.M6]at B;have E:((Go.Proofs.YtfkipfnkpeobjaaGreatDoor.put u l1 (Nm.dig 18446744073709551616 p z)).drop l1).take (Nm.J4 (Nm.dig 18446744073709551616 p z)).length=Nm.J4 (Nm.dig 18446744073709551616 p z):=by
  have e:=a3H (us:=u) (k:=l1) (a:=Nm.dig 18446744073709551616 p z) (n:=p) (Nm.M6 _ _ _).symm (by rw[Nm.M6];omega);have D:=congrArg (List.take (Nm.J4 (Nm.dig 18446744073709551616 p z)).length) e;rw[List.take_take,Nat.min_eq_left B,Nm.b9l]at D;exact D
 refine⟨by rw[A];omega,by rw[A];exact H,by rw[A];exact J,c0T F (Nm.a2g (by decide) _ _),?_,?_⟩
 ·rw[E,Nm.c2F,Nm.a0x I]
 ·rw[E];have K:∀l,Nm.J4 (Nm.J4 l)=Nm.J4 l:=λl=>by
   by_cases h:Nm.J4 l=[]
   ·rw[h];rfl
   ·have M:=Nm.b1u l h;have G:Nm.J4 l=(Nm.J4 l).dropLast++[(Nm.J4 l).getLast h]:=(List.dropLast_concat_getLast h).symm;rw[G,Nm.a5x M]
  exact K _
def Win.last{u:List Nat}{A n v:Nat}(h:Win u A n v):∀hh:(u.drop A).take n≠[],((u.drop A).take n).getLast hh≠0:=by
 have B:=h.ht;generalize(u.drop A).take n=x at*;intro hh;have:=Nm.b1u x (by rw[B];exact hh);simpa only[B] using this
def Win.all{u:List Nat}{lo n v:Nat}(h:Win u lo n v):Nm.R7 ((u.drop lo).take n):=(h.ha.drop lo).take n
def Win.zero{u:List Nat}{E n v:Nat}(h:Win u E n v)(J:v=0):n=0:=by
 rcases d0K n with F|F
 ·exact F
 ·exfalso;have H:=h.len;have D:=h.last;have I:=h.hv;generalize(u.drop E).take n=x at*;have A:x≠[]:=λe=>by subst e;simp at H;omega
  have G:=Nm.b5b (B:=18446744073709551616) (l:=x.dropLast) (D A);rw[List.dropLast_concat_getLast A]at G;have:=Nat.pow_pos (n:=x.dropLast.length) (show 0<18446744073709551616 by decide);omega
def Win.nonzero{u:List Nat}{A n v:Nat}(h:Win u A n v)(B:n=0):v=0:=by
 have:=h.hv;subst B;rw[<- this];rfl
def Win.le{u o:List Nat}{J n v D E v2:Nat}(h:Win u J n v)(H:Win o D E v2)(K:v2<=v):E<=n:=by
 rcases d0B n E with I|I
 ·exfalso;have N:=H.len;have F:=H.last;have O:=H.hv;have G:=Nm.Q7 18446744073709551616 h.all;rw[h.len,h.hv]at G;generalize(o.drop D).take E=x at*;have A:x≠[]:=λe=>by subst e;simp at N;omega
  have M:=Nm.b5b (B:=18446744073709551616) (l:=x.dropLast) (F A);rw[List.dropLast_concat_getLast A,List.length_dropLast]at M;have P:18446744073709551616^n<=18446744073709551616^(x.length-1):=d0G (by decide) (by omega);omega
 ·exact I
theorem Win.v2{u:List Nat}{D n v:Nat}(h:Win u D n v)(G:v≠0):Nm.v2 v<=70368744177664:=by
 obtain⟨q,E,H⟩:=Nm.a4u G;have A:=Nm.Q7 18446744073709551616 h.all;rw[h.len,h.hv]at A;have B:2^Nm.v2 v<=v:=by
  conv=>rhs;rw[E]
  exact Nat.le_mul_of_pos_right _ (by omega)
 have F:2^Nm.v2 v<2^(64*n):=by rw[Nat.pow_mul];exact Nat.lt_of_le_of_lt B A
 have I:=(Nat.pow_lt_pow_iff_right (by decide:1<2)).1 F;have:=h.hn;have:=h.hl;omega
namespace Nm
def c5b(n k:Nat)(h:k<8):(be8 n)[k]?=some (oB (n/2^(56-8*k))):=by
 have:k=0\/k=1\/k=2\/k=3\/k=4\/k=5\/k=6\/k=7:=by omega
 rcases this with rfl|rfl|rfl|rfl|rfl|rfl|rfl|rfl<;>simp[be8]
def b0c(n:Nat):(be8 n).length=8:=rfl
def a3q(l:List Nat):List UInt8:=(l.reverse.map be8).flatten
def b1v(l:List Nat)(x:Nat):a3q (l++[x])=be8 x++a3q l:=by simp[a3q]
def b2Q(r:List Nat)(h:R7 r.reverse):(a3q r.reverse).length=8*r.length/\val (a3q r.reverse)=wv 18446744073709551616 r.reverse:=by
 induction r with
 | nil=>exact⟨rfl,rfl⟩
 | cons x r ih=>
  rw[List.reverse_cons]at h ⊢;obtain⟨u,B⟩:=ih λw A=>h w (List.mem_append_left _ A);rw[b1v,a9Y,b8o,u,B,b8t (h x (by simp)),List.length_reverse,d0c,b0c,u,d0j];refine⟨by omega,?_⟩;rw[Nat.pow_mul,show(256:Nat)^8=18446744073709551616 by decide,Nat.mul_comm x,Nat.add_comm]
def b3e{l:List Nat}(h:R7 l):(a3q l).length=8*l.length:=by
 have:=(b2Q l.reverse (by simpa using h)).1;simpa using this
def c1z{l:List Nat}(h:R7 l):val (a3q l)=wv 18446744073709551616 l:=by
 have:=(b2Q l.reverse (by simpa using h)).2;simpa using this
def a2Z(l:List Nat)(i k:Nat):List UInt8:=List.replicate (8*(l.length-1-i)) 0++((be8 (l.getD i 0)).take k++List.replicate (8-k) 0)++a3q (l.take i)
def a6C(l:List Nat)(i:Nat):List UInt8:=List.replicate (8*(l.length-i)) 0++a3q (l.take i)
def c0t(l:List Nat):a6C l 0=List.replicate (8*l.length) 0:=by simp[a6C,a3q]
def b6b(l:List Nat):a6C l l.length=a3q l:=by simp[a6C]
def b3P{l:List Nat}{i:Nat}(h:i<l.length):a2Z l i 0=a6C l i:=by
 rw[a2Z,a6C,List.take_zero,List.nil_append,Nat.sub_zero,List.replicate_append_replicate];congr 2;omega
def b1A{l:List Nat}{i:Nat}(h:i<l.length):a2Z l i 8=a6C l (i+1):=by
 have e:l.take (i+1)=l.take i++[l.getD i 0]:=by
  rw[List.take_add_one,d0C,d0b h];rfl
 rw[a2Z,a6C,e,b1v,d0y (by rw[b0c];exact d0m _),Nat.sub_self,List.replicate_zero,List.append_nil,d0o];congr 3;omega
def b4A{l:List Nat}(u:R7 l){i k:Nat}(h:i<l.length)(A:k<=8):(a2Z l i k).length=8*l.length:=by
 simp only[a2Z,d0c,List.length_replicate,d0r,b0c,b3e (u.take i),d0r];omega
def b3H{l:List Nat}{i k:Nat}(u:k<8):(a2Z l i k).set (8*(l.length-1-i)+k) (oB (l.getD i 0/2^(56-8*k)))=a2Z l i (k+1):=by
 have e:(be8 (l.getD i 0)).take (k+1)=(be8 (l.getD i 0)).take k++[oB (l.getD i 0/2^(56-8*k))]:=by
  rw[List.take_add_one,c5b _ _ u];rfl
 have A:List.replicate (8-k) (0:UInt8)=0::List.replicate (8-(k+1)) 0:=by rw[<- List.replicate_succ];congr 1;omega
 have h:((be8 (l.getD i 0)).take k).length=k:=by rw[d0r,b0c];omega
 rw[a2Z,a2Z,e,A,List.set_append_left _ _ (by simp only[d0c,List.length_replicate,h,d0j];omega),List.set_append_right _ _ (by simp),List.length_replicate,Nat.add_sub_cancel_left,List.set_append_right _ _ (by omega),h,Nat.sub_self,List.set_cons_zero,d0o (List.take k _),List.singleton_append]
def c1R(n:Nat):val (oB (2^(n%8))::List.replicate (n/8) 0)=2^n:=by
 have u:val (List.replicate (n/8) (0:UInt8))=0:=by
  generalize n/8=k
  induction k with
  | zero=>rfl
  | succ k ih=>rw[List.replicate_succ,a0W,ih];simp
 have h:2^(n%8)<256:=by
  have:2^(n%8)<=2^7:=d0G (by decide) (by omega);omega
 rw[a0W,u,a3d,Nat.mod_eq_of_lt h,List.length_replicate,Nat.add_zero,show(256:Nat)=2^8 by decide,<- Nat.pow_mul,<- Nat.pow_add];congr 1;omega
end Nm
end Go.Proofs.YtfkipfnkpeobjaaGreatDoor
