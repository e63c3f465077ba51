/- A part of the proof: lemmas only, with the conditions that each names. -/
import Derived.Laws.Bits64b
import Derived.Test.YtgpegbfnlkidjaaGreatDoorProg
import Derived.KernelRfl
import Derived.Shelf.Small.Bits
import Derived.Shelf.Small.Strs
import Derived.Shelf.Small.Wraps
import Derived.Shelf.Strconv.Itoa0
import Derived.Shelf.Spec.TrailingZeros
import Derived.Shelf.SlSortCmp.NoneTotal
import Derived.Ground.SlsfProg
import Derived.Test.YtgpegbfnlkidjaaGreatDoorNk2
set_option linter.all false
namespace Go.Proofs.YtgpegbfnlkidjaaGreatDoor.Nm
def val (l:List UInt8):Nat:=l.foldl (fun n b=>256*n+b.toNat) 0
theorem a5w:∀ (l:List UInt8) (n:Nat),l.foldl (fun n b=>256*n+b.toNat) n=n*256 ^ l.length+val l
 | [],n=>by simp [val]
 | b::l,n=>by
  have h1:=a5w l (256*n+b.toNat)
  have h2:=a5w l (256*0+b.toNat)
  simp only [List.foldl_cons,val,c7m,c7F] at h1 h2 ⊢
  rw [h1,h2]
  grind
theorem b1G:val []=0:=rfl
theorem Z9 (b:UInt8) (l:List UInt8):val (b::l)=b.toNat*256 ^ l.length+val l:=by
 have:=a5w l (256*0+b.toNat)
 simp only [val,List.foldl_cons] at this ⊢
 rw [this]
 simp
theorem b7j (a b:List UInt8):val (a++b)=val a*256 ^ b.length+val b:=by
 unfold val
 rw [List.foldl_append,a5w]
 rfl
theorem a4V (a:List UInt8) (b:UInt8):val (a++[b])=256*val a+b.toNat:=by
 rw [b7j,Z9];simp [b1G];omega
theorem Y7:∀ (l:List UInt8),val l < 256 ^ l.length
 | []=>by simp [val]
 | b::l=>by
  have h:=Y7 l
  have hb:=b.toNat_lt
  rw [Z9,c7m,c7F]
  have:b.toNat*256 ^ l.length<=255*256 ^ l.length:=c7y _ (by omega)
  omega
def trim:List UInt8->List UInt8
 | []=>[]
 | b::l=>if b=0 then trim l else b::l
theorem R6:∀ l,val (trim l)=val l
 | []=>rfl
 | b::l=>by
  unfold trim
  split
  ·rename_i h;subst h;rw [R6 l,Z9];simp
  ·rfl
theorem Y4:∀ l,(trim l).length<=l.length
 | []=>c7b _
 | b::l=>by
  unfold trim
  split
  ·have:=Y4 l;simp;omega
  ·exact c7b _
def canon (l:List UInt8):Prop:=∀ r,l ≠ 0::r
theorem X7:∀ l,canon (trim l)
 | [],r=>by simp [trim]
 | b::l,r=>by
  unfold trim
  split
  ·exact X7 l r
  ·intro e;injection e;contradiction
theorem a6W {l:List UInt8} (h:canon l):trim l=l:=by
 cases l with
 | nil=>rfl
 | cons b l=>
  unfold trim
  rw [if_neg]
  intro e
  exact h l (by rw [e])
theorem a7V (l:List UInt8):trim (trim l)=trim l:=a6W (X7 l)
theorem a8d:canon []:=fun r h=>by cases h
theorem b0V {b:UInt8} {l:List UInt8} (h:canon (b::l)):256 ^ l.length<=val (b::l):=by
 have hb:1<=b.toNat:=by
  rcases c7s b.toNat with h0|h0
  ·exact absurd (by rw [show b=0 from UInt8.toNat.inj h0]) (h l)
  ·exact h0
 rw [Z9]
 have:=c7y (256 ^ l.length) hb
 omega
theorem val_zero {l:List UInt8} (h:canon l):val l=0 <-> l=[]:=by
 cases l with
 | nil=>simp [val]
 | cons b l=>
  have:=b0V h
  have:=Nat.pow_pos (n:=l.length) (show 0 < 256 by decide)
  simp;omega
theorem a8Z:∀ {a b:List UInt8},a.length=b.length->val a=val b->a=b
 | [],[],_,_=>rfl
 | [],_::_,h,_=>by cases h
 | _::_,[],h,_=>by cases h
 | x::a,y::b,h,hv=>by
  simp only [c7m,Nat.add_right_cancel_iff] at h
  rw [Z9,Z9,h] at hv
  have h1:=Y7 a
  have h2:=Y7 b
  rw [h] at h1
  have hp:=Nat.pow_pos (n:=b.length) (show 0 < 256 by decide)
  have e1:(x.toNat*256 ^ b.length+val a) / 256 ^ b.length=x.toNat:=by
   rw [Nat.mul_comm,Nat.mul_add_div hp,Nat.div_eq_of_lt h1];rfl
  have e2:(y.toNat*256 ^ b.length+val b) / 256 ^ b.length=y.toNat:=by
   rw [Nat.mul_comm,Nat.mul_add_div hp,Nat.div_eq_of_lt h2];rfl
  rw [hv,e2] at e1
  have hxy:x=y:=UInt8.toNat.inj e1.symm
  subst hxy
  rw [a8Z h (by omega)]
theorem a2O {a b:List UInt8} (hb:canon b) (h:a.length < b.length):val a < val b:=by
 cases b with
 | nil=>simp at h
 | cons y b=>
  have h1:=b0V hb
  have h2:=Y7 a
  have h3:256 ^ a.length<=256 ^ b.length:=c7z (by decide) (by simp at h;omega)
  omega
theorem b8O {a b:List UInt8} (ha:canon a) (hb:canon b) (h:val a=val b):a=b:=by
 refine a8Z ?_ h
 rcases Nat.lt_trichotomy a.length b.length with h1|h1|h1
 ·have:=a2O hb h1;omega
 ·exact h1
 ·have:=a2O ha h1;omega
def enc (n:Nat):List UInt8:=if n=0 then [] else enc (n / 256)++[UInt8.ofNat (n % 256)]
termination_by n
decreasing_by omega
theorem a0W:enc 0=[]:=by unfold enc;rfl
theorem H8 (n:Nat):val (enc n)=n:=by
 induction n using Nat.strongRecOn with
 | _ n ih=>
  unfold enc
  split
  ·rename_i h;subst h;rfl
  ·rw [a4V,ih _ (by omega)]
   have:(UInt8.ofNat (n % 256)).toNat=n % 256:=by simp
   rw [this];omega
theorem a6g {n:Nat} (h:n ≠ 0):enc n ≠ []:=fun e=>h (by rw [<- H8 n,e];rfl)
theorem a2A (n:Nat):canon (enc n):=by
 induction n using Nat.strongRecOn with
 | _ n ih=>
  unfold enc
  split
  ·exact a8d
  ·rename_i hn
   intro r hr
   by_cases h0:n / 256=0
   ·rw [h0,a0W,List.nil_append] at hr
    injection hr with h1 _
    have h2:=congrArg UInt8.toNat h1
    simp at h2
    omega
   ·have h1:=ih (n / 256) (by omega)
    cases he:enc (n / 256) with
    | nil=>exact a6g h0 he
    | cons b l=>
     rw [he] at hr h1
     injection hr with h2 _
     exact h1 l (by rw [h2])
theorem a8w (l:List UInt8):enc (val l)=trim l:=b8O (a2A _) (X7 l) (by rw [H8,R6])
theorem a1v {l:List UInt8} (h:canon l):enc (val l)=l:=by rw [a8w,a6W h]
theorem b2f {a b:Nat} (h:enc a=enc b):a=b:=by rw [<- H8 a,h,H8]
theorem F3 {n k:Nat} (h:n < 256 ^ k):(enc n).length<=k:=by
 rcases c7p k (enc n).length with h1|h1
 ·cases he:enc n with
  | nil=>rw [he] at h1;simp at h1
  | cons b l=>
   have h2:=b0V (he ▸ a2A n)
   rw [<- he,H8] at h2
   rw [he] at h1
   have:256 ^ k<=256 ^ l.length:=c7z (by decide) (by simp at h1;omega)
   omega
 ·exact h1
theorem Y3 {n k:Nat} (h:(enc n).length<=k):n < 256 ^ k:=by
 have h1:=Y7 (enc n)
 rw [H8] at h1
 have:256 ^ (enc n).length<=256 ^ k:=c7z (by decide) h
 omega
theorem a0q {l:List UInt8} {k:Nat} (h:l.length<=k):val l < 256 ^ k:=by
 have:=Y7 l
 have:256 ^ l.length<=256 ^ k:=c7z (by decide) h
 omega
def wv (B:Nat):List Nat->Nat
 | []=>0
 | w::r=>w+B*wv B r
theorem a8r (B:Nat):∀ (a b:List Nat),wv B (a++b)=wv B a+B ^ a.length*wv B b
 | [],b=>by simp [wv]
 | x::a,b=>by
  simp only [List.cons_append,wv,a8r B a b,c7m,c7F]
  grind
theorem a8L (B:Nat) (a:List Nat) (x:Nat):wv B (a++[x])=wv B a+B ^ a.length*x:=by
 rw [a8r];simp [wv]
theorem D6 (B:Nat) {l:List Nat} {i:Nat} (h:i < l.length):wv B (l.take (i+1))=wv B (l.take i)+B ^ i*l[i]:=by
 rw [c7L h,a8L,c7d]
 rw [Nat.min_eq_left (by omega)]
theorem a3n (B:Nat) (l:List Nat) (i:Nat) (h:i<=l.length):wv B l=wv B (l.take i)+B ^ i*wv B (l.drop i):=by
 have:=a8r B (l.take i) (l.drop i)
 rw [List.take_append_drop,c7d,Nat.min_eq_left h] at this
 exact this
theorem a5l (B:Nat):∀ {l:List Nat} {i:Nat} (h:i < l.length) (v:Nat),wv B (l.set i v)+B ^ i*l[i]=wv B l+B ^ i*v
 | [],i,h,v=>by simp at h
 | x::l,0,h,v=>by simp [wv];omega
 | x::l,i+1,h,v=>by
  have:=a5l B (l:=l) (i:=i) (by simpa using h) v
  simp only [List.set_cons_succ,wv,List.getElem_cons_succ,c7F]
  grind
theorem M6 (B:Nat):∀ {l:List Nat},(∀ w ∈ l,w < B)->wv B l < B ^ l.length
 | [],_=>by simp [wv]
 | x::l,h=>by
  have h1:=M6 B (l:=l) fun w hw=>h w (by simp [hw])
  have h2:=h x (by simp)
  simp only [wv,c7m,c7F]
  have h3:B*(wv B l+1)<=B*B ^ l.length:=Nat.mul_le_mul_left _ h1
  rw [Nat.mul_add,Nat.mul_one] at h3
  rw [Nat.mul_comm (B ^ l.length) B]
  omega
theorem a7h (B:Nat):∀ n,wv B (List.replicate n 0)=0
 | 0=>rfl
 | n+1=>by simp [List.replicate_succ,wv,a7h B n]
theorem b5F {B:Nat} {l:List Nat} {x:Nat} (hx:x ≠ 0):B ^ l.length<=wv B (l++[x]):=by
 rw [a8L]
 have:B ^ l.length*1<=B ^ l.length*x:=Nat.mul_le_mul_left _ (by omega)
 omega
theorem mem_set {α:Type} {l:List α} {i:Nat} {v x:α} (h:x ∈ l.set i v):x=v \/ x ∈ l:=by
 rcases List.mem_or_eq_of_mem_set h with h|h
 ·exact .inr h
 ·exact .inl h
def dig (B:Nat):Nat->Nat->List Nat
 | 0,_=>[]
 | L+1,n=>n % B::dig B L (n / B)
theorem K3 (B:Nat):∀ L n,(dig B L n).length=L
 | 0,_=>rfl
 | L+1,n=>by simp [dig,K3 B L]
theorem a1b {B:Nat} (hB:0 < B):∀ L n,∀ w ∈ dig B L n,w < B
 | 0,_,w,h=>by simp [dig] at h
 | L+1,n,w,h=>by
  simp only [dig,List.mem_cons] at h
  rcases h with rfl|h
  ·exact Nat.mod_lt _ hB
  ·exact a1b hB L _ w h
theorem b9h (B:Nat):∀ L n,wv B (dig B L n)=n % B ^ L
 | 0,n=>by simp [dig,wv,Nat.mod_one]
 | L+1,n=>by
  simp only [dig,wv,b9h B L]
  rw [c7F,Nat.mul_comm (B ^ L) B,Nat.mod_mul]
theorem X8 {B L n:Nat} (h:n < B ^ L):wv B (dig B L n)=n:=by rw [b9h,Nat.mod_eq_of_lt h]
theorem b8Q {B:Nat} (hB:0 < B):∀ {l:List Nat},(∀ w ∈ l,w < B)->l=dig B l.length (wv B l)
 | [],_=>rfl
 | x::l,h=>by
  have hx:=h x (by simp)
  have ih:=b8Q hB (l:=l) fun w hw=>h w (by simp [hw])
  simp only [c7m,dig,wv]
  rw [Nat.add_mul_mod_self_left,Nat.mod_eq_of_lt hx,Nat.add_mul_div_left _ _ hB,Nat.div_eq_of_lt hx,c7D,<- ih]
theorem X9 {B L n:Nat} {l:List Nat} (hB:0 < B) (h:∀ w ∈ l,w < B) (hl:l.length=L) (hn:wv B l=n):l=dig B L n:=by
 have:=b8Q hB h
 rw [hl,hn] at this
 exact this
theorem a7t {l:List UInt8} {i:Nat} (h:i < l.length):val (l.drop (l.length-1-i))=(l[l.length-1-i]).toNat*256 ^ i+val (l.drop (l.length-i)):=by
 have h1:l.drop (l.length-1-i)=l[l.length-1-i]::l.drop (l.length-i):=by
  rw [List.drop_eq_getElem_cons (by omega)]
  congr 2;omega
 rw [h1,Z9,c7E]
 congr 2;congr 1;omega
def a5b (l:List UInt8) (i:Nat) (out:List Nat):Prop:=
 out.length=(l.length+3) / 4/\(∀ w ∈ out,w < 4294967296)/\wv 4294967296 out=val (l.drop (l.length-i))/\∀ j (h:j < out.length),out[j] < 256 ^ (i-4*j)
theorem b3r (l:List UInt8):a5b l 0 (List.replicate ((l.length+3) / 4) 0):=by
 refine ⟨by simp,fun w hw=>by rw [c7t hw];decide,?_,fun j h=>by simp⟩
 rw [a7h];simp [val]
theorem b8V (i:Nat):4294967296 ^ (i / 4)*256 ^ (i % 4)=256 ^ i:=by
 have h:(4294967296:Nat)=256 ^ 4:=by decide
 rw [h,<- Nat.pow_mul,<- Nat.pow_add]
 congr 1;omega
theorem a3s {a b r:Nat} (h:a < 2 ^ r):a ||| (b*2 ^ r)=a+b*2 ^ r:=by
 have:=Nat.two_pow_add_eq_or_of_lt h b
 rw [Nat.mul_comm b,Nat.add_comm a,this,Nat.or_comm]
theorem b3t {l:List UInt8} {i:Nat} {out:List Nat} (h:a5b l i out) (hi:i < l.length) (hj:i / 4 < out.length) :
  a5b l (i+1) (out.set (i / 4) (out[i / 4] ||| (l[l.length-1-i]).toNat*2 ^ (8*(i % 4))))/\out[i / 4] ||| (l[l.length-1-i]).toNat*2 ^ (8*(i % 4)) < 4294967296/\(l[l.length-1-i]).toNat*2 ^ (8*(i % 4)) < 4294967296:=by
 obtain ⟨h1,h2,h3,h4⟩:=h
 have e256:2 ^ (8*(i % 4))=256 ^ (i % 4):=by rw [Nat.pow_mul]
 have hb:=(l[l.length-1-i]).toNat_lt
 have hlow:=h4 (i / 4) hj
 rw [show i-4*(i / 4)=i % 4 by omega] at hlow
 have hor:out[i / 4] ||| (l[l.length-1-i]).toNat*2 ^ (8*(i % 4))=out[i / 4]+(l[l.length-1-i]).toNat*256 ^ (i % 4):=by
  rw [a3s (by rw [e256];exact hlow),e256]
 rw [hor,e256]
 have hpos:=Nat.pow_pos (n:=i % 4) (show 0 < 256 by decide)
 have hmul:(l[l.length-1-i]).toNat*256 ^ (i % 4)<=255*256 ^ (i % 4):=c7y _ (by omega)
 have hnew:out[i / 4]+(l[l.length-1-i]).toNat*256 ^ (i % 4) < 256 ^ (i % 4+1):=by rw [c7F];omega
 have h4p:(256:Nat) ^ (i % 4+1)<=256 ^ 4:=c7z (by decide) (by omega)
 have h44:(256:Nat) ^ 4=4294967296:=by decide
 refine ⟨⟨by simp [h1],fun w hw=>?_,?_,fun j hjl=>?_⟩,by omega,by omega⟩
 ·rcases mem_set hw with rfl|hw
  ·omega
  ·exact h2 w hw
 ·have hs:=a5l 4294967296 hj (out[i / 4]+(l[l.length-1-i]).toNat*256 ^ (i % 4))
  rw [Nat.mul_add,<- c7B,Nat.mul_right_comm,c7B,Nat.mul_comm (l[l.length-1-i]).toNat,Nat.mul_comm _ (l[l.length-1-i]).toNat] at hs
  rw [show l.length-(i+1)=l.length-1-i by omega,a7t hi,<- h3,<- b8V i]
  have:4294967296 ^ (i / 4)*((l[l.length-1-i]).toNat*256 ^ (i % 4))=(l[l.length-1-i]).toNat*(4294967296 ^ (i / 4)*256 ^ (i % 4)):=by grind
  have hs':=a5l 4294967296 hj (out[i / 4]+(l[l.length-1-i]).toNat*256 ^ (i % 4))
  rw [Nat.mul_add] at hs'
  omega
 ·rw [List.getElem_set]
  split
  ·rename_i e;subst e
   rw [show i+1-4*(i / 4)=i % 4+1 by omega];exact hnew
  ·have h5:=h4 j (by simpa using hjl)
   have:(256:Nat) ^ (i-4*j)<=256 ^ (i+1-4*j):=c7z (by decide) (by omega)
   omega
def J9 (l:List UInt8):List Nat:=dig 4294967296 (((trim l).length+3) / 4) (val l)
theorem b4j {l:List UInt8} {out:List Nat} (h:a5b (trim l) (trim l).length out):out=J9 l:=by
 obtain ⟨h1,h2,h3,_⟩:=h
 refine X9 (by decide) h2 h1 ?_
 rw [h3,Nat.sub_self,List.drop_zero,R6]
theorem b5R (l:List UInt8):val l < 4294967296 ^ (((trim l).length+3) / 4):=by
 have h:=Y7 (trim l)
 rw [R6] at h
 have h4:(4294967296:Nat)=256 ^ 4:=by decide
 rw [h4,<- Nat.pow_mul]
 have:256 ^ (trim l).length<=256 ^ (4*(((trim l).length+3) / 4)):=c7z (by decide) (by omega)
 omega
theorem X5 (l:List UInt8):(J9 l).length=((trim l).length+3) / 4:=K3 _ _ _
theorem a0n (l:List UInt8):wv 4294967296 (J9 l)=val l:=X8 (b5R l)
theorem a0m (l:List UInt8):∀ w ∈ J9 l,w < 4294967296:=a1b (by decide) _ _
theorem a8a (l:List UInt8) (h:J9 l ≠ []):4294967296 ^ ((J9 l).length-1)<=val l:=by
 have hl:=X5 l
 have hc:=X7 l
 have hv:=R6 l
 cases ht:trim l with
 | nil=>rw [ht] at hl;exact absurd (c7w (by simpa using hl)) h
 | cons b r=>
  rw [ht] at hc hl hv
  have:=b0V hc
  have h4:(4294967296:Nat)=256 ^ 4:=by decide
  rw [h4,<- Nat.pow_mul]
  have:256 ^ (4*((J9 l).length-1))<=256 ^ r.length:=c7z (by decide) (by simp at hl;omega)
  omega
theorem b2W {α:Type} (x0 x1 x2 x3:α):∀ (k:Nat) (b:List α),k+3 < b.length->((((b.set k x0).set (k+1) x1).set (k+2) x2).set (k+3) x3).drop k=x0::x1::x2::x3::b.drop (k+4)
 | 0,b,h=>by
  match b,h with
  | _::_::_::_::r,_=>simp
 | k+1,[],h=>by simp at h
 | k+1,a::b,h=>by
  have:=b2W x0 x1 x2 x3 k b (by simp at h;omega)
  simpa using this
def a6j (l:List Nat) (i:Nat) (b:List UInt8):Prop:=b.length=4*l.length/\val (b.drop (4*(l.length-i)))=wv 4294967296 (l.take i)
theorem b4D (l:List Nat):a6j l 0 (List.replicate (4*l.length) 0):=by
 refine ⟨by simp,?_⟩
 rw [List.drop_of_length_le (by simp)];rfl
theorem b4Z {l:List Nat} {i:Nat} {b:List UInt8} (h:a6j l i b) (hi:i < l.length) (hw:l[i] < 4294967296) {x0 x1 x2 x3:UInt8}
  (h0:x0.toNat=l[i] / 16777216 % 256) (h1:x1.toNat=l[i] / 65536 % 256) (h2:x2.toNat=l[i] / 256 % 256) (h3:x3.toNat=l[i] % 256) :
  a6j l (i+1) ((((b.set (4*(l.length-1-i)) x0).set (4*(l.length-1-i)+1) x1).set (4*(l.length-1-i)+2) x2).set (4*(l.length-1-i)+3) x3):=by
 obtain ⟨e1,e2⟩:=h
 refine ⟨by simp [e1],?_⟩
 rw [show 4*(l.length-(i+1))=4*(l.length-1-i) by omega,b2W _ _ _ _ _ _ (by omega),show 4*(l.length-1-i)+4=4*(l.length-i) by omega,D6 _ hi,<- e2]
 have hl:(b.drop (4*(l.length-i))).length=4*i:=by rw [c7E];omega
 simp only [Z9,c7m,hl]
 have h4:(4294967296:Nat)=256 ^ 4:=by decide
 rw [h4,<- Nat.pow_mul]
 have e:l[i]=x0.toNat*16777216+x1.toNat*65536+x2.toNat*256+x3.toNat:=by rw [h0,h1,h2,h3];omega
 rw [e]
 generalize x0.toNat=a0
 generalize x1.toNat=a1
 generalize x2.toNat=a2
 generalize x3.toNat=a3
 have p1:(256:Nat) ^ (4*i+1+1+1)=16777216*256 ^ (4*i):=by rw [c7F,c7F,c7F];omega
 have p2:(256:Nat) ^ (4*i+1+1)=65536*256 ^ (4*i):=by rw [c7F,c7F];omega
 have p3:(256:Nat) ^ (4*i+1)=256*256 ^ (4*i):=by rw [c7F];omega
 rw [p1,p2,p3]
 grind
theorem b5J {l:List Nat} {b:List UInt8} (h:a6j l l.length b):trim b=enc (wv 4294967296 l):=by
 obtain ⟨_,h⟩:=h
 rw [Nat.sub_self,Nat.mul_zero,List.drop_zero,c7l] at h
 rw [<- h,a8w]
def oB (n:Nat):UInt8:=UInt8.ofNat (n % 256)
theorem a2b (n:Nat):(oB n).toNat=n % 256:=by simp [oB]
def be8 (n:Nat):List UInt8:=[oB (n / 72057594037927936),oB (n / 281474976710656),oB (n / 1099511627776),oB (n / 4294967296),oB (n / 16777216),oB (n / 65536),oB (n / 256),oB n]
theorem b6V {n:Nat} (h:n < 18446744073709551616):val (be8 n)=n:=by
 simp only [be8,val,List.foldl_cons,List.foldl_nil,a2b]
 omega
theorem b3X {n:Nat} (h:n < 18446744073709551616):trim (be8 n)=enc n:=by rw [<- a8w,b6V h]
theorem b7Z (v b:Nat) (hb:b < 256):(v % 18446744073709551616*256) % 18446744073709551616 ||| b=(256*v+b) % 18446744073709551616:=by
 have h1:(v % 18446744073709551616*256) % 18446744073709551616=(v % 72057594037927936)*2 ^ 8:=by omega
 rw [h1,Nat.mul_comm _ (2 ^ 8),<- Nat.two_pow_add_eq_or_of_lt (by simpa using hb)]
 omega
theorem Q8 (B:Nat) {l:List Nat} {i:Nat} (h:i < l.length) (v:Nat):wv B ((l.set i v).take (i+1))=wv B (l.take i)+B ^ i*v:=by
 rw [D6 B (by simpa using h),List.getElem_set_self,List.take_set_of_le (c7b _)]
theorem a3f (B:Nat) (l:List Nat) (i:Nat):wv B (l.take (i+1))=wv B (l.take i)+B ^ i*l.getD i 0:=by
 rcases c7p i l.length with h|h
 ·rw [D6 B h,c7g,c6T h];rfl
 ·rw [c7o (by omega),c7o h,c7g,c7v h];simp
def a4e (x y:List Nat) (i:Nat) (out:List Nat) (c:Nat):Prop:=
 out.length=x.length+1/\(∀ w ∈ out,w < 4294967296)/\c<=1/\wv 4294967296 (out.take i)+4294967296 ^ i*c=wv 4294967296 (x.take i)+wv 4294967296 (y.take i)
theorem a9l (x y:List Nat):a4e x y 0 (List.replicate (x.length+1) 0) 0:=by
 refine ⟨by simp,fun w hw=>by rw [c7t hw];decide,by omega,by simp [wv]⟩
theorem b6b {x y:List Nat} {i:Nat} {out:List Nat} {c:Nat} (h:a4e x y i out c) (hi:i < x.length) (hx:x[i] < 4294967296) (hy:y.getD i 0 < 4294967296) {s:Nat} (hs:s=c+x[i]+y.getD i 0) :
  a4e x y (i+1) (out.set i (s % 4294967296)) (s / 4294967296):=by
 obtain ⟨h1,h2,h3,h4⟩:=h
 refine ⟨by simp [h1],fun w hw=>?_,by omega,?_⟩
 ·rcases mem_set hw with rfl|hw
  ·exact Nat.mod_lt _ (by decide)
  ·exact h2 w hw
 ·rw [Q8 _ (by omega),D6 _ hi,a3f]
  have hd:s=s % 4294967296+4294967296*(s / 4294967296):=by omega
  have e:4294967296 ^ i*s=4294967296 ^ i*c+4294967296 ^ i*x[i]+4294967296 ^ i*y.getD i 0:=by rw [hs,Nat.mul_add,Nat.mul_add]
  have e2:4294967296 ^ i*s=4294967296 ^ i*(s % 4294967296)+4294967296 ^ (i+1)*(s / 4294967296):=by
   conv=>lhs;rw [hd,Nat.mul_add,<- c7B,<- c7F]
  omega
theorem b0Z {x y:List Nat} {out:List Nat} {c:Nat} (h:a4e x y x.length out c) (hl:y.length<=x.length):wv 4294967296 (out.set x.length c)=wv 4294967296 x+wv 4294967296 y/\∀ w ∈ out.set x.length c,w < 4294967296:=by
 obtain ⟨h1,h2,h3,h4⟩:=h
 refine ⟨?_,fun w hw=>?_⟩
 ·have:=Q8 4294967296 (l:=out) (i:=x.length) (by omega) c
  rw [c7o (by simp [h1])] at this
  rw [c7l,c7o hl] at h4
  omega
 ·rcases mem_set hw with rfl|hw
  ·omega
  ·exact h2 w hw
def a8q (x y:List Nat) (i:Nat) (out:List Nat) (c:Nat):Prop:=
 out.length=x.length/\(∀ w ∈ out,w < 4294967296)/\c<=1/\out.drop i=x.drop i/\wv 4294967296 (out.take i)+wv 4294967296 (y.take i)+4294967296 ^ i*0=wv 4294967296 (x.take i)+4294967296 ^ i*c
theorem b5U {x:List Nat} (y:List Nat) (hx:∀ w ∈ x,w < 4294967296):a8q x y 0 x 0:=by
 refine ⟨rfl,hx,by omega,rfl,by simp [wv]⟩
theorem a0v {α:Type} {a b:List α} {i:Nat} (h:a.drop i=b.drop i):a[i]?=b[i]?:=by
 have:=congrArg (fun l=>l[0]?) h
 simpa using this
theorem a0f {α:Type} {a b:List α} {i:Nat} (v:α) (h:a.drop i=b.drop i):(a.set i v).drop (i+1)=b.drop (i+1):=by
 rw [List.drop_set_of_lt (by omega)]
 have:=congrArg (List.drop 1) h
 simpa [List.drop_drop] using this
theorem b5L {x y:List Nat} {i:Nat} {out:List Nat} {c:Nat} (h:a8q x y i out c) (hi:i < x.length) {t c':Nat} (ht:t < 4294967296) (hc:c'<=1) (hs:t+c+y.getD i 0=x[i]+4294967296*c') :
  a8q x y (i+1) (out.set i t) c':=by
 obtain ⟨h1,h2,h3,hd,h4⟩:=h
 refine ⟨by simp [h1],fun w hw=>?_,hc,a0f _ hd,?_⟩
 ·rcases mem_set hw with rfl|hw
  ·exact ht
  ·exact h2 w hw
 ·rw [Q8 _ (by omega),D6 _ hi,a3f]
  have e:=congrArg (4294967296 ^ i*·) hs
  simp only [Nat.mul_add] at e
  rw [<- c7B,<- c7F] at e
  simp only [Nat.succ_eq_add_one] at e
  omega
theorem b7w {x y:List Nat} {out:List Nat} {c:Nat} (h:a8q x y x.length out c) (hl:y.length<=x.length) (hle:wv 4294967296 y<=wv 4294967296 x):c=0/\wv 4294967296 out+wv 4294967296 y=wv 4294967296 x:=by
 obtain ⟨h1,h2,h3,_,h4⟩:=h
 rw [c7l,c7o (by omega),c7o hl] at h4
 have:=M6 4294967296 h2
 rw [h1] at this
 have hc:c=0:=by
  rcases c7s c with h0|h0
  ·exact h0
  ·have:c=1:=by omega
   subst this
   omega
 subst hc
 exact ⟨rfl,by omega⟩
def a7S (x y:List Nat) (i:Nat) (out:List Nat):Prop:=
 out.length=x.length+y.length/\(∀ w ∈ out,w < 4294967296)/\wv 4294967296 out=wv 4294967296 (x.take i)*wv 4294967296 y/\∀ j,i+y.length<=j->out.getD j 0=0
def b0A (x y:List Nat) (i k:Nat) (out:List Nat) (c:Nat):Prop:=
 out.length=x.length+y.length/\(∀ w ∈ out,w < 4294967296)/\c < 4294967296/\wv 4294967296 out+4294967296 ^ (i+k)*c=wv 4294967296 (x.take i)*wv 4294967296 y+4294967296 ^ i*(x.getD i 0*wv 4294967296 (y.take k))/\∀ j,i+y.length<=j->out.getD j 0=0
theorem b5H (x y:List Nat):a7S x y 0 (List.replicate (x.length+y.length) 0):=by
 refine ⟨by simp,fun w hw=>by rw [c7t hw];decide,by rw [a7h];simp [wv],fun j _=>?_⟩
 rw [c7g,List.getElem?_replicate];split<;>rfl
theorem b8c {x y:List Nat} {i:Nat} {out:List Nat} (h:a7S x y i out):b0A x y i 0 out 0:=by
 obtain ⟨h1,h2,h3,h4⟩:=h
 exact ⟨h1,h2,by decide,by rw [h3];simp [wv],h4⟩
theorem getD_set_ne {l:List Nat} {i j v:Nat} (h:i ≠ j):(l.set i v).getD j 0=l.getD j 0:=by
 simp [c7g,List.getElem?_set_ne h]
theorem b7R {x y:List Nat} {i k:Nat} {out:List Nat} {c:Nat} (h:b0A x y i k out c) (hi:i < x.length) (hk:k < y.length) (hx:x[i] < 4294967296) (hy:y[k] < 4294967296) {s:Nat} (ho:i+k < out.length) (hs:s=c+x[i]*y[k]+out[i+k]) :
  b0A x y i (k+1) (out.set (i+k) (s % 4294967296)) (s / 4294967296)/\s<=18446744073709551615:=by
 obtain ⟨h1,h2,h3,h4,h5⟩:=h
 have hm:x[i]*y[k]<=4294967295*4294967295:=Nat.mul_le_mul (by omega) (by omega)
 have hok:=h2 _ (c7k ho)
 have hsb:s<=18446744073709551615:=by omega
 refine ⟨⟨by simp [h1],fun w hw=>?_,by omega,?_,fun j hj=>?_⟩,hsb⟩
 ·rcases mem_set hw with rfl|hw
  ·exact Nat.mod_lt _ (by decide)
  ·exact h2 w hw
 ·have e0:=a5l 4294967296 ho (s % 4294967296)
  rw [D6 _ hk]
  have hd:s=s % 4294967296+4294967296*(s / 4294967296):=by omega
  have e2:4294967296 ^ (i+k)*s=4294967296 ^ (i+k)*(s % 4294967296)+4294967296 ^ (i+(k+1))*(s / 4294967296):=by
   conv=>lhs;rw [hd,Nat.mul_add,<- c7B,<- c7F]
   rfl
  have e3:4294967296 ^ (i+k)*s=4294967296 ^ (i+k)*c+4294967296 ^ (i+k)*(x[i]*y[k])+4294967296 ^ (i+k)*out[i+k]:=by rw [hs,Nat.mul_add,Nat.mul_add]
  have e4:x.getD i 0=x[i]:=by rw [c7g,c6T hi];rfl
  rw [e4] at h4 ⊢
  have e5:4294967296 ^ i*(x[i]*(wv 4294967296 (y.take k)+4294967296 ^ k*y[k]))=4294967296 ^ i*(x[i]*wv 4294967296 (y.take k))+4294967296 ^ (i+k)*(x[i]*y[k]):=by
   rw [Nat.pow_add,Nat.mul_add,Nat.mul_add]
   congr 1
   generalize 4294967296 ^ i=p
   generalize 4294967296 ^ k=q
   grind
  omega
 ·rw [getD_set_ne (by omega)];exact h5 j hj
theorem b9z {x y:List Nat} {i:Nat} {out:List Nat} {c:Nat} (h:b0A x y i y.length out c) (hi:i < x.length):a7S x y (i+1) (out.set (i+y.length) c):=by
 obtain ⟨h1,h2,h3,h4,h5⟩:=h
 have ho:i+y.length < out.length:=by omega
 refine ⟨by simp [h1],fun w hw=>?_,?_,fun j hj=>?_⟩
 ·rcases mem_set hw with rfl|hw
  ·exact h3
  ·exact h2 w hw
 ·have e0:=a5l 4294967296 ho c
  have e1:=h5 _ (c7b (i+y.length))
  rw [c7g,c6T ho] at e1
  simp only [Option.getD_some] at e1
  rw [e1,Nat.mul_zero,Nat.add_zero] at e0
  rw [e0,h4,c7l,a3f]
  grind
 ·rw [getD_set_ne (by omega)];exact h5 j (by omega)
theorem b7F {x y:List Nat} {out:List Nat} (h:a7S x y x.length out):wv 4294967296 out=wv 4294967296 x*wv 4294967296 y:=by
 obtain ⟨_,_,h,_⟩:=h
 rw [c7l] at h
 exact h
section
variable {W V p v1 v2 lo2 top u2 wl d rest:Nat}
theorem c4x (hV:v1*p<=V) (hW:W < (top+1)*p) (h1:0 < v1):W / V<=top / v1:=by
 rw [Nat.le_div_iff_mul_le h1]
 rcases c7p top (W / V*v1) with h|h
 ·exfalso
  have h2:(top+1)*p<=W / V*v1*p:=c7y p h
  have h3:W / V*(v1*p)<=W / V*V:=Nat.mul_le_mul_left _ hV
  have h4:W / V*V<=W:=Nat.div_mul_le_self W V
  rw [<- c7B] at h3
  omega
 ·exact h
theorem c3i {B:Nat} (hV:(v1*B+v2)*p<=V) (hW:W < (top*B+u2+1)*p) (ht:top=d*v1+rest) (hd:rest*B+u2 < d*v2):W / V < d:=by
 have h1:top*B+u2+1<=d*(v1*B+v2):=by
  rw [ht,Nat.add_mul,Nat.mul_add,c7B];omega
 have h2:(top*B+u2+1)*p<=d*(v1*B+v2)*p:=c7y p h1
 have h3:d*((v1*B+v2)*p)<=d*V:=Nat.mul_le_mul_left _ hV
 rw [<- c7B] at h3
 have h4:W < d*V:=by omega
 rcases c7s V with h0|h0
 ·subst h0;simp at h4
 ·rwa [Nat.div_lt_iff_lt_mul h0]
theorem c5E {B:Nat} (hV:V < (v1*B+v2+1)*p) (hW:(top*B+u2)*p<=W) (ht:top=d*v1+rest) (hd:d*v2<=rest*B+u2) (hB:d < B) (h1:0 < v1):(d-1)*V<=W:=by
 rcases c7s d with h0|h0
 ·subst h0;simp
 obtain ⟨e,rfl⟩:∃ e,d=e+1:=⟨d-1,by omega⟩
 simp only [Nat.add_sub_cancel]
 have hB1:B<=v1*B:=by have:=c7y B h1;omega
 have h2:(e+1)*(v1*B+v2)<=top*B+u2:=by
  have a1:=Nat.mul_add (e+1) (v1*B) v2
  have a2:=Nat.add_mul ((e+1)*v1) rest B
  have a3:=c7B (e+1) v1 B
  rw [ht];omega
 have h3:e*(v1*B+v2+1)<=top*B+u2:=by
  have:(e+1)*(v1*B+v2)=e*(v1*B+v2)+(v1*B+v2):=by rw [Nat.add_mul,Nat.one_mul]
  have:e*(v1*B+v2+1)=e*(v1*B+v2)+e:=by rw [Nat.mul_add _ _ 1,Nat.mul_one]
  omega
 have h4:e*V<=e*((v1*B+v2+1)*p):=Nat.mul_le_mul_left _ (by omega)
 have h5:e*(v1*B+v2+1)*p<=(top*B+u2)*p:=c7y p h3
 rw [<- c7B] at h4
 omega
end
theorem c1L {W V d:Nat} (h1:W / V<=d) (h2:(d-1)*V<=W) (hV:0 < V):(d*V<=W/\W / V=d) \/ (W < d*V/\0 < d/\W / V=d-1):=by
 rcases c7p W (d*V) with h|h
 ·refine .inr ⟨h,?_,?_⟩
  ·rcases c7s d with h0|h0
   ·subst h0;simp at h
   ·exact h0
  ·have:W / V < d:=by rwa [Nat.div_lt_iff_lt_mul hV]
   have:d-1<=W / V:=by rwa [Nat.le_div_iff_mul_le hV]
   omega
 ·refine .inl ⟨h,?_⟩
  have:d<=W / V:=by rwa [Nat.le_div_iff_mul_le hV]
  omega
def leftInv (x:List Nat) (p i:Nat) (out:List Nat):Prop:=
 out.length=x.length+1/\(∀ w ∈ out,w < 4294967296)/\out.getD i 0 < p/\wv 4294967296 (out.take i)+4294967296 ^ i*out.getD i 0=wv 4294967296 (x.take i)*p
theorem getD_lt {l:List Nat} {i:Nat} (h:i < l.length):l.getD i 0=l[i]:=by rw [c7g,c6T h];rfl
theorem b4B (x:List Nat) {p:Nat} (hp:0 < p):leftInv x p 0 (List.replicate (x.length+1) 0):=by
 refine ⟨by simp,fun w hw=>by rw [c7t hw];decide,?_,by simp [wv]⟩
 rw [getD_lt (by simp)];simp;omega
theorem a7T {l:List Nat} {i v u:Nat} (h:i+1 < l.length):((l.set i v).set (i+1) u).getD (i+1) 0=u:=by
 rw [getD_lt (by simp;omega)];simp
theorem b4i {x:List Nat} {r i:Nat} {out:List Nat} (h:leftInv x (2 ^ r) i out) (hr:r < 32) (hi:i < x.length) (hx:x[i] < 4294967296) (ho:i < out.length) :
  leftInv x (2 ^ r) (i+1) ((out.set i (out[i] ||| (x[i]*2 ^ r % 4294967296))).set (i+1) (x[i]*2 ^ r / 4294967296))/\x[i]*2 ^ r < 18446744073709551616/\out[i] ||| (x[i]*2 ^ r % 4294967296) < 4294967296/\x[i]*2 ^ r / 4294967296 < 4294967296:=by
 obtain ⟨h1,h2,h3,h4⟩:=h
 rw [getD_lt ho] at h3 h4
 have hp:(2:Nat) ^ r<=2 ^ 31:=c7z (by decide) (by omega)
 have hp0:0 < (2:Nat) ^ r:=Nat.pow_pos (by decide)
 have hmul:x[i]*2 ^ r<=4294967295*2147483648:=Nat.mul_le_mul (by omega) hp
 have e32:(4294967296:Nat)=2 ^ (32-r)*2 ^ r:=by rw [<- Nat.pow_add,show 32-r+r=32 by omega]
 have hmod:x[i]*2 ^ r % 4294967296=(x[i] % 2 ^ (32-r))*2 ^ r:=by rw [e32,Nat.mul_mod_mul_right]
 have hor:out[i] ||| (x[i]*2 ^ r % 4294967296)=out[i]+x[i]*2 ^ r % 4294967296:=by rw [hmod,a3s h3]
 have hq:x[i] % 2 ^ (32-r)+1<=2 ^ (32-r):=Nat.mod_lt _ (Nat.pow_pos (by decide))
 have hq2:(x[i] % 2 ^ (32-r)+1)*2 ^ r<=4294967296:=by
  have:=c7y (2 ^ r) hq
  rw [<- e32] at this;exact this
 have hsum:out[i]+x[i]*2 ^ r % 4294967296 < 4294967296:=by rw [hmod];rw [Nat.add_mul,Nat.one_mul] at hq2;omega
 have hdiv:x[i]*2 ^ r / 4294967296 < 2 ^ r:=by
  rw [Nat.div_lt_iff_lt_mul (by decide),Nat.mul_comm]
  exact Nat.mul_lt_mul_of_pos_left hx hp0
 rw [hor]
 refine ⟨⟨by simp [h1],fun w hw=>?_,?_,?_⟩,by omega,hsum,by omega⟩
 ·rcases mem_set hw with rfl|hw
  ·omega
  ·rcases mem_set hw with rfl|hw
   ·exact hsum
   ·exact h2 w hw
 ·rw [a7T (by omega)];exact hdiv
 ·rw [a7T (by omega),List.take_set_of_le (c7b _),Q8 _ ho,D6 _ hi,Nat.add_mul,<- h4,c7B,c7F]
  have hd:x[i]*2 ^ r=x[i]*2 ^ r % 4294967296+4294967296*(x[i]*2 ^ r / 4294967296):=by omega
  have e1:=congrArg (4294967296 ^ i*·) hd
  simp only [Nat.mul_add] at e1
  rw [e1,Nat.mul_add,c7B]
  omega
theorem b6q {x:List Nat} {p:Nat} {out:List Nat} (h:leftInv x p x.length out):wv 4294967296 out=wv 4294967296 x*p/\out.getD x.length 0 < p:=by
 obtain ⟨h1,h2,h3,h4⟩:=h
 refine ⟨?_,h3⟩
 have ho:x.length < out.length:=by omega
 have:=D6 4294967296 ho
 rw [c7o (by omega),<- getD_lt ho] at this
 rw [c7l] at h4
 omega
def a5p (r0:List Nat) (p i:Nat) (out:List Nat):Prop:=
 out.length=r0.length/\(∀ w ∈ out,w < 4294967296)/\out.drop i=r0.drop i/\wv 4294967296 (out.take i)*p+r0.getD 0 0 % p=wv 4294967296 (r0.take i)+4294967296 ^ i*(r0.getD i 0 % p)
theorem b3u {r0:List Nat} {p:Nat} (h:∀ w ∈ r0,w < 4294967296):a5p r0 p 0 r0:=⟨rfl,h,rfl,by simp [wv]⟩
theorem b3o {r0:List Nat} {by' i:Nat} {out:List Nat} (h:a5p r0 (2 ^ by') i out) (hb:by' < 32) (hi:i < r0.length) (h0:∀ w ∈ r0,w < 4294967296) {t:Nat}
  (ht:t=if i+1 < r0.length then r0[i] / 2 ^ by' ||| (r0.getD (i+1) 0*2 ^ (32-by') % 4294967296) else r0[i] / 2 ^ by'):a5p r0 (2 ^ by') (i+1) (out.set i t)/\t < 4294967296:=by
 obtain ⟨h1,h2,h3,h4⟩:=h
 have hp0:0 < (2:Nat) ^ by':=Nat.pow_pos (by decide)
 have hx:=h0 _ (c7k hi)
 have e32:(4294967296:Nat)=2 ^ by'*2 ^ (32-by'):=by rw [<- Nat.pow_add,show by'+(32-by')=32 by omega]
 have hd:r0[i] / 2 ^ by' < 2 ^ (32-by'):=by
  rw [Nat.div_lt_iff_lt_mul hp0,Nat.mul_comm,<- e32];exact hx
 have ht':t=r0[i] / 2 ^ by'+(r0.getD (i+1) 0 % 2 ^ by')*2 ^ (32-by'):=by
  rw [ht]
  split
  ·rename_i hlt
   have hmod:r0.getD (i+1) 0*2 ^ (32-by') % 4294967296=(r0.getD (i+1) 0 % 2 ^ by')*2 ^ (32-by'):=by
    conv=>lhs;rw [e32,Nat.mul_mod_mul_right]
   rw [hmod,a3s hd]
  ·rename_i hge
   have:r0.getD (i+1) 0=0:=by rw [c7g,c7v (by omega)];rfl
   rw [this];simp
 have hm1:r0.getD (i+1) 0 % 2 ^ by'+1<=2 ^ by':=Nat.mod_lt _ hp0
 have hm2:(r0.getD (i+1) 0 % 2 ^ by'+1)*2 ^ (32-by')<=4294967296:=by
  have:=c7y (2 ^ (32-by')) hm1
  rw [<- e32] at this;exact this
 have hlt:t < 4294967296:=by rw [ht'];rw [Nat.add_mul,Nat.one_mul] at hm2;omega
 refine ⟨⟨by simp [h1],fun w hw=>?_,a0f _ h3,?_⟩,hlt⟩
 ·rcases mem_set hw with rfl|hw
  ·exact hlt
  ·exact h2 w hw
 ·rw [Q8 _ (by omega),D6 _ hi]
  rw [getD_lt hi] at h4
  have e1:t*2 ^ by'=r0[i] / 2 ^ by'*2 ^ by'+(r0.getD (i+1) 0 % 2 ^ by')*4294967296:=by
   rw [ht',Nat.add_mul,c7B (r0.getD (i+1) 0 % 2 ^ by'),Nat.mul_comm (2 ^ (32-by')),<- e32]
  have e2:r0[i]=r0[i] / 2 ^ by'*2 ^ by'+r0[i] % 2 ^ by':=by
   have:=Nat.div_add_mod r0[i] (2 ^ by')
   rw [Nat.mul_comm] at this;omega
  rw [Nat.add_mul,c7B,e1,c7F]
  generalize r0[i] / 2 ^ by'*2 ^ by'=a at *
  generalize r0[i] % 2 ^ by'=b at *
  rw [e2]
  generalize r0.getD (i+1) 0 % 2 ^ by'=c at *
  grind
theorem b3Z {r0:List Nat} {by':Nat} {out:List Nat} (h:a5p r0 (2 ^ by') r0.length out) (hb:by'<=32) {z:Nat} (hz:wv 4294967296 r0=z*2 ^ by'):wv 4294967296 out=z:=by
 obtain ⟨h1,h2,_,h4⟩:=h
 have hp0:0 < (2:Nat) ^ by':=Nat.pow_pos (by decide)
 rw [c7o (by omega),c7l,hz] at h4
 have e0:r0.getD r0.length 0=0:=by rw [c7g,c7v (c7b _)];rfl
 rw [e0,Nat.zero_mod,Nat.mul_zero,Nat.add_zero] at h4
 have hm:r0.getD 0 0 % 2 ^ by'=0:=by
  cases hr:r0 with
  | nil=>simp
  | cons a l=>
   rw [hr] at hz
   simp only [wv] at hz
   have e32:(4294967296:Nat)=2 ^ by'*2 ^ (32-by'):=by rw [<- Nat.pow_add,show by'+(32-by')=32 by omega]
   rw [e32,c7B] at hz
   have h5:(a+2 ^ by'*(2 ^ (32-by')*wv (2 ^ by'*2 ^ (32-by')) l)) % 2 ^ by'=a % 2 ^ by':=Nat.add_mul_mod_self_left ..
   rw [hz,Nat.mul_mod_left] at h5
   exact h5.symm
 rw [hm,Nat.add_zero] at h4
 exact Nat.eq_of_mul_eq_mul_right hp0 h4
def b0q (u v:List Nat) (d i:Nat) (out:List Nat) (c b:Nat):Prop:=
 out.length=u.length/\(∀ w ∈ out,w < 4294967296)/\c < 4294967296/\b<=1/\out.drop i=u.drop i/\wv 4294967296 (out.take i)+d*wv 4294967296 (v.take i)=wv 4294967296 (u.take i)+4294967296 ^ i*c+4294967296 ^ i*b
theorem b8f {u:List Nat} (v:List Nat) (d:Nat) (h:∀ w ∈ u,w < 4294967296):b0q u v d 0 u 0 0:=⟨rfl,h,by decide,by decide,rfl,by simp [wv]⟩
theorem b7Q {u v:List Nat} {d i:Nat} {out:List Nat} {c b:Nat} (h:b0q u v d i out c b) (hi:i < v.length) (hu:i < u.length) (hv:v[i] < 4294967296) (hd:d < 4294967296) {t b':Nat} (ht:t < 4294967296) (hb:b'<=1)
  (hs:t+(c+d*v[i]) % 4294967296+b=u[i]+4294967296*b'):b0q u v d (i+1) (out.set i t) ((c+d*v[i]) / 4294967296) b'/\c+d*v[i]<=18446744073709551615:=by
 obtain ⟨h1,h2,h3,hb0,h4,h5⟩:=h
 have hm:d*v[i]<=4294967295*4294967295:=Nat.mul_le_mul (by omega) (by omega)
 refine ⟨⟨by simp [h1],fun w hw=>?_,by omega,hb,a0f _ h4,?_⟩,by omega⟩
 ·rcases mem_set hw with rfl|hw
  ·exact ht
  ·exact h2 w hw
 ·rw [Q8 _ (by omega),D6 _ hi,D6 _ hu,c7F]
  have hdm:c+d*v[i]=(c+d*v[i]) % 4294967296+4294967296*((c+d*v[i]) / 4294967296):=by omega
  have e1:=congrArg (4294967296 ^ i*·) hdm
  have e2:=congrArg (4294967296 ^ i*·) hs
  generalize (c+d*v[i]) % 4294967296=lo at *
  generalize (c+d*v[i]) / 4294967296=hi' at *
  grind
theorem b9m {u v:List Nat} {d:Nat} {out:List Nat} {c b:Nat} (h:b0q u v d v.length out c b) (hl:u.length=v.length+1) {t f:Nat} (ht:t < 4294967296) (hs:t+c+b=u[v.length]+4294967296*f) :
  wv 4294967296 (out.set v.length t)+d*wv 4294967296 v=wv 4294967296 u+4294967296 ^ u.length*f/\(∀ w ∈ out.set v.length t,w < 4294967296):=by
 obtain ⟨h1,h2,h3,hb0,h4,h5⟩:=h
 refine ⟨?_,fun w hw=>?_⟩
 ·have e0:=Q8 4294967296 (l:=out) (i:=v.length) (by omega) t
  rw [c7o (by simp;omega)] at e0
  have e1:=D6 4294967296 (l:=u) (i:=v.length) (by omega)
  rw [c7o (by omega)] at e1
  rw [c7l] at h5
  have e2:=congrArg (4294967296 ^ v.length*·) hs
  rw [hl,c7F,e0,e1]
  grind
 ·rcases mem_set hw with rfl|hw
  ·exact ht
  ·exact h2 w hw
def b0X (u v:List Nat) (i:Nat) (out:List Nat) (c:Nat):Prop:=
 out.length=u.length/\(∀ w ∈ out,w < 4294967296)/\c<=1/\out.drop i=u.drop i/\wv 4294967296 (out.take i)+4294967296 ^ i*c=wv 4294967296 (u.take i)+wv 4294967296 (v.take i)
theorem b7K {u:List Nat} (v:List Nat) (h:∀ w ∈ u,w < 4294967296):b0X u v 0 u 0:=⟨rfl,h,by decide,rfl,by simp [wv]⟩
theorem b7s {u v:List Nat} {i:Nat} {out:List Nat} {c:Nat} (h:b0X u v i out c) (hi:i < v.length) (hu:i < u.length) (hv:v[i] < 4294967296) (hx:u[i] < 4294967296) {s:Nat} (hs:s=c+u[i]+v[i]) :
  b0X u v (i+1) (out.set i (s % 4294967296)) (s / 4294967296):=by
 obtain ⟨h1,h2,h3,h4,h5⟩:=h
 refine ⟨by simp [h1],fun w hw=>?_,by omega,a0f _ h4,?_⟩
 ·rcases mem_set hw with rfl|hw
  ·exact Nat.mod_lt _ (by decide)
  ·exact h2 w hw
 ·rw [Q8 _ (by omega),D6 _ hi,D6 _ hu,c7F]
  have hdm:s=s % 4294967296+4294967296*(s / 4294967296):=by omega
  have e1:=congrArg (4294967296 ^ i*·) hdm
  have e2:=congrArg (4294967296 ^ i*·) hs
  generalize s % 4294967296=lo at *
  generalize s / 4294967296=hi' at *
  grind
theorem b9s {u v:List Nat} {out:List Nat} {c:Nat} (h:b0X u v v.length out c) (hl:u.length=v.length+1) {t:Nat} (ht:t=(u[v.length]+c) % 4294967296) {z:Nat} (hz:wv 4294967296 u+wv 4294967296 v=z+4294967296 ^ u.length) (hzl:z < 4294967296 ^ u.length) :
  wv 4294967296 (out.set v.length t)=z/\(∀ w ∈ out.set v.length t,w < 4294967296):=by
 obtain ⟨h1,h2,h3,h4,h5⟩:=h
 have hb:∀ w ∈ out.set v.length t,w < 4294967296:=fun w hw=>by
  rcases mem_set hw with rfl|hw
  ·rw [ht];exact Nat.mod_lt _ (by decide)
  ·exact h2 w hw
 refine ⟨?_,hb⟩
 have hlt:=M6 4294967296 hb
 rw [c7J,h1] at hlt
 have e0:=Q8 4294967296 (l:=out) (i:=v.length) (by omega) t
 rw [c7o (by simp;omega)] at e0
 have e1:=D6 4294967296 (l:=u) (i:=v.length) (by omega)
 rw [c7o (by omega)] at e1
 rw [c7l] at h5
 have hdm:u[v.length]+c=t+4294967296*((u[v.length]+c) / 4294967296):=by omega
 generalize (u[v.length]+c) / 4294967296=f at *
 have e2:=congrArg (4294967296 ^ v.length*·) hdm
 have key:wv 4294967296 (out.set v.length t)+4294967296 ^ u.length*f=z+4294967296 ^ u.length:=by
  rw [<- hz,hl,c7F,e0,e1]
  grind
 have hf:f=1:=by
  rcases Nat.lt_trichotomy f 1 with h0|h0|h0
  ·have:f=0:=by omega
   subst this;omega
  ·exact h0
  ·have:=Nat.mul_le_mul_left (4294967296 ^ u.length) h0
   omega
 subst hf
 omega
def G5 (l:List Nat):Prop:=∀ w ∈ l,w < 4294967296
theorem G5.take {l:List Nat} (h:G5 l) (n:Nat):G5 (l.take n):=fun w hw=>h w (List.mem_of_mem_take hw)
theorem G5.drop {l:List Nat} (h:G5 l) (n:Nat):G5 (l.drop n):=fun w hw=>h w (List.mem_of_mem_drop hw)
theorem G5.app {a b:List Nat} (h:G5 a) (k:G5 b):G5 (a++b):=fun w hw=>by
 rcases List.mem_append.1 hw with hw|hw
 ·exact h w hw
 ·exact k w hw
theorem G5.set {a:List Nat} (h:G5 a) {i v:Nat} (k:v < 4294967296):G5 (a.set i v):=fun w hw=>by
 rcases mem_set hw with rfl|hw
 ·exact k
 ·exact h w hw
theorem c2T {l:List Nat} {m:Nat} (h:l.length=m+2) (ha:G5 l):∃ r,r < 4294967296 ^ m/\wv 4294967296 l=r+(l[m+1]*4294967296+l[m])*4294967296 ^ m:=by
 refine ⟨wv 4294967296 (l.take m),?_,?_⟩
 ·have:=M6 4294967296 (ha.take m)
  rw [c7d,Nat.min_eq_left (by omega)] at this
  exact this
 ·have e1:=D6 4294967296 (l:=l) (i:=m+1) (by omega)
  have e2:=D6 4294967296 (l:=l) (i:=m) (by omega)
  rw [c7o (by omega)] at e1
  rw [e1,e2,c7F]
  grind
theorem c2U {l:List Nat} {m:Nat} (h:l.length=m+3) (ha:G5 l):∃ r,r < 4294967296 ^ m/\wv 4294967296 l=r+((l[m+2]*4294967296+l[m+1])*4294967296+l[m])*4294967296 ^ m:=by
 refine ⟨wv 4294967296 (l.take m),?_,?_⟩
 ·have:=M6 4294967296 (ha.take m)
  rw [c7d,Nat.min_eq_left (by omega)] at this
  exact this
 ·have e0:=D6 4294967296 (l:=l) (i:=m+2) (by omega)
  have e1:=D6 4294967296 (l:=l) (i:=m+1) (by omega)
  have e2:=D6 4294967296 (l:=l) (i:=m) (by omega)
  rw [c7o (by omega)] at e0
  rw [e0,e1,e2,c7F,c7F]
  grind
structure Est (W V v1 v2 top u2 p:Nat):Prop where
 ge:(v1*4294967296+v2)*p<=V
 lt:V < (v1*4294967296+v2+1)*p
 wlt:W < (top*4294967296+u2+1)*p
 wge:(top*4294967296+u2)*p<=W
 hv1:0 < v1
 hv2:v2 < 4294967296
 hu2:u2 < 4294967296
 hW:W < 4294967296*V
theorem Est.of {v win:List Nat} {m:Nat} (hv:v.length=m+2) (hw:win.length=m+3) (hva:G5 v) (hwa:G5 win) (h1:0 < v[m+1]) (hW:wv 4294967296 win < 4294967296*wv 4294967296 v) :
  Est (wv 4294967296 win) (wv 4294967296 v) v[m+1] v[m] (win[m+2]*4294967296+win[m+1]) win[m] (4294967296 ^ m):=by
 obtain ⟨r,hr,e1⟩:=c2T hv hva
 obtain ⟨s,hs,e2⟩:=c2U hw hwa
 refine ⟨by rw [e1];omega,by rw [e1,Nat.add_mul _ 1,Nat.one_mul];omega,by rw [e2,Nat.add_mul _ 1,Nat.one_mul];omega,by rw [e2];omega,h1,hva _ (c7k _),hwa _ (c7k _),hW⟩
theorem Est.pos {W V v1 v2 top u2 p:Nat} (h:Est W V v1 v2 top u2 p):0 < V:=by
 have:=h.hW
 rcases c7s V with h0|h0
 ·subst h0;omega
 ·exact h0
theorem Est.start {W V v1 v2 top u2 p:Nat} (h:Est W V v1 v2 top u2 p):W / V<=top / v1:=by
 refine c4x (p:=4294967296*p) ?_ ?_ h.hv1
 ·have:=h.ge
  rw [Nat.add_mul,c7B] at this
  omega
 ·have h1:=h.wlt
  have h2:(top*4294967296+u2+1)*p<=((top+1)*4294967296)*p:=c7y p (by have:=h.hu2;omega)
  rw [c7B] at h2
  omega
theorem Est.dec {W V v1 v2 top u2 p d rest:Nat} (h:Est W V v1 v2 top u2 p) (hq:W / V<=d) (ht:top=d*v1+rest) (hd:4294967296<=d \/ rest*4294967296+u2 < d*v2):W / V < d:=by
 rcases hd with hd|hd
 ·have:W / V < 4294967296:=by rw [Nat.div_lt_iff_lt_mul h.pos];exact h.hW
  omega
 ·exact c3i h.ge h.wlt ht hd
theorem Est.fin {W V v1 v2 top u2 p d rest:Nat} (h:Est W V v1 v2 top u2 p) (hq:W / V<=d) (ht:top=d*v1+rest) (hd:d < 4294967296) (hs:4294967296<=rest \/ d*v2<=rest*4294967296+u2):(d*V<=W/\W / V=d) \/ (W < d*V/\0 < d/\W / V=d-1):=by
 refine c1L hq (c5E h.lt h.wge ht ?_ hd h.hv1) h.pos
 rcases hs with hs|hs
 ·have h1:d*v2<=4294967296*4294967296:=Nat.mul_le_mul (by omega) (by have:=h.hv2;omega)
  have h2:4294967296*4294967296<=rest*4294967296:=c7y _ hs
  omega
 ·exact hs
theorem Est.small {W V v1 v2 top u2 p d rest:Nat} (h:Est W V v1 v2 top u2 p) (ht:top=d*v1+rest) (htop:top < v1*4294967296+4294967296) (hr:4294967296<=rest):d < 4294967296:=by
 have hv:=h.hv1
 have:d*v1 < 4294967296*v1:=by rw [Nat.mul_comm 4294967296];omega
 exact Nat.lt_of_mul_lt_mul_right this
def a7n (U0:Nat) (v:List Nat) (L k:Nat) (u q:List Nat):Prop:=
 u.length=L/\G5 u/\q.length=L-v.length/\G5 q/\wv 4294967296 u+4294967296 ^ k*(wv 4294967296 v*wv 4294967296 (q.drop k))=U0/\wv 4294967296 (u.drop k) < wv 4294967296 v
theorem a3c (B:Nat) {l:List Nat} {k:Nat} (h:k < l.length):wv B (l.drop k)=l[k]+B*wv B (l.drop (k+1)):=by
 rw [List.drop_eq_getElem_cons h];rfl
theorem b2I {U0:Nat} {v:List Nat} {L k:Nat} {u q:List Nat} (h:a7n U0 v L (k+1) u q) (hv:G5 v) (hk:k+1<=L-v.length) :
  wv 4294967296 ((u.drop k).take (v.length+1))=wv 4294967296 (u.drop k)/\wv 4294967296 (u.drop k) < 4294967296*wv 4294967296 v/\wv 4294967296 (u.drop (k+v.length+1))=0/\((u.drop k).take (v.length+1)).length=v.length+1:=by
 obtain ⟨h1,h2,h3,h4,h5,h6⟩:=h
 have hku:k < u.length:=by omega
 have hx:=h2 _ (c7k hku)
 have e1:=a3c 4294967296 hku
 have hlt:wv 4294967296 (u.drop k) < 4294967296*wv 4294967296 v:=by omega
 have hvl:=M6 4294967296 hv
 have e2:=a3n 4294967296 (u.drop k) (v.length+1) (by rw [c7E];omega)
 rw [List.drop_drop] at e2
 have hz:wv 4294967296 (u.drop (k+v.length+1))=0:=by
  rcases c7s (wv 4294967296 (u.drop (k+v.length+1))) with h0|h0
  ·exact h0
  ·exfalso
   rw [show k+(v.length+1)=k+v.length+1 by omega] at e2
   have h7:=Nat.mul_le_mul_left (4294967296 ^ (v.length+1)) h0
   have h8:4294967296*wv 4294967296 v<=4294967296*4294967296 ^ v.length:=Nat.mul_le_mul_left _ (Nat.le_of_lt hvl)
   rw [c7F] at h7 e2
   omega
 refine ⟨?_,hlt,hz,by rw [c7d,c7E];omega⟩
 rw [show k+(v.length+1)=k+v.length+1 by omega,hz,Nat.mul_zero,Nat.add_zero] at e2
 exact e2.symm
theorem b8C {U0:Nat} {v:List Nat} {L k:Nat} {u q win:List Nat} (h:a7n U0 v L (k+1) u q) (hv:G5 v) (hk:k+1<=L-v.length) (hwl:win.length=v.length+1) (hwa:G5 win) {d:Nat} (hd:d=wv 4294967296 (u.drop k) / wv 4294967296 v)
    (hw:wv 4294967296 win+d*wv 4294967296 v=wv 4294967296 (u.drop k)) (hpos:0 < wv 4294967296 v):a7n U0 v L k (u.take k++win++u.drop (k+v.length+1)) (q.set k d):=by
  obtain ⟨g1,g2,g3,g4⟩:=b2I h hv hk
  obtain ⟨h1,h2,h3,h4,h5,h6⟩:=h
  have hku:k < u.length:=by omega
  have hd32:d < 4294967296:=by rw [hd,Nat.div_lt_iff_lt_mul hpos];exact g2
  have hkq:k < q.length:=by omega
  have hl:(u.take k++win++u.drop (k+v.length+1)).length=L:=by
    simp only [c7e,c7d,c7E];omega
  have htk:(u.take k).length=k:=by rw [c7d];omega
  have hdk:(u.take k++win++u.drop (k+v.length+1)).drop k=win++u.drop (k+v.length+1):=by
    rw [c7A,List.drop_append,htk,Nat.sub_self,List.drop_of_length_le (by omega),List.nil_append,List.drop_zero]
  have hwv:wv 4294967296 (win++u.drop (k+v.length+1))=wv 4294967296 win:=by rw [a8r,g3,Nat.mul_zero,Nat.add_zero]
  have hmod:wv 4294967296 win=wv 4294967296 (u.drop k) % wv 4294967296 v:=by
    have:=Nat.div_add_mod (wv 4294967296 (u.drop k)) (wv 4294967296 v)
    rw [<- hd,Nat.mul_comm] at this;omega
  refine ⟨hl,((h2.take k).app hwa).app (h2.drop _),by simp [h3],h4.set hd32,?_,?_⟩
  · have e1:wv 4294967296 (u.take k++win++u.drop (k+v.length+1))=wv 4294967296 (u.take k)+4294967296 ^ k*wv 4294967296 win:=by
      rw [c7A,a8r,htk,hwv]
    have e2:=a3n 4294967296 u k (by omega)
    have e3:wv 4294967296 ((q.set k d).drop k)=d+4294967296*wv 4294967296 (q.drop (k+1)):=by
      rw [a3c _ (by simpa using hkq),List.getElem_set_self,List.drop_set_of_lt (by omega)]
    rw [e1,e3,<- h5,e2,<- hw,c7F]
    grind
  · rw [hdk,hwv,hmod]
    exact Nat.mod_lt _ hpos
theorem c0c {U0:Nat} {v:List Nat} {L:Nat} {u q:List Nat} (h:a7n U0 v L 0 u q) (hv:G5 v) (hl:v.length<=L):wv 4294967296 q=U0 / wv 4294967296 v/\wv 4294967296 (u.take v.length)=U0 % wv 4294967296 v:=by
 obtain ⟨h1,h2,h3,h4,h5,h6⟩:=h
 rw [List.drop_zero] at h5 h6
 simp only [Nat.pow_zero,Nat.one_mul] at h5
 have hvl:=M6 4294967296 hv
 have e2:=a3n 4294967296 u v.length (by omega)
 have hz:wv 4294967296 (u.drop v.length)=0:=by
  rcases c7s (wv 4294967296 (u.drop v.length)) with h0|h0
  ·exact h0
  ·have:=Nat.mul_le_mul_left (4294967296 ^ v.length) h0
   omega
 rw [hz,Nat.mul_zero,Nat.add_zero] at e2
 rw [<- e2,<- h5]
 refine ⟨?_,?_⟩
 ·rw [Nat.add_mul_div_left _ _ (by omega),Nat.div_eq_of_lt h6,c7D]
 ·rw [Nat.add_mul_mod_self_left,Nat.mod_eq_of_lt h6]
def a2V (l:List UInt8) (i:Nat) (out:List Nat):Prop:=
 out.length=(l.length+7) / 8/\(∀ w ∈ out,w < 18446744073709551616)/\wv 18446744073709551616 out=val (l.drop (l.length-i))/\∀ j (h:j < out.length),out[j] < 256 ^ (i-8*j)
theorem b0a (l:List UInt8):a2V l 0 (List.replicate ((l.length+7) / 8) 0):=by
 refine ⟨by simp,fun w hw=>by rw [c7t hw];decide,?_,fun j h=>by simp⟩
 rw [a7h];simp [val]
theorem b5P (i:Nat):18446744073709551616 ^ (i / 8)*256 ^ (i % 8)=256 ^ i:=by
 have h:(18446744073709551616:Nat)=256 ^ 8:=by decide
 rw [h,<- Nat.pow_mul,<- Nat.pow_add]
 congr 1;omega
theorem b1k {l:List UInt8} {i:Nat} {out:List Nat} (h:a2V l i out) (hi:i < l.length) (hj:i / 8 < out.length) :
  a2V l (i+1) (out.set (i / 8) (out[i / 8] ||| (l[l.length-1-i]).toNat*2 ^ (8*(i % 8))))/\out[i / 8] ||| (l[l.length-1-i]).toNat*2 ^ (8*(i % 8)) < 18446744073709551616/\(l[l.length-1-i]).toNat*2 ^ (8*(i % 8)) < 18446744073709551616:=by
 obtain ⟨h1,h2,h3,h4⟩:=h
 have e256:2 ^ (8*(i % 8))=256 ^ (i % 8):=by rw [Nat.pow_mul]
 have hb:=(l[l.length-1-i]).toNat_lt
 have hlow:=h4 (i / 8) hj
 rw [show i-8*(i / 8)=i % 8 by omega] at hlow
 have hor:out[i / 8] ||| (l[l.length-1-i]).toNat*2 ^ (8*(i % 8))=out[i / 8]+(l[l.length-1-i]).toNat*256 ^ (i % 8):=by
  rw [a3s (by rw [e256];exact hlow),e256]
 rw [hor,e256]
 have hpos:=Nat.pow_pos (n:=i % 8) (show 0 < 256 by decide)
 have hmul:(l[l.length-1-i]).toNat*256 ^ (i % 8)<=255*256 ^ (i % 8):=c7y _ (by omega)
 have hnew:out[i / 8]+(l[l.length-1-i]).toNat*256 ^ (i % 8) < 256 ^ (i % 8+1):=by rw [c7F];omega
 have h4p:(256:Nat) ^ (i % 8+1)<=256 ^ 8:=c7z (by decide) (by omega)
 have h44:(256:Nat) ^ 8=18446744073709551616:=by decide
 refine ⟨⟨by simp [h1],fun w hw=>?_,?_,fun j hjl=>?_⟩,by omega,by omega⟩
 ·rcases mem_set hw with rfl|hw
  ·omega
  ·exact h2 w hw
 ·have hs:=a5l 18446744073709551616 hj (out[i / 8]+(l[l.length-1-i]).toNat*256 ^ (i % 8))
  rw [Nat.mul_add,<- c7B,Nat.mul_right_comm,c7B,Nat.mul_comm (l[l.length-1-i]).toNat,Nat.mul_comm _ (l[l.length-1-i]).toNat] at hs
  rw [show l.length-(i+1)=l.length-1-i by omega,a7t hi,<- h3,<- b5P i]
  have:18446744073709551616 ^ (i / 8)*((l[l.length-1-i]).toNat*256 ^ (i % 8))=(l[l.length-1-i]).toNat*(18446744073709551616 ^ (i / 8)*256 ^ (i % 8)):=by grind
  have hs':=a5l 18446744073709551616 hj (out[i / 8]+(l[l.length-1-i]).toNat*256 ^ (i % 8))
  rw [Nat.mul_add] at hs'
  omega
 ·rw [List.getElem_set]
  split
  ·rename_i e;subst e
   rw [show i+1-8*(i / 8)=i % 8+1 by omega];exact hnew
  ·have h5:=h4 j (by simpa using hjl)
   have:(256:Nat) ^ (i-8*j)<=256 ^ (i+1-8*j):=c7z (by decide) (by omega)
   omega
def a3j (x y:List Nat) (i:Nat) (out:List Nat) (c:Nat):Prop:=
 out.length=x.length/\(∀ w ∈ out,w < 18446744073709551616)/\c<=1/\out.drop i=x.drop i/\wv 18446744073709551616 (out.take i)+wv 18446744073709551616 (y.take i)+18446744073709551616 ^ i*0=wv 18446744073709551616 (x.take i)+18446744073709551616 ^ i*c
theorem a7u {x:List Nat} (y:List Nat) (hx:∀ w ∈ x,w < 18446744073709551616):a3j x y 0 x 0:=by
 refine ⟨rfl,hx,by omega,rfl,by simp [wv]⟩
theorem a7s {x y:List Nat} {i:Nat} {out:List Nat} {c:Nat} (h:a3j x y i out c) (hi:i < x.length) {t c':Nat} (ht:t < 18446744073709551616) (hc:c'<=1) (hs:t+c+y.getD i 0=x[i]+18446744073709551616*c') :
  a3j x y (i+1) (out.set i t) c':=by
 obtain ⟨h1,h2,h3,hd,h4⟩:=h
 refine ⟨by simp [h1],fun w hw=>?_,hc,a0f _ hd,?_⟩
 ·rcases mem_set hw with rfl|hw
  ·exact ht
  ·exact h2 w hw
 ·rw [Q8 _ (by omega),D6 _ hi,a3f]
  have e:=congrArg (18446744073709551616 ^ i*·) hs
  simp only [Nat.mul_add] at e
  rw [<- c7B,<- c7F] at e
  simp only [Nat.succ_eq_add_one] at e
  omega
theorem a7F {x y:List Nat} {out:List Nat} {c:Nat} (h:a3j x y x.length out c) (hl:y.length<=x.length) (hle:wv 18446744073709551616 y<=wv 18446744073709551616 x):c=0/\wv 18446744073709551616 out+wv 18446744073709551616 y=wv 18446744073709551616 x:=by
 obtain ⟨h1,h2,h3,_,h4⟩:=h
 rw [c7l,c7o (by omega),c7o hl] at h4
 have:=M6 18446744073709551616 h2
 rw [h1] at this
 have hc:c=0:=by
  rcases c7s c with h0|h0
  ·exact h0
  ·have:c=1:=by omega
   subst this
   omega
 subst hc
 exact ⟨rfl,by omega⟩
def a1M (r0:List Nat) (p i:Nat) (out:List Nat):Prop:=
 out.length=r0.length/\(∀ w ∈ out,w < 18446744073709551616)/\out.drop i=r0.drop i/\wv 18446744073709551616 (out.take i)*p+r0.getD 0 0 % p=wv 18446744073709551616 (r0.take i)+18446744073709551616 ^ i*(r0.getD i 0 % p)
theorem a5N {r0:List Nat} {p:Nat} (h:∀ w ∈ r0,w < 18446744073709551616):a1M r0 p 0 r0:=⟨rfl,h,rfl,by simp [wv]⟩
theorem a5J {r0:List Nat} {by' i:Nat} {out:List Nat} (h:a1M r0 (2 ^ by') i out) (hb:by' < 64) (hi:i < r0.length) (h0:∀ w ∈ r0,w < 18446744073709551616) {t:Nat}
  (ht:t=if i+1 < r0.length then r0[i] / 2 ^ by' ||| (r0.getD (i+1) 0*2 ^ (64-by') % 18446744073709551616) else r0[i] / 2 ^ by'):a1M r0 (2 ^ by') (i+1) (out.set i t)/\t < 18446744073709551616:=by
 obtain ⟨h1,h2,h3,h4⟩:=h
 have hp0:0 < (2:Nat) ^ by':=Nat.pow_pos (by decide)
 have hx:=h0 _ (c7k hi)
 have e32:(18446744073709551616:Nat)=2 ^ by'*2 ^ (64-by'):=by rw [<- Nat.pow_add,show by'+(64-by')=64 by omega]
 have hd:r0[i] / 2 ^ by' < 2 ^ (64-by'):=by
  rw [Nat.div_lt_iff_lt_mul hp0,Nat.mul_comm,<- e32];exact hx
 have ht':t=r0[i] / 2 ^ by'+(r0.getD (i+1) 0 % 2 ^ by')*2 ^ (64-by'):=by
  rw [ht]
  split
  ·rename_i hlt
   have hmod:r0.getD (i+1) 0*2 ^ (64-by') % 18446744073709551616=(r0.getD (i+1) 0 % 2 ^ by')*2 ^ (64-by'):=by
    conv=>lhs;rw [e32,Nat.mul_mod_mul_right]
   rw [hmod,a3s hd]
  ·rename_i hge
   have:r0.getD (i+1) 0=0:=by rw [c7g,c7v (by omega)];rfl
   rw [this];simp
 have hm1:r0.getD (i+1) 0 % 2 ^ by'+1<=2 ^ by':=Nat.mod_lt _ hp0
 have hm2:(r0.getD (i+1) 0 % 2 ^ by'+1)*2 ^ (64-by')<=18446744073709551616:=by
  have:=c7y (2 ^ (64-by')) hm1
  rw [<- e32] at this;exact this
 have hlt:t < 18446744073709551616:=by rw [ht'];rw [Nat.add_mul,Nat.one_mul] at hm2;omega
 refine ⟨⟨by simp [h1],fun w hw=>?_,a0f _ h3,?_⟩,hlt⟩
 ·rcases mem_set hw with rfl|hw
  ·exact hlt
  ·exact h2 w hw
 ·rw [Q8 _ (by omega),D6 _ hi]
  rw [getD_lt hi] at h4
  have e1:t*2 ^ by'=r0[i] / 2 ^ by'*2 ^ by'+(r0.getD (i+1) 0 % 2 ^ by')*18446744073709551616:=by
   rw [ht',Nat.add_mul,c7B (r0.getD (i+1) 0 % 2 ^ by'),Nat.mul_comm (2 ^ (64-by')),<- e32]
  have e2:r0[i]=r0[i] / 2 ^ by'*2 ^ by'+r0[i] % 2 ^ by':=by
   have:=Nat.div_add_mod r0[i] (2 ^ by')
   rw [Nat.mul_comm] at this;omega
  rw [Nat.add_mul,c7B,e1,c7F]
  generalize r0[i] / 2 ^ by'*2 ^ by'=a at *
  generalize r0[i] % 2 ^ by'=b at *
  rw [e2]
  generalize r0.getD (i+1) 0 % 2 ^ by'=c at *
  grind
theorem a6h {r0:List Nat} {by':Nat} {out:List Nat} (h:a1M r0 (2 ^ by') r0.length out) (hb:by'<=64) {z:Nat} (hz:wv 18446744073709551616 r0=z*2 ^ by'):wv 18446744073709551616 out=z:=by
 obtain ⟨h1,h2,_,h4⟩:=h
 have hp0:0 < (2:Nat) ^ by':=Nat.pow_pos (by decide)
 rw [c7o (by omega),c7l,hz] at h4
 have e0:r0.getD r0.length 0=0:=by rw [c7g,c7v (c7b _)];rfl
 rw [e0,Nat.zero_mod,Nat.mul_zero,Nat.add_zero] at h4
 have hm:r0.getD 0 0 % 2 ^ by'=0:=by
  cases hr:r0 with
  | nil=>simp
  | cons a l=>
   rw [hr] at hz
   simp only [wv] at hz
   have e32:(18446744073709551616:Nat)=2 ^ by'*2 ^ (64-by'):=by rw [<- Nat.pow_add,show by'+(64-by')=64 by omega]
   rw [e32,c7B] at hz
   have h5:(a+2 ^ by'*(2 ^ (64-by')*wv (2 ^ by'*2 ^ (64-by')) l)) % 2 ^ by'=a % 2 ^ by':=Nat.add_mul_mod_self_left ..
   rw [hz,Nat.mul_mod_left] at h5
   exact h5.symm
 rw [hm,Nat.add_zero] at h4
 exact Nat.eq_of_mul_eq_mul_right hp0 h4
structure Rt where
 neg:Bool
 num:List UInt8
 den:List UInt8
 deriving DecidableEq
def sgn (neg:Bool) (n:Nat):Int:=if neg=true then -(n:Int) else n
instance (l:List UInt8):Decidable (canon l):=match l with
 | []=>.isTrue a8d
 | b::r=>if h:b=0 then .isFalse fun hc=>hc r (by rw [h]) else .isTrue fun q e=>h (by injection e)
def Rt.H9 (a:Rt):Prop:=a.den ≠ []/\canon a.den/\canon a.num/\(a.num=[]->a.neg=false/\a.den=[1])/\(a.den=[1] \/ Nat.gcd (val a.num) (val a.den)=1)
instance (a:Rt):Decidable a.H9:=by unfold Rt.H9;infer_instance
def ofQ (q:Rat):Rt:=⟨decide (q.num < 0),enc q.num.natAbs,enc q.den⟩
def toQ (a:Rt):Rat:=mkRat (sgn a.neg (val a.num)) (val a.den)
def d9 (a:Rt):Rat:=if a.H9 then toQ a else 0
theorem Q5:enc 1=[1]:=by
 have:val [1]=1:=rfl
 rw [<- this,a8w];rfl
theorem b6K (q:Rat):sgn (decide (q.num < 0)) q.num.natAbs=q.num:=by
 unfold sgn
 by_cases h:q.num < 0
 ·rw [if_pos (by simpa using h)];omega
 ·rw [if_neg (by simpa using h)];omega
theorem c6r (q:Rat):toQ (ofQ q)=q:=by
 unfold toQ ofQ
 simp only [H8,b6K]
 exact Rat.mkRat_self q
theorem a0E (q:Rat):(ofQ q).H9:=by
 unfold Rt.H9 ofQ
 simp only [H8]
 refine ⟨a6g q.den_nz,a2A _,a2A _,fun h=>?_,.inr q.reduced⟩
 have h0:q.num.natAbs=0:=by
  rcases c7s q.num.natAbs with h0|h0
  ·exact h0
  ·exact absurd h (a6g (by omega))
 have h1:=q.reduced
 rw [Nat.Coprime,h0,Nat.gcd_zero_left] at h1
 rw [h1,Q5]
 exact ⟨decide_eq_false (by omega),rfl⟩
theorem a4w (b:Bool) (n:Nat):(sgn b n).natAbs=n:=by unfold sgn;split<;>omega
theorem c5j {a:Rt} (h:a.H9):Nat.gcd (val a.num) (val a.den)=1:=by
 rcases h.2.2.2.2 with h1|h1
 ·rw [h1];exact Nat.gcd_one_right _
 ·exact h1
theorem den_pos {a:Rt} (h:a.H9):val a.den ≠ 0:=fun h0=>h.1 ((val_zero h.2.1).1 h0)
theorem c3X {a:Rt} (h:a.H9):(toQ a).num=sgn a.neg (val a.num)/\(toQ a).den=val a.den:=by
 unfold toQ
 rw [Rat.num_mkRat,Rat.den_mkRat,if_neg (den_pos h),if_neg (den_pos h),a4w,Nat.gcd_comm,c5j h]
 simp
theorem c5T {a:Rt} (h:a.H9):ofQ (toQ a)=a:=by
 obtain ⟨h1,h2⟩:=c3X h
 obtain ⟨neg,num,den⟩:=a
 unfold ofQ
 rw [h1,h2,a4w]
 simp only [a1v h.2.1,a1v h.2.2.1] at *
 congr 1
 have hz:=val_zero h.2.2.1
 have h3:=h.2.2.2.1
 simp only at hz h3
 unfold sgn
 cases neg with
 | true=>
  simp only [if_true]
  have:val num ≠ 0:=fun h0=>by have:=(h3 (hz.1 h0)).1;cases this
  exact decide_eq_true (by omega)
 | false=>
  simp only [c7C,if_false]
  exact decide_eq_false (by omega)
theorem p9 (q:Rat):d9 (ofQ q)=q:=by unfold d9;rw [if_pos (a0E q),c6r]
theorem b9p {a:Rt} (h:a.H9):ofQ (d9 a)=a:=by unfold d9;rw [if_pos h,c5T h]
def a3I:Rt:=⟨false,[],[1]⟩
theorem a4Z:ofQ 0=a3I:=by
 unfold ofQ a3I
 have h1:(0:Rat).num=0:=rfl
 have h2:(0:Rat).den=1:=rfl
 rw [h1,h2,Q5]
 simp [a0W]
theorem b1z (neg:Bool) {n d:Nat} (hd:d ≠ 0):(if n=0 then a3I else ⟨neg,enc (n / Nat.gcd n d),enc (d / Nat.gcd n d)⟩)=ofQ (mkRat (sgn neg n) d):=by
 split
 ·rename_i h0
  subst h0
  have:sgn neg 0=0:=by unfold sgn;split<;>rfl
  rw [this,Rat.zero_mkRat,a4Z]
 ·rename_i h0
  unfold ofQ
  rw [Rat.num_mkRat,Rat.den_mkRat,if_neg hd,if_neg hd,a4w,Nat.gcd_comm d n]
  have hg:0 < Nat.gcd n d:=Nat.gcd_pos_of_pos_right _ (by omega)
  have hdv:Nat.gcd n d ∣ n:=Nat.gcd_dvd_left ..
  have hq:0 < n / Nat.gcd n d:=Nat.div_pos (Nat.le_of_dvd (by omega) hdv) hg
  have e:sgn neg n / ((Nat.gcd n d:Nat):Int)=sgn neg (n / Nat.gcd n d):=by
   unfold sgn
   split
   ·rw [Int.neg_ediv_of_dvd (by exact Int.ofNat_dvd.2 hdv)];simp
   ·simp
  rw [e,a4w]
  congr 1
  unfold sgn
  cases neg with
  | true=>simp only [if_true];exact (decide_eq_true (by omega)).symm
  | false=>simp only [c7C,if_false];exact (decide_eq_false (by omega)).symm
def N8 (neg:Bool) (a:Nat) (mi:Bool) (b:Nat):Bool × Nat:=if neg=mi then (neg,a+b) else if b<=a then (neg,a-b) else (mi,b-a)
theorem b2K (neg:Bool) (a:Nat) (mi:Bool) (b:Nat):sgn (N8 neg a mi b).1 (N8 neg a mi b).2=sgn neg a+sgn mi b:=by
 unfold N8 sgn
 cases neg<;>cases mi<;>simp only [if_true,c7C,if_false,reduceCtorEq]<;>(try split)<;>simp_all<;>omega
theorem c3y (x y:Bool) (a b:Nat):sgn (x != y) (a*b)=sgn x a*sgn y b:=by
 unfold sgn
 cases x<;>cases y<;>simp [Int.natCast_mul,Int.neg_mul,Int.mul_neg]
theorem a5T (x:Bool) (a b:Nat):sgn x (a*b)=sgn x a*(b:Int):=by
 unfold sgn
 cases x<;>simp [Int.natCast_mul,Int.neg_mul]
def q9 (a b:Rat):Int:=if a < b then -1 else if a=b then 0 else 1
def a0u (a b:Nat):Int:=if a < b then -1 else if a=b then 0 else 1
theorem c3p (a b:Rat):q9 a b=if decide (a.num < 0) ≠ decide (b.num < 0) then (if decide (a.num < 0)=true then -1 else 1) else if decide (a.num < 0)=true then-a0u (a.num.natAbs*b.den) (b.num.natAbs*a.den) else a0u (a.num.natAbs*b.den) (b.num.natAbs*a.den):=by
 have hlt:=Rat.lt_iff a b
 have hlt2:=Rat.lt_iff b a
 have hd1:0 < (a.den:Int):=by have:=a.den_pos;omega
 have hd2:0 < (b.den:Int):=by have:=b.den_pos;omega
 have heq:a=b <-> a.num*b.den=b.num*a.den:=by
  constructor
  ·rintro rfl;rfl
  ·intro h
   have h1:¬ a < b:=fun h'=>by have:=hlt.1 h';omega
   have h2:¬ b < a:=fun h'=>by have:=hlt2.1 h';omega
   exact Rat.le_antisymm (Rat.not_lt.1 h2) (Rat.not_lt.1 h1)
 unfold q9
 simp only [hlt,heq]
 by_cases hA:a.num < 0
 ·by_cases hB:b.num < 0
  ·simp only [decide_eq_true hA,decide_eq_true hB,ne_eq,not_true_eq_false,if_false,if_true]
   have e1:a.num*b.den=-((a.num.natAbs*b.den:Nat):Int):=by
    rw [Int.natCast_mul,<- Int.neg_mul];congr 1;omega
   have e2:b.num*a.den=-((b.num.natAbs*a.den:Nat):Int):=by
    rw [Int.natCast_mul,<- Int.neg_mul];congr 1;omega
   rw [e1,e2]
   unfold a0u
   repeat' split
   all_goals omega
  ·simp only [decide_eq_true hA,decide_eq_false hB,ne_eq,reduceCtorEq,not_false_eq_true,if_true]
   have e1:a.num*b.den < 0:=Int.mul_neg_of_neg_of_pos hA hd2
   have e2:0<=b.num*a.den:=Int.mul_nonneg (by omega) (by omega)
   rw [if_pos (by omega)]
 ·by_cases hB:b.num < 0
  ·simp only [decide_eq_false hA,decide_eq_true hB,ne_eq,reduceCtorEq,not_false_eq_true,if_true,if_false]
   have e1:b.num*a.den < 0:=Int.mul_neg_of_neg_of_pos hB hd1
   have e2:0<=a.num*b.den:=Int.mul_nonneg (by omega) (by omega)
   rw [if_neg (by omega),if_neg (by omega)]
  ·simp only [decide_eq_false hA,decide_eq_false hB,ne_eq,reduceCtorEq,not_true_eq_false,if_false]
   have e1:a.num*b.den=((a.num.natAbs*b.den:Nat):Int):=by
    rw [Int.natCast_mul];congr 1;omega
   have e2:b.num*a.den=((b.num.natAbs*a.den:Nat):Int):=by
    rw [Int.natCast_mul];congr 1;omega
   rw [e1,e2]
   unfold a0u
   repeat' split
   all_goals omega
theorem a6Q {d y:Nat} (hy:y % 2=1) (k:Nat):Nat.gcd (2 ^ k*d) y=Nat.gcd d y:=by
 have hc:Nat.Coprime (2 ^ k) y:=by
  apply Nat.Coprime.pow_left
  have:Nat.gcd 2 y=Nat.gcd (y % 2) 2:=Nat.gcd_rec 2 y
  unfold Nat.Coprime
  rw [this,hy]
  rfl
 exact Nat.Coprime.gcd_mul_left_cancel d hc
theorem b2E {x y:Nat} (h:y<=x):Nat.gcd (x-y) y=Nat.gcd x y:=by
 have:x=(x-y)+y:=by omega
 conv=>rhs;rw [this]
 rw [Nat.gcd_add_self_left]
theorem c0U {x y n m:Nat} (hx:x % 2=1) (hy:y % 2=1):Nat.gcd (2 ^ n*x) (2 ^ m*y)=2 ^ (min n m)*Nat.gcd x y:=by
 rcases Nat.le_total n m with h|h
 ·rw [Nat.min_eq_left h]
  obtain ⟨k,rfl⟩:∃ k,m=n+k:=⟨m-n,by omega⟩
  rw [Nat.pow_add,c7B,Nat.gcd_mul_left,Nat.gcd_comm x,a6Q hx,Nat.gcd_comm]
 ·rw [Nat.min_eq_right h]
  obtain ⟨k,rfl⟩:∃ k,n=m+k:=⟨n-m,by omega⟩
  rw [Nat.pow_add,c7B,Nat.gcd_mul_left,a6Q hy]
def v2 (n:Nat):Nat:=if n=0 then 0 else if n % 2=1 then 0 else 1+v2 (n / 2)
termination_by n
decreasing_by omega
theorem a3C {n:Nat} (h:n ≠ 0):∃ q,n=2 ^ v2 n*q/\q % 2=1:=by
 induction n using Nat.strongRecOn with
 | _ n ih=>
  unfold v2
  rw [if_neg h]
  split
  ·rename_i h1;exact ⟨n,by simp,h1⟩
  ·obtain ⟨q,h1,h2⟩:=ih (n / 2) (by omega) (by omega)
   refine ⟨q,?_,h2⟩
   rw [Nat.pow_add,Nat.pow_one,c7B,<- h1]
   omega
theorem c2B {n k q:Nat} (h:n=2 ^ k*q) (hq:q % 2=1):v2 n=k:=by
 induction k generalizing n with
 | zero=>
  unfold v2
  rw [Nat.pow_zero,Nat.one_mul] at h
  subst h
  rw [if_neg (by omega),if_pos hq]
 | succ k ih=>
  rw [c7F,Nat.mul_comm (2 ^ k),c7B] at h
  have h1:n / 2=2 ^ k*q:=by omega
  have h0:0 < 2 ^ k*q:=Nat.mul_pos (Nat.pow_pos (by decide)) (by omega)
  unfold v2
  rw [if_neg (by omega),if_neg (by omega),ih h1]
  omega
end Go.Proofs.YtgpegbfnlkidjaaGreatDoor.Nm
namespace Go.Proofs.YtgpegbfnlkidjaaGreatDoor
open Go Go.RowKit Eng
def bs (l:List UInt8):ByteArray:=⟨l.toArray⟩
theorem c4y (a b:List UInt8):bs a++bs b=bs (a++b):=by
 apply ByteArray.ext
 simp [bs]
theorem F4 (a:List UInt8):(bs a).size=a.length:=by simp [bs,ByteArray.size]
theorem a0i (l:List UInt8):(bs l).data.toList=l:=by simp [bs]
theorem b4d {a b:List UInt8} (h:bs a=bs b):a=b:=by
 have:=congrArg (fun x:ByteArray=>x.data.toList) h
 simpa [a0i] using this
theorem b7O (a b:List UInt8):(bs a=bs b)=(a=b):=propext ⟨b4d,fun h=>by rw [h]⟩
theorem a6G (l:List UInt8):(⟨l.toArray⟩:ByteArray)=bs l:=rfl
theorem b4W (l:List UInt8) (i j:Nat):(bs l).extract i j=bs ((l.take j).drop i):=by
 apply ByteArray.ext
 apply Array.ext'
 simp [bs,ByteArray.data_extract,Array.toList_extract,List.drop_take,List.extract_eq_take_drop]
def sb (l:List UInt8):C:=.v (.string (bs l))
def ints (n:Int):C:=.v (.int .i64 n)
def wd (w:Nat):List C:=[.v (.int .u32 w)]
def lm (w:Nat):List C:=[.v (.int .u64 w)]
attribute [go_sem] sb ints
theorem b4H (n:Nat):IntKind.u32.wrap (n:Int)=((n % 4294967296:Nat):Int):=by
 have h1:IntKind.u32.wrap (n:Int)=(n:Int) % 4294967296:=by simp [IntKind.wrap,IntKind.signed,IntKind.bits]
 rw [h1]
 omega
theorem a2c (n:Nat):IntKind.u8.wrap (n:Int)=((n % 256:Nat):Int):=by
 have h1:IntKind.u8.wrap (n:Int)=(n:Int) % 256:=by simp [IntKind.wrap,IntKind.signed,IntKind.bits]
 rw [h1]
 omega
theorem a4Q (n:Nat):IntKind.u64.wrap (n:Int)=((n % 18446744073709551616:Nat):Int):=by
 have h1:IntKind.u64.wrap (n:Int)=(n:Int) % 18446744073709551616:=by simp [IntKind.wrap,IntKind.signed,IntKind.bits]
 rw [h1]
 omega
theorem b0U (a b:Nat) (ha:a < 18446744073709551616) (hb:b < 18446744073709551616):bits .or .u64 (a:Int) (b:Int)=((a ||| b:Nat):Int):=bits_or_u64_nat a b ha hb
theorem c0v (a b:Nat) (ha:a < 4294967296) (hb:b < 4294967296):bits .or .u32 (a:Int) (b:Int)=((a ||| b:Nat):Int):=by
 have hx:a ||| b < 2 ^ 32:=Nat.or_lt_two_pow (by omega) (by omega)
 have h1:(BitVec.ofInt 32 (a:Int)).toNat=a:=by
  rw [BitVec.ofInt_natCast,BitVec.toNat_ofNat];exact Nat.mod_eq_of_lt (by omega)
 have h2:(BitVec.ofInt 32 (b:Int)).toNat=b:=by
  rw [BitVec.ofInt_natCast,BitVec.toNat_ofNat];exact Nat.mod_eq_of_lt (by omega)
 show IntKind.u32.wrap ((BitVec.ofInt 32 (a:Int) ||| BitVec.ofInt 32 (b:Int)).toNat:Int)=_
 rw [BitVec.toNat_or,h1,h2,Eng.wrap_u32 (by omega)]
theorem a2w (n k:Nat):Int.fdiv (n:Int) (k:Int)=((n / k:Nat):Int):=by
 rw [Int.fdiv_eq_ediv_of_nonneg _ (by omega)]
 rfl
end Go.Proofs.YtgpegbfnlkidjaaGreatDoor
namespace Go.Proofs.YtgpegbfnlkidjaaGreatDoor.Eng
open Go Go.RowKit
def TT (k:Nat):Operand:=.tmp k
def II (n:Int):Operand:=.const (.int .i64 n)
def OA (d:Nat) (x:IOp):F6:=⟨some d,x,none⟩
def OB (x:IOp):F6:=⟨none,x,none⟩
def OC (d:Nat) (x:IOp) (s:Nat) (b:Bool):F6:=⟨some d,x,some (s,b)⟩
def MM (d s:Nat):F6:=⟨some d,.mv (.tmp s),none⟩
def LL (d z s:Nat):F6:=⟨some d,.load true z (.tmp s),none⟩
def VV (d s:Nat):F6:=⟨some d,.load false 1 (.tmp s),none⟩
def FF (d o s:Nat):F6:=⟨some d,.a4A o (.tmp s),none⟩
def MG (d s k:Nat) (b:Bool):F6:=⟨some d,.mv (.tmp s),some (k,b)⟩
def LG (d z s k:Nat) (b:Bool):F6:=⟨some d,.load true z (.tmp s),some (k,b)⟩
def VG (d s k:Nat) (b:Bool):F6:=⟨some d,.load false 1 (.tmp s),some (k,b)⟩
def FG (d o s k:Nat) (b:Bool):F6:=⟨some d,.a4A o (.tmp s),some (k,b)⟩
end Go.Proofs.YtgpegbfnlkidjaaGreatDoor.Eng
namespace Go.Proofs.YtgpegbfnlkidjaaGreatDoor
open Go Eng
def c6u:List Nat:=[33,37,79,81,84,85,86,89,90,91,92,93,94,148,170,175,176,196,198,200,202,203,204,216]
def eff (f:Nat):Bool:=c6u.contains f
def b1b:N9:=⟨99,[.tmp 4,.tmp 5,.tmp 6],.seq (.reg [OA 4 (.mv (.const (.string ⟨#[]⟩))),OA 5 (.mv (.const (.string ⟨#[]⟩))),OA 6 (.mv (II 0))]) (.seq (.reg [MM 13 0,OA 14 (.call 145 [TT 13]),MM 15 1,OA 16 (.call 145 [TT 15]),MM 0 14,
 MM 1 16]) (.seq (.block 0 (.seq (.reg [MM 18 1,OA 19 (.bin .eql (TT 18) (.const (.string ⟨#[]⟩))),MM 17 19]) (.cond (TT 17) (.seq (.reg [OA 4 (.mv (.const (.string ⟨#[]⟩))),OA 5 (.mv (.const (.string ⟨#[]⟩))),OA 6 (.mv (II
 12))]) .ret) (.seq (.reg [MM 21 0,OA 22 (.len true (TT 21)),OA 23 (.bin .leq (TT 22) (II 8)),MM 24 23,MG 25 1 24 true,OC 26 (.len true (TT 25)) 24 true,OC 27 (.bin .leq (TT 26) (II 8)) 24 true,OA 28 (.pick (TT 24) (TT 27)
 (.const (.bool false))),MM 20 28]) (.cond (TT 20) (.seq (.reg [MM 29 0,OA 30 (.call 147 [TT 29]),MM 31 1,OA 32 (.call 147 [TT 31]),OA 33 (.bin .quo (TT 30) (TT 32)),OA 34 (.call 146 [TT 33]),MM 35 0,OA 36 (.call 147 [TT
 35]),MM 37 1,OA 38 (.call 147 [TT 37]),OA 39 (.bin .rem (TT 36) (TT 38)),OA 40 (.call 146 [TT 39]),MM 4 34,MM 5 40,OA 6 (.mv (II 0))]) .ret) (.seq (.reg [MM 42 0,MM 43 1,OA 44 (.call 102 [TT 42,TT 43]),OA 45 (.bin
 .lss (TT 44) (II 0)),MM 41 45]) (.cond (TT 41) (.seq (.reg [MM 46 0,OA 4 (.mv (.const (.string ⟨#[]⟩))),MM 5 46,OA 6 (.mv (II 0))]) .ret) .skip))))))) (.seq (.reg [MM 47 0,OA 48 (.call 148 [TT 47]),MM 49 1,OA 50 (.call
 148 [TT 49]),MM 7 48,MM 8 50]) (.seq (.seq (.reg [MM 51 8,OA 52 (.len false (TT 51)),OA 53 (.bin .eql (TT 52) (II 1))]) (.cond (TT 53) (.seq (.reg [OA 9 (.mv (.const (.int .u64 0)))]) (.seq (.seq (.reg [MM 54 7,OA 55 (.len
 false (TT 54)),OA 56 (.bin .sub (TT 55) (II 1)),MM 10 56]) (.block 1 (.loop (.seq (.seq (.reg [MM 57 10,OA 58 (.bin .geq (TT 57) (II 0))]) (.cond (TT 58) .skip (.exit 1))) (.seq (.block 2 (.seq (.reg [MM 61 9,OA 62 (.bin
 .shl (TT 61) (.const (.int .u64 32))),MM 63 7,MM 64 10,OA 65 (.q8 1 (TT 63) (TT 64)),VV 66 65,OA 67 (.conv .u64 (TT 66)),OA 68 (.bin .or (TT 62) (TT 67)),MM 9 68]) (.E8 [.q,.q,.q,.q,.q,.q,.q,.q,.q,.l,.q,
 .q,.q,.l,.l,.q,.e none false,.q] [MM 69 7,MM 70 10,MM 71 9,MM 72 8,OA 73 (.q8 1 (TT 72) (II 0)),VV 74 73,OA 75 (.conv .u64 (TT 74)),OA 76 (.bin .quo (TT 71) (TT 75)),OA 77 (.conv .u32 (TT 76)),MM 78 9,MM 79 8,
 OA 80 (.q8 1 (TT 79) (II 0)),VV 81 80,OA 82 (.conv .u64 (TT 81)),OA 83 (.bin .rem (TT 78) (TT 82)),OA 84 (.q8 1 (TT 69) (TT 70)),OB (.store 1 (TT 84) (TT 77)),MM 9 83]))) (.reg [MM 59 10,OA 60 (.bin .sub (TT 59) (II
 1)),MM 10 60])))))) (.seq (.reg [MM 85 7,OA 86 (.call 149 [TT 85]),MM 87 9,OA 88 (.call 146 [TT 87]),MM 4 86,MM 5 88,OA 6 (.mv (II 0))]) .ret))) .skip)) (.seq (.reg [MM 90 7,MM 91 8,OA 92 (.call 176 [TT 90,TT 91]),MM
 89 92,OA 93 (.ext (TT 89) 0),OA 94 (.ext (TT 89) 1),MM 11 93,MM 12 94]) (.seq (.reg [MM 95 11,OA 96 (.call 149 [TT 95]),MM 97 12,OA 98 (.call 149 [TT 97]),MM 4 96,MM 5 98,OA 6 (.mv (II 0))]) .ret))))))⟩
theorem b7B:J5 eff Tryz.prog Tryz.f144=some b1b:=by kernel_rfl
theorem b8u:Tryz.prog.funcs[144]?=some Tryz.f144:=Tryz.func144
def a9h:N9:=⟨179,[.tmp 4,.tmp 5],.seq (.reg [OA 4 (.mv (.const (.slice none 0 0))),OA 5 (.mv (.const (.slice none 0 0)))]) (.seq (.reg [MM 15 1,MM 16 1,OA 17 (.len false (TT 16)),OA 18 (.bin .sub (TT 17) (II 1)),OA 19 (.q8 1 (TT
 15) (TT 18)),VV 20 19,OA 21 (.call 201 [TT 20]),MM 6 21]) (.seq (.reg [MM 22 1,OA 23 (.len false (TT 22)),MM 7 23]) (.seq (.E8 [.q,.q,.e none false,.l,.l,.e none false,.l,.q,.q,.q] [MM 24 0,MM 25 6,OA 26 (.call
 202 [TT 24,TT 25]),MM 27 1,MM 28 6,OA 29 (.call 202 [TT 27,TT 28]),MM 30 7,OA 31 (.a2u 1 (TT 29) none (some (TT 30))),MM 8 26,MM 9 31]) (.seq (.reg [MM 32 8,OA 33 (.len false (TT 32)),MM 34 7,OA 35 (.bin .sub (TT
 33) (TT 34)),OA 36 (.a3A 222 4 [.int .u32 0] (TT 35) (TT 35)),MM 4 36]) (.seq (.seq (.reg [MM 37 4,OA 38 (.len false (TT 37)),OA 39 (.bin .sub (TT 38) (II 1)),MM 10 39]) (.block 0 (.loop (.seq (.seq (.reg [MM 40 10,OA 41
 (.bin .geq (TT 40) (II 0))]) (.cond (TT 41) .skip (.exit 0))) (.seq (.block 1 (.seq (.E8 [.q,.q,.q,.q,.q,.q,.q,.q,.q,.q,.q,.q,.q,.q,.q,.q,.q,.q] [MM 44 8,MM 45 10,MM 46 7,OA 47 (.bin .add (TT 45) (TT 46)),
 OA 48 (.q8 1 (TT 44) (TT 47)),VV 49 48,OA 50 (.conv .u64 (TT 49)),OA 51 (.bin .shl (TT 50) (.const (.int .u64 32))),MM 52 8,MM 53 10,MM 54 7,OA 55 (.bin .add (TT 53) (TT 54)),OA 56 (.bin .sub (TT 55) (II 1)),OA 57
 (.q8 1 (TT 52) (TT 56)),VV 58 57,OA 59 (.conv .u64 (TT 58)),OA 60 (.bin .or (TT 51) (TT 59)),MM 11 60]) (.seq (.E8 [.q,.q,.q,.q,.q,.q,.q,.q,.q,.q,.q,.q,.q,.q,.q,.q,.q,.q] [MM 61 11,MM 62 9,MM 63 7,OA
 64 (.bin .sub (TT 63) (II 1)),OA 65 (.q8 1 (TT 62) (TT 64)),VV 66 65,OA 67 (.conv .u64 (TT 66)),OA 68 (.bin .quo (TT 61) (TT 67)),MM 69 11,MM 70 9,MM 71 7,OA 72 (.bin .sub (TT 71) (II 1)),OA 73 (.q8 1 (TT 70) (TT
 72)),VV 74 73,OA 75 (.conv .u64 (TT 74)),OA 76 (.bin .rem (TT 69) (TT 75)),MM 12 68,MM 13 76]) (.seq (.block 2 (.loop (.seq (.seq (.E8 [.q,.q,.q,.q,.q,.q,.q,.q,.q,.q,.q,.q,.q,.q,.q,.q,.q,.q,.q,.q,.q,
 .q,.q,.q,.q] [MM 77 12,OA 78 (.bin .shr (TT 77) (.const (.int .u64 32))),OA 79 (.bin .gtr (TT 78) (.const (.int .u64 0))),MM 80 79,MG 81 12 80 false,MG 82 9 80 false,MG 83 7 80 false,OC 84 (.bin .sub (TT 83) (II 2)) 80
 false,OC 85 (.q8 1 (TT 82) (TT 84)) 80 false,VG 86 85 80 false,OC 87 (.conv .u64 (TT 86)) 80 false,OC 88 (.bin .mul (TT 81) (TT 87)) 80 false,MG 89 13 80 false,OC 90 (.bin .shl (TT 89) (.const (.int .u64 32))) 80 false,
 MG 91 8 80 false,MG 92 10 80 false,MG 93 7 80 false,OC 94 (.bin .add (TT 92) (TT 93)) 80 false,OC 95 (.bin .sub (TT 94) (II 2)) 80 false,OC 96 (.q8 1 (TT 91) (TT 95)) 80 false,VG 97 96 80 false,OC 98 (.conv .u64 (TT
 97)) 80 false,OC 99 (.bin .or (TT 90) (TT 98)) 80 false,OC 100 (.bin .gtr (TT 88) (TT 99)) 80 false,OA 101 (.pick (TT 80) (.const (.bool true)) (TT 100))]) (.cond (TT 101) .skip (.exit 2))) (.block 3 (.seq (.reg [MM 102 12,
 OA 103 (.bin .sub (TT 102) (.const (.int .u64 1))),MM 12 103]) (.seq (.reg [MM 104 13,MM 105 9,MM 106 7,OA 107 (.bin .sub (TT 106) (II 1)),OA 108 (.q8 1 (TT 105) (TT 107)),VV 109 108,OA 110 (.conv .u64 (TT 109)),OA
 111 (.bin .add (TT 104) (TT 110)),MM 13 111]) (.seq (.reg [MM 112 13,OA 113 (.bin .shr (TT 112) (.const (.int .u64 32))),OA 114 (.bin .gtr (TT 113) (.const (.int .u64 0)))]) (.cond (TT 114) (.exit 2) .skip)))))))) (.seq (.seq
 (.reg [MM 115 8,MM 116 10,MM 117 10,MM 118 7,OA 119 (.bin .add (TT 117) (TT 118)),OA 120 (.bin .add (TT 119) (II 1)),OA 121 (.a2u 1 (TT 115) (some (TT 116)) (some (TT 120))),MM 122 9,MM 123 12,OA 124 (.call 203 [TT
 121,TT 122,TT 123])]) (.cond (TT 124) (.seq (.reg [MM 125 12,OA 126 (.bin .sub (TT 125) (.const (.int .u64 1))),MM 12 126]) (.reg [MM 127 8,MM 128 10,MM 129 10,MM 130 7,OA 131 (.bin .add (TT 129) (TT 130)),OA 132 (.bin
 .add (TT 131) (II 1)),OA 133 (.a2u 1 (TT 127) (some (TT 128)) (some (TT 132))),MM 134 9,OA 135 (.call 204 [TT 133,TT 134])])) .skip)) (.reg [MM 136 4,MM 137 10,MM 138 12,OA 139 (.conv .u32 (TT 138)),OA 140 (.q8 1 (TT
 136) (TT 137)),OB (.store 1 (TT 140) (TT 139))])))))) (.reg [MM 42 10,OA 43 (.bin .sub (TT 42) (II 1)),MM 10 43])))))) (.seq (.reg [MM 141 8,MM 142 7,OA 143 (.a2u 1 (TT 141) none (some (TT 142))),MM 5 143]) (.seq (.seq
 (.reg [MM 144 5,OA 145 (.len false (TT 144)),OA 146 (.mv (II 0))]) (.block 4 (.loop (.seq (.reg [OA 147 (.bin .lss (TT 146) (TT 145))]) (.seq (.cond (TT 147) .skip (.exit 4)) (.seq (.block 5 (.seq (.reg [MM 148 146,MM 14
 148]) (.seq (.reg [MM 149 5,MM 150 14,OA 151 (.q8 1 (TT 149) (TT 150)),VV 152 151,MM 153 6,OA 154 (.bin .shr (TT 152) (TT 153)),OA 155 (.q8 1 (TT 149) (TT 150)),OB (.store 1 (TT 155) (TT 154))]) (.seq (.reg [MM 156
 14,OA 157 (.bin .add (TT 156) (II 1)),MM 158 7,OA 159 (.bin .lss (TT 157) (TT 158))]) (.cond (TT 159) (.E8 [.q,.q,.q,.q,.q,.q,.q,.q,.q,.q,.q,.q,.q,.q,.q,.q,.e none true] [MM 160 5,MM 161 14,OA 162 (.q8
 1 (TT 160) (TT 161)),VV 163 162,MM 164 8,MM 165 14,OA 166 (.bin .add (TT 165) (II 1)),OA 167 (.q8 1 (TT 164) (TT 166)),VV 168 167,OA 169 (.conv .u64 (TT 168)),MM 170 6,OA 171 (.bin .sub (II 32) (TT 170)),OA 172
 (.bin .shl (TT 169) (TT 171)),OA 173 (.conv .u32 (TT 172)),OA 174 (.bin .or (TT 163) (TT 173)),OA 175 (.q8 1 (TT 160) (TT 161)),OB (.store 1 (TT 175) (TT 174))]) .skip))))) (.reg [OA 176 (.bin .add (TT 146) (II 1)),MM
 146 176]))))))) (.seq (.reg [MM 177 4,MM 178 5,MM 4 177,MM 5 178]) .ret))))))))⟩
theorem b6i:J5 eff Tryz.prog Tryz.f176=some a9h:=by kernel_rfl
theorem b6k:Tryz.prog.funcs[176]?=some Tryz.f176:=Tryz.func176
theorem kS {P:Program} {f:Nat} {fn:Func} {ir:N9} (hf:P.funcs[f]?=some fn) (hc:J5 eff P fn=some ir) {args:List C} {r:C} (hn:Nat.ble args.length ir.ntmps=true) (h:∀ w O,S ⟨P,eff,ir.ntmps,w,fun _=>False,O,[],[]⟩ (Fin P ir.results (Out ⟨P,eff,ir.ntmps,w,fun _=>False,O,[],[]⟩ r)) ⟨j5 0 args,[]⟩ [.code ir.body]):y9 P f args r:=y9.of hf hc (c7j hn) h
theorem kW {P:Program} {Pw:World->Prop} {f:Nat} {fn:Func} {ir:N9} (hf:P.funcs[f]?=some fn) (hc:J5 eff P fn=some ir) {args:List C} {r:C} (hn:Nat.ble args.length ir.ntmps=true) (h:∀ w O,Pw w->S ⟨P,eff,ir.ntmps,w,fun _=>False,O,[],[]⟩ (Fin P ir.results (Out ⟨P,eff,ir.ntmps,w,fun _=>False,O,[],[]⟩ r)) ⟨j5 0 args,[]⟩ [.code ir.body]):a0o P Pw f args r:=a0o.of hf hc (c7j hn) h
open Go Go.RowKit Eng
set_option maxRecDepth 10000
set_option maxHeartbeats 1000000
theorem a8A (b:UInt8):((b.toNat:Int)=0)=(b=0):=propext ⟨fun h=>UInt8.toNat.inj (by simp;omega),fun h=>by subst h;rfl⟩
theorem b8y {α:Type} (x:α) (l:List α):List.drop (Int.toNat 1) (List.take (l.length+1) (x::l))=l:=by simp
theorem b9U (v:Nat) (b:UInt8):bits .or .u64 (IntKind.u64.wrap (((v % 18446744073709551616:Nat):Int)*256)) (IntKind.u64.wrap ((b.toNat:Nat):Int))=(((256*v+b.toNat) % 18446744073709551616:Nat):Int):=by
 have hb:=b.toNat_lt
 have h1:IntKind.u64.wrap (((v % 18446744073709551616:Nat):Int)*256)=((v % 18446744073709551616*256 % 18446744073709551616:Nat):Int):=by rw [<- a4Q];rfl
 rw [h1,a4Q,b0U _ _ (by omega) (by omega),Nat.mod_eq_of_lt (a:=b.toNat) (by omega),Nm.b7Z _ _ (by omega)]
theorem a0p (l:List UInt8) (hl:l.length<=1099511627776):y9 Tryz.prog 145 [sb l] (sb (Nm.trim l)):=by
  refine kS Tryz.func145 (by cbv) (by rfl) fun w O=>?_
  simp only [j5,TT,II,OA,OC,MM,MG,sb]
  (repeat first|refine uA ?_|(apply uK;focus omega)|simp (disch:=omega) only [go_sem])
  refine S.loop (X:=List UInt8) (fun m=>⟨[(0,sb m)],[]⟩) (fun m=>Nm.trim m=Nm.trim l) (fun m=>m.length) l rfl (by (repeat first|refine uA ?_|(refine ⟨?_,?_⟩;focus first|rfl|trivial|(simp [slot];done))|rfl|trivial|simp)) ?_
  intro m hm
  cases m with
  | nil=>
    simp only [sb]
    (repeat first|refine uA ?_|(apply uK;focus first|omega|(intros;simp_all<;>omega))|simp only [go_sem,Nat.reduceBEq,F4,List.length_nil]|simp (disch:=omega) only [ww,F4,List.length_nil])
    (refine uJ rfl (fun hc=>?_) fun hc=>?_)
    · omega
    rw [<- hm]
    (repeat first|refine uA ?_|(apply uK;focus omega)|simp (disch:=omega) only [go_sem,Nat.reduceBEq])
    exact S.done (j3.out rfl (Imp.refl rfl) rfl)
  | cons b m=>
    simp only [sb]
    (repeat first|refine uA ?_|(apply uK;focus omega)|simp only [go_sem,Nat.reduceBEq,F4,a0i,c7m,List.getD_cons_zero,a8A]|simp (disch:=omega) only [ww,F4,a0i,c7m,List.getD_cons_zero,b4W,a8A])
    (refine uJ rfl (fun hc=>?_) fun hc=>?_)
    · obtain ⟨_,rfl⟩:=hc
      have hm2:Nm.trim m=Nm.trim l:=by rw [<- hm];rfl
      (repeat first|refine uA ?_|(apply uK;focus omega)|simp only [go_sem,Nat.reduceBEq,F4,c7m,b4W,c7l,List.take_succ_cons,List.drop_succ_cons,c7a]|simp (disch:=omega) only [ww,F4,a0i,c7m,b4W,c7l,List.take_succ_cons,List.drop_succ_cons,c7a,b8y])
      refine S.next (m:=List.length) (x:=0::m) m hm2 (by simp) (by exact (by (repeat first|refine uA ?_|(refine ⟨?_,?_⟩;focus first|rfl|trivial|(simp [slot];done))|rfl|trivial|simp)))
    · have hb:b ≠ 0:=by
        intro hb
        rcases hc with hc|hc
        · omega
        · exact hc hb
      have he:Nm.trim l=b::m:=by rw [<- hm];unfold Nm.trim;rw [if_neg hb]
      rw [he]
      (repeat first|refine uA ?_|(apply uK;focus omega)|simp (disch:=omega) only [go_sem,Nat.reduceBEq])
      exact S.done (j3.out rfl (Imp.refl rfl) rfl)
theorem a1I (l:List UInt8) (hl:l.length<=1099511627776):y9 Tryz.prog 147 [sb l] (.v (.int .u64 ((Nm.val l % 18446744073709551616:Nat):Int))):=by
 refine kS Tryz.func147 (by cbv) (by rfl) fun w O=>?_
 simp only [j5,TT,II,OA,MM,sb]
 (repeat first|refine uA ?_|(apply uK;focus omega)|simp only [go_sem,Nat.reduceBEq,F4]|simp (disch:=omega) only [ww,F4])
 refine S.loop (X:=Nat) (fun i=>⟨[(0,sb l),(3,.v (.int .u64 ((Nm.val (l.take i) % 18446744073709551616:Nat):Int))),(6,ints l.length),(7,ints i)],[]⟩) (fun i=>i<=l.length) (fun i=>l.length-i) 0 (c6Z _) (by (repeat first|refine uA ?_|(refine ⟨?_,?_⟩;focus first|rfl|trivial|(simp [slot];done))|rfl|trivial|simp)) ?_
 intro i hi
 simp only [sb,ints]
 (repeat first|refine uA ?_|(apply uK;focus omega)|simp (disch:=omega) only [go_sem,Nat.reduceBEq])
 (refine uJ rfl (fun hc=>?_) fun hc=>?_)
 ·have hi':i < l.length:=by omega
  have hg:l.getD i 0=l[i]:=by rw [c7g,c6T hi'];rfl
  have hv:Nm.val (l.take (i+1))=256*Nm.val (l.take i)+l[i].toNat:=by rw [c7L hi',Nm.a4V]
  have hb:=l[i].toNat_lt
  (repeat first|refine uA ?_|(apply uK;focus omega)|simp only [go_sem,Nat.reduceBEq,Nat.reduceLeDiff,Int.reducePow,F4,a0i,hg,b9U]|simp (disch:=omega) only [ww])
  refine S.next (i+1) hi' (by omega) (by rw [hv];exact (by (repeat first|refine uA ?_|(refine ⟨?_,?_⟩;focus first|rfl|trivial|(simp [slot];done))|rfl|trivial|simp)))
 ·have hi':i=l.length:=by omega
  subst hi'
  rw [c7l]
  (repeat first|refine uA ?_|(apply uK;focus omega)|simp (disch:=omega) only [go_sem,Nat.reduceBEq])
  exact S.done (j3.out rfl (Imp.refl rfl) rfl)
def b8 (n i:Nat):List C:=((Nm.be8 n).take i++List.replicate (8-i) 0).map fun b:UInt8=>.v (.int .u8 ((b.toNat:Nat):Int))
theorem a6H (n k:Nat):IntKind.u8.wrap (Int.fdiv (n:Int) (k:Int))=(((Nm.oB (n / k)).toNat:Nat):Int):=by
 rw [a2w,a2c,Nm.a2b]
theorem c0n (n i:Nat) (h:i<=8):(b8 n i).length=8:=by simp [b8,Nm.be8];omega
theorem c3I (n:Nat):b8 n 0=[.v (.int .u8 0),.v (.int .u8 0),.v (.int .u8 0),.v (.int .u8 0),.v (.int .u8 0),.v (.int .u8 0),.v (.int .u8 0),.v (.int .u8 0)]:=rfl
theorem c3k (n i:Nat) (h:i < 8):(b8 n i).take i++[C.v (.int .u8 (IntKind.u8.wrap (Int.fdiv (n:Int) (2 ^ min (56-8*(i:Int)).toNat 64))))]++(b8 n i).drop (i+1)=b8 n (i+1):=by
 have:i=0 \/ i=1 \/ i=2 \/ i=3 \/ i=4 \/ i=5 \/ i=6 \/ i=7:=by omega
 have e:IntKind.u8.wrap (Int.fdiv (n:Int) (2 ^ min (56-8*(i:Int)).toNat 64))=(((Nm.oB (n / 2 ^ (56-8*i))).toNat:Nat):Int):=by
  rw [<- a6H,show min (56-8*(i:Int)).toNat 64=56-8*i by omega]
  congr 2
 rw [e]
 rcases this with rfl|rfl|rfl|rfl|rfl|rfl|rfl|rfl<;>simp [b8,Nm.be8,List.replicate]
theorem b7a {α:Type} (k:Nat) (f:α->Value):∀ l:List α,C.bdL k (l.map fun x=>.v (f x))=true
 | []=>rfl
 | x::l=>by simp only [c7i,C.bdL,C.bd,Bool.true_and];exact b7a k f l
theorem b4J (n:Nat):a0a (List.map b1w (List.take 8 (b8 n 8)))=some (Nm.be8 n):=by
 have:List.map b1w (List.take 8 (b8 n 8))=(Nm.be8 n).map F9:=by simp [b8,Nm.be8,b1w,F9]
 rw [this,a0t]
theorem a0x (n:Nat) (hn:n < 18446744073709551616):y9 Tryz.prog 146 [.v (.int .u64 (n:Int))] (sb (Nm.enc n)):=by
 refine kS Tryz.func146 (by cbv) (by rfl) fun w O=>?_
 simp only [j5,TT,II,OA,OB,MM,sb]
 (repeat first|refine uA ?_|(apply uK;focus omega)|simp (disch:=omega) only [go_sem])
 refine S.loop (X:=Nat) (fun i=>⟨[(0,.v (.int .u64 (n:Int))),(3,.bp 0 0),(5,ints i)],[.box 240 (b8 n i)]⟩) (fun i=>i<=8) (fun i=>8-i) 0 (c6Z _) (by rw [c3I];exact (by (repeat first|refine uA ?_|(refine ⟨?_,?_⟩;focus first|rfl|trivial|(simp [slot];done))|rfl|trivial|simp))) ?_
 intro i hi
 simp only [ints]
 (repeat first|refine uA ?_|(apply uK;focus omega)|simp (disch:=omega) only [go_sem,Nat.reduceBEq])
 (refine uJ rfl (fun hc=>?_) fun hc=>?_)
 ·have hlen:=c0n n i (by omega)
  (repeat first|refine uA ?_|(apply uK;focus omega)|simp only [go_sem,Nat.reduceBEq,c7D,Nat.mul_one]|simp (disch:=omega) only [ww])
  refine S.next (i+1) (by omega) (by omega) (by rw [c3k n i (by omega)];exact Ent.mk _ _ (by (repeat first|refine uA ?_|(refine ⟨?_,?_⟩;focus first|rfl|trivial|(simp [slot];done))|rfl|trivial|simp)) (D7.cons (RI.box _ _ _ (j4.refl (b7a _ _ _))) D7.nil) (c6Z _))
 ·have hi8:i=8:=by omega
  subst hi8
  have hlen:=c0n n 8 (by omega)
  (repeat first|refine uA ?_|(apply uK;focus omega)|simp only [go_sem,Nat.reduceBEq,Nat.reduceAdd,Nat.reduceLeDiff,b4J,a6G,Nm.b3X hn]|simp (disch:=omega) only [ww,b4J,a6G,Nm.b3X hn]|(apply uB (a0p (Nm.be8 n) (c7j rfl));exact rfl))
  exact S.done (j3.out rfl (Imp.refl rfl) rfl)
theorem b5w (n:Int) (hn:n<=9223372036854775807):y9 Tryz.prog 115 [ints n] (sb (Nm.enc n.toNat)):=by
 refine kS Tryz.func115 (by cbv) (by rfl) fun w O=>?_
 simp only [j5,TT,II,OA,MM,sb,ints]
 (repeat first|refine uA ?_|(apply uK;focus omega)|simp (disch:=omega) only [go_sem,Nat.reduceBEq])
 (refine uJ rfl (fun hc=>?_) fun hc=>?_)
 ·have h0:n.toNat=0:=by omega
  rw [h0,Nm.a0W]
  (repeat first|refine uA ?_|(apply uK;focus omega)|simp (disch:=omega) only [go_sem])
  exact S.done (j3.out rfl (Imp.refl rfl) rfl)
 ·obtain ⟨m,rfl⟩:=Int.eq_ofNat_of_zero_le (show 0<=n by omega)
  (repeat first|refine uA ?_|(apply uK;focus omega)|simp (disch:=omega) only [go_sem,Nat.reduceBEq,ww]|(apply uB (a0x m (by omega));exact rfl))
  exact S.done (j3.out rfl (Imp.refl rfl) rfl)
end Go.Proofs.YtgpegbfnlkidjaaGreatDoor
namespace Go.Proofs.YtgpegbfnlkidjaaGreatDoor.Eng
open Go Go.RowKit
def c5p (E:Ctx) (e sz:Nat) (es:List (List C)) (y:Value) (w':World):Prop:=
 Below E.w0.heap.size E.w0 w'/\(∀ b,C9 y=some b->E.w0.heap.size<=b/\b < w'.heap.size)/\O5 [] w' (fun b=>E.av b \/ C9 y=some b) y (.row e sz es)
def FNew (P:Program) (f:Nat) (args:List C) (e sz:Nat) (es:List (List C)):Prop:=∀ (O:Nat->Prop) (w:World) (vs:List Value),(∀ b,O b->b < w.heap.size)->FzL w O args vs ->
 Calls P f vs.toArray w fun ee w'=>∃ y,ee=.returned y/\Below w.heap.size w w'/\(∀ b,C9 y=some b->w.heap.size<=b/\b < w'.heap.size)/\O5 [] w' (fun b=>O b \/ C9 y=some b) y (.row e sz es)
theorem a6z {w:World} {O O':Nat->Prop} {ν ν':List Value} {x:Value} {e sz:Nat} {es:List (List C)} (h:∀ b,O' b->O b) (hr:O5 ν w O x (.row e sz es)):O5 ν' w O' x (.row e sz es):=by
 obtain ⟨h0,vs,h1,h2,h3⟩:=hr
 exact ⟨h0,vs,FzL.keep (Keeps.sub h) h1,h2,h3⟩
theorem j3.new {E:Ctx} (hown:E.own0=fun _=>False) {rs:List Res} {cs:List C} {k e sz:Nat} {es:List (List C)} (h:a9G cs=.rv k) (hk:rs[k]?=some (.row e sz es)):j3 E rs (c5p E e sz es) cs:=by
 intro wf ν w y hR hF hN hd
 rw [h] at hd
 simp only [Den] at hd
 have hok:=hR.get hk hd.1
 have hown':∀ b,C9 y=some b->owned rs ν b:=fun b hb=>⟨k,_,y,hk,hd.1,hb⟩
 refine ⟨⟨hF.os,hF.tape,hF.output,hF.size,fun b hb=>hF.block b hb (by rw [hown];exact fun h=>h)⟩,fun b hb=>?_,a6z (fun b hb=>?_) hok⟩
 ·obtain ⟨h1,h2,h3⟩:=hR.low b (hown' b hb)
  rw [hown] at h3
  rcases h3 with h3|h3
  ·exact h3.elim
  ·exact ⟨h3,h1⟩
 ·rcases hb with hb|hb
  ·exact .inl hb
  ·exact .inr (hown' b hb)
theorem FNew.of {eff:Nat->Bool} {P:Program} {f:Nat} {fn:Func} {ir:N9} (hf:P.funcs[f]?=some fn) (hc:J5 eff P fn=some ir) {args:List C} {e sz:Nat} {es:List (List C)} (hn:args.length<=ir.ntmps)
  (h:∀ w O,S ⟨P,eff,ir.ntmps,w,fun _=>False,O,[],[]⟩ (Fin P ir.results (c5p ⟨P,eff,ir.ntmps,w,fun _=>False,O,[],[]⟩ e sz es)) ⟨j5 0 args,[]⟩ [.code ir.body]):FNew P f args e sz es:=by
 intro O w vs hO hargs
 exact enter hf hc O hO args hargs hn (h w O)
theorem FNew.spec {P:Program} {f:Nat} {args:List C} {e sz:Nat} {es:List (List C)} (h:FNew P f args e sz es):y9 P f args (.sl sz es):=by
 intro O w vs hO hA
 refine (h O w vs hO hA).mono ?_
 rintro ee w' ⟨y,rfl,h1,h2,h0,us,h3,h4,h5⟩
 refine ⟨y,rfl,h1,b9b h5 rfl h0 (FzL.keep (Keeps.sub fun b hb=>.inl hb) h3) h4 fun b hb=>?_⟩
 obtain ⟨h6,h7⟩:=h2 b hb
 exact ⟨h7,fun hb'=>by have:=hO b hb';omega⟩
theorem FNew.t {E:Ctx} {rs:List Res} {f:Nat} {args:List C} {e sz:Nat} {es:List (List C)} (h:FNew E.P f args e sz es) (hb:(C.bdL rs.length args && C.clL args)=true):j6 E rs f args (.rv rs.length) (rs++[.row e sz es]) []:=by
 rw [c7c] at hb
 intro av ν w vs hR hav hF hD
 have hlt:∀ b,OO av rs ν b->b < w.heap.size:=fun b hb=>by
  rcases hb with hb|hb
  ·exact hR.av b hb
  ·exact (hR.low b hb).1
 refine (h (OO av rs ν) w vs hlt (hD.fz hb.2)).mono ?_
 rintro ee w' ⟨y,rfl,h1,h2,h3⟩
 have hadd:=hR.add (x:=y) (r:=.row e sz es) h1 h2 (fun _ _=>a6z (fun b hb=>by
  rcases hb with hb|⟨k,q,z,hk,hz,hf⟩
  ·exact .inl (.inl hb)
  ·rcases c7p k rs.length with hlt|hge
   ·rw [c7n hlt] at hk
    rw [c7n (by rw [hR.len];exact hlt)] at hz
    exact .inl (.inr ⟨k,q,z,hk,hz,hf⟩)
   ·rw [c7r hge] at hk
    rw [c7r (by rw [hR.len];exact hge),hR.len] at hz
    cases hi:k-rs.length with
    | zero=>
     rw [hi] at hk hz
     simp at hk hz
     subst hk hz
     exact .inr hf
    | succ n=>rw [hi] at hk;simp at hk) h3)
 refine ⟨y,ν++[y],rfl,hadd.1,hadd.2,?_⟩
 simp only [Den]
 obtain ⟨_,us,_,_,h5⟩:=h3
 exact ⟨by rw [<- hR.len];simp,h5.slice.elim fun A h=>h.elim fun c h=>⟨A,_,c,h⟩⟩
theorem l8.vw {E:Ctx} {rs:List Res} {f:Nat} {args args':List C} {K:C->List Res->List Nat->Prop} {r:C} (hs:y9 E.P f args' r) (hi:j4 rs [] args args') (hcl:C.clL args'=true) (hr:r.flat=true) (hk:K r rs []):l8 E rs f args K:=
 l8.quiet (U1.view (fun _=>hs) (fun _=>hi) (fun _=>hcl) hr) hk
theorem a0s.vw {E:Ctx} {rs:List Res} {p:Bool} {f:Nat} {args args':List C} {K:C->Prop} {r:C} (hs:y9 E.P f args' r) (hi:j4 rs [] args args') (hcl:C.clL args'=true) (hr:r.flat=true) (hk:K r):a0s E rs p f args K:=
 a0s.mk (U1.view (fun _=>hs) (fun _=>hi) (fun _=>hcl) hr) hk
end Go.Proofs.YtgpegbfnlkidjaaGreatDoor.Eng
namespace Go.Proofs.YtgpegbfnlkidjaaGreatDoor
open Go Go.RowKit Eng
set_option maxRecDepth 10000
set_option maxHeartbeats 1000000
def ws (l:List Nat):List (List C):=l.map wd
theorem D9 (l:List Nat):(ws l).length=l.length:=by simp [ws]
theorem I6 (l:List Nat) (i:Nat):(ws l)[i]?=(l[i]?).map wd:=by simp [ws]
theorem O3 (l:List Nat) (i v:Nat):(ws l).set i [.v (.int .u32 (v:Int))]=ws (l.set i v):=by
 simp [ws,wd,List.map_set]
theorem a3i (n:Nat):List.replicate n [C.v (.int .u32 0)]=ws (List.replicate n 0):=by simp [ws,wd]
theorem c6L (n:Nat) (h:n<=1099511627776):IntKind.i64.wrap (((n:Int)+3).tdiv 4)=(((n+3) / 4:Nat):Int):=by
 have:((n:Int)+3).tdiv 4=(((n+3) / 4:Nat):Int):=rfl
 rw [this,Eng.wrap_i64 (by omega)]
theorem c6Q (i:Nat) (h:i<=1099511627776):IntKind.i64.wrap ((i:Int).tdiv 4)=((i / 4:Nat):Int):=by
 have:(i:Int).tdiv 4=((i / 4:Nat):Int):=rfl
 rw [this,Eng.wrap_i64 (by omega)]
theorem c5Z (i:Nat):(i:Int).tmod 4=((i % 4:Nat):Int):=rfl
theorem b9K (o:Nat) (b:UInt8) (i:Nat) (ho:o < 4294967296) (hb:b.toNat*2 ^ (8*(i % 4)) < 4294967296) :
  bits .or .u32 (o:Int) (IntKind.u32.wrap (IntKind.u32.wrap ((b.toNat:Nat):Int)*2 ^ min (((i % 4:Nat):Int)*8).toNat 32))=((o ||| b.toNat*2 ^ (8*(i % 4)):Nat):Int):=by
 have h0:=b.toNat_lt
 rw [Eng.wrap_u32 (n:=((b.toNat:Nat):Int)) (by omega),show min (((i % 4:Nat):Int)*8).toNat 32=8*(i % 4) by omega]
 have e:((b.toNat:Nat):Int)*2 ^ (8*(i % 4))=((b.toNat*2 ^ (8*(i % 4)):Nat):Int):=by rw [Int.natCast_mul,Int.natCast_pow];rfl
 rw [e,Eng.wrap_u32 (by omega),c0v _ _ ho hb]
theorem a2E (l:List UInt8) (hl:l.length<=1099511627776):FNew Tryz.prog 148 [sb l] 222 1 (ws (Nm.J9 l)):=by
 refine FNew.of (eff:=eff) Tryz.func148 (by cbv) (by exact c7j rfl) fun w O=>?_
 simp only [j5,TT,II,OA,OB,MM,VV,sb]
 have htl:=Nm.Y4 l
 have hend:=fun out h=>Nm.b4j (l:=l) (out:=out) h
 have ht:=a0p l hl
 generalize Nm.trim l=m at *
 have hm:m.length<=1099511627776:=by omega
 (repeat first|refine uA ?_|(apply uK;focus omega)|simp only [go_sem,Nat.reduceBEq,Nat.reduceAdd,F4]|simp (disch:=omega) only [ww,c6L m.length hm]|(apply uB ht;exact rfl))
 refine S.loop (X:=Nat × List Nat) (fun x=>⟨[(0,sb m),(3,.rv 0),(14,ints m.length),(15,ints x.1)],[.row 222 1 (ws x.2)]⟩) (fun x=>x.1<=m.length/\Nm.a5b m x.1 x.2) (fun x=>m.length-x.1) (0,List.replicate ((m.length+3) / 4) 0) ⟨c6Z _,Nm.b3r m⟩ (by simp only [<- a3i];exact (by (repeat first|refine uA ?_|(refine ⟨?_,?_⟩;focus first|rfl|trivial|(simp [slot];done))|rfl|trivial|simp))) ?_
 rintro ⟨i,out⟩ ⟨hi,hinv⟩
 simp only [sb,ints] at hi hinv ⊢
 (repeat first|refine uA ?_|(apply uK;focus omega)|simp (disch:=omega) only [go_sem,Nat.reduceBEq])
 (refine uJ rfl (fun hc=>?_) fun hc=>?_)
 ·have hi':i < m.length:=by omega
  have hol:=hinv.1
  have hj:i / 4 < out.length:=by omega
  obtain ⟨hst,hlt,hbl⟩:=Nm.b3t hinv hi' hj
  have hgo:out[i / 4]?=some out[i / 4]:=c6T hj
  have ho32:=hinv.2.1 _ (c7k hj)
  have hgm:m.getD ((m.length:Int)-1-(i:Int)).toNat 0=m[m.length-1-i]:=by
   rw [show ((m.length:Int)-1-(i:Int)).toNat=m.length-1-i by omega,c7g,c6T (by omega)]
   rfl
  (repeat first|refine uA ?_|(apply uK;focus omega)|simp only [go_sem,Nat.reduceBEq,Nat.reduceAdd,Nat.reduceLeDiff,F4,a0i,D9,I6,hgo,c6V,c6Q i (by omega),c5Z,wd]|simp (disch:=omega) only [ww,hgm,b9K _ _ _ ho32 hbl,O3])
  refine S.next (x:=(i,out)) (i+1,_) ⟨hi',hst⟩ (by simp only;omega) (by (repeat first|refine uA ?_|(refine ⟨?_,?_⟩;focus first|rfl|trivial|(simp [slot];done))|rfl|trivial|simp))
 ·have hi':i=m.length:=by omega
  subst hi'
  (repeat first|refine uA ?_|(apply uK;focus omega)|simp (disch:=omega) only [go_sem,Nat.reduceBEq])
  rw [<- hend _ hinv]
  exact S.done (j3.new rfl rfl rfl)
theorem b5G (n k:Nat):IntKind.u8.wrap (Int.fdiv (n:Int) (k:Int))=(((Nm.oB (n / k)).toNat:Nat):Int):=a6H n k
theorem a7P (l:List UInt8) (i:Nat) (v:UInt8):(l.map F9).set i [.v (.int .u8 ((v.toNat:Nat):Int))]=(l.set i v).map F9:=by
 simp [F9,List.map_set]
theorem a3r (n:Nat):List.replicate n [C.v (.int .u8 0)]=(List.replicate n (0:UInt8)).map F9:=by simp [F9]
theorem a4R (l:List Nat) (hl:l.length<=274877906944) (hw:Nm.G5 l):y9 Tryz.prog 149 [.sl 1 (ws l)] (sb (Nm.enc (Nm.wv 4294967296 l))):=by
 refine kS Tryz.func149 (by cbv) (by rfl) fun w O=>?_
 simp only [j5,TT,II,OA,OB,MM,VV,sb]
 (repeat first|refine uA ?_|(apply uK;focus omega)|simp only [go_sem,Nat.reduceBEq,Nat.reduceAdd,D9]|simp (disch:=omega) only [ww])
 refine S.loop (X:=Nat × List UInt8) (fun x=>⟨[(0,.sl 1 (ws l)),(3,.rv 0),(11,.sl 1 (ws l)),(12,ints l.length),(13,ints x.1)],[.row 5 1 (x.2.map F9)]⟩) (fun x=>x.1<=l.length/\Nm.a6j l x.1 x.2) (fun x=>l.length-x.1) (0,List.replicate (4*l.length) 0) ⟨c6Z _,Nm.b4D l⟩ (by simp only [<- a3r];exact (by (repeat first|refine uA ?_|(refine ⟨?_,?_⟩;focus first|rfl|trivial|(simp [slot];done))|rfl|trivial|simp))) ?_
 rintro ⟨i,b⟩ ⟨hi,hinv⟩
 simp only [ints] at hi hinv ⊢
 have hbl:=hinv.1
 (repeat first|refine uA ?_|(apply uK;focus omega)|simp (disch:=omega) only [go_sem,Nat.reduceBEq])
 (refine uJ rfl (fun hc=>?_) fun hc=>?_)
 ·have hi':i < l.length:=by omega
  have hgl:l[i]?=some l[i]:=c6T hi'
  have hw32:=hw _ (c7k hi')
  have hk:(l.length:Int)-1-(i:Int)=((l.length-1-i:Nat):Int):=by omega
  have hst:=Nm.b4Z hinv hi' hw32 (Nm.a2b (l[i] / 16777216)) (Nm.a2b (l[i] / 65536)) (Nm.a2b (l[i] / 256)) (Nm.a2b l[i])
  have w1:IntKind.u8.wrap ((l[i]:Int).fdiv 16777216)=(((Nm.oB (l[i] / 16777216)).toNat:Nat):Int):=b5G l[i] 16777216
  have w2:IntKind.u8.wrap ((l[i]:Int).fdiv 65536)=(((Nm.oB (l[i] / 65536)).toNat:Nat):Int):=b5G l[i] 65536
  have w3:IntKind.u8.wrap ((l[i]:Int).fdiv 256)=(((Nm.oB (l[i] / 256)).toNat:Nat):Int):=b5G l[i] 256
  have w4:IntKind.u8.wrap (l[i]:Int)=(((Nm.oB l[i]).toNat:Nat):Int):=by rw [a2c,Nm.a2b]
  generalize Nm.oB (l[i] / 16777216)=x0 at *
  generalize Nm.oB (l[i] / 65536)=x1 at *
  generalize Nm.oB (l[i] / 256)=x2 at *
  generalize Nm.oB l[i]=x3 at *
  generalize hkk:l.length-1-i=k at *
  have n0:(4*(k:Int)).toNat=4*k:=by omega
  have n1:(4*(k:Int)+1).toNat=4*k+1:=by omega
  have n2:(4*(k:Int)+2).toNat=4*k+2:=by omega
  have n3:(4*(k:Int)+3).toNat=4*k+3:=by omega
  have g0:b[4*k]?=some b[4*k]:=c6T (by omega)
  have g1:(b.set (4*k) x0)[4*k+1]?=some _:=c6T (by simp;omega)
  have g2:((b.set (4*k) x0).set (4*k+1) x1)[4*k+2]?=some _:=c6T (by simp;omega)
  have g3:(((b.set (4*k) x0).set (4*k+1) x1).set (4*k+2) x2)[4*k+3]?=some _:=c6T (by simp;omega)
  (repeat first|refine uA ?_|(apply uK;focus omega)|simp only [go_sem,Nat.reduceBEq,Nat.reduceAdd,Nat.reduceLeDiff,Int.reducePow,D9,I6,hgl,c6V,wd,w1,w2,w3,w4,g1,g2,g3,a7P,F9,c7J,c7f]|simp (disch:=omega) only [ww,c6V,hk,n0,n1,n2,n3,g0,F9])
  refine S.next (x:=(i,b)) (i+1,_) ⟨hi',hst⟩ (by simp only;omega) (by (repeat first|refine uA ?_|(refine ⟨?_,?_⟩;focus first|rfl|trivial|(simp [slot];done))|rfl|trivial|simp))
 ·have hi':i=l.length:=by omega
  subst hi'
  have hend:=Nm.b5J hinv
  (repeat first|refine uA ?_|(apply uK;focus omega)|simp only [go_sem,Nat.reduceBEq,a0t,a6G,hend]|simp (disch:=omega) only [ww,a0t,a6G,hend]|(apply uB (a0p b (by omega));exact rfl))
  exact S.done (j3.out rfl (Imp.refl rfl) rfl)
theorem a3J (n:Nat):IntKind.u32.wrap (n:Int)=((n % 4294967296:Nat):Int):=b4H n
theorem a1Y (n:Nat):Int.fdiv (n:Int) 4294967296=((n / 4294967296:Nat):Int):=a2w n 4294967296
theorem f_add (a b:List UInt8) (ha:a.length<=549755813888) (hb:b.length<=549755813888):y9 Tryz.prog 116 [sb a,sb b] (sb (Nm.enc (Nm.val a+Nm.val b))):=by
 refine kS Tryz.func116 (by cbv) (by rfl) fun w O=>?_
 simp only [j5,TT,II,OA,OB,OC,MM,VV,MG,sb]
 have hta:=Nm.Y4 a
 have htb:=Nm.Y4 b
 have hva:=Nm.R6 a
 have hvb:=Nm.R6 b
 have hla:=Nm.X5 (Nm.trim a)
 have hlb:=Nm.X5 (Nm.trim b)
 have hwa:=Nm.a0n (Nm.trim a)
 have hwb:=Nm.a0n (Nm.trim b)
 have h3a:=Nm.a0m (Nm.trim a)
 have h3b:=Nm.a0m (Nm.trim b)
 have fta:=a0p a (by omega)
 have ftb:=a0p b (by omega)
 rw [Nm.a7V] at hla hlb
 generalize Nm.trim a=x at *
 generalize Nm.trim b=y at *
 (repeat first|refine uA ?_|(apply uK;focus omega)|simp (disch:=omega) only [go_sem,Nat.reduceBEq,Nat.reduceAdd,F4]|(apply uB fta;exact rfl)|(apply uB ftb;exact rfl))
 (refine uJ rfl (fun hc=>?_) fun hc=>?_)
 ·obtain ⟨h1,h2⟩:=hc
  have hx:=Nm.a0q (l:=x) (k:=7) (by omega)
  have hy:=Nm.a0q (l:=y) (k:=7) (by omega)
  have e1:Nm.val x % 18446744073709551616=Nm.val x:=Nat.mod_eq_of_lt (by omega)
  have e2:Nm.val y % 18446744073709551616=Nm.val y:=Nat.mod_eq_of_lt (by omega)
  have fx:=a1I x (by omega)
  have fy:=a1I y (by omega)
  rw [e1] at fx
  rw [e2] at fy
  have hf:=a0x (Nm.val x+Nm.val y) (by omega)
  rw [<- hva,<- hvb]
  (repeat first|refine uA ?_|(apply uK;focus omega)|simp (disch:=omega) only [go_sem,Nat.reduceBEq,ww]|(apply uB fx;exact rfl)|(apply uB fy;exact rfl)|(apply uB hf;exact rfl))
  exact S.done (j3.out rfl (Imp.refl rfl) rfl)
 ·have hwx:=(a2E x (by omega)).spec
  have hwy:=(a2E y (by omega)).spec
  rw [<- hva,<- hvb,<- hwa,<- hwb]
  generalize Nm.J9 x=p at *
  generalize Nm.J9 y=q at *
  (repeat first|refine uA ?_|(apply uK;focus omega)|simp (disch:=omega) only [go_sem,Nat.reduceBEq,D9]|(apply uB hwx;exact rfl)|(apply uB hwy;exact rfl))
  have hpl:p.length<=137438953472:=by omega
  have hql:q.length<=137438953472:=by omega
  have key:∀ (x y out:List Nat) (i c:Nat),Nm.a4e x y i out c->i < x.length->(∀ w ∈ x,w < 4294967296)->(∀ w ∈ y,w < 4294967296)->∀ s,s=c+x.getD i 0+y.getD i 0->Nm.a4e x y (i+1) (out.set i (s % 4294967296)) (s / 4294967296):=fun x y out i c h hi hx hy s hs=>by
   rw [Nm.getD_lt hi] at hs
   refine Nm.b6b h hi (hx _ (c7k hi)) ?_ hs
   rcases c7p i y.length with h1|h1
   ·rw [Nm.getD_lt h1];exact hy _ (c7k h1)
   ·rw [c7g,c7v h1];decide
  refine S.cond rfl (fun hc=>?_) (fun hc=>?_)
  all_goals simp only [c7h,c7u] at hc
  all_goals clear hwx hwy fta ftb
  ·rw [Nat.add_comm]
   generalize hP:q=P at *
   generalize hQ:p=Q at *
   have hle:Q.length<=P.length:=by omega
   have hPl:P.length<=137438953472:=by omega
   have hP3:∀ w ∈ P,w < 4294967296:=h3b
   have hQ3:∀ w ∈ Q,w < 4294967296:=h3a
   clear hP hQ hwa hwb hc
   (repeat first|refine uA ?_|(apply uK;focus omega)|simp (disch:=omega) only [go_sem,Nat.reduceBEq,ww,D9])
   have hn1:((P.length:Int)+1).toNat=P.length+1:=by omega
   refine S.loop (X:=Nat × List Nat × Nat) (fun x=>⟨[(5,.sl 1 (ws P)),(6,.sl 1 (ws Q)),(7,.rv 0),(8,.v (.int .u64 (x.2.2:Int))),(44,.sl 1 (ws P)),(45,ints P.length),(46,ints x.1)],[.row 222 1 (ws x.2.1)]⟩) (fun x=>x.1<=P.length/\Nm.a4e P Q x.1 x.2.1 x.2.2) (fun x=>P.length-x.1) (0,List.replicate (P.length+1) 0,0) ⟨c6Z _,Nm.a9l P Q⟩ (by simp only [<- a3i];rw [hn1];exact (by (repeat first|refine uA ?_|(refine ⟨?_,?_⟩;focus first|rfl|trivial|(simp [slot];done))|rfl|trivial|simp))) ?_
   rintro ⟨i,out,c⟩ ⟨hi,hinv⟩
   simp only [ints] at hi hinv ⊢
   have hol:=hinv.1
   have hc1:=hinv.2.2.1
   (repeat first|refine uA ?_|(apply uK;focus omega)|simp (disch:=omega) only [go_sem,Nat.reduceBEq])
   (refine uJ rfl (fun hc=>?_) fun hc=>?_)
   ·have hi':i < P.length:=by omega
    have hgp:P[i]?=some P[i]:=c6T hi'
    have hp32:=hP3 _ (c7k hi')
    have hk:=key P Q out i c hinv hi' hP3 hQ3
    rw [Nm.getD_lt hi'] at hk
    have hgo:out[i]?=some out[i]:=c6T (by omega)
    generalize P[i]=pi at *
    (repeat first|refine uA ?_|(apply uK;focus omega)|simp (disch:=omega) only [go_sem,Nat.reduceBEq,ww,D9,I6,hgp,c6V,wd])
    (refine uJ rfl (fun hc=>?_) fun hc=>?_)
    ·have hi2:i < Q.length:=by omega
     have hgq:Q[i]?=some Q[i]:=c6T hi2
     have hq32:=hQ3 _ (c7k hi2)
     rw [Nm.getD_lt hi2] at hk
     generalize Q[i]=qi at *
     obtain ⟨s,hs⟩:∃ s:Nat,s=c+pi+qi:=⟨_,rfl⟩
     have hs':(c:Int)+(pi:Int)+(qi:Int)=(s:Int):=by omega
     have hk:=hk s hs
     (repeat first|refine uA ?_|(apply uK;focus omega)|simp (disch:=omega) only [go_sem,Nat.reduceBEq,Nat.reduceAdd,Nat.reduceLeDiff,Int.reducePow,ww,D9,I6,hgq,hgo,c6V,wd,hs',a3J,a1Y,O3])
     refine S.next (x:=(i,out,c)) (i+1,_,_) ⟨hi',hk⟩ (by simp only;omega) (by (repeat first|refine uA ?_|(refine ⟨?_,?_⟩;focus first|rfl|trivial|(simp [slot];done))|rfl|trivial|simp))
    ·have hq0:Q.getD i 0=0:=by rw [c7g,c7v (by omega)];rfl
     rw [hq0,Nat.add_zero] at hk
     obtain ⟨s,hs⟩:∃ s:Nat,s=c+pi:=⟨_,rfl⟩
     have hs':(c:Int)+(pi:Int)=(s:Int):=by omega
     have hk:=hk s hs
     (repeat first|refine uA ?_|(apply uK;focus omega)|simp (disch:=omega) only [go_sem,Nat.reduceBEq,Nat.reduceAdd,Nat.reduceLeDiff,Int.reducePow,ww,D9,I6,hgo,c6V,wd,hs',a3J,a1Y,O3])
     refine S.next (x:=(i,out,c)) (i+1,_,_) ⟨hi',hk⟩ (by simp only;omega) (by (repeat first|refine uA ?_|(refine ⟨?_,?_⟩;focus first|rfl|trivial|(simp [slot];done))|rfl|trivial|simp))
   ·have hi':i=P.length:=by omega
    subst hi'
    obtain ⟨he,h32⟩:=Nm.b0Z hinv hle
    have hgo:out[P.length]?=some out[P.length]:=c6T (by omega)
    rw [<- he]
    have ht:=a4R (out.set P.length c) (by rw [c7J];omega) h32
    (repeat first|refine uA ?_|(apply uK;focus omega)|simp (disch:=omega) only [go_sem,Nat.reduceBEq,ww,D9,I6,hgo,c6V,wd,O3]|(apply uC ht;exact rfl;focus (repeat' first|exact j4.nil|exact Imp.refl rfl|exact Imp.frz rfl rfl rfl|(refine Imp.U3 rfl rfl ?_ ?_;(focus ((try simp only [c7e,D9,I6,hgo,c6V,wd,O3]);omega));(focus first|rfl|assumption))|refine j4.cons ?_ ?_);done))
    exact S.done (j3.out rfl (Imp.refl rfl) rfl)
  ·generalize hP:p=P at *
   generalize hQ:q=Q at *
   have hle:Q.length<=P.length:=by omega
   have hPl:P.length<=137438953472:=by omega
   have hP3:∀ w ∈ P,w < 4294967296:=h3a
   have hQ3:∀ w ∈ Q,w < 4294967296:=h3b
   clear hP hQ hwa hwb hc
   (repeat first|refine uA ?_|(apply uK;focus omega)|simp (disch:=omega) only [go_sem,Nat.reduceBEq,ww,D9])
   have hn1:((P.length:Int)+1).toNat=P.length+1:=by omega
   refine S.loop (X:=Nat × List Nat × Nat) (fun x=>⟨[(5,.sl 1 (ws P)),(6,.sl 1 (ws Q)),(7,.rv 0),(8,.v (.int .u64 (x.2.2:Int))),(44,.sl 1 (ws P)),(45,ints P.length),(46,ints x.1)],[.row 222 1 (ws x.2.1)]⟩) (fun x=>x.1<=P.length/\Nm.a4e P Q x.1 x.2.1 x.2.2) (fun x=>P.length-x.1) (0,List.replicate (P.length+1) 0,0) ⟨c6Z _,Nm.a9l P Q⟩ (by simp only [<- a3i];rw [hn1];exact (by (repeat first|refine uA ?_|(refine ⟨?_,?_⟩;focus first|rfl|trivial|(simp [slot];done))|rfl|trivial|simp))) ?_
   rintro ⟨i,out,c⟩ ⟨hi,hinv⟩
   simp only [ints] at hi hinv ⊢
   have hol:=hinv.1
   have hc1:=hinv.2.2.1
   (repeat first|refine uA ?_|(apply uK;focus omega)|simp (disch:=omega) only [go_sem,Nat.reduceBEq])
   (refine uJ rfl (fun hc=>?_) fun hc=>?_)
   ·have hi':i < P.length:=by omega
    have hgp:P[i]?=some P[i]:=c6T hi'
    have hp32:=hP3 _ (c7k hi')
    have hk:=key P Q out i c hinv hi' hP3 hQ3
    rw [Nm.getD_lt hi'] at hk
    have hgo:out[i]?=some out[i]:=c6T (by omega)
    generalize P[i]=pi at *
    (repeat first|refine uA ?_|(apply uK;focus omega)|simp (disch:=omega) only [go_sem,Nat.reduceBEq,ww,D9,I6,hgp,c6V,wd])
    (refine uJ rfl (fun hc=>?_) fun hc=>?_)
    ·have hi2:i < Q.length:=by omega
     have hgq:Q[i]?=some Q[i]:=c6T hi2
     have hq32:=hQ3 _ (c7k hi2)
     rw [Nm.getD_lt hi2] at hk
     generalize Q[i]=qi at *
     obtain ⟨s,hs⟩:∃ s:Nat,s=c+pi+qi:=⟨_,rfl⟩
     have hs':(c:Int)+(pi:Int)+(qi:Int)=(s:Int):=by omega
     have hk:=hk s hs
     (repeat first|refine uA ?_|(apply uK;focus omega)|simp (disch:=omega) only [go_sem,Nat.reduceBEq,Nat.reduceAdd,Nat.reduceLeDiff,Int.reducePow,ww,D9,I6,hgq,hgo,c6V,wd,hs',a3J,a1Y,O3])
     refine S.next (x:=(i,out,c)) (i+1,_,_) ⟨hi',hk⟩ (by simp only;omega) (by (repeat first|refine uA ?_|(refine ⟨?_,?_⟩;focus first|rfl|trivial|(simp [slot];done))|rfl|trivial|simp))
    ·have hq0:Q.getD i 0=0:=by rw [c7g,c7v (by omega)];rfl
     rw [hq0,Nat.add_zero] at hk
     obtain ⟨s,hs⟩:∃ s:Nat,s=c+pi:=⟨_,rfl⟩
     have hs':(c:Int)+(pi:Int)=(s:Int):=by omega
     have hk:=hk s hs
     (repeat first|refine uA ?_|(apply uK;focus omega)|simp (disch:=omega) only [go_sem,Nat.reduceBEq,Nat.reduceAdd,Nat.reduceLeDiff,Int.reducePow,ww,D9,I6,hgo,c6V,wd,hs',a3J,a1Y,O3])
     refine S.next (x:=(i,out,c)) (i+1,_,_) ⟨hi',hk⟩ (by simp only;omega) (by (repeat first|refine uA ?_|(refine ⟨?_,?_⟩;focus first|rfl|trivial|(simp [slot];done))|rfl|trivial|simp))
   ·have hi':i=P.length:=by omega
    subst hi'
    obtain ⟨he,h32⟩:=Nm.b0Z hinv hle
    have hgo:out[P.length]?=some out[P.length]:=c6T (by omega)
    rw [<- he]
    have ht:=a4R (out.set P.length c) (by rw [c7J];omega) h32
    (repeat first|refine uA ?_|(apply uK;focus omega)|simp (disch:=omega) only [go_sem,Nat.reduceBEq,ww,D9,I6,hgo,c6V,wd,O3]|(apply uC ht;exact rfl;focus (repeat' first|exact j4.nil|exact Imp.refl rfl|exact Imp.frz rfl rfl rfl|(refine Imp.U3 rfl rfl ?_ ?_;(focus ((try simp only [c7e,D9,I6,hgo,c6V,wd,O3]);omega));(focus first|rfl|assumption))|refine j4.cons ?_ ?_);done))
    exact S.done (j3.out rfl (Imp.refl rfl) rfl)
theorem a9s (p q c:Nat) (hp:p < 4294967296) (hq:q < 4294967296) (hc:c<=1):∃ t c':Nat,IntKind.u32.wrap (IntKind.u64.wrap (IntKind.u64.wrap ((p:Int)-(c:Int))-(q:Int)))=(t:Int)/\Int.fdiv (IntKind.u64.wrap (IntKind.u64.wrap ((p:Int)-(c:Int))-(q:Int))) 9223372036854775808=(c':Int)/\t < 4294967296/\c'<=1/\t+c+q=p+4294967296*c':=by
 have h1:∀ n:Int,IntKind.u64.wrap n=n % 18446744073709551616:=fun n=>by simp [IntKind.wrap,IntKind.signed,IntKind.bits]
 have h2:∀ n:Int,IntKind.u32.wrap n=n % 4294967296:=fun n=>by simp [IntKind.wrap,IntKind.signed,IntKind.bits]
 rw [h1,h1,h2]
 by_cases h:c+q<=p
 ·refine ⟨p-c-q,0,by omega,?_,by omega,by omega,by omega⟩
  rw [show (((p:Int)-(c:Int)) % 18446744073709551616-(q:Int)) % 18446744073709551616=((p-c-q:Nat):Int) by omega]
  have:=a2w (p-c-q) 9223372036854775808
  rw [show ((9223372036854775808:Nat):Int)=9223372036854775808 from rfl] at this
  rw [this,Nat.div_eq_of_lt (by omega)]
 ·refine ⟨p+4294967296-c-q,1,by omega,?_,by omega,by omega,by omega⟩
  rw [show (((p:Int)-(c:Int)) % 18446744073709551616-(q:Int)) % 18446744073709551616=((p+18446744073709551616-c-q:Nat):Int) by omega]
  have:=a2w (p+18446744073709551616-c-q) 9223372036854775808
  rw [show ((9223372036854775808:Nat):Int)=9223372036854775808 from rfl] at this
  rw [this]
  congr 1
  omega
theorem b8N (p c:Nat) (hp:p < 4294967296) (hc:c<=1):∃ t c':Nat,IntKind.u32.wrap (IntKind.u64.wrap ((p:Int)-(c:Int)))=(t:Int)/\Int.fdiv (IntKind.u64.wrap ((p:Int)-(c:Int))) 9223372036854775808=(c':Int)/\t < 4294967296/\c'<=1/\t+c+0=p+4294967296*c':=by
 obtain ⟨t,c',h1,h2,h3⟩:=a9s p 0 c hp (by omega) hc
 have e:IntKind.u64.wrap (IntKind.u64.wrap ((p:Int)-(c:Int))-((0:Nat):Int))=IntKind.u64.wrap ((p:Int)-(c:Int)):=by
  have h1:∀ n:Int,IntKind.u64.wrap n=n % 18446744073709551616:=fun n=>by simp [IntKind.wrap,IntKind.signed,IntKind.bits]
  rw [h1,h1];omega
 rw [e] at h1 h2
 exact ⟨t,c',h1,h2,h3⟩
theorem c5M {E:Ctx} (hP:E.P=Tryz.prog) (xs ys:List Nat) (hl:xs.length<=274877906944) (hyl:ys.length<=xs.length) (hx:Nm.G5 xs) (hy:Nm.G5 ys) (hle:Nm.wv 4294967296 ys<=Nm.wv 4294967296 xs) :
  j6 E [.row 222 1 (ws xs)] 175 [.rv 0,.sl 1 (ws ys)] (.tup []) [.row 222 1 (ws (Nm.dig 4294967296 xs.length (Nm.wv 4294967296 xs-Nm.wv 4294967296 ys)))] []:=by
 obtain ⟨P,eff',N,w0,own0,av0,nu0,pk0⟩:=E
 simp only at hP
 subst hP
 refine j6.of (eff:=eff) Tryz.func175 (by cbv) (by exact c7j rfl) fun w own av ν hν=>?_
 simp only [j5,TT,II,OA,OB,MM,VV]
 have hν0:ν.length<=1:=by rw [hν];exact c7b _
 (repeat first|refine uA ?_|(apply uK;focus omega)|simp (disch:=omega) only [go_sem,Nat.reduceBEq,D9])
 refine S.loop (X:=Nat × List Nat × Nat) (fun x=>⟨[(0,.rv 0),(1,.sl 1 (ws ys)),(4,.v (.int .u64 (x.2.2:Int))),(8,.rv 0),(9,ints xs.length),(10,ints x.1)],[.row 222 1 (ws x.2.1)]⟩) (fun x=>x.1<=xs.length/\Nm.a8q xs ys x.1 x.2.1 x.2.2) (fun x=>xs.length-x.1) (0,xs,0) ⟨c6Z _,Nm.b5U ys hx⟩ (Ent.mk _ _ (by (repeat first|refine uA ?_|(refine ⟨?_,?_⟩;focus first|rfl|trivial|(simp [slot];done))|rfl|trivial|simp)) (by (repeat first|refine uA ?_|(refine ⟨?_,?_⟩;focus first|rfl|trivial|(simp [slot];done))|rfl|trivial|simp)) hν0) ?_
 rintro ⟨i,out,c⟩ ⟨hi,hinv⟩
 simp only [ints] at hi hinv ⊢
 have hol:=hinv.1
 have hc1:=hinv.2.2.1
 (repeat first|refine uA ?_|(apply uK;focus omega)|simp (disch:=omega) only [go_sem,Nat.reduceBEq])
 (refine uJ rfl (fun hc=>?_) fun hc=>?_)
 ·have hi':i < xs.length:=by omega
  have hgp:xs[i]?=some xs[i]:=c6T hi'
  have hgo:out[i]?=some xs[i]:=by rw [Nm.a0v hinv.2.2.2.1,hgp]
  have hp32:=hx _ (c7k hi')
  have hk:=fun t c' h1 h2 h3=>Nm.b5L (t:=t) (c':=c') hinv hi' h1 h2 h3
  generalize xs[i]=pi at *
  (repeat first|refine uA ?_|(apply uK;focus omega)|simp (disch:=omega) only [go_sem,Nat.reduceBEq,ww,D9,I6,hgo,c6V,wd])
  (refine uJ rfl (fun hc=>?_) fun hc=>?_)
  ·have hi2:i < ys.length:=by omega
   have hgq:ys[i]?=some ys[i]:=c6T hi2
   have hq32:=hy _ (c7k hi2)
   rw [Nm.getD_lt hi2] at hk
   generalize ys[i]=qi at *
   obtain ⟨t,c',e1,e2,h1,h2,h3⟩:=a9s pi qi c hp32 hq32 hc1
   have hk:=hk t c' h1 h2 h3
   (repeat first|refine uA ?_|(apply uK;focus omega)|simp (disch:=omega) only [go_sem,Nat.reduceBEq,Nat.reduceAdd,Nat.reduceLeDiff,Int.reducePow,ww,D9,I6,hgq,hgo,c6V,wd,e1,e2,O3])
   refine S.next (x:=(i,out,c)) (i+1,_,_) ⟨hi',hk⟩ (by simp only;omega) (Ent.mk _ _ (by (repeat first|refine uA ?_|(refine ⟨?_,?_⟩;focus first|rfl|trivial|(simp [slot];done))|rfl|trivial|simp)) (by (repeat first|refine uA ?_|(refine ⟨?_,?_⟩;focus first|rfl|trivial|(simp [slot];done))|rfl|trivial|simp)) hν0)
  ·have hq0:ys.getD i 0=0:=by rw [c7g,c7v (by omega)];rfl
   rw [hq0] at hk
   obtain ⟨t,c',e1,e2,h1,h2,h3⟩:=b8N pi c hp32 hc1
   have hk:=hk t c' h1 h2 h3
   (repeat first|refine uA ?_|(apply uK;focus omega)|simp (disch:=omega) only [go_sem,Nat.reduceBEq,Nat.reduceAdd,Nat.reduceLeDiff,Int.reducePow,ww,D9,I6,hgo,c6V,wd,e1,e2,O3])
   refine S.next (x:=(i,out,c)) (i+1,_,_) ⟨hi',hk⟩ (by simp only;omega) (Ent.mk _ _ (by (repeat first|refine uA ?_|(refine ⟨?_,?_⟩;focus first|rfl|trivial|(simp [slot];done))|rfl|trivial|simp)) (by (repeat first|refine uA ?_|(refine ⟨?_,?_⟩;focus first|rfl|trivial|(simp [slot];done))|rfl|trivial|simp)) hν0)
 ·have hi':i=xs.length:=by omega
  subst hi'
  obtain ⟨he1,he2⟩:=Nm.b7w hinv hyl hle
  have hd:out=Nm.dig 4294967296 xs.length (Nm.wv 4294967296 xs-Nm.wv 4294967296 ys):=Nm.X9 (by decide) hinv.2.1 hol (by omega)
  rw [<- hd]
  (repeat first|refine uA ?_|(apply uK;focus omega)|simp (disch:=omega) only [go_sem,Nat.reduceBEq,ww])
  exact S.end_ (j3.own rfl)
end Go.Proofs.YtgpegbfnlkidjaaGreatDoor
namespace Go.Proofs
open Go.Shelf
def Tryz.b5X:Go.Shelf.Ren:=⟨fun|133=>201|128=>193|n=>n,fun|51=>222|3=>3|4=>4|46=>223|5=>5|9=>9|n=>n,fun|n=>n⟩
theorem Tryz.c2R:Go.Proofs.Lays.n133 Tryz.prog Tryz.b5X:={
 mixed:=by kernel_rfl
 f128:=Tryz.func193.trans (congrArg some (by kernel_rfl))
 f133:=Tryz.func201.trans (congrArg some (by kernel_rfl))
 t3:=Tryz.underlying3
 a3:=Tryz.isAgg3
 z3:=Tryz.sizeOf3
 v3:=Tryz.zeroValue3
 t4:=Tryz.underlying4
 a4:=Tryz.isAgg4
 z4:=Tryz.sizeOf4
 v4:=Tryz.zeroValue4
 t5:=Tryz.underlying5
 a5:=Tryz.isAgg5
 z5:=Tryz.sizeOf5
 v5:=Tryz.zeroValue5
 t9:=Tryz.underlying9
 a9:=Tryz.isAgg9
 z9:=Tryz.sizeOf9
 v9:=Tryz.zeroValue9
 t46:=Tryz.underlying223
 a46:=Tryz.isAgg223
 z46:=Tryz.sizeOf223
 v46:=Tryz.zeroValue223
 t51:=Tryz.underlying222
 a51:=Tryz.isAgg222
 z51:=Tryz.sizeOf222
 v51:=Tryz.zeroValue222 }
theorem Tryz.bits_LeadingZeros32 (x:Int) (w:World) (h0:0<=x) (h1:x<=4294967295) :
  Calls Tryz.prog 201 #[.int .u32 x] w fun e w'=>e=.returned (.int .i64 (32-(Lib.bitLen x.toNat:Int)))/\w'=w:=Any.bits_LeadingZeros32 Tryz.c2R x w h0 h1
def Tryz.b6f:Go.Shelf.Ren:=⟨fun|106=>150|213=>177|265=>205|n=>n,fun|9=>9|3=>3|n=>n,fun|n=>n⟩
theorem Tryz.c3b:Go.Proofs.Lays.n106 Tryz.prog Tryz.b6f:={
 mixed:=by kernel_rfl
 f106:=Tryz.func150.trans (congrArg some (by kernel_rfl))
 f213:=Tryz.func177.trans (congrArg some (by kernel_rfl))
 f265:=Tryz.func205.trans (congrArg some (by kernel_rfl))
 t3:=Tryz.underlying3
 a3:=Tryz.isAgg3
 z3:=Tryz.sizeOf3
 v3:=Tryz.zeroValue3
 t9:=Tryz.underlying9
 a9:=Tryz.isAgg9
 z9:=Tryz.sizeOf9
 v9:=Tryz.zeroValue9 }
open Go.RowKit in
theorem Tryz.strings_Compare (a b:ByteArray) (w:World) :
  Calls Tryz.prog 150 #[.string a,.string b] w fun e w'=>e=.returned (.int .i64 (Lib.compareBytes a.data.toList b.data.toList))/\w'=w:=Any.strings_Compare Tryz.c3b a b w
end Go.Proofs
namespace Go.Proofs.YtgpegbfnlkidjaaGreatDoor
open Go Go.RowKit Eng
set_option maxRecDepth 10000
set_option maxHeartbeats 1000000
theorem a8Y:∀ {a b:List UInt8},a.length=b.length->Lib.compareBytes a b=Nm.a0u (Nm.val a) (Nm.val b)
 | [],[],_=>rfl
 | [],_::_,h=>by cases h
 | _::_,[],h=>by cases h
 | x::a,y::b,h=>by
  simp only [c7m,Nat.add_right_cancel_iff] at h
  have ih:=a8Y h
  have ha:=Nm.Y7 a
  have hb:=Nm.Y7 b
  rw [h] at ha
  simp only [Lib.compareBytes,ih,Nm.a0u,Nm.Z9,h,UInt8.lt_iff_toNat_lt]
  rcases Nat.lt_trichotomy x.toNat y.toNat with hl|hl|hl
  ·have:=c7y (256 ^ b.length) hl
   rw [Nat.succ_mul] at this
   rw [if_pos hl,if_pos (by omega)]
  ·rw [if_neg (by omega),if_neg (by omega),hl]
   repeat' split
   all_goals omega
  ·have:=c7y (256 ^ b.length) hl
   rw [Nat.succ_mul] at this
   rw [if_neg (by omega),if_pos hl,if_neg (by omega),if_neg (by omega)]
theorem b9E (a b:List UInt8):y9 Tryz.prog 150 [sb a,sb b] (ints (Lib.compareBytes a b)):=by
 intro O w vs hO hA
 simp only [FzL,sb,Fz] at hA
 obtain ⟨y,ys,rfl,rfl,z,zs,rfl,rfl,rfl⟩:=hA
 refine (Tryz.strings_Compare (bs a) (bs b) w).mono ?_
 rintro e w' ⟨rfl,rfl⟩
 exact ⟨_,rfl,Below.refl _ _,by simp only [ints,Fz,a0i]⟩
theorem b1j (a b:List UInt8) (ha:a.length<=1099511627776) (hb:b.length<=1099511627776):y9 Tryz.prog 102 [sb a,sb b] (ints (Nm.a0u (Nm.val a) (Nm.val b))):=by
 refine kS Tryz.func102 (by cbv) (by rfl) fun w O=>?_
 simp only [j5,TT,II,OA,MM,sb,ints]
 have fta:=a0p a ha
 have ftb:=a0p b hb
 have hca:=Nm.X7 a
 have hcb:=Nm.X7 b
 rw [<- Nm.R6 a,<- Nm.R6 b]
 generalize Nm.trim a=x at *
 generalize Nm.trim b=y at *
 (repeat first|refine uA ?_|(apply uK;focus first|omega|(intros;simp_all<;>omega))|simp (disch:=omega) only [go_sem,Nat.reduceBEq,Nat.reduceAdd,F4]|(apply uB fta;exact rfl)|(apply uB ftb;exact rfl))
 (refine uJ rfl (fun hc=>?_) fun hc=>?_)
 ·have:=Nm.a2O hcb (a:=x) (by omega)
  have he:Nm.a0u (Nm.val x) (Nm.val y)=-1:=by unfold Nm.a0u;rw [if_pos this]
  rw [he]
  (repeat first|refine uA ?_|(apply uK;focus omega)|simp (disch:=omega) only [go_sem])
  exact S.done (j3.out rfl (Imp.refl rfl) rfl)
 (repeat first|refine uA ?_|(apply uK;focus omega)|simp (disch:=omega) only [go_sem,Nat.reduceBEq,F4])
 (refine uJ rfl (fun hc=>?_) fun hc=>?_)
 ·have:=Nm.a2O hca (a:=y) (by omega)
  have he:Nm.a0u (Nm.val x) (Nm.val y)=1:=by unfold Nm.a0u;rw [if_neg (by omega),if_neg (by omega)]
  rw [he]
  (repeat first|refine uA ?_|(apply uK;focus omega)|simp (disch:=omega) only [go_sem])
  exact S.done (j3.out rfl (Imp.refl rfl) rfl)
 ·have hl:x.length=y.length:=by omega
  have fc:=b9E x y
  rw [a8Y hl] at fc
  (repeat first|refine uA ?_|(apply uK;focus omega)|simp (disch:=omega) only [go_sem,Nat.reduceBEq]|(apply uB fc;exact rfl))
  exact S.done (j3.out rfl (Imp.refl rfl) rfl)
def H6 (a b:Nat):List UInt8:=if b<=a then Nm.enc (a-b) else []
def a5n (a b:Nat):Int:=if b<=a then 0 else 1
theorem b5p (a b:Nat):Nm.a0u a b < 0 <-> a < b:=by unfold Nm.a0u;repeat' split;all_goals omega
theorem c2N (a b:List UInt8) (ha:a.length<=549755813888) (hb:b.length<=549755813888):y9 Tryz.prog 143 [sb a,sb b] (.tup [sb (H6 (Nm.val a) (Nm.val b)),ints (a5n (Nm.val a) (Nm.val b))]):=by
  refine kS Tryz.func143 (by cbv) (by rfl) fun w O=>?_
  simp only [j5,TT,II,OA,MM,sb,ints]
  have hcn:=b5p (Nm.val a) (Nm.val b)
  (repeat first|refine uA ?_|(apply uK;focus first|omega|(intros;simp_all<;>omega))|simp (disch:=omega) only [go_sem,Nat.reduceBEq,Nat.reduceAdd]|(apply uB (b1j a b (by omega) (by omega));exact rfl))
  (refine uJ rfl (fun hc=>?_) fun hc=>?_)
  · have h1:=hcn.1 hc
    have e1:H6 (Nm.val a) (Nm.val b)=[]:=by unfold H6;rw [if_neg (by omega)]
    have e2:a5n (Nm.val a) (Nm.val b)=1:=by unfold a5n;rw [if_neg (by omega)]
    rw [e1,e2]
    (repeat first|refine uA ?_|(apply uK;focus omega)|simp (disch:=omega) only [go_sem])
    exact S.done (j3.out rfl (Imp.refl rfl) rfl)
  · have h1:Nm.val b<=Nm.val a:=by
      rcases c7p (Nm.val a) (Nm.val b) with h|h
      · exact absurd (hcn.2 h) hc
      · exact h
    have e1:H6 (Nm.val a) (Nm.val b)=Nm.enc (Nm.val a-Nm.val b):=by unfold H6;rw [if_pos h1]
    have e2:a5n (Nm.val a) (Nm.val b)=0:=by unfold a5n;rw [if_pos h1]
    rw [e1,e2]
    have hta:=Nm.Y4 a
    have htb:=Nm.Y4 b
    have hla:=Nm.X5 a
    have hlb:=Nm.X5 b
    have hwa:=Nm.a0n a
    have hwb:=Nm.a0n b
    have h3a:=Nm.a0m a
    have h3b:=Nm.a0m b
    have fwa:=a2E a (by omega)
    have fwb:=(a2E b (by omega)).spec
    have hle:(Nm.J9 b).length<=(Nm.J9 a).length:=by
      rcases c7p (Nm.J9 a).length (Nm.J9 b).length with h|h
      · exfalso
        have h2:=Nm.a8a b (fun e=>by rw [e] at h;simp at h)
        have h3:=Nm.M6 4294967296 h3a
        have h4:4294967296 ^ (Nm.J9 a).length<=4294967296 ^ ((Nm.J9 b).length-1):=c7z (by decide) (by omega)
        omega
      · exact h
    have h1w:Nm.wv 4294967296 (Nm.J9 b)<=Nm.wv 4294967296 (Nm.J9 a):=by rw [hwa,hwb];exact h1
    rw [<- hwa,<- hwb]
    clear hwa hwb h1 hc hcn e1 e2
    generalize Nm.J9 a=p at *
    generalize Nm.J9 b=q at *
    have hd1:Nm.wv 4294967296 (Nm.dig 4294967296 p.length (Nm.wv 4294967296 p-Nm.wv 4294967296 q))=Nm.wv 4294967296 p-Nm.wv 4294967296 q:=by
      refine Nm.X8 ?_
      have:=Nm.M6 4294967296 h3a
      omega
    have ft:=a4R (Nm.dig 4294967296 p.length (Nm.wv 4294967296 p-Nm.wv 4294967296 q)) (by rw [Nm.K3];omega) (Nm.a1b (by decide) _ _)
    rw [hd1] at ft
    (repeat first|refine uA ?_|(apply uK;focus omega)|simp (disch:=omega) only [go_sem,Nat.reduceBEq]|refine l8.t (FNew.t fwa rfl) ?_|refine l8.t (c5M rfl p q (by omega) hle h3a h3b h1w) ?_|(apply uB fwb;exact rfl)|(apply uC ft;exact rfl;focus (repeat' first|exact j4.nil|exact Imp.refl rfl|exact Imp.frz rfl rfl rfl|(refine Imp.U3 rfl rfl ?_ ?_;(focus ((try simp only [c7e]);omega));(focus first|rfl|assumption))|refine j4.cons ?_ ?_);done))
    exact S.done (j3.out rfl (Imp.refl rfl) rfl)
theorem a3F (a b:List UInt8) (ha:a.length<=274877906944) (hb:b.length<=274877906944):y9 Tryz.prog 101 [sb a,sb b] (sb (Nm.enc (Nm.val a*Nm.val b))):=by
 refine kS Tryz.func101 (by cbv) (by rfl) fun w O=>?_
 simp only [j5,TT,II,OA,OB,MM,VV,sb]
 have hta:=Nm.Y4 a
 have htb:=Nm.Y4 b
 have hva:=Nm.R6 a
 have hvb:=Nm.R6 b
 have hla:=Nm.X5 (Nm.trim a)
 have hlb:=Nm.X5 (Nm.trim b)
 have hwa:=Nm.a0n (Nm.trim a)
 have hwb:=Nm.a0n (Nm.trim b)
 have h3a:=Nm.a0m (Nm.trim a)
 have h3b:=Nm.a0m (Nm.trim b)
 have fta:=a0p a (by omega)
 have ftb:=a0p b (by omega)
 rw [Nm.a7V] at hla hlb
 rw [<- hva,<- hvb]
 clear hva hvb
 generalize Nm.trim a=x at *
 generalize Nm.trim b=y at *
 (repeat first|refine uA ?_|(apply uK;focus omega)|simp (disch:=omega) only [go_sem,Nat.reduceBEq,Nat.reduceAdd,ww,F4]|(apply uB fta;exact rfl)|(apply uB ftb;exact rfl))
 (refine uJ rfl (fun hc=>?_) fun hc=>?_)
 ·have hx:=Nm.Y7 x
  have hy:=Nm.Y7 y
  have hp:Nm.val x*Nm.val y < 18446744073709551616:=by
   refine c7x (Nat.mul_lt_mul'' hx hy) ?_
   rw [<- Nat.pow_add,show 18446744073709551616=256 ^ 8 by decide]
   exact c7z (by decide) (by omega)
  have fx:=a1I x (by omega)
  have fy:=a1I y (by omega)
  have hx7:=Nm.a0q (l:=x) (k:=8) (by omega)
  have hy7:=Nm.a0q (l:=y) (k:=8) (by omega)
  have e1:Nm.val x % 18446744073709551616=Nm.val x:=Nat.mod_eq_of_lt (by omega)
  have e2:Nm.val y % 18446744073709551616=Nm.val y:=Nat.mod_eq_of_lt (by omega)
  rw [e1] at fx
  rw [e2] at fy
  have hf:=a0x (Nm.val x*Nm.val y) hp
  have hm:IntKind.u64.wrap ((Nm.val x:Int)*(Nm.val y:Int))=((Nm.val x*Nm.val y:Nat):Int):=by
   rw [Eng.wrap_u64]
   ·simp
   ·rw [<- Int.natCast_mul];omega
  (repeat first|refine uA ?_|(apply uK;focus omega)|simp (disch:=omega) only [go_sem,Nat.reduceBEq,hm]|(apply uB fx;exact rfl)|(apply uB fy;exact rfl)|(apply uB hf;exact rfl))
  exact S.done (j3.out rfl (Imp.refl rfl) rfl)
 ·have hwx:=(a2E x (by omega)).spec
  have hwy:=(a2E y (by omega)).spec
  rw [<- hwa,<- hwb]
  clear hwa hwb fta ftb hc
  generalize Nm.J9 x=p at *
  generalize Nm.J9 y=q at *
  have hpl:p.length<=68719476737:=by omega
  have hql:q.length<=68719476737:=by omega
  (repeat first|refine uA ?_|(apply uK;focus omega)|simp (disch:=omega) only [go_sem,Nat.reduceBEq,ww,D9]|(apply uB hwx;exact rfl)|(apply uB hwy;exact rfl))
  have hn1:((p.length:Int)+(q.length:Int)).toNat=p.length+q.length:=by omega
  clear hwx hwy
  refine S.loop (X:=Nat × List Nat) (fun x=>⟨[(5,.sl 1 (ws p)),(6,.sl 1 (ws q)),(7,.rv 0),(39,.sl 1 (ws p)),(40,ints p.length),(41,ints x.1)],[.row 222 1 (ws x.2)]⟩) (fun x=>x.1<=p.length/\Nm.a7S p q x.1 x.2) (fun x=>p.length-x.1) (0,List.replicate (p.length+q.length) 0) ⟨c6Z _,Nm.b5H p q⟩ (by simp only [<- a3i];rw [hn1];exact (by (repeat first|refine uA ?_|(refine ⟨?_,?_⟩;focus first|rfl|trivial|(simp [slot];done))|rfl|trivial|simp))) ?_
  rintro ⟨i,out0⟩ ⟨hi,hinv⟩
  simp only [ints] at hi hinv ⊢
  have hol:=hinv.1
  (repeat first|refine uA ?_|(apply uK;focus omega)|simp (disch:=omega) only [go_sem,Nat.reduceBEq])
  (refine uJ rfl (fun hc=>?_) fun hc=>?_)
  ·have hi':i < p.length:=by omega
   have hgp:p[i]?=some p[i]:=c6T hi'
   have hp32:=h3a _ (c7k hi')
   (repeat first|refine uA ?_|(apply uK;focus omega)|simp (disch:=omega) only [go_sem,Nat.reduceBEq,D9,I6,hgp,c6V,wd])
   refine S.loop (X:=Nat × List Nat × Nat) (fun x=>⟨[(5,.sl 1 (ws p)),(6,.sl 1 (ws q)),(7,.rv 0),(39,.sl 1 (ws p)),(40,ints p.length),(41,ints i),(8,ints i),(9,.v (.int .u32 (p[i]:Int))),(10,.v (.int .u64 (x.2.2:Int))),(46,.sl 1 (ws q)),(47,ints q.length),(48,ints x.1)],[.row 222 1 (ws x.2.1)]⟩) (fun x=>x.1<=q.length/\Nm.b0A p q i x.1 x.2.1 x.2.2) (fun x=>q.length-x.1) (0,out0,0) ⟨c6Z _,Nm.b8c hinv⟩ (by (repeat first|refine uA ?_|(refine ⟨?_,?_⟩;focus first|rfl|trivial|(simp [slot];done))|rfl|trivial|simp)) ?_
   clear hinv hol
   rintro ⟨k,out,c⟩ ⟨hk,hinv⟩
   simp only [ints] at hk hinv ⊢
   have hol:=hinv.1
   have hc1:=hinv.2.2.1
   (repeat first|refine uA ?_|(apply uK;focus omega)|simp (disch:=omega) only [go_sem,Nat.reduceBEq])
   (refine uJ rfl (fun hc=>?_) fun hc=>?_)
   ·have hk':k < q.length:=by omega
    have hgq:q[k]?=some q[k]:=c6T hk'
    have hq32:=h3b _ (c7k hk')
    have hgo:out[i+k]?=some (out[i+k]'(by omega)):=c6T (by omega)
    have ho32:=hinv.2.1 _ (c7k (show i+k < out.length by omega))
    obtain ⟨hs,hsb⟩:=Nm.b7R hinv hi' hk' hp32 hq32 (by omega) rfl
    generalize hP:p[i]=pi at *
    generalize q[k]=qk at *
    generalize hO:out[i+k]'(by omega)=o at *
    obtain ⟨m,hm⟩:∃ m:Nat,m=pi*qk:=⟨_,rfl⟩
    have hm':(pi:Int)*(qk:Int)=(m:Int):=by rw [hm];simp
    rw [<- hm] at hs hsb
    have hs':(c:Int)+((m:Int)+(o:Int))=((c+m+o:Nat):Int):=by omega
    have hik:((i:Int)+(k:Int)).toNat=i+k:=by omega
    (repeat first|refine uA ?_|(apply uK;focus omega)|simp (disch:=omega) only [go_sem,Nat.reduceBEq,Nat.reduceAdd,Nat.reduceLeDiff,Int.reducePow,ww,D9,I6,hgq,hgo,c6V,wd,hm',hs',hik,a3J,a1Y,O3])
    refine S.next (x:=(k,out,c)) (k+1,_,_) ⟨hk',hs⟩ (by simp only;omega) (by (repeat first|refine uA ?_|(refine ⟨?_,?_⟩;focus first|rfl|trivial|(simp [slot];done))|rfl|trivial|simp))
   ·have hk':k=q.length:=by omega
    subst hk'
    have he:=Nm.b9z hinv hi'
    have hik:((i:Int)+(q.length:Int)).toNat=i+q.length:=by omega
    have hgo:out[i+q.length]?=some (out[i+q.length]'(by omega)):=c6T (by omega)
    (repeat first|refine uA ?_|(apply uK;focus omega)|simp (disch:=omega) only [go_sem,Nat.reduceBEq,ww,D9,I6,hgo,c6V,wd,hik,O3])
    refine S.next (x:=(i,out0)) (i+1,_) ⟨hi',he⟩ (by simp only;omega) (by (repeat first|refine uA ?_|(refine ⟨?_,?_⟩;focus first|rfl|trivial|(simp [slot];done))|rfl|trivial|simp))
  ·have hi':i=p.length:=by omega
   subst hi'
   have he:=Nm.b7F hinv
   rw [<- he]
   have ht:=a4R out0 (by omega) hinv.2.1
   (repeat first|refine uA ?_|(apply uK;focus omega)|simp (disch:=omega) only [go_sem,Nat.reduceBEq]|(apply uC ht;exact rfl;focus (repeat' first|exact j4.nil|exact Imp.refl rfl|exact Imp.frz rfl rfl rfl|(refine Imp.U3 rfl rfl ?_ ?_;(focus ((try simp only [c7e]);omega));(focus first|rfl|assumption))|refine j4.cons ?_ ?_);done))
   exact S.done (j3.out rfl (Imp.refl rfl) rfl)
theorem b7d (x r:Nat) (h:x*2 ^ r < 18446744073709551616) (hr:r < 64):IntKind.u64.wrap ((x:Int)*2 ^ min r 64)=((x*2 ^ r:Nat):Int):=by
 rw [show min r 64=r by omega,Eng.wrap_u64]
 ·simp
 ·have e:(x:Int)*2 ^ r=((x*2 ^ r:Nat):Int):=by simp
  rw [e];omega
theorem c0g (o n:Nat) (ho:o < 4294967296):bits .or .u32 (o:Int) (((n % 4294967296:Nat)):Int)=((o ||| n % 4294967296:Nat):Int):=c0v _ _ ho (Nat.mod_lt _ (by decide))
theorem c0C (x:List Nat) (r:Nat) (hl:x.length<=274877906940) (hx:Nm.G5 x) (hr:r < 32):FNew Tryz.prog 202 [.sl 1 (ws x),ints r] 222 1 (ws (Nm.dig 4294967296 (x.length+1) (Nm.wv 4294967296 x*2 ^ r))):=by
 refine FNew.of (eff:=eff) Tryz.func202 (by cbv) (by exact c7j rfl) fun w O=>?_
 simp only [j5,TT,II,OA,OB,MM,VV,ints]
 (repeat first|refine uA ?_|(apply uK;focus omega)|simp only [go_sem,Nat.reduceBEq,Nat.reduceAdd,D9]|simp (disch:=omega) only [ww])
 have hn1:((x.length:Int)+1).toNat=x.length+1:=by omega
 refine S.loop (X:=Nat × List Nat) (fun s=>⟨[(0,.sl 1 (ws x)),(1,ints r),(5,.rv 0),(13,.sl 1 (ws x)),(14,ints x.length),(15,ints s.1)],[.row 222 1 (ws s.2)]⟩) (fun s=>s.1<=x.length/\Nm.leftInv x (2 ^ r) s.1 s.2) (fun s=>x.length-s.1) (0,List.replicate (x.length+1) 0) ⟨c6Z _,Nm.b4B x (Nat.pow_pos (by decide))⟩ (by simp only [<- a3i];rw [hn1];exact (by (repeat first|refine uA ?_|(refine ⟨?_,?_⟩;focus first|rfl|trivial|(simp [slot];done))|rfl|trivial|simp))) ?_
 rintro ⟨i,out⟩ ⟨hi,hinv⟩
 simp only [ints] at hi hinv ⊢
 have hol:=hinv.1
 (repeat first|refine uA ?_|(apply uK;focus omega)|simp (disch:=omega) only [go_sem,Nat.reduceBEq])
 (refine uJ rfl (fun hc=>?_) fun hc=>?_)
 ·have hi':i < x.length:=by omega
  have hgp:x[i]?=some x[i]:=c6T hi'
  have hgo:out[i]?=some (out[i]'(by omega)):=c6T (by omega)
  have hg1:out[i+1]?=some (out[i+1]'(by omega)):=c6T (by omega)
  have ho32:=hinv.2.1 _ (c7k (show i < out.length by omega))
  obtain ⟨hs,hm,h1,h2⟩:=Nm.b4i hinv hr hi' (hx _ (c7k hi')) (by omega)
  have hx32:=hx _ (c7k hi')
  generalize x[i]=xi at *
  generalize out[i]'(by omega)=o at *
  generalize out[i+1]'(by omega)=o1 at *
  have hv:=b7d xi r hm (by omega)
  generalize xi*2 ^ r=n at *
  have hol2:=c0g o n ho32
  have hgs:(out.set i (o ||| n % 4294967296))[i+1]?=some o1:=by rw [List.getElem?_set_ne (by omega)];exact hg1
  have hi1:((i:Int)+1).toNat=i+1:=by omega
  (repeat first|refine uA ?_|(apply uK;focus omega)|simp only [go_sem,Nat.reduceBEq,Nat.reduceAdd,Nat.reduceLeDiff,Int.reducePow,D9,I6,hgp,hgo,c6V,wd,O3,c7J]|simp (disch:=omega) only [ww,I6,hgs,hi1,c6V,wd,hv,a3J,a1Y,hol2,O3])
  refine S.next (x:=(i,out)) (i+1,_) ⟨hi',hs⟩ (by simp only;omega) (by (repeat first|refine uA ?_|(refine ⟨?_,?_⟩;focus first|rfl|trivial|(simp [slot];done))|rfl|trivial|simp))
 ·have hi':i=x.length:=by omega
  subst hi'
  have he:=(Nm.b6q hinv).1
  have hd:out=Nm.dig 4294967296 (x.length+1) (Nm.wv 4294967296 x*2 ^ r):=Nm.X9 (by decide) hinv.2.1 hol he
  rw [<- hd]
  (repeat first|refine uA ?_|(apply uK;focus omega)|simp (disch:=omega) only [go_sem,Nat.reduceBEq])
  exact S.done (j3.new rfl rfl rfl)
def put (us:List Nat) (k:Nat) (out:List Nat):List Nat:=us.take k++out++us.drop (k+out.length)
theorem a0e {us out:List Nat} {k:Nat} (h:k+out.length<=us.length):(put us k out).length=us.length:=by
 simp only [put,c7e,c7d,c7E];omega
theorem V5 {us out:List Nat} {k i:Nat} (h:k+out.length<=us.length) (hi:i < out.length):(put us k out)[k+i]?=out[i]?:=by
 have ht:(us.take k).length=k:=by rw [c7d];omega
 rw [put,c7A,c7r (by omega),ht,Nat.add_sub_cancel_left,c7n hi]
theorem a0g {us out:List Nat} {k i v:Nat} (h:k+out.length<=us.length) (hi:i < out.length):(put us k out).set (k+i) v=put us k (out.set i v):=by
 have ht:(us.take k).length=k:=by rw [c7d];omega
 rw [put,put,c7A,List.set_append_right _ _ (by omega),ht,Nat.add_sub_cancel_left,List.set_append_left _ _ hi,c7J,c7A]
theorem a5e {us:List Nat} {k n:Nat} (h:k+n<=us.length):put us k ((us.drop k).take n)=us:=by
 rw [put,c7d,c7E,show min n (us.length-k)=n by omega,c7A,<- List.drop_drop]
 rw [List.take_append_drop,List.take_append_drop]
theorem b7k (o lo b:Nat) (ho:o < 4294967296) (hl:lo < 4294967296) (hb:b<=1):∃ t c':Nat,IntKind.u32.wrap (IntKind.u64.wrap (IntKind.u64.wrap ((o:Int)-(lo:Int))-(b:Int)))=(t:Int)/\Int.fdiv (IntKind.u64.wrap (IntKind.u64.wrap ((o:Int)-(lo:Int))-(b:Int))) 9223372036854775808=(c':Int)/\t < 4294967296/\c'<=1/\t+lo+b=o+4294967296*c':=by
 obtain ⟨t,c',e1,e2,h1,h2,h3⟩:=a9s o lo b ho hl hb
 have g1:∀ n:Int,IntKind.u64.wrap n=n % 18446744073709551616:=fun n=>by simp [IntKind.wrap,IntKind.signed,IntKind.bits]
 have e:IntKind.u64.wrap (IntKind.u64.wrap ((o:Int)-(lo:Int))-(b:Int))=IntKind.u64.wrap (IntKind.u64.wrap ((o:Int)-(b:Int))-(lo:Int)):=by
  rw [g1,g1,g1,g1];omega
 rw [e]
 exact ⟨t,c',e1,e2,h1,h2,by omega⟩
theorem c5m {E:Ctx} (hP:E.P=Tryz.prog) (us qs v:List Nat) (k d:Nat) (hl:us.length<=274877906944) (hk:k+v.length+1<=us.length) (hu:Nm.G5 us) (hv:Nm.G5 v) (hd:d < 4294967296)
    {W:Nat} (hW:W=Nm.wv 4294967296 ((us.drop k).take (v.length+1))) :
    j6 E [.row 222 1 (ws us),.row 222 1 (ws qs)] 203 [.wv 0 1 k (v.length+1),.sl 1 (ws v),.v (.int .u64 (d:Int))] (.v (.bool (decide (W < d*Nm.wv 4294967296 v))))
      [.row 222 1 (ws (put us k (Nm.dig 4294967296 (v.length+1) ((W+4294967296 ^ (v.length+1)*(if W < d*Nm.wv 4294967296 v then 1 else 0))-d*Nm.wv 4294967296 v)))),.row 222 1 (ws qs)] []:=by
  obtain ⟨P,eff',N,w0,own0,av0,nu0,pk0⟩:=E
  simp only at hP
  subst hP
  refine j6.of (eff:=eff) Tryz.func203 (by cbv) (by exact c7j rfl) fun w own av ν hν=>?_
  simp only [j5,TT,II,OA,OB,MM,VV]
  have hν0:ν.length<=2:=by rw [hν];exact c7b _
  have hul:((us.drop k).take (v.length+1)).length=v.length+1:=by rw [c7d,c7E];omega
  have hua:Nm.G5 ((us.drop k).take (v.length+1)):=(hu.drop k).take _
  have hps:put us k ((us.drop k).take (v.length+1))=us:=a5e (by omega)
  generalize (us.drop k).take (v.length+1)=u at *
  (repeat first|refine uA ?_|(apply uK;focus omega)|simp only [go_sem,Nat.reduceBEq,Nat.reduceAdd,D9]|simp (disch:=omega) only [ww,D9])
  refine S.loop (X:=Nat × List Nat × Nat × Nat) (fun x=>⟨[(0,.wv 0 1 k (v.length+1)),(1,.sl 1 (ws v)),(2,.v (.int .u64 (d:Int))),(7,.v (.int .u64 (x.2.2.1:Int))),(8,.v (.int .u64 (x.2.2.2:Int))),(13,.sl 1 (ws v)),(14,ints v.length),(15,ints x.1)],[.row 222 1 (ws (put us k x.2.1)),.row 222 1 (ws qs)]⟩) (fun x=>x.1<=v.length/\Nm.b0q u v d x.1 x.2.1 x.2.2.1 x.2.2.2) (fun x=>v.length-x.1) (0,u,0,0) ⟨c6Z _,Nm.b8f v d hua⟩ (by simp only [hps];exact Ent.mk _ _ (by (repeat first|refine uA ?_|(refine ⟨?_,?_⟩;focus first|rfl|trivial|(simp [slot];done))|rfl|trivial|simp)) (by (repeat first|refine uA ?_|(refine ⟨?_,?_⟩;focus first|rfl|trivial|(simp [slot];done))|rfl|trivial|simp)) hν0) ?_
  rintro ⟨i,out,c,b⟩ ⟨hi,hinv⟩
  simp only [ints] at hi hinv ⊢
  have hol:=hinv.1
  have hc1:=hinv.2.2.1
  have hb1:=hinv.2.2.2.1
  have hpl:(put us k out).length=us.length:=a0e (by omega)
  (repeat first|refine uA ?_|(apply uK;focus omega)|simp (disch:=omega) only [go_sem,Nat.reduceBEq])
  (refine uJ rfl (fun hc=>?_) fun hc=>?_)
  · have hi':i < v.length:=by omega
    have hgv:v[i]?=some v[i]:=c6T hi'
    have hgu:u[i]?=some (u[i]'(by omega)):=c6T (by omega)
    have hgo:(put us k out)[k+i]?=some (u[i]'(by omega)):=by rw [V5 (by omega) (by omega),Nm.a0v hinv.2.2.2.2.1,hgu]
    have hu32:=hua _ (c7k (show i < u.length by omega))
    have hv32:=hv _ (c7k hi')
    have hiu:i < u.length:=by omega
    have hk:=fun t b' h1 h2 h3=>Nm.b7Q (t:=t) (b':=b') hinv hi' hiu hv32 hd h1 h2 h3
    generalize v[i]=vi at *
    generalize u[i]'(by omega)=ui at *
    obtain ⟨m,hm⟩:∃ m:Nat,m=d*vi:=⟨_,rfl⟩
    have hm':(d:Int)*(vi:Int)=(m:Int):=by rw [hm];simp
    have hmb:m<=4294967295*4294967295:=by rw [hm];exact Nat.mul_le_mul (by omega) (by omega)
    rw [<- hm] at hk
    obtain ⟨s,hs⟩:∃ s:Nat,s=c+m:=⟨_,rfl⟩
    have hs':(c:Int)+(m:Int)=(s:Int):=by omega
    rw [<- hs] at hk
    obtain ⟨t,b',e1,e2,h1,h2,h3⟩:=b7k ui (s % 4294967296) b hu32 (Nat.mod_lt _ (by decide)) hb1
    have hk:=(hk t b' h1 h2 h3).1
    have hsl:=a0g (us:=us) (out:=out) (k:=k) (i:=i) (v:=t) (by omega) (by omega)
    have hki:((k:Int)+(i:Int)).toNat=k+i:=by omega
    (repeat first|refine uA ?_|(apply uK;focus omega)|simp only [go_sem,Nat.reduceBEq,Nat.reduceAdd,Nat.reduceLeDiff,Int.reducePow,D9,I6,hgv,hgo,c6V,wd]|simp (disch:=omega) only [ww,hm',hs',a3J,a1Y,e1,e2,O3,hsl])
    refine S.next (x:=(i,out,c,b)) (i+1,_,_,_) ⟨hi',hk⟩ (by simp only;omega) (Ent.mk _ _ (by (repeat first|refine uA ?_|(refine ⟨?_,?_⟩;focus first|rfl|trivial|(simp [slot];done))|rfl|trivial|simp)) (by (repeat first|refine uA ?_|(refine ⟨?_,?_⟩;focus first|rfl|trivial|(simp [slot];done))|rfl|trivial|simp)) hν0)
  · have hi':i=v.length:=by omega
    subst hi'
    have hgu:u[v.length]?=some (u[v.length]'(by omega)):=c6T (by omega)
    have hgo:(put us k out)[k+v.length]?=some (u[v.length]'(by omega)):=by rw [V5 (by omega) (by omega),Nm.a0v hinv.2.2.2.2.1,hgu]
    have hu32:=hua _ (c7k (show v.length < u.length by omega))
    obtain ⟨t,f,e1,e2,h1,h2,h3⟩:=b7k _ c b hu32 hc1 hb1
    obtain ⟨hk1,hk2⟩:=Nm.b9m (t:=t) (f:=f) hinv hul h1 h3
    have hsl:=a0g (us:=us) (out:=out) (k:=k) (i:=v.length) (v:=t) (by omega) (by omega)
    have hlt:=Nm.M6 4294967296 hk2
    have hlt2:=Nm.M6 4294967296 hua
    rw [c7J,hol,hul] at hlt
    rw [hul,<- hW] at hlt2
    rw [hul,<- hW] at hk1
    have hf:f=if W < d*Nm.wv 4294967296 v then 1 else 0:=by
      have:f=0 \/ f=1:=by omega
      rcases this with rfl|rfl
      · rw [if_neg (by omega)]
      · rw [if_pos (by omega)]
    have hdg:out.set v.length t=Nm.dig 4294967296 (v.length+1) (W+4294967296 ^ (v.length+1)*f-d*Nm.wv 4294967296 v):=Nm.X9 (by decide) hk2 (by rw [c7J];omega) (by omega)
    rw [<- hf,<- hdg]
    have hfb:decide (W < d*Nm.wv 4294967296 v)=decide ((0:Int) < (f:Int)):=by
      rw [hf];by_cases h:W < d*Nm.wv 4294967296 v<;>simp [h]
    rw [hfb]
    have hki:((k:Int)+(v.length:Int)).toNat=k+v.length:=by omega
    (repeat first|refine uA ?_|(apply uK;focus omega)|simp only [go_sem,Nat.reduceBEq,Nat.reduceAdd,Nat.reduceLeDiff,Int.reducePow,D9,I6,hgo,c6V,wd]|simp (disch:=omega) only [ww,e1,e2,O3,hsl])
    exact S.done (j3.own rfl)
end Go.Proofs.YtgpegbfnlkidjaaGreatDoor
namespace Go.Proofs.YtgpegbfnlkidjaaGreatDoor.Eng
open Go Go.RowKit
def Met (E:Ctx) {Y:Type} (stY:Y->St) (preY:Y->Prop):Act->World->Prop:=fun a w=>∃ y ν',preY y/\Good E ν' (stY y) a w
theorem S.join {E:Ctx} {Q:Exit->Act->World->Prop} {st:St} {c:IC} {k:List It} {Y:Type} (stY:Y->St) (preY:Y->Prop)
  (h:S E Q st (.code c::.inv (Met E stY preY)::k)) (hk:∀ y,preY y->S E Q (stY y) k):S E Q st (.code c::k):=by
 intro wf ν a w hG code hc
 refine wp_mono (h wf ν a w hG code hc) fun e a' w' hq=>?_
 cases e with
 | normal=>
  simp only [wpS] at hq
  obtain ⟨y,ν',hp,hG'⟩:=hq
  exact hk y hp wf ν' a' w' hG'
 | exit i=>simpa only [exS] using hq
 | _=>exact hq
theorem S.c2A {E:Ctx} {Q:Exit->Act->World->Prop} {st:St} {c:IC} {id:Nat} {k:List It} {Y:Type} (stY:Y->St) (preY:Y->Prop)
  (h:S E Q st (.code c::.blk id::.inv (Met E stY preY)::k)) (hk:∀ y,preY y->S E Q (stY y) k):S E Q st (.code c::.blk id::k):=by
 intro wf ν a w hG code hc
 refine wp_mono (h wf ν a w hG code hc) fun e a' w' hq=>?_
 cases e with
 | normal=>
  simp only [wpS] at hq ⊢
  obtain ⟨y,ν',hp,hG'⟩:=hq
  exact hk y hp wf ν' a' w' hG'
 | exit i=>
  simp only [exS] at hq ⊢
  split
  ·rename_i e
   rw [if_pos e] at hq
   simp only [wpS] at hq
   obtain ⟨y,ν',hp,hG'⟩:=hq
   exact hk y hp wf ν' a' w' hG'
  ·rename_i e
   rw [if_neg e] at hq
   exact hq
 | _=>exact hq
theorem S.met {E:Ctx} {Q:Exit->Act->World->Prop} {st:St} {k:List It} {Y:Type} {stY:Y->St} {preY:Y->Prop} (y:Y) (hp:preY y) (h:Ent E st (stY y)):S E Q st (.inv (Met E stY preY)::k):=by
 intro wf ν a w hG
 obtain ⟨ν',hG'⟩:=h wf ν a w hG
 exact ⟨y,ν',hp,hG'⟩
end Go.Proofs.YtgpegbfnlkidjaaGreatDoor.Eng
namespace Go.Proofs.YtgpegbfnlkidjaaGreatDoor
open Go Go.RowKit Eng
set_option maxRecDepth 10000
set_option maxHeartbeats 1000000
theorem c3Y {us a b:List Nat} {k:Nat} (hl:a.length=b.length) (h:k+a.length<=us.length):put (put us k a) k b=put us k b:=by
 have ht:(us.take k).length=k:=by rw [c7d];omega
 rw [put,put,put,<- hl]
 congr 1
 ·congr 1
  rw [c7A,List.take_append_of_le_length (by omega),c7o (by omega)]
 ·exact List.drop_left' (by rw [c7e,ht])
theorem a2B {us a:List Nat} {k n:Nat} (hn:n=a.length) (h:k+a.length<=us.length):((put us k a).drop k).take n=a:=by
 have ht:(us.take k).length=k:=by rw [c7d];omega
 subst hn
 rw [put,c7A,List.drop_append,ht,Nat.sub_self,List.drop_of_length_le (by omega),List.nil_append,List.drop_zero,List.take_append_of_le_length (c7b _),c7l]
theorem c2W {us a:List Nat} {k:Nat} (hu:Nm.G5 us) (ha:Nm.G5 a):Nm.G5 (put us k a):=((hu.take k).app ha).app (hu.drop _)
theorem c5i {E:Ctx} (hP:E.P=Tryz.prog) (us qs v:List Nat) (k:Nat) (hl:us.length<=274877906944) (hk:k+v.length+1<=us.length) (hu:Nm.G5 us) (hv:Nm.G5 v)
    {W:Nat} (hW:W=Nm.wv 4294967296 ((us.drop k).take (v.length+1))) (hlt:4294967296 ^ (v.length+1)<=W+Nm.wv 4294967296 v) :
    j6 E [.row 222 1 (ws us),.row 222 1 (ws qs)] 204 [.wv 0 1 k (v.length+1),.sl 1 (ws v)] (.tup [])
      [.row 222 1 (ws (put us k (Nm.dig 4294967296 (v.length+1) (W+Nm.wv 4294967296 v-4294967296 ^ (v.length+1))))),.row 222 1 (ws qs)] []:=by
  obtain ⟨P,eff',N,w0,own0,av0,nu0,pk0⟩:=E
  simp only at hP
  subst hP
  refine j6.of (eff:=eff) Tryz.func204 (by cbv) (by exact c7j rfl) fun w own av ν hν=>?_
  simp only [j5,TT,II,OA,OB,MM,VV]
  have hν0:ν.length<=2:=by rw [hν];exact c7b _
  have hul:((us.drop k).take (v.length+1)).length=v.length+1:=by rw [c7d,c7E];omega
  have hua:Nm.G5 ((us.drop k).take (v.length+1)):=(hu.drop k).take _
  have hps:put us k ((us.drop k).take (v.length+1))=us:=a5e (by omega)
  generalize (us.drop k).take (v.length+1)=u at *
  (repeat first|refine uA ?_|(refine uK ?_ ?_;focus first|omega|trivial|(intros;simp_all<;>omega))|simp (disch:=omega) only [go_sem,Nat.reduceBEq,Nat.reduceAdd,D9])
  refine S.loop (X:=Nat × List Nat × Nat) (fun x=>⟨[(0,.wv 0 1 k (v.length+1)),(1,.sl 1 (ws v)),(4,.v (.int .u64 (x.2.2:Int))),(7,.sl 1 (ws v)),(8,ints v.length),(9,ints x.1)],[.row 222 1 (ws (put us k x.2.1)),.row 222 1 (ws qs)]⟩) (fun x=>x.1<=v.length/\Nm.b0X u v x.1 x.2.1 x.2.2) (fun x=>v.length-x.1) (0,u,0) ⟨c6Z _,Nm.b7K v hua⟩ (by simp only [hps];exact Ent.mk _ _ (by (repeat first|refine uA ?_|(refine ⟨?_,?_⟩;focus first|rfl|trivial|(simp [slot];done))|rfl|trivial|simp)) (by (repeat first|refine uA ?_|(refine ⟨?_,?_⟩;focus first|rfl|trivial|(simp [slot];done))|rfl|trivial|simp)) hν0) ?_
  rintro ⟨i,out,c⟩ ⟨hi,hinv⟩
  simp only [ints] at hi hinv ⊢
  have hol:=hinv.1
  have hc1:=hinv.2.2.1
  have hpl:(put us k out).length=us.length:=a0e (by omega)
  (repeat first|refine uA ?_|(refine uK ?_ ?_;focus first|omega|trivial|(intros;simp_all<;>omega))|simp (disch:=omega) only [go_sem,Nat.reduceBEq])
  (refine uJ rfl (fun hc=>?_) fun hc=>?_)
  · have hi':i < v.length:=by omega
    have hiu:i < u.length:=by omega
    have hgv:v[i]?=some v[i]:=c6T hi'
    have hgu:u[i]?=some (u[i]'(by omega)):=c6T (by omega)
    have hgo:(put us k out)[k+i]?=some (u[i]'(by omega)):=by rw [V5 (by omega) (by omega),Nm.a0v hinv.2.2.2.1,hgu]
    have hu32:=hua _ (c7k (show i < u.length by omega))
    have hv32:=hv _ (c7k hi')
    have hk:=Nm.b7s hinv hi' hiu hv32 hu32 rfl
    generalize v[i]=vi at *
    generalize u[i]'(by omega)=ui at *
    obtain ⟨s,hs⟩:∃ s:Nat,s=c+ui+vi:=⟨_,rfl⟩
    have hs':(c:Int)+((ui:Int)+(vi:Int))=(s:Int):=by omega
    rw [<- hs] at hk
    have hsl:=a0g (us:=us) (out:=out) (k:=k) (i:=i) (v:=s % 4294967296) (by omega) (by omega)
    have hki:((k:Int)+(i:Int)).toNat=k+i:=by omega
    (repeat first|refine uA ?_|(refine uK ?_ ?_;focus first|omega|trivial|(intros;simp_all<;>omega))|simp (disch:=omega) only [go_sem,Nat.reduceBEq,Nat.reduceAdd,Nat.reduceLeDiff,Int.reducePow,ww,D9,I6,hgv,hgo,c6V,wd,hs',a3J,a1Y,O3,hsl])
    refine S.next (x:=(i,out,c)) (i+1,_,_) ⟨hi',hk⟩ (by simp only;omega) (Ent.mk _ _ (by (repeat first|refine uA ?_|(refine ⟨?_,?_⟩;focus first|rfl|trivial|(simp [slot];done))|rfl|trivial|simp)) (by (repeat first|refine uA ?_|(refine ⟨?_,?_⟩;focus first|rfl|trivial|(simp [slot];done))|rfl|trivial|simp)) hν0)
  · have hi':i=v.length:=by omega
    subst hi'
    have hgu:u[v.length]?=some (u[v.length]'(by omega)):=c6T (by omega)
    have hgo:(put us k out)[k+v.length]?=some (u[v.length]'(by omega)):=by rw [V5 (by omega) (by omega),Nm.a0v hinv.2.2.2.1,hgu]
    have hu32:=hua _ (c7k (show v.length < u.length by omega))
    have hlt2:=Nm.M6 4294967296 hua
    have hlv:=Nm.M6 4294967296 hv
    rw [hul,<- hW] at hlt2
    have hpw:4294967296 ^ v.length<=4294967296 ^ (v.length+1):=c7z (by decide) (by omega)
    obtain ⟨hk1,hk2⟩:=Nm.b9s hinv hul rfl (z:=W+Nm.wv 4294967296 v-4294967296 ^ (v.length+1)) (by rw [hul,<- hW];omega) (by rw [hul];omega)
    have hdg:=Nm.X9 (by decide) hk2 (show _=v.length+1 by rw [c7J];omega) hk1
    rw [<- hdg]
    have hsl:=a0g (us:=us) (out:=out) (k:=k) (i:=v.length) (v:=(u[v.length]+c) % 4294967296) (by omega) (by omega)
    have hki:((k:Int)+(v.length:Int)).toNat=k+v.length:=by omega
    have hw1:IntKind.u32.wrap ((u[v.length]:Int)+(c:Int))=(((u[v.length]+c) % 4294967296:Nat):Int):=a3J (u[v.length]+c)
    (repeat first|refine uA ?_|(refine uK ?_ ?_;focus first|omega|trivial|(intros;simp_all<;>omega))|simp (disch:=omega) only [go_sem,Nat.reduceBEq,Nat.reduceAdd,Nat.reduceLeDiff,ww,D9,I6,hgo,c6V,wd,hw1,O3,hsl])
    exact S.end_ (j3.own rfl)
set_option maxHeartbeats 2000000
theorem b0t:∀ (f x:Nat),x < 2 ^ f->f<=64->x ≠ 0->0 < Lib.bitLen x/\2 ^ (Lib.bitLen x-1)<=x/\x < 2 ^ Lib.bitLen x
 | 0,x,h,_,h0=>by simp at h;omega
 | f+1,x,h,hf,h0=>by
  have h64:x < 2 ^ 64:=c7x h (c7z (by decide) hf)
  rw [Lib.bitLen_half x h0 h64]
  by_cases h1:x / 2=0
  ·rw [h1,show Lib.bitLen 0=0 from rfl]
   refine ⟨by omega,?_,?_⟩
   ·simp;omega
   ·simp;omega
  ·obtain ⟨g0,g1,g2⟩:=b0t f (x / 2) (by rw [c7F] at h;omega) (by omega) h1
   refine ⟨by omega,?_,?_⟩
   ·rw [show 1+Lib.bitLen (x / 2)-1=Lib.bitLen (x / 2)-1+1 by omega,c7F];omega
   ·rw [Nat.add_comm,c7F];omega
def lz (x:Nat):Nat:=32-Lib.bitLen x
theorem b6O {x:Nat} (h0:x ≠ 0) (h:x < 4294967296):lz x < 32/\Lib.bitLen x+lz x=32/\(x+1)*2 ^ lz x<=4294967296:=by
 obtain ⟨g0,g1,g2⟩:=b0t 32 x h (by decide) h0
 have hb:Lib.bitLen x<=32:=by
  rcases c7p 32 (Lib.bitLen x) with h1|h1
  ·have:2 ^ 32<=2 ^ (Lib.bitLen x-1):=c7z (by decide) (by omega)
   omega
  ·exact h1
 refine ⟨by unfold lz;omega,by unfold lz;omega,?_⟩
 have:=c7y (2 ^ lz x) (Nat.succ_le_of_lt g2)
 rw [<- Nat.pow_add,show Lib.bitLen x+lz x=32 by unfold lz;omega] at this
 exact this
theorem c6I (x:Nat) (h0:x ≠ 0) (h:x < 4294967296):y9 Tryz.prog 201 [.v (.int .u32 (x:Int))] (ints (lz x)):=by
 intro O w vs hO hA
 simp only [FzL,Fz] at hA
 obtain ⟨y,ys,rfl,rfl,rfl⟩:=hA
 refine (Tryz.bits_LeadingZeros32 (x:Int) w (by omega) (by omega)).mono ?_
 rintro e w' ⟨rfl,rfl⟩
 refine ⟨_,rfl,Below.refl _ _,?_⟩
 have:=(b6O h0 h).2.1
 simp only [ints,Fz,c7a]
 rw [show (32:Int)-(Lib.bitLen x:Int)=((lz x:Nat):Int) by omega]
namespace Nm
theorem b4h {B:Nat}:∀ {m L n:Nat},m<=L->(dig B L n).take m=dig B m n
 | 0,_,_,_=>by simp [dig]
 | m+1,0,_,h=>by omega
 | m+1,L+1,n,h=>by simp only [dig,List.take_succ_cons];rw [b4h (by omega)]
theorem b7g {B:Nat} {l:List Nat} (h:∀ w ∈ l,w < B) {k:Nat} (hk:k<=l.length):wv B (l.drop k)=wv B l / B ^ k:=by
 have e:=a3n B l k hk
 have h1:wv B (l.take k) < B ^ k:=by
  have:=M6 B (l:=l.take k) (fun w hw=>h w (List.mem_of_mem_take hw))
  rwa [c7d,Nat.min_eq_left hk] at this
 rw [e,Nat.add_mul_div_left _ _ (by omega),Nat.div_eq_of_lt h1,c7D]
theorem Est.top {W V v1 v2 top u2 p:Nat} (h:Est W V v1 v2 top u2 p):top < v1*4294967296+4294967296:=by
 have h1:=h.wge
 have h2:=h.lt
 have h3:=h.hW
 have h4:=h.hv2
 have hp:0 < p:=by
  rcases c7s p with h0|h0
  ·subst h0;omega
  ·exact h0
 have h5:(top*4294967296+u2)*p < (4294967296*(v1*4294967296+v2+1))*p:=by
  rw [c7B 4294967296];omega
 have:=Nat.lt_of_mul_lt_mul_right h5
 omega
theorem b6l {x y:List Nat} {r:Nat} (hx:G5 x) (hy:G5 y) (hl:y.length<=x.length) (hyt:4294967296 ^ (y.length-1)<=wv 4294967296 y) (hy0:0 < y.length) (hr:wv 4294967296 y*2 ^ r < 4294967296 ^ y.length) :
  a7n (wv 4294967296 x*2 ^ r) (dig 4294967296 y.length (wv 4294967296 y*2 ^ r)) (x.length+1) (x.length+1-y.length) (dig 4294967296 (x.length+1) (wv 4294967296 x*2 ^ r)) (List.replicate (x.length+1-y.length) 0):=by
 have hp:0 < 2 ^ r:=Nat.pow_pos (by decide)
 have hxl:=M6 4294967296 hx
 have hr32:2 ^ r<=4294967296:=by
  have h1:4294967296 ^ (y.length-1)*2 ^ r<=wv 4294967296 y*2 ^ r:=c7y _ hyt
  have h2:4294967296 ^ y.length=4294967296 ^ (y.length-1)*4294967296:=by rw [<- c7F,show (y.length-1).succ=y.length by omega]
  have h3:4294967296 ^ (y.length-1)*2 ^ r < 4294967296 ^ (y.length-1)*4294967296:=by omega
  exact Nat.le_of_lt (Nat.lt_of_mul_lt_mul_left h3)
 have hU:wv 4294967296 x*2 ^ r < 4294967296 ^ (x.length+1):=by
  rw [c7F]
  exact c7x (Nat.mul_lt_mul_of_pos_right hxl hp) (Nat.mul_le_mul_left _ hr32)
 have hwu:wv 4294967296 (dig 4294967296 (x.length+1) (wv 4294967296 x*2 ^ r))=wv 4294967296 x*2 ^ r:=X8 hU
 have hwv:wv 4294967296 (dig 4294967296 y.length (wv 4294967296 y*2 ^ r))=wv 4294967296 y*2 ^ r:=X8 hr
 refine ⟨K3 _ _ _,a1b (by decide) _ _,by simp [K3],fun w hw=>by rw [c7t hw];decide,?_,?_⟩
 ·rw [hwu,List.drop_of_length_le (by simp),show wv 4294967296 []=0 from rfl,Nat.mul_zero,Nat.mul_zero,Nat.add_zero]
 ·rw [b7g (a1b (by decide) _ _) (by rw [K3];omega),hwu,hwv]
  have e:4294967296 ^ x.length=4294967296 ^ (x.length+1-y.length)*4294967296 ^ (y.length-1):=by
   rw [<- Nat.pow_add];congr 1;omega
  refine c7x ?_ (c7y (2 ^ r) hyt)
  rw [Nat.div_lt_iff_lt_mul (Nat.pow_pos (by decide))]
  have:=Nat.mul_lt_mul_of_pos_right hxl hp
  rw [e] at this
  exact Nat.lt_of_lt_of_eq this (by rw [c7B,Nat.mul_comm])
end Nm
theorem b4S (a b:Nat) (ha:a < 4294967296) (hb:b < 4294967296):bits .or .u64 ((a:Int)*4294967296) (b:Int)=((a*4294967296+b:Nat):Int):=by
 have h1:(a:Int)*4294967296=((a*4294967296:Nat):Int):=by omega
 rw [h1,b0U _ _ (by omega) (by omega)]
 have:=Nm.a3s (a:=b) (b:=a) (r:=32) hb
 rw [Nat.or_comm,show (4294967296:Nat)=2 ^ 32 from rfl,this,Nat.add_comm]
set_option maxHeartbeats 4000000
theorem c5I (x y:List Nat) (hxl:x.length<=274877906900) (hx:Nm.G5 x) (hy:Nm.G5 y) (hl:y.length<=x.length) (hy2:2<=y.length) (hyt:4294967296 ^ (y.length-1)<=Nm.wv 4294967296 y) :
    y9 Tryz.prog 176 [.sl 1 (ws x),.sl 1 (ws y)] (.tup [.sl 1 (ws (Nm.dig 4294967296 (x.length+1-y.length) (Nm.wv 4294967296 x / Nm.wv 4294967296 y))),.sl 1 (ws (Nm.dig 4294967296 y.length (Nm.wv 4294967296 x % Nm.wv 4294967296 y)))]):=by
  refine kS b6k b6i (by rfl) fun w O=>?_
  simp only [a9h,j5,TT,II,OA,OB,OC,MM,VV,MG,VG]
  have hgy:y[y.length-1]?=some (y[y.length-1]'(by omega)):=c6T (by omega)
  have hyw:=Nm.D6 4294967296 (l:=y) (i:=y.length-1) (by omega)
  rw [show y.length-1+1=y.length by omega,c7l] at hyw
  have hyk:=Nm.M6 4294967296 (l:=y.take (y.length-1)) (fun w hw=>hy w (List.mem_of_mem_take hw))
  rw [c7d,Nat.min_eq_left (by omega)] at hyk
  have ht32:=hy _ (c7k (show y.length-1 < y.length by omega))
  generalize y[y.length-1]'(by omega)=t at *
  have ht0:t ≠ 0:=fun h=>by subst h;omega
  obtain ⟨hr32,_,htr⟩:=b6O ht0 ht32
  have hflz:=c6I t ht0 ht32
  generalize lz t=r at *
  have hr:Nm.wv 4294967296 y*2 ^ r < 4294967296 ^ y.length:=by
    have h1:Nm.wv 4294967296 y < (t+1)*4294967296 ^ (y.length-1):=by
      rw [Nat.add_mul,Nat.one_mul,Nat.mul_comm];omega
    have h2:=Nat.mul_lt_mul_of_pos_right h1 (show 0 < 2 ^ r from Nat.pow_pos (by decide))
    have h3:=c7y (4294967296 ^ (y.length-1)) htr
    rw [<- Nat.pow_succ',show (y.length-1).succ=y.length by omega] at h3
    refine c7x h2 ?_
    rw [c7B,Nat.mul_comm (4294967296 ^ _),<- c7B]
    exact h3
  have hi1:((y.length:Int)-1).toNat=y.length-1:=by omega
  have hti:=Nm.b4h (B:=4294967296) (m:=y.length) (L:=y.length+1) (n:=Nm.wv 4294967296 y*2 ^ r) (by omega)
  have hvl:=Nm.K3 4294967296 y.length (Nm.wv 4294967296 y*2 ^ r)
  have hva:Nm.G5 _:=Nm.a1b (B:=4294967296) (by decide) y.length (Nm.wv 4294967296 y*2 ^ r)
  have hvw:=Nm.X8 hr
  have hst:=Nm.b6l hx hy hl hyt (by omega) hr
  have hlx:=c0C x r (by omega) hx hr32
  have hly:=(c0C y r (by omega) hy hr32).spec
  have htk:List.take y.length (ws (Nm.dig 4294967296 (y.length+1) (Nm.wv 4294967296 y*2 ^ r)))=ws (Nm.dig 4294967296 y.length (Nm.wv 4294967296 y*2 ^ r)):=by
    rw [<- hti];simp [ws]
  have hul:=Nm.K3 4294967296 (x.length+1) (Nm.wv 4294967296 x*2 ^ r)
  have hn1:(((x.length+1:Nat):Int)-(y.length:Int)).toNat=x.length+1-y.length:=by omega
  (repeat first|refine uA ?_|(apply uK;focus first|omega|(intros;simp_all<;>omega))|simp only [go_sem,Nat.reduceBEq,Nat.reduceAdd,D9,I6,Nm.K3,htk,List.length_replicate]|simp (disch:=omega) only [ww,hgy,hi1,c6V,wd,hn1]|refine l8.t (FNew.t hlx rfl) ?_|(apply uB hflz;exact rfl)|(apply uB hly;exact rfl))
  clear hflz hlx hly htk hti hgy
  have hyn:∃ m,y.length=m+2:=⟨y.length-2,by omega⟩
  obtain ⟨m,hm⟩:=hyn
  have hV:Nm.wv 4294967296 y*2 ^ r / 2 ^ r=Nm.wv 4294967296 y:=Nat.mul_div_cancel _ (Nat.pow_pos (by decide))
  generalize Nm.dig 4294967296 y.length (Nm.wv 4294967296 y*2 ^ r)=v at *
  generalize hn:y.length=n at *
  refine S.loop (X:=Nat × List Nat × List Nat) (fun s=>⟨[(10,ints ((s.1:Int)-1)),(4,.rv 1),(9,.sl 1 (ws v)),(8,.rv 0),(7,ints n),(6,ints r)],[.row 222 1 (ws s.2.1),.row 222 1 (ws s.2.2)]⟩) (fun s=>s.1<=x.length+1-n/\Nm.a7n (Nm.wv 4294967296 x*2 ^ r) v (x.length+1) s.1 s.2.1 s.2.2) (fun s=>s.1) (x.length+1-n,_,_) ⟨c7b _,hst⟩ (by simp only [<- a3i];exact Ent.mk _ _ (by repeat' (first|exact P6.nil|exact Imp.refl rfl|exact Imp.eq (by simp [slot];omega) rfl|refine P6.cons ?_ ?_)) (by (repeat first|refine uA ?_|(refine ⟨?_,?_⟩;focus first|rfl|trivial|(simp [slot];done))|rfl|trivial|simp)) (c6Z _)) ?_
  clear hst
  rintro ⟨j,us,qs⟩ ⟨hj,hinv⟩
  simp only [ints] at hj hinv ⊢
  have hus:=hinv.1
  have hua:=hinv.2.1
  have hql:=hinv.2.2.1
  have hqa:=hinv.2.2.2.1
  (repeat first|refine uA ?_|(apply uK;focus first|omega|(intros;simp_all<;>omega))|simp only [go_sem,Nat.reduceBEq]|simp (disch:=omega) only [ww])
  (refine uJ rfl (fun hc=>?_) fun hc=>?_)
  · obtain ⟨k,rfl⟩:∃ k,j=k+1:=⟨j-1,by omega⟩
    rw [show (((k+1:Nat):Int)-1)=(k:Int) by omega]
    obtain ⟨g1,g2,g3,g4⟩:=Nm.b2I hinv hva (by omega)
    have hwa:Nm.G5 ((us.drop k).take (v.length+1)):=(hua.drop k).take _
    have hv1:0 < v[m+1]'(by omega):=by
      have h1:=Nm.D6 4294967296 (l:=v) (i:=m+1) (by omega)
      rw [c7o (by omega)] at h1
      have h2:=Nm.M6 4294967296 (l:=v.take (m+1)) (fun w hw=>hva w (List.mem_of_mem_take hw))
      rw [c7d,Nat.min_eq_left (by omega)] at h2
      have h3:Nm.wv 4294967296 y<=Nm.wv 4294967296 y*2 ^ r:=Nat.le_mul_of_pos_right _ (Nat.pow_pos (by decide))
      rw [show n-1=m+1 by omega] at hyt
      rcases c7s (v[m+1]'(by omega)) with h0|h0
      · rw [h0] at h1;omega
      · exact h0
    have hE:=Nm.Est.of (m:=m) (by omega) (by rw [g4];omega) hva hwa hv1 (by rw [g1];exact g2)
    simp only [List.getElem_take,List.getElem_drop,g1] at hE
    have ha2:us[k+n]?=some (us[k+(m+2)]'(by omega)):=(show us[k+n]?=us[k+(m+2)]? by rw [hm]).trans (c6T (by omega))
    have ha1:us[k+(m+1)]?=some (us[k+(m+1)]'(by omega)):=c6T (by omega)
    have ha0:us[k+m]?=some (us[k+m]'(by omega)):=c6T (by omega)
    have hb1:v[m+1]?=some (v[m+1]'(by omega)):=c6T (by omega)
    have hb0:v[m]?=some (v[m]'(by omega)):=c6T (by omega)
    have hA2:=hua _ (c7k (show k+(m+2) < us.length by omega))
    have hA1:=hua _ (c7k (show k+(m+1) < us.length by omega))
    have hA0:=hua _ (c7k (show k+m < us.length by omega))
    have hB1:=hva _ (c7k (show m+1 < v.length by omega))
    have hB0:=hva _ (c7k (show m < v.length by omega))
    generalize us[k+(m+2)]'(by omega)=a2 at *
    generalize us[k+(m+1)]'(by omega)=a1 at *
    generalize us[k+m]'(by omega)=a0 at *
    generalize v[m+1]'(by omega)=v1 at *
    generalize v[m]'(by omega)=v2 at *
    have hi2:((k:Int)+(n:Int)).toNat=k+n:=by omega
    have hi3:((k:Int)+(n:Int)-1).toNat=k+(m+1):=by omega
    have hi4:((k:Int)+(n:Int)-2).toNat=k+m:=by omega
    have hi5:((n:Int)-1).toNat=m+1:=by omega
    have hi6:((n:Int)-2).toNat=m:=by omega
    have htop:=b4S a2 a1 hA2 hA1
    have htb:a2*4294967296+a1 < 18446744073709551616:=by omega
    have hs0:=hE.start
    have htp:=hE.top
    have hd0:=Nat.div_add_mod (a2*4294967296+a1) v1
    have hr0:=Nat.mod_lt (a2*4294967296+a1) hv1
    obtain ⟨top,htd⟩:∃ top,top=a2*4294967296+a1:=⟨_,rfl⟩
    rw [<- htd] at hE htop htb hs0 htp hd0 hr0
    have hq:∀ q:Nat,q=top / v1->Int.tdiv (top:Int) (v1:Int)=(q:Int):=fun q h=>by rw [h];rfl
    have hqr:∀ q:Nat,q=top % v1->Int.tmod (top:Int) (v1:Int)=(q:Int):=fun q h=>by rw [h];rfl
    obtain ⟨d0,hd0e⟩:∃ d0,d0=top / v1:=⟨_,rfl⟩
    obtain ⟨e0,he0e⟩:∃ e0,e0=top % v1:=⟨_,rfl⟩
    have hq:=hq d0 hd0e
    have hqr:=hqr e0 he0e
    rw [<- hd0e,<- he0e] at hd0
    rw [<- hd0e] at hs0
    rw [<- he0e] at hr0
    have hd0b:d0<=18446744073709551615:=by
      have:d0<=top:=by rw [hd0e];exact Nat.div_le_self _ _
      omega
    clear hd0e he0e
    (repeat first|refine uA ?_|(apply uK;focus first|omega|(intros;simp_all<;>omega))|simp only [go_sem,Nat.reduceBEq,Nat.reduceLeDiff,Int.reducePow,D9,I6]|simp (disch:=omega) only [ww,ha2,ha1,hb1,c6V,wd,hi2,hi3,hi5,htop,hq,hqr])
    refine S.c2A (Y:=Nat) (fun d=>⟨[(10,ints k),(4,.rv 1),(9,.sl 1 (ws v)),(8,.rv 0),(7,ints n),(6,ints r),(12,.v (.int .u64 (d:Int)))],[.row 222 1 (ws us),.row 222 1 (ws qs)]⟩) (fun d=>d < 4294967296/\((d*Nm.wv 4294967296 v<=Nm.wv 4294967296 (us.drop k)/\Nm.wv 4294967296 (us.drop k) / Nm.wv 4294967296 v=d) \/ (Nm.wv 4294967296 (us.drop k) < d*Nm.wv 4294967296 v/\0 < d/\Nm.wv 4294967296 (us.drop k) / Nm.wv 4294967296 v=d-1))) ?_ ?_
    · refine S.loop (X:=Nat × Nat) (fun s=>⟨[(10,ints k),(4,.rv 1),(9,.sl 1 (ws v)),(8,.rv 0),(7,ints n),(6,ints r),(12,.v (.int .u64 (s.1:Int))),(13,.v (.int .u64 (s.2:Int)))],[.row 222 1 (ws us),.row 222 1 (ws qs)]⟩) (fun s=>Nm.wv 4294967296 (us.drop k) / Nm.wv 4294967296 v<=s.1/\top=s.1*v1+s.2/\s.2 < 4294967296/\s.1<=18446744073709551615) (fun s=>s.1) (d0,e0) ⟨hs0,by rw [<- hd0,Nat.mul_comm],by simp only;omega,hd0b⟩ (by (repeat first|refine uA ?_|(refine ⟨?_,?_⟩;focus first|rfl|trivial|(simp [slot];done))|rfl|trivial|simp)) ?_
      clear hs0 hd0 hr0 hd0b hq hqr
      rintro ⟨d,rest⟩ ⟨p1,p2,p3,p4⟩
      simp only [ints] at p1 p2 p3 p4 ⊢
      have hor:=b4S rest a0 p3 hA0
      (repeat first|refine uA ?_|(apply uK;focus first|omega|(intros;simp_all<;>omega))|simp only [go_sem,Nat.reduceBEq,Nat.reduceLeDiff,Int.reducePow,D9,I6,a1Y]|simp (disch:=omega) only [ww,hb0,ha0,c6V,wd,hi4,hi6,hor])
      have hmul:d < 4294967296->IntKind.u64.wrap ((d:Int)*(v2:Int))=((d*v2:Nat):Int):=fun h=>by
        have h1:d*v2<=4294967295*4294967295:=Nat.mul_le_mul (by omega) (by omega)
        rw [<- Int.natCast_mul,Eng.wrap_u64 (by omega)]
      (refine uJ rfl (fun hc=>?_) fun hc=>?_)
      · have hdec:Nm.wv 4294967296 (us.drop k) / Nm.wv 4294967296 v < d:=by
          refine hE.dec p1 p2 ?_
          rcases c7p d 4294967296 with h|h
          · rw [hmul h] at hc
            omega
          · exact Or.inl h
        have hd1:1<=d:=Nat.lt_of_le_of_lt (c6Z _) hdec
        have hdm:(d:Int)-1=((d-1:Nat):Int):=by clear hdec p1;omega
        have hrm:(rest:Int)+(v1:Int)=((rest+v1:Nat):Int):=by omega
        have ht2:top=(d-1)*v1+(rest+v1):=by
          rw [p2]
          conv=>lhs;rw [show d=d-1+1 by omega,Nat.add_mul,Nat.one_mul]
          omega
        (repeat first|refine uA ?_|(apply uK;focus first|omega|(intros;simp_all<;>omega))|simp only [go_sem,Nat.reduceBEq,Nat.reduceLeDiff,Int.reducePow,D9,I6,a1Y,hdm]|simp (disch:=omega) only [ww,hb1,c6V,wd,hi5,hrm])
        (refine uJ rfl (fun hc=>?_) fun hc=>?_)
        · have hsm:=hE.small ht2 htp (by omega)
          (repeat first|refine uA ?_|(apply uK;focus first|omega|(intros;simp_all<;>omega))|simp only [go_sem,Nat.reduceBEq,Nat.reduceAdd,Nat.reduceLeDiff,Int.reduceToNat,Int.reducePow]|simp (disch:=omega) only [ww])
          exact S.met (d-1) ⟨hsm,hE.fin (by omega) ht2 hsm (by omega)⟩ (by (repeat first|refine uA ?_|(refine ⟨?_,?_⟩;focus first|rfl|trivial|(simp [slot];done))|rfl|trivial|simp))
        · (repeat first|refine uA ?_|(apply uK;focus first|omega|(intros;simp_all<;>omega))|simp only [go_sem,Nat.reduceBEq,Nat.reduceAdd,Nat.reduceLeDiff,Int.reduceToNat,Int.reducePow]|simp (disch:=omega) only [ww])
          refine S.next (x:=(d,rest)) (d-1,rest+v1) ⟨by simp only;omega,ht2,by simp only;omega,by simp only;omega⟩ (by simp only;omega) (by (repeat first|refine uA ?_|(refine ⟨?_,?_⟩;focus first|rfl|trivial|(simp [slot];done))|rfl|trivial|simp))
      · have hdl:d < 4294967296:=by
          rcases c7p d 4294967296 with h|h
          · exact h
          · exfalso;omega
        rw [hmul hdl] at hc
        (repeat first|refine uA ?_|(apply uK;focus first|omega|(intros;simp_all<;>omega))|simp only [go_sem,Nat.reduceBEq,Nat.reduceAdd,Nat.reduceLeDiff,Int.reduceToNat,Int.reducePow]|simp (disch:=omega) only [ww])
        exact S.met d ⟨hdl,hE.fin p1 p2 hdl (by omega)⟩ (by (repeat first|refine uA ?_|(refine ⟨?_,?_⟩;focus first|rfl|trivial|(simp [slot];done))|rfl|trivial|simp))
    · clear hs0 hd0 hr0 hd0b hq hqr
      rintro d ⟨hd32,hfin⟩
      simp only [ints]
      generalize hW:Nm.wv 4294967296 (us.drop k)=W at *
      generalize hVV:Nm.wv 4294967296 v=V at *
      have htake:=c5m (E:=⟨Tryz.prog,eff,179,w,fun _=>False,O,[],[]⟩) rfl us qs v k d (by omega) (by omega) hua hva hd32 (W:=W) (by rw [g1])
      rw [hVV] at htake
      have hlo:((k:Int)+(n:Int)+1).toNat-k=v.length+1:=by omega
      have hqk:k < qs.length:=by omega
      have hgq:qs[k]?=some (qs[k]'hqk):=c6T hqk
      have hpos:0 < V:=hE.pos
      have hlk:k+v.length+1<=us.length:=by omega
      have hWl:W < 4294967296 ^ (v.length+1):=by
        have:=Nm.M6 4294967296 hwa
        rwa [g4,g1] at this
      have hVl:V<=4294967296 ^ (v.length+1):=by
        rw [<- hVV]
        exact Nat.le_of_lt (c7x (Nm.M6 4294967296 hva) (c7z (by decide) (by omega)))
      have hput:∀ l,put us k (Nm.dig 4294967296 (v.length+1) l)=us.take k++Nm.dig 4294967296 (v.length+1) l++us.drop (k+v.length+1):=fun l=>by
        rw [put,Nm.K3,Nat.add_assoc]
      have hend:Nm.a7n (Nm.wv 4294967296 x*2 ^ r) v (x.length+1) k (put us k (Nm.dig 4294967296 (v.length+1) (W-W / V*V))) (qs.set k (W / V)):=by
        rw [hput]
        refine Nm.b8C hinv hva (by omega) (Nm.K3 _ _ _) (Nm.a1b (by decide) _ _) (by rw [hW,hVV]) ?_ (by rw [hVV];exact hpos)
        have hm1:=Nat.div_mul_le_self W V
        rw [Nm.X8 (by omega),hW,hVV];omega
      (repeat first|refine uA ?_|(apply uK;focus first|omega|(intros;simp_all<;>omega))|simp only [go_sem,Nat.reduceBEq,D9]|simp (disch:=omega) only [ww,hlo]|refine l8.t htake ?_)
      (refine uJ rfl (fun hc=>?_) fun hc=>?_)
      · rcases hfin with ⟨h1,h2⟩|⟨h1,h2,h3⟩
        · omega
        rw [if_pos h1]
        have hm:(d-1)*V+V=d*V:=by
          conv=>rhs;rw [show d=d-1+1 by omega,Nat.add_mul,Nat.one_mul]
        have hm2:=Nat.div_mul_le_self W V
        rw [h3] at hend hm2
        have hpl:(put us k (Nm.dig 4294967296 (v.length+1) (W+4294967296 ^ (v.length+1)*1-d*V))).length=us.length:=a0e (by rw [Nm.K3];omega)
        have hdV:d*V<=W+4294967296 ^ (v.length+1):=by
          omega
        have hback:=c5i (E:=⟨Tryz.prog,eff,179,w,fun _=>False,O,[],[]⟩) rfl (put us k (Nm.dig 4294967296 (v.length+1) (W+4294967296 ^ (v.length+1)*1-d*V))) qs v k (by omega) (by omega) (c2W hua (Nm.a1b (by decide) _ _)) hva (W:=W+4294967296 ^ (v.length+1)*1-d*V) (by
          rw [a2B (Nm.K3 _ _ _).symm (by rw [Nm.K3];omega),Nm.X8 (by omega)]) (by rw [hVV];omega)
        rw [hVV,c3Y (by rw [Nm.K3,Nm.K3]) (by rw [Nm.K3];omega),show W+4294967296 ^ (v.length+1)*1-d*V+V-4294967296 ^ (v.length+1)=W-(d-1)*V by omega] at hback
        have hdm:(d:Int)-1=((d-1:Nat):Int):=by omega
        (repeat first|refine uA ?_|(apply uK;focus first|omega|(intros;simp_all<;>omega))|simp only [go_sem,Nat.reduceBEq,Nat.reduceAdd,Nat.reduceLeDiff,D9,I6,hgq,c6V,wd,hpl,hdm]|simp (disch:=omega) only [ww,hlo,O3]|refine l8.t hback ?_)
        refine S.next (x:=(k+1,us,qs)) (k,_,_) ⟨by simp only;omega,hend⟩ (by simp only;omega) (by (repeat first|refine uA ?_|(refine ⟨?_,?_⟩;focus first|rfl|trivial|(simp [slot];done))|rfl|trivial|simp))
      · rcases hfin with ⟨h1,h2⟩|⟨h1,h2,h3⟩
        · rw [if_neg (by omega),Nat.mul_zero,Nat.add_zero]
          rw [h2] at hend
          (repeat first|refine uA ?_|(apply uK;focus first|omega|(intros;simp_all<;>omega))|simp only [go_sem,Nat.reduceBEq,Nat.reduceAdd,Nat.reduceLeDiff,D9,I6,hgq,c6V,wd]|simp (disch:=omega) only [ww,O3])
          refine S.next (x:=(k+1,us,qs)) (k,_,_) ⟨by simp only;omega,hend⟩ (by simp only;omega) (by (repeat first|refine uA ?_|(refine ⟨?_,?_⟩;focus first|rfl|trivial|(simp [slot];done))|rfl|trivial|simp))
        · omega
  · have hj0:j=0:=by omega
    subst hj0
    clear hc hj
    obtain ⟨e1,e2⟩:=Nm.c0c hinv hva (by omega)
    rw [hvw,Nat.mul_div_mul_right _ _ (Nat.pow_pos (by decide))] at e1
    rw [hvw,Nat.mul_mod_mul_right,hvl] at e2
    have hq:qs=Nm.dig 4294967296 (x.length+1-n) (Nm.wv 4294967296 x / Nm.wv 4294967296 y):=Nm.X9 (by decide) hqa (by omega) e1
    rw [<- hq]
    have hps:put us 0 (us.take n)=us:=by
      have:=a5e (us:=us) (k:=0) (n:=n) (by omega)
      rwa [List.drop_zero] at this
    have hra:Nm.G5 (us.take n):=hua.take n
    have hrl:(us.take n).length=n:=by rw [c7d];omega
    generalize us.take n=r0 at *
    (repeat first|refine uA ?_|(apply uK;focus first|omega|(intros;simp_all<;>omega))|simp only [go_sem,Nat.reduceBEq,D9]|simp (disch:=omega) only [ww,D9])
    refine S.loop (X:=Nat × List Nat) (fun s=>⟨[(4,.rv 1),(5,.wv 0 1 0 n),(6,ints r),(7,ints n),(8,.rv 0),(145,ints n),(146,ints s.1)],[.row 222 1 (ws (put us 0 s.2)),.row 222 1 (ws qs)]⟩) (fun s=>s.1<=n/\Nm.a5p r0 (2 ^ r) s.1 s.2) (fun s=>n-s.1) (0,r0) ⟨c6Z _,Nm.b3u hra⟩ (by simp only [hps];exact (by (repeat first|refine uA ?_|(refine ⟨?_,?_⟩;focus first|rfl|trivial|(simp [slot];done))|rfl|trivial|simp))) ?_
    rintro ⟨i,out⟩ ⟨hi,hri⟩
    simp only [ints] at hi hri ⊢
    have hol:=hri.1
    have hpl:(put us 0 out).length=us.length:=a0e (by omega)
    (repeat first|refine uA ?_|(apply uK;focus first|omega|(intros;simp_all<;>omega))|simp only [go_sem,Nat.reduceBEq]|simp (disch:=omega) only [ww])
    (refine uJ rfl (fun hc=>?_) fun hc=>?_)
    · have hi':i < n:=by omega
      have hgr:r0[i]?=some (r0[i]'(by omega)):=c6T (by omega)
      have hgo:(put us 0 out)[i]?=some (r0[i]'(by omega)):=by
        have:=V5 (us:=us) (out:=out) (k:=0) (i:=i) (by omega) (by omega)
        rw [c7D] at this
        rw [this,Nm.a0v hri.2.2.1,hgr]
      have hr32':=hra _ (c7k (show i < r0.length by omega))
      have hir:i < r0.length:=by omega
      have hk:=fun t ht=>Nm.b3o (t:=t) hri hr32 hir hra ht
      have hset:∀ a,(put us 0 out).set i a=put us 0 (out.set i a):=fun a=>by
        have:=a0g (us:=us) (out:=out) (k:=0) (i:=i) (v:=a) (by omega) (by omega)
        rwa [c7D] at this
      generalize r0[i]'(by omega)=ri at *
      have hsh:Int.fdiv (ri:Int) (2 ^ min r 32)=((ri / 2 ^ r:Nat):Int):=by
        rw [show min r 32=r by omega,<- a2w];congr 1
      have hrb:ri / 2 ^ r < 4294967296:=Nat.lt_of_le_of_lt (Nat.div_le_self _ _) hr32'
      generalize ri / 2 ^ r=rs at *
      (repeat first|refine uA ?_|(apply uK;focus first|omega|(intros;simp_all<;>omega))|simp only [go_sem,Nat.reduceBEq,Nat.reduceLeDiff,D9,I6,hgo,c7D,c6V,wd,O3,hsh,hset]|simp (disch:=omega) only [ww])
      (refine uJ rfl (fun hc=>?_) fun hc=>?_)
      · have hi1:i+1 < n:=by omega
        have hpl1:(put us 0 (out.set i rs)).length=us.length:=a0e (by rw [c7J];omega)
        have hg1:(put us 0 (out.set i rs))[i]?=some rs:=by
          rw [<- hset,List.getElem?_set_self (by omega)]
        have hg3:r0[i+1]?=some (r0[i+1]'(by omega)):=c6T (by omega)
        have hg2:(put us 0 (out.set i rs))[i+1]?=some (r0[i+1]'(by omega)):=by
          have:=V5 (us:=us) (out:=out) (k:=0) (i:=i+1) (by omega) (by omega)
          rw [c7D] at this
          rw [<- hset,List.getElem?_set_ne (by omega),this]
          have h3:=congrArg (fun l=>l[1]?) hri.2.2.1
          simp only [c7I] at h3
          rw [h3,hg3]
        have hn32:=hra _ (c7k (show i+1 < r0.length by omega))
        have hgd:r0.getD (i+1) 0=r0[i+1]'(by omega):=Nm.getD_lt (by omega)
        rw [hgd] at hk
        generalize r0[i+1]'(by omega)=rn at *
        have hmb:rn*2 ^ (32-r) < 18446744073709551616:=by
          have h1:2 ^ (32-r)<=2 ^ 32:=c7z (by decide) (by omega)
          have h2:rn*2 ^ (32-r)<=4294967295*4294967296:=Nat.mul_le_mul (by omega) h1
          omega
        have hshl:=b7d rn (32-r) hmb (by omega)
        have hrr:((32:Int)-(r:Int)).toNat=32-r:=by omega
        have horl:=c0g rs (rn*2 ^ (32-r)) hrb
        have hk:=hk _ rfl
        rw [if_pos (by omega)] at hk
        generalize rn*2 ^ (32-r)=sh at *
        generalize hto:rs ||| sh % 4294967296=to at *
        have hset2:(put us 0 (out.set i rs)).set i to=put us 0 (out.set i to):=by
          have:=a0g (us:=us) (out:=out.set i rs) (k:=0) (i:=i) (v:=to) (by rw [c7J];omega) (by rw [c7J];omega)
          rwa [c7D,List.set_set] at this
        have hi1n:((i:Int)+1).toNat=i+1:=by omega
        (repeat first|refine uA ?_|(apply uK;focus first|omega|(intros;simp_all<;>omega))|simp only [go_sem,Nat.reduceBEq,Nat.reduceLeDiff,D9,I6,hg1,hpl1,c7D,c6V,wd]|simp (disch:=omega) only [ww,hg2,c6V,wd,hrr,hi1n,hshl,a3J,horl,O3,hset2])
        refine S.next (x:=(i,out)) (i+1,_) ⟨hi',hk.1⟩ (by simp only;omega) (by (repeat first|refine uA ?_|(refine ⟨?_,?_⟩;focus first|rfl|trivial|(simp [slot];done))|rfl|trivial|simp))
      · have hk:=hk _ rfl
        rw [if_neg (by omega)] at hk
        (repeat first|refine uA ?_|(apply uK;focus first|omega|(intros;simp_all<;>omega))|simp only [go_sem,Nat.reduceBEq]|simp (disch:=omega) only [ww])
        refine S.next (x:=(i,out)) (i+1,_) ⟨hi',hk.1⟩ (by simp only;omega) (by (repeat first|refine uA ?_|(refine ⟨?_,?_⟩;focus first|rfl|trivial|(simp [slot];done))|rfl|trivial|simp))
    · have hi':i=n:=by omega
      subst hi'
      rw [<- hrl] at hri
      have he:=Nm.b3Z hri (by omega) e2
      have hd:out=Nm.dig 4294967296 i (Nm.wv 4294967296 x % Nm.wv 4294967296 y):=Nm.X9 (by decide) hri.2.1 (by omega) he
      rw [<- hd]
      have hwin:((ws (put us 0 out)).drop 0).take i=ws out:=by
        rw [List.drop_zero,put,List.take_zero,List.nil_append]
        simp only [ws,c7G]
        rw [List.take_append_of_le_length (by simp;omega),c7o (by simp;omega)]
      (repeat first|refine uA ?_|(apply uK;focus first|omega|(intros;simp_all<;>omega))|simp only [go_sem,Nat.reduceBEq]|simp (disch:=omega) only [ww])
      exact S.done (j3.out rfl (Imp.tup (j4.cons (Imp.frz rfl rfl rfl) (j4.cons (Imp.U3 rfl rfl (by simp only [D9];omega) hwin) j4.nil))) rfl)
namespace Nm
def b0R (x:List Nat) (d j:Nat) (out:List Nat) (rest:Nat):Prop:=
 out.length=x.length/\G5 out/\out.take j=x.take j/\wv 4294967296 (out.drop j)=wv 4294967296 (x.drop j) / d/\rest=wv 4294967296 (x.drop j) % d
theorem b5K {x:List Nat} {d:Nat} (hx:G5 x):b0R x d x.length x 0:=by
 refine ⟨rfl,hx,rfl,?_,?_⟩<;>rw [List.drop_of_length_le (c7b _)]<;>simp [wv]
theorem b6p {x:List Nat} {d j:Nat} {out:List Nat} {rest:Nat} (h:b0R x d (j+1) out rest) (hj:j < x.length) (hd:0 < d) (hd32:d < 4294967296) (hx:x[j] < 4294967296) :
  b0R x d j (out.set j ((rest*4294967296+x[j]) / d)) ((rest*4294967296+x[j]) % d)/\(rest*4294967296+x[j]) / d < 4294967296/\rest < 4294967296:=by
 obtain ⟨h1,h2,h3,h4,h5⟩:=h
 have hrd:rest < d:=by rw [h5];exact Nat.mod_lt _ hd
 have hs:(rest*4294967296+x[j]) / d < 4294967296:=by
  rw [Nat.div_lt_iff_lt_mul hd]
  have:(rest+1)*4294967296<=d*4294967296:=c7y _ hrd
  rw [Nat.mul_comm d] at this;omega
 have hxd:=a3c 4294967296 hj
 have hW:=Nat.div_add_mod (wv 4294967296 (x.drop (j+1))) d
 rw [<- h5,<- h4] at hW
 have e:wv 4294967296 (x.drop j)=(rest*4294967296+x[j])+d*(4294967296*wv 4294967296 (out.drop (j+1))):=by
  rw [hxd,<- hW,Nat.mul_add];grind
 refine ⟨⟨by simp [h1],h2.set hs,?_,?_,?_⟩,hs,by omega⟩
 ·rw [List.take_set_of_le (c7b _)]
  have:=congrArg (List.take j) h3
  simpa [List.take_take,Nat.min_eq_left (show j<=j+1 by omega)] using this
 ·rw [a3c _ (by rw [c7J];omega),List.getElem_set_self,List.drop_set_of_lt (by omega),e,Nat.add_mul_div_left _ _ hd]
 ·rw [e,Nat.add_mul_mod_self_left]
theorem P8 {α:Type} {a b:List α} {j:Nat} (h:a.take (j+1)=b.take (j+1)):a[j]?=b[j]?:=by
 have:=congrArg (fun l=>l[j]?) h
 simpa using this
end Nm
theorem a0l (l:List UInt8):(bs l=(⟨#[]⟩:ByteArray))=(l=[]):=b7O l []
theorem b3C (a b:List UInt8) (ha:a.length<=274877906944) (hb:b.length<=274877906944) (h0:Nm.val b ≠ 0):y9 Tryz.prog 144 [sb a,sb b] (.tup [sb (Nm.enc (Nm.val a / Nm.val b)),sb (Nm.enc (Nm.val a % Nm.val b)),ints 0]):=by
  refine kS b8u b7B (by rfl) fun w O=>?_
  simp only [b1b,j5,TT,II,OA,OB,OC,MM,VV,MG,sb,ints]
  have hta:=Nm.Y4 a
  have htb:=Nm.Y4 b
  have hva:=Nm.R6 a
  have hvb:=Nm.R6 b
  have hla:=Nm.X5 (Nm.trim a)
  have hlb:=Nm.X5 (Nm.trim b)
  have hwa:=Nm.a0n (Nm.trim a)
  have hwb:=Nm.a0n (Nm.trim b)
  have h3a:=Nm.a0m (Nm.trim a)
  have h3b:=Nm.a0m (Nm.trim b)
  have hca:=Nm.X7 a
  have hcb:=Nm.X7 b
  have htopb:=Nm.a8a (Nm.trim b)
  have htopa:=Nm.a8a (Nm.trim a)
  have fta:=a0p a (by omega)
  have ftb:=a0p b (by omega)
  rw [Nm.a7V] at hla hlb
  rw [<- hva,<- hvb]
  rw [<- hvb] at h0
  clear hva hvb
  generalize Nm.trim a=x at *
  generalize Nm.trim b=y at *
  have hy0:y ≠ []:=fun h=>by subst h;exact h0 rfl
  (repeat first|refine uA ?_|(apply uK;focus omega)|simp (disch:=omega) only [go_sem,Nat.reduceBEq,Nat.reduceAdd]|(apply uB fta;exact rfl)|(apply uB ftb;exact rfl))
  (refine uJ rfl (fun hc=>?_) fun hc=>?_)
  · rw [a0l] at hc;exact absurd hc hy0
  (repeat first|refine uA ?_|(apply uK;focus omega)|simp (disch:=omega) only [go_sem,Nat.reduceBEq,F4])
  (refine uJ rfl (fun hc=>?_) fun hc=>?_)
  · have hx7:=Nm.a0q (l:=x) (k:=8) (by omega)
    have hy7:=Nm.a0q (l:=y) (k:=8) (by omega)
    have e1:Nm.val x % 18446744073709551616=Nm.val x:=Nat.mod_eq_of_lt (by omega)
    have e2:Nm.val y % 18446744073709551616=Nm.val y:=Nat.mod_eq_of_lt (by omega)
    have fx:=a1I x (by omega)
    have fy:=a1I y (by omega)
    rw [e1] at fx
    rw [e2] at fy
    have hqb:Nm.val x / Nm.val y < 18446744073709551616:=Nat.lt_of_le_of_lt (Nat.div_le_self _ _) (by omega)
    have hrb:Nm.val x % Nm.val y < 18446744073709551616:=c7x (Nat.mod_lt _ (by omega)) (by omega)
    have hf:=a0x _ hqb
    have hg:=a0x _ hrb
    have hq:Int.tdiv (Nm.val x:Int) (Nm.val y:Int)=((Nm.val x / Nm.val y:Nat):Int):=rfl
    have hr:Int.tmod (Nm.val x:Int) (Nm.val y:Int)=((Nm.val x % Nm.val y:Nat):Int):=rfl
    generalize Nm.val x / Nm.val y=q at *
    generalize Nm.val x % Nm.val y=r at *
    (repeat first|refine uA ?_|(apply uK;focus omega)|simp (disch:=omega) only [go_sem,Nat.reduceBEq,ww,hq,hr]|(apply uB fx;exact rfl)|(apply uB fy;exact rfl)|(apply uB hf;exact rfl)|(apply uB hg;exact rfl))
    exact S.done (j3.out rfl (Imp.refl rfl) rfl)
  have hcn:=b5p (Nm.val x) (Nm.val y)
  (repeat first|refine uA ?_|(apply uK;focus omega)|simp (disch:=omega) only [go_sem,Nat.reduceBEq]|(apply uB (b1j x y (by omega) (by omega));exact rfl))
  (refine uJ rfl (fun hc=>?_) fun hc=>?_)
  · have h1:=hcn.1 hc
    rw [Nat.div_eq_of_lt h1,Nat.mod_eq_of_lt h1,Nm.a0W,Nm.a1v hca]
    (repeat first|refine uA ?_|(apply uK;focus omega)|simp (disch:=omega) only [go_sem,Nat.reduceBEq])
    exact S.done (j3.out rfl (Imp.refl rfl) rfl)
  have hge:Nm.val y<=Nm.val x:=by
    rcases c7p (Nm.val x) (Nm.val y) with h|h
    · exact absurd (hcn.2 h) hc
    · exact h
  have fwx:=a2E x (by omega)
  have fwy:=(a2E y (by omega)).spec
  rw [<- hwa,<- hwb] at hge
  rw [<- hwb] at h0
  rw [<- hwa] at htopa
  rw [<- hwb] at htopb
  rw [<- hwa,<- hwb]
  clear hwa hwb hcn hc
  generalize Nm.J9 x=p at *
  generalize Nm.J9 y=q at *
  have hq0:q ≠ []:=fun h=>by subst h;exact h0 rfl
  have hql:0 < q.length:=List.length_pos_iff.2 hq0
  have hle:q.length<=p.length:=by
    rcases c7p p.length q.length with h|h
    · exfalso
      have h2:=htopb hq0
      have h3:=Nm.M6 4294967296 h3a
      have h4:4294967296 ^ p.length<=4294967296 ^ (q.length-1):=c7z (by decide) (by omega)
      omega
    · exact h
  (repeat first|refine uA ?_|(apply uK;focus omega)|simp (disch:=omega) only [go_sem,Nat.reduceBEq,D9]|refine l8.t (FNew.t fwx rfl) ?_|(apply uB fwy;exact rfl))
  clear fwx fwy fta ftb
  (refine uJ rfl (fun hc=>?_) fun hc=>?_)
  · obtain ⟨d,rfl⟩:∃ d,q=[d]:=by
      match q,hc with
      | [d],_=>exact ⟨d,rfl⟩
      | [],h=>simp at h
      | _::_::_,h=>simp at h;omega
    have hd32:d < 4294967296:=h3b d (by simp)
    have hwd:Nm.wv 4294967296 [d]=d:=by simp [Nm.wv]
    rw [hwd] at h0 ⊢
    have hpl:p.length<=68719476737:=by omega
    clear hge hle htopa htopb hla hlb hc
    (repeat first|refine uA ?_|(apply uK;focus omega)|simp (disch:=omega) only [go_sem,Nat.reduceBEq,ww,D9])
    refine S.loop (X:=Nat × List Nat × Nat) (fun s=>⟨[(7,.rv 0),(8,.sl 1 (ws [d])),(9,.v (.int .u64 (s.2.2:Int))),(10,ints ((s.1:Int)-1))],[.row 222 1 (ws s.2.1)]⟩) (fun s=>s.1<=p.length/\Nm.b0R p d s.1 s.2.1 s.2.2) (fun s=>s.1) (p.length,p,0) ⟨c7b _,Nm.b5K h3a⟩ (by (repeat first|refine uA ?_|(refine ⟨?_,?_⟩;focus first|rfl|trivial|(simp [slot];done))|rfl|trivial|simp)) ?_
    rintro ⟨j,out,rest⟩ ⟨hj,hinv⟩
    simp only [ints] at hj hinv ⊢
    have hol:=hinv.1
    (repeat first|refine uA ?_|(apply uK;focus omega)|simp (disch:=omega) only [go_sem,Nat.reduceBEq])
    (refine uJ rfl (fun hc=>?_) fun hc=>?_)
    · obtain ⟨k,rfl⟩:∃ k,j=k+1:=⟨j-1,by omega⟩
      rw [show (((k+1:Nat):Int)-1)=(k:Int) by omega]
      have hgp:p[k]?=some (p[k]'(by omega)):=c6T (by omega)
      have hgo:out[k]?=some (p[k]'(by omega)):=by rw [Nm.P8 hinv.2.2.1,hgp]
      have hp32:=h3a _ (c7k (show k < p.length by omega))
      obtain ⟨hs,hq32,hr32⟩:=Nm.b6p hinv (by omega) (by omega) hd32 hp32
      generalize p[k]'(by omega)=pk at *
      have hor:=b4S rest pk hr32 hp32
      have hwd0:(ws [d])[0]?=some (wd d):=rfl
      have hq:Int.tdiv ((rest*4294967296+pk:Nat):Int) (d:Int)=(((rest*4294967296+pk) / d:Nat):Int):=rfl
      have hr:Int.tmod ((rest*4294967296+pk:Nat):Int) (d:Int)=(((rest*4294967296+pk) % d:Nat):Int):=rfl
      generalize rest*4294967296+pk=s at *
      generalize s / d=sq at *
      generalize s % d=sr at *
      (repeat first|refine uA ?_|(apply uK;focus omega)|simp (disch:=omega) only [go_sem,Nat.reduceBEq,Nat.reduceAdd,Nat.reduceLeDiff,Int.reducePow,ww,D9,I6,hgo,hwd0,c6V,wd,hor,hq,hr,O3])
      refine S.next (x:=(k+1,out,rest)) (k,_,_) ⟨by simp only;omega,hs⟩ (by simp only;omega) (by (repeat first|refine uA ?_|(refine ⟨?_,?_⟩;focus first|rfl|trivial|(simp [slot];done))|rfl|trivial|simp))
    · have hj0:j=0:=by omega
      subst hj0
      obtain ⟨h1,h2,_,h4,h5⟩:=hinv
      rw [List.drop_zero] at h4 h5
      rw [List.drop_zero] at h4
      rw [<- h4,<- h5]
      have hrd:rest < d:=by rw [h5];exact Nat.mod_lt _ (by omega)
      have ft:=a4R out (by omega) h2
      have hf:=a0x rest (by omega)
      (repeat first|refine uA ?_|(apply uK;focus omega)|simp (disch:=omega) only [go_sem,Nat.reduceBEq]|(apply uB hf;exact rfl)|(apply uC ft;exact rfl;focus (repeat' first|exact j4.nil|exact Imp.refl rfl|exact Imp.frz rfl rfl rfl|(refine Imp.U3 rfl rfl ?_ ?_;(focus ((try simp only [c7e]);omega));(focus first|rfl|assumption))|refine j4.cons ?_ ?_);done))
      exact S.done (j3.out rfl (Imp.refl rfl) rfl)
  · have hfl:=c5I p q (by omega) h3a h3b hle (by omega) (htopb hq0)
    have hqx:=Nm.M6 4294967296 h3a
    have hpw:4294967296 ^ p.length=4294967296 ^ (p.length+1-q.length)*4294967296 ^ (q.length-1):=by
      rw [<- Nat.pow_add];congr 1;omega
    have hqq:Nm.wv 4294967296 p / Nm.wv 4294967296 q < 4294967296 ^ (p.length+1-q.length):=by
      rw [Nat.div_lt_iff_lt_mul (by omega)]
      rw [hpw] at hqx
      exact c7x hqx (Nat.mul_le_mul_left _ (htopb hq0))
    have hqy:=Nm.M6 4294967296 h3b
    have hrr:Nm.wv 4294967296 p % Nm.wv 4294967296 q < 4294967296 ^ q.length:=Nat.lt_trans (Nat.mod_lt _ (by omega)) hqy
    have ft1:=a4R _ (by rw [Nm.K3];omega) (Nm.a1b (B:=4294967296) (by decide) (p.length+1-q.length) (Nm.wv 4294967296 p / Nm.wv 4294967296 q))
    have ft2:=a4R _ (by rw [Nm.K3];omega) (Nm.a1b (B:=4294967296) (by decide) q.length (Nm.wv 4294967296 p % Nm.wv 4294967296 q))
    rw [Nm.X8 hqq] at ft1
    rw [Nm.X8 hrr] at ft2
    refine S.weaken (st':=⟨[(7,.sl 1 (ws p)),(8,.sl 1 (ws q))],[.gone]⟩) (Ent.mk _ _ (P6.cons (Imp.frz rfl rfl rfl) (P6.cons (Imp.refl rfl) P6.nil)) (by (repeat first|refine uA ?_|rfl|simp [slot])) (c6Z _)) ?_
    (repeat first|refine uA ?_|(apply uK;focus omega)|simp (disch:=omega) only [go_sem,Nat.reduceBEq]|(apply uB hfl;exact rfl)|(apply uB ft1;exact rfl)|(apply uB ft2;exact rfl))
    exact S.done (j3.out rfl (Imp.refl rfl) rfl)
end Go.Proofs.YtgpegbfnlkidjaaGreatDoor
namespace Go.Proofs
open Go.Shelf
def Tryz.b4R:Go.Shelf.Ren:=⟨fun|29=>215|n=>n,fun|22=>218|3=>3|4=>4|25=>223|54=>276|0=>0|5=>5|n=>n,fun|1=>1|n=>n⟩
theorem Tryz.c1O:Go.Proofs.Lays7.n29 Tryz.prog Tryz.b4R:={
 mixed:=by kernel_rfl
 f29:=Tryz.func215.trans (congrArg some (by kernel_rfl))
 t0:=Tryz.underlying0
 a0:=Tryz.isAgg0
 z0:=Tryz.sizeOf0
 v0:=Tryz.zeroValue0
 i0:=by kernel_rfl
 t3:=Tryz.underlying3
 a3:=Tryz.isAgg3
 z3:=Tryz.sizeOf3
 v3:=Tryz.zeroValue3
 i3:=by kernel_rfl
 t4:=Tryz.underlying4
 a4:=Tryz.isAgg4
 z4:=Tryz.sizeOf4
 v4:=Tryz.zeroValue4
 i4:=by kernel_rfl
 t5:=Tryz.underlying5
 a5:=Tryz.isAgg5
 z5:=Tryz.sizeOf5
 v5:=Tryz.zeroValue5
 i5:=by kernel_rfl
 t22:=Tryz.underlying218
 a22:=Tryz.isAgg218
 z22:=Tryz.sizeOf218
 v22:=Tryz.zeroValue218
 i22:=by kernel_rfl
 t25:=Tryz.underlying223
 a25:=Tryz.isAgg223
 z25:=Tryz.sizeOf223
 v25:=Tryz.zeroValue223
 i25:=by kernel_rfl
 t54:=Tryz.underlying276
 a54:=Tryz.isAgg276
 z54:=Tryz.sizeOf276
 g1:=by kernel_rfl }
open Go.RowKit in
theorem Tryz.bits_TrailingZeros64 (x:Nat) (hx:x < 18446744073709551616) (w:World) (hT:x ≠ 0->TabAt 1 Lib.deBruijn64tab w) :
  Calls Tryz.prog 215 #[.int .u64 x] w fun e w'=>e=.returned (.int .i64 (Lib.ctz 64 x))/\w'=w:=Any7.bits_TrailingZeros64 Tryz.c1O x hx w hT
end Go.Proofs
namespace Go.Proofs.YtgpegbfnlkidjaaGreatDoor
open Go Go.RowKit Eng
def Wz (w:World):Prop:=TabAt 1 Lib.deBruijn64tab w
abbrev FZ (f:Nat) (args:List C) (r:C):Prop:=a0o Tryz.prog Wz f args r
namespace Eng
def Tz (E:Ctx):Prop:=Wz E.w0/\¬ E.own0 1
theorem c2p {w:World} (h:Wz w):1 < w.heap.size:=by
 have:=h 0 (by decide)
 exact block_lt_of_cell this
theorem Tz.at {E:Ctx} (h:Tz E) {w:World} (hF:Frm E.own0 E.w0 w):Wz w:=by
 intro j hj
 rw [<- h.1 j hj]
 exact World.cell?_of_block (hF.block _ (c2p h.1) h.2)
section
variable {E:Ctx} {rs:List Res} {f:Nat} {args args':List C} {r:C}
theorem U1.c6l {p:Bool} (ht:Tz E) (hs:p=true->a0o E.P Wz f args' r) (hi:p=true->j4 rs rs args args') (hcl:p=true->C.clL args'=true):U1 E rs p f args r:=by
 intro hp av ν w vs hR hav hF hD
 have hlt:∀ b,OO av rs ν b->b < w.heap.size:=fun b hb=>by
  rcases hb with hb|hb
  ·exact hR.av b hb
  ·exact (hR.low b hb).1
 have hD':=(hi hp).den hR (Cut.of hR (a3H rs)) hD
 have et:ν.take rs.length=ν:=by rw [<- hR.len];exact c7l
 rw [et] at hD'
 refine (hs hp (OO av rs ν) w vs (ht.at hF) hlt (hD'.fz (hcl hp))).mono ?_
 rintro e w' ⟨y,rfl,h1,h2⟩
 exact ⟨y,rfl,h1,h2.den ν⟩
theorem U1.c6m {p:Bool} (ht:Tz E) (hs:p=true->a0o E.P Wz f args' r) (hi:p=true->j4 rs [] args args') (hcl:p=true->C.clL args'=true) (hr:r.flat=true):U1 E rs p f args r:=by
 intro hp av ν w vs hR hav hF hD
 have hC:Cut av rs [] ν:=Cut.of hR (by simp [R7])
 have hD':=(hi hp).den hR hC hD
 have hlt:∀ b,OO av [] (ν.take ([]:List Res).length) b->b < w.heap.size:=fun b hb=>by
  rcases hC.sub b hb with hb|hb
  ·exact hR.av b hb
  ·exact (hR.low b hb).1
 refine (hs hp _ w vs (ht.at hF) hlt (hD'.fz (hcl hp))).mono ?_
 rintro e w' ⟨y,rfl,h1,h2⟩
 exact ⟨y,rfl,h1,Fz.flat hr h2⟩
variable {g q:Prop} {p:Bool} {a a':List C}
theorem uD {P:Program} (hs:a0o P Wz f a' r) [h:By g E rs p f a r q] (ht:Tz E) (e:(E.P,a,(C.bdL rs.length a && C.clL a))=(P,a',true)) (x:q):g:=by
 injection e with e1 e2
 injection e2 with e2 e3
 rw [c7c] at e3
 subst e1 e2
 exact h.go (U1.c6l ht (fun _=>hs) (fun _=>j4.refl e3.1) (fun _=>e3.2)) x
theorem uE {P:Program} (hs:a0o P Wz f a' r) [h:By g E rs p f a r q] (ht:Tz E) (e:(E.P,C.clL a',r.flat)=(P,true,true)) (hi:j4 rs [] a a') (x:q):g:=by
 injection e with e1 e2
 injection e2 with e2 e3
 subst e1
 exact h.go (U1.c6m ht (fun _=>hs) (fun _=>hi) (fun _=>e2) e3) x
theorem uG {P:Program} (hs:a0o P Wz f a' r) {st:St} {ok:Prop} {d:Option Nat} {K:St->Prop} (x:ok/\KPg st false d K r):a0y E st false f a ok d K:=
 .inr ⟨x.1,.inr (.inr ⟨r,(fun h=>absurd h (by decide)),x.2⟩)⟩
end
theorem tz {P:Program} {eff:Nat->Bool} {N:Nat} {w:World} {O:Nat->Prop} (hw:Wz w):Tz ⟨P,eff,N,w,fun _=>False,O,[],[]⟩:=⟨hw,fun h=>h⟩
end Eng
theorem c5l {x:Nat} (h0:x ≠ 0) (h:x < 18446744073709551616):Lib.ctz 64 x=Nm.v2 x:=by
 unfold Lib.ctz
 rw [if_neg h0]
 obtain ⟨m,h1,_⟩:=Lib.ctzFrom_spec 64 x (by omega) h
 exact (Nm.c2B h1 (by omega)).symm
theorem c6D (x:Nat) (h0:x ≠ 0) (h:x < 18446744073709551616):FZ 215 [.v (.int .u64 (x:Int))] (.v (.int .i64 (Nm.v2 x:Int))):=by
 intro O w vs hw hO hA
 simp only [FzL,Fz] at hA
 obtain ⟨y,ys,rfl,rfl,rfl⟩:=hA
 refine (Tryz.bits_TrailingZeros64 x h w (fun _=>hw)).mono ?_
 rintro e w' ⟨rfl,rfl⟩
 exact ⟨_,rfl,Below.refl _ _,by simp only [Fz,c5l h0 h]⟩
set_option maxRecDepth 10000
set_option maxHeartbeats 4000000
def ls (l:List Nat):List (List C):=l.map lm
theorem F8 (l:List Nat):(ls l).length=l.length:=by simp [ls]
theorem O1 (l:List Nat) (i:Nat):(ls l)[i]?=(l[i]?).map lm:=by simp [ls]
theorem a1C (l:List Nat) (i v:Nat):(ls l).set i [.v (.int .u64 (v:Int))]=ls (l.set i v):=by
 simp only [ls,List.map_set,lm]
theorem c1l (n:Nat):List.replicate n [C.v (.int .u64 0)]=ls (List.replicate n 0):=by simp [ls,lm]
theorem c6e (n:Nat) (h:n<=1099511627776):IntKind.i64.wrap (((n:Int)+7).tdiv 8)=(((n+7) / 8:Nat):Int):=by
 have:((n:Int)+7).tdiv 8=(((n+7) / 8:Nat):Int):=rfl
 rw [this,Eng.wrap_i64 (by omega)]
theorem c2s (i:Nat) (h:i<=1099511627776):IntKind.i64.wrap ((i:Int).tdiv 8)=((i / 8:Nat):Int):=by
 have:(i:Int).tdiv 8=((i / 8:Nat):Int):=rfl
 rw [this,Eng.wrap_i64 (by omega)]
theorem b4P (i:Nat):(i:Int).tmod 8=((i % 8:Nat):Int):=rfl
theorem c0F (o:Nat) (b:UInt8) (i:Nat) (ho:o < 18446744073709551616) (hb:b.toNat*2 ^ (8*(i % 8)) < 18446744073709551616) :
  bits .or .u64 (o:Int) (IntKind.u64.wrap (IntKind.u64.wrap ((b.toNat:Nat):Int)*2 ^ min (((i % 8:Nat):Int)*8).toNat 64))=((o ||| b.toNat*2 ^ (8*(i % 8)):Nat):Int):=by
 have h0:=b.toNat_lt
 rw [Eng.wrap_u64 (n:=((b.toNat:Nat):Int)) (by omega),show min (((i % 8:Nat):Int)*8).toNat 64=8*(i % 8) by omega]
 have e:((b.toNat:Nat):Int)*2 ^ (8*(i % 8))=((b.toNat*2 ^ (8*(i % 8)):Nat):Int):=by rw [Int.natCast_mul,Int.natCast_pow];rfl
 rw [e,Eng.wrap_u64 (by omega),b0U _ _ ho hb]
namespace Nm
def M9 (l:List Nat):Prop:=∀ w ∈ l,w < 18446744073709551616
theorem M9.take {l:List Nat} (h:M9 l) (n:Nat):M9 (l.take n):=fun w hw=>h w (List.mem_of_mem_take hw)
theorem M9.drop {l:List Nat} (h:M9 l) (n:Nat):M9 (l.drop n):=fun w hw=>h w (List.mem_of_mem_drop hw)
def T9 (l:List UInt8):List Nat:=dig 18446744073709551616 ((l.length+7) / 8) (val l)
theorem a9n (l:List UInt8):(T9 l).length=(l.length+7) / 8:=K3 _ _ _
theorem b0J (l:List UInt8):M9 (T9 l):=a1b (by decide) _ _
theorem b0u (l:List UInt8):wv 18446744073709551616 (T9 l)=val l:=X8 (by
 refine c7x (Y7 l) ?_
 rw [show (18446744073709551616:Nat)=256 ^ 8 by decide,<- Nat.pow_mul]
 exact c7z (by decide) (by omega))
theorem b1Z {l:List UInt8} {out:List Nat} (h:a2V l l.length out):out=T9 l:=by
 obtain ⟨h1,h2,h3,_⟩:=h
 exact X9 (by decide) h2 h1 (by rw [h3,Nat.sub_self,List.drop_zero])
end Nm
theorem b6N (m:List UInt8) (hm:m.length<=1099511627776):FNew Tryz.prog 196 [sb m] 218 1 (ls (Nm.T9 m)):=by
 refine FNew.of (eff:=eff) Tryz.func196 (by cbv) (by exact c7j rfl) fun w O=>?_
 simp only [j5,TT,II,OA,OB,MM,VV,sb]
 (repeat first|refine uA ?_|(apply uK;focus omega)|simp only [go_sem,Nat.reduceBEq,Nat.reduceAdd,F4]|simp (disch:=omega) only [ww,c6e m.length hm])
 refine S.loop (X:=Nat × List Nat) (fun x=>⟨[(0,sb m),(3,.rv 0),(11,ints m.length),(12,ints x.1)],[.row 218 1 (ls x.2)]⟩) (fun x=>x.1<=m.length/\Nm.a2V m x.1 x.2) (fun x=>m.length-x.1) (0,List.replicate ((m.length+7) / 8) 0) ⟨c6Z _,Nm.b0a m⟩ (by simp only [<- c1l];exact (by (repeat first|refine uA ?_|(refine ⟨?_,?_⟩;focus first|rfl|trivial|(simp [slot];done))|rfl|trivial|simp))) ?_
 rintro ⟨i,out⟩ ⟨hi,hinv⟩
 simp only [sb,ints] at hi hinv ⊢
 (repeat first|refine uA ?_|(apply uK;focus omega)|simp (disch:=omega) only [go_sem,Nat.reduceBEq])
 (refine uJ rfl (fun hc=>?_) fun hc=>?_)
 ·have hi':i < m.length:=by omega
  have hol:=hinv.1
  have hj:i / 8 < out.length:=by omega
  obtain ⟨hst,hlt,hbl⟩:=Nm.b1k hinv hi' hj
  have hgo:out[i / 8]?=some out[i / 8]:=c6T hj
  have ho32:=hinv.2.1 _ (c7k hj)
  have hgm:m.getD ((m.length:Int)-1-(i:Int)).toNat 0=m[m.length-1-i]:=by
   rw [show ((m.length:Int)-1-(i:Int)).toNat=m.length-1-i by omega,c7g,c6T (by omega)]
   rfl
  (repeat first|refine uA ?_|(apply uK;focus omega)|simp only [go_sem,Nat.reduceBEq,Nat.reduceAdd,Nat.reduceLeDiff,F4,a0i,F8,O1,hgo,c6V,c2s i (by omega),b4P,lm]|simp (disch:=omega) only [ww,hgm,c0F _ _ _ ho32 hbl,a1C])
  refine S.next (x:=(i,out)) (i+1,_) ⟨hi',hst⟩ (by simp only;omega) (by (repeat first|refine uA ?_|(refine ⟨?_,?_⟩;focus first|rfl|trivial|(simp [slot];done))|rfl|trivial|simp))
 ·have hi':i=m.length:=by omega
  subst hi'
  (repeat first|refine uA ?_|(apply uK;focus omega)|simp (disch:=omega) only [go_sem,Nat.reduceBEq])
  rw [<- Nm.b1Z hinv]
  exact S.done (j3.new rfl rfl rfl)
theorem b4v (x y:Nat) (hx:x < 18446744073709551616) (hy:y < 18446744073709551616):y9 Tryz.prog 173 [.v (.int .u64 (x:Int)),.v (.int .u64 (y:Int))] (.v (.int .u64 (Nat.gcd x y:Int))):=by
 refine kS Tryz.func173 (by cbv) (by rfl) fun w O=>?_
 simp only [j5,TT,OA,MM]
 (repeat first|refine uA ?_|(apply uK;focus omega)|simp (disch:=omega) only [go_sem])
 refine S.loop (X:=Nat × Nat) (fun s=>⟨[(0,.v (.int .u64 (s.1:Int))),(1,.v (.int .u64 (s.2:Int)))],[]⟩) (fun s=>Nat.gcd s.1 s.2=Nat.gcd x y/\s.2 < 18446744073709551616) (fun s=>s.2) (x,y) ⟨rfl,hy⟩ (by (repeat first|refine uA ?_|(refine ⟨?_,?_⟩;focus first|rfl|trivial|(simp [slot];done))|rfl|trivial|simp)) ?_
 rintro ⟨a,b⟩ ⟨h1,h2⟩
 simp only at h1 h2 ⊢
 (repeat first|refine uA ?_|(apply uK;focus omega)|simp (disch:=omega) only [go_sem,Nat.reduceBEq])
 (refine uJ rfl (fun hc=>?_) fun hc=>?_)
 ·have hr:Int.tmod (a:Int) (b:Int)=((a % b:Nat):Int):=rfl
  have hlt:a % b < b:=Nat.mod_lt _ (by omega)
  (repeat first|refine uA ?_|(apply uK;focus omega)|simp only [go_sem,Nat.reduceBEq,hr]|simp (disch:=omega) only [ww,hr])
  refine S.next (x:=(a,b)) (b,a % b) ⟨by rw [<- h1];simp only;rw [Nat.gcd_comm b,<- Nat.gcd_rec,Nat.gcd_comm],by simp only;omega⟩ (by simp only;omega) (by (repeat first|refine uA ?_|(refine ⟨?_,?_⟩;focus first|rfl|trivial|(simp [slot];done))|rfl|trivial|simp))
 ·have hb:b=0:=by omega
  subst hb
  rw [Nat.gcd_zero_right] at h1
  rw [<- h1]
  (repeat first|refine uA ?_|(apply uK;focus omega)|simp (disch:=omega) only [go_sem,Nat.reduceBEq])
  exact S.done (j3.out rfl (Imp.refl rfl) rfl)
theorem c2Z (x y:List Nat) (hxl:x.length<=274877906944) (hyl:y.length<=274877906944) (hx:Nm.M9 x) (hy:Nm.M9 y) (hxc:∀ h:x ≠ [],x.getLast h ≠ 0) (hyc:∀ h:y ≠ [],y.getLast h ≠ 0) :
    y9 Tryz.prog 199 [.sl 1 (ls x),.sl 1 (ls y)] (.v (.bool (decide (Nm.wv 18446744073709551616 x < Nm.wv 18446744073709551616 y)))):=by
  have top:∀ {a b:List Nat},Nm.M9 a->(∀ h:b ≠ [],b.getLast h ≠ 0)->a.length < b.length->Nm.wv 18446744073709551616 a < Nm.wv 18446744073709551616 b:=by
    intro a b ha hb hl
    have hne:b ≠ []:=fun h=>by subst h;simp at hl
    have h1:=Nm.b5F (B:=18446744073709551616) (l:=b.dropLast) (hb hne)
    rw [List.dropLast_concat_getLast hne,List.length_dropLast] at h1
    have h2:=Nm.M6 18446744073709551616 ha
    have h3:18446744073709551616 ^ a.length<=18446744073709551616 ^ (b.length-1):=c7z (by decide) (by omega)
    omega
  refine kS Tryz.func199 (by cbv) (by rfl) fun w O=>?_
  simp only [j5,TT,II,OA,MM,VV]
  (repeat first|refine uA ?_|(apply uK;focus omega)|simp only [go_sem,Nat.reduceBEq,Nat.reduceAdd,F8]|simp (disch:=omega) only [ww,F8])
  (refine uJ rfl (fun hc=>?_) fun hc=>?_)
  · have he:decide (Nm.wv 18446744073709551616 x < Nm.wv 18446744073709551616 y)=decide ((x.length:Int) < (y.length:Int)):=by
      rw [decide_eq_decide]
      constructor
      · intro h
        rcases Nat.lt_trichotomy x.length y.length with h1|h1|h1
        · omega
        · omega
        · have:=top hy hxc h1;omega
      · intro h;exact top hx hyc (by omega)
    rw [he]
    (repeat first|refine uA ?_|(apply uK;focus omega)|simp only [go_sem,Nat.reduceBEq,F8]|simp (disch:=omega) only [ww,F8])
    exact S.done (j3.out rfl (Imp.refl rfl) rfl)
  · have hl:x.length=y.length:=by omega
    (repeat first|refine uA ?_|(apply uK;focus omega)|simp only [go_sem,Nat.reduceBEq,F8]|simp (disch:=omega) only [ww])
    refine S.loop (X:=Nat) (fun j=>⟨[(0,.sl 1 (ls x)),(1,.sl 1 (ls y)),(5,ints ((j:Int)-1))],[]⟩) (fun j=>j<=x.length/\x.drop j=y.drop j) (fun j=>j) x.length ⟨c7b _,by rw [List.drop_of_length_le (c7b _),List.drop_of_length_le (by omega)]⟩ (by (repeat first|refine uA ?_|(refine ⟨?_,?_⟩;focus first|rfl|trivial|(simp [slot];done))|rfl|trivial|simp)) ?_
    rintro j ⟨hj,hd⟩
    simp only [ints]
    (repeat first|refine uA ?_|(apply uK;focus omega)|simp (disch:=omega) only [go_sem,Nat.reduceBEq])
    (refine uJ rfl (fun hc=>?_) fun hc=>?_)
    · obtain ⟨k,rfl⟩:∃ k,j=k+1:=⟨j-1,by omega⟩
      rw [show (((k+1:Nat):Int)-1)=(k:Int) by omega]
      have hgx:x[k]?=some (x[k]'(by omega)):=c6T (by omega)
      have hgy:y[k]?=some (y[k]'(by omega)):=c6T (by omega)
      have hsx:=Nm.a3n 18446744073709551616 x k (by omega)
      have hsy:=Nm.a3n 18446744073709551616 y k (by omega)
      have hdx:x.drop k=x[k]'(by omega)::x.drop (k+1):=List.drop_eq_getElem_cons (by omega)
      have hdy:y.drop k=y[k]'(by omega)::y.drop (k+1):=List.drop_eq_getElem_cons (by omega)
      generalize x[k]'(by omega)=xk at *
      generalize y[k]'(by omega)=yk at *
      rw [hdx] at hsx
      rw [hdy,<- hd] at hsy
      simp only [Nm.wv] at hsx hsy
      generalize Nm.wv 18446744073709551616 (x.drop (k+1))=T at *
      have hlx:=Nm.M6 18446744073709551616 (hx.take k)
      have hly:=Nm.M6 18446744073709551616 (hy.take k)
      rw [c7d,Nat.min_eq_left (by omega)] at hlx hly
      rw [Nat.mul_add] at hsx hsy
      (repeat first|refine uA ?_|(apply uK;focus omega)|simp only [go_sem,Nat.reduceBEq,F8,O1,hgx,hgy,c6V,lm]|simp (disch:=omega) only [ww,F8,O1,hgx,hgy,c6V,lm])
      (refine uJ rfl (fun hc=>?_) fun hc=>?_)
      · have he:decide (Nm.wv 18446744073709551616 x < Nm.wv 18446744073709551616 y)=decide ((xk:Int) < (yk:Int)):=by
          rw [decide_eq_decide]
          rcases Nat.lt_trichotomy xk yk with h|h|h
          · have:=Nat.mul_le_mul_left (18446744073709551616 ^ k) h
            rw [Nat.mul_succ] at this
            omega
          · omega
          · have:=Nat.mul_le_mul_left (18446744073709551616 ^ k) h
            rw [Nat.mul_succ] at this
            omega
        rw [he]
        (repeat first|refine uA ?_|(apply uK;focus omega)|simp only [go_sem,Nat.reduceBEq,F8,O1,hgx,hgy,c6V,lm]|simp (disch:=omega) only [ww,F8,O1,hgx,hgy,c6V,lm])
        exact S.done (j3.out rfl (Imp.refl rfl) rfl)
      · have:xk=yk:=by omega
        (repeat first|refine uA ?_|(apply uK;focus omega)|simp (disch:=omega) only [go_sem,Nat.reduceBEq,ww])
        refine S.next (x:=k+1) k ⟨by omega,by rw [hdx,hdy,this,hd]⟩ (by omega) (by (repeat first|refine uA ?_|(refine ⟨?_,?_⟩;focus first|rfl|trivial|(simp [slot];done))|rfl|trivial|simp))
    · have hj0:j=0:=by omega
      subst hj0
      rw [List.drop_zero,List.drop_zero] at hd
      rw [hd]
      have he:decide (Nm.wv 18446744073709551616 y < Nm.wv 18446744073709551616 y)=false:=by simp
      rw [he]
      (repeat first|refine uA ?_|(apply uK;focus omega)|simp (disch:=omega) only [go_sem])
      exact S.done (j3.out rfl (Imp.refl rfl) rfl)
theorem c2O {x n:Nat} {T:Nat} (h0:x ≠ 0) (h:x < 18446744073709551616):Nm.v2 (18446744073709551616 ^ n*(x+18446744073709551616*T))=64*n+Nm.v2 x:=by
 obtain ⟨q,h1,h2⟩:=Nm.a3C h0
 have hk:Nm.v2 x < 64:=by
  rcases c7p (Nm.v2 x) 64 with h3|h3
  ·exact h3
  ·exfalso
   have h4:2 ^ 64<=2 ^ Nm.v2 x:=c7z (by decide) h3
   have h5:2 ^ Nm.v2 x<=2 ^ Nm.v2 x*q:=Nat.le_mul_of_pos_right _ (by omega)
   omega
 refine Nm.c2B (q:=q+2 ^ (64-Nm.v2 x)*T) ?_ ?_
 ·have e1:(18446744073709551616:Nat)=2 ^ Nm.v2 x*2 ^ (64-Nm.v2 x):=by rw [<- Nat.pow_add,show Nm.v2 x+(64-Nm.v2 x)=64 by omega]
  have e2:(18446744073709551616:Nat) ^ n=2 ^ (64*n):=by rw [Nat.pow_mul]
  rw [e2,Nat.pow_add,c7B]
  congr 1
  conv=>lhs;rw [h1]
  rw [Nat.mul_add,<- c7B (2 ^ Nm.v2 x),<- e1]
 ·have e3:2 ^ (64-Nm.v2 x)=2*2 ^ (64-Nm.v2 x-1):=by rw [<- Nat.pow_succ'];congr 1;omega
  rw [e3,c7B];omega
theorem a8I (x:List Nat) (hxl:x.length<=274877906944) (hx:Nm.M9 x) (h0:Nm.wv 18446744073709551616 x ≠ 0):FZ 197 [.sl 1 (ls x)] (ints (Nm.v2 (Nm.wv 18446744073709551616 x))):=by
 refine kW Tryz.func197 (by cbv) (by rfl) fun w O hw=>?_
 simp only [j5,TT,II,OA,MM,VV,ints]
 (repeat first|refine uA ?_|(apply uK;focus omega)|simp (disch:=omega) only [go_sem])
 refine S.loop (X:=Nat) (fun n=>⟨[(0,.sl 1 (ls x)),(3,ints n)],[]⟩) (fun n=>n<=x.length/\Nm.wv 18446744073709551616 x=18446744073709551616 ^ n*Nm.wv 18446744073709551616 (x.drop n)) (fun n=>x.length-n) 0 ⟨c6Z _,by simp⟩ (by (repeat first|refine uA ?_|(refine ⟨?_,?_⟩;focus first|rfl|trivial|(simp [slot];done))|rfl|trivial|simp)) ?_
 rintro n ⟨hn,hv⟩
 simp only [ints]
 have hn':n < x.length:=by
  rcases c7p n x.length with h|h
  ·exact h
  ·rw [List.drop_of_length_le h] at hv;simp [Nm.wv] at hv;exact absurd hv h0
 have hgx:x[n]?=some (x[n]'hn'):=c6T hn'
 have hd:x.drop n=x[n]'hn'::x.drop (n+1):=List.drop_eq_getElem_cons hn'
 have hx64:=hx _ (c7k hn')
 generalize x[n]'hn'=xn at *
 rw [hd] at hv
 simp only [Nm.wv] at hv
 (repeat first|refine uA ?_|(apply uK;focus omega)|simp only [go_sem,Nat.reduceBEq,F8,O1,hgx,c6V,lm]|simp (disch:=omega) only [ww,F8,O1,hgx,c6V,lm])
 (refine uJ rfl (fun hc=>?_) fun hc=>?_)
 ·have hz:xn=0:=by omega
  subst hz
  (repeat first|refine uA ?_|(apply uK;focus omega)|simp (disch:=omega) only [go_sem,Nat.reduceBEq,ww])
  refine S.next (x:=n) (n+1) ⟨hn',by rw [hv,c7D,<- c7B,c7F]⟩ (by omega) (by (repeat first|refine uA ?_|(refine ⟨?_,?_⟩;focus first|rfl|trivial|(simp [slot];done))|rfl|trivial|simp))
 ·have hz:xn ≠ 0:=by omega
  have he:=c2O (n:=n) (T:=Nm.wv 18446744073709551616 (x.drop (n+1))) hz hx64
  rw [<- hv] at he
  rw [he]
  have htz:=c6D xn hz hx64
  have hk:Nm.v2 xn < 64:=by
   obtain ⟨q,h1,h2⟩:=Nm.a3C hz
   rcases c7p (Nm.v2 xn) 64 with h3|h3
   ·exact h3
   ·exfalso
    have h4:2 ^ 64<=2 ^ Nm.v2 xn:=c7z (by decide) h3
    have h5:2 ^ Nm.v2 xn<=2 ^ Nm.v2 xn*q:=Nat.le_mul_of_pos_right _ (by omega)
    omega
  have hcast:((64*n+Nm.v2 xn:Nat):Int)=64*(n:Int)+(Nm.v2 xn:Int):=by omega
  rw [hcast]
  generalize Nm.v2 xn=k at *
  (repeat first|refine uA ?_|(apply uK;focus omega)|simp only [go_sem,Nat.reduceBEq,F8,O1,hgx,c6V,lm]|simp (disch:=omega) only [ww]|(apply uD htz;exact tz hw;rfl))
  exact S.done (j3.out rfl (Imp.refl rfl) rfl)
namespace Nm
def G6 (l:List Nat):List Nat:=(l.reverse.dropWhile (· == 0)).reverse
theorem a6Z (l:List Nat):G6 (l++[0])=G6 l:=by simp [G6]
theorem a4x {l:List Nat} {x:Nat} (h:x ≠ 0):G6 (l++[x])=l++[x]:=by simp [G6,h]
theorem a7A:G6 []=[]:=rfl
theorem a5R (l:List Nat):G6 l=l.take (G6 l).length/\(G6 l).length<=l.length/\(∀ B,wv B (G6 l)=wv B l)/\(∀ h:G6 l ≠ [],(G6 l).getLast h ≠ 0):=by
 obtain ⟨r,rfl⟩:∃ r,l=r.reverse:=⟨l.reverse,by simp⟩
 induction r with
 | nil=>simp [a7A]
 | cons x r ih=>
  rw [List.reverse_cons]
  by_cases hx:x=0
  ·subst hx
   rw [a6Z]
   obtain ⟨h1,h2,h3,h4⟩:=ih
   refine ⟨?_,by rw [c7e];omega,fun B=>?_,h4⟩
   ·rw [List.take_append_of_le_length h2];exact h1
   ·rw [h3,a8L];simp
  ·rw [a4x hx]
   refine ⟨by rw [c7l],c7b _,fun B=>rfl,fun h=>?_⟩
   rw [List.getLast_concat];exact hx
theorem b9n (l:List Nat):(G6 l).length<=l.length:=(a5R l).2.1
theorem c1V (B:Nat) (l:List Nat):wv B (G6 l)=wv B l:=(a5R l).2.2.1 B
theorem b7z (l:List Nat):l.take (G6 l).length=G6 l:=(a5R l).1.symm
theorem b0e (l:List Nat) (h:G6 l ≠ []):(G6 l).getLast h ≠ 0:=(a5R l).2.2.2 h
end Nm
def rw2 (s:Bool) (u o:List Nat):List Res:=match s with
 | true=>[.row 218 1 (ls u),.row 218 1 (ls o)]
 | false=>[.row 218 1 (ls o),.row 218 1 (ls u)]
section
variable {rs rs' l:List Res} {u o:List Nat} {r:Res}
instance :Sb (D7 rs rs' (rw2 true u o) l) (D7 rs rs' [.row 218 1 (ls u),.row 218 1 (ls o)] l):=⟨id⟩
instance :Sb (D7 rs rs' (rw2 false u o) l) (D7 rs rs' [.row 218 1 (ls o),.row 218 1 (ls u)] l):=⟨id⟩
instance :Sb (D7 rs rs' (r::l) (rw2 true u o)) (D7 rs rs' (r::l) [.row 218 1 (ls u),.row 218 1 (ls o)]):=⟨id⟩
instance :Sb (D7 rs rs' (r::l) (rw2 false u o)) (D7 rs rs' (r::l) [.row 218 1 (ls o),.row 218 1 (ls u)]):=⟨id⟩
end
def kx (s:Bool):Nat:=match s with
 | true=>0
 | false=>1
theorem a8u {E:Ctx} (hP:E.P=Tryz.prog) (s:Bool) (u o:List Nat) (lo n:Nat) (hl:u.length<=274877906944) (hn:lo+n<=u.length) (hlo:lo < u.length) :
    j6 E (rw2 s u o) 216 [.wv (kx s) 1 lo n] (.wv (kx s) 1 lo (Nm.G6 ((u.drop lo).take n)).length) (rw2 s u o) []:=by
  obtain ⟨P,eff',N,w0,own0,av0,nu0,pk0⟩:=E
  simp only at hP
  subst hP
  cases s
  all_goals
    refine j6.of (eff:=eff) Tryz.func216 (by cbv) (by exact c7j rfl) fun w own av ν hν=>?_
    simp only [j5,TT,II,OA,OC,MM,MG,VG,rw2,kx]
    have hν0:ν.length<=2:=by rw [hν];exact c7b _
    (repeat first|refine uA ?_|(apply uK;focus omega)|simp (disch:=omega) only [go_sem])
  · refine S.loop (X:=Nat) (fun m=>⟨[(0,.wv 1 1 lo m)],[.row 218 1 (ls o),.row 218 1 (ls u)]⟩) (fun m=>m<=n/\Nm.G6 ((u.drop lo).take m)=Nm.G6 ((u.drop lo).take n)) (fun m=>m) n ⟨c7b _,rfl⟩ (Ent.mk _ _ (by (repeat first|refine uA ?_|(refine ⟨?_,?_⟩;focus first|rfl|simp [slot])|rfl|simp)) (by (repeat first|refine uA ?_|(refine ⟨?_,?_⟩;focus first|rfl|simp [slot])|rfl|simp)) hν0) ?_
    rintro m ⟨hm,ht⟩
    have hq:lo+((m:Int)-1).toNat < u.length:=by omega
    have hg:u[lo+((m:Int)-1).toNat]?=some (u[lo+((m:Int)-1).toNat]'hq):=c6T hq
    have hsn:0 < m->(u.drop lo).take m=(u.drop lo).take (m-1)++[u[lo+((m:Int)-1).toNat]'hq]:=fun h=>by
      have e1:(u.drop lo)[m-1]?=some (u[lo+((m:Int)-1).toNat]'hq):=by
        rw [c7I,<- hg];congr 1;omega
      conv=>lhs;rw [show m=m-1+1 by omega,List.take_add_one,e1]
      rfl
    generalize u[lo+((m:Int)-1).toNat]'hq=c at *
    (repeat first|refine uA ?_|(apply uK;focus first|omega|(intros;simp_all<;>omega))|simp (disch:=omega) only [go_sem,Nat.reduceBEq,ww,F8,O1,hg,c6V,lm])
    (refine uJ rfl (fun hc=>?_) fun hc=>?_)
    · obtain ⟨h0,h1⟩:=hc
      have hc0:c=0:=by omega
      have hm1:((m:Int)-1)=((m-1:Nat):Int):=by omega
      rw [hsn (by omega),hc0,Nm.a6Z] at ht
      have hm2:((m:Int)-1).toNat=m-1:=by omega
      (repeat first|refine uA ?_|(apply uK;focus omega)|simp (disch:=omega) only [go_sem,Nat.reduceBEq,ww,hm2,Nat.add_zero,Nat.sub_zero,Int.toNat_zero])
      refine S.next (x:=m) (m-1) ⟨by omega,ht⟩ (by omega) (Ent.mk _ _ (by (repeat first|refine uA ?_|(refine ⟨?_,?_⟩;focus first|rfl|simp [slot])|rfl|simp)) (by (repeat first|refine uA ?_|(refine ⟨?_,?_⟩;focus first|rfl|simp [slot])|rfl|simp)) hν0)
    · have hmt:(Nm.G6 ((u.drop lo).take n)).length=m:=by
        rw [<- ht]
        rcases c7s m with h0|h0
        · subst h0;simp [Nm.a7A]
        · have hcn:c ≠ 0:=by omega
          rw [hsn h0,Nm.a4x hcn,c7e,c7d,c7E,List.length_singleton]
          omega
      rw [hmt]
      (repeat first|refine uA ?_|(apply uK;focus omega)|simp (disch:=omega) only [go_sem,Nat.reduceBEq])
      exact S.done (j3.own rfl)
  · refine S.loop (X:=Nat) (fun m=>⟨[(0,.wv 0 1 lo m)],[.row 218 1 (ls u),.row 218 1 (ls o)]⟩) (fun m=>m<=n/\Nm.G6 ((u.drop lo).take m)=Nm.G6 ((u.drop lo).take n)) (fun m=>m) n ⟨c7b _,rfl⟩ (Ent.mk _ _ (by (repeat first|refine uA ?_|(refine ⟨?_,?_⟩;focus first|rfl|simp [slot])|rfl|simp)) (by (repeat first|refine uA ?_|(refine ⟨?_,?_⟩;focus first|rfl|simp [slot])|rfl|simp)) hν0) ?_
    rintro m ⟨hm,ht⟩
    have hq:lo+((m:Int)-1).toNat < u.length:=by omega
    have hg:u[lo+((m:Int)-1).toNat]?=some (u[lo+((m:Int)-1).toNat]'hq):=c6T hq
    have hsn:0 < m->(u.drop lo).take m=(u.drop lo).take (m-1)++[u[lo+((m:Int)-1).toNat]'hq]:=fun h=>by
      have e1:(u.drop lo)[m-1]?=some (u[lo+((m:Int)-1).toNat]'hq):=by
        rw [c7I,<- hg];congr 1;omega
      conv=>lhs;rw [show m=m-1+1 by omega,List.take_add_one,e1]
      rfl
    generalize u[lo+((m:Int)-1).toNat]'hq=c at *
    (repeat first|refine uA ?_|(apply uK;focus first|omega|(intros;simp_all<;>omega))|simp (disch:=omega) only [go_sem,Nat.reduceBEq,ww,F8,O1,hg,c6V,lm])
    (refine uJ rfl (fun hc=>?_) fun hc=>?_)
    · obtain ⟨h0,h1⟩:=hc
      have hc0:c=0:=by omega
      have hm1:((m:Int)-1)=((m-1:Nat):Int):=by omega
      rw [hsn (by omega),hc0,Nm.a6Z] at ht
      have hm2:((m:Int)-1).toNat=m-1:=by omega
      (repeat first|refine uA ?_|(apply uK;focus omega)|simp (disch:=omega) only [go_sem,Nat.reduceBEq,ww,hm2,Nat.add_zero,Nat.sub_zero,Int.toNat_zero])
      refine S.next (x:=m) (m-1) ⟨by omega,ht⟩ (by omega) (Ent.mk _ _ (by (repeat first|refine uA ?_|(refine ⟨?_,?_⟩;focus first|rfl|simp [slot])|rfl|simp)) (by (repeat first|refine uA ?_|(refine ⟨?_,?_⟩;focus first|rfl|simp [slot])|rfl|simp)) hν0)
    · have hmt:(Nm.G6 ((u.drop lo).take n)).length=m:=by
        rw [<- ht]
        rcases c7s m with h0|h0
        · subst h0;simp [Nm.a7A]
        · have hcn:c ≠ 0:=by omega
          rw [hsn h0,Nm.a4x hcn,c7e,c7d,c7E,List.length_singleton]
          omega
      rw [hmt]
      (repeat first|refine uA ?_|(apply uK;focus omega)|simp (disch:=omega) only [go_sem,Nat.reduceBEq])
      exact S.done (j3.own rfl)
theorem c3T {E:Ctx} (hP:E.P=Tryz.prog) (s:Bool) (u o:List Nat) (lo n lo2 n2:Nat) (hl:u.length<=274877906944) (hlo2:o.length<=274877906944) (hn:lo+n<=u.length) (hlo:lo < u.length) (hn2:lo2+n2<=o.length) (hnn:n2<=n)
  (hu:Nm.M9 u) (ho:Nm.M9 o) {X Y:Nat} (hX:X=Nm.wv 18446744073709551616 ((u.drop lo).take n)) (hY:Y=Nm.wv 18446744073709551616 ((o.drop lo2).take n2)) (hle:Y<=X) :
  j6 E (rw2 s u o) 200 [.wv (kx s) 1 lo n,.wv (kx !s) 1 lo2 n2] (.wv (kx s) 1 lo (Nm.G6 (Nm.dig 18446744073709551616 n (X-Y))).length) (rw2 s (put u lo (Nm.dig 18446744073709551616 n (X-Y))) o) []:=by
 obtain ⟨P,eff',N,w0,own0,av0,nu0,pk0⟩:=E
 simp only at hP
 subst hP
 have hul:((u.drop lo).take n).length=n:=by rw [c7d,c7E];omega
 have hol2:((o.drop lo2).take n2).length=n2:=by rw [c7d,c7E];omega
 have hua:Nm.M9 ((u.drop lo).take n):=(hu.drop lo).take _
 have hoa:Nm.M9 ((o.drop lo2).take n2):=(ho.drop lo2).take _
 have hps:put u lo ((u.drop lo).take n)=u:=a5e hn
 have hgo2:∀ i,i < n2->o[lo2+i]?=((o.drop lo2).take n2)[i]?:=fun i hi=>by rw [List.getElem?_take_of_lt hi,c7I]
 generalize (u.drop lo).take n=x at *
 generalize (o.drop lo2).take n2=y at *
 cases s
 all_goals
  refine j6.of (eff:=eff) Tryz.func200 (by cbv) (by exact c7j rfl) fun w own av ν hν=>?_
  simp only [j5,TT,II,OA,OB,MM,VV,rw2,kx,Bool.not_true,Bool.not_false]
  have hν0:ν.length<=2:=by rw [hν];exact c7b _
  (repeat first|refine uA ?_|(apply uK;focus omega)|simp (disch:=omega) only [go_sem,Nat.reduceBEq])
 ·refine S.loop (X:=Nat × List Nat × Nat) (fun s=>⟨[(0,.wv 1 1 lo n),(1,.wv 0 1 lo2 n2),(5,.v (.int .u64 (s.2.2:Int))),(8,.wv 1 1 lo n),(9,ints n),(10,ints s.1)],[.row 218 1 (ls o),.row 218 1 (ls (put u lo s.2.1))]⟩) (fun s=>s.1<=n/\Nm.a3j x y s.1 s.2.1 s.2.2) (fun s=>n-s.1) (0,x,0) ⟨c6Z _,Nm.a7u y hua⟩ (by simp only [hps];exact Ent.mk _ _ (by (repeat first|refine uA ?_|(refine ⟨?_,?_⟩;focus first|rfl|simp [slot])|rfl|simp)) (by (repeat first|refine uA ?_|(refine ⟨?_,?_⟩;focus first|rfl|simp [slot])|rfl|simp)) hν0) ?_
  rintro ⟨i,out,c⟩ ⟨hi,hinv⟩
  simp only [ints] at hi hinv ⊢
  have hol:=hinv.1
  have hc1:=hinv.2.2.1
  have hpl:(put u lo out).length=u.length:=a0e (by omega)
  (repeat first|refine uA ?_|(apply uK;focus omega)|simp (disch:=omega) only [go_sem,Nat.reduceBEq])
  (refine uJ rfl (fun hc=>?_) fun hc=>?_)
  ·have hi':i < n:=by omega
   have hix:i < x.length:=by omega
   have hgx:x[i]?=some (x[i]'hix):=c6T hix
   have hgo:(put u lo out)[lo+i]?=some (x[i]'hix):=by rw [V5 (by omega) (by omega),Nm.a0v hinv.2.2.2.1,hgx]
   have hx64:=hua _ (c7k hix)
   have hk:=fun t c' h1 h2 h3=>Nm.a7s (t:=t) (c':=c') hinv hix h1 h2 h3
   generalize x[i]'hix=xi at *
   have hsub:∀ d:Nat,d < 18446744073709551616->∃ t c':Nat,((xi:Int)+18446744073709551616-(d:Int)-(c:Int)) % 18446744073709551616=(t:Int)/\(if (xi:Int) < (d:Int)+(c:Int) then (1:Int) else 0)=(c':Int)/\t < 18446744073709551616/\c'<=1/\t+c+d=xi+18446744073709551616*c':=fun d hd=>by
    by_cases h:xi < d+c
    ·exact ⟨xi+18446744073709551616-d-c,1,by omega,by rw [if_pos (by omega)];rfl,by omega,by omega,by omega⟩
    ·exact ⟨xi-d-c,0,by omega,by rw [if_neg (by omega)];rfl,by omega,by omega,by omega⟩
   have hsl:∀ t,(put u lo out).set (lo+i) t=put u lo (out.set i t):=fun t=>a0g (by omega) (by omega)
   (repeat first|refine uA ?_|(apply uK;focus omega)|simp (disch:=omega) only [go_sem,Nat.reduceBEq])
   (refine uJ rfl (fun hc=>?_) fun hc=>?_)
   ·have hiy:i < y.length:=by omega
    have hgy:y[i]?=some (y[i]'hiy):=c6T hiy
    have hgy2:=(hgo2 i (by omega)).trans hgy
    have hy64:=hoa _ (c7k hiy)
    rw [Nm.getD_lt hiy] at hk
    generalize y[i]'hiy=yi at *
    obtain ⟨t,c',e1,e2,h1,h2,h3⟩:=hsub yi hy64
    have hk:=hk t c' h1 h2 h3
    (repeat first|refine uA ?_|(apply uK;focus omega)|simp (disch:=omega) only [go_sem,Nat.reduceBEq,ww,F8,O1,hgo,hgy2,hpl,c6V,lm,e1,e2,a1C,hsl])
    refine S.next (x:=(i,out,c)) (i+1,_,_) ⟨hi',hk⟩ (by simp only;omega) (Ent.mk _ _ (by (repeat first|refine uA ?_|(refine ⟨?_,?_⟩;focus first|rfl|simp [slot])|rfl|simp)) (by (repeat first|refine uA ?_|(refine ⟨?_,?_⟩;focus first|rfl|simp [slot])|rfl|simp)) hν0)
   ·have hy0:y.getD i 0=0:=by rw [c7g,c7v (by omega)];rfl
    rw [hy0] at hk
    obtain ⟨t,c',e1,e2,h1,h2,h3⟩   := hsub 0 (by decide)
    rw [show ((0:Nat):Int)=0 from rfl] at e1 e2
    have hk:=hk t c' h1 h2 h3
    (repeat first|refine uA ?_|(apply uK;focus omega)|simp (disch:=omega) only [go_sem,Nat.reduceBEq,ww,F8,O1,hgo,hpl,c6V,lm,e1,e2,a1C,hsl])
    refine S.next (x:=(i,out,c)) (i+1,_,_) ⟨hi',hk⟩ (by simp only;omega) (Ent.mk _ _ (by (repeat first|refine uA ?_|(refine ⟨?_,?_⟩;focus first|rfl|simp [slot])|rfl|simp)) (by (repeat first|refine uA ?_|(refine ⟨?_,?_⟩;focus first|rfl|simp [slot])|rfl|simp)) hν0)
  ·have hi':i=n:=by omega
   subst hi'
   rw [<- hul] at hinv
   obtain ⟨he1,he2⟩:=Nm.a7F hinv (by omega) (by omega)
   have hd:out=Nm.dig 18446744073709551616 i (X-Y):=Nm.X9 (by decide) hinv.2.1 (by omega) (by omega)
   rw [<- hd]
   have hcut:=fun (E:Ctx) (hP:E.P=Tryz.prog)=>a8u (E:=E) hP (match 1 with|0=>true|_=>false) (put u lo out) o lo i (by omega) (by omega) (by omega)
   rw [a2B (by omega) (by omega)] at hcut
   (repeat first|refine uA ?_|(apply uK;focus omega)|simp (disch:=omega) only [go_sem,Nat.reduceBEq]|refine l8.t (hcut _ rfl) ?_)
   exact S.done (j3.own rfl)
 ·refine S.loop (X:=Nat × List Nat × Nat) (fun s=>⟨[(0,.wv 0 1 lo n),(1,.wv 1 1 lo2 n2),(5,.v (.int .u64 (s.2.2:Int))),(8,.wv 0 1 lo n),(9,ints n),(10,ints s.1)],[.row 218 1 (ls (put u lo s.2.1)),.row 218 1 (ls o)]⟩) (fun s=>s.1<=n/\Nm.a3j x y s.1 s.2.1 s.2.2) (fun s=>n-s.1) (0,x,0) ⟨c6Z _,Nm.a7u y hua⟩ (by simp only [hps];exact Ent.mk _ _ (by (repeat first|refine uA ?_|(refine ⟨?_,?_⟩;focus first|rfl|simp [slot])|rfl|simp)) (by (repeat first|refine uA ?_|(refine ⟨?_,?_⟩;focus first|rfl|simp [slot])|rfl|simp)) hν0) ?_
  rintro ⟨i,out,c⟩ ⟨hi,hinv⟩
  simp only [ints] at hi hinv ⊢
  have hol:=hinv.1
  have hc1:=hinv.2.2.1
  have hpl:(put u lo out).length=u.length:=a0e (by omega)
  (repeat first|refine uA ?_|(apply uK;focus omega)|simp (disch:=omega) only [go_sem,Nat.reduceBEq])
  (refine uJ rfl (fun hc=>?_) fun hc=>?_)
  ·have hi':i < n:=by omega
   have hix:i < x.length:=by omega
   have hgx:x[i]?=some (x[i]'hix):=c6T hix
   have hgo:(put u lo out)[lo+i]?=some (x[i]'hix):=by rw [V5 (by omega) (by omega),Nm.a0v hinv.2.2.2.1,hgx]
   have hx64:=hua _ (c7k hix)
   have hk:=fun t c' h1 h2 h3=>Nm.a7s (t:=t) (c':=c') hinv hix h1 h2 h3
   generalize x[i]'hix=xi at *
   have hsub:∀ d:Nat,d < 18446744073709551616->∃ t c':Nat,((xi:Int)+18446744073709551616-(d:Int)-(c:Int)) % 18446744073709551616=(t:Int)/\(if (xi:Int) < (d:Int)+(c:Int) then (1:Int) else 0)=(c':Int)/\t < 18446744073709551616/\c'<=1/\t+c+d=xi+18446744073709551616*c':=fun d hd=>by
    by_cases h:xi < d+c
    ·exact ⟨xi+18446744073709551616-d-c,1,by omega,by rw [if_pos (by omega)];rfl,by omega,by omega,by omega⟩
    ·exact ⟨xi-d-c,0,by omega,by rw [if_neg (by omega)];rfl,by omega,by omega,by omega⟩
   have hsl:∀ t,(put u lo out).set (lo+i) t=put u lo (out.set i t):=fun t=>a0g (by omega) (by omega)
   (repeat first|refine uA ?_|(apply uK;focus omega)|simp (disch:=omega) only [go_sem,Nat.reduceBEq])
   (refine uJ rfl (fun hc=>?_) fun hc=>?_)
   ·have hiy:i < y.length:=by omega
    have hgy:y[i]?=some (y[i]'hiy):=c6T hiy
    have hgy2:=(hgo2 i (by omega)).trans hgy
    have hy64:=hoa _ (c7k hiy)
    rw [Nm.getD_lt hiy] at hk
    generalize y[i]'hiy=yi at *
    obtain ⟨t,c',e1,e2,h1,h2,h3⟩:=hsub yi hy64
    have hk:=hk t c' h1 h2 h3
    (repeat first|refine uA ?_|(apply uK;focus omega)|simp (disch:=omega) only [go_sem,Nat.reduceBEq,ww,F8,O1,hgo,hgy2,hpl,c6V,lm,e1,e2,a1C,hsl])
    refine S.next (x:=(i,out,c)) (i+1,_,_) ⟨hi',hk⟩ (by simp only;omega) (Ent.mk _ _ (by (repeat first|refine uA ?_|(refine ⟨?_,?_⟩;focus first|rfl|simp [slot])|rfl|simp)) (by (repeat first|refine uA ?_|(refine ⟨?_,?_⟩;focus first|rfl|simp [slot])|rfl|simp)) hν0)
   ·have hy0:y.getD i 0=0:=by rw [c7g,c7v (by omega)];rfl
    rw [hy0] at hk
    obtain ⟨t,c',e1,e2,h1,h2,h3⟩   := hsub 0 (by decide)
    rw [show ((0:Nat):Int)=0 from rfl] at e1 e2
    have hk:=hk t c' h1 h2 h3
    (repeat first|refine uA ?_|(apply uK;focus omega)|simp (disch:=omega) only [go_sem,Nat.reduceBEq,ww,F8,O1,hgo,hpl,c6V,lm,e1,e2,a1C,hsl])
    refine S.next (x:=(i,out,c)) (i+1,_,_) ⟨hi',hk⟩ (by simp only;omega) (Ent.mk _ _ (by (repeat first|refine uA ?_|(refine ⟨?_,?_⟩;focus first|rfl|simp [slot])|rfl|simp)) (by (repeat first|refine uA ?_|(refine ⟨?_,?_⟩;focus first|rfl|simp [slot])|rfl|simp)) hν0)
  ·have hi':i=n:=by omega
   subst hi'
   rw [<- hul] at hinv
   obtain ⟨he1,he2⟩:=Nm.a7F hinv (by omega) (by omega)
   have hd:out=Nm.dig 18446744073709551616 i (X-Y):=Nm.X9 (by decide) hinv.2.1 (by omega) (by omega)
   rw [<- hd]
   have hcut:=fun (E:Ctx) (hP:E.P=Tryz.prog)=>a8u (E:=E) hP (match 0 with|0=>true|_=>false) (put u lo out) o lo i (by omega) (by omega) (by omega)
   rw [a2B (by omega) (by omega)] at hcut
   (repeat first|refine uA ?_|(apply uK;focus omega)|simp (disch:=omega) only [go_sem,Nat.reduceBEq]|refine l8.t (hcut _ rfl) ?_)
   exact S.done (j3.own rfl)
theorem c4u (i:Nat) (h:i<=70368744177664):IntKind.i64.wrap ((i:Int).tdiv 64)=((i / 64:Nat):Int):=by
 have:(i:Int).tdiv 64=((i / 64:Nat):Int):=rfl
 rw [this,Eng.wrap_i64 (by omega)]
theorem c3w (i:Nat):(i:Int).tmod 64=((i % 64:Nat):Int):=rfl
theorem b4Q (o n:Nat) (ho:o < 18446744073709551616):bits .or .u64 (o:Int) (((n % 18446744073709551616:Nat)):Int)=((o ||| n % 18446744073709551616:Nat):Int):=b0U _ _ ho (Nat.mod_lt _ (by decide))
theorem b2C (x r:Nat) (hr:r<=64):IntKind.u64.wrap ((x:Int)*2 ^ min r 64)=((x*2 ^ r % 18446744073709551616:Nat):Int):=by
 rw [show min r 64=r by omega,<- a4Q];congr 1
theorem a8Q {E:Ctx} (hP:E.P=Tryz.prog) (s:Bool) (u o:List Nat) (lo n by' z:Nat) (hl:u.length<=274877906944) (hn:lo+n<=u.length) (hb:by'<=70368744177664)
  (hu:Nm.M9 u) (hz:z ≠ 0) (hX:Nm.wv 18446744073709551616 ((u.drop lo).take n)=z*2 ^ by') :
  by' / 64 < n/\z < 18446744073709551616 ^ (n-by' / 64)/\j6 E (rw2 s u o) 198 [.wv (kx s) 1 lo n,ints by'] (.wv (kx s) 1 (lo+by' / 64) (Nm.G6 (Nm.dig 18446744073709551616 (n-by' / 64) z)).length) (rw2 s (put u (lo+by' / 64) (Nm.dig 18446744073709551616 (n-by' / 64) z)) o) []:=by
 have hul:((u.drop lo).take n).length=n:=by rw [c7d,c7E];omega
 have hua:Nm.M9 ((u.drop lo).take n):=(hu.drop lo).take _
 have e2:2 ^ by'=18446744073709551616 ^ (by' / 64)*2 ^ (by' % 64):=by
  rw [show (18446744073709551616:Nat)=2 ^ 64 by decide,<- Nat.pow_mul,<- Nat.pow_add];congr 1;omega
 have hjn:by' / 64 < n:=by
  rcases c7p (by' / 64) n with h|h
  ·exact h
  ·exfalso
   have h1:=Nm.M6 18446744073709551616 hua
   have h2:18446744073709551616 ^ n<=18446744073709551616 ^ (by' / 64):=c7z (by decide) h
   have h3:18446744073709551616 ^ (by' / 64)<=2 ^ by':=by rw [e2];exact Nat.le_mul_of_pos_right _ (Nat.pow_pos (by decide))
   have h4:2 ^ by'<=z*2 ^ by':=Nat.le_mul_of_pos_left _ (by omega)
   rw [hul] at h1
   omega
 have hdr:((u.drop lo).take n).drop (by' / 64)=(u.drop (lo+by' / 64)).take (n-by' / 64):=by
  rw [List.drop_take,List.drop_drop]
 have hW1:Nm.wv 18446744073709551616 ((u.drop (lo+by' / 64)).take (n-by' / 64))=z*2 ^ (by' % 64):=by
  rw [<- hdr,Nm.b7g hua (by omega),hX,e2,<- c7B,Nat.mul_comm z,c7B,Nat.mul_comm (18446744073709551616 ^ _) (z*_),Nat.mul_div_cancel _ (Nat.pow_pos (by decide))]
 have hb64:by' % 64 < 64:=Nat.mod_lt _ (by decide)
 have hjb:by' / 64<=1099511627776:=by omega
 clear hdr hX e2
 have hq1:=c4u by' hb
 have hq2:=c3w by'
 generalize by' / 64=j at *
 generalize by' % 64=b at *
 generalize hp:n-j=p at *
 generalize hl1:lo+j=l1 at *
 have hlp:l1+p<=u.length:=by omega
 have hp0:0 < p:=by omega
 have hpn:n-j=p:=hp
 have hua1:Nm.M9 ((u.drop l1).take p):=(hu.drop l1).take _
 have hps:put u l1 ((u.drop l1).take p)=u:=a5e hlp
 have hrl:((u.drop l1).take p).length=p:=by rw [c7d,c7E];omega
 generalize (u.drop l1).take p=r0 at *
 have hzl:z < 18446744073709551616 ^ p:=by
  have h1:=Nm.M6 18446744073709551616 hua1
  rw [hrl,hW1] at h1
  exact Nat.lt_of_le_of_lt (Nat.le_mul_of_pos_right _ (Nat.pow_pos (by decide))) h1
 refine ⟨hjn,hzl,?_⟩
 clear hul hua
 obtain ⟨P,eff',N,w0,own0,av0,nu0,pk0⟩:=E
 simp only at hP
 subst hP
 cases s
 all_goals
  refine j6.of (eff:=eff) Tryz.func198 (by cbv) (by exact c7j rfl) fun w own av ν hν=>?_
  simp only [j5,TT,II,OA,OB,MM,VV,rw2,kx,ints]
  have hν0:ν.length<=2:=by rw [hν];exact c7b _
  (repeat first|refine uA ?_|(apply uK;focus omega)|simp only [go_sem,Nat.reduceBEq,Nat.reduceAdd,hq1,hq2,hl1,hpn]|simp (disch:=omega) only [ww,hq1,hq2,F8,hl1,hpn])
  (refine uJ rfl (fun hc=>?_) fun hc=>?_)
 ·(repeat first|refine uA ?_|(apply uK;focus omega)|simp (disch:=omega) only [go_sem,Nat.reduceBEq])
  refine S.loop (X:=Nat × List Nat) (fun s=>⟨[(0,.wv 1 1 l1 p),(1,ints b),(15,ints p),(16,ints s.1)],[.row 218 1 (ls o),.row 218 1 (ls (put u l1 s.2))]⟩) (fun s=>s.1<=p/\Nm.a1M r0 (2 ^ b) s.1 s.2) (fun s=>p-s.1) (0,r0) ⟨c6Z _,Nm.a5N hua1⟩ (by simp only [hps];exact Ent.mk _ _ (by (repeat first|refine uA ?_|(refine ⟨?_,?_⟩;focus first|rfl|trivial|(simp [slot];done))|rfl|trivial|simp)) (by (repeat first|refine uA ?_|(refine ⟨?_,?_⟩;focus first|rfl|trivial|(simp [slot];done))|rfl|trivial|simp)) hν0) ?_
  rintro ⟨i,out⟩ ⟨hi,hri⟩
  simp only [ints] at hi hri ⊢
  have hol:=hri.1
  have hpl:(put u l1 out).length=u.length:=a0e (by omega)
  (repeat first|refine uA ?_|(apply uK;focus omega)|simp (disch:=omega) only [go_sem,Nat.reduceBEq])
  (refine uJ rfl (fun hc=>?_) fun hc=>?_)
  ·have hi':i < p:=by omega
   have hir:i < r0.length:=by omega
   have hgr:r0[i]?=some (r0[i]'hir):=c6T hir
   have hgo:(put u l1 out)[l1+i]?=some (r0[i]'hir):=by
    rw [V5 (by omega) (by omega),Nm.a0v hri.2.2.1,hgr]
   have hr32':=hua1 _ (c7k hir)
   have hk:=fun t ht=>Nm.a5J (t:=t) hri hb64 hir hua1 ht
   have hset:∀ a,(put u l1 out).set (l1+i) a=put u l1 (out.set i a):=fun a=>a0g (by omega) (by omega)
   generalize r0[i]'hir=ri at *
   have hsh:Int.fdiv (ri:Int) (2 ^ min b 64)=((ri / 2 ^ b:Nat):Int):=by
    rw [show min b 64=b by omega,<- a2w];congr 1
   have hrb:ri / 2 ^ b < 18446744073709551616:=Nat.lt_of_le_of_lt (Nat.div_le_self _ _) hr32'
   generalize ri / 2 ^ b=rs at *
   (repeat first|refine uA ?_|(apply uK;focus omega)|simp only [go_sem,Nat.reduceBEq,Nat.reduceAdd,Nat.reduceLeDiff,F8,O1,hgo,hpl,c6V,lm,a1C,hsh,hset]|simp (disch:=omega) only [ww])
   (refine uJ rfl (fun hc=>?_) fun hc=>?_)
   ·have hi1:i+1 < r0.length:=by omega
    have hpl1:(put u l1 (out.set i rs)).length=u.length:=a0e (by rw [c7J];omega)
    have hg1:(put u l1 (out.set i rs))[l1+i]?=some rs:=by
     rw [<- hset,List.getElem?_set_self (by omega)]
    have hg3:r0[i+1]?=some (r0[i+1]'hi1):=c6T hi1
    have hg2:(put u l1 (out.set i rs))[l1+(i+1)]?=some (r0[i+1]'hi1):=by
     have:=V5 (us:=u) (out:=out) (k:=l1) (i:=i+1) (by omega) (by omega)
     rw [<- hset,List.getElem?_set_ne (by omega),this]
     have h3:=congrArg (fun l=>l[1]?) hri.2.2.1
     simp only [c7I] at h3
     rw [h3,hg3]
    have hn32:=hua1 _ (c7k hi1)
    have hgd:r0.getD (i+1) 0=r0[i+1]'hi1:=Nm.getD_lt hi1
    rw [hgd] at hk
    generalize r0[i+1]'hi1=rn at *
    have hshl:=b2C rn (64-b) (by omega)
    have hrr:((64:Int)-(b:Int)).toNat=64-b:=by omega
    have horl:=b4Q rs (rn*2 ^ (64-b)) hrb
    have hk:=hk _ rfl
    rw [if_pos (by omega)] at hk
    generalize rn*2 ^ (64-b)=sh at *
    generalize hto:rs ||| sh % 18446744073709551616=to at *
    have hset2:(put u l1 (out.set i rs)).set (l1+i) to=put u l1 (out.set i to):=by
     have:=a0g (us:=u) (out:=out.set i rs) (k:=l1) (i:=i) (v:=to) (by rw [c7J];omega) (by rw [c7J];omega)
     rwa [List.set_set] at this
    have hi1n:((i:Int)+1).toNat=i+1:=by omega
    (repeat first|refine uA ?_|(apply uK;focus omega)|simp only [go_sem,Nat.reduceBEq,Nat.reduceAdd,Nat.reduceLeDiff,F8,O1,hg1,hpl1,c6V,lm]|simp (disch:=omega) only [ww,hg2,c6V,lm,hrr,hi1n,hshl,horl,a1C,hset2])
    refine S.next (x:=(i,out)) (i+1,_) ⟨hi',hk.1⟩ (by simp only;omega) (Ent.mk _ _ (by (repeat first|refine uA ?_|(refine ⟨?_,?_⟩;focus first|rfl|trivial|(simp [slot];done))|rfl|trivial|simp)) (by (repeat first|refine uA ?_|(refine ⟨?_,?_⟩;focus first|rfl|trivial|(simp [slot];done))|rfl|trivial|simp)) hν0)
   ·have hk:=hk _ rfl
    rw [if_neg (by omega)] at hk
    (repeat first|refine uA ?_|(apply uK;focus omega)|simp (disch:=omega) only [go_sem,Nat.reduceBEq,ww])
    refine S.next (x:=(i,out)) (i+1,_) ⟨hi',hk.1⟩ (by simp only;omega) (Ent.mk _ _ (by (repeat first|refine uA ?_|(refine ⟨?_,?_⟩;focus first|rfl|trivial|(simp [slot];done))|rfl|trivial|simp)) (by (repeat first|refine uA ?_|(refine ⟨?_,?_⟩;focus first|rfl|trivial|(simp [slot];done))|rfl|trivial|simp)) hν0)
  ·have hi':i=p:=by omega
   subst hi'
   rw [<- hrl] at hri
   have he:=Nm.a6h hri (by omega) hW1
   have hd:out=Nm.dig 18446744073709551616 i z:=Nm.X9 (by decide) hri.2.1 (by omega) he
   rw [<- hd]
   have hcut:=fun (E:Ctx) (hP:E.P=Tryz.prog)=>a8u (E:=E) hP (match 1 with|0=>true|_=>false) (put u l1 out) o l1 i (by omega) (by omega) (by omega)
   rw [a2B (by omega) (by omega)] at hcut
   (repeat first|refine uA ?_|(apply uK;focus omega)|simp (disch:=omega) only [go_sem,Nat.reduceBEq]|refine l8.t (hcut _ rfl) ?_)
   exact S.done (j3.own rfl)
 ·have hb0:b=0:=by omega
  subst hb0
  rw [Nat.pow_zero,Nat.mul_one] at hW1
  have hd:r0=Nm.dig 18446744073709551616 p z:=Nm.X9 (by decide) hua1 hrl hW1
  have hcut:=fun (E:Ctx) (hP:E.P=Tryz.prog)=>a8u (E:=E) hP (match 1 with|0=>true|_=>false) u o l1 p (by omega) (by omega) (by omega)
  have hw:(u.drop l1).take p=r0:=by rw [<- hps];exact a2B hrl.symm (by omega)
  rw [hw] at hcut
  rw [<- hd,hps]
  (repeat first|refine uA ?_|(apply uK;focus omega)|simp (disch:=omega) only [go_sem,Nat.reduceBEq]|refine l8.t (hcut _ rfl) ?_)
  exact S.done (j3.own rfl)
 ·(repeat first|refine uA ?_|(apply uK;focus omega)|simp (disch:=omega) only [go_sem,Nat.reduceBEq])
  refine S.loop (X:=Nat × List Nat) (fun s=>⟨[(0,.wv 0 1 l1 p),(1,ints b),(15,ints p),(16,ints s.1)],[.row 218 1 (ls (put u l1 s.2)),.row 218 1 (ls o)]⟩) (fun s=>s.1<=p/\Nm.a1M r0 (2 ^ b) s.1 s.2) (fun s=>p-s.1) (0,r0) ⟨c6Z _,Nm.a5N hua1⟩ (by simp only [hps];exact Ent.mk _ _ (by (repeat first|refine uA ?_|(refine ⟨?_,?_⟩;focus first|rfl|trivial|(simp [slot];done))|rfl|trivial|simp)) (by (repeat first|refine uA ?_|(refine ⟨?_,?_⟩;focus first|rfl|trivial|(simp [slot];done))|rfl|trivial|simp)) hν0) ?_
  rintro ⟨i,out⟩ ⟨hi,hri⟩
  simp only [ints] at hi hri ⊢
  have hol:=hri.1
  have hpl:(put u l1 out).length=u.length:=a0e (by omega)
  (repeat first|refine uA ?_|(apply uK;focus omega)|simp (disch:=omega) only [go_sem,Nat.reduceBEq])
  (refine uJ rfl (fun hc=>?_) fun hc=>?_)
  ·have hi':i < p:=by omega
   have hir:i < r0.length:=by omega
   have hgr:r0[i]?=some (r0[i]'hir):=c6T hir
   have hgo:(put u l1 out)[l1+i]?=some (r0[i]'hir):=by
    rw [V5 (by omega) (by omega),Nm.a0v hri.2.2.1,hgr]
   have hr32':=hua1 _ (c7k hir)
   have hk:=fun t ht=>Nm.a5J (t:=t) hri hb64 hir hua1 ht
   have hset:∀ a,(put u l1 out).set (l1+i) a=put u l1 (out.set i a):=fun a=>a0g (by omega) (by omega)
   generalize r0[i]'hir=ri at *
   have hsh:Int.fdiv (ri:Int) (2 ^ min b 64)=((ri / 2 ^ b:Nat):Int):=by
    rw [show min b 64=b by omega,<- a2w];congr 1
   have hrb:ri / 2 ^ b < 18446744073709551616:=Nat.lt_of_le_of_lt (Nat.div_le_self _ _) hr32'
   generalize ri / 2 ^ b=rs at *
   (repeat first|refine uA ?_|(apply uK;focus omega)|simp only [go_sem,Nat.reduceBEq,Nat.reduceAdd,Nat.reduceLeDiff,F8,O1,hgo,hpl,c6V,lm,a1C,hsh,hset]|simp (disch:=omega) only [ww])
   (refine uJ rfl (fun hc=>?_) fun hc=>?_)
   ·have hi1:i+1 < r0.length:=by omega
    have hpl1:(put u l1 (out.set i rs)).length=u.length:=a0e (by rw [c7J];omega)
    have hg1:(put u l1 (out.set i rs))[l1+i]?=some rs:=by
     rw [<- hset,List.getElem?_set_self (by omega)]
    have hg3:r0[i+1]?=some (r0[i+1]'hi1):=c6T hi1
    have hg2:(put u l1 (out.set i rs))[l1+(i+1)]?=some (r0[i+1]'hi1):=by
     have:=V5 (us:=u) (out:=out) (k:=l1) (i:=i+1) (by omega) (by omega)
     rw [<- hset,List.getElem?_set_ne (by omega),this]
     have h3:=congrArg (fun l=>l[1]?) hri.2.2.1
     simp only [c7I] at h3
     rw [h3,hg3]
    have hn32:=hua1 _ (c7k hi1)
    have hgd:r0.getD (i+1) 0=r0[i+1]'hi1:=Nm.getD_lt hi1
    rw [hgd] at hk
    generalize r0[i+1]'hi1=rn at *
    have hshl:=b2C rn (64-b) (by omega)
    have hrr:((64:Int)-(b:Int)).toNat=64-b:=by omega
    have horl:=b4Q rs (rn*2 ^ (64-b)) hrb
    have hk:=hk _ rfl
    rw [if_pos (by omega)] at hk
    generalize rn*2 ^ (64-b)=sh at *
    generalize hto:rs ||| sh % 18446744073709551616=to at *
    have hset2:(put u l1 (out.set i rs)).set (l1+i) to=put u l1 (out.set i to):=by
     have:=a0g (us:=u) (out:=out.set i rs) (k:=l1) (i:=i) (v:=to) (by rw [c7J];omega) (by rw [c7J];omega)
     rwa [List.set_set] at this
    have hi1n:((i:Int)+1).toNat=i+1:=by omega
    (repeat first|refine uA ?_|(apply uK;focus omega)|simp only [go_sem,Nat.reduceBEq,Nat.reduceAdd,Nat.reduceLeDiff,F8,O1,hg1,hpl1,c6V,lm]|simp (disch:=omega) only [ww,hg2,c6V,lm,hrr,hi1n,hshl,horl,a1C,hset2])
    refine S.next (x:=(i,out)) (i+1,_) ⟨hi',hk.1⟩ (by simp only;omega) (Ent.mk _ _ (by (repeat first|refine uA ?_|(refine ⟨?_,?_⟩;focus first|rfl|trivial|(simp [slot];done))|rfl|trivial|simp)) (by (repeat first|refine uA ?_|(refine ⟨?_,?_⟩;focus first|rfl|trivial|(simp [slot];done))|rfl|trivial|simp)) hν0)
   ·have hk:=hk _ rfl
    rw [if_neg (by omega)] at hk
    (repeat first|refine uA ?_|(apply uK;focus omega)|simp (disch:=omega) only [go_sem,Nat.reduceBEq,ww])
    refine S.next (x:=(i,out)) (i+1,_) ⟨hi',hk.1⟩ (by simp only;omega) (Ent.mk _ _ (by (repeat first|refine uA ?_|(refine ⟨?_,?_⟩;focus first|rfl|trivial|(simp [slot];done))|rfl|trivial|simp)) (by (repeat first|refine uA ?_|(refine ⟨?_,?_⟩;focus first|rfl|trivial|(simp [slot];done))|rfl|trivial|simp)) hν0)
  ·have hi':i=p:=by omega
   subst hi'
   rw [<- hrl] at hri
   have he:=Nm.a6h hri (by omega) hW1
   have hd:out=Nm.dig 18446744073709551616 i z:=Nm.X9 (by decide) hri.2.1 (by omega) he
   rw [<- hd]
   have hcut:=fun (E:Ctx) (hP:E.P=Tryz.prog)=>a8u (E:=E) hP (match 0 with|0=>true|_=>false) (put u l1 out) o l1 i (by omega) (by omega) (by omega)
   rw [a2B (by omega) (by omega)] at hcut
   (repeat first|refine uA ?_|(apply uK;focus omega)|simp (disch:=omega) only [go_sem,Nat.reduceBEq]|refine l8.t (hcut _ rfl) ?_)
   exact S.done (j3.own rfl)
 ·have hb0:b=0:=by omega
  subst hb0
  rw [Nat.pow_zero,Nat.mul_one] at hW1
  have hd:r0=Nm.dig 18446744073709551616 p z:=Nm.X9 (by decide) hua1 hrl hW1
  have hcut:=fun (E:Ctx) (hP:E.P=Tryz.prog)=>a8u (E:=E) hP (match 0 with|0=>true|_=>false) u o l1 p (by omega) (by omega) (by omega)
  have hw:(u.drop l1).take p=r0:=by rw [<- hps];exact a2B hrl.symm (by omega)
  rw [hw] at hcut
  rw [<- hd,hps]
  (repeat first|refine uA ?_|(apply uK;focus omega)|simp (disch:=omega) only [go_sem,Nat.reduceBEq]|refine l8.t (hcut _ rfl) ?_)
  exact S.done (j3.own rfl)
structure Win (u:List Nat) (lo n v:Nat):Prop where
 hn:lo+n<=u.length
 hlo:lo < u.length
 hl:u.length<=17179869184
 ha:Nm.M9 u
 hv:Nm.wv 18446744073709551616 ((u.drop lo).take n)=v
 ht:Nm.G6 ((u.drop lo).take n)=(u.drop lo).take n
theorem Win.len {u:List Nat} {lo n v:Nat} (h:Win u lo n v):((u.drop lo).take n).length=n:=by
 have:=h.hn
 rw [c7d,c7E];omega
theorem b8Z {us a:List Nat} {k:Nat} (hu:Nm.M9 us) (ha:Nm.M9 a):Nm.M9 (put us k a):=fun w hw=>by
 simp only [put,List.mem_append] at hw
 rcases hw with (hw|hw)|hw
 ·exact hu w (List.mem_of_mem_take hw)
 ·exact ha w hw
 ·exact hu w (List.mem_of_mem_drop hw)
theorem Win.put {u:List Nat} {l1 p z:Nat} (h1:l1+p<=u.length) (h2:l1 < u.length) (hl:u.length<=17179869184) (ha:Nm.M9 u) (hz:z < 18446744073709551616 ^ p) :
  Win (put u l1 (Nm.dig 18446744073709551616 p z)) l1 (Nm.G6 (Nm.dig 18446744073709551616 p z)).length z:=by
 have hpl:(Go.Proofs.YtgpegbfnlkidjaaGreatDoor.put u l1 (Nm.dig 18446744073709551616 p z)).length=u.length:=a0e (by rw [Nm.K3];omega)
 have htl:=Nm.b9n (Nm.dig 18446744073709551616 p z)
 rw [Nm.K3] at htl
 have hw:((Go.Proofs.YtgpegbfnlkidjaaGreatDoor.put u l1 (Nm.dig 18446744073709551616 p z)).drop l1).take (Nm.G6 (Nm.dig 18446744073709551616 p z)).length=Nm.G6 (Nm.dig 18446744073709551616 p z):=by
  have e:=a2B (us:=u) (k:=l1) (a:=Nm.dig 18446744073709551616 p z) (n:=p) (Nm.K3 _ _ _).symm (by rw [Nm.K3];omega)
  have e2:=congrArg (List.take (Nm.G6 (Nm.dig 18446744073709551616 p z)).length) e
  rw [List.take_take,Nat.min_eq_left htl,Nm.b7z] at e2
  exact e2
 refine ⟨by rw [hpl];omega,by rw [hpl];exact h2,by rw [hpl];exact hl,b8Z ha (Nm.a1b (by decide) _ _),?_,?_⟩
 ·rw [hw,Nm.c1V,Nm.X8 hz]
 ·rw [hw]
  have h4:∀ l,Nm.G6 (Nm.G6 l)=Nm.G6 l:=fun l=>by
   by_cases h:Nm.G6 l=[]
   ·rw [h];rfl
   ·have h5:=Nm.b0e l h
    have h6:Nm.G6 l=(Nm.G6 l).dropLast++[(Nm.G6 l).getLast h]:=(List.dropLast_concat_getLast h).symm
    rw [h6,Nm.a4x h5]
  exact h4 _
theorem Win.last {u:List Nat} {lo n v:Nat} (h:Win u lo n v):∀ hh:(u.drop lo).take n ≠ [],((u.drop lo).take n).getLast hh ≠ 0:=by
 have ht:=h.ht
 generalize (u.drop lo).take n=x at *
 intro hh
 have:=Nm.b0e x (by rw [ht];exact hh)
 simpa only [ht] using this
theorem Win.all {u:List Nat} {lo n v:Nat} (h:Win u lo n v):Nm.M9 ((u.drop lo).take n):=(h.ha.drop lo).take n
theorem Win.zero {u:List Nat} {lo n v:Nat} (h:Win u lo n v) (h0:v=0):n=0:=by
 rcases c7s n with h1|h1
 ·exact h1
 ·exfalso
  have hl:=h.len
  have hla:=h.last
  have hv:=h.hv
  generalize (u.drop lo).take n=x at *
  have hne:x ≠ []:=fun e=>by subst e;simp at hl;omega
  have h2:=Nm.b5F (B:=18446744073709551616) (l:=x.dropLast) (hla hne)
  rw [List.dropLast_concat_getLast hne] at h2
  have:=Nat.pow_pos (n:=x.dropLast.length) (show 0 < 18446744073709551616 by decide)
  omega
theorem Win.nonzero {u:List Nat} {lo n v:Nat} (h:Win u lo n v) (h0:n=0):v=0:=by
 have:=h.hv;subst h0;rw [<- this];rfl
theorem Win.le {u o:List Nat} {lo n v lo2 n2 v2:Nat} (h:Win u lo n v) (h2:Win o lo2 n2 v2) (hle:v2<=v):n2<=n:=by
 rcases c7p n n2 with h1|h1
 ·exfalso
  have hl:=h2.len
  have hla:=h2.last
  have hv:=h2.hv
  have hl1:=Nm.M6 18446744073709551616 h.all
  rw [h.len,h.hv] at hl1
  generalize (o.drop lo2).take n2=x at *
  have hne:x ≠ []:=fun e=>by subst e;simp at hl;omega
  have h3:=Nm.b5F (B:=18446744073709551616) (l:=x.dropLast) (hla hne)
  rw [List.dropLast_concat_getLast hne,List.length_dropLast] at h3
  have h4:18446744073709551616 ^ n<=18446744073709551616 ^ (x.length-1):=c7z (by decide) (by omega)
  omega
 ·exact h1
theorem Win.v2 {u:List Nat} {lo n v:Nat} (h:Win u lo n v) (h0:v ≠ 0):Nm.v2 v<=70368744177664:=by
 obtain ⟨q,h1,h2⟩:=Nm.a3C h0
 have hl1:=Nm.M6 18446744073709551616 h.all
 rw [h.len,h.hv] at hl1
 have h3:2 ^ Nm.v2 v<=v:=by
  conv=>rhs;rw [h1]
  exact Nat.le_mul_of_pos_right _ (by omega)
 have h4:2 ^ Nm.v2 v < 2 ^ (64*n):=by rw [Nat.pow_mul];exact Nat.lt_of_le_of_lt h3 hl1
 have h5:=(Nat.pow_lt_pow_iff_right (by decide:1 < 2)).1 h4
 have:=h.hn;have:=h.hl
 omega
namespace Nm
theorem c3P (n k:Nat) (h:k < 8):(be8 n)[k]?=some (oB (n / 2 ^ (56-8*k))):=by
 have:k=0 \/ k=1 \/ k=2 \/ k=3 \/ k=4 \/ k=5 \/ k=6 \/ k=7:=by omega
 rcases this with rfl|rfl|rfl|rfl|rfl|rfl|rfl|rfl<;>simp [be8]
theorem a8z (n:Nat):(be8 n).length=8:=rfl
def a2g (l:List Nat):List UInt8:=(l.reverse.map be8).flatten
theorem b1g (l:List Nat) (x:Nat):a2g (l++[x])=be8 x++a2g l:=by simp [a2g]
theorem b3i (r:List Nat) (h:M9 r.reverse):(a2g r.reverse).length=8*r.length/\val (a2g r.reverse)=wv 18446744073709551616 r.reverse:=by
 induction r with
 | nil=>exact ⟨rfl,rfl⟩
 | cons x r ih=>
  rw [List.reverse_cons] at h ⊢
  obtain ⟨h1,h2⟩:=ih fun w hw=>h w (List.mem_append_left _ hw)
  rw [b1g,a8L,b7j,h1,h2,b6V (h x (by simp)),List.length_reverse,c7e,a8z,h1,c7m]
  refine ⟨by omega,?_⟩
  rw [Nat.pow_mul,show (256:Nat) ^ 8=18446744073709551616 by decide,Nat.mul_comm x,Nat.add_comm]
theorem b2R {l:List Nat} (h:M9 l):(a2g l).length=8*l.length:=by
 have:=(b3i l.reverse (by simpa using h)).1
 simpa using this
theorem b9t {l:List Nat} (h:M9 l):val (a2g l)=wv 18446744073709551616 l:=by
 have:=(b3i l.reverse (by simpa using h)).2
 simpa using this
def a1W (l:List Nat) (i k:Nat):List UInt8:=List.replicate (8*(l.length-1-i)) 0++((be8 (l.getD i 0)).take k++List.replicate (8-k) 0)++a2g (l.take i)
def a5m (l:List Nat) (i:Nat):List UInt8:=List.replicate (8*(l.length-i)) 0++a2g (l.take i)
theorem b8W (l:List Nat):a5m l 0=List.replicate (8*l.length) 0:=by simp [a5m,a2g]
theorem b4u (l:List Nat):a5m l l.length=a2g l:=by simp [a5m]
theorem b2t {l:List Nat} {i:Nat} (h:i < l.length):a1W l i 0=a5m l i:=by
 rw [a1W,a5m,List.take_zero,List.nil_append,Nat.sub_zero,List.replicate_append_replicate]
 congr 2;omega
theorem b0C {l:List Nat} {i:Nat} (h:i < l.length):a1W l i 8=a5m l (i+1):=by
 have e:l.take (i+1)=l.take i++[l.getD i 0]:=by
  rw [List.take_add_one,c7g,c6T h];rfl
 rw [a1W,a5m,e,b1g,c7o (by rw [a8z];exact c7b _),Nat.sub_self,List.replicate_zero,List.append_nil,c7A]
 congr 3;omega
theorem b5y {l:List Nat} (hl:M9 l) {i k:Nat} (h:i < l.length) (hk:k<=8):(a1W l i k).length=8*l.length:=by
 simp only [a1W,c7e,List.length_replicate,c7d,a8z,b2R (hl.take i),c7d]
 omega
theorem b2Y {l:List Nat} {i k:Nat} (hk:k < 8):(a1W l i k).set (8*(l.length-1-i)+k) (oB (l.getD i 0 / 2 ^ (56-8*k)))=a1W l i (k+1):=by
 have e:(be8 (l.getD i 0)).take (k+1)=(be8 (l.getD i 0)).take k++[oB (l.getD i 0 / 2 ^ (56-8*k))]:=by
  rw [List.take_add_one,c3P _ _ hk];rfl
 have e2:List.replicate (8-k) (0:UInt8)=0::List.replicate (8-(k+1)) 0:=by rw [<- List.replicate_succ];congr 1;omega
 have hlk:((be8 (l.getD i 0)).take k).length=k:=by rw [c7d,a8z];omega
 rw [a1W,a1W,e,e2,List.set_append_left _ _ (by simp only [c7e,List.length_replicate,hlk,c7m];omega),List.set_append_right _ _ (by simp),List.length_replicate,Nat.add_sub_cancel_left,List.set_append_right _ _ (by omega),hlk,Nat.sub_self,List.set_cons_zero,c7A (List.take k _),List.singleton_append]
theorem c0q (n:Nat):val (oB (2 ^ (n % 8))::List.replicate (n / 8) 0)=2 ^ n:=by
 have h0:val (List.replicate (n / 8) (0:UInt8))=0:=by
  generalize n / 8=k
  induction k with
  | zero=>rfl
  | succ k ih=>rw [List.replicate_succ,Z9,ih];simp
 have h1:2 ^ (n % 8) < 256:=by
  have:2 ^ (n % 8)<=2 ^ 7:=c7z (by decide) (by omega)
  omega
 rw [Z9,h0,a2b,Nat.mod_eq_of_lt h1,List.length_replicate,Nat.add_zero,show (256:Nat)=2 ^ 8 by decide,<- Nat.pow_mul,<- Nat.pow_add]
 congr 1;omega
end Nm
end Go.Proofs.YtgpegbfnlkidjaaGreatDoor
