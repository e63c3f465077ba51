/- A part of the proof: lemmas only, with the conditions that each names. -/
import Derived.Laws.Bits64b
import Derived.Test.YtgpegbfnlkidjaaGreatDoorProg
import Derived.KernelRfl
import Derived.Shelf.Small.Bits
import Derived.Shelf.Small.Strs
import Derived.Shelf.Small.Wraps
import Derived.Shelf.Strconv.Itoa0
import Derived.Shelf.Spec.TrailingZeros
import Derived.Shelf.SlSortCmp.NoneTotal
import Derived.Ground.SlsfProg
import Derived.Test.YtgpegbfnlkidjaaGreatDoorFk2
set_option linter.all false
namespace Go.Proofs.YtgpegbfnlkidjaaGreatDoor.Nm
def val (l:List UInt8):Nat:=l.foldl (fun n b=>256*n+b.toNat) 0
theorem a5u:∀ (l:List UInt8) (n:Nat),l.foldl (fun n b=>256*n+b.toNat) n=n*256 ^ l.length+val l
 | [],n=>by simp [val]
 | b::l,n=>by
  have h1:=a5u l (256*n+b.toNat)
  have h2:=a5u l (256*0+b.toNat)
  simp only [List.foldl_cons,val,c7A,c7T] at h1 h2 ⊢
  rw [h1,h2]
  grind
theorem b1Y:val []=0:=rfl
theorem a0d (b:UInt8) (l:List UInt8):val (b::l)=b.toNat*256 ^ l.length+val l:=by
 have:=a5u l (256*0+b.toNat)
 simp only [val,List.foldl_cons] at this ⊢
 rw [this]
 simp
theorem b7G (a b:List UInt8):val (a++b)=val a*256 ^ b.length+val b:=by
 unfold val
 rw [List.foldl_append,a5u]
 rfl
theorem a5c (a:List UInt8) (b:UInt8):val (a++[b])=256*val a+b.toNat:=by
 rw [b7G,a0d];simp [b1Y];omega
theorem Y8:∀ (l:List UInt8),val l < 256 ^ l.length
 | []=>by simp [val]
 | b::l=>by
  have h:=Y8 l
  have hb:=b.toNat_lt
  rw [a0d,c7A,c7T]
  have:b.toNat*256 ^ l.length<=255*256 ^ l.length:=c7M _ (by omega)
  omega
def trim:List UInt8->List UInt8
 | []=>[]
 | b::l=>if b=0 then trim l else b::l
theorem R4:∀ l,val (trim l)=val l
 | []=>rfl
 | b::l=>by
  unfold trim
  split
  ·rename_i h;subst h;rw [R4 l,a0d];simp
  ·rfl
theorem Y6:∀ l,(trim l).length<=l.length
 | []=>c7p _
 | b::l=>by
  unfold trim
  split
  ·have:=Y6 l;simp;omega
  ·exact c7p _
def canon (l:List UInt8):Prop:=∀ r,l ≠ 0::r
theorem X5:∀ l,canon (trim l)
 | [],r=>by simp [trim]
 | b::l,r=>by
  unfold trim
  split
  ·exact X5 l r
  ·intro e;injection e;contradiction
theorem a7d {l:List UInt8} (h:canon l):trim l=l:=by
 cases l with
 | nil=>rfl
 | cons b l=>
  unfold trim
  rw [if_neg]
  intro e
  exact h l (by rw [e])
theorem a8h (l:List UInt8):trim (trim l)=trim l:=a7d (X5 l)
theorem a8n:canon []:=fun r h=>by cases h
theorem b1b {b:UInt8} {l:List UInt8} (h:canon (b::l)):256 ^ l.length<=val (b::l):=by
 have hb:1<=b.toNat:=by
  rcases c7E b.toNat with h0|h0
  ·exact absurd (by rw [show b=0 from UInt8.toNat.inj h0]) (h l)
  ·exact h0
 rw [a0d]
 have:=c7M (256 ^ l.length) hb
 omega
theorem val_zero {l:List UInt8} (h:canon l):val l=0 <-> l=[]:=by
 cases l with
 | nil=>simp [val]
 | cons b l=>
  have:=b1b h
  have:=Nat.pow_pos (n:=l.length) (show 0 < 256 by decide)
  simp;omega
theorem a9m:∀ {a b:List UInt8},a.length=b.length->val a=val b->a=b
 | [],[],_,_=>rfl
 | [],_::_,h,_=>by cases h
 | _::_,[],h,_=>by cases h
 | x::a,y::b,h,hv=>by
  simp only [c7A,Nat.add_right_cancel_iff] at h
  rw [a0d,a0d,h] at hv
  have h1:=Y8 a
  have h2:=Y8 b
  rw [h] at h1
  have hp:=Nat.pow_pos (n:=b.length) (show 0 < 256 by decide)
  have e1:(x.toNat*256 ^ b.length+val a) / 256 ^ b.length=x.toNat:=by
   rw [Nat.mul_comm,Nat.mul_add_div hp,Nat.div_eq_of_lt h1];rfl
  have e2:(y.toNat*256 ^ b.length+val b) / 256 ^ b.length=y.toNat:=by
   rw [Nat.mul_comm,Nat.mul_add_div hp,Nat.div_eq_of_lt h2];rfl
  rw [hv,e2] at e1
  have hxy:x=y:=UInt8.toNat.inj e1.symm
  subst hxy
  rw [a9m h (by omega)]
theorem a2Y {a b:List UInt8} (hb:canon b) (h:a.length < b.length):val a < val b:=by
 cases b with
 | nil=>simp at h
 | cons y b=>
  have h1:=b1b hb
  have h2:=Y8 a
  have h3:256 ^ a.length<=256 ^ b.length:=c7N (by decide) (by simp at h;omega)
  omega
theorem c0X {a b:List UInt8} (ha:canon a) (hb:canon b) (h:val a=val b):a=b:=by
 refine a9m ?_ h
 rcases Nat.lt_trichotomy a.length b.length with h1|h1|h1
 ·have:=a2Y hb h1;omega
 ·exact h1
 ·have:=a2Y ha h1;omega
def enc (n:Nat):List UInt8:=if n=0 then [] else enc (n / 256)++[UInt8.ofNat (n % 256)]
termination_by n
decreasing_by omega
theorem a0S:enc 0=[]:=by unfold enc;rfl
theorem H7 (n:Nat):val (enc n)=n:=by
 induction n using Nat.strongRecOn with
 | _ n ih=>
  unfold enc
  split
  ·rename_i h;subst h;rfl
  ·rw [a5c,ih _ (by omega)]
   have:(UInt8.ofNat (n % 256)).toNat=n % 256:=by simp
   rw [this];omega
theorem a6u {n:Nat} (h:n ≠ 0):enc n ≠ []:=fun e=>h (by rw [<- H7 n,e];rfl)
theorem a2H (n:Nat):canon (enc n):=by
 induction n using Nat.strongRecOn with
 | _ n ih=>
  unfold enc
  split
  ·exact a8n
  ·rename_i hn
   intro r hr
   by_cases h0:n / 256=0
   ·rw [h0,a0S,List.nil_append] at hr
    injection hr with h1 _
    have h2:=congrArg UInt8.toNat h1
    simp at h2
    omega
   ·have h1:=ih (n / 256) (by omega)
    cases he:enc (n / 256) with
    | nil=>exact a6u h0 he
    | cons b l=>
     rw [he] at hr h1
     injection hr with h2 _
     exact h1 l (by rw [h2])
theorem a8O (l:List UInt8):enc (val l)=trim l:=c0X (a2H _) (X5 l) (by rw [H7,R4])
theorem a1r {l:List UInt8} (h:canon l):enc (val l)=l:=by rw [a8O,a7d h]
theorem b1x {a b:Nat} (h:enc a=enc b):a=b:=by rw [<- H7 a,h,H7]
theorem G5 {n k:Nat} (h:n < 256 ^ k):(enc n).length<=k:=by
 rcases c7D k (enc n).length with h1|h1
 ·cases he:enc n with
  | nil=>rw [he] at h1;simp at h1
  | cons b l=>
   have h2:=b1b (he ▸ a2H n)
   rw [<- he,H7] at h2
   rw [he] at h1
   have:256 ^ k<=256 ^ l.length:=c7N (by decide) (by simp at h1;omega)
   omega
 ·exact h1
theorem Y5 {n k:Nat} (h:(enc n).length<=k):n < 256 ^ k:=by
 have h1:=Y8 (enc n)
 rw [H7] at h1
 have:256 ^ (enc n).length<=256 ^ k:=c7N (by decide) h
 omega
theorem a0r {l:List UInt8} {k:Nat} (h:l.length<=k):val l < 256 ^ k:=by
 have:=Y8 l
 have:256 ^ l.length<=256 ^ k:=c7N (by decide) h
 omega
def wv (B:Nat):List Nat->Nat
 | []=>0
 | w::r=>w+B*wv B r
theorem a8i (B:Nat):∀ (a b:List Nat),wv B (a++b)=wv B a+B ^ a.length*wv B b
 | [],b=>by simp [wv]
 | x::a,b=>by
  simp only [List.cons_append,wv,a8i B a b,c7A,c7T]
  grind
theorem a8L (B:Nat) (a:List Nat) (x:Nat):wv B (a++[x])=wv B a+B ^ a.length*x:=by
 rw [a8i];simp [wv]
theorem D7 (B:Nat) {l:List Nat} {i:Nat} (h:i < l.length):wv B (l.take (i+1))=wv B (l.take i)+B ^ i*l[i]:=by
 rw [c7Z h,a8L,c7s]
 rw [Nat.min_eq_left (by omega)]
theorem a3A (B:Nat) (l:List Nat) (i:Nat) (h:i<=l.length):wv B l=wv B (l.take i)+B ^ i*wv B (l.drop i):=by
 have:=a8i B (l.take i) (l.drop i)
 rw [List.take_append_drop,c7s,Nat.min_eq_left h] at this
 exact this
theorem a5a (B:Nat):∀ {l:List Nat} {i:Nat} (h:i < l.length) (v:Nat),wv B (l.set i v)+B ^ i*l[i]=wv B l+B ^ i*v
 | [],i,h,v=>by simp at h
 | x::l,0,h,v=>by simp [wv];omega
 | x::l,i+1,h,v=>by
  have:=a5a B (l:=l) (i:=i) (by simpa using h) v
  simp only [List.set_cons_succ,wv,List.getElem_cons_succ,c7T]
  grind
theorem L9 (B:Nat):∀ {l:List Nat},(∀ w ∈ l,w < B)->wv B l < B ^ l.length
 | [],_=>by simp [wv]
 | x::l,h=>by
  have h1:=L9 B (l:=l) fun w hw=>h w (by simp [hw])
  have h2:=h x (by simp)
  simp only [wv,c7A,c7T]
  have h3:B*(wv B l+1)<=B*B ^ l.length:=Nat.mul_le_mul_left _ h1
  rw [Nat.mul_add,Nat.mul_one] at h3
  rw [Nat.mul_comm (B ^ l.length) B]
  omega
theorem a6V (B:Nat):∀ n,wv B (List.replicate n 0)=0
 | 0=>rfl
 | n+1=>by simp [List.replicate_succ,wv,a6V B n]
theorem b5l {B:Nat} {l:List Nat} {x:Nat} (hx:x ≠ 0):B ^ l.length<=wv B (l++[x]):=by
 rw [a8L]
 have:B ^ l.length*1<=B ^ l.length*x:=Nat.mul_le_mul_left _ (by omega)
 omega
theorem mem_set {α:Type} {l:List α} {i:Nat} {v x:α} (h:x ∈ l.set i v):x=v \/ x ∈ l:=by
 rcases List.mem_or_eq_of_mem_set h with h|h
 ·exact .inr h
 ·exact .inl h
def dig (B:Nat):Nat->Nat->List Nat
 | 0,_=>[]
 | L+1,n=>n % B::dig B L (n / B)
theorem K4 (B:Nat):∀ L n,(dig B L n).length=L
 | 0,_=>rfl
 | L+1,n=>by simp [dig,K4 B L]
theorem a0Y {B:Nat} (hB:0 < B):∀ L n,∀ w ∈ dig B L n,w < B
 | 0,_,w,h=>by simp [dig] at h
 | L+1,n,w,h=>by
  simp only [dig,List.mem_cons] at h
  rcases h with rfl|h
  ·exact Nat.mod_lt _ hB
  ·exact a0Y hB L _ w h
theorem b9r (B:Nat):∀ L n,wv B (dig B L n)=n % B ^ L
 | 0,n=>by simp [dig,wv,Nat.mod_one]
 | L+1,n=>by
  simp only [dig,wv,b9r B L]
  rw [c7T,Nat.mul_comm (B ^ L) B,Nat.mod_mul]
theorem X9 {B L n:Nat} (h:n < B ^ L):wv B (dig B L n)=n:=by rw [b9r,Nat.mod_eq_of_lt h]
theorem c1j {B:Nat} (hB:0 < B):∀ {l:List Nat},(∀ w ∈ l,w < B)->l=dig B l.length (wv B l)
 | [],_=>rfl
 | x::l,h=>by
  have hx:=h x (by simp)
  have ih:=c1j hB (l:=l) fun w hw=>h w (by simp [hw])
  simp only [c7A,dig,wv]
  rw [Nat.add_mul_mod_self_left,Nat.mod_eq_of_lt hx,Nat.add_mul_div_left _ _ hB,Nat.div_eq_of_lt hx,c7R,<- ih]
theorem Y4 {B L n:Nat} {l:List Nat} (hB:0 < B) (h:∀ w ∈ l,w < B) (hl:l.length=L) (hn:wv B l=n):l=dig B L n:=by
 have:=c1j hB h
 rw [hl,hn] at this
 exact this
theorem a7v {l:List UInt8} {i:Nat} (h:i < l.length):val (l.drop (l.length-1-i))=(l[l.length-1-i]).toNat*256 ^ i+val (l.drop (l.length-i)):=by
 have h1:l.drop (l.length-1-i)=l[l.length-1-i]::l.drop (l.length-i):=by
  rw [List.drop_eq_getElem_cons (by omega)]
  congr 2;omega
 rw [h1,a0d,c7S]
 congr 2;congr 1;omega
def a5g (l:List UInt8) (i:Nat) (out:List Nat):Prop:=
 out.length=(l.length+3) / 4/\(∀ w ∈ out,w < 4294967296)/\wv 4294967296 out=val (l.drop (l.length-i))/\∀ j (h:j < out.length),out[j] < 256 ^ (i-4*j)
theorem b3B (l:List UInt8):a5g l 0 (List.replicate ((l.length+3) / 4) 0):=by
 refine ⟨by simp,fun w hw=>by rw [c7G hw];decide,?_,fun j h=>by simp⟩
 rw [a6V];simp [val]
theorem c0f (i:Nat):4294967296 ^ (i / 4)*256 ^ (i % 4)=256 ^ i:=by
 have h:(4294967296:Nat)=256 ^ 4:=by decide
 rw [h,<- Nat.pow_mul,<- Nat.pow_add]
 congr 1;omega
theorem a3w {a b r:Nat} (h:a < 2 ^ r):a ||| (b*2 ^ r)=a+b*2 ^ r:=by
 have:=Nat.two_pow_add_eq_or_of_lt h b
 rw [Nat.mul_comm b,Nat.add_comm a,this,Nat.or_comm]
theorem b3A {l:List UInt8} {i:Nat} {out:List Nat} (h:a5g l i out) (hi:i < l.length) (hj:i / 4 < out.length) :
  a5g l (i+1) (out.set (i / 4) (out[i / 4] ||| (l[l.length-1-i]).toNat*2 ^ (8*(i % 4))))/\out[i / 4] ||| (l[l.length-1-i]).toNat*2 ^ (8*(i % 4)) < 4294967296/\(l[l.length-1-i]).toNat*2 ^ (8*(i % 4)) < 4294967296:=by
 obtain ⟨h1,h2,h3,h4⟩:=h
 have e256:2 ^ (8*(i % 4))=256 ^ (i % 4):=by rw [Nat.pow_mul]
 have hb:=(l[l.length-1-i]).toNat_lt
 have hlow:=h4 (i / 4) hj
 rw [show i-4*(i / 4)=i % 4 by omega] at hlow
 have hor:out[i / 4] ||| (l[l.length-1-i]).toNat*2 ^ (8*(i % 4))=out[i / 4]+(l[l.length-1-i]).toNat*256 ^ (i % 4):=by
  rw [a3w (by rw [e256];exact hlow),e256]
 rw [hor,e256]
 have hpos:=Nat.pow_pos (n:=i % 4) (show 0 < 256 by decide)
 have hmul:(l[l.length-1-i]).toNat*256 ^ (i % 4)<=255*256 ^ (i % 4):=c7M _ (by omega)
 have hnew:out[i / 4]+(l[l.length-1-i]).toNat*256 ^ (i % 4) < 256 ^ (i % 4+1):=by rw [c7T];omega
 have h4p:(256:Nat) ^ (i % 4+1)<=256 ^ 4:=c7N (by decide) (by omega)
 have h44:(256:Nat) ^ 4=4294967296:=by decide
 refine ⟨⟨by simp [h1],fun w hw=>?_,?_,fun j hjl=>?_⟩,by omega,by omega⟩
 ·rcases mem_set hw with rfl|hw
  ·omega
  ·exact h2 w hw
 ·have hs:=a5a 4294967296 hj (out[i / 4]+(l[l.length-1-i]).toNat*256 ^ (i % 4))
  rw [Nat.mul_add,<- c7O,Nat.mul_right_comm,c7O,Nat.mul_comm (l[l.length-1-i]).toNat,Nat.mul_comm _ (l[l.length-1-i]).toNat] at hs
  rw [show l.length-(i+1)=l.length-1-i by omega,a7v hi,<- h3,<- c0f i]
  have:4294967296 ^ (i / 4)*((l[l.length-1-i]).toNat*256 ^ (i % 4))=(l[l.length-1-i]).toNat*(4294967296 ^ (i / 4)*256 ^ (i % 4)):=by grind
  have hs':=a5a 4294967296 hj (out[i / 4]+(l[l.length-1-i]).toNat*256 ^ (i % 4))
  rw [Nat.mul_add] at hs'
  omega
 ·rw [List.getElem_set]
  split
  ·rename_i e;subst e
   rw [show i+1-4*(i / 4)=i % 4+1 by omega];exact hnew
  ·have h5:=h4 j (by simpa using hjl)
   have:(256:Nat) ^ (i-4*j)<=256 ^ (i+1-4*j):=c7N (by decide) (by omega)
   omega
def K3 (l:List UInt8):List Nat:=dig 4294967296 (((trim l).length+3) / 4) (val l)
theorem b4A {l:List UInt8} {out:List Nat} (h:a5g (trim l) (trim l).length out):out=K3 l:=by
 obtain ⟨h1,h2,h3,_⟩:=h
 refine Y4 (by decide) h2 h1 ?_
 rw [h3,Nat.sub_self,List.drop_zero,R4]
theorem b6B (l:List UInt8):val l < 4294967296 ^ (((trim l).length+3) / 4):=by
 have h:=Y8 (trim l)
 rw [R4] at h
 have h4:(4294967296:Nat)=256 ^ 4:=by decide
 rw [h4,<- Nat.pow_mul]
 have:256 ^ (trim l).length<=256 ^ (4*(((trim l).length+3) / 4)):=c7N (by decide) (by omega)
 omega
theorem X7 (l:List UInt8):(K3 l).length=((trim l).length+3) / 4:=K4 _ _ _
theorem a0s (l:List UInt8):wv 4294967296 (K3 l)=val l:=X9 (b6B l)
theorem a0o (l:List UInt8):∀ w ∈ K3 l,w < 4294967296:=a0Y (by decide) _ _
theorem a7U (l:List UInt8) (h:K3 l ≠ []):4294967296 ^ ((K3 l).length-1)<=val l:=by
 have hl:=X7 l
 have hc:=X5 l
 have hv:=R4 l
 cases ht:trim l with
 | nil=>rw [ht] at hl;exact absurd (c7K (by simpa using hl)) h
 | cons b r=>
  rw [ht] at hc hl hv
  have:=b1b hc
  have h4:(4294967296:Nat)=256 ^ 4:=by decide
  rw [h4,<- Nat.pow_mul]
  have:256 ^ (4*((K3 l).length-1))<=256 ^ r.length:=c7N (by decide) (by simp at hl;omega)
  omega
theorem b3i {α:Type} (x0 x1 x2 x3:α):∀ (k:Nat) (b:List α),k+3 < b.length->((((b.set k x0).set (k+1) x1).set (k+2) x2).set (k+3) x3).drop k=x0::x1::x2::x3::b.drop (k+4)
 | 0,b,h=>by
  match b,h with
  | _::_::_::_::r,_=>simp
 | k+1,[],h=>by simp at h
 | k+1,a::b,h=>by
  have:=b3i x0 x1 x2 x3 k b (by simp at h;omega)
  simpa using this
def a6f (l:List Nat) (i:Nat) (b:List UInt8):Prop:=b.length=4*l.length/\val (b.drop (4*(l.length-i)))=wv 4294967296 (l.take i)
theorem b5h (l:List Nat):a6f l 0 (List.replicate (4*l.length) 0):=by
 refine ⟨by simp,?_⟩
 rw [List.drop_of_length_le (by simp)];rfl
theorem b5k {l:List Nat} {i:Nat} {b:List UInt8} (h:a6f l i b) (hi:i < l.length) (hw:l[i] < 4294967296) {x0 x1 x2 x3:UInt8}
  (h0:x0.toNat=l[i] / 16777216 % 256) (h1:x1.toNat=l[i] / 65536 % 256) (h2:x2.toNat=l[i] / 256 % 256) (h3:x3.toNat=l[i] % 256) :
  a6f l (i+1) ((((b.set (4*(l.length-1-i)) x0).set (4*(l.length-1-i)+1) x1).set (4*(l.length-1-i)+2) x2).set (4*(l.length-1-i)+3) x3):=by
 obtain ⟨e1,e2⟩:=h
 refine ⟨by simp [e1],?_⟩
 rw [show 4*(l.length-(i+1))=4*(l.length-1-i) by omega,b3i _ _ _ _ _ _ (by omega),show 4*(l.length-1-i)+4=4*(l.length-i) by omega,D7 _ hi,<- e2]
 have hl:(b.drop (4*(l.length-i))).length=4*i:=by rw [c7S];omega
 simp only [a0d,c7A,hl]
 have h4:(4294967296:Nat)=256 ^ 4:=by decide
 rw [h4,<- Nat.pow_mul]
 have e:l[i]=x0.toNat*16777216+x1.toNat*65536+x2.toNat*256+x3.toNat:=by rw [h0,h1,h2,h3];omega
 rw [e]
 generalize x0.toNat=a0
 generalize x1.toNat=a1
 generalize x2.toNat=a2
 generalize x3.toNat=a3
 have p1:(256:Nat) ^ (4*i+1+1+1)=16777216*256 ^ (4*i):=by rw [c7T,c7T,c7T];omega
 have p2:(256:Nat) ^ (4*i+1+1)=65536*256 ^ (4*i):=by rw [c7T,c7T];omega
 have p3:(256:Nat) ^ (4*i+1)=256*256 ^ (4*i):=by rw [c7T];omega
 rw [p1,p2,p3]
 grind
theorem b6c {l:List Nat} {b:List UInt8} (h:a6f l l.length b):trim b=enc (wv 4294967296 l):=by
 obtain ⟨_,h⟩:=h
 rw [Nat.sub_self,Nat.mul_zero,List.drop_zero,c7y] at h
 rw [<- h,a8O]
def oB (n:Nat):UInt8:=UInt8.ofNat (n % 256)
theorem a2c (n:Nat):(oB n).toNat=n % 256:=by simp [oB]
def be8 (n:Nat):List UInt8:=[oB (n / 72057594037927936),oB (n / 281474976710656),oB (n / 1099511627776),oB (n / 4294967296),oB (n / 16777216),oB (n / 65536),oB (n / 256),oB n]
theorem b7d {n:Nat} (h:n < 18446744073709551616):val (be8 n)=n:=by
 simp only [be8,val,List.foldl_cons,List.foldl_nil,a2c]
 omega
theorem b4x {n:Nat} (h:n < 18446744073709551616):trim (be8 n)=enc n:=by rw [<- a8O,b7d h]
theorem b8o (v b:Nat) (hb:b < 256):(v % 18446744073709551616*256) % 18446744073709551616 ||| b=(256*v+b) % 18446744073709551616:=by
 have h1:(v % 18446744073709551616*256) % 18446744073709551616=(v % 72057594037927936)*2 ^ 8:=by omega
 rw [h1,Nat.mul_comm _ (2 ^ 8),<- Nat.two_pow_add_eq_or_of_lt (by simpa using hb)]
 omega
theorem Q6 (B:Nat) {l:List Nat} {i:Nat} (h:i < l.length) (v:Nat):wv B ((l.set i v).take (i+1))=wv B (l.take i)+B ^ i*v:=by
 rw [D7 B (by simpa using h),List.getElem_set_self,List.take_set_of_le (c7p _)]
theorem a3f (B:Nat) (l:List Nat) (i:Nat):wv B (l.take (i+1))=wv B (l.take i)+B ^ i*l.getD i 0:=by
 rcases c7D i l.length with h|h
 ·rw [D7 B h,c7u,c7h h];rfl
 ·rw [c7C (by omega),c7C h,c7u,c7J h];simp
def a4f (x y:List Nat) (i:Nat) (out:List Nat) (c:Nat):Prop:=
 out.length=x.length+1/\(∀ w ∈ out,w < 4294967296)/\c<=1/\wv 4294967296 (out.take i)+4294967296 ^ i*c=wv 4294967296 (x.take i)+wv 4294967296 (y.take i)
theorem a9f (x y:List Nat):a4f x y 0 (List.replicate (x.length+1) 0) 0:=by
 refine ⟨by simp,fun w hw=>by rw [c7G hw];decide,by omega,by simp [wv]⟩
theorem b6T {x y:List Nat} {i:Nat} {out:List Nat} {c:Nat} (h:a4f x y i out c) (hi:i < x.length) (hx:x[i] < 4294967296) (hy:y.getD i 0 < 4294967296) {s:Nat} (hs:s=c+x[i]+y.getD i 0) :
  a4f x y (i+1) (out.set i (s % 4294967296)) (s / 4294967296):=by
 obtain ⟨h1,h2,h3,h4⟩:=h
 refine ⟨by simp [h1],fun w hw=>?_,by omega,?_⟩
 ·rcases mem_set hw with rfl|hw
  ·exact Nat.mod_lt _ (by decide)
  ·exact h2 w hw
 ·rw [Q6 _ (by omega),D7 _ hi,a3f]
  have hd:s=s % 4294967296+4294967296*(s / 4294967296):=by omega
  have e:4294967296 ^ i*s=4294967296 ^ i*c+4294967296 ^ i*x[i]+4294967296 ^ i*y.getD i 0:=by rw [hs,Nat.mul_add,Nat.mul_add]
  have e2:4294967296 ^ i*s=4294967296 ^ i*(s % 4294967296)+4294967296 ^ (i+1)*(s / 4294967296):=by
   conv=>lhs;rw [hd,Nat.mul_add,<- c7O,<- c7T]
  omega
theorem b0A {x y:List Nat} {out:List Nat} {c:Nat} (h:a4f x y x.length out c) (hl:y.length<=x.length):wv 4294967296 (out.set x.length c)=wv 4294967296 x+wv 4294967296 y/\∀ w ∈ out.set x.length c,w < 4294967296:=by
 obtain ⟨h1,h2,h3,h4⟩:=h
 refine ⟨?_,fun w hw=>?_⟩
 ·have:=Q6 4294967296 (l:=out) (i:=x.length) (by omega) c
  rw [c7C (by simp [h1])] at this
  rw [c7y,c7C hl] at h4
  omega
 ·rcases mem_set hw with rfl|hw
  ·omega
  ·exact h2 w hw
def a7I (x y:List Nat) (i:Nat) (out:List Nat) (c:Nat):Prop:=
 out.length=x.length/\(∀ w ∈ out,w < 4294967296)/\c<=1/\out.drop i=x.drop i/\wv 4294967296 (out.take i)+wv 4294967296 (y.take i)+4294967296 ^ i*0=wv 4294967296 (x.take i)+4294967296 ^ i*c
theorem b6V {x:List Nat} (y:List Nat) (hx:∀ w ∈ x,w < 4294967296):a7I x y 0 x 0:=by
 refine ⟨rfl,hx,by omega,rfl,by simp [wv]⟩
theorem a0x {α:Type} {a b:List α} {i:Nat} (h:a.drop i=b.drop i):a[i]?=b[i]?:=by
 have:=congrArg (fun l=>l[0]?) h
 simpa using this
theorem a0i {α:Type} {a b:List α} {i:Nat} (v:α) (h:a.drop i=b.drop i):(a.set i v).drop (i+1)=b.drop (i+1):=by
 rw [List.drop_set_of_lt (by omega)]
 have:=congrArg (List.drop 1) h
 simpa [List.drop_drop] using this
theorem b6s {x y:List Nat} {i:Nat} {out:List Nat} {c:Nat} (h:a7I x y i out c) (hi:i < x.length) {t c':Nat} (ht:t < 4294967296) (hc:c'<=1) (hs:t+c+y.getD i 0=x[i]+4294967296*c') :
  a7I x y (i+1) (out.set i t) c':=by
 obtain ⟨h1,h2,h3,hd,h4⟩:=h
 refine ⟨by simp [h1],fun w hw=>?_,hc,a0i _ hd,?_⟩
 ·rcases mem_set hw with rfl|hw
  ·exact ht
  ·exact h2 w hw
 ·rw [Q6 _ (by omega),D7 _ hi,a3f]
  have e:=congrArg (4294967296 ^ i*·) hs
  simp only [Nat.mul_add] at e
  rw [<- c7O,<- c7T] at e
  simp only [Nat.succ_eq_add_one] at e
  omega
theorem b8S {x y:List Nat} {out:List Nat} {c:Nat} (h:a7I x y x.length out c) (hl:y.length<=x.length) (hle:wv 4294967296 y<=wv 4294967296 x):c=0/\wv 4294967296 out+wv 4294967296 y=wv 4294967296 x:=by
 obtain ⟨h1,h2,h3,_,h4⟩:=h
 rw [c7y,c7C (by omega),c7C hl] at h4
 have:=L9 4294967296 h2
 rw [h1] at this
 have hc:c=0:=by
  rcases c7E c with h0|h0
  ·exact h0
  ·have:c=1:=by omega
   subst this
   omega
 subst hc
 exact ⟨rfl,by omega⟩
def a7Z (x y:List Nat) (i:Nat) (out:List Nat):Prop:=
 out.length=x.length+y.length/\(∀ w ∈ out,w < 4294967296)/\wv 4294967296 out=wv 4294967296 (x.take i)*wv 4294967296 y/\∀ j,i+y.length<=j->out.getD j 0=0
def b0l (x y:List Nat) (i k:Nat) (out:List Nat) (c:Nat):Prop:=
 out.length=x.length+y.length/\(∀ w ∈ out,w < 4294967296)/\c < 4294967296/\wv 4294967296 out+4294967296 ^ (i+k)*c=wv 4294967296 (x.take i)*wv 4294967296 y+4294967296 ^ i*(x.getD i 0*wv 4294967296 (y.take k))/\∀ j,i+y.length<=j->out.getD j 0=0
theorem b6M (x y:List Nat):a7Z x y 0 (List.replicate (x.length+y.length) 0):=by
 refine ⟨by simp,fun w hw=>by rw [c7G hw];decide,by rw [a6V];simp [wv],fun j _=>?_⟩
 rw [c7u,List.getElem?_replicate];split<;>rfl
theorem b7M {x y:List Nat} {i:Nat} {out:List Nat} (h:a7Z x y i out):b0l x y i 0 out 0:=by
 obtain ⟨h1,h2,h3,h4⟩:=h
 exact ⟨h1,h2,by decide,by rw [h3];simp [wv],h4⟩
theorem getD_set_ne {l:List Nat} {i j v:Nat} (h:i ≠ j):(l.set i v).getD j 0=l.getD j 0:=by
 simp [c7u,List.getElem?_set_ne h]
theorem b9a {x y:List Nat} {i k:Nat} {out:List Nat} {c:Nat} (h:b0l x y i k out c) (hi:i < x.length) (hk:k < y.length) (hx:x[i] < 4294967296) (hy:y[k] < 4294967296) {s:Nat} (ho:i+k < out.length) (hs:s=c+x[i]*y[k]+out[i+k]) :
  b0l x y i (k+1) (out.set (i+k) (s % 4294967296)) (s / 4294967296)/\s<=18446744073709551615:=by
 obtain ⟨h1,h2,h3,h4,h5⟩:=h
 have hm:x[i]*y[k]<=4294967295*4294967295:=Nat.mul_le_mul (by omega) (by omega)
 have hok:=h2 _ (c7x ho)
 have hsb:s<=18446744073709551615:=by omega
 refine ⟨⟨by simp [h1],fun w hw=>?_,by omega,?_,fun j hj=>?_⟩,hsb⟩
 ·rcases mem_set hw with rfl|hw
  ·exact Nat.mod_lt _ (by decide)
  ·exact h2 w hw
 ·have e0:=a5a 4294967296 ho (s % 4294967296)
  rw [D7 _ hk]
  have hd:s=s % 4294967296+4294967296*(s / 4294967296):=by omega
  have e2:4294967296 ^ (i+k)*s=4294967296 ^ (i+k)*(s % 4294967296)+4294967296 ^ (i+(k+1))*(s / 4294967296):=by
   conv=>lhs;rw [hd,Nat.mul_add,<- c7O,<- c7T]
   rfl
  have e3:4294967296 ^ (i+k)*s=4294967296 ^ (i+k)*c+4294967296 ^ (i+k)*(x[i]*y[k])+4294967296 ^ (i+k)*out[i+k]:=by rw [hs,Nat.mul_add,Nat.mul_add]
  have e4:x.getD i 0=x[i]:=by rw [c7u,c7h hi];rfl
  rw [e4] at h4 ⊢
  have e5:4294967296 ^ i*(x[i]*(wv 4294967296 (y.take k)+4294967296 ^ k*y[k]))=4294967296 ^ i*(x[i]*wv 4294967296 (y.take k))+4294967296 ^ (i+k)*(x[i]*y[k]):=by
   rw [Nat.pow_add,Nat.mul_add,Nat.mul_add]
   congr 1
   generalize 4294967296 ^ i=p
   generalize 4294967296 ^ k=q
   grind
  omega
 ·rw [getD_set_ne (by omega)];exact h5 j hj
theorem c0J {x y:List Nat} {i:Nat} {out:List Nat} {c:Nat} (h:b0l x y i y.length out c) (hi:i < x.length):a7Z x y (i+1) (out.set (i+y.length) c):=by
 obtain ⟨h1,h2,h3,h4,h5⟩:=h
 have ho:i+y.length < out.length:=by omega
 refine ⟨by simp [h1],fun w hw=>?_,?_,fun j hj=>?_⟩
 ·rcases mem_set hw with rfl|hw
  ·exact h3
  ·exact h2 w hw
 ·have e0:=a5a 4294967296 ho c
  have e1:=h5 _ (c7p (i+y.length))
  rw [c7u,c7h ho] at e1
  simp only [Option.getD_some] at e1
  rw [e1,Nat.mul_zero,Nat.add_zero] at e0
  rw [e0,h4,c7y,a3f]
  grind
 ·rw [getD_set_ne (by omega)];exact h5 j (by omega)
theorem b8I {x y:List Nat} {out:List Nat} (h:a7Z x y x.length out):wv 4294967296 out=wv 4294967296 x*wv 4294967296 y:=by
 obtain ⟨_,_,h,_⟩:=h
 rw [c7y] at h
 exact h
section
variable {W V p v1 v2 lo2 top u2 wl d rest:Nat}
theorem c5p (hV:v1*p<=V) (hW:W < (top+1)*p) (h1:0 < v1):W / V<=top / v1:=by
 rw [Nat.le_div_iff_mul_le h1]
 rcases c7D top (W / V*v1) with h|h
 ·exfalso
  have h2:(top+1)*p<=W / V*v1*p:=c7M p h
  have h3:W / V*(v1*p)<=W / V*V:=Nat.mul_le_mul_left _ hV
  have h4:W / V*V<=W:=Nat.div_mul_le_self W V
  rw [<- c7O] at h3
  omega
 ·exact h
theorem c4o {B:Nat} (hV:(v1*B+v2)*p<=V) (hW:W < (top*B+u2+1)*p) (ht:top=d*v1+rest) (hd:rest*B+u2 < d*v2):W / V < d:=by
 have h1:top*B+u2+1<=d*(v1*B+v2):=by
  rw [ht,Nat.add_mul,Nat.mul_add,c7O];omega
 have h2:(top*B+u2+1)*p<=d*(v1*B+v2)*p:=c7M p h1
 have h3:d*((v1*B+v2)*p)<=d*V:=Nat.mul_le_mul_left _ hV
 rw [<- c7O] at h3
 have h4:W < d*V:=by omega
 rcases c7E V with h0|h0
 ·subst h0;simp at h4
 ·rwa [Nat.div_lt_iff_lt_mul h0]
theorem c5R {B:Nat} (hV:V < (v1*B+v2+1)*p) (hW:(top*B+u2)*p<=W) (ht:top=d*v1+rest) (hd:d*v2<=rest*B+u2) (hB:d < B) (h1:0 < v1):(d-1)*V<=W:=by
 rcases c7E d with h0|h0
 ·subst h0;simp
 obtain ⟨e,rfl⟩:∃ e,d=e+1:=⟨d-1,by omega⟩
 simp only [Nat.add_sub_cancel]
 have hB1:B<=v1*B:=by have:=c7M B h1;omega
 have h2:(e+1)*(v1*B+v2)<=top*B+u2:=by
  have a1:=Nat.mul_add (e+1) (v1*B) v2
  have a2:=Nat.add_mul ((e+1)*v1) rest B
  have a3:=c7O (e+1) v1 B
  rw [ht];omega
 have h3:e*(v1*B+v2+1)<=top*B+u2:=by
  have:(e+1)*(v1*B+v2)=e*(v1*B+v2)+(v1*B+v2):=by rw [Nat.add_mul,Nat.one_mul]
  have:e*(v1*B+v2+1)=e*(v1*B+v2)+e:=by rw [Nat.mul_add _ _ 1,Nat.mul_one]
  omega
 have h4:e*V<=e*((v1*B+v2+1)*p):=Nat.mul_le_mul_left _ (by omega)
 have h5:e*(v1*B+v2+1)*p<=(top*B+u2)*p:=c7M p h3
 rw [<- c7O] at h4
 omega
end
theorem c2I {W V d:Nat} (h1:W / V<=d) (h2:(d-1)*V<=W) (hV:0 < V):(d*V<=W/\W / V=d) \/ (W < d*V/\0 < d/\W / V=d-1):=by
 rcases c7D W (d*V) with h|h
 ·refine .inr ⟨h,?_,?_⟩
  ·rcases c7E d with h0|h0
   ·subst h0;simp at h
   ·exact h0
  ·have:W / V < d:=by rwa [Nat.div_lt_iff_lt_mul hV]
   have:d-1<=W / V:=by rwa [Nat.le_div_iff_mul_le hV]
   omega
 ·refine .inl ⟨h,?_⟩
  have:d<=W / V:=by rwa [Nat.le_div_iff_mul_le hV]
  omega
def leftInv (x:List Nat) (p i:Nat) (out:List Nat):Prop:=
 out.length=x.length+1/\(∀ w ∈ out,w < 4294967296)/\out.getD i 0 < p/\wv 4294967296 (out.take i)+4294967296 ^ i*out.getD i 0=wv 4294967296 (x.take i)*p
theorem getD_lt {l:List Nat} {i:Nat} (h:i < l.length):l.getD i 0=l[i]:=by rw [c7u,c7h h];rfl
theorem b3Z (x:List Nat) {p:Nat} (hp:0 < p):leftInv x p 0 (List.replicate (x.length+1) 0):=by
 refine ⟨by simp,fun w hw=>by rw [c7G hw];decide,?_,by simp [wv]⟩
 rw [getD_lt (by simp)];simp;omega
theorem a7W {l:List Nat} {i v u:Nat} (h:i+1 < l.length):((l.set i v).set (i+1) u).getD (i+1) 0=u:=by
 rw [getD_lt (by simp;omega)];simp
theorem b4s {x:List Nat} {r i:Nat} {out:List Nat} (h:leftInv x (2 ^ r) i out) (hr:r < 32) (hi:i < x.length) (hx:x[i] < 4294967296) (ho:i < out.length) :
  leftInv x (2 ^ r) (i+1) ((out.set i (out[i] ||| (x[i]*2 ^ r % 4294967296))).set (i+1) (x[i]*2 ^ r / 4294967296))/\x[i]*2 ^ r < 18446744073709551616/\out[i] ||| (x[i]*2 ^ r % 4294967296) < 4294967296/\x[i]*2 ^ r / 4294967296 < 4294967296:=by
 obtain ⟨h1,h2,h3,h4⟩:=h
 rw [getD_lt ho] at h3 h4
 have hp:(2:Nat) ^ r<=2 ^ 31:=c7N (by decide) (by omega)
 have hp0:0 < (2:Nat) ^ r:=Nat.pow_pos (by decide)
 have hmul:x[i]*2 ^ r<=4294967295*2147483648:=Nat.mul_le_mul (by omega) hp
 have e32:(4294967296:Nat)=2 ^ (32-r)*2 ^ r:=by rw [<- Nat.pow_add,show 32-r+r=32 by omega]
 have hmod:x[i]*2 ^ r % 4294967296=(x[i] % 2 ^ (32-r))*2 ^ r:=by rw [e32,Nat.mul_mod_mul_right]
 have hor:out[i] ||| (x[i]*2 ^ r % 4294967296)=out[i]+x[i]*2 ^ r % 4294967296:=by rw [hmod,a3w h3]
 have hq:x[i] % 2 ^ (32-r)+1<=2 ^ (32-r):=Nat.mod_lt _ (Nat.pow_pos (by decide))
 have hq2:(x[i] % 2 ^ (32-r)+1)*2 ^ r<=4294967296:=by
  have:=c7M (2 ^ r) hq
  rw [<- e32] at this;exact this
 have hsum:out[i]+x[i]*2 ^ r % 4294967296 < 4294967296:=by rw [hmod];rw [Nat.add_mul,Nat.one_mul] at hq2;omega
 have hdiv:x[i]*2 ^ r / 4294967296 < 2 ^ r:=by
  rw [Nat.div_lt_iff_lt_mul (by decide),Nat.mul_comm]
  exact Nat.mul_lt_mul_of_pos_left hx hp0
 rw [hor]
 refine ⟨⟨by simp [h1],fun w hw=>?_,?_,?_⟩,by omega,hsum,by omega⟩
 ·rcases mem_set hw with rfl|hw
  ·omega
  ·rcases mem_set hw with rfl|hw
   ·exact hsum
   ·exact h2 w hw
 ·rw [a7W (by omega)];exact hdiv
 ·rw [a7W (by omega),List.take_set_of_le (c7p _),Q6 _ ho,D7 _ hi,Nat.add_mul,<- h4,c7O,c7T]
  have hd:x[i]*2 ^ r=x[i]*2 ^ r % 4294967296+4294967296*(x[i]*2 ^ r / 4294967296):=by omega
  have e1:=congrArg (4294967296 ^ i*·) hd
  simp only [Nat.mul_add] at e1
  rw [e1,Nat.mul_add,c7O]
  omega
theorem b6a {x:List Nat} {p:Nat} {out:List Nat} (h:leftInv x p x.length out):wv 4294967296 out=wv 4294967296 x*p/\out.getD x.length 0 < p:=by
 obtain ⟨h1,h2,h3,h4⟩:=h
 refine ⟨?_,h3⟩
 have ho:x.length < out.length:=by omega
 have:=D7 4294967296 ho
 rw [c7C (by omega),<- getD_lt ho] at this
 rw [c7y] at h4
 omega
def a5f (r0:List Nat) (p i:Nat) (out:List Nat):Prop:=
 out.length=r0.length/\(∀ w ∈ out,w < 4294967296)/\out.drop i=r0.drop i/\wv 4294967296 (out.take i)*p+r0.getD 0 0 % p=wv 4294967296 (r0.take i)+4294967296 ^ i*(r0.getD i 0 % p)
theorem b3w {r0:List Nat} {p:Nat} (h:∀ w ∈ r0,w < 4294967296):a5f r0 p 0 r0:=⟨rfl,h,rfl,by simp [wv]⟩
theorem b3G {r0:List Nat} {by' i:Nat} {out:List Nat} (h:a5f r0 (2 ^ by') i out) (hb:by' < 32) (hi:i < r0.length) (h0:∀ w ∈ r0,w < 4294967296) {t:Nat}
  (ht:t=if i+1 < r0.length then r0[i] / 2 ^ by' ||| (r0.getD (i+1) 0*2 ^ (32-by') % 4294967296) else r0[i] / 2 ^ by'):a5f r0 (2 ^ by') (i+1) (out.set i t)/\t < 4294967296:=by
 obtain ⟨h1,h2,h3,h4⟩:=h
 have hp0:0 < (2:Nat) ^ by':=Nat.pow_pos (by decide)
 have hx:=h0 _ (c7x hi)
 have e32:(4294967296:Nat)=2 ^ by'*2 ^ (32-by'):=by rw [<- Nat.pow_add,show by'+(32-by')=32 by omega]
 have hd:r0[i] / 2 ^ by' < 2 ^ (32-by'):=by
  rw [Nat.div_lt_iff_lt_mul hp0,Nat.mul_comm,<- e32];exact hx
 have ht':t=r0[i] / 2 ^ by'+(r0.getD (i+1) 0 % 2 ^ by')*2 ^ (32-by'):=by
  rw [ht]
  split
  ·rename_i hlt
   have hmod:r0.getD (i+1) 0*2 ^ (32-by') % 4294967296=(r0.getD (i+1) 0 % 2 ^ by')*2 ^ (32-by'):=by
    conv=>lhs;rw [e32,Nat.mul_mod_mul_right]
   rw [hmod,a3w hd]
  ·rename_i hge
   have:r0.getD (i+1) 0=0:=by rw [c7u,c7J (by omega)];rfl
   rw [this];simp
 have hm1:r0.getD (i+1) 0 % 2 ^ by'+1<=2 ^ by':=Nat.mod_lt _ hp0
 have hm2:(r0.getD (i+1) 0 % 2 ^ by'+1)*2 ^ (32-by')<=4294967296:=by
  have:=c7M (2 ^ (32-by')) hm1
  rw [<- e32] at this;exact this
 have hlt:t < 4294967296:=by rw [ht'];rw [Nat.add_mul,Nat.one_mul] at hm2;omega
 refine ⟨⟨by simp [h1],fun w hw=>?_,a0i _ h3,?_⟩,hlt⟩
 ·rcases mem_set hw with rfl|hw
  ·exact hlt
  ·exact h2 w hw
 ·rw [Q6 _ (by omega),D7 _ hi]
  rw [getD_lt hi] at h4
  have e1:t*2 ^ by'=r0[i] / 2 ^ by'*2 ^ by'+(r0.getD (i+1) 0 % 2 ^ by')*4294967296:=by
   rw [ht',Nat.add_mul,c7O (r0.getD (i+1) 0 % 2 ^ by'),Nat.mul_comm (2 ^ (32-by')),<- e32]
  have e2:r0[i]=r0[i] / 2 ^ by'*2 ^ by'+r0[i] % 2 ^ by':=by
   have:=Nat.div_add_mod r0[i] (2 ^ by')
   rw [Nat.mul_comm] at this;omega
  rw [Nat.add_mul,c7O,e1,c7T]
  generalize r0[i] / 2 ^ by'*2 ^ by'=a at *
  generalize r0[i] % 2 ^ by'=b at *
  rw [e2]
  generalize r0.getD (i+1) 0 % 2 ^ by'=c at *
  grind
theorem b5V {r0:List Nat} {by':Nat} {out:List Nat} (h:a5f r0 (2 ^ by') r0.length out) (hb:by'<=32) {z:Nat} (hz:wv 4294967296 r0=z*2 ^ by'):wv 4294967296 out=z:=by
 obtain ⟨h1,h2,_,h4⟩:=h
 have hp0:0 < (2:Nat) ^ by':=Nat.pow_pos (by decide)
 rw [c7C (by omega),c7y,hz] at h4
 have e0:r0.getD r0.length 0=0:=by rw [c7u,c7J (c7p _)];rfl
 rw [e0,Nat.zero_mod,Nat.mul_zero,Nat.add_zero] at h4
 have hm:r0.getD 0 0 % 2 ^ by'=0:=by
  cases hr:r0 with
  | nil=>simp
  | cons a l=>
   rw [hr] at hz
   simp only [wv] at hz
   have e32:(4294967296:Nat)=2 ^ by'*2 ^ (32-by'):=by rw [<- Nat.pow_add,show by'+(32-by')=32 by omega]
   rw [e32,c7O] at hz
   have h5:(a+2 ^ by'*(2 ^ (32-by')*wv (2 ^ by'*2 ^ (32-by')) l)) % 2 ^ by'=a % 2 ^ by':=Nat.add_mul_mod_self_left ..
   rw [hz,Nat.mul_mod_left] at h5
   exact h5.symm
 rw [hm,Nat.add_zero] at h4
 exact Nat.eq_of_mul_eq_mul_right hp0 h4
def b0Q (u v:List Nat) (d i:Nat) (out:List Nat) (c b:Nat):Prop:=
 out.length=u.length/\(∀ w ∈ out,w < 4294967296)/\c < 4294967296/\b<=1/\out.drop i=u.drop i/\wv 4294967296 (out.take i)+d*wv 4294967296 (v.take i)=wv 4294967296 (u.take i)+4294967296 ^ i*c+4294967296 ^ i*b
theorem b8z {u:List Nat} (v:List Nat) (d:Nat) (h:∀ w ∈ u,w < 4294967296):b0Q u v d 0 u 0 0:=⟨rfl,h,by decide,by decide,rfl,by simp [wv]⟩
theorem b8s {u v:List Nat} {d i:Nat} {out:List Nat} {c b:Nat} (h:b0Q u v d i out c b) (hi:i < v.length) (hu:i < u.length) (hv:v[i] < 4294967296) (hd:d < 4294967296) {t b':Nat} (ht:t < 4294967296) (hb:b'<=1)
  (hs:t+(c+d*v[i]) % 4294967296+b=u[i]+4294967296*b'):b0Q u v d (i+1) (out.set i t) ((c+d*v[i]) / 4294967296) b'/\c+d*v[i]<=18446744073709551615:=by
 obtain ⟨h1,h2,h3,hb0,h4,h5⟩:=h
 have hm:d*v[i]<=4294967295*4294967295:=Nat.mul_le_mul (by omega) (by omega)
 refine ⟨⟨by simp [h1],fun w hw=>?_,by omega,hb,a0i _ h4,?_⟩,by omega⟩
 ·rcases mem_set hw with rfl|hw
  ·exact ht
  ·exact h2 w hw
 ·rw [Q6 _ (by omega),D7 _ hi,D7 _ hu,c7T]
  have hdm:c+d*v[i]=(c+d*v[i]) % 4294967296+4294967296*((c+d*v[i]) / 4294967296):=by omega
  have e1:=congrArg (4294967296 ^ i*·) hdm
  have e2:=congrArg (4294967296 ^ i*·) hs
  generalize (c+d*v[i]) % 4294967296=lo at *
  generalize (c+d*v[i]) / 4294967296=hi' at *
  grind
theorem c1l {u v:List Nat} {d:Nat} {out:List Nat} {c b:Nat} (h:b0Q u v d v.length out c b) (hl:u.length=v.length+1) {t f:Nat} (ht:t < 4294967296) (hs:t+c+b=u[v.length]+4294967296*f) :
  wv 4294967296 (out.set v.length t)+d*wv 4294967296 v=wv 4294967296 u+4294967296 ^ u.length*f/\(∀ w ∈ out.set v.length t,w < 4294967296):=by
 obtain ⟨h1,h2,h3,hb0,h4,h5⟩:=h
 refine ⟨?_,fun w hw=>?_⟩
 ·have e0:=Q6 4294967296 (l:=out) (i:=v.length) (by omega) t
  rw [c7C (by simp;omega)] at e0
  have e1:=D7 4294967296 (l:=u) (i:=v.length) (by omega)
  rw [c7C (by omega)] at e1
  rw [c7y] at h5
  have e2:=congrArg (4294967296 ^ v.length*·) hs
  rw [hl,c7T,e0,e1]
  grind
 ·rcases mem_set hw with rfl|hw
  ·exact ht
  ·exact h2 w hw
def b0n (u v:List Nat) (i:Nat) (out:List Nat) (c:Nat):Prop:=
 out.length=u.length/\(∀ w ∈ out,w < 4294967296)/\c<=1/\out.drop i=u.drop i/\wv 4294967296 (out.take i)+4294967296 ^ i*c=wv 4294967296 (u.take i)+wv 4294967296 (v.take i)
theorem b9c {u:List Nat} (v:List Nat) (h:∀ w ∈ u,w < 4294967296):b0n u v 0 u 0:=⟨rfl,h,by decide,rfl,by simp [wv]⟩
theorem b8p {u v:List Nat} {i:Nat} {out:List Nat} {c:Nat} (h:b0n u v i out c) (hi:i < v.length) (hu:i < u.length) (hv:v[i] < 4294967296) (hx:u[i] < 4294967296) {s:Nat} (hs:s=c+u[i]+v[i]) :
  b0n u v (i+1) (out.set i (s % 4294967296)) (s / 4294967296):=by
 obtain ⟨h1,h2,h3,h4,h5⟩:=h
 refine ⟨by simp [h1],fun w hw=>?_,by omega,a0i _ h4,?_⟩
 ·rcases mem_set hw with rfl|hw
  ·exact Nat.mod_lt _ (by decide)
  ·exact h2 w hw
 ·rw [Q6 _ (by omega),D7 _ hi,D7 _ hu,c7T]
  have hdm:s=s % 4294967296+4294967296*(s / 4294967296):=by omega
  have e1:=congrArg (4294967296 ^ i*·) hdm
  have e2:=congrArg (4294967296 ^ i*·) hs
  generalize s % 4294967296=lo at *
  generalize s / 4294967296=hi' at *
  grind
theorem c1u {u v:List Nat} {out:List Nat} {c:Nat} (h:b0n u v v.length out c) (hl:u.length=v.length+1) {t:Nat} (ht:t=(u[v.length]+c) % 4294967296) {z:Nat} (hz:wv 4294967296 u+wv 4294967296 v=z+4294967296 ^ u.length) (hzl:z < 4294967296 ^ u.length) :
  wv 4294967296 (out.set v.length t)=z/\(∀ w ∈ out.set v.length t,w < 4294967296):=by
 obtain ⟨h1,h2,h3,h4,h5⟩:=h
 have hb:∀ w ∈ out.set v.length t,w < 4294967296:=fun w hw=>by
  rcases mem_set hw with rfl|hw
  ·rw [ht];exact Nat.mod_lt _ (by decide)
  ·exact h2 w hw
 refine ⟨?_,hb⟩
 have hlt:=L9 4294967296 hb
 rw [c7W,h1] at hlt
 have e0:=Q6 4294967296 (l:=out) (i:=v.length) (by omega) t
 rw [c7C (by simp;omega)] at e0
 have e1:=D7 4294967296 (l:=u) (i:=v.length) (by omega)
 rw [c7C (by omega)] at e1
 rw [c7y] at h5
 have hdm:u[v.length]+c=t+4294967296*((u[v.length]+c) / 4294967296):=by omega
 generalize (u[v.length]+c) / 4294967296=f at *
 have e2:=congrArg (4294967296 ^ v.length*·) hdm
 have key:wv 4294967296 (out.set v.length t)+4294967296 ^ u.length*f=z+4294967296 ^ u.length:=by
  rw [<- hz,hl,c7T,e0,e1]
  grind
 have hf:f=1:=by
  rcases Nat.lt_trichotomy f 1 with h0|h0|h0
  ·have:f=0:=by omega
   subst this;omega
  ·exact h0
  ·have:=Nat.mul_le_mul_left (4294967296 ^ u.length) h0
   omega
 subst hf
 omega
def F9 (l:List Nat):Prop:=∀ w ∈ l,w < 4294967296
theorem F9.take {l:List Nat} (h:F9 l) (n:Nat):F9 (l.take n):=fun w hw=>h w (List.mem_of_mem_take hw)
theorem F9.drop {l:List Nat} (h:F9 l) (n:Nat):F9 (l.drop n):=fun w hw=>h w (List.mem_of_mem_drop hw)
theorem F9.app {a b:List Nat} (h:F9 a) (k:F9 b):F9 (a++b):=fun w hw=>by
 rcases List.mem_append.1 hw with hw|hw
 ·exact h w hw
 ·exact k w hw
theorem F9.set {a:List Nat} (h:F9 a) {i v:Nat} (k:v < 4294967296):F9 (a.set i v):=fun w hw=>by
 rcases mem_set hw with rfl|hw
 ·exact k
 ·exact h w hw
theorem c4l {l:List Nat} {m:Nat} (h:l.length=m+2) (ha:F9 l):∃ r,r < 4294967296 ^ m/\wv 4294967296 l=r+(l[m+1]*4294967296+l[m])*4294967296 ^ m:=by
 refine ⟨wv 4294967296 (l.take m),?_,?_⟩
 ·have:=L9 4294967296 (ha.take m)
  rw [c7s,Nat.min_eq_left (by omega)] at this
  exact this
 ·have e1:=D7 4294967296 (l:=l) (i:=m+1) (by omega)
  have e2:=D7 4294967296 (l:=l) (i:=m) (by omega)
  rw [c7C (by omega)] at e1
  rw [e1,e2,c7T]
  grind
theorem c4B {l:List Nat} {m:Nat} (h:l.length=m+3) (ha:F9 l):∃ r,r < 4294967296 ^ m/\wv 4294967296 l=r+((l[m+2]*4294967296+l[m+1])*4294967296+l[m])*4294967296 ^ m:=by
 refine ⟨wv 4294967296 (l.take m),?_,?_⟩
 ·have:=L9 4294967296 (ha.take m)
  rw [c7s,Nat.min_eq_left (by omega)] at this
  exact this
 ·have e0:=D7 4294967296 (l:=l) (i:=m+2) (by omega)
  have e1:=D7 4294967296 (l:=l) (i:=m+1) (by omega)
  have e2:=D7 4294967296 (l:=l) (i:=m) (by omega)
  rw [c7C (by omega)] at e0
  rw [e0,e1,e2,c7T,c7T]
  grind
structure Est (W V v1 v2 top u2 p:Nat):Prop where
 ge:(v1*4294967296+v2)*p<=V
 lt:V < (v1*4294967296+v2+1)*p
 wlt:W < (top*4294967296+u2+1)*p
 wge:(top*4294967296+u2)*p<=W
 hv1:0 < v1
 hv2:v2 < 4294967296
 hu2:u2 < 4294967296
 hW:W < 4294967296*V
theorem Est.of {v win:List Nat} {m:Nat} (hv:v.length=m+2) (hw:win.length=m+3) (hva:F9 v) (hwa:F9 win) (h1:0 < v[m+1]) (hW:wv 4294967296 win < 4294967296*wv 4294967296 v) :
  Est (wv 4294967296 win) (wv 4294967296 v) v[m+1] v[m] (win[m+2]*4294967296+win[m+1]) win[m] (4294967296 ^ m):=by
 obtain ⟨r,hr,e1⟩:=c4l hv hva
 obtain ⟨s,hs,e2⟩:=c4B hw hwa
 refine ⟨by rw [e1];omega,by rw [e1,Nat.add_mul _ 1,Nat.one_mul];omega,by rw [e2,Nat.add_mul _ 1,Nat.one_mul];omega,by rw [e2];omega,h1,hva _ (c7x _),hwa _ (c7x _),hW⟩
theorem Est.pos {W V v1 v2 top u2 p:Nat} (h:Est W V v1 v2 top u2 p):0 < V:=by
 have:=h.hW
 rcases c7E V with h0|h0
 ·subst h0;omega
 ·exact h0
theorem Est.start {W V v1 v2 top u2 p:Nat} (h:Est W V v1 v2 top u2 p):W / V<=top / v1:=by
 refine c5p (p:=4294967296*p) ?_ ?_ h.hv1
 ·have:=h.ge
  rw [Nat.add_mul,c7O] at this
  omega
 ·have h1:=h.wlt
  have h2:(top*4294967296+u2+1)*p<=((top+1)*4294967296)*p:=c7M p (by have:=h.hu2;omega)
  rw [c7O] at h2
  omega
theorem Est.dec {W V v1 v2 top u2 p d rest:Nat} (h:Est W V v1 v2 top u2 p) (hq:W / V<=d) (ht:top=d*v1+rest) (hd:4294967296<=d \/ rest*4294967296+u2 < d*v2):W / V < d:=by
 rcases hd with hd|hd
 ·have:W / V < 4294967296:=by rw [Nat.div_lt_iff_lt_mul h.pos];exact h.hW
  omega
 ·exact c4o h.ge h.wlt ht hd
theorem Est.fin {W V v1 v2 top u2 p d rest:Nat} (h:Est W V v1 v2 top u2 p) (hq:W / V<=d) (ht:top=d*v1+rest) (hd:d < 4294967296) (hs:4294967296<=rest \/ d*v2<=rest*4294967296+u2):(d*V<=W/\W / V=d) \/ (W < d*V/\0 < d/\W / V=d-1):=by
 refine c2I hq (c5R h.lt h.wge ht ?_ hd h.hv1) h.pos
 rcases hs with hs|hs
 ·have h1:d*v2<=4294967296*4294967296:=Nat.mul_le_mul (by omega) (by have:=h.hv2;omega)
  have h2:4294967296*4294967296<=rest*4294967296:=c7M _ hs
  omega
 ·exact hs
theorem Est.small {W V v1 v2 top u2 p d rest:Nat} (h:Est W V v1 v2 top u2 p) (ht:top=d*v1+rest) (htop:top < v1*4294967296+4294967296) (hr:4294967296<=rest):d < 4294967296:=by
 have hv:=h.hv1
 have:d*v1 < 4294967296*v1:=by rw [Nat.mul_comm 4294967296];omega
 exact Nat.lt_of_mul_lt_mul_right this
def a6R (U0:Nat) (v:List Nat) (L k:Nat) (u q:List Nat):Prop:=
 u.length=L/\F9 u/\q.length=L-v.length/\F9 q/\wv 4294967296 u+4294967296 ^ k*(wv 4294967296 v*wv 4294967296 (q.drop k))=U0/\wv 4294967296 (u.drop k) < wv 4294967296 v
theorem a2V (B:Nat) {l:List Nat} {k:Nat} (h:k < l.length):wv B (l.drop k)=l[k]+B*wv B (l.drop (k+1)):=by
 rw [List.drop_eq_getElem_cons h];rfl
theorem b3d {U0:Nat} {v:List Nat} {L k:Nat} {u q:List Nat} (h:a6R U0 v L (k+1) u q) (hv:F9 v) (hk:k+1<=L-v.length) :
  wv 4294967296 ((u.drop k).take (v.length+1))=wv 4294967296 (u.drop k)/\wv 4294967296 (u.drop k) < 4294967296*wv 4294967296 v/\wv 4294967296 (u.drop (k+v.length+1))=0/\((u.drop k).take (v.length+1)).length=v.length+1:=by
 obtain ⟨h1,h2,h3,h4,h5,h6⟩:=h
 have hku:k < u.length:=by omega
 have hx:=h2 _ (c7x hku)
 have e1:=a2V 4294967296 hku
 have hlt:wv 4294967296 (u.drop k) < 4294967296*wv 4294967296 v:=by omega
 have hvl:=L9 4294967296 hv
 have e2:=a3A 4294967296 (u.drop k) (v.length+1) (by rw [c7S];omega)
 rw [List.drop_drop] at e2
 have hz:wv 4294967296 (u.drop (k+v.length+1))=0:=by
  rcases c7E (wv 4294967296 (u.drop (k+v.length+1))) with h0|h0
  ·exact h0
  ·exfalso
   rw [show k+(v.length+1)=k+v.length+1 by omega] at e2
   have h7:=Nat.mul_le_mul_left (4294967296 ^ (v.length+1)) h0
   have h8:4294967296*wv 4294967296 v<=4294967296*4294967296 ^ v.length:=Nat.mul_le_mul_left _ (Nat.le_of_lt hvl)
   rw [c7T] at h7 e2
   omega
 refine ⟨?_,hlt,hz,by rw [c7s,c7S];omega⟩
 rw [show k+(v.length+1)=k+v.length+1 by omega,hz,Nat.mul_zero,Nat.add_zero] at e2
 exact e2.symm
theorem b8G {U0:Nat} {v:List Nat} {L k:Nat} {u q win:List Nat} (h:a6R U0 v L (k+1) u q) (hv:F9 v) (hk:k+1<=L-v.length) (hwl:win.length=v.length+1) (hwa:F9 win) {d:Nat} (hd:d=wv 4294967296 (u.drop k) / wv 4294967296 v)
    (hw:wv 4294967296 win+d*wv 4294967296 v=wv 4294967296 (u.drop k)) (hpos:0 < wv 4294967296 v):a6R U0 v L k (u.take k++win++u.drop (k+v.length+1)) (q.set k d):=by
  obtain ⟨g1,g2,g3,g4⟩:=b3d h hv hk
  obtain ⟨h1,h2,h3,h4,h5,h6⟩:=h
  have hku:k < u.length:=by omega
  have hd32:d < 4294967296:=by rw [hd,Nat.div_lt_iff_lt_mul hpos];exact g2
  have hkq:k < q.length:=by omega
  have hl:(u.take k++win++u.drop (k+v.length+1)).length=L:=by
    simp only [c7t,c7s,c7S];omega
  have htk:(u.take k).length=k:=by rw [c7s];omega
  have hdk:(u.take k++win++u.drop (k+v.length+1)).drop k=win++u.drop (k+v.length+1):=by
    rw [c7P,List.drop_append,htk,Nat.sub_self,List.drop_of_length_le (by omega),List.nil_append,List.drop_zero]
  have hwv:wv 4294967296 (win++u.drop (k+v.length+1))=wv 4294967296 win:=by rw [a8i,g3,Nat.mul_zero,Nat.add_zero]
  have hmod:wv 4294967296 win=wv 4294967296 (u.drop k) % wv 4294967296 v:=by
    have:=Nat.div_add_mod (wv 4294967296 (u.drop k)) (wv 4294967296 v)
    rw [<- hd,Nat.mul_comm] at this;omega
  refine ⟨hl,((h2.take k).app hwa).app (h2.drop _),by simp [h3],h4.set hd32,?_,?_⟩
  · have e1:wv 4294967296 (u.take k++win++u.drop (k+v.length+1))=wv 4294967296 (u.take k)+4294967296 ^ k*wv 4294967296 win:=by
      rw [c7P,a8i,htk,hwv]
    have e2:=a3A 4294967296 u k (by omega)
    have e3:wv 4294967296 ((q.set k d).drop k)=d+4294967296*wv 4294967296 (q.drop (k+1)):=by
      rw [a2V _ (by simpa using hkq),List.getElem_set_self,List.drop_set_of_lt (by omega)]
    rw [e1,e3,<- h5,e2,<- hw,c7T]
    grind
  · rw [hdk,hwv,hmod]
    exact Nat.mod_lt _ hpos
theorem b9U {U0:Nat} {v:List Nat} {L:Nat} {u q:List Nat} (h:a6R U0 v L 0 u q) (hv:F9 v) (hl:v.length<=L):wv 4294967296 q=U0 / wv 4294967296 v/\wv 4294967296 (u.take v.length)=U0 % wv 4294967296 v:=by
 obtain ⟨h1,h2,h3,h4,h5,h6⟩:=h
 rw [List.drop_zero] at h5 h6
 simp only [Nat.pow_zero,Nat.one_mul] at h5
 have hvl:=L9 4294967296 hv
 have e2:=a3A 4294967296 u v.length (by omega)
 have hz:wv 4294967296 (u.drop v.length)=0:=by
  rcases c7E (wv 4294967296 (u.drop v.length)) with h0|h0
  ·exact h0
  ·have:=Nat.mul_le_mul_left (4294967296 ^ v.length) h0
   omega
 rw [hz,Nat.mul_zero,Nat.add_zero] at e2
 rw [<- e2,<- h5]
 refine ⟨?_,?_⟩
 ·rw [Nat.add_mul_div_left _ _ (by omega),Nat.div_eq_of_lt h6,c7R]
 ·rw [Nat.add_mul_mod_self_left,Nat.mod_eq_of_lt h6]
def a3e (l:List UInt8) (i:Nat) (out:List Nat):Prop:=
 out.length=(l.length+7) / 8/\(∀ w ∈ out,w < 18446744073709551616)/\wv 18446744073709551616 out=val (l.drop (l.length-i))/\∀ j (h:j < out.length),out[j] < 256 ^ (i-8*j)
theorem b0Z (l:List UInt8):a3e l 0 (List.replicate ((l.length+7) / 8) 0):=by
 refine ⟨by simp,fun w hw=>by rw [c7G hw];decide,?_,fun j h=>by simp⟩
 rw [a6V];simp [val]
theorem b6f (i:Nat):18446744073709551616 ^ (i / 8)*256 ^ (i % 8)=256 ^ i:=by
 have h:(18446744073709551616:Nat)=256 ^ 8:=by decide
 rw [h,<- Nat.pow_mul,<- Nat.pow_add]
 congr 1;omega
theorem b0p {l:List UInt8} {i:Nat} {out:List Nat} (h:a3e l i out) (hi:i < l.length) (hj:i / 8 < out.length) :
  a3e l (i+1) (out.set (i / 8) (out[i / 8] ||| (l[l.length-1-i]).toNat*2 ^ (8*(i % 8))))/\out[i / 8] ||| (l[l.length-1-i]).toNat*2 ^ (8*(i % 8)) < 18446744073709551616/\(l[l.length-1-i]).toNat*2 ^ (8*(i % 8)) < 18446744073709551616:=by
 obtain ⟨h1,h2,h3,h4⟩:=h
 have e256:2 ^ (8*(i % 8))=256 ^ (i % 8):=by rw [Nat.pow_mul]
 have hb:=(l[l.length-1-i]).toNat_lt
 have hlow:=h4 (i / 8) hj
 rw [show i-8*(i / 8)=i % 8 by omega] at hlow
 have hor:out[i / 8] ||| (l[l.length-1-i]).toNat*2 ^ (8*(i % 8))=out[i / 8]+(l[l.length-1-i]).toNat*256 ^ (i % 8):=by
  rw [a3w (by rw [e256];exact hlow),e256]
 rw [hor,e256]
 have hpos:=Nat.pow_pos (n:=i % 8) (show 0 < 256 by decide)
 have hmul:(l[l.length-1-i]).toNat*256 ^ (i % 8)<=255*256 ^ (i % 8):=c7M _ (by omega)
 have hnew:out[i / 8]+(l[l.length-1-i]).toNat*256 ^ (i % 8) < 256 ^ (i % 8+1):=by rw [c7T];omega
 have h4p:(256:Nat) ^ (i % 8+1)<=256 ^ 8:=c7N (by decide) (by omega)
 have h44:(256:Nat) ^ 8=18446744073709551616:=by decide
 refine ⟨⟨by simp [h1],fun w hw=>?_,?_,fun j hjl=>?_⟩,by omega,by omega⟩
 ·rcases mem_set hw with rfl|hw
  ·omega
  ·exact h2 w hw
 ·have hs:=a5a 18446744073709551616 hj (out[i / 8]+(l[l.length-1-i]).toNat*256 ^ (i % 8))
  rw [Nat.mul_add,<- c7O,Nat.mul_right_comm,c7O,Nat.mul_comm (l[l.length-1-i]).toNat,Nat.mul_comm _ (l[l.length-1-i]).toNat] at hs
  rw [show l.length-(i+1)=l.length-1-i by omega,a7v hi,<- h3,<- b6f i]
  have:18446744073709551616 ^ (i / 8)*((l[l.length-1-i]).toNat*256 ^ (i % 8))=(l[l.length-1-i]).toNat*(18446744073709551616 ^ (i / 8)*256 ^ (i % 8)):=by grind
  have hs':=a5a 18446744073709551616 hj (out[i / 8]+(l[l.length-1-i]).toNat*256 ^ (i % 8))
  rw [Nat.mul_add] at hs'
  omega
 ·rw [List.getElem_set]
  split
  ·rename_i e;subst e
   rw [show i+1-8*(i / 8)=i % 8+1 by omega];exact hnew
  ·have h5:=h4 j (by simpa using hjl)
   have:(256:Nat) ^ (i-8*j)<=256 ^ (i+1-8*j):=c7N (by decide) (by omega)
   omega
def a3s (x y:List Nat) (i:Nat) (out:List Nat) (c:Nat):Prop:=
 out.length=x.length/\(∀ w ∈ out,w < 18446744073709551616)/\c<=1/\out.drop i=x.drop i/\wv 18446744073709551616 (out.take i)+wv 18446744073709551616 (y.take i)+18446744073709551616 ^ i*0=wv 18446744073709551616 (x.take i)+18446744073709551616 ^ i*c
theorem a7s {x:List Nat} (y:List Nat) (hx:∀ w ∈ x,w < 18446744073709551616):a3s x y 0 x 0:=by
 refine ⟨rfl,hx,by omega,rfl,by simp [wv]⟩
theorem a7t {x y:List Nat} {i:Nat} {out:List Nat} {c:Nat} (h:a3s x y i out c) (hi:i < x.length) {t c':Nat} (ht:t < 18446744073709551616) (hc:c'<=1) (hs:t+c+y.getD i 0=x[i]+18446744073709551616*c') :
  a3s x y (i+1) (out.set i t) c':=by
 obtain ⟨h1,h2,h3,hd,h4⟩:=h
 refine ⟨by simp [h1],fun w hw=>?_,hc,a0i _ hd,?_⟩
 ·rcases mem_set hw with rfl|hw
  ·exact ht
  ·exact h2 w hw
 ·rw [Q6 _ (by omega),D7 _ hi,a3f]
  have e:=congrArg (18446744073709551616 ^ i*·) hs
  simp only [Nat.mul_add] at e
  rw [<- c7O,<- c7T] at e
  simp only [Nat.succ_eq_add_one] at e
  omega
theorem a7N {x y:List Nat} {out:List Nat} {c:Nat} (h:a3s x y x.length out c) (hl:y.length<=x.length) (hle:wv 18446744073709551616 y<=wv 18446744073709551616 x):c=0/\wv 18446744073709551616 out+wv 18446744073709551616 y=wv 18446744073709551616 x:=by
 obtain ⟨h1,h2,h3,_,h4⟩:=h
 rw [c7y,c7C (by omega),c7C hl] at h4
 have:=L9 18446744073709551616 h2
 rw [h1] at this
 have hc:c=0:=by
  rcases c7E c with h0|h0
  ·exact h0
  ·have:c=1:=by omega
   subst this
   omega
 subst hc
 exact ⟨rfl,by omega⟩
def a1Q (r0:List Nat) (p i:Nat) (out:List Nat):Prop:=
 out.length=r0.length/\(∀ w ∈ out,w < 18446744073709551616)/\out.drop i=r0.drop i/\wv 18446744073709551616 (out.take i)*p+r0.getD 0 0 % p=wv 18446744073709551616 (r0.take i)+18446744073709551616 ^ i*(r0.getD i 0 % p)
theorem a5K {r0:List Nat} {p:Nat} (h:∀ w ∈ r0,w < 18446744073709551616):a1Q r0 p 0 r0:=⟨rfl,h,rfl,by simp [wv]⟩
theorem a5x {r0:List Nat} {by' i:Nat} {out:List Nat} (h:a1Q r0 (2 ^ by') i out) (hb:by' < 64) (hi:i < r0.length) (h0:∀ w ∈ r0,w < 18446744073709551616) {t:Nat}
  (ht:t=if i+1 < r0.length then r0[i] / 2 ^ by' ||| (r0.getD (i+1) 0*2 ^ (64-by') % 18446744073709551616) else r0[i] / 2 ^ by'):a1Q r0 (2 ^ by') (i+1) (out.set i t)/\t < 18446744073709551616:=by
 obtain ⟨h1,h2,h3,h4⟩:=h
 have hp0:0 < (2:Nat) ^ by':=Nat.pow_pos (by decide)
 have hx:=h0 _ (c7x hi)
 have e32:(18446744073709551616:Nat)=2 ^ by'*2 ^ (64-by'):=by rw [<- Nat.pow_add,show by'+(64-by')=64 by omega]
 have hd:r0[i] / 2 ^ by' < 2 ^ (64-by'):=by
  rw [Nat.div_lt_iff_lt_mul hp0,Nat.mul_comm,<- e32];exact hx
 have ht':t=r0[i] / 2 ^ by'+(r0.getD (i+1) 0 % 2 ^ by')*2 ^ (64-by'):=by
  rw [ht]
  split
  ·rename_i hlt
   have hmod:r0.getD (i+1) 0*2 ^ (64-by') % 18446744073709551616=(r0.getD (i+1) 0 % 2 ^ by')*2 ^ (64-by'):=by
    conv=>lhs;rw [e32,Nat.mul_mod_mul_right]
   rw [hmod,a3w hd]
  ·rename_i hge
   have:r0.getD (i+1) 0=0:=by rw [c7u,c7J (by omega)];rfl
   rw [this];simp
 have hm1:r0.getD (i+1) 0 % 2 ^ by'+1<=2 ^ by':=Nat.mod_lt _ hp0
 have hm2:(r0.getD (i+1) 0 % 2 ^ by'+1)*2 ^ (64-by')<=18446744073709551616:=by
  have:=c7M (2 ^ (64-by')) hm1
  rw [<- e32] at this;exact this
 have hlt:t < 18446744073709551616:=by rw [ht'];rw [Nat.add_mul,Nat.one_mul] at hm2;omega
 refine ⟨⟨by simp [h1],fun w hw=>?_,a0i _ h3,?_⟩,hlt⟩
 ·rcases mem_set hw with rfl|hw
  ·exact hlt
  ·exact h2 w hw
 ·rw [Q6 _ (by omega),D7 _ hi]
  rw [getD_lt hi] at h4
  have e1:t*2 ^ by'=r0[i] / 2 ^ by'*2 ^ by'+(r0.getD (i+1) 0 % 2 ^ by')*18446744073709551616:=by
   rw [ht',Nat.add_mul,c7O (r0.getD (i+1) 0 % 2 ^ by'),Nat.mul_comm (2 ^ (64-by')),<- e32]
  have e2:r0[i]=r0[i] / 2 ^ by'*2 ^ by'+r0[i] % 2 ^ by':=by
   have:=Nat.div_add_mod r0[i] (2 ^ by')
   rw [Nat.mul_comm] at this;omega
  rw [Nat.add_mul,c7O,e1,c7T]
  generalize r0[i] / 2 ^ by'*2 ^ by'=a at *
  generalize r0[i] % 2 ^ by'=b at *
  rw [e2]
  generalize r0.getD (i+1) 0 % 2 ^ by'=c at *
  grind
theorem a6e {r0:List Nat} {by':Nat} {out:List Nat} (h:a1Q r0 (2 ^ by') r0.length out) (hb:by'<=64) {z:Nat} (hz:wv 18446744073709551616 r0=z*2 ^ by'):wv 18446744073709551616 out=z:=by
 obtain ⟨h1,h2,_,h4⟩:=h
 have hp0:0 < (2:Nat) ^ by':=Nat.pow_pos (by decide)
 rw [c7C (by omega),c7y,hz] at h4
 have e0:r0.getD r0.length 0=0:=by rw [c7u,c7J (c7p _)];rfl
 rw [e0,Nat.zero_mod,Nat.mul_zero,Nat.add_zero] at h4
 have hm:r0.getD 0 0 % 2 ^ by'=0:=by
  cases hr:r0 with
  | nil=>simp
  | cons a l=>
   rw [hr] at hz
   simp only [wv] at hz
   have e32:(18446744073709551616:Nat)=2 ^ by'*2 ^ (64-by'):=by rw [<- Nat.pow_add,show by'+(64-by')=64 by omega]
   rw [e32,c7O] at hz
   have h5:(a+2 ^ by'*(2 ^ (64-by')*wv (2 ^ by'*2 ^ (64-by')) l)) % 2 ^ by'=a % 2 ^ by':=Nat.add_mul_mod_self_left ..
   rw [hz,Nat.mul_mod_left] at h5
   exact h5.symm
 rw [hm,Nat.add_zero] at h4
 exact Nat.eq_of_mul_eq_mul_right hp0 h4
structure Rt where
 neg:Bool
 num:List UInt8
 den:List UInt8
 deriving DecidableEq
def sgn (neg:Bool) (n:Nat):Int:=if neg=true then -(n:Int) else n
instance (l:List UInt8):Decidable (canon l):=match l with
 | []=>.isTrue a8n
 | b::r=>if h:b=0 then .isFalse fun hc=>hc r (by rw [h]) else .isTrue fun q e=>h (by injection e)
def Rt.H9 (a:Rt):Prop:=a.den ≠ []/\canon a.den/\canon a.num/\(a.num=[]->a.neg=false/\a.den=[1])/\(a.den=[1] \/ Nat.gcd (val a.num) (val a.den)=1)
instance (a:Rt):Decidable a.H9:=by unfold Rt.H9;infer_instance
def ofQ (q:Rat):Rt:=⟨decide (q.num < 0),enc q.num.natAbs,enc q.den⟩
def toQ (a:Rt):Rat:=mkRat (sgn a.neg (val a.num)) (val a.den)
def d9 (a:Rt):Rat:=if a.H9 then toQ a else 0
theorem U6:enc 1=[1]:=by
 have:val [1]=1:=rfl
 rw [<- this,a8O];rfl
theorem b7c (q:Rat):sgn (decide (q.num < 0)) q.num.natAbs=q.num:=by
 unfold sgn
 by_cases h:q.num < 0
 ·rw [if_pos (by simpa using h)];omega
 ·rw [if_neg (by simpa using h)];omega
theorem c6t (q:Rat):toQ (ofQ q)=q:=by
 unfold toQ ofQ
 simp only [H7,b7c]
 exact Rat.mkRat_self q
theorem a1H (q:Rat):(ofQ q).H9:=by
 unfold Rt.H9 ofQ
 simp only [H7]
 refine ⟨a6u q.den_nz,a2H _,a2H _,fun h=>?_,.inr q.reduced⟩
 have h0:q.num.natAbs=0:=by
  rcases c7E q.num.natAbs with h0|h0
  ·exact h0
  ·exact absurd h (a6u (by omega))
 have h1:=q.reduced
 rw [Nat.Coprime,h0,Nat.gcd_zero_left] at h1
 rw [h1,U6]
 exact ⟨decide_eq_false (by omega),rfl⟩
theorem a4q (b:Bool) (n:Nat):(sgn b n).natAbs=n:=by unfold sgn;split<;>omega
theorem c5q {a:Rt} (h:a.H9):Nat.gcd (val a.num) (val a.den)=1:=by
 rcases h.2.2.2.2 with h1|h1
 ·rw [h1];exact Nat.gcd_one_right _
 ·exact h1
theorem den_pos {a:Rt} (h:a.H9):val a.den ≠ 0:=fun h0=>h.1 ((val_zero h.2.1).1 h0)
theorem c4q {a:Rt} (h:a.H9):(toQ a).num=sgn a.neg (val a.num)/\(toQ a).den=val a.den:=by
 unfold toQ
 rw [Rat.num_mkRat,Rat.den_mkRat,if_neg (den_pos h),if_neg (den_pos h),a4q,Nat.gcd_comm,c5q h]
 simp
theorem c6n {a:Rt} (h:a.H9):ofQ (toQ a)=a:=by
 obtain ⟨h1,h2⟩:=c4q h
 obtain ⟨neg,num,den⟩:=a
 unfold ofQ
 rw [h1,h2,a4q]
 simp only [a1r h.2.1,a1r h.2.2.1] at *
 congr 1
 have hz:=val_zero h.2.2.1
 have h3:=h.2.2.2.1
 simp only at hz h3
 unfold sgn
 cases neg with
 | true=>
  simp only [if_true]
  have:val num ≠ 0:=fun h0=>by have:=(h3 (hz.1 h0)).1;cases this
  exact decide_eq_true (by omega)
 | false=>
  simp only [c7Q,if_false]
  exact decide_eq_false (by omega)
theorem q8 (q:Rat):d9 (ofQ q)=q:=by unfold d9;rw [if_pos (a1H q),c6t]
theorem b9o {a:Rt} (h:a.H9):ofQ (d9 a)=a:=by unfold d9;rw [if_pos h,c6n h]
def a3H:Rt:=⟨false,[],[1]⟩
theorem a4K:ofQ 0=a3H:=by
 unfold ofQ a3H
 have h1:(0:Rat).num=0:=rfl
 have h2:(0:Rat).den=1:=rfl
 rw [h1,h2,U6]
 simp [a0S]
theorem b2a (neg:Bool) {n d:Nat} (hd:d ≠ 0):(if n=0 then a3H else ⟨neg,enc (n / Nat.gcd n d),enc (d / Nat.gcd n d)⟩)=ofQ (mkRat (sgn neg n) d):=by
 split
 ·rename_i h0
  subst h0
  have:sgn neg 0=0:=by unfold sgn;split<;>rfl
  rw [this,Rat.zero_mkRat,a4K]
 ·rename_i h0
  unfold ofQ
  rw [Rat.num_mkRat,Rat.den_mkRat,if_neg hd,if_neg hd,a4q,Nat.gcd_comm d n]
  have hg:0 < Nat.gcd n d:=Nat.gcd_pos_of_pos_right _ (by omega)
  have hdv:Nat.gcd n d ∣ n:=Nat.gcd_dvd_left ..
  have hq:0 < n / Nat.gcd n d:=Nat.div_pos (Nat.le_of_dvd (by omega) hdv) hg
  have e:sgn neg n / ((Nat.gcd n d:Nat):Int)=sgn neg (n / Nat.gcd n d):=by
   unfold sgn
   split
   ·rw [Int.neg_ediv_of_dvd (by exact Int.ofNat_dvd.2 hdv)];simp
   ·simp
  rw [e,a4q]
  congr 1
  unfold sgn
  cases neg with
  | true=>simp only [if_true];exact (decide_eq_true (by omega)).symm
  | false=>simp only [c7Q,if_false];exact (decide_eq_false (by omega)).symm
def M9 (neg:Bool) (a:Nat) (mi:Bool) (b:Nat):Bool × Nat:=if neg=mi then (neg,a+b) else if b<=a then (neg,a-b) else (mi,b-a)
theorem b2S (neg:Bool) (a:Nat) (mi:Bool) (b:Nat):sgn (M9 neg a mi b).1 (M9 neg a mi b).2=sgn neg a+sgn mi b:=by
 unfold M9 sgn
 cases neg<;>cases mi<;>simp only [if_true,c7Q,if_false,reduceCtorEq]<;>(try split)<;>simp_all<;>omega
theorem c3K (x y:Bool) (a b:Nat):sgn (x != y) (a*b)=sgn x a*sgn y b:=by
 unfold sgn
 cases x<;>cases y<;>simp [Int.natCast_mul,Int.neg_mul,Int.mul_neg]
theorem a5V (x:Bool) (a b:Nat):sgn x (a*b)=sgn x a*(b:Int):=by
 unfold sgn
 cases x<;>simp [Int.natCast_mul,Int.neg_mul]
def q9 (a b:Rat):Int:=if a < b then -1 else if a=b then 0 else 1
def a0y (a b:Nat):Int:=if a < b then -1 else if a=b then 0 else 1
theorem c3H (a b:Rat):q9 a b=if decide (a.num < 0) ≠ decide (b.num < 0) then (if decide (a.num < 0)=true then -1 else 1) else if decide (a.num < 0)=true then-a0y (a.num.natAbs*b.den) (b.num.natAbs*a.den) else a0y (a.num.natAbs*b.den) (b.num.natAbs*a.den):=by
 have hlt:=Rat.lt_iff a b
 have hlt2:=Rat.lt_iff b a
 have hd1:0 < (a.den:Int):=by have:=a.den_pos;omega
 have hd2:0 < (b.den:Int):=by have:=b.den_pos;omega
 have heq:a=b <-> a.num*b.den=b.num*a.den:=by
  constructor
  ·rintro rfl;rfl
  ·intro h
   have h1:¬ a < b:=fun h'=>by have:=hlt.1 h';omega
   have h2:¬ b < a:=fun h'=>by have:=hlt2.1 h';omega
   exact Rat.le_antisymm (Rat.not_lt.1 h2) (Rat.not_lt.1 h1)
 unfold q9
 simp only [hlt,heq]
 by_cases hA:a.num < 0
 ·by_cases hB:b.num < 0
  ·simp only [decide_eq_true hA,decide_eq_true hB,ne_eq,not_true_eq_false,if_false,if_true]
   have e1:a.num*b.den=-((a.num.natAbs*b.den:Nat):Int):=by
    rw [Int.natCast_mul,<- Int.neg_mul];congr 1;omega
   have e2:b.num*a.den=-((b.num.natAbs*a.den:Nat):Int):=by
    rw [Int.natCast_mul,<- Int.neg_mul];congr 1;omega
   rw [e1,e2]
   unfold a0y
   repeat' split
   all_goals omega
  ·simp only [decide_eq_true hA,decide_eq_false hB,ne_eq,reduceCtorEq,not_false_eq_true,if_true]
   have e1:a.num*b.den < 0:=Int.mul_neg_of_neg_of_pos hA hd2
   have e2:0<=b.num*a.den:=Int.mul_nonneg (by omega) (by omega)
   rw [if_pos (by omega)]
 ·by_cases hB:b.num < 0
  ·simp only [decide_eq_false hA,decide_eq_true hB,ne_eq,reduceCtorEq,not_false_eq_true,if_true,if_false]
   have e1:b.num*a.den < 0:=Int.mul_neg_of_neg_of_pos hB hd1
   have e2:0<=a.num*b.den:=Int.mul_nonneg (by omega) (by omega)
   rw [if_neg (by omega),if_neg (by omega)]
  ·simp only [decide_eq_false hA,decide_eq_false hB,ne_eq,reduceCtorEq,not_true_eq_false,if_false]
   have e1:a.num*b.den=((a.num.natAbs*b.den:Nat):Int):=by
    rw [Int.natCast_mul];congr 1;omega
   have e2:b.num*a.den=((b.num.natAbs*a.den:Nat):Int):=by
    rw [Int.natCast_mul];congr 1;omega
   rw [e1,e2]
   unfold a0y
   repeat' split
   all_goals omega
theorem a7b {d y:Nat} (hy:y % 2=1) (k:Nat):Nat.gcd (2 ^ k*d) y=Nat.gcd d y:=by
 have hc:Nat.Coprime (2 ^ k) y:=by
  apply Nat.Coprime.pow_left
  have:Nat.gcd 2 y=Nat.gcd (y % 2) 2:=Nat.gcd_rec 2 y
  unfold Nat.Coprime
  rw [this,hy]
  rfl
 exact Nat.Coprime.gcd_mul_left_cancel d hc
theorem b3r {x y:Nat} (h:y<=x):Nat.gcd (x-y) y=Nat.gcd x y:=by
 have:x=(x-y)+y:=by omega
 conv=>rhs;rw [this]
 rw [Nat.gcd_add_self_left]
theorem c2N {x y n m:Nat} (hx:x % 2=1) (hy:y % 2=1):Nat.gcd (2 ^ n*x) (2 ^ m*y)=2 ^ (min n m)*Nat.gcd x y:=by
 rcases Nat.le_total n m with h|h
 ·rw [Nat.min_eq_left h]
  obtain ⟨k,rfl⟩:∃ k,m=n+k:=⟨m-n,by omega⟩
  rw [Nat.pow_add,c7O,Nat.gcd_mul_left,Nat.gcd_comm x,a7b hx,Nat.gcd_comm]
 ·rw [Nat.min_eq_right h]
  obtain ⟨k,rfl⟩:∃ k,n=m+k:=⟨n-m,by omega⟩
  rw [Nat.pow_add,c7O,Nat.gcd_mul_left,a7b hy]
def v2 (n:Nat):Nat:=if n=0 then 0 else if n % 2=1 then 0 else 1+v2 (n / 2)
termination_by n
decreasing_by omega
theorem a3r {n:Nat} (h:n ≠ 0):∃ q,n=2 ^ v2 n*q/\q % 2=1:=by
 induction n using Nat.strongRecOn with
 | _ n ih=>
  unfold v2
  rw [if_neg h]
  split
  ·rename_i h1;exact ⟨n,by simp,h1⟩
  ·obtain ⟨q,h1,h2⟩:=ih (n / 2) (by omega) (by omega)
   refine ⟨q,?_,h2⟩
   rw [Nat.pow_add,Nat.pow_one,c7O,<- h1]
   omega
theorem c2U {n k q:Nat} (h:n=2 ^ k*q) (hq:q % 2=1):v2 n=k:=by
 induction k generalizing n with
 | zero=>
  unfold v2
  rw [Nat.pow_zero,Nat.one_mul] at h
  subst h
  rw [if_neg (by omega),if_pos hq]
 | succ k ih=>
  rw [c7T,Nat.mul_comm (2 ^ k),c7O] at h
  have h1:n / 2=2 ^ k*q:=by omega
  have h0:0 < 2 ^ k*q:=Nat.mul_pos (Nat.pow_pos (by decide)) (by omega)
  unfold v2
  rw [if_neg (by omega),if_neg (by omega),ih h1]
  omega
end Go.Proofs.YtgpegbfnlkidjaaGreatDoor.Nm
namespace Go.Proofs.YtgpegbfnlkidjaaGreatDoor
open Go Go.RowKit Eng
def bs (l:List UInt8):ByteArray:=⟨l.toArray⟩
theorem c5z (a b:List UInt8):bs a++bs b=bs (a++b):=by
 apply ByteArray.ext
 simp [bs]
theorem F4 (a:List UInt8):(bs a).size=a.length:=by simp [bs,ByteArray.size]
theorem a0m (l:List UInt8):(bs l).data.toList=l:=by simp [bs]
theorem b4a {a b:List UInt8} (h:bs a=bs b):a=b:=by
 have:=congrArg (fun x:ByteArray=>x.data.toList) h
 simpa [a0m] using this
theorem b8n (a b:List UInt8):(bs a=bs b)=(a=b):=propext ⟨b4a,fun h=>by rw [h]⟩
theorem a6S (l:List UInt8):(⟨l.toArray⟩:ByteArray)=bs l:=rfl
theorem b5E (l:List UInt8) (i j:Nat):(bs l).extract i j=bs ((l.take j).drop i):=by
 apply ByteArray.ext
 apply Array.ext'
 simp [bs,ByteArray.data_extract,Array.toList_extract,List.drop_take,List.extract_eq_take_drop]
def sb (l:List UInt8):C:=.v (.string (bs l))
def ints (n:Int):C:=.v (.int .i64 n)
def wd (w:Nat):List C:=[.v (.int .u32 w)]
def lm (w:Nat):List C:=[.v (.int .u64 w)]
attribute [go_sem] sb ints
theorem b5J (n:Nat):IntKind.u32.wrap (n:Int)=((n % 4294967296:Nat):Int):=by
 have h1:IntKind.u32.wrap (n:Int)=(n:Int) % 4294967296:=by simp [IntKind.wrap,IntKind.signed,IntKind.bits]
 rw [h1]
 omega
theorem a2a (n:Nat):IntKind.u8.wrap (n:Int)=((n % 256:Nat):Int):=by
 have h1:IntKind.u8.wrap (n:Int)=(n:Int) % 256:=by simp [IntKind.wrap,IntKind.signed,IntKind.bits]
 rw [h1]
 omega
theorem a5b (n:Nat):IntKind.u64.wrap (n:Int)=((n % 18446744073709551616:Nat):Int):=by
 have h1:IntKind.u64.wrap (n:Int)=(n:Int) % 18446744073709551616:=by simp [IntKind.wrap,IntKind.signed,IntKind.bits]
 rw [h1]
 omega
theorem b0j (a b:Nat) (ha:a < 18446744073709551616) (hb:b < 18446744073709551616):bits .or .u64 (a:Int) (b:Int)=((a ||| b:Nat):Int):=bits_or_u64_nat a b ha hb
theorem c1m (a b:Nat) (ha:a < 4294967296) (hb:b < 4294967296):bits .or .u32 (a:Int) (b:Int)=((a ||| b:Nat):Int):=by
 have hx:a ||| b < 2 ^ 32:=Nat.or_lt_two_pow (by omega) (by omega)
 have h1:(BitVec.ofInt 32 (a:Int)).toNat=a:=by
  rw [BitVec.ofInt_natCast,BitVec.toNat_ofNat];exact Nat.mod_eq_of_lt (by omega)
 have h2:(BitVec.ofInt 32 (b:Int)).toNat=b:=by
  rw [BitVec.ofInt_natCast,BitVec.toNat_ofNat];exact Nat.mod_eq_of_lt (by omega)
 show IntKind.u32.wrap ((BitVec.ofInt 32 (a:Int) ||| BitVec.ofInt 32 (b:Int)).toNat:Int)=_
 rw [BitVec.toNat_or,h1,h2,Eng.wrap_u32 (by omega)]
theorem a2w (n k:Nat):Int.fdiv (n:Int) (k:Int)=((n / k:Nat):Int):=by
 rw [Int.fdiv_eq_ediv_of_nonneg _ (by omega)]
 rfl
end Go.Proofs.YtgpegbfnlkidjaaGreatDoor
namespace Go.Proofs.YtgpegbfnlkidjaaGreatDoor.Eng
open Go Go.RowKit
def TT (k:Nat):Operand:=.tmp k
def II (n:Int):Operand:=.const (.int .i64 n)
def OA (d:Nat) (x:IOp):F5:=⟨some d,x,none⟩
def OB (x:IOp):F5:=⟨none,x,none⟩
def OC (d:Nat) (x:IOp) (s:Nat) (b:Bool):F5:=⟨some d,x,some (s,b)⟩
def MM (d s:Nat):F5:=⟨some d,.mv (.tmp s),none⟩
def LL (d z s:Nat):F5:=⟨some d,.load true z (.tmp s),none⟩
def VV (d s:Nat):F5:=⟨some d,.load false 1 (.tmp s),none⟩
def FF (d o s:Nat):F5:=⟨some d,.a4y o (.tmp s),none⟩
def MG (d s k:Nat) (b:Bool):F5:=⟨some d,.mv (.tmp s),some (k,b)⟩
def LG (d z s k:Nat) (b:Bool):F5:=⟨some d,.load true z (.tmp s),some (k,b)⟩
def VG (d s k:Nat) (b:Bool):F5:=⟨some d,.load false 1 (.tmp s),some (k,b)⟩
def FG (d o s k:Nat) (b:Bool):F5:=⟨some d,.a4y o (.tmp s),some (k,b)⟩
end Go.Proofs.YtgpegbfnlkidjaaGreatDoor.Eng
namespace Go.Proofs.YtgpegbfnlkidjaaGreatDoor
open Go Eng
def c6Z:List Nat:=[33,37,79,81,84,85,86,89,90,91,92,93,94,148,170,175,176,196,198,200,202,203,204,216]
def eff (f:Nat):Bool:=c6Z.contains f
def b1k:H6:=⟨89,[.tmp 4],.seq (.reg [OA 4 (.mv (.const (.string ⟨#[]⟩)))]) (.seq (.reg [MM 13 0,OA 14 (.call 145 [TT 13]),MM 15 1,OA 16 (.call 145 [TT 15]),MM 0 14,MM 1 16]) (.seq (.seq (.reg [MM 17 0,OA 18 (.len true (TT 17)),MM 19
 1,OA 20 (.len true (TT 19)),OA 21 (.bin .add (TT 18) (TT 20)),OA 22 (.bin .leq (TT 21) (II 8))]) (.cond (TT 22) (.seq (.reg [MM 23 0,OA 24 (.call 147 [TT 23]),MM 25 1,OA 26 (.call 147 [TT 25]),OA 27 (.bin .mul (TT 24) (TT
 26)),OA 28 (.call 146 [TT 27]),MM 4 28]) .ret) .skip)) (.seq (.reg [MM 29 0,OA 30 (.call 148 [TT 29]),MM 31 1,OA 32 (.call 148 [TT 31]),MM 5 30,MM 6 32]) (.seq (.reg [MM 33 5,OA 34 (.len false (TT 33)),MM 35 6,OA 36
 (.len false (TT 35)),OA 37 (.bin .add (TT 34) (TT 36)),OA 38 (.a1i 222 4 [.int .u32 0] (TT 37) (TT 37)),MM 7 38]) (.seq (.seq (.reg [MM 39 5,OA 40 (.len false (TT 39)),OA 41 (.mv (II 0))]) (.block 0 (.loop (.seq (.reg [OA
 42 (.bin .lss (TT 41) (TT 40))]) (.seq (.cond (TT 42) .skip (.exit 0)) (.seq (.block 1 (.seq (.reg [MM 43 41,OA 44 (.l7 1 (TT 39) (TT 41)),VV 45 44,MM 8 43,MM 9 45]) (.seq (.reg [OA 10 (.mv (.const (.int .u64 0)))]) (.seq
 (.seq (.reg [MM 46 6,OA 47 (.len false (TT 46)),OA 48 (.mv (II 0))]) (.block 2 (.loop (.seq (.reg [OA 49 (.bin .lss (TT 48) (TT 47))]) (.seq (.cond (TT 49) .skip (.exit 2)) (.seq (.block 3 (.seq (.reg [MM 50 48,OA 51 (.l7
 1 (TT 46) (TT 48)),VV 52 51,MM 11 50,MM 12 52]) (.seq (.reg [MM 53 10,MM 54 9,OA 55 (.conv .u64 (TT 54)),MM 56 12,OA 57 (.conv .u64 (TT 56)),OA 58 (.bin .mul (TT 55) (TT 57)),MM 59 7,MM 60 8,MM 61 11,OA 62 (.bin .add
 (TT 60) (TT 61)),OA 63 (.l7 1 (TT 59) (TT 62)),VV 64 63,OA 65 (.conv .u64 (TT 64)),OA 66 (.bin .add (TT 58) (TT 65)),OA 67 (.bin .add (TT 53) (TT 66)),MM 10 67]) (.seq (.reg [MM 68 7,MM 69 8,MM 70 11,OA 71 (.bin .add
 (TT 69) (TT 70)),MM 72 10,OA 73 (.conv .u32 (TT 72)),OA 74 (.l7 1 (TT 68) (TT 71)),OB (.store 1 (TT 74) (TT 73))]) (.reg [MM 75 10,OA 76 (.bin .shr (TT 75) (.const (.int .u64 32))),MM 10 76]))))) (.reg [OA 77 (.bin .add
 (TT 48) (II 1)),MM 48 77]))))))) (.reg [MM 78 7,MM 79 8,MM 80 6,OA 81 (.len false (TT 80)),OA 82 (.bin .add (TT 79) (TT 81)),MM 83 10,OA 84 (.conv .u32 (TT 83)),OA 85 (.l7 1 (TT 78) (TT 82)),OB (.store 1 (TT 85) (TT
 84))]))))) (.reg [OA 86 (.bin .add (TT 41) (II 1)),MM 41 86]))))))) (.seq (.reg [MM 87 7,OA 88 (.call 149 [TT 87]),MM 4 88]) .ret))))))⟩
theorem b7Q:F3 eff Tryz.prog Tryz.f101=some b1k:=by kernel_rfl
theorem b7N:Tryz.prog.funcs[101]?=some Tryz.f101:=Tryz.func101
def b1d:H6:=⟨82,[.tmp 4],.seq (.reg [OA 4 (.mv (.const (.string ⟨#[]⟩)))]) (.seq (.reg [MM 11 0,OA 12 (.call 145 [TT 11]),MM 13 1,OA 14 (.call 145 [TT 13]),MM 0 12,MM 1 14]) (.seq (.seq (.reg [MM 15 0,OA 16 (.len true (TT 15)),OA 17
 (.bin .lss (TT 16) (II 8)),MM 18 17,MG 19 1 18 true,OC 20 (.len true (TT 19)) 18 true,OC 21 (.bin .lss (TT 20) (II 8)) 18 true,OA 22 (.pick (TT 18) (TT 21) (.const (.bool false)))]) (.cond (TT 22) (.seq (.reg [MM 23 0,OA
 24 (.call 147 [TT 23]),MM 25 1,OA 26 (.call 147 [TT 25]),OA 27 (.bin .add (TT 24) (TT 26)),OA 28 (.call 146 [TT 27]),MM 4 28]) .ret) .skip)) (.seq (.reg [MM 29 0,OA 30 (.call 148 [TT 29]),MM 31 1,OA 32 (.call 148 [TT
 31]),MM 5 30,MM 6 32]) (.seq (.seq (.reg [MM 33 5,OA 34 (.len false (TT 33)),MM 35 6,OA 36 (.len false (TT 35)),OA 37 (.bin .lss (TT 34) (TT 36))]) (.cond (TT 37) (.reg [MM 38 6,MM 39 5,MM 5 38,MM 6 39]) .skip)) (.seq
 (.reg [MM 40 5,OA 41 (.len false (TT 40)),OA 42 (.bin .add (TT 41) (II 1)),OA 43 (.a1i 222 4 [.int .u32 0] (TT 42) (TT 42)),MM 7 43]) (.seq (.reg [OA 8 (.mv (.const (.int .u64 0)))]) (.seq (.seq (.reg [MM 44 5,OA 45 (.len
 false (TT 44)),OA 46 (.mv (II 0))]) (.block 0 (.loop (.seq (.reg [OA 47 (.bin .lss (TT 46) (TT 45))]) (.seq (.cond (TT 47) .skip (.exit 0)) (.seq (.block 1 (.seq (.reg [MM 48 46,OA 49 (.l7 1 (TT 44) (TT 46)),VV 50 49,MM 9
 48,MM 10 50]) (.seq (.reg [MM 51 8,MM 52 10,OA 53 (.conv .u64 (TT 52)),OA 54 (.bin .add (TT 51) (TT 53)),MM 8 54]) (.seq (.seq (.reg [MM 55 9,MM 56 6,OA 57 (.len false (TT 56)),OA 58 (.bin .lss (TT 55) (TT 57))]) (.cond
 (TT 58) (.reg [MM 59 8,MM 60 6,MM 61 9,OA 62 (.l7 1 (TT 60) (TT 61)),VV 63 62,OA 64 (.conv .u64 (TT 63)),OA 65 (.bin .add (TT 59) (TT 64)),MM 8 65]) .skip)) (.seq (.reg [MM 66 7,MM 67 9,MM 68 8,OA 69 (.conv .u32 (TT
 68)),OA 70 (.l7 1 (TT 66) (TT 67)),OB (.store 1 (TT 70) (TT 69))]) (.reg [MM 71 8,OA 72 (.bin .shr (TT 71) (.const (.int .u64 32))),MM 8 72])))))) (.reg [OA 73 (.bin .add (TT 46) (II 1)),MM 46 73]))))))) (.seq (.reg [MM
 74 7,MM 75 5,OA 76 (.len false (TT 75)),MM 77 8,OA 78 (.conv .u32 (TT 77)),OA 79 (.l7 1 (TT 74) (TT 76)),OB (.store 1 (TT 79) (TT 78))]) (.seq (.reg [MM 80 7,OA 81 (.call 149 [TT 80]),MM 4 81]) .ret)))))))))⟩
theorem b8b:F3 eff Tryz.prog Tryz.f116=some b1d:=by kernel_rfl
theorem b7W:Tryz.prog.funcs[116]?=some Tryz.f116:=Tryz.func116
def b0P:H6:=⟨57,[.tmp 4],.seq (.reg [OA 4 (.mv (.const (.string ⟨#[]⟩)))]) (.seq (.reg [MM 8 0,OA 9 (.call 145 [TT 8]),MM 10 1,OA 11 (.call 145 [TT 10]),MM 0 9,MM 1 11]) (.seq (.block 0 (.loop (.seq (.seq (.reg [MM 12 0,OA 13 (.bin
 .neq (TT 12) (.const (.string ⟨#[]⟩))),MM 14 13,MG 15 1 14 true,OC 16 (.bin .neq (TT 15) (.const (.string ⟨#[]⟩))) 14 true,OA 17 (.pick (TT 14) (TT 16) (.const (.bool false)))]) (.cond (TT 17) .skip (.exit 0))) (.block 1
 (.seq (.seq (.reg [MM 18 0,OA 19 (.len true (TT 18)),MM 20 1,OA 21 (.len true (TT 20)),OA 22 (.bin .lss (TT 19) (TT 21))]) (.cond (TT 22) (.reg [MM 23 1,MM 24 0,MM 0 23,MM 1 24]) .skip)) (.seq (.block 2 (.seq (.reg [MM 26
 0,OA 27 (.len true (TT 26)),OA 28 (.bin .leq (TT 27) (II 8)),MM 25 28]) (.cond (TT 25) (.seq (.reg [MM 29 0,OA 30 (.call 147 [TT 29]),MM 31 1,OA 32 (.call 147 [TT 31]),OA 33 (.call 173 [TT 30,TT 32]),OA 34 (.call 146
 [TT 33]),MM 4 34]) .ret) (.seq (.reg [MM 36 0,OA 37 (.len true (TT 36)),MM 38 1,OA 39 (.len true (TT 38)),OA 40 (.bin .add (TT 39) (II 8)),OA 41 (.bin .leq (TT 37) (TT 40)),MM 35 41]) (.cond (TT 35) (.seq (.reg [MM 42 0,
 MM 43 1,OA 44 (.call 174 [TT 42,TT 43]),MM 4 44]) .ret) .skip))))) (.seq (.reg [MM 46 0,MM 47 1,OA 48 (.call 144 [TT 46,TT 47]),MM 45 48,OA 49 (.ext (TT 45) 0),OA 50 (.ext (TT 45) 1),OA 51 (.ext (TT 45) 2),MM 5 49,MM
 6 50,MM 7 51]) (.reg [MM 52 1,MM 53 6,MM 0 52,MM 1 53])))))))) (.seq (.reg [MM 54 0,MM 55 1,OA 56 (.bin .add (TT 54) (TT 55)),MM 4 56]) .ret)))⟩
theorem b8V:F3 eff Tryz.prog Tryz.f142=some b0P:=by kernel_rfl
theorem b7T:Tryz.prog.funcs[142]?=some Tryz.f142:=Tryz.func142
def b1i:H6:=⟨99,[.tmp 4,.tmp 5,.tmp 6],.seq (.reg [OA 4 (.mv (.const (.string ⟨#[]⟩))),OA 5 (.mv (.const (.string ⟨#[]⟩))),OA 6 (.mv (II 0))]) (.seq (.reg [MM 13 0,OA 14 (.call 145 [TT 13]),MM 15 1,OA 16 (.call 145 [TT 15]),MM 0 14,
 MM 1 16]) (.seq (.block 0 (.seq (.reg [MM 18 1,OA 19 (.bin .eql (TT 18) (.const (.string ⟨#[]⟩))),MM 17 19]) (.cond (TT 17) (.seq (.reg [OA 4 (.mv (.const (.string ⟨#[]⟩))),OA 5 (.mv (.const (.string ⟨#[]⟩))),OA 6 (.mv (II
 12))]) .ret) (.seq (.reg [MM 21 0,OA 22 (.len true (TT 21)),OA 23 (.bin .leq (TT 22) (II 8)),MM 24 23,MG 25 1 24 true,OC 26 (.len true (TT 25)) 24 true,OC 27 (.bin .leq (TT 26) (II 8)) 24 true,OA 28 (.pick (TT 24) (TT 27)
 (.const (.bool false))),MM 20 28]) (.cond (TT 20) (.seq (.reg [MM 29 0,OA 30 (.call 147 [TT 29]),MM 31 1,OA 32 (.call 147 [TT 31]),OA 33 (.bin .quo (TT 30) (TT 32)),OA 34 (.call 146 [TT 33]),MM 35 0,OA 36 (.call 147 [TT
 35]),MM 37 1,OA 38 (.call 147 [TT 37]),OA 39 (.bin .rem (TT 36) (TT 38)),OA 40 (.call 146 [TT 39]),MM 4 34,MM 5 40,OA 6 (.mv (II 0))]) .ret) (.seq (.reg [MM 42 0,MM 43 1,OA 44 (.call 102 [TT 42,TT 43]),OA 45 (.bin
 .lss (TT 44) (II 0)),MM 41 45]) (.cond (TT 41) (.seq (.reg [MM 46 0,OA 4 (.mv (.const (.string ⟨#[]⟩))),MM 5 46,OA 6 (.mv (II 0))]) .ret) .skip))))))) (.seq (.reg [MM 47 0,OA 48 (.call 148 [TT 47]),MM 49 1,OA 50 (.call
 148 [TT 49]),MM 7 48,MM 8 50]) (.seq (.seq (.reg [MM 51 8,OA 52 (.len false (TT 51)),OA 53 (.bin .eql (TT 52) (II 1))]) (.cond (TT 53) (.seq (.reg [OA 9 (.mv (.const (.int .u64 0)))]) (.seq (.seq (.reg [MM 54 7,OA 55 (.len
 false (TT 54)),OA 56 (.bin .sub (TT 55) (II 1)),MM 10 56]) (.block 1 (.loop (.seq (.seq (.reg [MM 57 10,OA 58 (.bin .geq (TT 57) (II 0))]) (.cond (TT 58) .skip (.exit 1))) (.seq (.block 2 (.seq (.reg [MM 61 9,OA 62 (.bin
 .shl (TT 61) (.const (.int .u64 32))),MM 63 7,MM 64 10,OA 65 (.l7 1 (TT 63) (TT 64)),VV 66 65,OA 67 (.conv .u64 (TT 66)),OA 68 (.bin .or (TT 62) (TT 67)),MM 9 68]) (.y9 [.q,.q,.q,.q,.q,.q,.q,.q,.q,.l,.q,
 .q,.q,.l,.l,.q,.e none false,.q] [MM 69 7,MM 70 10,MM 71 9,MM 72 8,OA 73 (.l7 1 (TT 72) (II 0)),VV 74 73,OA 75 (.conv .u64 (TT 74)),OA 76 (.bin .quo (TT 71) (TT 75)),OA 77 (.conv .u32 (TT 76)),MM 78 9,MM 79 8,
 OA 80 (.l7 1 (TT 79) (II 0)),VV 81 80,OA 82 (.conv .u64 (TT 81)),OA 83 (.bin .rem (TT 78) (TT 82)),OA 84 (.l7 1 (TT 69) (TT 70)),OB (.store 1 (TT 84) (TT 77)),MM 9 83]))) (.reg [MM 59 10,OA 60 (.bin .sub (TT 59) (II
 1)),MM 10 60])))))) (.seq (.reg [MM 85 7,OA 86 (.call 149 [TT 85]),MM 87 9,OA 88 (.call 146 [TT 87]),MM 4 86,MM 5 88,OA 6 (.mv (II 0))]) .ret))) .skip)) (.seq (.reg [MM 90 7,MM 91 8,OA 92 (.call 176 [TT 90,TT 91]),MM
 89 92,OA 93 (.ext (TT 89) 0),OA 94 (.ext (TT 89) 1),MM 11 93,MM 12 94]) (.seq (.reg [MM 95 11,OA 96 (.call 149 [TT 95]),MM 97 12,OA 98 (.call 149 [TT 97]),MM 4 96,MM 5 98,OA 6 (.mv (II 0))]) .ret))))))⟩
theorem b8u:F3 eff Tryz.prog Tryz.f144=some b1i:=by kernel_rfl
theorem b8U:Tryz.prog.funcs[144]?=some Tryz.f144:=Tryz.func144
def a9n:H6:=⟨54,[.tmp 2],.seq (.reg [OA 2 (.mv (.const (.string ⟨#[]⟩)))]) (.seq (.reg [MM 7 0,OA 8 (.len false (TT 7)),OA 9 (.bin .mul (II 4) (TT 8)),OA 10 (.a1i 5 1 [.int .u8 0] (TT 9) (TT 9)),MM 3 10]) (.seq (.seq (.reg [MM 11 0,OA
 12 (.len false (TT 11)),OA 13 (.mv (II 0))]) (.block 0 (.loop (.seq (.reg [OA 14 (.bin .lss (TT 13) (TT 12))]) (.seq (.cond (TT 14) .skip (.exit 0)) (.seq (.block 1 (.seq (.reg [MM 15 13,OA 16 (.l7 1 (TT 11) (TT 13)),VV 17
 16,MM 4 15,MM 5 17]) (.seq (.reg [MM 18 0,OA 19 (.len false (TT 18)),OA 20 (.bin .sub (TT 19) (II 1)),MM 21 4,OA 22 (.bin .sub (TT 20) (TT 21)),OA 23 (.bin .mul (II 4) (TT 22)),MM 6 23]) (.reg [MM 24 3,MM 25 6,MM 26 3,
 MM 27 6,OA 28 (.bin .add (TT 27) (II 1)),MM 29 3,MM 30 6,OA 31 (.bin .add (TT 30) (II 2)),MM 32 3,MM 33 6,OA 34 (.bin .add (TT 33) (II 3)),MM 35 5,OA 36 (.bin .shr (TT 35) (.const (.int .u64 24))),OA 37 (.conv .u8 (TT
 36)),MM 38 5,OA 39 (.bin .shr (TT 38) (.const (.int .u64 16))),OA 40 (.conv .u8 (TT 39)),MM 41 5,OA 42 (.bin .shr (TT 41) (.const (.int .u64 8))),OA 43 (.conv .u8 (TT 42)),MM 44 5,OA 45 (.conv .u8 (TT 44)),OA 46 (.l7
 1 (TT 24) (TT 25)),OB (.store 1 (TT 46) (TT 37)),OA 47 (.l7 1 (TT 26) (TT 28)),OB (.store 1 (TT 47) (TT 40)),OA 48 (.l7 1 (TT 29) (TT 31)),OB (.store 1 (TT 48) (TT 43)),OA 49 (.l7 1 (TT 32) (TT 34)),OB (.store 1
 (TT 49) (TT 45))])))) (.reg [OA 50 (.bin .add (TT 13) (II 1)),MM 13 50]))))))) (.seq (.reg [MM 51 3,OA 52 (.toStr (TT 51)),OA 53 (.call 145 [TT 52]),MM 2 53]) .ret)))⟩
theorem b6D:F3 eff Tryz.prog Tryz.f149=some a9n:=by kernel_rfl
theorem b6i:Tryz.prog.funcs[149]?=some Tryz.f149:=Tryz.func149
def a7u:H6:=⟨117,[.tmp 4],.seq (.reg [OA 4 (.mv (.const (.string ⟨#[]⟩)))]) (.seq (.reg [MM 14 0,OA 15 (.call 196 [TT 14]),MM 16 1,OA 17 (.call 196 [TT 16]),MM 5 15,MM 6 17]) (.seq (.reg [MM 18 5,OA 19 (.call 197 [TT 18]),MM 20 6,OA
 21 (.call 197 [TT 20]),MM 7 19,MM 8 21]) (.seq (.reg [MM 22 5,MM 23 7,OA 24 (.call 198 [TT 22,TT 23]),MM 25 6,MM 26 8,OA 27 (.call 198 [TT 25,TT 26]),MM 5 24,MM 6 27]) (.seq (.block 0 (.loop (.seq (.seq (.reg [MM 28
 5,OA 29 (.len false (TT 28)),OA 30 (.bin .gtr (TT 29) (II 1)),MM 31 30,MG 32 6 31 false,OC 33 (.len false (TT 32)) 31 false,OC 34 (.bin .gtr (TT 33) (II 1)) 31 false,OA 35 (.pick (TT 31) (.const (.bool true)) (TT 34))])
 (.cond (TT 35) .skip (.exit 0))) (.block 1 (.seq (.seq (.reg [MM 36 5,MM 37 6,OA 38 (.call 199 [TT 36,TT 37])]) (.cond (TT 38) (.reg [MM 39 6,MM 40 5,MM 5 39,MM 6 40]) .skip)) (.seq (.seq (.reg [MM 41 5,MM 42 6,OA 43
 (.call 200 [TT 41,TT 42]),MM 5 43]) (.seq (.reg [MM 44 5,OA 45 (.len false (TT 44)),OA 46 (.bin .eql (TT 45) (II 0))]) (.cond (TT 46) (.exit 0) .skip))) (.reg [MM 47 5,MM 48 5,OA 49 (.call 197 [TT 48]),OA 50 (.call 198
 [TT 47,TT 49]),MM 5 50]))))))) (.seq (.seq (.reg [MM 51 5,OA 52 (.len false (TT 51)),OA 53 (.bin .eql (TT 52) (II 1)),MM 54 53,MG 55 6 54 true,OC 56 (.len false (TT 55)) 54 true,OC 57 (.bin .eql (TT 56) (II 1)) 54 true,
 OA 58 (.pick (TT 54) (TT 57) (.const (.bool false)))]) (.cond (TT 58) (.y9 [.q,.q,.q,.q,.q,.q,.q,.q,.q,.e none true] [MM 59 6,MM 60 5,OA 61 (.l7 1 (TT 60) (II 0)),VV 62 61,MM 63 6,OA 64 (.l7 1 (TT 63) (II
 0)),VV 65 64,OA 66 (.call 173 [TT 62,TT 65]),OA 67 (.l7 1 (TT 59) (II 0)),OB (.store 1 (TT 67) (TT 66))]) .skip)) (.seq (.reg [MM 68 6,OA 69 (.len false (TT 68)),OA 70 (.bin .mul (II 8) (TT 69)),OA 71 (.a1i 5 1 [.int
 .u8 0] (TT 70) (TT 70)),MM 9 71]) (.seq (.seq (.reg [MM 72 6,OA 73 (.len false (TT 72)),OA 74 (.mv (II 0))]) (.block 2 (.loop (.seq (.reg [OA 75 (.bin .lss (TT 74) (TT 73))]) (.seq (.cond (TT 75) .skip (.exit 2)) (.seq
 (.block 3 (.seq (.reg [MM 76 74,OA 77 (.l7 1 (TT 72) (TT 74)),VV 78 77,MM 10 76,MM 11 78]) (.seq (.reg [OA 79 (.mv (II 0))]) (.block 4 (.loop (.seq (.reg [OA 80 (.bin .lss (TT 79) (II 8))]) (.seq (.cond (TT 80) .skip
 (.exit 4)) (.seq (.block 5 (.seq (.reg [MM 81 79,MM 12 81]) (.reg [MM 82 9,MM 83 6,OA 84 (.len false (TT 83)),OA 85 (.bin .sub (TT 84) (II 1)),MM 86 10,OA 87 (.bin .sub (TT 85) (TT 86)),OA 88 (.bin .mul (II 8) (TT 87)),
 MM 89 12,OA 90 (.bin .add (TT 88) (TT 89)),MM 91 11,MM 92 12,OA 93 (.bin .mul (II 8) (TT 92)),OA 94 (.bin .sub (II 56) (TT 93)),OA 95 (.bin .shr (TT 91) (TT 94)),OA 96 (.conv .u8 (TT 95)),OA 97 (.l7 1 (TT 82) (TT
 90)),OB (.store 1 (TT 97) (TT 96))]))) (.reg [OA 98 (.bin .add (TT 79) (II 1)),MM 79 98]))))))))) (.reg [OA 99 (.bin .add (TT 74) (II 1)),MM 74 99]))))))) (.seq (.reg [MM 100 7,MM 101 8,OA 102 (.min (TT 100) (TT 101)),MM 7
 102]) (.seq (.reg [MM 103 7,OA 104 (.bin .quo (TT 103) (II 8)),OA 105 (.bin .add (TT 104) (II 1)),OA 106 (.a1i 5 1 [.int .u8 0] (TT 105) (TT 105)),MM 13 106]) (.seq (.reg [MM 107 13,MM 108 7,OA 109 (.bin .rem (TT 108) (II
 8)),OA 110 (.bin .shl (.const (.int .u8 1)) (TT 109)),OA 111 (.l7 1 (TT 107) (II 0)),OB (.store 1 (TT 111) (TT 110))]) (.seq (.reg [MM 112 9,OA 113 (.toStr (TT 112)),MM 114 13,OA 115 (.toStr (TT 114)),OA 116 (.call 101
 [TT 113,TT 115]),MM 4 116]) .ret)))))))))))⟩
theorem b3y:F3 eff Tryz.prog Tryz.f174=some a7u:=by kernel_rfl
theorem b3v:Tryz.prog.funcs[174]?=some Tryz.f174:=Tryz.func174
def a9p:H6:=⟨179,[.tmp 4,.tmp 5],.seq (.reg [OA 4 (.mv (.const (.slice none 0 0))),OA 5 (.mv (.const (.slice none 0 0)))]) (.seq (.reg [MM 15 1,MM 16 1,OA 17 (.len false (TT 16)),OA 18 (.bin .sub (TT 17) (II 1)),OA 19 (.l7 1 (TT
 15) (TT 18)),VV 20 19,OA 21 (.call 201 [TT 20]),MM 6 21]) (.seq (.reg [MM 22 1,OA 23 (.len false (TT 22)),MM 7 23]) (.seq (.y9 [.q,.q,.e none false,.l,.l,.e none false,.l,.q,.q,.q] [MM 24 0,MM 25 6,OA 26 (.call
 202 [TT 24,TT 25]),MM 27 1,MM 28 6,OA 29 (.call 202 [TT 27,TT 28]),MM 30 7,OA 31 (.a0L 1 (TT 29) none (some (TT 30))),MM 8 26,MM 9 31]) (.seq (.reg [MM 32 8,OA 33 (.len false (TT 32)),MM 34 7,OA 35 (.bin .sub (TT
 33) (TT 34)),OA 36 (.a1i 222 4 [.int .u32 0] (TT 35) (TT 35)),MM 4 36]) (.seq (.seq (.reg [MM 37 4,OA 38 (.len false (TT 37)),OA 39 (.bin .sub (TT 38) (II 1)),MM 10 39]) (.block 0 (.loop (.seq (.seq (.reg [MM 40 10,OA 41
 (.bin .geq (TT 40) (II 0))]) (.cond (TT 41) .skip (.exit 0))) (.seq (.block 1 (.seq (.y9 [.q,.q,.q,.q,.q,.q,.q,.q,.q,.q,.q,.q,.q,.q,.q,.q,.q,.q] [MM 44 8,MM 45 10,MM 46 7,OA 47 (.bin .add (TT 45) (TT 46)),
 OA 48 (.l7 1 (TT 44) (TT 47)),VV 49 48,OA 50 (.conv .u64 (TT 49)),OA 51 (.bin .shl (TT 50) (.const (.int .u64 32))),MM 52 8,MM 53 10,MM 54 7,OA 55 (.bin .add (TT 53) (TT 54)),OA 56 (.bin .sub (TT 55) (II 1)),OA 57
 (.l7 1 (TT 52) (TT 56)),VV 58 57,OA 59 (.conv .u64 (TT 58)),OA 60 (.bin .or (TT 51) (TT 59)),MM 11 60]) (.seq (.y9 [.q,.q,.q,.q,.q,.q,.q,.q,.q,.q,.q,.q,.q,.q,.q,.q,.q,.q] [MM 61 11,MM 62 9,MM 63 7,OA
 64 (.bin .sub (TT 63) (II 1)),OA 65 (.l7 1 (TT 62) (TT 64)),VV 66 65,OA 67 (.conv .u64 (TT 66)),OA 68 (.bin .quo (TT 61) (TT 67)),MM 69 11,MM 70 9,MM 71 7,OA 72 (.bin .sub (TT 71) (II 1)),OA 73 (.l7 1 (TT 70) (TT
 72)),VV 74 73,OA 75 (.conv .u64 (TT 74)),OA 76 (.bin .rem (TT 69) (TT 75)),MM 12 68,MM 13 76]) (.seq (.block 2 (.loop (.seq (.seq (.y9 [.q,.q,.q,.q,.q,.q,.q,.q,.q,.q,.q,.q,.q,.q,.q,.q,.q,.q,.q,.q,.q,
 .q,.q,.q,.q] [MM 77 12,OA 78 (.bin .shr (TT 77) (.const (.int .u64 32))),OA 79 (.bin .gtr (TT 78) (.const (.int .u64 0))),MM 80 79,MG 81 12 80 false,MG 82 9 80 false,MG 83 7 80 false,OC 84 (.bin .sub (TT 83) (II 2)) 80
 false,OC 85 (.l7 1 (TT 82) (TT 84)) 80 false,VG 86 85 80 false,OC 87 (.conv .u64 (TT 86)) 80 false,OC 88 (.bin .mul (TT 81) (TT 87)) 80 false,MG 89 13 80 false,OC 90 (.bin .shl (TT 89) (.const (.int .u64 32))) 80 false,
 MG 91 8 80 false,MG 92 10 80 false,MG 93 7 80 false,OC 94 (.bin .add (TT 92) (TT 93)) 80 false,OC 95 (.bin .sub (TT 94) (II 2)) 80 false,OC 96 (.l7 1 (TT 91) (TT 95)) 80 false,VG 97 96 80 false,OC 98 (.conv .u64 (TT
 97)) 80 false,OC 99 (.bin .or (TT 90) (TT 98)) 80 false,OC 100 (.bin .gtr (TT 88) (TT 99)) 80 false,OA 101 (.pick (TT 80) (.const (.bool true)) (TT 100))]) (.cond (TT 101) .skip (.exit 2))) (.block 3 (.seq (.reg [MM 102 12,
 OA 103 (.bin .sub (TT 102) (.const (.int .u64 1))),MM 12 103]) (.seq (.reg [MM 104 13,MM 105 9,MM 106 7,OA 107 (.bin .sub (TT 106) (II 1)),OA 108 (.l7 1 (TT 105) (TT 107)),VV 109 108,OA 110 (.conv .u64 (TT 109)),OA
 111 (.bin .add (TT 104) (TT 110)),MM 13 111]) (.seq (.reg [MM 112 13,OA 113 (.bin .shr (TT 112) (.const (.int .u64 32))),OA 114 (.bin .gtr (TT 113) (.const (.int .u64 0)))]) (.cond (TT 114) (.exit 2) .skip)))))))) (.seq (.seq
 (.reg [MM 115 8,MM 116 10,MM 117 10,MM 118 7,OA 119 (.bin .add (TT 117) (TT 118)),OA 120 (.bin .add (TT 119) (II 1)),OA 121 (.a0L 1 (TT 115) (some (TT 116)) (some (TT 120))),MM 122 9,MM 123 12,OA 124 (.call 203 [TT
 121,TT 122,TT 123])]) (.cond (TT 124) (.seq (.reg [MM 125 12,OA 126 (.bin .sub (TT 125) (.const (.int .u64 1))),MM 12 126]) (.reg [MM 127 8,MM 128 10,MM 129 10,MM 130 7,OA 131 (.bin .add (TT 129) (TT 130)),OA 132 (.bin
 .add (TT 131) (II 1)),OA 133 (.a0L 1 (TT 127) (some (TT 128)) (some (TT 132))),MM 134 9,OA 135 (.call 204 [TT 133,TT 134])])) .skip)) (.reg [MM 136 4,MM 137 10,MM 138 12,OA 139 (.conv .u32 (TT 138)),OA 140 (.l7 1 (TT
 136) (TT 137)),OB (.store 1 (TT 140) (TT 139))])))))) (.reg [MM 42 10,OA 43 (.bin .sub (TT 42) (II 1)),MM 10 43])))))) (.seq (.reg [MM 141 8,MM 142 7,OA 143 (.a0L 1 (TT 141) none (some (TT 142))),MM 5 143]) (.seq (.seq
 (.reg [MM 144 5,OA 145 (.len false (TT 144)),OA 146 (.mv (II 0))]) (.block 4 (.loop (.seq (.reg [OA 147 (.bin .lss (TT 146) (TT 145))]) (.seq (.cond (TT 147) .skip (.exit 4)) (.seq (.block 5 (.seq (.reg [MM 148 146,MM 14
 148]) (.seq (.reg [MM 149 5,MM 150 14,OA 151 (.l7 1 (TT 149) (TT 150)),VV 152 151,MM 153 6,OA 154 (.bin .shr (TT 152) (TT 153)),OA 155 (.l7 1 (TT 149) (TT 150)),OB (.store 1 (TT 155) (TT 154))]) (.seq (.reg [MM 156
 14,OA 157 (.bin .add (TT 156) (II 1)),MM 158 7,OA 159 (.bin .lss (TT 157) (TT 158))]) (.cond (TT 159) (.y9 [.q,.q,.q,.q,.q,.q,.q,.q,.q,.q,.q,.q,.q,.q,.q,.q,.e none true] [MM 160 5,MM 161 14,OA 162 (.l7
 1 (TT 160) (TT 161)),VV 163 162,MM 164 8,MM 165 14,OA 166 (.bin .add (TT 165) (II 1)),OA 167 (.l7 1 (TT 164) (TT 166)),VV 168 167,OA 169 (.conv .u64 (TT 168)),MM 170 6,OA 171 (.bin .sub (II 32) (TT 170)),OA 172
 (.bin .shl (TT 169) (TT 171)),OA 173 (.conv .u32 (TT 172)),OA 174 (.bin .or (TT 163) (TT 173)),OA 175 (.l7 1 (TT 160) (TT 161)),OB (.store 1 (TT 175) (TT 174))]) .skip))))) (.reg [OA 176 (.bin .add (TT 146) (II 1)),MM
 146 176]))))))) (.seq (.reg [MM 177 4,MM 178 5,MM 4 177,MM 5 178]) .ret))))))))⟩
theorem b6d:F3 eff Tryz.prog Tryz.f176=some a9p:=by kernel_rfl
theorem b6e:Tryz.prog.funcs[176]?=some Tryz.f176:=Tryz.func176
def a5o:H6:=⟨66,[.tmp 6],.seq (.reg [OA 6 (.mv (.const (.bool false)))]) (.seq (.reg [OA 7 (.mv (.const (.int .u64 0))),OA 8 (.mv (.const (.int .u64 0)))]) (.seq (.seq (.reg [MM 13 1,OA 14 (.len false (TT 13)),OA 15 (.mv (II 0))])
 (.block 0 (.loop (.seq (.reg [OA 16 (.bin .lss (TT 15) (TT 14))]) (.seq (.cond (TT 16) .skip (.exit 0)) (.seq (.block 1 (.seq (.reg [MM 17 15,OA 18 (.l7 1 (TT 13) (TT 15)),VV 19 18,MM 9 17,MM 10 19]) (.seq (.reg [MM 20 7,
 MM 21 2,MM 22 10,OA 23 (.conv .u64 (TT 22)),OA 24 (.bin .mul (TT 21) (TT 23)),OA 25 (.bin .add (TT 20) (TT 24)),MM 7 25]) (.seq (.reg [MM 26 0,MM 27 9,OA 28 (.l7 1 (TT 26) (TT 27)),VV 29 28,OA 30 (.conv .u64 (TT
 29)),MM 31 7,OA 32 (.conv .u32 (TT 31)),OA 33 (.conv .u64 (TT 32)),OA 34 (.bin .sub (TT 30) (TT 33)),MM 35 8,OA 36 (.bin .sub (TT 34) (TT 35)),MM 11 36]) (.seq (.reg [MM 37 0,MM 38 9,MM 39 11,OA 40 (.conv .u32 (TT
 39)),MM 41 11,OA 42 (.bin .shr (TT 41) (.const (.int .u64 63))),OA 43 (.l7 1 (TT 37) (TT 38)),OB (.store 1 (TT 43) (TT 40)),MM 8 42]) (.reg [MM 44 7,OA 45 (.bin .shr (TT 44) (.const (.int .u64 32))),MM 7 45]))))))
 (.reg [OA 46 (.bin .add (TT 15) (II 1)),MM 15 46]))))))) (.seq (.reg [MM 47 0,MM 48 1,OA 49 (.len false (TT 48)),OA 50 (.l7 1 (TT 47) (TT 49)),VV 51 50,OA 52 (.conv .u64 (TT 51)),MM 53 7,OA 54 (.bin .sub (TT 52) (TT
 53)),MM 55 8,OA 56 (.bin .sub (TT 54) (TT 55)),MM 12 56]) (.seq (.reg [MM 57 0,MM 58 1,OA 59 (.len false (TT 58)),MM 60 12,OA 61 (.conv .u32 (TT 60)),OA 62 (.l7 1 (TT 57) (TT 59)),OB (.store 1 (TT 62) (TT 61))])
 (.seq (.reg [MM 63 12,OA 64 (.bin .shr (TT 63) (.const (.int .u64 63))),OA 65 (.bin .gtr (TT 64) (.const (.int .u64 0))),MM 6 65]) .ret)))))⟩
theorem b0i:F3 eff Tryz.prog Tryz.f203=some a5o:=by kernel_rfl
theorem b1o:Tryz.prog.funcs[203]?=some Tryz.f203:=Tryz.func203
def a9h:H6:=⟨48,[.tmp 2],.seq (.reg [OA 1 (.box 29 (TT 0)),OA 2 (.mv (.const (.bool false)))]) (.seq (.seq (.reg [FF 3 2 1,VV 4 3,OA 5 (.bin .eql (TT 4) (.const (.string ⟨#[]⟩))),MM 6 5,FG 7 2 1 6 false,VG 8 7 6 false,OC 9 (.idxs (TT
 8) (II 0)) 6 false,OC 10 (.bin .eql (TT 9) (.const (.int .u8 0))) 6 false,OA 11 (.pick (TT 6) (.const (.bool true)) (TT 10)),MM 12 11,FG 13 1 1 12 false,VG 14 13 12 false,OC 15 (.bin .eql (TT 14) (.const (.string ⟨#[]⟩)))
 12 false,MG 16 15 12 false,FG 17 0 1 16 true,VG 18 17 16 true,MG 19 18 16 true,FG 20 2 1 19 false,VG 21 20 19 false,OC 22 (.bin .neq (TT 21) (.const (.string ⟨#[1]⟩))) 19 false,OC 23 (.pick (TT 19) (.const (.bool true))
 (TT 22)) 16 true,OC 24 (.pick (TT 16) (TT 23) (.const (.bool false))) 12 false,OA 25 (.pick (TT 12) (.const (.bool true)) (TT 24)),MM 26 25,FG 27 1 1 26 false,VG 28 27 26 false,OC 29 (.bin .neq (TT 28) (.const (.string
 ⟨#[]⟩))) 26 false,MG 30 29 26 false,FG 31 1 1 30 true,VG 32 31 30 true,OC 33 (.idxs (TT 32) (II 0)) 30 true,OC 34 (.bin .eql (TT 33) (.const (.int .u8 0))) 30 true,OC 35 (.pick (TT 30) (TT 34) (.const (.bool false))) 26
 false,OA 36 (.pick (TT 26) (.const (.bool true)) (TT 35))]) (.cond (TT 36) (.seq (.reg [OA 2 (.mv (.const (.bool false)))]) .ret) .skip)) (.seq (.reg [FF 37 2 1,VV 38 37,OA 39 (.bin .eql (TT 38) (.const (.string ⟨#[1]⟩))),MM
 40 39,FG 41 1 1 40 false,VG 42 41 40 false,FG 43 2 1 40 false,VG 44 43 40 false,OC 45 (.call 142 [TT 42,TT 44]) 40 false,OC 46 (.bin .eql (TT 45) (.const (.string ⟨#[1]⟩))) 40 false,OA 47 (.pick (TT 40) (.const (.bool
 true)) (TT 46)),MM 2 47]) .ret))⟩
theorem b6H:F3 eff Tryz.prog Tryz.f95=some a9h:=by kernel_rfl
theorem b6o:Tryz.prog.funcs[95]?=some Tryz.f95:=Tryz.func95
theorem kS {P:Program} {f:Nat} {fn:Func} {ir:H6} (hf:P.funcs[f]?=some fn) (hc:F3 eff P fn=some ir) {args:List C} {r:C} (hn:Nat.ble args.length ir.ntmps=true) (h:∀ w O,S ⟨P,eff,ir.ntmps,w,fun _=>False,O,[],[]⟩ (Fin P ir.results (Out ⟨P,eff,ir.ntmps,w,fun _=>False,O,[],[]⟩ r)) ⟨j5 0 args,[]⟩ [.code ir.body]):A9 P f args r:=A9.of hf hc (c7z hn) h
theorem kW {P:Program} {Pw:World->Prop} {f:Nat} {fn:Func} {ir:H6} (hf:P.funcs[f]?=some fn) (hc:F3 eff P fn=some ir) {args:List C} {r:C} (hn:Nat.ble args.length ir.ntmps=true) (h:∀ w O,Pw w->S ⟨P,eff,ir.ntmps,w,fun _=>False,O,[],[]⟩ (Fin P ir.results (Out ⟨P,eff,ir.ntmps,w,fun _=>False,O,[],[]⟩ r)) ⟨j5 0 args,[]⟩ [.code ir.body]):a0u P Pw f args r:=a0u.of hf hc (c7z hn) h
open Go Go.RowKit Eng
set_option maxRecDepth 10000
set_option maxHeartbeats 1000000
theorem a8N (b:UInt8):((b.toNat:Int)=0)=(b=0):=propext ⟨fun h=>UInt8.toNat.inj (by simp;omega),fun h=>by subst h;rfl⟩
theorem b8O {α:Type} (x:α) (l:List α):List.drop (Int.toNat 1) (List.take (l.length+1) (x::l))=l:=by simp
theorem b9B (v:Nat) (b:UInt8):bits .or .u64 (IntKind.u64.wrap (((v % 18446744073709551616:Nat):Int)*256)) (IntKind.u64.wrap ((b.toNat:Nat):Int))=(((256*v+b.toNat) % 18446744073709551616:Nat):Int):=by
 have hb:=b.toNat_lt
 have h1:IntKind.u64.wrap (((v % 18446744073709551616:Nat):Int)*256)=((v % 18446744073709551616*256 % 18446744073709551616:Nat):Int):=by rw [<- a5b];rfl
 rw [h1,a5b,b0j _ _ (by omega) (by omega),Nat.mod_eq_of_lt (a:=b.toNat) (by omega),Nm.b8o _ _ (by omega)]
theorem a0v (l:List UInt8) (hl:l.length<=1099511627776):A9 Tryz.prog 145 [sb l] (sb (Nm.trim l)):=by
  refine kS Tryz.func145 (by cbv) (by rfl) fun w O=>?_
  simp only [j5,TT,II,OA,OC,MM,MG,sb]
  (repeat first|refine uA ?_|(apply uK;focus omega)|simp (disch:=omega) only [go_sem])
  refine S.loop (X:=List UInt8) (fun m=>⟨[(0,sb m)],[]⟩) (fun m=>Nm.trim m=Nm.trim l) (fun m=>m.length) l rfl (by (repeat first|refine uA ?_|(refine ⟨?_,?_⟩;focus first|rfl|trivial|(simp [slot];done))|rfl|trivial|simp)) ?_
  intro m hm
  cases m with
  | nil=>
    simp only [sb]
    (repeat first|refine uA ?_|(apply uK;focus first|omega|(intros;simp_all<;>omega))|simp only [go_sem,Nat.reduceBEq,F4,List.length_nil]|simp (disch:=omega) only [ww,F4,List.length_nil])
    (refine uJ rfl (fun hc=>?_) fun hc=>?_)
    · omega
    rw [<- hm]
    (repeat first|refine uA ?_|(apply uK;focus omega)|simp (disch:=omega) only [go_sem,Nat.reduceBEq])
    exact S.done (j3.out rfl (Imp.refl rfl) rfl)
  | cons b m=>
    simp only [sb]
    (repeat first|refine uA ?_|(apply uK;focus omega)|simp only [go_sem,Nat.reduceBEq,F4,a0m,c7A,List.getD_cons_zero,a8N]|simp (disch:=omega) only [ww,F4,a0m,c7A,List.getD_cons_zero,b5E,a8N])
    (refine uJ rfl (fun hc=>?_) fun hc=>?_)
    · obtain ⟨_,rfl⟩:=hc
      have hm2:Nm.trim m=Nm.trim l:=by rw [<- hm];rfl
      (repeat first|refine uA ?_|(apply uK;focus omega)|simp only [go_sem,Nat.reduceBEq,F4,c7A,b5E,c7y,List.take_succ_cons,List.drop_succ_cons,c7o]|simp (disch:=omega) only [ww,F4,a0m,c7A,b5E,c7y,List.take_succ_cons,List.drop_succ_cons,c7o,b8O])
      refine S.next (m:=List.length) (x:=0::m) m hm2 (by simp) (by exact (by (repeat first|refine uA ?_|(refine ⟨?_,?_⟩;focus first|rfl|trivial|(simp [slot];done))|rfl|trivial|simp)))
    · have hb:b ≠ 0:=by
        intro hb
        rcases hc with hc|hc
        · omega
        · exact hc hb
      have he:Nm.trim l=b::m:=by rw [<- hm];unfold Nm.trim;rw [if_neg hb]
      rw [he]
      (repeat first|refine uA ?_|(apply uK;focus omega)|simp (disch:=omega) only [go_sem,Nat.reduceBEq])
      exact S.done (j3.out rfl (Imp.refl rfl) rfl)
theorem a1R (l:List UInt8) (hl:l.length<=1099511627776):A9 Tryz.prog 147 [sb l] (.v (.int .u64 ((Nm.val l % 18446744073709551616:Nat):Int))):=by
 refine kS Tryz.func147 (by cbv) (by rfl) fun w O=>?_
 simp only [j5,TT,II,OA,MM,sb]
 (repeat first|refine uA ?_|(apply uK;focus omega)|simp only [go_sem,Nat.reduceBEq,F4]|simp (disch:=omega) only [ww,F4])
 refine S.loop (X:=Nat) (fun i=>⟨[(0,sb l),(3,.v (.int .u64 ((Nm.val (l.take i) % 18446744073709551616:Nat):Int))),(6,ints l.length),(7,ints i)],[]⟩) (fun i=>i<=l.length) (fun i=>l.length-i) 0 (c7n _) (by (repeat first|refine uA ?_|(refine ⟨?_,?_⟩;focus first|rfl|trivial|(simp [slot];done))|rfl|trivial|simp)) ?_
 intro i hi
 simp only [sb,ints]
 (repeat first|refine uA ?_|(apply uK;focus omega)|simp (disch:=omega) only [go_sem,Nat.reduceBEq])
 (refine uJ rfl (fun hc=>?_) fun hc=>?_)
 ·have hi':i < l.length:=by omega
  have hg:l.getD i 0=l[i]:=by rw [c7u,c7h hi'];rfl
  have hv:Nm.val (l.take (i+1))=256*Nm.val (l.take i)+l[i].toNat:=by rw [c7Z hi',Nm.a5c]
  have hb:=l[i].toNat_lt
  (repeat first|refine uA ?_|(apply uK;focus omega)|simp only [go_sem,Nat.reduceBEq,Nat.reduceLeDiff,Int.reducePow,F4,a0m,hg,b9B]|simp (disch:=omega) only [ww])
  refine S.next (i+1) hi' (by omega) (by rw [hv];exact (by (repeat first|refine uA ?_|(refine ⟨?_,?_⟩;focus first|rfl|trivial|(simp [slot];done))|rfl|trivial|simp)))
 ·have hi':i=l.length:=by omega
  subst hi'
  rw [c7y]
  (repeat first|refine uA ?_|(apply uK;focus omega)|simp (disch:=omega) only [go_sem,Nat.reduceBEq])
  exact S.done (j3.out rfl (Imp.refl rfl) rfl)
def b8 (n i:Nat):List C:=((Nm.be8 n).take i++List.replicate (8-i) 0).map fun b:UInt8=>.v (.int .u8 ((b.toNat:Nat):Int))
theorem a6I (n k:Nat):IntKind.u8.wrap (Int.fdiv (n:Int) (k:Int))=(((Nm.oB (n / k)).toNat:Nat):Int):=by
 rw [a2w,a2a,Nm.a2c]
theorem c1g (n i:Nat) (h:i<=8):(b8 n i).length=8:=by simp [b8,Nm.be8];omega
theorem c4d (n:Nat):b8 n 0=[.v (.int .u8 0),.v (.int .u8 0),.v (.int .u8 0),.v (.int .u8 0),.v (.int .u8 0),.v (.int .u8 0),.v (.int .u8 0),.v (.int .u8 0)]:=rfl
theorem c4g (n i:Nat) (h:i < 8):(b8 n i).take i++[C.v (.int .u8 (IntKind.u8.wrap (Int.fdiv (n:Int) (2 ^ min (56-8*(i:Int)).toNat 64))))]++(b8 n i).drop (i+1)=b8 n (i+1):=by
 have:i=0 \/ i=1 \/ i=2 \/ i=3 \/ i=4 \/ i=5 \/ i=6 \/ i=7:=by omega
 have e:IntKind.u8.wrap (Int.fdiv (n:Int) (2 ^ min (56-8*(i:Int)).toNat 64))=(((Nm.oB (n / 2 ^ (56-8*i))).toNat:Nat):Int):=by
  rw [<- a6I,show min (56-8*(i:Int)).toNat 64=56-8*i by omega]
  congr 2
 rw [e]
 rcases this with rfl|rfl|rfl|rfl|rfl|rfl|rfl|rfl<;>simp [b8,Nm.be8,List.replicate]
theorem b7v {α:Type} (k:Nat) (f:α->Value):∀ l:List α,C.bdL k (l.map fun x=>.v (f x))=true
 | []=>rfl
 | x::l=>by simp only [c7w,C.bdL,C.bd,Bool.true_and];exact b7v k f l
theorem b4z (n:Nat):a0e (List.map b2n (List.take 8 (b8 n 8)))=some (Nm.be8 n):=by
 have:List.map b2n (List.take 8 (b8 n 8))=(Nm.be8 n).map G6:=by simp [b8,Nm.be8,b2n,G6]
 rw [this,a0t]
theorem a0z (n:Nat) (hn:n < 18446744073709551616):A9 Tryz.prog 146 [.v (.int .u64 (n:Int))] (sb (Nm.enc n)):=by
 refine kS Tryz.func146 (by cbv) (by rfl) fun w O=>?_
 simp only [j5,TT,II,OA,OB,MM,sb]
 (repeat first|refine uA ?_|(apply uK;focus omega)|simp (disch:=omega) only [go_sem])
 refine S.loop (X:=Nat) (fun i=>⟨[(0,.v (.int .u64 (n:Int))),(3,.bp 0 0),(5,ints i)],[.box 240 (b8 n i)]⟩) (fun i=>i<=8) (fun i=>8-i) 0 (c7n _) (by rw [c4d];exact (by (repeat first|refine uA ?_|(refine ⟨?_,?_⟩;focus first|rfl|trivial|(simp [slot];done))|rfl|trivial|simp))) ?_
 intro i hi
 simp only [ints]
 (repeat first|refine uA ?_|(apply uK;focus omega)|simp (disch:=omega) only [go_sem,Nat.reduceBEq])
 (refine uJ rfl (fun hc=>?_) fun hc=>?_)
 ·have hlen:=c1g n i (by omega)
  (repeat first|refine uA ?_|(apply uK;focus omega)|simp only [go_sem,Nat.reduceBEq,c7R,Nat.mul_one]|simp (disch:=omega) only [ww])
  refine S.next (i+1) (by omega) (by omega) (by rw [c4g n i (by omega)];exact Ent.mk _ _ (by (repeat first|refine uA ?_|(refine ⟨?_,?_⟩;focus first|rfl|trivial|(simp [slot];done))|rfl|trivial|simp)) (D8.cons (RI.box _ _ _ (j4.refl (b7v _ _ _))) D8.nil) (c7n _))
 ·have hi8:i=8:=by omega
  subst hi8
  have hlen:=c1g n 8 (by omega)
  (repeat first|refine uA ?_|(apply uK;focus omega)|simp only [go_sem,Nat.reduceBEq,Nat.reduceAdd,Nat.reduceLeDiff,b4z,a6S,Nm.b4x hn]|simp (disch:=omega) only [ww,b4z,a6S,Nm.b4x hn]|(apply uB (a0v (Nm.be8 n) (c7z rfl));exact rfl))
  exact S.done (j3.out rfl (Imp.refl rfl) rfl)
theorem b5R (n:Int) (hn:n<=9223372036854775807):A9 Tryz.prog 115 [ints n] (sb (Nm.enc n.toNat)):=by
 refine kS Tryz.func115 (by cbv) (by rfl) fun w O=>?_
 simp only [j5,TT,II,OA,MM,sb,ints]
 (repeat first|refine uA ?_|(apply uK;focus omega)|simp (disch:=omega) only [go_sem,Nat.reduceBEq])
 (refine uJ rfl (fun hc=>?_) fun hc=>?_)
 ·have h0:n.toNat=0:=by omega
  rw [h0,Nm.a0S]
  (repeat first|refine uA ?_|(apply uK;focus omega)|simp (disch:=omega) only [go_sem])
  exact S.done (j3.out rfl (Imp.refl rfl) rfl)
 ·obtain ⟨m,rfl⟩:=Int.eq_ofNat_of_zero_le (show 0<=n by omega)
  (repeat first|refine uA ?_|(apply uK;focus omega)|simp (disch:=omega) only [go_sem,Nat.reduceBEq,ww]|(apply uB (a0z m (by omega));exact rfl))
  exact S.done (j3.out rfl (Imp.refl rfl) rfl)
end Go.Proofs.YtgpegbfnlkidjaaGreatDoor
namespace Go.Proofs.YtgpegbfnlkidjaaGreatDoor.Eng
open Go Go.RowKit
def c4W (E:Ctx) (e sz:Nat) (es:List (List C)) (y:Value) (w':World):Prop:=
 Below E.w0.heap.size E.w0 w'/\(∀ b,D5 y=some b->E.w0.heap.size<=b/\b < w'.heap.size)/\O5 [] w' (fun b=>E.av b \/ D5 y=some b) y (.row e sz es)
def FNew (P:Program) (f:Nat) (args:List C) (e sz:Nat) (es:List (List C)):Prop:=∀ (O:Nat->Prop) (w:World) (vs:List Value),(∀ b,O b->b < w.heap.size)->FzL w O args vs ->
 Calls P f vs.toArray w fun ee w'=>∃ y,ee=.returned y/\Below w.heap.size w w'/\(∀ b,D5 y=some b->w.heap.size<=b/\b < w'.heap.size)/\O5 [] w' (fun b=>O b \/ D5 y=some b) y (.row e sz es)
theorem a6g {w:World} {O O':Nat->Prop} {ν ν':List Value} {x:Value} {e sz:Nat} {es:List (List C)} (h:∀ b,O' b->O b) (hr:O5 ν w O x (.row e sz es)):O5 ν' w O' x (.row e sz es):=by
 obtain ⟨h0,vs,h1,h2,h3⟩:=hr
 exact ⟨h0,vs,FzL.keep (Keeps.sub h) h1,h2,h3⟩
theorem j3.new {E:Ctx} (hown:E.own0=fun _=>False) {rs:List Res} {cs:List C} {k e sz:Nat} {es:List (List C)} (h:a7n cs=.rv k) (hk:rs[k]?=some (.row e sz es)):j3 E rs (c4W E e sz es) cs:=by
 intro wf ν w y hR hF hN hd
 rw [h] at hd
 simp only [Den] at hd
 have hok:=hR.get hk hd.1
 have hown':∀ b,D5 y=some b->owned rs ν b:=fun b hb=>⟨k,_,y,hk,hd.1,hb⟩
 refine ⟨⟨hF.os,hF.tape,hF.output,hF.size,fun b hb=>hF.block b hb (by rw [hown];exact fun h=>h)⟩,fun b hb=>?_,a6g (fun b hb=>?_) hok⟩
 ·obtain ⟨h1,h2,h3⟩:=hR.low b (hown' b hb)
  rw [hown] at h3
  rcases h3 with h3|h3
  ·exact h3.elim
  ·exact ⟨h3,h1⟩
 ·rcases hb with hb|hb
  ·exact .inl hb
  ·exact .inr (hown' b hb)
theorem FNew.of {eff:Nat->Bool} {P:Program} {f:Nat} {fn:Func} {ir:H6} (hf:P.funcs[f]?=some fn) (hc:F3 eff P fn=some ir) {args:List C} {e sz:Nat} {es:List (List C)} (hn:args.length<=ir.ntmps)
  (h:∀ w O,S ⟨P,eff,ir.ntmps,w,fun _=>False,O,[],[]⟩ (Fin P ir.results (c4W ⟨P,eff,ir.ntmps,w,fun _=>False,O,[],[]⟩ e sz es)) ⟨j5 0 args,[]⟩ [.code ir.body]):FNew P f args e sz es:=by
 intro O w vs hO hargs
 exact enter hf hc O hO args hargs hn (h w O)
theorem FNew.spec {P:Program} {f:Nat} {args:List C} {e sz:Nat} {es:List (List C)} (h:FNew P f args e sz es):A9 P f args (.sl sz es):=by
 intro O w vs hO hA
 refine (h O w vs hO hA).mono ?_
 rintro ee w' ⟨y,rfl,h1,h2,h0,us,h3,h4,h5⟩
 refine ⟨y,rfl,h1,b9y h5 rfl h0 (FzL.keep (Keeps.sub fun b hb=>.inl hb) h3) h4 fun b hb=>?_⟩
 obtain ⟨h6,h7⟩:=h2 b hb
 exact ⟨h7,fun hb'=>by have:=hO b hb';omega⟩
theorem FNew.t {E:Ctx} {rs:List Res} {f:Nat} {args:List C} {e sz:Nat} {es:List (List C)} (h:FNew E.P f args e sz es) (hb:(C.bdL rs.length args && C.clL args)=true):j6 E rs f args (.rv rs.length) (rs++[.row e sz es]) []:=by
 rw [c7q] at hb
 intro av ν w vs hR hav hF hD
 have hlt:∀ b,OO av rs ν b->b < w.heap.size:=fun b hb=>by
  rcases hb with hb|hb
  ·exact hR.av b hb
  ·exact (hR.low b hb).1
 refine (h (OO av rs ν) w vs hlt (hD.fz hb.2)).mono ?_
 rintro ee w' ⟨y,rfl,h1,h2,h3⟩
 have hadd:=hR.add (x:=y) (r:=.row e sz es) h1 h2 (fun _ _=>a6g (fun b hb=>by
  rcases hb with hb|⟨k,q,z,hk,hz,hf⟩
  ·exact .inl (.inl hb)
  ·rcases c7D k rs.length with hlt|hge
   ·rw [c7B hlt] at hk
    rw [c7B (by rw [hR.len];exact hlt)] at hz
    exact .inl (.inr ⟨k,q,z,hk,hz,hf⟩)
   ·rw [c7F hge] at hk
    rw [c7F (by rw [hR.len];exact hge),hR.len] at hz
    cases hi:k-rs.length with
    | zero=>
     rw [hi] at hk hz
     simp at hk hz
     subst hk hz
     exact .inr hf
    | succ n=>rw [hi] at hk;simp at hk) h3)
 refine ⟨y,ν++[y],rfl,hadd.1,hadd.2,?_⟩
 simp only [Den]
 obtain ⟨_,us,_,_,h5⟩:=h3
 exact ⟨by rw [<- hR.len];simp,h5.slice.elim fun A h=>h.elim fun c h=>⟨A,_,c,h⟩⟩
theorem l9.vw {E:Ctx} {rs:List Res} {f:Nat} {args args':List C} {K:C->List Res->List Nat->Prop} {r:C} (hs:A9 E.P f args' r) (hi:j4 rs [] args args') (hcl:C.clL args'=true) (hr:r.flat=true) (hk:K r rs []):l9 E rs f args K:=
 l9.quiet (R3.view (fun _=>hs) (fun _=>hi) (fun _=>hcl) hr) hk
theorem X6.vw {E:Ctx} {rs:List Res} {p:Bool} {f:Nat} {args args':List C} {K:C->Prop} {r:C} (hs:A9 E.P f args' r) (hi:j4 rs [] args args') (hcl:C.clL args'=true) (hr:r.flat=true) (hk:K r):X6 E rs p f args K:=
 X6.mk (R3.view (fun _=>hs) (fun _=>hi) (fun _=>hcl) hr) hk
end Go.Proofs.YtgpegbfnlkidjaaGreatDoor.Eng
namespace Go.Proofs.YtgpegbfnlkidjaaGreatDoor
open Go Go.RowKit Eng
set_option maxRecDepth 10000
set_option maxHeartbeats 1000000
def ws (l:List Nat):List (List C):=l.map wd
theorem D9 (l:List Nat):(ws l).length=l.length:=by simp [ws]
theorem I8 (l:List Nat) (i:Nat):(ws l)[i]?=(l[i]?).map wd:=by simp [ws]
theorem N9 (l:List Nat) (i v:Nat):(ws l).set i [.v (.int .u32 (v:Int))]=ws (l.set i v):=by
 simp [ws,wd,List.map_set]
theorem a3h (n:Nat):List.replicate n [C.v (.int .u32 0)]=ws (List.replicate n 0):=by simp [ws,wd]
theorem c6O (n:Nat) (h:n<=1099511627776):IntKind.i64.wrap (((n:Int)+3).tdiv 4)=(((n+3) / 4:Nat):Int):=by
 have:((n:Int)+3).tdiv 4=(((n+3) / 4:Nat):Int):=rfl
 rw [this,Eng.wrap_i64 (by omega)]
theorem c6I (i:Nat) (h:i<=1099511627776):IntKind.i64.wrap ((i:Int).tdiv 4)=((i / 4:Nat):Int):=by
 have:(i:Int).tdiv 4=((i / 4:Nat):Int):=rfl
 rw [this,Eng.wrap_i64 (by omega)]
theorem c6o (i:Nat):(i:Int).tmod 4=((i % 4:Nat):Int):=rfl
theorem c0I (o:Nat) (b:UInt8) (i:Nat) (ho:o < 4294967296) (hb:b.toNat*2 ^ (8*(i % 4)) < 4294967296) :
  bits .or .u32 (o:Int) (IntKind.u32.wrap (IntKind.u32.wrap ((b.toNat:Nat):Int)*2 ^ min (((i % 4:Nat):Int)*8).toNat 32))=((o ||| b.toNat*2 ^ (8*(i % 4)):Nat):Int):=by
 have h0:=b.toNat_lt
 rw [Eng.wrap_u32 (n:=((b.toNat:Nat):Int)) (by omega),show min (((i % 4:Nat):Int)*8).toNat 32=8*(i % 4) by omega]
 have e:((b.toNat:Nat):Int)*2 ^ (8*(i % 4))=((b.toNat*2 ^ (8*(i % 4)):Nat):Int):=by rw [Int.natCast_mul,Int.natCast_pow];rfl
 rw [e,Eng.wrap_u32 (by omega),c1m _ _ ho hb]
theorem a2F (l:List UInt8) (hl:l.length<=1099511627776):FNew Tryz.prog 148 [sb l] 222 1 (ws (Nm.K3 l)):=by
 refine FNew.of (eff:=eff) Tryz.func148 (by cbv) (by exact c7z rfl) fun w O=>?_
 simp only [j5,TT,II,OA,OB,MM,VV,sb]
 have htl:=Nm.Y6 l
 have hend:=fun out h=>Nm.b4A (l:=l) (out:=out) h
 have ht:=a0v l hl
 generalize Nm.trim l=m at *
 have hm:m.length<=1099511627776:=by omega
 (repeat first|refine uA ?_|(apply uK;focus omega)|simp only [go_sem,Nat.reduceBEq,Nat.reduceAdd,F4]|simp (disch:=omega) only [ww,c6O m.length hm]|(apply uB ht;exact rfl))
 refine S.loop (X:=Nat × List Nat) (fun x=>⟨[(0,sb m),(3,.rv 0),(14,ints m.length),(15,ints x.1)],[.row 222 1 (ws x.2)]⟩) (fun x=>x.1<=m.length/\Nm.a5g m x.1 x.2) (fun x=>m.length-x.1) (0,List.replicate ((m.length+3) / 4) 0) ⟨c7n _,Nm.b3B m⟩ (by simp only [<- a3h];exact (by (repeat first|refine uA ?_|(refine ⟨?_,?_⟩;focus first|rfl|trivial|(simp [slot];done))|rfl|trivial|simp))) ?_
 rintro ⟨i,out⟩ ⟨hi,hinv⟩
 simp only [sb,ints] at hi hinv ⊢
 (repeat first|refine uA ?_|(apply uK;focus omega)|simp (disch:=omega) only [go_sem,Nat.reduceBEq])
 (refine uJ rfl (fun hc=>?_) fun hc=>?_)
 ·have hi':i < m.length:=by omega
  have hol:=hinv.1
  have hj:i / 4 < out.length:=by omega
  obtain ⟨hst,hlt,hbl⟩:=Nm.b3A hinv hi' hj
  have hgo:out[i / 4]?=some out[i / 4]:=c7h hj
  have ho32:=hinv.2.1 _ (c7x hj)
  have hgm:m.getD ((m.length:Int)-1-(i:Int)).toNat 0=m[m.length-1-i]:=by
   rw [show ((m.length:Int)-1-(i:Int)).toNat=m.length-1-i by omega,c7u,c7h (by omega)]
   rfl
  (repeat first|refine uA ?_|(apply uK;focus omega)|simp only [go_sem,Nat.reduceBEq,Nat.reduceAdd,Nat.reduceLeDiff,F4,a0m,D9,I8,hgo,c7j,c6I i (by omega),c6o,wd]|simp (disch:=omega) only [ww,hgm,c0I _ _ _ ho32 hbl,N9])
  refine S.next (x:=(i,out)) (i+1,_) ⟨hi',hst⟩ (by simp only;omega) (by (repeat first|refine uA ?_|(refine ⟨?_,?_⟩;focus first|rfl|trivial|(simp [slot];done))|rfl|trivial|simp))
 ·have hi':i=m.length:=by omega
  subst hi'
  (repeat first|refine uA ?_|(apply uK;focus omega)|simp (disch:=omega) only [go_sem,Nat.reduceBEq])
  rw [<- hend _ hinv]
  exact S.done (j3.new rfl rfl rfl)
theorem b4H (n k:Nat):IntKind.u8.wrap (Int.fdiv (n:Int) (k:Int))=(((Nm.oB (n / k)).toNat:Nat):Int):=a6I n k
theorem a7M (l:List UInt8) (i:Nat) (v:UInt8):(l.map G6).set i [.v (.int .u8 ((v.toNat:Nat):Int))]=(l.set i v).map G6:=by
 simp [G6,List.map_set]
theorem a3m (n:Nat):List.replicate n [C.v (.int .u8 0)]=(List.replicate n (0:UInt8)).map G6:=by simp [G6]
theorem a4G (l:List Nat) (hl:l.length<=274877906944) (hw:Nm.F9 l):A9 Tryz.prog 149 [.sl 1 (ws l)] (sb (Nm.enc (Nm.wv 4294967296 l))):=by
 refine kS b6i b6D (by rfl) fun w O=>?_
 simp only [a9n,j5,TT,II,OA,OB,MM,VV,sb]
 (repeat first|refine uA ?_|(apply uK;focus omega)|simp only [go_sem,Nat.reduceBEq,Nat.reduceAdd,D9]|simp (disch:=omega) only [ww])
 refine S.loop (X:=Nat × List UInt8) (fun x=>⟨[(0,.sl 1 (ws l)),(3,.rv 0),(11,.sl 1 (ws l)),(12,ints l.length),(13,ints x.1)],[.row 5 1 (x.2.map G6)]⟩) (fun x=>x.1<=l.length/\Nm.a6f l x.1 x.2) (fun x=>l.length-x.1) (0,List.replicate (4*l.length) 0) ⟨c7n _,Nm.b5h l⟩ (by simp only [<- a3m];exact (by (repeat first|refine uA ?_|(refine ⟨?_,?_⟩;focus first|rfl|trivial|(simp [slot];done))|rfl|trivial|simp))) ?_
 rintro ⟨i,b⟩ ⟨hi,hinv⟩
 simp only [ints] at hi hinv ⊢
 have hbl:=hinv.1
 (repeat first|refine uA ?_|(apply uK;focus omega)|simp (disch:=omega) only [go_sem,Nat.reduceBEq])
 (refine uJ rfl (fun hc=>?_) fun hc=>?_)
 ·have hi':i < l.length:=by omega
  have hgl:l[i]?=some l[i]:=c7h hi'
  have hw32:=hw _ (c7x hi')
  have hk:(l.length:Int)-1-(i:Int)=((l.length-1-i:Nat):Int):=by omega
  have hst:=Nm.b5k hinv hi' hw32 (Nm.a2c (l[i] / 16777216)) (Nm.a2c (l[i] / 65536)) (Nm.a2c (l[i] / 256)) (Nm.a2c l[i])
  have w1:IntKind.u8.wrap ((l[i]:Int).fdiv 16777216)=(((Nm.oB (l[i] / 16777216)).toNat:Nat):Int):=b4H l[i] 16777216
  have w2:IntKind.u8.wrap ((l[i]:Int).fdiv 65536)=(((Nm.oB (l[i] / 65536)).toNat:Nat):Int):=b4H l[i] 65536
  have w3:IntKind.u8.wrap ((l[i]:Int).fdiv 256)=(((Nm.oB (l[i] / 256)).toNat:Nat):Int):=b4H l[i] 256
  have w4:IntKind.u8.wrap (l[i]:Int)=(((Nm.oB l[i]).toNat:Nat):Int):=by rw [a2a,Nm.a2c]
  generalize Nm.oB (l[i] / 16777216)=x0 at *
  generalize Nm.oB (l[i] / 65536)=x1 at *
  generalize Nm.oB (l[i] / 256)=x2 at *
  generalize Nm.oB l[i]=x3 at *
  generalize hkk:l.length-1-i=k at *
  have n0:(4*(k:Int)).toNat=4*k:=by omega
  have n1:(4*(k:Int)+1).toNat=4*k+1:=by omega
  have n2:(4*(k:Int)+2).toNat=4*k+2:=by omega
  have n3:(4*(k:Int)+3).toNat=4*k+3:=by omega
  have g0:b[4*k]?=some b[4*k]:=c7h (by omega)
  have g1:(b.set (4*k) x0)[4*k+1]?=some _:=c7h (by simp;omega)
  have g2:((b.set (4*k) x0).set (4*k+1) x1)[4*k+2]?=some _:=c7h (by simp;omega)
  have g3:(((b.set (4*k) x0).set (4*k+1) x1).set (4*k+2) x2)[4*k+3]?=some _:=c7h (by simp;omega)
  (repeat first|refine uA ?_|(apply uK;focus omega)|simp only [go_sem,Nat.reduceBEq,Nat.reduceAdd,Nat.reduceLeDiff,Int.reducePow,D9,I8,hgl,c7j,wd,w1,w2,w3,w4,g1,g2,g3,a7M,G6,c7W,c7r]|simp (disch:=omega) only [ww,c7j,hk,n0,n1,n2,n3,g0,G6])
  refine S.next (x:=(i,b)) (i+1,_) ⟨hi',hst⟩ (by simp only;omega) (by (repeat first|refine uA ?_|(refine ⟨?_,?_⟩;focus first|rfl|trivial|(simp [slot];done))|rfl|trivial|simp))
 ·have hi':i=l.length:=by omega
  subst hi'
  have hend:=Nm.b6c hinv
  (repeat first|refine uA ?_|(apply uK;focus omega)|simp only [go_sem,Nat.reduceBEq,a0t,a6S,hend]|simp (disch:=omega) only [ww,a0t,a6S,hend]|(apply uB (a0v b (by omega));exact rfl))
  exact S.done (j3.out rfl (Imp.refl rfl) rfl)
theorem a3E (n:Nat):IntKind.u32.wrap (n:Int)=((n % 4294967296:Nat):Int):=b5J n
theorem a2e (n:Nat):Int.fdiv (n:Int) 4294967296=((n / 4294967296:Nat):Int):=a2w n 4294967296
theorem f_add (a b:List UInt8) (ha:a.length<=549755813888) (hb:b.length<=549755813888):A9 Tryz.prog 116 [sb a,sb b] (sb (Nm.enc (Nm.val a+Nm.val b))):=by
 refine kS b7W b8b (by rfl) fun w O=>?_
 simp only [b1d,j5,TT,II,OA,OB,OC,MM,VV,MG,sb]
 have hta:=Nm.Y6 a
 have htb:=Nm.Y6 b
 have hva:=Nm.R4 a
 have hvb:=Nm.R4 b
 have hla:=Nm.X7 (Nm.trim a)
 have hlb:=Nm.X7 (Nm.trim b)
 have hwa:=Nm.a0s (Nm.trim a)
 have hwb:=Nm.a0s (Nm.trim b)
 have h3a:=Nm.a0o (Nm.trim a)
 have h3b:=Nm.a0o (Nm.trim b)
 have fta:=a0v a (by omega)
 have ftb:=a0v b (by omega)
 rw [Nm.a8h] at hla hlb
 generalize Nm.trim a=x at *
 generalize Nm.trim b=y at *
 (repeat first|refine uA ?_|(apply uK;focus omega)|simp (disch:=omega) only [go_sem,Nat.reduceBEq,Nat.reduceAdd,F4]|(apply uB fta;exact rfl)|(apply uB ftb;exact rfl))
 (refine uJ rfl (fun hc=>?_) fun hc=>?_)
 ·obtain ⟨h1,h2⟩:=hc
  have hx:=Nm.a0r (l:=x) (k:=7) (by omega)
  have hy:=Nm.a0r (l:=y) (k:=7) (by omega)
  have e1:Nm.val x % 18446744073709551616=Nm.val x:=Nat.mod_eq_of_lt (by omega)
  have e2:Nm.val y % 18446744073709551616=Nm.val y:=Nat.mod_eq_of_lt (by omega)
  have fx:=a1R x (by omega)
  have fy:=a1R y (by omega)
  rw [e1] at fx
  rw [e2] at fy
  have hf:=a0z (Nm.val x+Nm.val y) (by omega)
  rw [<- hva,<- hvb]
  (repeat first|refine uA ?_|(apply uK;focus omega)|simp (disch:=omega) only [go_sem,Nat.reduceBEq,ww]|(apply uB fx;exact rfl)|(apply uB fy;exact rfl)|(apply uB hf;exact rfl))
  exact S.done (j3.out rfl (Imp.refl rfl) rfl)
 ·have hwx:=(a2F x (by omega)).spec
  have hwy:=(a2F y (by omega)).spec
  rw [<- hva,<- hvb,<- hwa,<- hwb]
  generalize Nm.K3 x=p at *
  generalize Nm.K3 y=q at *
  (repeat first|refine uA ?_|(apply uK;focus omega)|simp (disch:=omega) only [go_sem,Nat.reduceBEq,D9]|(apply uB hwx;exact rfl)|(apply uB hwy;exact rfl))
  have hpl:p.length<=137438953472:=by omega
  have hql:q.length<=137438953472:=by omega
  have key:∀ (x y out:List Nat) (i c:Nat),Nm.a4f x y i out c->i < x.length->(∀ w ∈ x,w < 4294967296)->(∀ w ∈ y,w < 4294967296)->∀ s,s=c+x.getD i 0+y.getD i 0->Nm.a4f x y (i+1) (out.set i (s % 4294967296)) (s / 4294967296):=fun x y out i c h hi hx hy s hs=>by
   rw [Nm.getD_lt hi] at hs
   refine Nm.b6T h hi (hx _ (c7x hi)) ?_ hs
   rcases c7D i y.length with h1|h1
   ·rw [Nm.getD_lt h1];exact hy _ (c7x h1)
   ·rw [c7u,c7J h1];decide
  refine S.cond rfl (fun hc=>?_) (fun hc=>?_)
  all_goals simp only [c7v,c7H] at hc
  all_goals clear hwx hwy fta ftb
  ·rw [Nat.add_comm]
   generalize hP:q=P at *
   generalize hQ:p=Q at *
   have hle:Q.length<=P.length:=by omega
   have hPl:P.length<=137438953472:=by omega
   have hP3:∀ w ∈ P,w < 4294967296:=h3b
   have hQ3:∀ w ∈ Q,w < 4294967296:=h3a
   clear hP hQ hwa hwb hc
   (repeat first|refine uA ?_|(apply uK;focus omega)|simp (disch:=omega) only [go_sem,Nat.reduceBEq,ww,D9])
   have hn1:((P.length:Int)+1).toNat=P.length+1:=by omega
   refine S.loop (X:=Nat × List Nat × Nat) (fun x=>⟨[(5,.sl 1 (ws P)),(6,.sl 1 (ws Q)),(7,.rv 0),(8,.v (.int .u64 (x.2.2:Int))),(44,.sl 1 (ws P)),(45,ints P.length),(46,ints x.1)],[.row 222 1 (ws x.2.1)]⟩) (fun x=>x.1<=P.length/\Nm.a4f P Q x.1 x.2.1 x.2.2) (fun x=>P.length-x.1) (0,List.replicate (P.length+1) 0,0) ⟨c7n _,Nm.a9f P Q⟩ (by simp only [<- a3h];rw [hn1];exact (by (repeat first|refine uA ?_|(refine ⟨?_,?_⟩;focus first|rfl|trivial|(simp [slot];done))|rfl|trivial|simp))) ?_
   rintro ⟨i,out,c⟩ ⟨hi,hinv⟩
   simp only [ints] at hi hinv ⊢
   have hol:=hinv.1
   have hc1:=hinv.2.2.1
   (repeat first|refine uA ?_|(apply uK;focus omega)|simp (disch:=omega) only [go_sem,Nat.reduceBEq])
   (refine uJ rfl (fun hc=>?_) fun hc=>?_)
   ·have hi':i < P.length:=by omega
    have hgp:P[i]?=some P[i]:=c7h hi'
    have hp32:=hP3 _ (c7x hi')
    have hk:=key P Q out i c hinv hi' hP3 hQ3
    rw [Nm.getD_lt hi'] at hk
    have hgo:out[i]?=some out[i]:=c7h (by omega)
    generalize P[i]=pi at *
    (repeat first|refine uA ?_|(apply uK;focus omega)|simp (disch:=omega) only [go_sem,Nat.reduceBEq,ww,D9,I8,hgp,c7j,wd])
    (refine uJ rfl (fun hc=>?_) fun hc=>?_)
    ·have hi2:i < Q.length:=by omega
     have hgq:Q[i]?=some Q[i]:=c7h hi2
     have hq32:=hQ3 _ (c7x hi2)
     rw [Nm.getD_lt hi2] at hk
     generalize Q[i]=qi at *
     obtain ⟨s,hs⟩:∃ s:Nat,s=c+pi+qi:=⟨_,rfl⟩
     have hs':(c:Int)+(pi:Int)+(qi:Int)=(s:Int):=by omega
     have hk:=hk s hs
     (repeat first|refine uA ?_|(apply uK;focus omega)|simp (disch:=omega) only [go_sem,Nat.reduceBEq,Nat.reduceAdd,Nat.reduceLeDiff,Int.reducePow,ww,D9,I8,hgq,hgo,c7j,wd,hs',a3E,a2e,N9])
     refine S.next (x:=(i,out,c)) (i+1,_,_) ⟨hi',hk⟩ (by simp only;omega) (by (repeat first|refine uA ?_|(refine ⟨?_,?_⟩;focus first|rfl|trivial|(simp [slot];done))|rfl|trivial|simp))
    ·have hq0:Q.getD i 0=0:=by rw [c7u,c7J (by omega)];rfl
     rw [hq0,Nat.add_zero] at hk
     obtain ⟨s,hs⟩:∃ s:Nat,s=c+pi:=⟨_,rfl⟩
     have hs':(c:Int)+(pi:Int)=(s:Int):=by omega
     have hk:=hk s hs
     (repeat first|refine uA ?_|(apply uK;focus omega)|simp (disch:=omega) only [go_sem,Nat.reduceBEq,Nat.reduceAdd,Nat.reduceLeDiff,Int.reducePow,ww,D9,I8,hgo,c7j,wd,hs',a3E,a2e,N9])
     refine S.next (x:=(i,out,c)) (i+1,_,_) ⟨hi',hk⟩ (by simp only;omega) (by (repeat first|refine uA ?_|(refine ⟨?_,?_⟩;focus first|rfl|trivial|(simp [slot];done))|rfl|trivial|simp))
   ·have hi':i=P.length:=by omega
    subst hi'
    obtain ⟨he,h32⟩:=Nm.b0A hinv hle
    have hgo:out[P.length]?=some out[P.length]:=c7h (by omega)
    rw [<- he]
    have ht:=a4G (out.set P.length c) (by rw [c7W];omega) h32
    (repeat first|refine uA ?_|(apply uK;focus omega)|simp (disch:=omega) only [go_sem,Nat.reduceBEq,ww,D9,I8,hgo,c7j,wd,N9]|(apply uC ht;exact rfl;focus (repeat' first|exact j4.nil|exact Imp.refl rfl|exact Imp.frz rfl rfl rfl|(refine Imp.V5 rfl rfl ?_ ?_;(focus ((try simp only [c7t,D9,I8,hgo,c7j,wd,N9]);omega));(focus first|rfl|assumption))|refine j4.cons ?_ ?_);done))
    exact S.done (j3.out rfl (Imp.refl rfl) rfl)
  ·generalize hP:p=P at *
   generalize hQ:q=Q at *
   have hle:Q.length<=P.length:=by omega
   have hPl:P.length<=137438953472:=by omega
   have hP3:∀ w ∈ P,w < 4294967296:=h3a
   have hQ3:∀ w ∈ Q,w < 4294967296:=h3b
   clear hP hQ hwa hwb hc
   (repeat first|refine uA ?_|(apply uK;focus omega)|simp (disch:=omega) only [go_sem,Nat.reduceBEq,ww,D9])
   have hn1:((P.length:Int)+1).toNat=P.length+1:=by omega
   refine S.loop (X:=Nat × List Nat × Nat) (fun x=>⟨[(5,.sl 1 (ws P)),(6,.sl 1 (ws Q)),(7,.rv 0),(8,.v (.int .u64 (x.2.2:Int))),(44,.sl 1 (ws P)),(45,ints P.length),(46,ints x.1)],[.row 222 1 (ws x.2.1)]⟩) (fun x=>x.1<=P.length/\Nm.a4f P Q x.1 x.2.1 x.2.2) (fun x=>P.length-x.1) (0,List.replicate (P.length+1) 0,0) ⟨c7n _,Nm.a9f P Q⟩ (by simp only [<- a3h];rw [hn1];exact (by (repeat first|refine uA ?_|(refine ⟨?_,?_⟩;focus first|rfl|trivial|(simp [slot];done))|rfl|trivial|simp))) ?_
   rintro ⟨i,out,c⟩ ⟨hi,hinv⟩
   simp only [ints] at hi hinv ⊢
   have hol:=hinv.1
   have hc1:=hinv.2.2.1
   (repeat first|refine uA ?_|(apply uK;focus omega)|simp (disch:=omega) only [go_sem,Nat.reduceBEq])
   (refine uJ rfl (fun hc=>?_) fun hc=>?_)
   ·have hi':i < P.length:=by omega
    have hgp:P[i]?=some P[i]:=c7h hi'
    have hp32:=hP3 _ (c7x hi')
    have hk:=key P Q out i c hinv hi' hP3 hQ3
    rw [Nm.getD_lt hi'] at hk
    have hgo:out[i]?=some out[i]:=c7h (by omega)
    generalize P[i]=pi at *
    (repeat first|refine uA ?_|(apply uK;focus omega)|simp (disch:=omega) only [go_sem,Nat.reduceBEq,ww,D9,I8,hgp,c7j,wd])
    (refine uJ rfl (fun hc=>?_) fun hc=>?_)
    ·have hi2:i < Q.length:=by omega
     have hgq:Q[i]?=some Q[i]:=c7h hi2
     have hq32:=hQ3 _ (c7x hi2)
     rw [Nm.getD_lt hi2] at hk
     generalize Q[i]=qi at *
     obtain ⟨s,hs⟩:∃ s:Nat,s=c+pi+qi:=⟨_,rfl⟩
     have hs':(c:Int)+(pi:Int)+(qi:Int)=(s:Int):=by omega
     have hk:=hk s hs
     (repeat first|refine uA ?_|(apply uK;focus omega)|simp (disch:=omega) only [go_sem,Nat.reduceBEq,Nat.reduceAdd,Nat.reduceLeDiff,Int.reducePow,ww,D9,I8,hgq,hgo,c7j,wd,hs',a3E,a2e,N9])
     refine S.next (x:=(i,out,c)) (i+1,_,_) ⟨hi',hk⟩ (by simp only;omega) (by (repeat first|refine uA ?_|(refine ⟨?_,?_⟩;focus first|rfl|trivial|(simp [slot];done))|rfl|trivial|simp))
    ·have hq0:Q.getD i 0=0:=by rw [c7u,c7J (by omega)];rfl
     rw [hq0,Nat.add_zero] at hk
     obtain ⟨s,hs⟩:∃ s:Nat,s=c+pi:=⟨_,rfl⟩
     have hs':(c:Int)+(pi:Int)=(s:Int):=by omega
     have hk:=hk s hs
     (repeat first|refine uA ?_|(apply uK;focus omega)|simp (disch:=omega) only [go_sem,Nat.reduceBEq,Nat.reduceAdd,Nat.reduceLeDiff,Int.reducePow,ww,D9,I8,hgo,c7j,wd,hs',a3E,a2e,N9])
     refine S.next (x:=(i,out,c)) (i+1,_,_) ⟨hi',hk⟩ (by simp only;omega) (by (repeat first|refine uA ?_|(refine ⟨?_,?_⟩;focus first|rfl|trivial|(simp [slot];done))|rfl|trivial|simp))
   ·have hi':i=P.length:=by omega
    subst hi'
    obtain ⟨he,h32⟩:=Nm.b0A hinv hle
    have hgo:out[P.length]?=some out[P.length]:=c7h (by omega)
    rw [<- he]
    have ht:=a4G (out.set P.length c) (by rw [c7W];omega) h32
    (repeat first|refine uA ?_|(apply uK;focus omega)|simp (disch:=omega) only [go_sem,Nat.reduceBEq,ww,D9,I8,hgo,c7j,wd,N9]|(apply uC ht;exact rfl;focus (repeat' first|exact j4.nil|exact Imp.refl rfl|exact Imp.frz rfl rfl rfl|(refine Imp.V5 rfl rfl ?_ ?_;(focus ((try simp only [c7t,D9,I8,hgo,c7j,wd,N9]);omega));(focus first|rfl|assumption))|refine j4.cons ?_ ?_);done))
    exact S.done (j3.out rfl (Imp.refl rfl) rfl)
theorem a9J (p q c:Nat) (hp:p < 4294967296) (hq:q < 4294967296) (hc:c<=1):∃ t c':Nat,IntKind.u32.wrap (IntKind.u64.wrap (IntKind.u64.wrap ((p:Int)-(c:Int))-(q:Int)))=(t:Int)/\Int.fdiv (IntKind.u64.wrap (IntKind.u64.wrap ((p:Int)-(c:Int))-(q:Int))) 9223372036854775808=(c':Int)/\t < 4294967296/\c'<=1/\t+c+q=p+4294967296*c':=by
 have h1:∀ n:Int,IntKind.u64.wrap n=n % 18446744073709551616:=fun n=>by simp [IntKind.wrap,IntKind.signed,IntKind.bits]
 have h2:∀ n:Int,IntKind.u32.wrap n=n % 4294967296:=fun n=>by simp [IntKind.wrap,IntKind.signed,IntKind.bits]
 rw [h1,h1,h2]
 by_cases h:c+q<=p
 ·refine ⟨p-c-q,0,by omega,?_,by omega,by omega,by omega⟩
  rw [show (((p:Int)-(c:Int)) % 18446744073709551616-(q:Int)) % 18446744073709551616=((p-c-q:Nat):Int) by omega]
  have:=a2w (p-c-q) 9223372036854775808
  rw [show ((9223372036854775808:Nat):Int)=9223372036854775808 from rfl] at this
  rw [this,Nat.div_eq_of_lt (by omega)]
 ·refine ⟨p+4294967296-c-q,1,by omega,?_,by omega,by omega,by omega⟩
  rw [show (((p:Int)-(c:Int)) % 18446744073709551616-(q:Int)) % 18446744073709551616=((p+18446744073709551616-c-q:Nat):Int) by omega]
  have:=a2w (p+18446744073709551616-c-q) 9223372036854775808
  rw [show ((9223372036854775808:Nat):Int)=9223372036854775808 from rfl] at this
  rw [this]
  congr 1
  omega
theorem b9C (p c:Nat) (hp:p < 4294967296) (hc:c<=1):∃ t c':Nat,IntKind.u32.wrap (IntKind.u64.wrap ((p:Int)-(c:Int)))=(t:Int)/\Int.fdiv (IntKind.u64.wrap ((p:Int)-(c:Int))) 9223372036854775808=(c':Int)/\t < 4294967296/\c'<=1/\t+c+0=p+4294967296*c':=by
 obtain ⟨t,c',h1,h2,h3⟩:=a9J p 0 c hp (by omega) hc
 have e:IntKind.u64.wrap (IntKind.u64.wrap ((p:Int)-(c:Int))-((0:Nat):Int))=IntKind.u64.wrap ((p:Int)-(c:Int)):=by
  have h1:∀ n:Int,IntKind.u64.wrap n=n % 18446744073709551616:=fun n=>by simp [IntKind.wrap,IntKind.signed,IntKind.bits]
  rw [h1,h1];omega
 rw [e] at h1 h2
 exact ⟨t,c',h1,h2,h3⟩
theorem c5u {E:Ctx} (hP:E.P=Tryz.prog) (xs ys:List Nat) (hl:xs.length<=274877906944) (hyl:ys.length<=xs.length) (hx:Nm.F9 xs) (hy:Nm.F9 ys) (hle:Nm.wv 4294967296 ys<=Nm.wv 4294967296 xs) :
  j6 E [.row 222 1 (ws xs)] 175 [.rv 0,.sl 1 (ws ys)] (.tup []) [.row 222 1 (ws (Nm.dig 4294967296 xs.length (Nm.wv 4294967296 xs-Nm.wv 4294967296 ys)))] []:=by
 obtain ⟨P,eff',N,w0,own0,av0,nu0,pk0⟩:=E
 simp only at hP
 subst hP
 refine j6.of (eff:=eff) Tryz.func175 (by cbv) (by exact c7z rfl) fun w own av ν hν=>?_
 simp only [j5,TT,II,OA,OB,MM,VV]
 have hν0:ν.length<=1:=by rw [hν];exact c7p _
 (repeat first|refine uA ?_|(apply uK;focus omega)|simp (disch:=omega) only [go_sem,Nat.reduceBEq,D9])
 refine S.loop (X:=Nat × List Nat × Nat) (fun x=>⟨[(0,.rv 0),(1,.sl 1 (ws ys)),(4,.v (.int .u64 (x.2.2:Int))),(8,.rv 0),(9,ints xs.length),(10,ints x.1)],[.row 222 1 (ws x.2.1)]⟩) (fun x=>x.1<=xs.length/\Nm.a7I xs ys x.1 x.2.1 x.2.2) (fun x=>xs.length-x.1) (0,xs,0) ⟨c7n _,Nm.b6V ys hx⟩ (Ent.mk _ _ (by (repeat first|refine uA ?_|(refine ⟨?_,?_⟩;focus first|rfl|trivial|(simp [slot];done))|rfl|trivial|simp)) (by (repeat first|refine uA ?_|(refine ⟨?_,?_⟩;focus first|rfl|trivial|(simp [slot];done))|rfl|trivial|simp)) hν0) ?_
 rintro ⟨i,out,c⟩ ⟨hi,hinv⟩
 simp only [ints] at hi hinv ⊢
 have hol:=hinv.1
 have hc1:=hinv.2.2.1
 (repeat first|refine uA ?_|(apply uK;focus omega)|simp (disch:=omega) only [go_sem,Nat.reduceBEq])
 (refine uJ rfl (fun hc=>?_) fun hc=>?_)
 ·have hi':i < xs.length:=by omega
  have hgp:xs[i]?=some xs[i]:=c7h hi'
  have hgo:out[i]?=some xs[i]:=by rw [Nm.a0x hinv.2.2.2.1,hgp]
  have hp32:=hx _ (c7x hi')
  have hk:=fun t c' h1 h2 h3=>Nm.b6s (t:=t) (c':=c') hinv hi' h1 h2 h3
  generalize xs[i]=pi at *
  (repeat first|refine uA ?_|(apply uK;focus omega)|simp (disch:=omega) only [go_sem,Nat.reduceBEq,ww,D9,I8,hgo,c7j,wd])
  (refine uJ rfl (fun hc=>?_) fun hc=>?_)
  ·have hi2:i < ys.length:=by omega
   have hgq:ys[i]?=some ys[i]:=c7h hi2
   have hq32:=hy _ (c7x hi2)
   rw [Nm.getD_lt hi2] at hk
   generalize ys[i]=qi at *
   obtain ⟨t,c',e1,e2,h1,h2,h3⟩:=a9J pi qi c hp32 hq32 hc1
   have hk:=hk t c' h1 h2 h3
   (repeat first|refine uA ?_|(apply uK;focus omega)|simp (disch:=omega) only [go_sem,Nat.reduceBEq,Nat.reduceAdd,Nat.reduceLeDiff,Int.reducePow,ww,D9,I8,hgq,hgo,c7j,wd,e1,e2,N9])
   refine S.next (x:=(i,out,c)) (i+1,_,_) ⟨hi',hk⟩ (by simp only;omega) (Ent.mk _ _ (by (repeat first|refine uA ?_|(refine ⟨?_,?_⟩;focus first|rfl|trivial|(simp [slot];done))|rfl|trivial|simp)) (by (repeat first|refine uA ?_|(refine ⟨?_,?_⟩;focus first|rfl|trivial|(simp [slot];done))|rfl|trivial|simp)) hν0)
  ·have hq0:ys.getD i 0=0:=by rw [c7u,c7J (by omega)];rfl
   rw [hq0] at hk
   obtain ⟨t,c',e1,e2,h1,h2,h3⟩:=b9C pi c hp32 hc1
   have hk:=hk t c' h1 h2 h3
   (repeat first|refine uA ?_|(apply uK;focus omega)|simp (disch:=omega) only [go_sem,Nat.reduceBEq,Nat.reduceAdd,Nat.reduceLeDiff,Int.reducePow,ww,D9,I8,hgo,c7j,wd,e1,e2,N9])
   refine S.next (x:=(i,out,c)) (i+1,_,_) ⟨hi',hk⟩ (by simp only;omega) (Ent.mk _ _ (by (repeat first|refine uA ?_|(refine ⟨?_,?_⟩;focus first|rfl|trivial|(simp [slot];done))|rfl|trivial|simp)) (by (repeat first|refine uA ?_|(refine ⟨?_,?_⟩;focus first|rfl|trivial|(simp [slot];done))|rfl|trivial|simp)) hν0)
 ·have hi':i=xs.length:=by omega
  subst hi'
  obtain ⟨he1,he2⟩:=Nm.b8S hinv hyl hle
  have hd:out=Nm.dig 4294967296 xs.length (Nm.wv 4294967296 xs-Nm.wv 4294967296 ys):=Nm.Y4 (by decide) hinv.2.1 hol (by omega)
  rw [<- hd]
  (repeat first|refine uA ?_|(apply uK;focus omega)|simp (disch:=omega) only [go_sem,Nat.reduceBEq,ww])
  exact S.end_ (j3.own rfl)
end Go.Proofs.YtgpegbfnlkidjaaGreatDoor
namespace Go.Proofs
open Go.Shelf
def Tryz.b6P:Go.Shelf.Ren:=⟨fun|133=>201|128=>193|n=>n,fun|51=>222|3=>3|4=>4|46=>223|5=>5|9=>9|n=>n,fun|n=>n⟩
theorem Tryz.c3s:Go.Proofs.Lays.n133 Tryz.prog Tryz.b6P:={
 mixed:=by kernel_rfl
 f128:=Tryz.func193.trans (congrArg some (by kernel_rfl))
 f133:=Tryz.func201.trans (congrArg some (by kernel_rfl))
 t3:=Tryz.underlying3
 a3:=Tryz.isAgg3
 z3:=Tryz.sizeOf3
 v3:=Tryz.zeroValue3
 t4:=Tryz.underlying4
 a4:=Tryz.isAgg4
 z4:=Tryz.sizeOf4
 v4:=Tryz.zeroValue4
 t5:=Tryz.underlying5
 a5:=Tryz.isAgg5
 z5:=Tryz.sizeOf5
 v5:=Tryz.zeroValue5
 t9:=Tryz.underlying9
 a9:=Tryz.isAgg9
 z9:=Tryz.sizeOf9
 v9:=Tryz.zeroValue9
 t46:=Tryz.underlying223
 a46:=Tryz.isAgg223
 z46:=Tryz.sizeOf223
 v46:=Tryz.zeroValue223
 t51:=Tryz.underlying222
 a51:=Tryz.isAgg222
 z51:=Tryz.sizeOf222
 v51:=Tryz.zeroValue222 }
theorem Tryz.bits_LeadingZeros32 (x:Int) (w:World) (h0:0<=x) (h1:x<=4294967295) :
  Calls Tryz.prog 201 #[.int .u32 x] w fun e w'=>e=.returned (.int .i64 (32-(Lib.bitLen x.toNat:Int)))/\w'=w:=Any.bits_LeadingZeros32 Tryz.c3s x w h0 h1
def Tryz.b6A:Go.Shelf.Ren:=⟨fun|106=>150|213=>177|265=>205|n=>n,fun|9=>9|3=>3|n=>n,fun|n=>n⟩
theorem Tryz.c3W:Go.Proofs.Lays.n106 Tryz.prog Tryz.b6A:={
 mixed:=by kernel_rfl
 f106:=Tryz.func150.trans (congrArg some (by kernel_rfl))
 f213:=Tryz.func177.trans (congrArg some (by kernel_rfl))
 f265:=Tryz.func205.trans (congrArg some (by kernel_rfl))
 t3:=Tryz.underlying3
 a3:=Tryz.isAgg3
 z3:=Tryz.sizeOf3
 v3:=Tryz.zeroValue3
 t9:=Tryz.underlying9
 a9:=Tryz.isAgg9
 z9:=Tryz.sizeOf9
 v9:=Tryz.zeroValue9 }
open Go.RowKit in
theorem Tryz.strings_Compare (a b:ByteArray) (w:World) :
  Calls Tryz.prog 150 #[.string a,.string b] w fun e w'=>e=.returned (.int .i64 (Lib.compareBytes a.data.toList b.data.toList))/\w'=w:=Any.strings_Compare Tryz.c3W a b w
end Go.Proofs
namespace Go.Proofs.YtgpegbfnlkidjaaGreatDoor
open Go Go.RowKit Eng
set_option maxRecDepth 10000
set_option maxHeartbeats 1000000
theorem a9c:∀ {a b:List UInt8},a.length=b.length->Lib.compareBytes a b=Nm.a0y (Nm.val a) (Nm.val b)
 | [],[],_=>rfl
 | [],_::_,h=>by cases h
 | _::_,[],h=>by cases h
 | x::a,y::b,h=>by
  simp only [c7A,Nat.add_right_cancel_iff] at h
  have ih:=a9c h
  have ha:=Nm.Y8 a
  have hb:=Nm.Y8 b
  rw [h] at ha
  simp only [Lib.compareBytes,ih,Nm.a0y,Nm.a0d,h,UInt8.lt_iff_toNat_lt]
  rcases Nat.lt_trichotomy x.toNat y.toNat with hl|hl|hl
  ·have:=c7M (256 ^ b.length) hl
   rw [Nat.succ_mul] at this
   rw [if_pos hl,if_pos (by omega)]
  ·rw [if_neg (by omega),if_neg (by omega),hl]
   repeat' split
   all_goals omega
  ·have:=c7M (256 ^ b.length) hl
   rw [Nat.succ_mul] at this
   rw [if_neg (by omega),if_pos hl,if_neg (by omega),if_neg (by omega)]
theorem b9u (a b:List UInt8):A9 Tryz.prog 150 [sb a,sb b] (ints (Lib.compareBytes a b)):=by
 intro O w vs hO hA
 simp only [FzL,sb,Fz] at hA
 obtain ⟨y,ys,rfl,rfl,z,zs,rfl,rfl,rfl⟩:=hA
 refine (Tryz.strings_Compare (bs a) (bs b) w).mono ?_
 rintro e w' ⟨rfl,rfl⟩
 exact ⟨_,rfl,Below.refl _ _,by simp only [ints,Fz,a0m]⟩
theorem b0v (a b:List UInt8) (ha:a.length<=1099511627776) (hb:b.length<=1099511627776):A9 Tryz.prog 102 [sb a,sb b] (ints (Nm.a0y (Nm.val a) (Nm.val b))):=by
 refine kS Tryz.func102 (by cbv) (by rfl) fun w O=>?_
 simp only [j5,TT,II,OA,MM,sb,ints]
 have fta:=a0v a ha
 have ftb:=a0v b hb
 have hca:=Nm.X5 a
 have hcb:=Nm.X5 b
 rw [<- Nm.R4 a,<- Nm.R4 b]
 generalize Nm.trim a=x at *
 generalize Nm.trim b=y at *
 (repeat first|refine uA ?_|(apply uK;focus first|omega|(intros;simp_all<;>omega))|simp (disch:=omega) only [go_sem,Nat.reduceBEq,Nat.reduceAdd,F4]|(apply uB fta;exact rfl)|(apply uB ftb;exact rfl))
 (refine uJ rfl (fun hc=>?_) fun hc=>?_)
 ·have:=Nm.a2Y hcb (a:=x) (by omega)
  have he:Nm.a0y (Nm.val x) (Nm.val y)=-1:=by unfold Nm.a0y;rw [if_pos this]
  rw [he]
  (repeat first|refine uA ?_|(apply uK;focus omega)|simp (disch:=omega) only [go_sem])
  exact S.done (j3.out rfl (Imp.refl rfl) rfl)
 (repeat first|refine uA ?_|(apply uK;focus omega)|simp (disch:=omega) only [go_sem,Nat.reduceBEq,F4])
 (refine uJ rfl (fun hc=>?_) fun hc=>?_)
 ·have:=Nm.a2Y hca (a:=y) (by omega)
  have he:Nm.a0y (Nm.val x) (Nm.val y)=1:=by unfold Nm.a0y;rw [if_neg (by omega),if_neg (by omega)]
  rw [he]
  (repeat first|refine uA ?_|(apply uK;focus omega)|simp (disch:=omega) only [go_sem])
  exact S.done (j3.out rfl (Imp.refl rfl) rfl)
 ·have hl:x.length=y.length:=by omega
  have fc:=b9u x y
  rw [a9c hl] at fc
  (repeat first|refine uA ?_|(apply uK;focus omega)|simp (disch:=omega) only [go_sem,Nat.reduceBEq]|(apply uB fc;exact rfl))
  exact S.done (j3.out rfl (Imp.refl rfl) rfl)
def H8 (a b:Nat):List UInt8:=if b<=a then Nm.enc (a-b) else []
def a4I (a b:Nat):Int:=if b<=a then 0 else 1
theorem b4n (a b:Nat):Nm.a0y a b < 0 <-> a < b:=by unfold Nm.a0y;repeat' split;all_goals omega
theorem c2S (a b:List UInt8) (ha:a.length<=549755813888) (hb:b.length<=549755813888):A9 Tryz.prog 143 [sb a,sb b] (.tup [sb (H8 (Nm.val a) (Nm.val b)),ints (a4I (Nm.val a) (Nm.val b))]):=by
  refine kS Tryz.func143 (by cbv) (by rfl) fun w O=>?_
  simp only [j5,TT,II,OA,MM,sb,ints]
  have hcn:=b4n (Nm.val a) (Nm.val b)
  (repeat first|refine uA ?_|(apply uK;focus first|omega|(intros;simp_all<;>omega))|simp (disch:=omega) only [go_sem,Nat.reduceBEq,Nat.reduceAdd]|(apply uB (b0v a b (by omega) (by omega));exact rfl))
  (refine uJ rfl (fun hc=>?_) fun hc=>?_)
  · have h1:=hcn.1 hc
    have e1:H8 (Nm.val a) (Nm.val b)=[]:=by unfold H8;rw [if_neg (by omega)]
    have e2:a4I (Nm.val a) (Nm.val b)=1:=by unfold a4I;rw [if_neg (by omega)]
    rw [e1,e2]
    (repeat first|refine uA ?_|(apply uK;focus omega)|simp (disch:=omega) only [go_sem])
    exact S.done (j3.out rfl (Imp.refl rfl) rfl)
  · have h1:Nm.val b<=Nm.val a:=by
      rcases c7D (Nm.val a) (Nm.val b) with h|h
      · exact absurd (hcn.2 h) hc
      · exact h
    have e1:H8 (Nm.val a) (Nm.val b)=Nm.enc (Nm.val a-Nm.val b):=by unfold H8;rw [if_pos h1]
    have e2:a4I (Nm.val a) (Nm.val b)=0:=by unfold a4I;rw [if_pos h1]
    rw [e1,e2]
    have hta:=Nm.Y6 a
    have htb:=Nm.Y6 b
    have hla:=Nm.X7 a
    have hlb:=Nm.X7 b
    have hwa:=Nm.a0s a
    have hwb:=Nm.a0s b
    have h3a:=Nm.a0o a
    have h3b:=Nm.a0o b
    have fwa:=a2F a (by omega)
    have fwb:=(a2F b (by omega)).spec
    have hle:(Nm.K3 b).length<=(Nm.K3 a).length:=by
      rcases c7D (Nm.K3 a).length (Nm.K3 b).length with h|h
      · exfalso
        have h2:=Nm.a7U b (fun e=>by rw [e] at h;simp at h)
        have h3:=Nm.L9 4294967296 h3a
        have h4:4294967296 ^ (Nm.K3 a).length<=4294967296 ^ ((Nm.K3 b).length-1):=c7N (by decide) (by omega)
        omega
      · exact h
    have h1w:Nm.wv 4294967296 (Nm.K3 b)<=Nm.wv 4294967296 (Nm.K3 a):=by rw [hwa,hwb];exact h1
    rw [<- hwa,<- hwb]
    clear hwa hwb h1 hc hcn e1 e2
    generalize Nm.K3 a=p at *
    generalize Nm.K3 b=q at *
    have hd1:Nm.wv 4294967296 (Nm.dig 4294967296 p.length (Nm.wv 4294967296 p-Nm.wv 4294967296 q))=Nm.wv 4294967296 p-Nm.wv 4294967296 q:=by
      refine Nm.X9 ?_
      have:=Nm.L9 4294967296 h3a
      omega
    have ft:=a4G (Nm.dig 4294967296 p.length (Nm.wv 4294967296 p-Nm.wv 4294967296 q)) (by rw [Nm.K4];omega) (Nm.a0Y (by decide) _ _)
    rw [hd1] at ft
    (repeat first|refine uA ?_|(apply uK;focus omega)|simp (disch:=omega) only [go_sem,Nat.reduceBEq]|refine l9.t (FNew.t fwa rfl) ?_|refine l9.t (c5u rfl p q (by omega) hle h3a h3b h1w) ?_|(apply uB fwb;exact rfl)|(apply uC ft;exact rfl;focus (repeat' first|exact j4.nil|exact Imp.refl rfl|exact Imp.frz rfl rfl rfl|(refine Imp.V5 rfl rfl ?_ ?_;(focus ((try simp only [c7t]);omega));(focus first|rfl|assumption))|refine j4.cons ?_ ?_);done))
    exact S.done (j3.out rfl (Imp.refl rfl) rfl)
theorem a3J (a b:List UInt8) (ha:a.length<=274877906944) (hb:b.length<=274877906944):A9 Tryz.prog 101 [sb a,sb b] (sb (Nm.enc (Nm.val a*Nm.val b))):=by
 refine kS b7N b7Q (by rfl) fun w O=>?_
 simp only [b1k,j5,TT,II,OA,OB,MM,VV,sb]
 have hta:=Nm.Y6 a
 have htb:=Nm.Y6 b
 have hva:=Nm.R4 a
 have hvb:=Nm.R4 b
 have hla:=Nm.X7 (Nm.trim a)
 have hlb:=Nm.X7 (Nm.trim b)
 have hwa:=Nm.a0s (Nm.trim a)
 have hwb:=Nm.a0s (Nm.trim b)
 have h3a:=Nm.a0o (Nm.trim a)
 have h3b:=Nm.a0o (Nm.trim b)
 have fta:=a0v a (by omega)
 have ftb:=a0v b (by omega)
 rw [Nm.a8h] at hla hlb
 rw [<- hva,<- hvb]
 clear hva hvb
 generalize Nm.trim a=x at *
 generalize Nm.trim b=y at *
 (repeat first|refine uA ?_|(apply uK;focus omega)|simp (disch:=omega) only [go_sem,Nat.reduceBEq,Nat.reduceAdd,ww,F4]|(apply uB fta;exact rfl)|(apply uB ftb;exact rfl))
 (refine uJ rfl (fun hc=>?_) fun hc=>?_)
 ·have hx:=Nm.Y8 x
  have hy:=Nm.Y8 y
  have hp:Nm.val x*Nm.val y < 18446744073709551616:=by
   refine c7L (Nat.mul_lt_mul'' hx hy) ?_
   rw [<- Nat.pow_add,show 18446744073709551616=256 ^ 8 by decide]
   exact c7N (by decide) (by omega)
  have fx:=a1R x (by omega)
  have fy:=a1R y (by omega)
  have hx7:=Nm.a0r (l:=x) (k:=8) (by omega)
  have hy7:=Nm.a0r (l:=y) (k:=8) (by omega)
  have e1:Nm.val x % 18446744073709551616=Nm.val x:=Nat.mod_eq_of_lt (by omega)
  have e2:Nm.val y % 18446744073709551616=Nm.val y:=Nat.mod_eq_of_lt (by omega)
  rw [e1] at fx
  rw [e2] at fy
  have hf:=a0z (Nm.val x*Nm.val y) hp
  have hm:IntKind.u64.wrap ((Nm.val x:Int)*(Nm.val y:Int))=((Nm.val x*Nm.val y:Nat):Int):=by
   rw [Eng.wrap_u64]
   ·simp
   ·rw [<- Int.natCast_mul];omega
  (repeat first|refine uA ?_|(apply uK;focus omega)|simp (disch:=omega) only [go_sem,Nat.reduceBEq,hm]|(apply uB fx;exact rfl)|(apply uB fy;exact rfl)|(apply uB hf;exact rfl))
  exact S.done (j3.out rfl (Imp.refl rfl) rfl)
 ·have hwx:=(a2F x (by omega)).spec
  have hwy:=(a2F y (by omega)).spec
  rw [<- hwa,<- hwb]
  clear hwa hwb fta ftb hc
  generalize Nm.K3 x=p at *
  generalize Nm.K3 y=q at *
  have hpl:p.length<=68719476737:=by omega
  have hql:q.length<=68719476737:=by omega
  (repeat first|refine uA ?_|(apply uK;focus omega)|simp (disch:=omega) only [go_sem,Nat.reduceBEq,ww,D9]|(apply uB hwx;exact rfl)|(apply uB hwy;exact rfl))
  have hn1:((p.length:Int)+(q.length:Int)).toNat=p.length+q.length:=by omega
  clear hwx hwy
  refine S.loop (X:=Nat × List Nat) (fun x=>⟨[(5,.sl 1 (ws p)),(6,.sl 1 (ws q)),(7,.rv 0),(39,.sl 1 (ws p)),(40,ints p.length),(41,ints x.1)],[.row 222 1 (ws x.2)]⟩) (fun x=>x.1<=p.length/\Nm.a7Z p q x.1 x.2) (fun x=>p.length-x.1) (0,List.replicate (p.length+q.length) 0) ⟨c7n _,Nm.b6M p q⟩ (by simp only [<- a3h];rw [hn1];exact (by (repeat first|refine uA ?_|(refine ⟨?_,?_⟩;focus first|rfl|trivial|(simp [slot];done))|rfl|trivial|simp))) ?_
  rintro ⟨i,out0⟩ ⟨hi,hinv⟩
  simp only [ints] at hi hinv ⊢
  have hol:=hinv.1
  (repeat first|refine uA ?_|(apply uK;focus omega)|simp (disch:=omega) only [go_sem,Nat.reduceBEq])
  (refine uJ rfl (fun hc=>?_) fun hc=>?_)
  ·have hi':i < p.length:=by omega
   have hgp:p[i]?=some p[i]:=c7h hi'
   have hp32:=h3a _ (c7x hi')
   (repeat first|refine uA ?_|(apply uK;focus omega)|simp (disch:=omega) only [go_sem,Nat.reduceBEq,D9,I8,hgp,c7j,wd])
   refine S.loop (X:=Nat × List Nat × Nat) (fun x=>⟨[(5,.sl 1 (ws p)),(6,.sl 1 (ws q)),(7,.rv 0),(39,.sl 1 (ws p)),(40,ints p.length),(41,ints i),(8,ints i),(9,.v (.int .u32 (p[i]:Int))),(10,.v (.int .u64 (x.2.2:Int))),(46,.sl 1 (ws q)),(47,ints q.length),(48,ints x.1)],[.row 222 1 (ws x.2.1)]⟩) (fun x=>x.1<=q.length/\Nm.b0l p q i x.1 x.2.1 x.2.2) (fun x=>q.length-x.1) (0,out0,0) ⟨c7n _,Nm.b7M hinv⟩ (by (repeat first|refine uA ?_|(refine ⟨?_,?_⟩;focus first|rfl|trivial|(simp [slot];done))|rfl|trivial|simp)) ?_
   clear hinv hol
   rintro ⟨k,out,c⟩ ⟨hk,hinv⟩
   simp only [ints] at hk hinv ⊢
   have hol:=hinv.1
   have hc1:=hinv.2.2.1
   (repeat first|refine uA ?_|(apply uK;focus omega)|simp (disch:=omega) only [go_sem,Nat.reduceBEq])
   (refine uJ rfl (fun hc=>?_) fun hc=>?_)
   ·have hk':k < q.length:=by omega
    have hgq:q[k]?=some q[k]:=c7h hk'
    have hq32:=h3b _ (c7x hk')
    have hgo:out[i+k]?=some (out[i+k]'(by omega)):=c7h (by omega)
    have ho32:=hinv.2.1 _ (c7x (show i+k < out.length by omega))
    obtain ⟨hs,hsb⟩:=Nm.b9a hinv hi' hk' hp32 hq32 (by omega) rfl
    generalize hP:p[i]=pi at *
    generalize q[k]=qk at *
    generalize hO:out[i+k]'(by omega)=o at *
    obtain ⟨m,hm⟩:∃ m:Nat,m=pi*qk:=⟨_,rfl⟩
    have hm':(pi:Int)*(qk:Int)=(m:Int):=by rw [hm];simp
    rw [<- hm] at hs hsb
    have hs':(c:Int)+((m:Int)+(o:Int))=((c+m+o:Nat):Int):=by omega
    have hik:((i:Int)+(k:Int)).toNat=i+k:=by omega
    (repeat first|refine uA ?_|(apply uK;focus omega)|simp (disch:=omega) only [go_sem,Nat.reduceBEq,Nat.reduceAdd,Nat.reduceLeDiff,Int.reducePow,ww,D9,I8,hgq,hgo,c7j,wd,hm',hs',hik,a3E,a2e,N9])
    refine S.next (x:=(k,out,c)) (k+1,_,_) ⟨hk',hs⟩ (by simp only;omega) (by (repeat first|refine uA ?_|(refine ⟨?_,?_⟩;focus first|rfl|trivial|(simp [slot];done))|rfl|trivial|simp))
   ·have hk':k=q.length:=by omega
    subst hk'
    have he:=Nm.c0J hinv hi'
    have hik:((i:Int)+(q.length:Int)).toNat=i+q.length:=by omega
    have hgo:out[i+q.length]?=some (out[i+q.length]'(by omega)):=c7h (by omega)
    (repeat first|refine uA ?_|(apply uK;focus omega)|simp (disch:=omega) only [go_sem,Nat.reduceBEq,ww,D9,I8,hgo,c7j,wd,hik,N9])
    refine S.next (x:=(i,out0)) (i+1,_) ⟨hi',he⟩ (by simp only;omega) (by (repeat first|refine uA ?_|(refine ⟨?_,?_⟩;focus first|rfl|trivial|(simp [slot];done))|rfl|trivial|simp))
  ·have hi':i=p.length:=by omega
   subst hi'
   have he:=Nm.b8I hinv
   rw [<- he]
   have ht:=a4G out0 (by omega) hinv.2.1
   (repeat first|refine uA ?_|(apply uK;focus omega)|simp (disch:=omega) only [go_sem,Nat.reduceBEq]|(apply uC ht;exact rfl;focus (repeat' first|exact j4.nil|exact Imp.refl rfl|exact Imp.frz rfl rfl rfl|(refine Imp.V5 rfl rfl ?_ ?_;(focus ((try simp only [c7t]);omega));(focus first|rfl|assumption))|refine j4.cons ?_ ?_);done))
   exact S.done (j3.out rfl (Imp.refl rfl) rfl)
theorem b7I (x r:Nat) (h:x*2 ^ r < 18446744073709551616) (hr:r < 64):IntKind.u64.wrap ((x:Int)*2 ^ min r 64)=((x*2 ^ r:Nat):Int):=by
 rw [show min r 64=r by omega,Eng.wrap_u64]
 ·simp
 ·have e:(x:Int)*2 ^ r=((x*2 ^ r:Nat):Int):=by simp
  rw [e];omega
theorem b9N (o n:Nat) (ho:o < 4294967296):bits .or .u32 (o:Int) (((n % 4294967296:Nat)):Int)=((o ||| n % 4294967296:Nat):Int):=c1m _ _ ho (Nat.mod_lt _ (by decide))
theorem b9W (x:List Nat) (r:Nat) (hl:x.length<=274877906940) (hx:Nm.F9 x) (hr:r < 32):FNew Tryz.prog 202 [.sl 1 (ws x),ints r] 222 1 (ws (Nm.dig 4294967296 (x.length+1) (Nm.wv 4294967296 x*2 ^ r))):=by
 refine FNew.of (eff:=eff) Tryz.func202 (by cbv) (by exact c7z rfl) fun w O=>?_
 simp only [j5,TT,II,OA,OB,MM,VV,ints]
 (repeat first|refine uA ?_|(apply uK;focus omega)|simp only [go_sem,Nat.reduceBEq,Nat.reduceAdd,D9]|simp (disch:=omega) only [ww])
 have hn1:((x.length:Int)+1).toNat=x.length+1:=by omega
 refine S.loop (X:=Nat × List Nat) (fun s=>⟨[(0,.sl 1 (ws x)),(1,ints r),(5,.rv 0),(13,.sl 1 (ws x)),(14,ints x.length),(15,ints s.1)],[.row 222 1 (ws s.2)]⟩) (fun s=>s.1<=x.length/\Nm.leftInv x (2 ^ r) s.1 s.2) (fun s=>x.length-s.1) (0,List.replicate (x.length+1) 0) ⟨c7n _,Nm.b3Z x (Nat.pow_pos (by decide))⟩ (by simp only [<- a3h];rw [hn1];exact (by (repeat first|refine uA ?_|(refine ⟨?_,?_⟩;focus first|rfl|trivial|(simp [slot];done))|rfl|trivial|simp))) ?_
 rintro ⟨i,out⟩ ⟨hi,hinv⟩
 simp only [ints] at hi hinv ⊢
 have hol:=hinv.1
 (repeat first|refine uA ?_|(apply uK;focus omega)|simp (disch:=omega) only [go_sem,Nat.reduceBEq])
 (refine uJ rfl (fun hc=>?_) fun hc=>?_)
 ·have hi':i < x.length:=by omega
  have hgp:x[i]?=some x[i]:=c7h hi'
  have hgo:out[i]?=some (out[i]'(by omega)):=c7h (by omega)
  have hg1:out[i+1]?=some (out[i+1]'(by omega)):=c7h (by omega)
  have ho32:=hinv.2.1 _ (c7x (show i < out.length by omega))
  obtain ⟨hs,hm,h1,h2⟩:=Nm.b4s hinv hr hi' (hx _ (c7x hi')) (by omega)
  have hx32:=hx _ (c7x hi')
  generalize x[i]=xi at *
  generalize out[i]'(by omega)=o at *
  generalize out[i+1]'(by omega)=o1 at *
  have hv:=b7I xi r hm (by omega)
  generalize xi*2 ^ r=n at *
  have hol2:=b9N o n ho32
  have hgs:(out.set i (o ||| n % 4294967296))[i+1]?=some o1:=by rw [List.getElem?_set_ne (by omega)];exact hg1
  have hi1:((i:Int)+1).toNat=i+1:=by omega
  (repeat first|refine uA ?_|(apply uK;focus omega)|simp only [go_sem,Nat.reduceBEq,Nat.reduceAdd,Nat.reduceLeDiff,Int.reducePow,D9,I8,hgp,hgo,c7j,wd,N9,c7W]|simp (disch:=omega) only [ww,I8,hgs,hi1,c7j,wd,hv,a3E,a2e,hol2,N9])
  refine S.next (x:=(i,out)) (i+1,_) ⟨hi',hs⟩ (by simp only;omega) (by (repeat first|refine uA ?_|(refine ⟨?_,?_⟩;focus first|rfl|trivial|(simp [slot];done))|rfl|trivial|simp))
 ·have hi':i=x.length:=by omega
  subst hi'
  have he:=(Nm.b6a hinv).1
  have hd:out=Nm.dig 4294967296 (x.length+1) (Nm.wv 4294967296 x*2 ^ r):=Nm.Y4 (by decide) hinv.2.1 hol he
  rw [<- hd]
  (repeat first|refine uA ?_|(apply uK;focus omega)|simp (disch:=omega) only [go_sem,Nat.reduceBEq])
  exact S.done (j3.new rfl rfl rfl)
def put (us:List Nat) (k:Nat) (out:List Nat):List Nat:=us.take k++out++us.drop (k+out.length)
theorem a0h {us out:List Nat} {k:Nat} (h:k+out.length<=us.length):(put us k out).length=us.length:=by
 simp only [put,c7t,c7s,c7S];omega
theorem V3 {us out:List Nat} {k i:Nat} (h:k+out.length<=us.length) (hi:i < out.length):(put us k out)[k+i]?=out[i]?:=by
 have ht:(us.take k).length=k:=by rw [c7s];omega
 rw [put,c7P,c7F (by omega),ht,Nat.add_sub_cancel_left,c7B hi]
theorem a0j {us out:List Nat} {k i v:Nat} (h:k+out.length<=us.length) (hi:i < out.length):(put us k out).set (k+i) v=put us k (out.set i v):=by
 have ht:(us.take k).length=k:=by rw [c7s];omega
 rw [put,put,c7P,List.set_append_right _ _ (by omega),ht,Nat.add_sub_cancel_left,List.set_append_left _ _ hi,c7W,c7P]
theorem a5j {us:List Nat} {k n:Nat} (h:k+n<=us.length):put us k ((us.drop k).take n)=us:=by
 rw [put,c7s,c7S,show min n (us.length-k)=n by omega,c7P,<- List.drop_drop]
 rw [List.take_append_drop,List.take_append_drop]
theorem b7e (o lo b:Nat) (ho:o < 4294967296) (hl:lo < 4294967296) (hb:b<=1):∃ t c':Nat,IntKind.u32.wrap (IntKind.u64.wrap (IntKind.u64.wrap ((o:Int)-(lo:Int))-(b:Int)))=(t:Int)/\Int.fdiv (IntKind.u64.wrap (IntKind.u64.wrap ((o:Int)-(lo:Int))-(b:Int))) 9223372036854775808=(c':Int)/\t < 4294967296/\c'<=1/\t+lo+b=o+4294967296*c':=by
 obtain ⟨t,c',e1,e2,h1,h2,h3⟩:=a9J o lo b ho hl hb
 have g1:∀ n:Int,IntKind.u64.wrap n=n % 18446744073709551616:=fun n=>by simp [IntKind.wrap,IntKind.signed,IntKind.bits]
 have e:IntKind.u64.wrap (IntKind.u64.wrap ((o:Int)-(lo:Int))-(b:Int))=IntKind.u64.wrap (IntKind.u64.wrap ((o:Int)-(b:Int))-(lo:Int)):=by
  rw [g1,g1,g1,g1];omega
 rw [e]
 exact ⟨t,c',e1,e2,h1,h2,by omega⟩
theorem c5s {E:Ctx} (hP:E.P=Tryz.prog) (us qs v:List Nat) (k d:Nat) (hl:us.length<=274877906944) (hk:k+v.length+1<=us.length) (hu:Nm.F9 us) (hv:Nm.F9 v) (hd:d < 4294967296)
    {W:Nat} (hW:W=Nm.wv 4294967296 ((us.drop k).take (v.length+1))) :
    j6 E [.row 222 1 (ws us),.row 222 1 (ws qs)] 203 [.wv 0 1 k (v.length+1),.sl 1 (ws v),.v (.int .u64 (d:Int))] (.v (.bool (decide (W < d*Nm.wv 4294967296 v))))
      [.row 222 1 (ws (put us k (Nm.dig 4294967296 (v.length+1) ((W+4294967296 ^ (v.length+1)*(if W < d*Nm.wv 4294967296 v then 1 else 0))-d*Nm.wv 4294967296 v)))),.row 222 1 (ws qs)] []:=by
  obtain ⟨P,eff',N,w0,own0,av0,nu0,pk0⟩:=E
  simp only at hP
  subst hP
  refine j6.of (eff:=eff) b1o b0i (by exact c7z rfl) fun w own av ν hν=>?_
  simp only [a5o,j5,TT,II,OA,OB,MM,VV]
  have hν0:ν.length<=2:=by rw [hν];exact c7p _
  have hul:((us.drop k).take (v.length+1)).length=v.length+1:=by rw [c7s,c7S];omega
  have hua:Nm.F9 ((us.drop k).take (v.length+1)):=(hu.drop k).take _
  have hps:put us k ((us.drop k).take (v.length+1))=us:=a5j (by omega)
  generalize (us.drop k).take (v.length+1)=u at *
  (repeat first|refine uA ?_|(apply uK;focus omega)|simp only [go_sem,Nat.reduceBEq,Nat.reduceAdd,D9]|simp (disch:=omega) only [ww,D9])
  refine S.loop (X:=Nat × List Nat × Nat × Nat) (fun x=>⟨[(0,.wv 0 1 k (v.length+1)),(1,.sl 1 (ws v)),(2,.v (.int .u64 (d:Int))),(7,.v (.int .u64 (x.2.2.1:Int))),(8,.v (.int .u64 (x.2.2.2:Int))),(13,.sl 1 (ws v)),(14,ints v.length),(15,ints x.1)],[.row 222 1 (ws (put us k x.2.1)),.row 222 1 (ws qs)]⟩) (fun x=>x.1<=v.length/\Nm.b0Q u v d x.1 x.2.1 x.2.2.1 x.2.2.2) (fun x=>v.length-x.1) (0,u,0,0) ⟨c7n _,Nm.b8z v d hua⟩ (by simp only [hps];exact Ent.mk _ _ (by (repeat first|refine uA ?_|(refine ⟨?_,?_⟩;focus first|rfl|trivial|(simp [slot];done))|rfl|trivial|simp)) (by (repeat first|refine uA ?_|(refine ⟨?_,?_⟩;focus first|rfl|trivial|(simp [slot];done))|rfl|trivial|simp)) hν0) ?_
  rintro ⟨i,out,c,b⟩ ⟨hi,hinv⟩
  simp only [ints] at hi hinv ⊢
  have hol:=hinv.1
  have hc1:=hinv.2.2.1
  have hb1:=hinv.2.2.2.1
  have hpl:(put us k out).length=us.length:=a0h (by omega)
  (repeat first|refine uA ?_|(apply uK;focus omega)|simp (disch:=omega) only [go_sem,Nat.reduceBEq])
  (refine uJ rfl (fun hc=>?_) fun hc=>?_)
  · have hi':i < v.length:=by omega
    have hgv:v[i]?=some v[i]:=c7h hi'
    have hgu:u[i]?=some (u[i]'(by omega)):=c7h (by omega)
    have hgo:(put us k out)[k+i]?=some (u[i]'(by omega)):=by rw [V3 (by omega) (by omega),Nm.a0x hinv.2.2.2.2.1,hgu]
    have hu32:=hua _ (c7x (show i < u.length by omega))
    have hv32:=hv _ (c7x hi')
    have hiu:i < u.length:=by omega
    have hk:=fun t b' h1 h2 h3=>Nm.b8s (t:=t) (b':=b') hinv hi' hiu hv32 hd h1 h2 h3
    generalize v[i]=vi at *
    generalize u[i]'(by omega)=ui at *
    obtain ⟨m,hm⟩:∃ m:Nat,m=d*vi:=⟨_,rfl⟩
    have hm':(d:Int)*(vi:Int)=(m:Int):=by rw [hm];simp
    have hmb:m<=4294967295*4294967295:=by rw [hm];exact Nat.mul_le_mul (by omega) (by omega)
    rw [<- hm] at hk
    obtain ⟨s,hs⟩:∃ s:Nat,s=c+m:=⟨_,rfl⟩
    have hs':(c:Int)+(m:Int)=(s:Int):=by omega
    rw [<- hs] at hk
    obtain ⟨t,b',e1,e2,h1,h2,h3⟩:=b7e ui (s % 4294967296) b hu32 (Nat.mod_lt _ (by decide)) hb1
    have hk:=(hk t b' h1 h2 h3).1
    have hsl:=a0j (us:=us) (out:=out) (k:=k) (i:=i) (v:=t) (by omega) (by omega)
    have hki:((k:Int)+(i:Int)).toNat=k+i:=by omega
    (repeat first|refine uA ?_|(apply uK;focus omega)|simp only [go_sem,Nat.reduceBEq,Nat.reduceAdd,Nat.reduceLeDiff,Int.reducePow,D9,I8,hgv,hgo,c7j,wd]|simp (disch:=omega) only [ww,hm',hs',a3E,a2e,e1,e2,N9,hsl])
    refine S.next (x:=(i,out,c,b)) (i+1,_,_,_) ⟨hi',hk⟩ (by simp only;omega) (Ent.mk _ _ (by (repeat first|refine uA ?_|(refine ⟨?_,?_⟩;focus first|rfl|trivial|(simp [slot];done))|rfl|trivial|simp)) (by (repeat first|refine uA ?_|(refine ⟨?_,?_⟩;focus first|rfl|trivial|(simp [slot];done))|rfl|trivial|simp)) hν0)
  · have hi':i=v.length:=by omega
    subst hi'
    have hgu:u[v.length]?=some (u[v.length]'(by omega)):=c7h (by omega)
    have hgo:(put us k out)[k+v.length]?=some (u[v.length]'(by omega)):=by rw [V3 (by omega) (by omega),Nm.a0x hinv.2.2.2.2.1,hgu]
    have hu32:=hua _ (c7x (show v.length < u.length by omega))
    obtain ⟨t,f,e1,e2,h1,h2,h3⟩:=b7e _ c b hu32 hc1 hb1
    obtain ⟨hk1,hk2⟩:=Nm.c1l (t:=t) (f:=f) hinv hul h1 h3
    have hsl:=a0j (us:=us) (out:=out) (k:=k) (i:=v.length) (v:=t) (by omega) (by omega)
    have hlt:=Nm.L9 4294967296 hk2
    have hlt2:=Nm.L9 4294967296 hua
    rw [c7W,hol,hul] at hlt
    rw [hul,<- hW] at hlt2
    rw [hul,<- hW] at hk1
    have hf:f=if W < d*Nm.wv 4294967296 v then 1 else 0:=by
      have:f=0 \/ f=1:=by omega
      rcases this with rfl|rfl
      · rw [if_neg (by omega)]
      · rw [if_pos (by omega)]
    have hdg:out.set v.length t=Nm.dig 4294967296 (v.length+1) (W+4294967296 ^ (v.length+1)*f-d*Nm.wv 4294967296 v):=Nm.Y4 (by decide) hk2 (by rw [c7W];omega) (by omega)
    rw [<- hf,<- hdg]
    have hfb:decide (W < d*Nm.wv 4294967296 v)=decide ((0:Int) < (f:Int)):=by
      rw [hf];by_cases h:W < d*Nm.wv 4294967296 v<;>simp [h]
    rw [hfb]
    have hki:((k:Int)+(v.length:Int)).toNat=k+v.length:=by omega
    (repeat first|refine uA ?_|(apply uK;focus omega)|simp only [go_sem,Nat.reduceBEq,Nat.reduceAdd,Nat.reduceLeDiff,Int.reducePow,D9,I8,hgo,c7j,wd]|simp (disch:=omega) only [ww,e1,e2,N9,hsl])
    exact S.done (j3.own rfl)
end Go.Proofs.YtgpegbfnlkidjaaGreatDoor
namespace Go.Proofs.YtgpegbfnlkidjaaGreatDoor.Eng
open Go Go.RowKit
def Met (E:Ctx) {Y:Type} (stY:Y->St) (preY:Y->Prop):Act->World->Prop:=fun a w=>∃ y ν',preY y/\Good E ν' (stY y) a w
theorem S.join {E:Ctx} {Q:Exit->Act->World->Prop} {st:St} {c:IC} {k:List It} {Y:Type} (stY:Y->St) (preY:Y->Prop)
  (h:S E Q st (.code c::.inv (Met E stY preY)::k)) (hk:∀ y,preY y->S E Q (stY y) k):S E Q st (.code c::k):=by
 intro wf ν a w hG code hc
 refine wp_mono (h wf ν a w hG code hc) fun e a' w' hq=>?_
 cases e with
 | normal=>
  simp only [wpS] at hq
  obtain ⟨y,ν',hp,hG'⟩:=hq
  exact hk y hp wf ν' a' w' hG'
 | exit i=>simpa only [exS] using hq
 | _=>exact hq
theorem S.c3j {E:Ctx} {Q:Exit->Act->World->Prop} {st:St} {c:IC} {id:Nat} {k:List It} {Y:Type} (stY:Y->St) (preY:Y->Prop)
  (h:S E Q st (.code c::.blk id::.inv (Met E stY preY)::k)) (hk:∀ y,preY y->S E Q (stY y) k):S E Q st (.code c::.blk id::k):=by
 intro wf ν a w hG code hc
 refine wp_mono (h wf ν a w hG code hc) fun e a' w' hq=>?_
 cases e with
 | normal=>
  simp only [wpS] at hq ⊢
  obtain ⟨y,ν',hp,hG'⟩:=hq
  exact hk y hp wf ν' a' w' hG'
 | exit i=>
  simp only [exS] at hq ⊢
  split
  ·rename_i e
   rw [if_pos e] at hq
   simp only [wpS] at hq
   obtain ⟨y,ν',hp,hG'⟩:=hq
   exact hk y hp wf ν' a' w' hG'
  ·rename_i e
   rw [if_neg e] at hq
   exact hq
 | _=>exact hq
theorem S.met {E:Ctx} {Q:Exit->Act->World->Prop} {st:St} {k:List It} {Y:Type} {stY:Y->St} {preY:Y->Prop} (y:Y) (hp:preY y) (h:Ent E st (stY y)):S E Q st (.inv (Met E stY preY)::k):=by
 intro wf ν a w hG
 obtain ⟨ν',hG'⟩:=h wf ν a w hG
 exact ⟨y,ν',hp,hG'⟩
end Go.Proofs.YtgpegbfnlkidjaaGreatDoor.Eng
namespace Go.Proofs.YtgpegbfnlkidjaaGreatDoor
open Go Go.RowKit Eng
set_option maxRecDepth 10000
set_option maxHeartbeats 1000000
theorem c3t {us a b:List Nat} {k:Nat} (hl:a.length=b.length) (h:k+a.length<=us.length):put (put us k a) k b=put us k b:=by
 have ht:(us.take k).length=k:=by rw [c7s];omega
 rw [put,put,put,<- hl]
 congr 1
 ·congr 1
  rw [c7P,List.take_append_of_le_length (by omega),c7C (by omega)]
 ·exact List.drop_left' (by rw [c7t,ht])
theorem a2C {us a:List Nat} {k n:Nat} (hn:n=a.length) (h:k+a.length<=us.length):((put us k a).drop k).take n=a:=by
 have ht:(us.take k).length=k:=by rw [c7s];omega
 subst hn
 rw [put,c7P,List.drop_append,ht,Nat.sub_self,List.drop_of_length_le (by omega),List.nil_append,List.drop_zero,List.take_append_of_le_length (c7p _),c7y]
theorem c3G {us a:List Nat} {k:Nat} (hu:Nm.F9 us) (ha:Nm.F9 a):Nm.F9 (put us k a):=((hu.take k).app ha).app (hu.drop _)
theorem c5V {E:Ctx} (hP:E.P=Tryz.prog) (us qs v:List Nat) (k:Nat) (hl:us.length<=274877906944) (hk:k+v.length+1<=us.length) (hu:Nm.F9 us) (hv:Nm.F9 v)
    {W:Nat} (hW:W=Nm.wv 4294967296 ((us.drop k).take (v.length+1))) (hlt:4294967296 ^ (v.length+1)<=W+Nm.wv 4294967296 v) :
    j6 E [.row 222 1 (ws us),.row 222 1 (ws qs)] 204 [.wv 0 1 k (v.length+1),.sl 1 (ws v)] (.tup [])
      [.row 222 1 (ws (put us k (Nm.dig 4294967296 (v.length+1) (W+Nm.wv 4294967296 v-4294967296 ^ (v.length+1))))),.row 222 1 (ws qs)] []:=by
  obtain ⟨P,eff',N,w0,own0,av0,nu0,pk0⟩:=E
  simp only at hP
  subst hP
  refine j6.of (eff:=eff) Tryz.func204 (by cbv) (by exact c7z rfl) fun w own av ν hν=>?_
  simp only [j5,TT,II,OA,OB,MM,VV]
  have hν0:ν.length<=2:=by rw [hν];exact c7p _
  have hul:((us.drop k).take (v.length+1)).length=v.length+1:=by rw [c7s,c7S];omega
  have hua:Nm.F9 ((us.drop k).take (v.length+1)):=(hu.drop k).take _
  have hps:put us k ((us.drop k).take (v.length+1))=us:=a5j (by omega)
  generalize (us.drop k).take (v.length+1)=u at *
  (repeat first|refine uA ?_|(refine uK ?_ ?_;focus first|omega|trivial|(intros;simp_all<;>omega))|simp (disch:=omega) only [go_sem,Nat.reduceBEq,Nat.reduceAdd,D9])
  refine S.loop (X:=Nat × List Nat × Nat) (fun x=>⟨[(0,.wv 0 1 k (v.length+1)),(1,.sl 1 (ws v)),(4,.v (.int .u64 (x.2.2:Int))),(7,.sl 1 (ws v)),(8,ints v.length),(9,ints x.1)],[.row 222 1 (ws (put us k x.2.1)),.row 222 1 (ws qs)]⟩) (fun x=>x.1<=v.length/\Nm.b0n u v x.1 x.2.1 x.2.2) (fun x=>v.length-x.1) (0,u,0) ⟨c7n _,Nm.b9c v hua⟩ (by simp only [hps];exact Ent.mk _ _ (by (repeat first|refine uA ?_|(refine ⟨?_,?_⟩;focus first|rfl|trivial|(simp [slot];done))|rfl|trivial|simp)) (by (repeat first|refine uA ?_|(refine ⟨?_,?_⟩;focus first|rfl|trivial|(simp [slot];done))|rfl|trivial|simp)) hν0) ?_
  rintro ⟨i,out,c⟩ ⟨hi,hinv⟩
  simp only [ints] at hi hinv ⊢
  have hol:=hinv.1
  have hc1:=hinv.2.2.1
  have hpl:(put us k out).length=us.length:=a0h (by omega)
  (repeat first|refine uA ?_|(refine uK ?_ ?_;focus first|omega|trivial|(intros;simp_all<;>omega))|simp (disch:=omega) only [go_sem,Nat.reduceBEq])
  (refine uJ rfl (fun hc=>?_) fun hc=>?_)
  · have hi':i < v.length:=by omega
    have hiu:i < u.length:=by omega
    have hgv:v[i]?=some v[i]:=c7h hi'
    have hgu:u[i]?=some (u[i]'(by omega)):=c7h (by omega)
    have hgo:(put us k out)[k+i]?=some (u[i]'(by omega)):=by rw [V3 (by omega) (by omega),Nm.a0x hinv.2.2.2.1,hgu]
    have hu32:=hua _ (c7x (show i < u.length by omega))
    have hv32:=hv _ (c7x hi')
    have hk:=Nm.b8p hinv hi' hiu hv32 hu32 rfl
    generalize v[i]=vi at *
    generalize u[i]'(by omega)=ui at *
    obtain ⟨s,hs⟩:∃ s:Nat,s=c+ui+vi:=⟨_,rfl⟩
    have hs':(c:Int)+((ui:Int)+(vi:Int))=(s:Int):=by omega
    rw [<- hs] at hk
    have hsl:=a0j (us:=us) (out:=out) (k:=k) (i:=i) (v:=s % 4294967296) (by omega) (by omega)
    have hki:((k:Int)+(i:Int)).toNat=k+i:=by omega
    (repeat first|refine uA ?_|(refine uK ?_ ?_;focus first|omega|trivial|(intros;simp_all<;>omega))|simp (disch:=omega) only [go_sem,Nat.reduceBEq,Nat.reduceAdd,Nat.reduceLeDiff,Int.reducePow,ww,D9,I8,hgv,hgo,c7j,wd,hs',a3E,a2e,N9,hsl])
    refine S.next (x:=(i,out,c)) (i+1,_,_) ⟨hi',hk⟩ (by simp only;omega) (Ent.mk _ _ (by (repeat first|refine uA ?_|(refine ⟨?_,?_⟩;focus first|rfl|trivial|(simp [slot];done))|rfl|trivial|simp)) (by (repeat first|refine uA ?_|(refine ⟨?_,?_⟩;focus first|rfl|trivial|(simp [slot];done))|rfl|trivial|simp)) hν0)
  · have hi':i=v.length:=by omega
    subst hi'
    have hgu:u[v.length]?=some (u[v.length]'(by omega)):=c7h (by omega)
    have hgo:(put us k out)[k+v.length]?=some (u[v.length]'(by omega)):=by rw [V3 (by omega) (by omega),Nm.a0x hinv.2.2.2.1,hgu]
    have hu32:=hua _ (c7x (show v.length < u.length by omega))
    have hlt2:=Nm.L9 4294967296 hua
    have hlv:=Nm.L9 4294967296 hv
    rw [hul,<- hW] at hlt2
    have hpw:4294967296 ^ v.length<=4294967296 ^ (v.length+1):=c7N (by decide) (by omega)
    obtain ⟨hk1,hk2⟩:=Nm.c1u hinv hul rfl (z:=W+Nm.wv 4294967296 v-4294967296 ^ (v.length+1)) (by rw [hul,<- hW];omega) (by rw [hul];omega)
    have hdg:=Nm.Y4 (by decide) hk2 (show _=v.length+1 by rw [c7W];omega) hk1
    rw [<- hdg]
    have hsl:=a0j (us:=us) (out:=out) (k:=k) (i:=v.length) (v:=(u[v.length]+c) % 4294967296) (by omega) (by omega)
    have hki:((k:Int)+(v.length:Int)).toNat=k+v.length:=by omega
    have hw1:IntKind.u32.wrap ((u[v.length]:Int)+(c:Int))=(((u[v.length]+c) % 4294967296:Nat):Int):=a3E (u[v.length]+c)
    (repeat first|refine uA ?_|(refine uK ?_ ?_;focus first|omega|trivial|(intros;simp_all<;>omega))|simp (disch:=omega) only [go_sem,Nat.reduceBEq,Nat.reduceAdd,Nat.reduceLeDiff,ww,D9,I8,hgo,c7j,wd,hw1,N9,hsl])
    exact S.end_ (j3.own rfl)
set_option maxHeartbeats 2000000
theorem b0u:∀ (f x:Nat),x < 2 ^ f->f<=64->x ≠ 0->0 < Lib.bitLen x/\2 ^ (Lib.bitLen x-1)<=x/\x < 2 ^ Lib.bitLen x
 | 0,x,h,_,h0=>by simp at h;omega
 | f+1,x,h,hf,h0=>by
  have h64:x < 2 ^ 64:=c7L h (c7N (by decide) hf)
  rw [Lib.bitLen_half x h0 h64]
  by_cases h1:x / 2=0
  ·rw [h1,show Lib.bitLen 0=0 from rfl]
   refine ⟨by omega,?_,?_⟩
   ·simp;omega
   ·simp;omega
  ·obtain ⟨g0,g1,g2⟩:=b0u f (x / 2) (by rw [c7T] at h;omega) (by omega) h1
   refine ⟨by omega,?_,?_⟩
   ·rw [show 1+Lib.bitLen (x / 2)-1=Lib.bitLen (x / 2)-1+1 by omega,c7T];omega
   ·rw [Nat.add_comm,c7T];omega
def lz (x:Nat):Nat:=32-Lib.bitLen x
theorem b7h {x:Nat} (h0:x ≠ 0) (h:x < 4294967296):lz x < 32/\Lib.bitLen x+lz x=32/\(x+1)*2 ^ lz x<=4294967296:=by
 obtain ⟨g0,g1,g2⟩:=b0u 32 x h (by decide) h0
 have hb:Lib.bitLen x<=32:=by
  rcases c7D 32 (Lib.bitLen x) with h1|h1
  ·have:2 ^ 32<=2 ^ (Lib.bitLen x-1):=c7N (by decide) (by omega)
   omega
  ·exact h1
 refine ⟨by unfold lz;omega,by unfold lz;omega,?_⟩
 have:=c7M (2 ^ lz x) (Nat.succ_le_of_lt g2)
 rw [<- Nat.pow_add,show Lib.bitLen x+lz x=32 by unfold lz;omega] at this
 exact this
theorem c6K (x:Nat) (h0:x ≠ 0) (h:x < 4294967296):A9 Tryz.prog 201 [.v (.int .u32 (x:Int))] (ints (lz x)):=by
 intro O w vs hO hA
 simp only [FzL,Fz] at hA
 obtain ⟨y,ys,rfl,rfl,rfl⟩:=hA
 refine (Tryz.bits_LeadingZeros32 (x:Int) w (by omega) (by omega)).mono ?_
 rintro e w' ⟨rfl,rfl⟩
 refine ⟨_,rfl,Below.refl _ _,?_⟩
 have:=(b7h h0 h).2.1
 simp only [ints,Fz,c7o]
 rw [show (32:Int)-(Lib.bitLen x:Int)=((lz x:Nat):Int) by omega]
namespace Nm
theorem b5G {B:Nat}:∀ {m L n:Nat},m<=L->(dig B L n).take m=dig B m n
 | 0,_,_,_=>by simp [dig]
 | m+1,0,_,h=>by omega
 | m+1,L+1,n,h=>by simp only [dig,List.take_succ_cons];rw [b5G (by omega)]
theorem b7q {B:Nat} {l:List Nat} (h:∀ w ∈ l,w < B) {k:Nat} (hk:k<=l.length):wv B (l.drop k)=wv B l / B ^ k:=by
 have e:=a3A B l k hk
 have h1:wv B (l.take k) < B ^ k:=by
  have:=L9 B (l:=l.take k) (fun w hw=>h w (List.mem_of_mem_take hw))
  rwa [c7s,Nat.min_eq_left hk] at this
 rw [e,Nat.add_mul_div_left _ _ (by omega),Nat.div_eq_of_lt h1,c7R]
theorem Est.top {W V v1 v2 top u2 p:Nat} (h:Est W V v1 v2 top u2 p):top < v1*4294967296+4294967296:=by
 have h1:=h.wge
 have h2:=h.lt
 have h3:=h.hW
 have h4:=h.hv2
 have hp:0 < p:=by
  rcases c7E p with h0|h0
  ·subst h0;omega
  ·exact h0
 have h5:(top*4294967296+u2)*p < (4294967296*(v1*4294967296+v2+1))*p:=by
  rw [c7O 4294967296];omega
 have:=Nat.lt_of_mul_lt_mul_right h5
 omega
theorem b6g {x y:List Nat} {r:Nat} (hx:F9 x) (hy:F9 y) (hl:y.length<=x.length) (hyt:4294967296 ^ (y.length-1)<=wv 4294967296 y) (hy0:0 < y.length) (hr:wv 4294967296 y*2 ^ r < 4294967296 ^ y.length) :
  a6R (wv 4294967296 x*2 ^ r) (dig 4294967296 y.length (wv 4294967296 y*2 ^ r)) (x.length+1) (x.length+1-y.length) (dig 4294967296 (x.length+1) (wv 4294967296 x*2 ^ r)) (List.replicate (x.length+1-y.length) 0):=by
 have hp:0 < 2 ^ r:=Nat.pow_pos (by decide)
 have hxl:=L9 4294967296 hx
 have hr32:2 ^ r<=4294967296:=by
  have h1:4294967296 ^ (y.length-1)*2 ^ r<=wv 4294967296 y*2 ^ r:=c7M _ hyt
  have h2:4294967296 ^ y.length=4294967296 ^ (y.length-1)*4294967296:=by rw [<- c7T,show (y.length-1).succ=y.length by omega]
  have h3:4294967296 ^ (y.length-1)*2 ^ r < 4294967296 ^ (y.length-1)*4294967296:=by omega
  exact Nat.le_of_lt (Nat.lt_of_mul_lt_mul_left h3)
 have hU:wv 4294967296 x*2 ^ r < 4294967296 ^ (x.length+1):=by
  rw [c7T]
  exact c7L (Nat.mul_lt_mul_of_pos_right hxl hp) (Nat.mul_le_mul_left _ hr32)
 have hwu:wv 4294967296 (dig 4294967296 (x.length+1) (wv 4294967296 x*2 ^ r))=wv 4294967296 x*2 ^ r:=X9 hU
 have hwv:wv 4294967296 (dig 4294967296 y.length (wv 4294967296 y*2 ^ r))=wv 4294967296 y*2 ^ r:=X9 hr
 refine ⟨K4 _ _ _,a0Y (by decide) _ _,by simp [K4],fun w hw=>by rw [c7G hw];decide,?_,?_⟩
 ·rw [hwu,List.drop_of_length_le (by simp),show wv 4294967296 []=0 from rfl,Nat.mul_zero,Nat.mul_zero,Nat.add_zero]
 ·rw [b7q (a0Y (by decide) _ _) (by rw [K4];omega),hwu,hwv]
  have e:4294967296 ^ x.length=4294967296 ^ (x.length+1-y.length)*4294967296 ^ (y.length-1):=by
   rw [<- Nat.pow_add];congr 1;omega
  refine c7L ?_ (c7M (2 ^ r) hyt)
  rw [Nat.div_lt_iff_lt_mul (Nat.pow_pos (by decide))]
  have:=Nat.mul_lt_mul_of_pos_right hxl hp
  rw [e] at this
  exact Nat.lt_of_lt_of_eq this (by rw [c7O,Nat.mul_comm])
end Nm
theorem b3X (a b:Nat) (ha:a < 4294967296) (hb:b < 4294967296):bits .or .u64 ((a:Int)*4294967296) (b:Int)=((a*4294967296+b:Nat):Int):=by
 have h1:(a:Int)*4294967296=((a*4294967296:Nat):Int):=by omega
 rw [h1,b0j _ _ (by omega) (by omega)]
 have:=Nm.a3w (a:=b) (b:=a) (r:=32) hb
 rw [Nat.or_comm,show (4294967296:Nat)=2 ^ 32 from rfl,this,Nat.add_comm]
set_option maxHeartbeats 4000000
theorem c5g (x y:List Nat) (hxl:x.length<=274877906900) (hx:Nm.F9 x) (hy:Nm.F9 y) (hl:y.length<=x.length) (hy2:2<=y.length) (hyt:4294967296 ^ (y.length-1)<=Nm.wv 4294967296 y) :
    A9 Tryz.prog 176 [.sl 1 (ws x),.sl 1 (ws y)] (.tup [.sl 1 (ws (Nm.dig 4294967296 (x.length+1-y.length) (Nm.wv 4294967296 x / Nm.wv 4294967296 y))),.sl 1 (ws (Nm.dig 4294967296 y.length (Nm.wv 4294967296 x % Nm.wv 4294967296 y)))]):=by
  refine kS b6e b6d (by rfl) fun w O=>?_
  simp only [a9p,j5,TT,II,OA,OB,OC,MM,VV,MG,VG]
  have hgy:y[y.length-1]?=some (y[y.length-1]'(by omega)):=c7h (by omega)
  have hyw:=Nm.D7 4294967296 (l:=y) (i:=y.length-1) (by omega)
  rw [show y.length-1+1=y.length by omega,c7y] at hyw
  have hyk:=Nm.L9 4294967296 (l:=y.take (y.length-1)) (fun w hw=>hy w (List.mem_of_mem_take hw))
  rw [c7s,Nat.min_eq_left (by omega)] at hyk
  have ht32:=hy _ (c7x (show y.length-1 < y.length by omega))
  generalize y[y.length-1]'(by omega)=t at *
  have ht0:t ≠ 0:=fun h=>by subst h;omega
  obtain ⟨hr32,_,htr⟩:=b7h ht0 ht32
  have hflz:=c6K t ht0 ht32
  generalize lz t=r at *
  have hr:Nm.wv 4294967296 y*2 ^ r < 4294967296 ^ y.length:=by
    have h1:Nm.wv 4294967296 y < (t+1)*4294967296 ^ (y.length-1):=by
      rw [Nat.add_mul,Nat.one_mul,Nat.mul_comm];omega
    have h2:=Nat.mul_lt_mul_of_pos_right h1 (show 0 < 2 ^ r from Nat.pow_pos (by decide))
    have h3:=c7M (4294967296 ^ (y.length-1)) htr
    rw [<- Nat.pow_succ',show (y.length-1).succ=y.length by omega] at h3
    refine c7L h2 ?_
    rw [c7O,Nat.mul_comm (4294967296 ^ _),<- c7O]
    exact h3
  have hi1:((y.length:Int)-1).toNat=y.length-1:=by omega
  have hti:=Nm.b5G (B:=4294967296) (m:=y.length) (L:=y.length+1) (n:=Nm.wv 4294967296 y*2 ^ r) (by omega)
  have hvl:=Nm.K4 4294967296 y.length (Nm.wv 4294967296 y*2 ^ r)
  have hva:Nm.F9 _:=Nm.a0Y (B:=4294967296) (by decide) y.length (Nm.wv 4294967296 y*2 ^ r)
  have hvw:=Nm.X9 hr
  have hst:=Nm.b6g hx hy hl hyt (by omega) hr
  have hlx:=b9W x r (by omega) hx hr32
  have hly:=(b9W y r (by omega) hy hr32).spec
  have htk:List.take y.length (ws (Nm.dig 4294967296 (y.length+1) (Nm.wv 4294967296 y*2 ^ r)))=ws (Nm.dig 4294967296 y.length (Nm.wv 4294967296 y*2 ^ r)):=by
    rw [<- hti];simp [ws]
  have hul:=Nm.K4 4294967296 (x.length+1) (Nm.wv 4294967296 x*2 ^ r)
  have hn1:(((x.length+1:Nat):Int)-(y.length:Int)).toNat=x.length+1-y.length:=by omega
  (repeat first|refine uA ?_|(apply uK;focus first|omega|(intros;simp_all<;>omega))|simp only [go_sem,Nat.reduceBEq,Nat.reduceAdd,D9,I8,Nm.K4,htk,List.length_replicate]|simp (disch:=omega) only [ww,hgy,hi1,c7j,wd,hn1]|refine l9.t (FNew.t hlx rfl) ?_|(apply uB hflz;exact rfl)|(apply uB hly;exact rfl))
  clear hflz hlx hly htk hti hgy
  have hyn:∃ m,y.length=m+2:=⟨y.length-2,by omega⟩
  obtain ⟨m,hm⟩:=hyn
  have hV:Nm.wv 4294967296 y*2 ^ r / 2 ^ r=Nm.wv 4294967296 y:=Nat.mul_div_cancel _ (Nat.pow_pos (by decide))
  generalize Nm.dig 4294967296 y.length (Nm.wv 4294967296 y*2 ^ r)=v at *
  generalize hn:y.length=n at *
  refine S.loop (X:=Nat × List Nat × List Nat) (fun s=>⟨[(10,ints ((s.1:Int)-1)),(4,.rv 1),(9,.sl 1 (ws v)),(8,.rv 0),(7,ints n),(6,ints r)],[.row 222 1 (ws s.2.1),.row 222 1 (ws s.2.2)]⟩) (fun s=>s.1<=x.length+1-n/\Nm.a6R (Nm.wv 4294967296 x*2 ^ r) v (x.length+1) s.1 s.2.1 s.2.2) (fun s=>s.1) (x.length+1-n,_,_) ⟨c7p _,hst⟩ (by simp only [<- a3h];exact Ent.mk _ _ (by repeat' (first|exact O0.nil|exact Imp.refl rfl|exact Imp.eq (by simp [slot];omega) rfl|refine O0.cons ?_ ?_)) (by (repeat first|refine uA ?_|(refine ⟨?_,?_⟩;focus first|rfl|trivial|(simp [slot];done))|rfl|trivial|simp)) (c7n _)) ?_
  clear hst
  rintro ⟨j,us,qs⟩ ⟨hj,hinv⟩
  simp only [ints] at hj hinv ⊢
  have hus:=hinv.1
  have hua:=hinv.2.1
  have hql:=hinv.2.2.1
  have hqa:=hinv.2.2.2.1
  (repeat first|refine uA ?_|(apply uK;focus first|omega|(intros;simp_all<;>omega))|simp only [go_sem,Nat.reduceBEq]|simp (disch:=omega) only [ww])
  (refine uJ rfl (fun hc=>?_) fun hc=>?_)
  · obtain ⟨k,rfl⟩:∃ k,j=k+1:=⟨j-1,by omega⟩
    rw [show (((k+1:Nat):Int)-1)=(k:Int) by omega]
    obtain ⟨g1,g2,g3,g4⟩:=Nm.b3d hinv hva (by omega)
    have hwa:Nm.F9 ((us.drop k).take (v.length+1)):=(hua.drop k).take _
    have hv1:0 < v[m+1]'(by omega):=by
      have h1:=Nm.D7 4294967296 (l:=v) (i:=m+1) (by omega)
      rw [c7C (by omega)] at h1
      have h2:=Nm.L9 4294967296 (l:=v.take (m+1)) (fun w hw=>hva w (List.mem_of_mem_take hw))
      rw [c7s,Nat.min_eq_left (by omega)] at h2
      have h3:Nm.wv 4294967296 y<=Nm.wv 4294967296 y*2 ^ r:=Nat.le_mul_of_pos_right _ (Nat.pow_pos (by decide))
      rw [show n-1=m+1 by omega] at hyt
      rcases c7E (v[m+1]'(by omega)) with h0|h0
      · rw [h0] at h1;omega
      · exact h0
    have hE:=Nm.Est.of (m:=m) (by omega) (by rw [g4];omega) hva hwa hv1 (by rw [g1];exact g2)
    simp only [List.getElem_take,List.getElem_drop,g1] at hE
    have ha2:us[k+n]?=some (us[k+(m+2)]'(by omega)):=(show us[k+n]?=us[k+(m+2)]? by rw [hm]).trans (c7h (by omega))
    have ha1:us[k+(m+1)]?=some (us[k+(m+1)]'(by omega)):=c7h (by omega)
    have ha0:us[k+m]?=some (us[k+m]'(by omega)):=c7h (by omega)
    have hb1:v[m+1]?=some (v[m+1]'(by omega)):=c7h (by omega)
    have hb0:v[m]?=some (v[m]'(by omega)):=c7h (by omega)
    have hA2:=hua _ (c7x (show k+(m+2) < us.length by omega))
    have hA1:=hua _ (c7x (show k+(m+1) < us.length by omega))
    have hA0:=hua _ (c7x (show k+m < us.length by omega))
    have hB1:=hva _ (c7x (show m+1 < v.length by omega))
    have hB0:=hva _ (c7x (show m < v.length by omega))
    generalize us[k+(m+2)]'(by omega)=a2 at *
    generalize us[k+(m+1)]'(by omega)=a1 at *
    generalize us[k+m]'(by omega)=a0 at *
    generalize v[m+1]'(by omega)=v1 at *
    generalize v[m]'(by omega)=v2 at *
    have hi2:((k:Int)+(n:Int)).toNat=k+n:=by omega
    have hi3:((k:Int)+(n:Int)-1).toNat=k+(m+1):=by omega
    have hi4:((k:Int)+(n:Int)-2).toNat=k+m:=by omega
    have hi5:((n:Int)-1).toNat=m+1:=by omega
    have hi6:((n:Int)-2).toNat=m:=by omega
    have htop:=b3X a2 a1 hA2 hA1
    have htb:a2*4294967296+a1 < 18446744073709551616:=by omega
    have hs0:=hE.start
    have htp:=hE.top
    have hd0:=Nat.div_add_mod (a2*4294967296+a1) v1
    have hr0:=Nat.mod_lt (a2*4294967296+a1) hv1
    obtain ⟨top,htd⟩:∃ top,top=a2*4294967296+a1:=⟨_,rfl⟩
    rw [<- htd] at hE htop htb hs0 htp hd0 hr0
    have hq:∀ q:Nat,q=top / v1->Int.tdiv (top:Int) (v1:Int)=(q:Int):=fun q h=>by rw [h];rfl
    have hqr:∀ q:Nat,q=top % v1->Int.tmod (top:Int) (v1:Int)=(q:Int):=fun q h=>by rw [h];rfl
    obtain ⟨d0,hd0e⟩:∃ d0,d0=top / v1:=⟨_,rfl⟩
    obtain ⟨e0,he0e⟩:∃ e0,e0=top % v1:=⟨_,rfl⟩
    have hq:=hq d0 hd0e
    have hqr:=hqr e0 he0e
    rw [<- hd0e,<- he0e] at hd0
    rw [<- hd0e] at hs0
    rw [<- he0e] at hr0
    have hd0b:d0<=18446744073709551615:=by
      have:d0<=top:=by rw [hd0e];exact Nat.div_le_self _ _
      omega
    clear hd0e he0e
    (repeat first|refine uA ?_|(apply uK;focus first|omega|(intros;simp_all<;>omega))|simp only [go_sem,Nat.reduceBEq,Nat.reduceLeDiff,Int.reducePow,D9,I8]|simp (disch:=omega) only [ww,ha2,ha1,hb1,c7j,wd,hi2,hi3,hi5,htop,hq,hqr])
    refine S.c3j (Y:=Nat) (fun d=>⟨[(10,ints k),(4,.rv 1),(9,.sl 1 (ws v)),(8,.rv 0),(7,ints n),(6,ints r),(12,.v (.int .u64 (d:Int)))],[.row 222 1 (ws us),.row 222 1 (ws qs)]⟩) (fun d=>d < 4294967296/\((d*Nm.wv 4294967296 v<=Nm.wv 4294967296 (us.drop k)/\Nm.wv 4294967296 (us.drop k) / Nm.wv 4294967296 v=d) \/ (Nm.wv 4294967296 (us.drop k) < d*Nm.wv 4294967296 v/\0 < d/\Nm.wv 4294967296 (us.drop k) / Nm.wv 4294967296 v=d-1))) ?_ ?_
    · refine S.loop (X:=Nat × Nat) (fun s=>⟨[(10,ints k),(4,.rv 1),(9,.sl 1 (ws v)),(8,.rv 0),(7,ints n),(6,ints r),(12,.v (.int .u64 (s.1:Int))),(13,.v (.int .u64 (s.2:Int)))],[.row 222 1 (ws us),.row 222 1 (ws qs)]⟩) (fun s=>Nm.wv 4294967296 (us.drop k) / Nm.wv 4294967296 v<=s.1/\top=s.1*v1+s.2/\s.2 < 4294967296/\s.1<=18446744073709551615) (fun s=>s.1) (d0,e0) ⟨hs0,by rw [<- hd0,Nat.mul_comm],by simp only;omega,hd0b⟩ (by (repeat first|refine uA ?_|(refine ⟨?_,?_⟩;focus first|rfl|trivial|(simp [slot];done))|rfl|trivial|simp)) ?_
      clear hs0 hd0 hr0 hd0b hq hqr
      rintro ⟨d,rest⟩ ⟨p1,p2,p3,p4⟩
      simp only [ints] at p1 p2 p3 p4 ⊢
      have hor:=b3X rest a0 p3 hA0
      (repeat first|refine uA ?_|(apply uK;focus first|omega|(intros;simp_all<;>omega))|simp only [go_sem,Nat.reduceBEq,Nat.reduceLeDiff,Int.reducePow,D9,I8,a2e]|simp (disch:=omega) only [ww,hb0,ha0,c7j,wd,hi4,hi6,hor])
      have hmul:d < 4294967296->IntKind.u64.wrap ((d:Int)*(v2:Int))=((d*v2:Nat):Int):=fun h=>by
        have h1:d*v2<=4294967295*4294967295:=Nat.mul_le_mul (by omega) (by omega)
        rw [<- Int.natCast_mul,Eng.wrap_u64 (by omega)]
      (refine uJ rfl (fun hc=>?_) fun hc=>?_)
      · have hdec:Nm.wv 4294967296 (us.drop k) / Nm.wv 4294967296 v < d:=by
          refine hE.dec p1 p2 ?_
          rcases c7D d 4294967296 with h|h
          · rw [hmul h] at hc
            omega
          · exact Or.inl h
        have hd1:1<=d:=Nat.lt_of_le_of_lt (c7n _) hdec
        have hdm:(d:Int)-1=((d-1:Nat):Int):=by clear hdec p1;omega
        have hrm:(rest:Int)+(v1:Int)=((rest+v1:Nat):Int):=by omega
        have ht2:top=(d-1)*v1+(rest+v1):=by
          rw [p2]
          conv=>lhs;rw [show d=d-1+1 by omega,Nat.add_mul,Nat.one_mul]
          omega
        (repeat first|refine uA ?_|(apply uK;focus first|omega|(intros;simp_all<;>omega))|simp only [go_sem,Nat.reduceBEq,Nat.reduceLeDiff,Int.reducePow,D9,I8,a2e,hdm]|simp (disch:=omega) only [ww,hb1,c7j,wd,hi5,hrm])
        (refine uJ rfl (fun hc=>?_) fun hc=>?_)
        · have hsm:=hE.small ht2 htp (by omega)
          (repeat first|refine uA ?_|(apply uK;focus first|omega|(intros;simp_all<;>omega))|simp only [go_sem,Nat.reduceBEq,Nat.reduceAdd,Nat.reduceLeDiff,Int.reduceToNat,Int.reducePow]|simp (disch:=omega) only [ww])
          exact S.met (d-1) ⟨hsm,hE.fin (by omega) ht2 hsm (by omega)⟩ (by (repeat first|refine uA ?_|(refine ⟨?_,?_⟩;focus first|rfl|trivial|(simp [slot];done))|rfl|trivial|simp))
        · (repeat first|refine uA ?_|(apply uK;focus first|omega|(intros;simp_all<;>omega))|simp only [go_sem,Nat.reduceBEq,Nat.reduceAdd,Nat.reduceLeDiff,Int.reduceToNat,Int.reducePow]|simp (disch:=omega) only [ww])
          refine S.next (x:=(d,rest)) (d-1,rest+v1) ⟨by simp only;omega,ht2,by simp only;omega,by simp only;omega⟩ (by simp only;omega) (by (repeat first|refine uA ?_|(refine ⟨?_,?_⟩;focus first|rfl|trivial|(simp [slot];done))|rfl|trivial|simp))
      · have hdl:d < 4294967296:=by
          rcases c7D d 4294967296 with h|h
          · exact h
          · exfalso;omega
        rw [hmul hdl] at hc
        (repeat first|refine uA ?_|(apply uK;focus first|omega|(intros;simp_all<;>omega))|simp only [go_sem,Nat.reduceBEq,Nat.reduceAdd,Nat.reduceLeDiff,Int.reduceToNat,Int.reducePow]|simp (disch:=omega) only [ww])
        exact S.met d ⟨hdl,hE.fin p1 p2 hdl (by omega)⟩ (by (repeat first|refine uA ?_|(refine ⟨?_,?_⟩;focus first|rfl|trivial|(simp [slot];done))|rfl|trivial|simp))
    · clear hs0 hd0 hr0 hd0b hq hqr
      rintro d ⟨hd32,hfin⟩
      simp only [ints]
      generalize hW:Nm.wv 4294967296 (us.drop k)=W at *
      generalize hVV:Nm.wv 4294967296 v=V at *
      have htake:=c5s (E:=⟨Tryz.prog,eff,179,w,fun _=>False,O,[],[]⟩) rfl us qs v k d (by omega) (by omega) hua hva hd32 (W:=W) (by rw [g1])
      rw [hVV] at htake
      have hlo:((k:Int)+(n:Int)+1).toNat-k=v.length+1:=by omega
      have hqk:k < qs.length:=by omega
      have hgq:qs[k]?=some (qs[k]'hqk):=c7h hqk
      have hpos:0 < V:=hE.pos
      have hlk:k+v.length+1<=us.length:=by omega
      have hWl:W < 4294967296 ^ (v.length+1):=by
        have:=Nm.L9 4294967296 hwa
        rwa [g4,g1] at this
      have hVl:V<=4294967296 ^ (v.length+1):=by
        rw [<- hVV]
        exact Nat.le_of_lt (c7L (Nm.L9 4294967296 hva) (c7N (by decide) (by omega)))
      have hput:∀ l,put us k (Nm.dig 4294967296 (v.length+1) l)=us.take k++Nm.dig 4294967296 (v.length+1) l++us.drop (k+v.length+1):=fun l=>by
        rw [put,Nm.K4,Nat.add_assoc]
      have hend:Nm.a6R (Nm.wv 4294967296 x*2 ^ r) v (x.length+1) k (put us k (Nm.dig 4294967296 (v.length+1) (W-W / V*V))) (qs.set k (W / V)):=by
        rw [hput]
        refine Nm.b8G hinv hva (by omega) (Nm.K4 _ _ _) (Nm.a0Y (by decide) _ _) (by rw [hW,hVV]) ?_ (by rw [hVV];exact hpos)
        have hm1:=Nat.div_mul_le_self W V
        rw [Nm.X9 (by omega),hW,hVV];omega
      (repeat first|refine uA ?_|(apply uK;focus first|omega|(intros;simp_all<;>omega))|simp only [go_sem,Nat.reduceBEq,D9]|simp (disch:=omega) only [ww,hlo]|refine l9.t htake ?_)
      (refine uJ rfl (fun hc=>?_) fun hc=>?_)
      · rcases hfin with ⟨h1,h2⟩|⟨h1,h2,h3⟩
        · omega
        rw [if_pos h1]
        have hm:(d-1)*V+V=d*V:=by
          conv=>rhs;rw [show d=d-1+1 by omega,Nat.add_mul,Nat.one_mul]
        have hm2:=Nat.div_mul_le_self W V
        rw [h3] at hend hm2
        have hpl:(put us k (Nm.dig 4294967296 (v.length+1) (W+4294967296 ^ (v.length+1)*1-d*V))).length=us.length:=a0h (by rw [Nm.K4];omega)
        have hdV:d*V<=W+4294967296 ^ (v.length+1):=by
          omega
        have hback:=c5V (E:=⟨Tryz.prog,eff,179,w,fun _=>False,O,[],[]⟩) rfl (put us k (Nm.dig 4294967296 (v.length+1) (W+4294967296 ^ (v.length+1)*1-d*V))) qs v k (by omega) (by omega) (c3G hua (Nm.a0Y (by decide) _ _)) hva (W:=W+4294967296 ^ (v.length+1)*1-d*V) (by
          rw [a2C (Nm.K4 _ _ _).symm (by rw [Nm.K4];omega),Nm.X9 (by omega)]) (by rw [hVV];omega)
        rw [hVV,c3t (by rw [Nm.K4,Nm.K4]) (by rw [Nm.K4];omega),show W+4294967296 ^ (v.length+1)*1-d*V+V-4294967296 ^ (v.length+1)=W-(d-1)*V by omega] at hback
        have hdm:(d:Int)-1=((d-1:Nat):Int):=by omega
        (repeat first|refine uA ?_|(apply uK;focus first|omega|(intros;simp_all<;>omega))|simp only [go_sem,Nat.reduceBEq,Nat.reduceAdd,Nat.reduceLeDiff,D9,I8,hgq,c7j,wd,hpl,hdm]|simp (disch:=omega) only [ww,hlo,N9]|refine l9.t hback ?_)
        refine S.next (x:=(k+1,us,qs)) (k,_,_) ⟨by simp only;omega,hend⟩ (by simp only;omega) (by (repeat first|refine uA ?_|(refine ⟨?_,?_⟩;focus first|rfl|trivial|(simp [slot];done))|rfl|trivial|simp))
      · rcases hfin with ⟨h1,h2⟩|⟨h1,h2,h3⟩
        · rw [if_neg (by omega),Nat.mul_zero,Nat.add_zero]
          rw [h2] at hend
          (repeat first|refine uA ?_|(apply uK;focus first|omega|(intros;simp_all<;>omega))|simp only [go_sem,Nat.reduceBEq,Nat.reduceAdd,Nat.reduceLeDiff,D9,I8,hgq,c7j,wd]|simp (disch:=omega) only [ww,N9])
          refine S.next (x:=(k+1,us,qs)) (k,_,_) ⟨by simp only;omega,hend⟩ (by simp only;omega) (by (repeat first|refine uA ?_|(refine ⟨?_,?_⟩;focus first|rfl|trivial|(simp [slot];done))|rfl|trivial|simp))
        · omega
  · have hj0:j=0:=by omega
    subst hj0
    clear hc hj
    obtain ⟨e1,e2⟩:=Nm.b9U hinv hva (by omega)
    rw [hvw,Nat.mul_div_mul_right _ _ (Nat.pow_pos (by decide))] at e1
    rw [hvw,Nat.mul_mod_mul_right,hvl] at e2
    have hq:qs=Nm.dig 4294967296 (x.length+1-n) (Nm.wv 4294967296 x / Nm.wv 4294967296 y):=Nm.Y4 (by decide) hqa (by omega) e1
    rw [<- hq]
    have hps:put us 0 (us.take n)=us:=by
      have:=a5j (us:=us) (k:=0) (n:=n) (by omega)
      rwa [List.drop_zero] at this
    have hra:Nm.F9 (us.take n):=hua.take n
    have hrl:(us.take n).length=n:=by rw [c7s];omega
    generalize us.take n=r0 at *
    (repeat first|refine uA ?_|(apply uK;focus first|omega|(intros;simp_all<;>omega))|simp only [go_sem,Nat.reduceBEq,D9]|simp (disch:=omega) only [ww,D9])
    refine S.loop (X:=Nat × List Nat) (fun s=>⟨[(4,.rv 1),(5,.wv 0 1 0 n),(6,ints r),(7,ints n),(8,.rv 0),(145,ints n),(146,ints s.1)],[.row 222 1 (ws (put us 0 s.2)),.row 222 1 (ws qs)]⟩) (fun s=>s.1<=n/\Nm.a5f r0 (2 ^ r) s.1 s.2) (fun s=>n-s.1) (0,r0) ⟨c7n _,Nm.b3w hra⟩ (by simp only [hps];exact (by (repeat first|refine uA ?_|(refine ⟨?_,?_⟩;focus first|rfl|trivial|(simp [slot];done))|rfl|trivial|simp))) ?_
    rintro ⟨i,out⟩ ⟨hi,hri⟩
    simp only [ints] at hi hri ⊢
    have hol:=hri.1
    have hpl:(put us 0 out).length=us.length:=a0h (by omega)
    (repeat first|refine uA ?_|(apply uK;focus first|omega|(intros;simp_all<;>omega))|simp only [go_sem,Nat.reduceBEq]|simp (disch:=omega) only [ww])
    (refine uJ rfl (fun hc=>?_) fun hc=>?_)
    · have hi':i < n:=by omega
      have hgr:r0[i]?=some (r0[i]'(by omega)):=c7h (by omega)
      have hgo:(put us 0 out)[i]?=some (r0[i]'(by omega)):=by
        have:=V3 (us:=us) (out:=out) (k:=0) (i:=i) (by omega) (by omega)
        rw [c7R] at this
        rw [this,Nm.a0x hri.2.2.1,hgr]
      have hr32':=hra _ (c7x (show i < r0.length by omega))
      have hir:i < r0.length:=by omega
      have hk:=fun t ht=>Nm.b3G (t:=t) hri hr32 hir hra ht
      have hset:∀ a,(put us 0 out).set i a=put us 0 (out.set i a):=fun a=>by
        have:=a0j (us:=us) (out:=out) (k:=0) (i:=i) (v:=a) (by omega) (by omega)
        rwa [c7R] at this
      generalize r0[i]'(by omega)=ri at *
      have hsh:Int.fdiv (ri:Int) (2 ^ min r 32)=((ri / 2 ^ r:Nat):Int):=by
        rw [show min r 32=r by omega,<- a2w];congr 1
      have hrb:ri / 2 ^ r < 4294967296:=Nat.lt_of_le_of_lt (Nat.div_le_self _ _) hr32'
      generalize ri / 2 ^ r=rs at *
      (repeat first|refine uA ?_|(apply uK;focus first|omega|(intros;simp_all<;>omega))|simp only [go_sem,Nat.reduceBEq,Nat.reduceLeDiff,D9,I8,hgo,c7R,c7j,wd,N9,hsh,hset]|simp (disch:=omega) only [ww])
      (refine uJ rfl (fun hc=>?_) fun hc=>?_)
      · have hi1:i+1 < n:=by omega
        have hpl1:(put us 0 (out.set i rs)).length=us.length:=a0h (by rw [c7W];omega)
        have hg1:(put us 0 (out.set i rs))[i]?=some rs:=by
          rw [<- hset,List.getElem?_set_self (by omega)]
        have hg3:r0[i+1]?=some (r0[i+1]'(by omega)):=c7h (by omega)
        have hg2:(put us 0 (out.set i rs))[i+1]?=some (r0[i+1]'(by omega)):=by
          have:=V3 (us:=us) (out:=out) (k:=0) (i:=i+1) (by omega) (by omega)
          rw [c7R] at this
          rw [<- hset,List.getElem?_set_ne (by omega),this]
          have h3:=congrArg (fun l=>l[1]?) hri.2.2.1
          simp only [c7U] at h3
          rw [h3,hg3]
        have hn32:=hra _ (c7x (show i+1 < r0.length by omega))
        have hgd:r0.getD (i+1) 0=r0[i+1]'(by omega):=Nm.getD_lt (by omega)
        rw [hgd] at hk
        generalize r0[i+1]'(by omega)=rn at *
        have hmb:rn*2 ^ (32-r) < 18446744073709551616:=by
          have h1:2 ^ (32-r)<=2 ^ 32:=c7N (by decide) (by omega)
          have h2:rn*2 ^ (32-r)<=4294967295*4294967296:=Nat.mul_le_mul (by omega) h1
          omega
        have hshl:=b7I rn (32-r) hmb (by omega)
        have hrr:((32:Int)-(r:Int)).toNat=32-r:=by omega
        have horl:=b9N rs (rn*2 ^ (32-r)) hrb
        have hk:=hk _ rfl
        rw [if_pos (by omega)] at hk
        generalize rn*2 ^ (32-r)=sh at *
        generalize hto:rs ||| sh % 4294967296=to at *
        have hset2:(put us 0 (out.set i rs)).set i to=put us 0 (out.set i to):=by
          have:=a0j (us:=us) (out:=out.set i rs) (k:=0) (i:=i) (v:=to) (by rw [c7W];omega) (by rw [c7W];omega)
          rwa [c7R,List.set_set] at this
        have hi1n:((i:Int)+1).toNat=i+1:=by omega
        (repeat first|refine uA ?_|(apply uK;focus first|omega|(intros;simp_all<;>omega))|simp only [go_sem,Nat.reduceBEq,Nat.reduceLeDiff,D9,I8,hg1,hpl1,c7R,c7j,wd]|simp (disch:=omega) only [ww,hg2,c7j,wd,hrr,hi1n,hshl,a3E,horl,N9,hset2])
        refine S.next (x:=(i,out)) (i+1,_) ⟨hi',hk.1⟩ (by simp only;omega) (by (repeat first|refine uA ?_|(refine ⟨?_,?_⟩;focus first|rfl|trivial|(simp [slot];done))|rfl|trivial|simp))
      · have hk:=hk _ rfl
        rw [if_neg (by omega)] at hk
        (repeat first|refine uA ?_|(apply uK;focus first|omega|(intros;simp_all<;>omega))|simp only [go_sem,Nat.reduceBEq]|simp (disch:=omega) only [ww])
        refine S.next (x:=(i,out)) (i+1,_) ⟨hi',hk.1⟩ (by simp only;omega) (by (repeat first|refine uA ?_|(refine ⟨?_,?_⟩;focus first|rfl|trivial|(simp [slot];done))|rfl|trivial|simp))
    · have hi':i=n:=by omega
      subst hi'
      rw [<- hrl] at hri
      have he:=Nm.b5V hri (by omega) e2
      have hd:out=Nm.dig 4294967296 i (Nm.wv 4294967296 x % Nm.wv 4294967296 y):=Nm.Y4 (by decide) hri.2.1 (by omega) he
      rw [<- hd]
      have hwin:((ws (put us 0 out)).drop 0).take i=ws out:=by
        rw [List.drop_zero,put,List.take_zero,List.nil_append]
        simp only [ws,c7X]
        rw [List.take_append_of_le_length (by simp;omega),c7C (by simp;omega)]
      (repeat first|refine uA ?_|(apply uK;focus first|omega|(intros;simp_all<;>omega))|simp only [go_sem,Nat.reduceBEq]|simp (disch:=omega) only [ww])
      exact S.done (j3.out rfl (Imp.tup (j4.cons (Imp.frz rfl rfl rfl) (j4.cons (Imp.V5 rfl rfl (by simp only [D9];omega) hwin) j4.nil))) rfl)
namespace Nm
def b0L (x:List Nat) (d j:Nat) (out:List Nat) (rest:Nat):Prop:=
 out.length=x.length/\F9 out/\out.take j=x.take j/\wv 4294967296 (out.drop j)=wv 4294967296 (x.drop j) / d/\rest=wv 4294967296 (x.drop j) % d
theorem b6J {x:List Nat} {d:Nat} (hx:F9 x):b0L x d x.length x 0:=by
 refine ⟨rfl,hx,rfl,?_,?_⟩<;>rw [List.drop_of_length_le (c7p _)]<;>simp [wv]
theorem b6E {x:List Nat} {d j:Nat} {out:List Nat} {rest:Nat} (h:b0L x d (j+1) out rest) (hj:j < x.length) (hd:0 < d) (hd32:d < 4294967296) (hx:x[j] < 4294967296) :
  b0L x d j (out.set j ((rest*4294967296+x[j]) / d)) ((rest*4294967296+x[j]) % d)/\(rest*4294967296+x[j]) / d < 4294967296/\rest < 4294967296:=by
 obtain ⟨h1,h2,h3,h4,h5⟩:=h
 have hrd:rest < d:=by rw [h5];exact Nat.mod_lt _ hd
 have hs:(rest*4294967296+x[j]) / d < 4294967296:=by
  rw [Nat.div_lt_iff_lt_mul hd]
  have:(rest+1)*4294967296<=d*4294967296:=c7M _ hrd
  rw [Nat.mul_comm d] at this;omega
 have hxd:=a2V 4294967296 hj
 have hW:=Nat.div_add_mod (wv 4294967296 (x.drop (j+1))) d
 rw [<- h5,<- h4] at hW
 have e:wv 4294967296 (x.drop j)=(rest*4294967296+x[j])+d*(4294967296*wv 4294967296 (out.drop (j+1))):=by
  rw [hxd,<- hW,Nat.mul_add];grind
 refine ⟨⟨by simp [h1],h2.set hs,?_,?_,?_⟩,hs,by omega⟩
 ·rw [List.take_set_of_le (c7p _)]
  have:=congrArg (List.take j) h3
  simpa [List.take_take,Nat.min_eq_left (show j<=j+1 by omega)] using this
 ·rw [a2V _ (by rw [c7W];omega),List.getElem_set_self,List.drop_set_of_lt (by omega),e,Nat.add_mul_div_left _ _ hd]
 ·rw [e,Nat.add_mul_mod_self_left]
theorem P5 {α:Type} {a b:List α} {j:Nat} (h:a.take (j+1)=b.take (j+1)):a[j]?=b[j]?:=by
 have:=congrArg (fun l=>l[j]?) h
 simpa using this
end Nm
theorem a0p (l:List UInt8):(bs l=(⟨#[]⟩:ByteArray))=(l=[]):=b8n l []
theorem b3L (a b:List UInt8) (ha:a.length<=274877906944) (hb:b.length<=274877906944) (h0:Nm.val b ≠ 0):A9 Tryz.prog 144 [sb a,sb b] (.tup [sb (Nm.enc (Nm.val a / Nm.val b)),sb (Nm.enc (Nm.val a % Nm.val b)),ints 0]):=by
  refine kS b8U b8u (by rfl) fun w O=>?_
  simp only [b1i,j5,TT,II,OA,OB,OC,MM,VV,MG,sb,ints]
  have hta:=Nm.Y6 a
  have htb:=Nm.Y6 b
  have hva:=Nm.R4 a
  have hvb:=Nm.R4 b
  have hla:=Nm.X7 (Nm.trim a)
  have hlb:=Nm.X7 (Nm.trim b)
  have hwa:=Nm.a0s (Nm.trim a)
  have hwb:=Nm.a0s (Nm.trim b)
  have h3a:=Nm.a0o (Nm.trim a)
  have h3b:=Nm.a0o (Nm.trim b)
  have hca:=Nm.X5 a
  have hcb:=Nm.X5 b
  have htopb:=Nm.a7U (Nm.trim b)
  have htopa:=Nm.a7U (Nm.trim a)
  have fta:=a0v a (by omega)
  have ftb:=a0v b (by omega)
  rw [Nm.a8h] at hla hlb
  rw [<- hva,<- hvb]
  rw [<- hvb] at h0
  clear hva hvb
  generalize Nm.trim a=x at *
  generalize Nm.trim b=y at *
  have hy0:y ≠ []:=fun h=>by subst h;exact h0 rfl
  (repeat first|refine uA ?_|(apply uK;focus omega)|simp (disch:=omega) only [go_sem,Nat.reduceBEq,Nat.reduceAdd]|(apply uB fta;exact rfl)|(apply uB ftb;exact rfl))
  (refine uJ rfl (fun hc=>?_) fun hc=>?_)
  · rw [a0p] at hc;exact absurd hc hy0
  (repeat first|refine uA ?_|(apply uK;focus omega)|simp (disch:=omega) only [go_sem,Nat.reduceBEq,F4])
  (refine uJ rfl (fun hc=>?_) fun hc=>?_)
  · have hx7:=Nm.a0r (l:=x) (k:=8) (by omega)
    have hy7:=Nm.a0r (l:=y) (k:=8) (by omega)
    have e1:Nm.val x % 18446744073709551616=Nm.val x:=Nat.mod_eq_of_lt (by omega)
    have e2:Nm.val y % 18446744073709551616=Nm.val y:=Nat.mod_eq_of_lt (by omega)
    have fx:=a1R x (by omega)
    have fy:=a1R y (by omega)
    rw [e1] at fx
    rw [e2] at fy
    have hqb:Nm.val x / Nm.val y < 18446744073709551616:=Nat.lt_of_le_of_lt (Nat.div_le_self _ _) (by omega)
    have hrb:Nm.val x % Nm.val y < 18446744073709551616:=c7L (Nat.mod_lt _ (by omega)) (by omega)
    have hf:=a0z _ hqb
    have hg:=a0z _ hrb
    have hq:Int.tdiv (Nm.val x:Int) (Nm.val y:Int)=((Nm.val x / Nm.val y:Nat):Int):=rfl
    have hr:Int.tmod (Nm.val x:Int) (Nm.val y:Int)=((Nm.val x % Nm.val y:Nat):Int):=rfl
    generalize Nm.val x / Nm.val y=q at *
    generalize Nm.val x % Nm.val y=r at *
    (repeat first|refine uA ?_|(apply uK;focus omega)|simp (disch:=omega) only [go_sem,Nat.reduceBEq,ww,hq,hr]|(apply uB fx;exact rfl)|(apply uB fy;exact rfl)|(apply uB hf;exact rfl)|(apply uB hg;exact rfl))
    exact S.done (j3.out rfl (Imp.refl rfl) rfl)
  have hcn:=b4n (Nm.val x) (Nm.val y)
  (repeat first|refine uA ?_|(apply uK;focus omega)|simp (disch:=omega) only [go_sem,Nat.reduceBEq]|(apply uB (b0v x y (by omega) (by omega));exact rfl))
  (refine uJ rfl (fun hc=>?_) fun hc=>?_)
  · have h1:=hcn.1 hc
    rw [Nat.div_eq_of_lt h1,Nat.mod_eq_of_lt h1,Nm.a0S,Nm.a1r hca]
    (repeat first|refine uA ?_|(apply uK;focus omega)|simp (disch:=omega) only [go_sem,Nat.reduceBEq])
    exact S.done (j3.out rfl (Imp.refl rfl) rfl)
  have hge:Nm.val y<=Nm.val x:=by
    rcases c7D (Nm.val x) (Nm.val y) with h|h
    · exact absurd (hcn.2 h) hc
    · exact h
  have fwx:=a2F x (by omega)
  have fwy:=(a2F y (by omega)).spec
  rw [<- hwa,<- hwb] at hge
  rw [<- hwb] at h0
  rw [<- hwa] at htopa
  rw [<- hwb] at htopb
  rw [<- hwa,<- hwb]
  clear hwa hwb hcn hc
  generalize Nm.K3 x=p at *
  generalize Nm.K3 y=q at *
  have hq0:q ≠ []:=fun h=>by subst h;exact h0 rfl
  have hql:0 < q.length:=List.length_pos_iff.2 hq0
  have hle:q.length<=p.length:=by
    rcases c7D p.length q.length with h|h
    · exfalso
      have h2:=htopb hq0
      have h3:=Nm.L9 4294967296 h3a
      have h4:4294967296 ^ p.length<=4294967296 ^ (q.length-1):=c7N (by decide) (by omega)
      omega
    · exact h
  (repeat first|refine uA ?_|(apply uK;focus omega)|simp (disch:=omega) only [go_sem,Nat.reduceBEq,D9]|refine l9.t (FNew.t fwx rfl) ?_|(apply uB fwy;exact rfl))
  clear fwx fwy fta ftb
  (refine uJ rfl (fun hc=>?_) fun hc=>?_)
  · obtain ⟨d,rfl⟩:∃ d,q=[d]:=by
      match q,hc with
      | [d],_=>exact ⟨d,rfl⟩
      | [],h=>simp at h
      | _::_::_,h=>simp at h;omega
    have hd32:d < 4294967296:=h3b d (by simp)
    have hwd:Nm.wv 4294967296 [d]=d:=by simp [Nm.wv]
    rw [hwd] at h0 ⊢
    have hpl:p.length<=68719476737:=by omega
    clear hge hle htopa htopb hla hlb hc
    (repeat first|refine uA ?_|(apply uK;focus omega)|simp (disch:=omega) only [go_sem,Nat.reduceBEq,ww,D9])
    refine S.loop (X:=Nat × List Nat × Nat) (fun s=>⟨[(7,.rv 0),(8,.sl 1 (ws [d])),(9,.v (.int .u64 (s.2.2:Int))),(10,ints ((s.1:Int)-1))],[.row 222 1 (ws s.2.1)]⟩) (fun s=>s.1<=p.length/\Nm.b0L p d s.1 s.2.1 s.2.2) (fun s=>s.1) (p.length,p,0) ⟨c7p _,Nm.b6J h3a⟩ (by (repeat first|refine uA ?_|(refine ⟨?_,?_⟩;focus first|rfl|trivial|(simp [slot];done))|rfl|trivial|simp)) ?_
    rintro ⟨j,out,rest⟩ ⟨hj,hinv⟩
    simp only [ints] at hj hinv ⊢
    have hol:=hinv.1
    (repeat first|refine uA ?_|(apply uK;focus omega)|simp (disch:=omega) only [go_sem,Nat.reduceBEq])
    (refine uJ rfl (fun hc=>?_) fun hc=>?_)
    · obtain ⟨k,rfl⟩:∃ k,j=k+1:=⟨j-1,by omega⟩
      rw [show (((k+1:Nat):Int)-1)=(k:Int) by omega]
      have hgp:p[k]?=some (p[k]'(by omega)):=c7h (by omega)
      have hgo:out[k]?=some (p[k]'(by omega)):=by rw [Nm.P5 hinv.2.2.1,hgp]
      have hp32:=h3a _ (c7x (show k < p.length by omega))
      obtain ⟨hs,hq32,hr32⟩:=Nm.b6E hinv (by omega) (by omega) hd32 hp32
      generalize p[k]'(by omega)=pk at *
      have hor:=b3X rest pk hr32 hp32
      have hwd0:(ws [d])[0]?=some (wd d):=rfl
      have hq:Int.tdiv ((rest*4294967296+pk:Nat):Int) (d:Int)=(((rest*4294967296+pk) / d:Nat):Int):=rfl
      have hr:Int.tmod ((rest*4294967296+pk:Nat):Int) (d:Int)=(((rest*4294967296+pk) % d:Nat):Int):=rfl
      generalize rest*4294967296+pk=s at *
      generalize s / d=sq at *
      generalize s % d=sr at *
      (repeat first|refine uA ?_|(apply uK;focus omega)|simp (disch:=omega) only [go_sem,Nat.reduceBEq,Nat.reduceAdd,Nat.reduceLeDiff,Int.reducePow,ww,D9,I8,hgo,hwd0,c7j,wd,hor,hq,hr,N9])
      refine S.next (x:=(k+1,out,rest)) (k,_,_) ⟨by simp only;omega,hs⟩ (by simp only;omega) (by (repeat first|refine uA ?_|(refine ⟨?_,?_⟩;focus first|rfl|trivial|(simp [slot];done))|rfl|trivial|simp))
    · have hj0:j=0:=by omega
      subst hj0
      obtain ⟨h1,h2,_,h4,h5⟩:=hinv
      rw [List.drop_zero] at h4 h5
      rw [List.drop_zero] at h4
      rw [<- h4,<- h5]
      have hrd:rest < d:=by rw [h5];exact Nat.mod_lt _ (by omega)
      have ft:=a4G out (by omega) h2
      have hf:=a0z rest (by omega)
      (repeat first|refine uA ?_|(apply uK;focus omega)|simp (disch:=omega) only [go_sem,Nat.reduceBEq]|(apply uB hf;exact rfl)|(apply uC ft;exact rfl;focus (repeat' first|exact j4.nil|exact Imp.refl rfl|exact Imp.frz rfl rfl rfl|(refine Imp.V5 rfl rfl ?_ ?_;(focus ((try simp only [c7t]);omega));(focus first|rfl|assumption))|refine j4.cons ?_ ?_);done))
      exact S.done (j3.out rfl (Imp.refl rfl) rfl)
  · have hfl:=c5g p q (by omega) h3a h3b hle (by omega) (htopb hq0)
    have hqx:=Nm.L9 4294967296 h3a
    have hpw:4294967296 ^ p.length=4294967296 ^ (p.length+1-q.length)*4294967296 ^ (q.length-1):=by
      rw [<- Nat.pow_add];congr 1;omega
    have hqq:Nm.wv 4294967296 p / Nm.wv 4294967296 q < 4294967296 ^ (p.length+1-q.length):=by
      rw [Nat.div_lt_iff_lt_mul (by omega)]
      rw [hpw] at hqx
      exact c7L hqx (Nat.mul_le_mul_left _ (htopb hq0))
    have hqy:=Nm.L9 4294967296 h3b
    have hrr:Nm.wv 4294967296 p % Nm.wv 4294967296 q < 4294967296 ^ q.length:=Nat.lt_trans (Nat.mod_lt _ (by omega)) hqy
    have ft1:=a4G _ (by rw [Nm.K4];omega) (Nm.a0Y (B:=4294967296) (by decide) (p.length+1-q.length) (Nm.wv 4294967296 p / Nm.wv 4294967296 q))
    have ft2:=a4G _ (by rw [Nm.K4];omega) (Nm.a0Y (B:=4294967296) (by decide) q.length (Nm.wv 4294967296 p % Nm.wv 4294967296 q))
    rw [Nm.X9 hqq] at ft1
    rw [Nm.X9 hrr] at ft2
    refine S.weaken (st':=⟨[(7,.sl 1 (ws p)),(8,.sl 1 (ws q))],[.gone]⟩) (Ent.mk _ _ (O0.cons (Imp.frz rfl rfl rfl) (O0.cons (Imp.refl rfl) O0.nil)) (by (repeat first|refine uA ?_|rfl|simp [slot])) (c7n _)) ?_
    (repeat first|refine uA ?_|(apply uK;focus omega)|simp (disch:=omega) only [go_sem,Nat.reduceBEq]|(apply uB hfl;exact rfl)|(apply uB ft1;exact rfl)|(apply uB ft2;exact rfl))
    exact S.done (j3.out rfl (Imp.refl rfl) rfl)
end Go.Proofs.YtgpegbfnlkidjaaGreatDoor
namespace Go.Proofs
open Go.Shelf
def Tryz.b5D:Go.Shelf.Ren:=⟨fun|29=>215|n=>n,fun|22=>218|3=>3|4=>4|25=>223|54=>276|0=>0|5=>5|n=>n,fun|1=>1|n=>n⟩
theorem Tryz.c1K:Go.Proofs.Lays7.n29 Tryz.prog Tryz.b5D:={
 mixed:=by kernel_rfl
 f29:=Tryz.func215.trans (congrArg some (by kernel_rfl))
 t0:=Tryz.underlying0
 a0:=Tryz.isAgg0
 z0:=Tryz.sizeOf0
 v0:=Tryz.zeroValue0
 i0:=by kernel_rfl
 t3:=Tryz.underlying3
 a3:=Tryz.isAgg3
 z3:=Tryz.sizeOf3
 v3:=Tryz.zeroValue3
 i3:=by kernel_rfl
 t4:=Tryz.underlying4
 a4:=Tryz.isAgg4
 z4:=Tryz.sizeOf4
 v4:=Tryz.zeroValue4
 i4:=by kernel_rfl
 t5:=Tryz.underlying5
 a5:=Tryz.isAgg5
 z5:=Tryz.sizeOf5
 v5:=Tryz.zeroValue5
 i5:=by kernel_rfl
 t22:=Tryz.underlying218
 a22:=Tryz.isAgg218
 z22:=Tryz.sizeOf218
 v22:=Tryz.zeroValue218
 i22:=by kernel_rfl
 t25:=Tryz.underlying223
 a25:=Tryz.isAgg223
 z25:=Tryz.sizeOf223
 v25:=Tryz.zeroValue223
 i25:=by kernel_rfl
 t54:=Tryz.underlying276
 a54:=Tryz.isAgg276
 z54:=Tryz.sizeOf276
 g1:=by kernel_rfl }
open Go.RowKit in
theorem Tryz.bits_TrailingZeros64 (x:Nat) (hx:x < 18446744073709551616) (w:World) (hT:x ≠ 0->TabAt 1 Lib.deBruijn64tab w) :
  Calls Tryz.prog 215 #[.int .u64 x] w fun e w'=>e=.returned (.int .i64 (Lib.ctz 64 x))/\w'=w:=Any7.bits_TrailingZeros64 Tryz.c1K x hx w hT
end Go.Proofs
namespace Go.Proofs.YtgpegbfnlkidjaaGreatDoor
open Go Go.RowKit Eng
def Wz (w:World):Prop:=TabAt 1 Lib.deBruijn64tab w
abbrev FZ (f:Nat) (args:List C) (r:C):Prop:=a0u Tryz.prog Wz f args r
namespace Eng
def Tz (E:Ctx):Prop:=Wz E.w0/\¬ E.own0 1
theorem c2O {w:World} (h:Wz w):1 < w.heap.size:=by
 have:=h 0 (by decide)
 exact block_lt_of_cell this
theorem Tz.at {E:Ctx} (h:Tz E) {w:World} (hF:Frm E.own0 E.w0 w):Wz w:=by
 intro j hj
 rw [<- h.1 j hj]
 exact World.cell?_of_block (hF.block _ (c2O h.1) h.2)
section
variable {E:Ctx} {rs:List Res} {f:Nat} {args args':List C} {r:C}
theorem R3.c2Y {p:Bool} (ht:Tz E) (hs:p=true->a0u E.P Wz f args' r) (hi:p=true->j4 rs rs args args') (hcl:p=true->C.clL args'=true):R3 E rs p f args r:=by
 intro hp av ν w vs hR hav hF hD
 have hlt:∀ b,OO av rs ν b->b < w.heap.size:=fun b hb=>by
  rcases hb with hb|hb
  ·exact hR.av b hb
  ·exact (hR.low b hb).1
 have hD':=(hi hp).den hR (Cut.of hR (a3N rs)) hD
 have et:ν.take rs.length=ν:=by rw [<- hR.len];exact c7y
 rw [et] at hD'
 refine (hs hp (OO av rs ν) w vs (ht.at hF) hlt (hD'.fz (hcl hp))).mono ?_
 rintro e w' ⟨y,rfl,h1,h2⟩
 exact ⟨y,rfl,h1,h2.den ν⟩
theorem R3.c6p {p:Bool} (ht:Tz E) (hs:p=true->a0u E.P Wz f args' r) (hi:p=true->j4 rs [] args args') (hcl:p=true->C.clL args'=true) (hr:r.flat=true):R3 E rs p f args r:=by
 intro hp av ν w vs hR hav hF hD
 have hC:Cut av rs [] ν:=Cut.of hR (by simp [R9])
 have hD':=(hi hp).den hR hC hD
 have hlt:∀ b,OO av [] (ν.take ([]:List Res).length) b->b < w.heap.size:=fun b hb=>by
  rcases hC.sub b hb with hb|hb
  ·exact hR.av b hb
  ·exact (hR.low b hb).1
 refine (hs hp _ w vs (ht.at hF) hlt (hD'.fz (hcl hp))).mono ?_
 rintro e w' ⟨y,rfl,h1,h2⟩
 exact ⟨y,rfl,h1,Fz.flat hr h2⟩
variable {g q:Prop} {p:Bool} {a a':List C}
theorem uD {P:Program} (hs:a0u P Wz f a' r) [h:By g E rs p f a r q] (ht:Tz E) (e:(E.P,a,(C.bdL rs.length a && C.clL a))=(P,a',true)) (x:q):g:=by
 injection e with e1 e2
 injection e2 with e2 e3
 rw [c7q] at e3
 subst e1 e2
 exact h.go (R3.c2Y ht (fun _=>hs) (fun _=>j4.refl e3.1) (fun _=>e3.2)) x
theorem uE {P:Program} (hs:a0u P Wz f a' r) [h:By g E rs p f a r q] (ht:Tz E) (e:(E.P,C.clL a',r.flat)=(P,true,true)) (hi:j4 rs [] a a') (x:q):g:=by
 injection e with e1 e2
 injection e2 with e2 e3
 subst e1
 exact h.go (R3.c6p ht (fun _=>hs) (fun _=>hi) (fun _=>e2) e3) x
theorem uG {P:Program} (hs:a0u P Wz f a' r) {st:St} {ok:Prop} {d:Option Nat} {K:St->Prop} (x:ok/\KPg st false d K r):a0B E st false f a ok d K:=
 .inr ⟨x.1,.inr (.inr ⟨r,(fun h=>absurd h (by decide)),x.2⟩)⟩
end
theorem tz {P:Program} {eff:Nat->Bool} {N:Nat} {w:World} {O:Nat->Prop} (hw:Wz w):Tz ⟨P,eff,N,w,fun _=>False,O,[],[]⟩:=⟨hw,fun h=>h⟩
end Eng
theorem c4P {x:Nat} (h0:x ≠ 0) (h:x < 18446744073709551616):Lib.ctz 64 x=Nm.v2 x:=by
 unfold Lib.ctz
 rw [if_neg h0]
 obtain ⟨m,h1,_⟩:=Lib.ctzFrom_spec 64 x (by omega) h
 exact (Nm.c2U h1 (by omega)).symm
theorem c6U (x:Nat) (h0:x ≠ 0) (h:x < 18446744073709551616):FZ 215 [.v (.int .u64 (x:Int))] (.v (.int .i64 (Nm.v2 x:Int))):=by
 intro O w vs hw hO hA
 simp only [FzL,Fz] at hA
 obtain ⟨y,ys,rfl,rfl,rfl⟩:=hA
 refine (Tryz.bits_TrailingZeros64 x h w (fun _=>hw)).mono ?_
 rintro e w' ⟨rfl,rfl⟩
 exact ⟨_,rfl,Below.refl _ _,by simp only [Fz,c4P h0 h]⟩
set_option maxRecDepth 10000
set_option maxHeartbeats 4000000
def ls (l:List Nat):List (List C):=l.map lm
theorem F7 (l:List Nat):(ls l).length=l.length:=by simp [ls]
theorem N8 (l:List Nat) (i:Nat):(ls l)[i]?=(l[i]?).map lm:=by simp [ls]
theorem a1E (l:List Nat) (i v:Nat):(ls l).set i [.v (.int .u64 (v:Int))]=ls (l.set i v):=by
 simp only [ls,List.map_set,lm]
theorem c2g (n:Nat):List.replicate n [C.v (.int .u64 0)]=ls (List.replicate n 0):=by simp [ls,lm]
theorem c6D (n:Nat) (h:n<=1099511627776):IntKind.i64.wrap (((n:Int)+7).tdiv 8)=(((n+7) / 8:Nat):Int):=by
 have:((n:Int)+7).tdiv 8=(((n+7) / 8:Nat):Int):=rfl
 rw [this,Eng.wrap_i64 (by omega)]
theorem c3c (i:Nat) (h:i<=1099511627776):IntKind.i64.wrap ((i:Int).tdiv 8)=((i / 8:Nat):Int):=by
 have:(i:Int).tdiv 8=((i / 8:Nat):Int):=rfl
 rw [this,Eng.wrap_i64 (by omega)]
theorem b5U (i:Nat):(i:Int).tmod 8=((i % 8:Nat):Int):=rfl
theorem c0q (o:Nat) (b:UInt8) (i:Nat) (ho:o < 18446744073709551616) (hb:b.toNat*2 ^ (8*(i % 8)) < 18446744073709551616) :
  bits .or .u64 (o:Int) (IntKind.u64.wrap (IntKind.u64.wrap ((b.toNat:Nat):Int)*2 ^ min (((i % 8:Nat):Int)*8).toNat 64))=((o ||| b.toNat*2 ^ (8*(i % 8)):Nat):Int):=by
 have h0:=b.toNat_lt
 rw [Eng.wrap_u64 (n:=((b.toNat:Nat):Int)) (by omega),show min (((i % 8:Nat):Int)*8).toNat 64=8*(i % 8) by omega]
 have e:((b.toNat:Nat):Int)*2 ^ (8*(i % 8))=((b.toNat*2 ^ (8*(i % 8)):Nat):Int):=by rw [Int.natCast_mul,Int.natCast_pow];rfl
 rw [e,Eng.wrap_u64 (by omega),b0j _ _ ho hb]
namespace Nm
def M7 (l:List Nat):Prop:=∀ w ∈ l,w < 18446744073709551616
theorem M7.take {l:List Nat} (h:M7 l) (n:Nat):M7 (l.take n):=fun w hw=>h w (List.mem_of_mem_take hw)
theorem M7.drop {l:List Nat} (h:M7 l) (n:Nat):M7 (l.drop n):=fun w hw=>h w (List.mem_of_mem_drop hw)
def R5 (l:List UInt8):List Nat:=dig 18446744073709551616 ((l.length+7) / 8) (val l)
theorem a9o (l:List UInt8):(R5 l).length=(l.length+7) / 8:=K4 _ _ _
theorem b0z (l:List UInt8):M7 (R5 l):=a0Y (by decide) _ _
theorem b1a (l:List UInt8):wv 18446744073709551616 (R5 l)=val l:=X9 (by
 refine c7L (Y8 l) ?_
 rw [show (18446744073709551616:Nat)=256 ^ 8 by decide,<- Nat.pow_mul]
 exact c7N (by decide) (by omega))
theorem b2l {l:List UInt8} {out:List Nat} (h:a3e l l.length out):out=R5 l:=by
 obtain ⟨h1,h2,h3,_⟩:=h
 exact Y4 (by decide) h2 h1 (by rw [h3,Nat.sub_self,List.drop_zero])
end Nm
theorem b7x (m:List UInt8) (hm:m.length<=1099511627776):FNew Tryz.prog 196 [sb m] 218 1 (ls (Nm.R5 m)):=by
 refine FNew.of (eff:=eff) Tryz.func196 (by cbv) (by exact c7z rfl) fun w O=>?_
 simp only [j5,TT,II,OA,OB,MM,VV,sb]
 (repeat first|refine uA ?_|(apply uK;focus omega)|simp only [go_sem,Nat.reduceBEq,Nat.reduceAdd,F4]|simp (disch:=omega) only [ww,c6D m.length hm])
 refine S.loop (X:=Nat × List Nat) (fun x=>⟨[(0,sb m),(3,.rv 0),(11,ints m.length),(12,ints x.1)],[.row 218 1 (ls x.2)]⟩) (fun x=>x.1<=m.length/\Nm.a3e m x.1 x.2) (fun x=>m.length-x.1) (0,List.replicate ((m.length+7) / 8) 0) ⟨c7n _,Nm.b0Z m⟩ (by simp only [<- c2g];exact (by (repeat first|refine uA ?_|(refine ⟨?_,?_⟩;focus first|rfl|trivial|(simp [slot];done))|rfl|trivial|simp))) ?_
 rintro ⟨i,out⟩ ⟨hi,hinv⟩
 simp only [sb,ints] at hi hinv ⊢
 (repeat first|refine uA ?_|(apply uK;focus omega)|simp (disch:=omega) only [go_sem,Nat.reduceBEq])
 (refine uJ rfl (fun hc=>?_) fun hc=>?_)
 ·have hi':i < m.length:=by omega
  have hol:=hinv.1
  have hj:i / 8 < out.length:=by omega
  obtain ⟨hst,hlt,hbl⟩:=Nm.b0p hinv hi' hj
  have hgo:out[i / 8]?=some out[i / 8]:=c7h hj
  have ho32:=hinv.2.1 _ (c7x hj)
  have hgm:m.getD ((m.length:Int)-1-(i:Int)).toNat 0=m[m.length-1-i]:=by
   rw [show ((m.length:Int)-1-(i:Int)).toNat=m.length-1-i by omega,c7u,c7h (by omega)]
   rfl
  (repeat first|refine uA ?_|(apply uK;focus omega)|simp only [go_sem,Nat.reduceBEq,Nat.reduceAdd,Nat.reduceLeDiff,F4,a0m,F7,N8,hgo,c7j,c3c i (by omega),b5U,lm]|simp (disch:=omega) only [ww,hgm,c0q _ _ _ ho32 hbl,a1E])
  refine S.next (x:=(i,out)) (i+1,_) ⟨hi',hst⟩ (by simp only;omega) (by (repeat first|refine uA ?_|(refine ⟨?_,?_⟩;focus first|rfl|trivial|(simp [slot];done))|rfl|trivial|simp))
 ·have hi':i=m.length:=by omega
  subst hi'
  (repeat first|refine uA ?_|(apply uK;focus omega)|simp (disch:=omega) only [go_sem,Nat.reduceBEq])
  rw [<- Nm.b2l hinv]
  exact S.done (j3.new rfl rfl rfl)
theorem b5S (x y:Nat) (hx:x < 18446744073709551616) (hy:y < 18446744073709551616):A9 Tryz.prog 173 [.v (.int .u64 (x:Int)),.v (.int .u64 (y:Int))] (.v (.int .u64 (Nat.gcd x y:Int))):=by
 refine kS Tryz.func173 (by cbv) (by rfl) fun w O=>?_
 simp only [j5,TT,OA,MM]
 (repeat first|refine uA ?_|(apply uK;focus omega)|simp (disch:=omega) only [go_sem])
 refine S.loop (X:=Nat × Nat) (fun s=>⟨[(0,.v (.int .u64 (s.1:Int))),(1,.v (.int .u64 (s.2:Int)))],[]⟩) (fun s=>Nat.gcd s.1 s.2=Nat.gcd x y/\s.2 < 18446744073709551616) (fun s=>s.2) (x,y) ⟨rfl,hy⟩ (by (repeat first|refine uA ?_|(refine ⟨?_,?_⟩;focus first|rfl|trivial|(simp [slot];done))|rfl|trivial|simp)) ?_
 rintro ⟨a,b⟩ ⟨h1,h2⟩
 simp only at h1 h2 ⊢
 (repeat first|refine uA ?_|(apply uK;focus omega)|simp (disch:=omega) only [go_sem,Nat.reduceBEq])
 (refine uJ rfl (fun hc=>?_) fun hc=>?_)
 ·have hr:Int.tmod (a:Int) (b:Int)=((a % b:Nat):Int):=rfl
  have hlt:a % b < b:=Nat.mod_lt _ (by omega)
  (repeat first|refine uA ?_|(apply uK;focus omega)|simp only [go_sem,Nat.reduceBEq,hr]|simp (disch:=omega) only [ww,hr])
  refine S.next (x:=(a,b)) (b,a % b) ⟨by rw [<- h1];simp only;rw [Nat.gcd_comm b,<- Nat.gcd_rec,Nat.gcd_comm],by simp only;omega⟩ (by simp only;omega) (by (repeat first|refine uA ?_|(refine ⟨?_,?_⟩;focus first|rfl|trivial|(simp [slot];done))|rfl|trivial|simp))
 ·have hb:b=0:=by omega
  subst hb
  rw [Nat.gcd_zero_right] at h1
  rw [<- h1]
  (repeat first|refine uA ?_|(apply uK;focus omega)|simp (disch:=omega) only [go_sem,Nat.reduceBEq])
  exact S.done (j3.out rfl (Imp.refl rfl) rfl)
theorem c4n (x y:List Nat) (hxl:x.length<=274877906944) (hyl:y.length<=274877906944) (hx:Nm.M7 x) (hy:Nm.M7 y) (hxc:∀ h:x ≠ [],x.getLast h ≠ 0) (hyc:∀ h:y ≠ [],y.getLast h ≠ 0) :
    A9 Tryz.prog 199 [.sl 1 (ls x),.sl 1 (ls y)] (.v (.bool (decide (Nm.wv 18446744073709551616 x < Nm.wv 18446744073709551616 y)))):=by
  have top:∀ {a b:List Nat},Nm.M7 a->(∀ h:b ≠ [],b.getLast h ≠ 0)->a.length < b.length->Nm.wv 18446744073709551616 a < Nm.wv 18446744073709551616 b:=by
    intro a b ha hb hl
    have hne:b ≠ []:=fun h=>by subst h;simp at hl
    have h1:=Nm.b5l (B:=18446744073709551616) (l:=b.dropLast) (hb hne)
    rw [List.dropLast_concat_getLast hne,List.length_dropLast] at h1
    have h2:=Nm.L9 18446744073709551616 ha
    have h3:18446744073709551616 ^ a.length<=18446744073709551616 ^ (b.length-1):=c7N (by decide) (by omega)
    omega
  refine kS Tryz.func199 (by cbv) (by rfl) fun w O=>?_
  simp only [j5,TT,II,OA,MM,VV]
  (repeat first|refine uA ?_|(apply uK;focus omega)|simp only [go_sem,Nat.reduceBEq,Nat.reduceAdd,F7]|simp (disch:=omega) only [ww,F7])
  (refine uJ rfl (fun hc=>?_) fun hc=>?_)
  · have he:decide (Nm.wv 18446744073709551616 x < Nm.wv 18446744073709551616 y)=decide ((x.length:Int) < (y.length:Int)):=by
      rw [decide_eq_decide]
      constructor
      · intro h
        rcases Nat.lt_trichotomy x.length y.length with h1|h1|h1
        · omega
        · omega
        · have:=top hy hxc h1;omega
      · intro h;exact top hx hyc (by omega)
    rw [he]
    (repeat first|refine uA ?_|(apply uK;focus omega)|simp only [go_sem,Nat.reduceBEq,F7]|simp (disch:=omega) only [ww,F7])
    exact S.done (j3.out rfl (Imp.refl rfl) rfl)
  · have hl:x.length=y.length:=by omega
    (repeat first|refine uA ?_|(apply uK;focus omega)|simp only [go_sem,Nat.reduceBEq,F7]|simp (disch:=omega) only [ww])
    refine S.loop (X:=Nat) (fun j=>⟨[(0,.sl 1 (ls x)),(1,.sl 1 (ls y)),(5,ints ((j:Int)-1))],[]⟩) (fun j=>j<=x.length/\x.drop j=y.drop j) (fun j=>j) x.length ⟨c7p _,by rw [List.drop_of_length_le (c7p _),List.drop_of_length_le (by omega)]⟩ (by (repeat first|refine uA ?_|(refine ⟨?_,?_⟩;focus first|rfl|trivial|(simp [slot];done))|rfl|trivial|simp)) ?_
    rintro j ⟨hj,hd⟩
    simp only [ints]
    (repeat first|refine uA ?_|(apply uK;focus omega)|simp (disch:=omega) only [go_sem,Nat.reduceBEq])
    (refine uJ rfl (fun hc=>?_) fun hc=>?_)
    · obtain ⟨k,rfl⟩:∃ k,j=k+1:=⟨j-1,by omega⟩
      rw [show (((k+1:Nat):Int)-1)=(k:Int) by omega]
      have hgx:x[k]?=some (x[k]'(by omega)):=c7h (by omega)
      have hgy:y[k]?=some (y[k]'(by omega)):=c7h (by omega)
      have hsx:=Nm.a3A 18446744073709551616 x k (by omega)
      have hsy:=Nm.a3A 18446744073709551616 y k (by omega)
      have hdx:x.drop k=x[k]'(by omega)::x.drop (k+1):=List.drop_eq_getElem_cons (by omega)
      have hdy:y.drop k=y[k]'(by omega)::y.drop (k+1):=List.drop_eq_getElem_cons (by omega)
      generalize x[k]'(by omega)=xk at *
      generalize y[k]'(by omega)=yk at *
      rw [hdx] at hsx
      rw [hdy,<- hd] at hsy
      simp only [Nm.wv] at hsx hsy
      generalize Nm.wv 18446744073709551616 (x.drop (k+1))=T at *
      have hlx:=Nm.L9 18446744073709551616 (hx.take k)
      have hly:=Nm.L9 18446744073709551616 (hy.take k)
      rw [c7s,Nat.min_eq_left (by omega)] at hlx hly
      rw [Nat.mul_add] at hsx hsy
      (repeat first|refine uA ?_|(apply uK;focus omega)|simp only [go_sem,Nat.reduceBEq,F7,N8,hgx,hgy,c7j,lm]|simp (disch:=omega) only [ww,F7,N8,hgx,hgy,c7j,lm])
      (refine uJ rfl (fun hc=>?_) fun hc=>?_)
      · have he:decide (Nm.wv 18446744073709551616 x < Nm.wv 18446744073709551616 y)=decide ((xk:Int) < (yk:Int)):=by
          rw [decide_eq_decide]
          rcases Nat.lt_trichotomy xk yk with h|h|h
          · have:=Nat.mul_le_mul_left (18446744073709551616 ^ k) h
            rw [Nat.mul_succ] at this
            omega
          · omega
          · have:=Nat.mul_le_mul_left (18446744073709551616 ^ k) h
            rw [Nat.mul_succ] at this
            omega
        rw [he]
        (repeat first|refine uA ?_|(apply uK;focus omega)|simp only [go_sem,Nat.reduceBEq,F7,N8,hgx,hgy,c7j,lm]|simp (disch:=omega) only [ww,F7,N8,hgx,hgy,c7j,lm])
        exact S.done (j3.out rfl (Imp.refl rfl) rfl)
      · have:xk=yk:=by omega
        (repeat first|refine uA ?_|(apply uK;focus omega)|simp (disch:=omega) only [go_sem,Nat.reduceBEq,ww])
        refine S.next (x:=k+1) k ⟨by omega,by rw [hdx,hdy,this,hd]⟩ (by omega) (by (repeat first|refine uA ?_|(refine ⟨?_,?_⟩;focus first|rfl|trivial|(simp [slot];done))|rfl|trivial|simp))
    · have hj0:j=0:=by omega
      subst hj0
      rw [List.drop_zero,List.drop_zero] at hd
      rw [hd]
      have he:decide (Nm.wv 18446744073709551616 y < Nm.wv 18446744073709551616 y)=false:=by simp
      rw [he]
      (repeat first|refine uA ?_|(apply uK;focus omega)|simp (disch:=omega) only [go_sem])
      exact S.done (j3.out rfl (Imp.refl rfl) rfl)
theorem c3V {x n:Nat} {T:Nat} (h0:x ≠ 0) (h:x < 18446744073709551616):Nm.v2 (18446744073709551616 ^ n*(x+18446744073709551616*T))=64*n+Nm.v2 x:=by
 obtain ⟨q,h1,h2⟩:=Nm.a3r h0
 have hk:Nm.v2 x < 64:=by
  rcases c7D (Nm.v2 x) 64 with h3|h3
  ·exact h3
  ·exfalso
   have h4:2 ^ 64<=2 ^ Nm.v2 x:=c7N (by decide) h3
   have h5:2 ^ Nm.v2 x<=2 ^ Nm.v2 x*q:=Nat.le_mul_of_pos_right _ (by omega)
   omega
 refine Nm.c2U (q:=q+2 ^ (64-Nm.v2 x)*T) ?_ ?_
 ·have e1:(18446744073709551616:Nat)=2 ^ Nm.v2 x*2 ^ (64-Nm.v2 x):=by rw [<- Nat.pow_add,show Nm.v2 x+(64-Nm.v2 x)=64 by omega]
  have e2:(18446744073709551616:Nat) ^ n=2 ^ (64*n):=by rw [Nat.pow_mul]
  rw [e2,Nat.pow_add,c7O]
  congr 1
  conv=>lhs;rw [h1]
  rw [Nat.mul_add,<- c7O (2 ^ Nm.v2 x),<- e1]
 ·have e3:2 ^ (64-Nm.v2 x)=2*2 ^ (64-Nm.v2 x-1):=by rw [<- Nat.pow_succ'];congr 1;omega
  rw [e3,c7O];omega
theorem a8C (x:List Nat) (hxl:x.length<=274877906944) (hx:Nm.M7 x) (h0:Nm.wv 18446744073709551616 x ≠ 0):FZ 197 [.sl 1 (ls x)] (ints (Nm.v2 (Nm.wv 18446744073709551616 x))):=by
 refine kW Tryz.func197 (by cbv) (by rfl) fun w O hw=>?_
 simp only [j5,TT,II,OA,MM,VV,ints]
 (repeat first|refine uA ?_|(apply uK;focus omega)|simp (disch:=omega) only [go_sem])
 refine S.loop (X:=Nat) (fun n=>⟨[(0,.sl 1 (ls x)),(3,ints n)],[]⟩) (fun n=>n<=x.length/\Nm.wv 18446744073709551616 x=18446744073709551616 ^ n*Nm.wv 18446744073709551616 (x.drop n)) (fun n=>x.length-n) 0 ⟨c7n _,by simp⟩ (by (repeat first|refine uA ?_|(refine ⟨?_,?_⟩;focus first|rfl|trivial|(simp [slot];done))|rfl|trivial|simp)) ?_
 rintro n ⟨hn,hv⟩
 simp only [ints]
 have hn':n < x.length:=by
  rcases c7D n x.length with h|h
  ·exact h
  ·rw [List.drop_of_length_le h] at hv;simp [Nm.wv] at hv;exact absurd hv h0
 have hgx:x[n]?=some (x[n]'hn'):=c7h hn'
 have hd:x.drop n=x[n]'hn'::x.drop (n+1):=List.drop_eq_getElem_cons hn'
 have hx64:=hx _ (c7x hn')
 generalize x[n]'hn'=xn at *
 rw [hd] at hv
 simp only [Nm.wv] at hv
 (repeat first|refine uA ?_|(apply uK;focus omega)|simp only [go_sem,Nat.reduceBEq,F7,N8,hgx,c7j,lm]|simp (disch:=omega) only [ww,F7,N8,hgx,c7j,lm])
 (refine uJ rfl (fun hc=>?_) fun hc=>?_)
 ·have hz:xn=0:=by omega
  subst hz
  (repeat first|refine uA ?_|(apply uK;focus omega)|simp (disch:=omega) only [go_sem,Nat.reduceBEq,ww])
  refine S.next (x:=n) (n+1) ⟨hn',by rw [hv,c7R,<- c7O,c7T]⟩ (by omega) (by (repeat first|refine uA ?_|(refine ⟨?_,?_⟩;focus first|rfl|trivial|(simp [slot];done))|rfl|trivial|simp))
 ·have hz:xn ≠ 0:=by omega
  have he:=c3V (n:=n) (T:=Nm.wv 18446744073709551616 (x.drop (n+1))) hz hx64
  rw [<- hv] at he
  rw [he]
  have htz:=c6U xn hz hx64
  have hk:Nm.v2 xn < 64:=by
   obtain ⟨q,h1,h2⟩:=Nm.a3r hz
   rcases c7D (Nm.v2 xn) 64 with h3|h3
   ·exact h3
   ·exfalso
    have h4:2 ^ 64<=2 ^ Nm.v2 xn:=c7N (by decide) h3
    have h5:2 ^ Nm.v2 xn<=2 ^ Nm.v2 xn*q:=Nat.le_mul_of_pos_right _ (by omega)
    omega
  have hcast:((64*n+Nm.v2 xn:Nat):Int)=64*(n:Int)+(Nm.v2 xn:Int):=by omega
  rw [hcast]
  generalize Nm.v2 xn=k at *
  (repeat first|refine uA ?_|(apply uK;focus omega)|simp only [go_sem,Nat.reduceBEq,F7,N8,hgx,c7j,lm]|simp (disch:=omega) only [ww]|(apply uD htz;exact tz hw;rfl))
  exact S.done (j3.out rfl (Imp.refl rfl) rfl)
namespace Nm
def G7 (l:List Nat):List Nat:=(l.reverse.dropWhile (· == 0)).reverse
theorem a6D (l:List Nat):G7 (l++[0])=G7 l:=by simp [G7]
theorem a4u {l:List Nat} {x:Nat} (h:x ≠ 0):G7 (l++[x])=l++[x]:=by simp [G7,h]
theorem a7L:G7 []=[]:=rfl
theorem a5E (l:List Nat):G7 l=l.take (G7 l).length/\(G7 l).length<=l.length/\(∀ B,wv B (G7 l)=wv B l)/\(∀ h:G7 l ≠ [],(G7 l).getLast h ≠ 0):=by
 obtain ⟨r,rfl⟩:∃ r,l=r.reverse:=⟨l.reverse,by simp⟩
 induction r with
 | nil=>simp [a7L]
 | cons x r ih=>
  rw [List.reverse_cons]
  by_cases hx:x=0
  ·subst hx
   rw [a6D]
   obtain ⟨h1,h2,h3,h4⟩:=ih
   refine ⟨?_,by rw [c7t];omega,fun B=>?_,h4⟩
   ·rw [List.take_append_of_le_length h2];exact h1
   ·rw [h3,a8L];simp
  ·rw [a4u hx]
   refine ⟨by rw [c7y],c7p _,fun B=>rfl,fun h=>?_⟩
   rw [List.getLast_concat];exact hx
theorem c1r (l:List Nat):(G7 l).length<=l.length:=(a5E l).2.1
theorem c2L (B:Nat) (l:List Nat):wv B (G7 l)=wv B l:=(a5E l).2.2.1 B
theorem b8H (l:List Nat):l.take (G7 l).length=G7 l:=(a5E l).1.symm
theorem b1j (l:List Nat) (h:G7 l ≠ []):(G7 l).getLast h ≠ 0:=(a5E l).2.2.2 h
end Nm
def rw2 (s:Bool) (u o:List Nat):List Res:=match s with
 | true=>[.row 218 1 (ls u),.row 218 1 (ls o)]
 | false=>[.row 218 1 (ls o),.row 218 1 (ls u)]
section
variable {rs rs' l:List Res} {u o:List Nat} {r:Res}
instance :Sb (D8 rs rs' (rw2 true u o) l) (D8 rs rs' [.row 218 1 (ls u),.row 218 1 (ls o)] l):=⟨id⟩
instance :Sb (D8 rs rs' (rw2 false u o) l) (D8 rs rs' [.row 218 1 (ls o),.row 218 1 (ls u)] l):=⟨id⟩
instance :Sb (D8 rs rs' (r::l) (rw2 true u o)) (D8 rs rs' (r::l) [.row 218 1 (ls u),.row 218 1 (ls o)]):=⟨id⟩
instance :Sb (D8 rs rs' (r::l) (rw2 false u o)) (D8 rs rs' (r::l) [.row 218 1 (ls o),.row 218 1 (ls u)]):=⟨id⟩
end
def kx (s:Bool):Nat:=match s with
 | true=>0
 | false=>1
theorem a8x {E:Ctx} (hP:E.P=Tryz.prog) (s:Bool) (u o:List Nat) (lo n:Nat) (hl:u.length<=274877906944) (hn:lo+n<=u.length) (hlo:lo < u.length) :
    j6 E (rw2 s u o) 216 [.wv (kx s) 1 lo n] (.wv (kx s) 1 lo (Nm.G7 ((u.drop lo).take n)).length) (rw2 s u o) []:=by
  obtain ⟨P,eff',N,w0,own0,av0,nu0,pk0⟩:=E
  simp only at hP
  subst hP
  cases s
  all_goals
    refine j6.of (eff:=eff) Tryz.func216 (by cbv) (by exact c7z rfl) fun w own av ν hν=>?_
    simp only [j5,TT,II,OA,OC,MM,MG,VG,rw2,kx]
    have hν0:ν.length<=2:=by rw [hν];exact c7p _
    (repeat first|refine uA ?_|(apply uK;focus omega)|simp (disch:=omega) only [go_sem])
  · refine S.loop (X:=Nat) (fun m=>⟨[(0,.wv 1 1 lo m)],[.row 218 1 (ls o),.row 218 1 (ls u)]⟩) (fun m=>m<=n/\Nm.G7 ((u.drop lo).take m)=Nm.G7 ((u.drop lo).take n)) (fun m=>m) n ⟨c7p _,rfl⟩ (Ent.mk _ _ (by (repeat first|refine uA ?_|(refine ⟨?_,?_⟩;focus first|rfl|simp [slot])|rfl|simp)) (by (repeat first|refine uA ?_|(refine ⟨?_,?_⟩;focus first|rfl|simp [slot])|rfl|simp)) hν0) ?_
    rintro m ⟨hm,ht⟩
    have hq:lo+((m:Int)-1).toNat < u.length:=by omega
    have hg:u[lo+((m:Int)-1).toNat]?=some (u[lo+((m:Int)-1).toNat]'hq):=c7h hq
    have hsn:0 < m->(u.drop lo).take m=(u.drop lo).take (m-1)++[u[lo+((m:Int)-1).toNat]'hq]:=fun h=>by
      have e1:(u.drop lo)[m-1]?=some (u[lo+((m:Int)-1).toNat]'hq):=by
        rw [c7U,<- hg];congr 1;omega
      conv=>lhs;rw [show m=m-1+1 by omega,List.take_add_one,e1]
      rfl
    generalize u[lo+((m:Int)-1).toNat]'hq=c at *
    (repeat first|refine uA ?_|(apply uK;focus first|omega|(intros;simp_all<;>omega))|simp (disch:=omega) only [go_sem,Nat.reduceBEq,ww,F7,N8,hg,c7j,lm])
    (refine uJ rfl (fun hc=>?_) fun hc=>?_)
    · obtain ⟨h0,h1⟩:=hc
      have hc0:c=0:=by omega
      have hm1:((m:Int)-1)=((m-1:Nat):Int):=by omega
      rw [hsn (by omega),hc0,Nm.a6D] at ht
      have hm2:((m:Int)-1).toNat=m-1:=by omega
      (repeat first|refine uA ?_|(apply uK;focus omega)|simp (disch:=omega) only [go_sem,Nat.reduceBEq,ww,hm2,Nat.add_zero,Nat.sub_zero,Int.toNat_zero])
      refine S.next (x:=m) (m-1) ⟨by omega,ht⟩ (by omega) (Ent.mk _ _ (by (repeat first|refine uA ?_|(refine ⟨?_,?_⟩;focus first|rfl|simp [slot])|rfl|simp)) (by (repeat first|refine uA ?_|(refine ⟨?_,?_⟩;focus first|rfl|simp [slot])|rfl|simp)) hν0)
    · have hmt:(Nm.G7 ((u.drop lo).take n)).length=m:=by
        rw [<- ht]
        rcases c7E m with h0|h0
        · subst h0;simp [Nm.a7L]
        · have hcn:c ≠ 0:=by omega
          rw [hsn h0,Nm.a4u hcn,c7t,c7s,c7S,List.length_singleton]
          omega
      rw [hmt]
      (repeat first|refine uA ?_|(apply uK;focus omega)|simp (disch:=omega) only [go_sem,Nat.reduceBEq])
      exact S.done (j3.own rfl)
  · refine S.loop (X:=Nat) (fun m=>⟨[(0,.wv 0 1 lo m)],[.row 218 1 (ls u),.row 218 1 (ls o)]⟩) (fun m=>m<=n/\Nm.G7 ((u.drop lo).take m)=Nm.G7 ((u.drop lo).take n)) (fun m=>m) n ⟨c7p _,rfl⟩ (Ent.mk _ _ (by (repeat first|refine uA ?_|(refine ⟨?_,?_⟩;focus first|rfl|simp [slot])|rfl|simp)) (by (repeat first|refine uA ?_|(refine ⟨?_,?_⟩;focus first|rfl|simp [slot])|rfl|simp)) hν0) ?_
    rintro m ⟨hm,ht⟩
    have hq:lo+((m:Int)-1).toNat < u.length:=by omega
    have hg:u[lo+((m:Int)-1).toNat]?=some (u[lo+((m:Int)-1).toNat]'hq):=c7h hq
    have hsn:0 < m->(u.drop lo).take m=(u.drop lo).take (m-1)++[u[lo+((m:Int)-1).toNat]'hq]:=fun h=>by
      have e1:(u.drop lo)[m-1]?=some (u[lo+((m:Int)-1).toNat]'hq):=by
        rw [c7U,<- hg];congr 1;omega
      conv=>lhs;rw [show m=m-1+1 by omega,List.take_add_one,e1]
      rfl
    generalize u[lo+((m:Int)-1).toNat]'hq=c at *
    (repeat first|refine uA ?_|(apply uK;focus first|omega|(intros;simp_all<;>omega))|simp (disch:=omega) only [go_sem,Nat.reduceBEq,ww,F7,N8,hg,c7j,lm])
    (refine uJ rfl (fun hc=>?_) fun hc=>?_)
    · obtain ⟨h0,h1⟩:=hc
      have hc0:c=0:=by omega
      have hm1:((m:Int)-1)=((m-1:Nat):Int):=by omega
      rw [hsn (by omega),hc0,Nm.a6D] at ht
      have hm2:((m:Int)-1).toNat=m-1:=by omega
      (repeat first|refine uA ?_|(apply uK;focus omega)|simp (disch:=omega) only [go_sem,Nat.reduceBEq,ww,hm2,Nat.add_zero,Nat.sub_zero,Int.toNat_zero])
      refine S.next (x:=m) (m-1) ⟨by omega,ht⟩ (by omega) (Ent.mk _ _ (by (repeat first|refine uA ?_|(refine ⟨?_,?_⟩;focus first|rfl|simp [slot])|rfl|simp)) (by (repeat first|refine uA ?_|(refine ⟨?_,?_⟩;focus first|rfl|simp [slot])|rfl|simp)) hν0)
    · have hmt:(Nm.G7 ((u.drop lo).take n)).length=m:=by
        rw [<- ht]
        rcases c7E m with h0|h0
        · subst h0;simp [Nm.a7L]
        · have hcn:c ≠ 0:=by omega
          rw [hsn h0,Nm.a4u hcn,c7t,c7s,c7S,List.length_singleton]
          omega
      rw [hmt]
      (repeat first|refine uA ?_|(apply uK;focus omega)|simp (disch:=omega) only [go_sem,Nat.reduceBEq])
      exact S.done (j3.own rfl)
theorem c4i {E:Ctx} (hP:E.P=Tryz.prog) (s:Bool) (u o:List Nat) (lo n lo2 n2:Nat) (hl:u.length<=274877906944) (hlo2:o.length<=274877906944) (hn:lo+n<=u.length) (hlo:lo < u.length) (hn2:lo2+n2<=o.length) (hnn:n2<=n)
  (hu:Nm.M7 u) (ho:Nm.M7 o) {X Y:Nat} (hX:X=Nm.wv 18446744073709551616 ((u.drop lo).take n)) (hY:Y=Nm.wv 18446744073709551616 ((o.drop lo2).take n2)) (hle:Y<=X) :
  j6 E (rw2 s u o) 200 [.wv (kx s) 1 lo n,.wv (kx !s) 1 lo2 n2] (.wv (kx s) 1 lo (Nm.G7 (Nm.dig 18446744073709551616 n (X-Y))).length) (rw2 s (put u lo (Nm.dig 18446744073709551616 n (X-Y))) o) []:=by
 obtain ⟨P,eff',N,w0,own0,av0,nu0,pk0⟩:=E
 simp only at hP
 subst hP
 have hul:((u.drop lo).take n).length=n:=by rw [c7s,c7S];omega
 have hol2:((o.drop lo2).take n2).length=n2:=by rw [c7s,c7S];omega
 have hua:Nm.M7 ((u.drop lo).take n):=(hu.drop lo).take _
 have hoa:Nm.M7 ((o.drop lo2).take n2):=(ho.drop lo2).take _
 have hps:put u lo ((u.drop lo).take n)=u:=a5j hn
 have hgo2:∀ i,i < n2->o[lo2+i]?=((o.drop lo2).take n2)[i]?:=fun i hi=>by rw [List.getElem?_take_of_lt hi,c7U]
 generalize (u.drop lo).take n=x at *
 generalize (o.drop lo2).take n2=y at *
 cases s
 all_goals
  refine j6.of (eff:=eff) Tryz.func200 (by cbv) (by exact c7z rfl) fun w own av ν hν=>?_
  simp only [j5,TT,II,OA,OB,MM,VV,rw2,kx,Bool.not_true,Bool.not_false]
  have hν0:ν.length<=2:=by rw [hν];exact c7p _
  (repeat first|refine uA ?_|(apply uK;focus omega)|simp (disch:=omega) only [go_sem,Nat.reduceBEq])
 ·refine S.loop (X:=Nat × List Nat × Nat) (fun s=>⟨[(0,.wv 1 1 lo n),(1,.wv 0 1 lo2 n2),(5,.v (.int .u64 (s.2.2:Int))),(8,.wv 1 1 lo n),(9,ints n),(10,ints s.1)],[.row 218 1 (ls o),.row 218 1 (ls (put u lo s.2.1))]⟩) (fun s=>s.1<=n/\Nm.a3s x y s.1 s.2.1 s.2.2) (fun s=>n-s.1) (0,x,0) ⟨c7n _,Nm.a7s y hua⟩ (by simp only [hps];exact Ent.mk _ _ (by (repeat first|refine uA ?_|(refine ⟨?_,?_⟩;focus first|rfl|simp [slot])|rfl|simp)) (by (repeat first|refine uA ?_|(refine ⟨?_,?_⟩;focus first|rfl|simp [slot])|rfl|simp)) hν0) ?_
  rintro ⟨i,out,c⟩ ⟨hi,hinv⟩
  simp only [ints] at hi hinv ⊢
  have hol:=hinv.1
  have hc1:=hinv.2.2.1
  have hpl:(put u lo out).length=u.length:=a0h (by omega)
  (repeat first|refine uA ?_|(apply uK;focus omega)|simp (disch:=omega) only [go_sem,Nat.reduceBEq])
  (refine uJ rfl (fun hc=>?_) fun hc=>?_)
  ·have hi':i < n:=by omega
   have hix:i < x.length:=by omega
   have hgx:x[i]?=some (x[i]'hix):=c7h hix
   have hgo:(put u lo out)[lo+i]?=some (x[i]'hix):=by rw [V3 (by omega) (by omega),Nm.a0x hinv.2.2.2.1,hgx]
   have hx64:=hua _ (c7x hix)
   have hk:=fun t c' h1 h2 h3=>Nm.a7t (t:=t) (c':=c') hinv hix h1 h2 h3
   generalize x[i]'hix=xi at *
   have hsub:∀ d:Nat,d < 18446744073709551616->∃ t c':Nat,((xi:Int)+18446744073709551616-(d:Int)-(c:Int)) % 18446744073709551616=(t:Int)/\(if (xi:Int) < (d:Int)+(c:Int) then (1:Int) else 0)=(c':Int)/\t < 18446744073709551616/\c'<=1/\t+c+d=xi+18446744073709551616*c':=fun d hd=>by
    by_cases h:xi < d+c
    ·exact ⟨xi+18446744073709551616-d-c,1,by omega,by rw [if_pos (by omega)];rfl,by omega,by omega,by omega⟩
    ·exact ⟨xi-d-c,0,by omega,by rw [if_neg (by omega)];rfl,by omega,by omega,by omega⟩
   have hsl:∀ t,(put u lo out).set (lo+i) t=put u lo (out.set i t):=fun t=>a0j (by omega) (by omega)
   (repeat first|refine uA ?_|(apply uK;focus omega)|simp (disch:=omega) only [go_sem,Nat.reduceBEq])
   (refine uJ rfl (fun hc=>?_) fun hc=>?_)
   ·have hiy:i < y.length:=by omega
    have hgy:y[i]?=some (y[i]'hiy):=c7h hiy
    have hgy2:=(hgo2 i (by omega)).trans hgy
    have hy64:=hoa _ (c7x hiy)
    rw [Nm.getD_lt hiy] at hk
    generalize y[i]'hiy=yi at *
    obtain ⟨t,c',e1,e2,h1,h2,h3⟩:=hsub yi hy64
    have hk:=hk t c' h1 h2 h3
    (repeat first|refine uA ?_|(apply uK;focus omega)|simp (disch:=omega) only [go_sem,Nat.reduceBEq,ww,F7,N8,hgo,hgy2,hpl,c7j,lm,e1,e2,a1E,hsl])
    refine S.next (x:=(i,out,c)) (i+1,_,_) ⟨hi',hk⟩ (by simp only;omega) (Ent.mk _ _ (by (repeat first|refine uA ?_|(refine ⟨?_,?_⟩;focus first|rfl|simp [slot])|rfl|simp)) (by (repeat first|refine uA ?_|(refine ⟨?_,?_⟩;focus first|rfl|simp [slot])|rfl|simp)) hν0)
   ·have hy0:y.getD i 0=0:=by rw [c7u,c7J (by omega)];rfl
    rw [hy0] at hk
    obtain ⟨t,c',e1,e2,h1,h2,h3⟩   := hsub 0 (by decide)
    rw [show ((0:Nat):Int)=0 from rfl] at e1 e2
    have hk:=hk t c' h1 h2 h3
    (repeat first|refine uA ?_|(apply uK;focus omega)|simp (disch:=omega) only [go_sem,Nat.reduceBEq,ww,F7,N8,hgo,hpl,c7j,lm,e1,e2,a1E,hsl])
    refine S.next (x:=(i,out,c)) (i+1,_,_) ⟨hi',hk⟩ (by simp only;omega) (Ent.mk _ _ (by (repeat first|refine uA ?_|(refine ⟨?_,?_⟩;focus first|rfl|simp [slot])|rfl|simp)) (by (repeat first|refine uA ?_|(refine ⟨?_,?_⟩;focus first|rfl|simp [slot])|rfl|simp)) hν0)
  ·have hi':i=n:=by omega
   subst hi'
   rw [<- hul] at hinv
   obtain ⟨he1,he2⟩:=Nm.a7N hinv (by omega) (by omega)
   have hd:out=Nm.dig 18446744073709551616 i (X-Y):=Nm.Y4 (by decide) hinv.2.1 (by omega) (by omega)
   rw [<- hd]
   have hcut:=fun (E:Ctx) (hP:E.P=Tryz.prog)=>a8x (E:=E) hP (match 1 with|0=>true|_=>false) (put u lo out) o lo i (by omega) (by omega) (by omega)
   rw [a2C (by omega) (by omega)] at hcut
   (repeat first|refine uA ?_|(apply uK;focus omega)|simp (disch:=omega) only [go_sem,Nat.reduceBEq]|refine l9.t (hcut _ rfl) ?_)
   exact S.done (j3.own rfl)
 ·refine S.loop (X:=Nat × List Nat × Nat) (fun s=>⟨[(0,.wv 0 1 lo n),(1,.wv 1 1 lo2 n2),(5,.v (.int .u64 (s.2.2:Int))),(8,.wv 0 1 lo n),(9,ints n),(10,ints s.1)],[.row 218 1 (ls (put u lo s.2.1)),.row 218 1 (ls o)]⟩) (fun s=>s.1<=n/\Nm.a3s x y s.1 s.2.1 s.2.2) (fun s=>n-s.1) (0,x,0) ⟨c7n _,Nm.a7s y hua⟩ (by simp only [hps];exact Ent.mk _ _ (by (repeat first|refine uA ?_|(refine ⟨?_,?_⟩;focus first|rfl|simp [slot])|rfl|simp)) (by (repeat first|refine uA ?_|(refine ⟨?_,?_⟩;focus first|rfl|simp [slot])|rfl|simp)) hν0) ?_
  rintro ⟨i,out,c⟩ ⟨hi,hinv⟩
  simp only [ints] at hi hinv ⊢
  have hol:=hinv.1
  have hc1:=hinv.2.2.1
  have hpl:(put u lo out).length=u.length:=a0h (by omega)
  (repeat first|refine uA ?_|(apply uK;focus omega)|simp (disch:=omega) only [go_sem,Nat.reduceBEq])
  (refine uJ rfl (fun hc=>?_) fun hc=>?_)
  ·have hi':i < n:=by omega
   have hix:i < x.length:=by omega
   have hgx:x[i]?=some (x[i]'hix):=c7h hix
   have hgo:(put u lo out)[lo+i]?=some (x[i]'hix):=by rw [V3 (by omega) (by omega),Nm.a0x hinv.2.2.2.1,hgx]
   have hx64:=hua _ (c7x hix)
   have hk:=fun t c' h1 h2 h3=>Nm.a7t (t:=t) (c':=c') hinv hix h1 h2 h3
   generalize x[i]'hix=xi at *
   have hsub:∀ d:Nat,d < 18446744073709551616->∃ t c':Nat,((xi:Int)+18446744073709551616-(d:Int)-(c:Int)) % 18446744073709551616=(t:Int)/\(if (xi:Int) < (d:Int)+(c:Int) then (1:Int) else 0)=(c':Int)/\t < 18446744073709551616/\c'<=1/\t+c+d=xi+18446744073709551616*c':=fun d hd=>by
    by_cases h:xi < d+c
    ·exact ⟨xi+18446744073709551616-d-c,1,by omega,by rw [if_pos (by omega)];rfl,by omega,by omega,by omega⟩
    ·exact ⟨xi-d-c,0,by omega,by rw [if_neg (by omega)];rfl,by omega,by omega,by omega⟩
   have hsl:∀ t,(put u lo out).set (lo+i) t=put u lo (out.set i t):=fun t=>a0j (by omega) (by omega)
   (repeat first|refine uA ?_|(apply uK;focus omega)|simp (disch:=omega) only [go_sem,Nat.reduceBEq])
   (refine uJ rfl (fun hc=>?_) fun hc=>?_)
   ·have hiy:i < y.length:=by omega
    have hgy:y[i]?=some (y[i]'hiy):=c7h hiy
    have hgy2:=(hgo2 i (by omega)).trans hgy
    have hy64:=hoa _ (c7x hiy)
    rw [Nm.getD_lt hiy] at hk
    generalize y[i]'hiy=yi at *
    obtain ⟨t,c',e1,e2,h1,h2,h3⟩:=hsub yi hy64
    have hk:=hk t c' h1 h2 h3
    (repeat first|refine uA ?_|(apply uK;focus omega)|simp (disch:=omega) only [go_sem,Nat.reduceBEq,ww,F7,N8,hgo,hgy2,hpl,c7j,lm,e1,e2,a1E,hsl])
    refine S.next (x:=(i,out,c)) (i+1,_,_) ⟨hi',hk⟩ (by simp only;omega) (Ent.mk _ _ (by (repeat first|refine uA ?_|(refine ⟨?_,?_⟩;focus first|rfl|simp [slot])|rfl|simp)) (by (repeat first|refine uA ?_|(refine ⟨?_,?_⟩;focus first|rfl|simp [slot])|rfl|simp)) hν0)
   ·have hy0:y.getD i 0=0:=by rw [c7u,c7J (by omega)];rfl
    rw [hy0] at hk
    obtain ⟨t,c',e1,e2,h1,h2,h3⟩   := hsub 0 (by decide)
    rw [show ((0:Nat):Int)=0 from rfl] at e1 e2
    have hk:=hk t c' h1 h2 h3
    (repeat first|refine uA ?_|(apply uK;focus omega)|simp (disch:=omega) only [go_sem,Nat.reduceBEq,ww,F7,N8,hgo,hpl,c7j,lm,e1,e2,a1E,hsl])
    refine S.next (x:=(i,out,c)) (i+1,_,_) ⟨hi',hk⟩ (by simp only;omega) (Ent.mk _ _ (by (repeat first|refine uA ?_|(refine ⟨?_,?_⟩;focus first|rfl|simp [slot])|rfl|simp)) (by (repeat first|refine uA ?_|(refine ⟨?_,?_⟩;focus first|rfl|simp [slot])|rfl|simp)) hν0)
  ·have hi':i=n:=by omega
   subst hi'
   rw [<- hul] at hinv
   obtain ⟨he1,he2⟩:=Nm.a7N hinv (by omega) (by omega)
   have hd:out=Nm.dig 18446744073709551616 i (X-Y):=Nm.Y4 (by decide) hinv.2.1 (by omega) (by omega)
   rw [<- hd]
   have hcut:=fun (E:Ctx) (hP:E.P=Tryz.prog)=>a8x (E:=E) hP (match 0 with|0=>true|_=>false) (put u lo out) o lo i (by omega) (by omega) (by omega)
   rw [a2C (by omega) (by omega)] at hcut
   (repeat first|refine uA ?_|(apply uK;focus omega)|simp (disch:=omega) only [go_sem,Nat.reduceBEq]|refine l9.t (hcut _ rfl) ?_)
   exact S.done (j3.own rfl)
end Go.Proofs.YtgpegbfnlkidjaaGreatDoor
