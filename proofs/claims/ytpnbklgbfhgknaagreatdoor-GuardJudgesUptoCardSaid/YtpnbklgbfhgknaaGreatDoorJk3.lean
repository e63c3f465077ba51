/- A part of the proof: lemmas only, with the conditions that each names. -/
import Derived.Laws.Bits64b
import Derived.Test.YtpnbklgbfhgknaaGreatDoorProg
import Derived.KernelRfl
import Derived.Shelf.Strings.Trim
import Derived.Shelf.Small.Utf8
import Derived.Shelf.Small.Bits
import Derived.Shelf.Small.Strs
import Derived.Shelf.Small.Wraps
import Derived.Shelf.Strconv.Itoa0
import Derived.Shelf.Strings.Search1
import Derived.Shelf.Strings.Runes
import Derived.Shelf.Strings.AsciiSet
import Derived.Shelf.Unicode.DecodeSlow
import Derived.Shelf.Slices.Turned
import Derived.Shelf.Spec.TrailingZeros
import Derived.Shelf.SlSortCmp.NoneTotal
import Derived.Ground.SlsfProg
import Derived.Test.YtpnbklgbfhgknaaGreatDoorJk2
set_option linter.all false
namespace Go.Proofs.YtpnbklgbfhgknaaGreatDoor.Nm
def val (l:List UInt8):Nat:=l.foldl (fun n b=>256*n+b.toNat) 0
theorem a5H:∀ (l:List UInt8) (n:Nat),l.foldl (fun n b=>256*n+b.toNat) n=n*256 ^ l.length+val l
 | [],n=>by simp [val]
 | b::l,n=>by
  have h1:=a5H l (256*n+b.toNat);have h2:=a5H l (256*0+b.toNat);simp only [List.foldl_cons,val,c8R,c9c] at h1 h2 ⊢;rw [h1,h2];grind
theorem b0W:val []=0:=rfl
theorem a0o (b:UInt8) (l:List UInt8):val (b::l)=b.toNat*256 ^ l.length+val l:=by
 have:=a5H l (256*0+b.toNat);simp only [val,List.foldl_cons] at this ⊢;rw [this];simp
theorem b5T (a b:List UInt8):val (a++b)=val a*256 ^ b.length+val b:=by
 unfold val;rw [List.foldl_append,a5H];rfl
theorem a9h (a:List UInt8) (b:UInt8):val (a++[b])=256*val a+b.toNat:=by
 rw [b5T,a0o];simp [b0W];omega
theorem a0q:∀ (l:List UInt8),val l < 256 ^ l.length
 | []=>by simp [val]
 | b::l=>by
  have h:=a0q l;have hb:=b.toNat_lt;rw [a0o,c8R,c9c];have:b.toNat*256 ^ l.length<=255*256 ^ l.length:=c8X _ (by omega);omega
def trim:List UInt8->List UInt8
 | []=>[]
 | b::l=>if b=0 then trim l else b::l
theorem T9:∀ l,val (trim l)=val l
 | []=>rfl
 | b::l=>by
  unfold trim;split
  ·rename_i h;subst h;rw [T9 l,a0o];simp
  ·rfl
theorem Y9:∀ l,(trim l).length<=l.length
 | []=>c8B _
 | b::l=>by
  unfold trim;split
  ·have:=Y9 l;simp;omega
  ·exact c8B _
def canon (l:List UInt8):Prop:=∀ r,l ≠ 0::r
theorem Y1:∀ l,canon (trim l)
 | [],r=>by simp [trim]
 | b::l,r=>by
  unfold trim;split
  ·exact Y1 l r
  ·intro e;injection e;contradiction
theorem a6L {l:List UInt8} (h:canon l):trim l=l:=by
 cases l with
 | nil=>rfl
 | cons b l=>
  unfold trim;rw [if_neg];intro e;exact h l (by rw [e])
theorem a7S (l:List UInt8):trim (trim l)=trim l:=a6L (Y1 l)
theorem a7G:canon []:=fun r h=>by cases h
theorem a9K {b:UInt8} {l:List UInt8} (h:canon (b::l)):256 ^ l.length<=val (b::l):=by
 have hb:1<=b.toNat:=by
  rcases c8Q b.toNat with h0|h0
  ·exact absurd (by rw [show b=0 from UInt8.toNat.inj h0]) (h l)
  ·exact h0
 rw [a0o];have:=c8X (256 ^ l.length) hb;omega
theorem val_zero {l:List UInt8} (h:canon l):val l=0 <-> l=[]:=by
 cases l with
 | nil=>simp [val]
 | cons b l=>
  have:=a9K h;have:=Nat.pow_pos (n:=l.length) (show 0 < 256 by decide);simp;omega
theorem a8W:∀ {a b:List UInt8},a.length=b.length->val a=val b->a=b
 | [],[],_,_=>rfl
 | [],_::_,h,_=>by cases h
 | _::_,[],h,_=>by cases h
 | x::a,y::b,h,hv=>by
  simp only [c8R,Nat.add_right_cancel_iff] at h;rw [a0o,a0o,h] at hv;have h1:=a0q a;have h2:=a0q b;rw [h] at h1;have hp:=Nat.pow_pos (n:=b.length) (show 0 < 256 by decide);have e1:(x.toNat*256 ^ b.length+val a) / 256 ^ b.length=x.toNat:=by
   rw [Nat.mul_comm,Nat.mul_add_div hp,Nat.div_eq_of_lt h1];rfl
  have e2:(y.toNat*256 ^ b.length+val b) / 256 ^ b.length=y.toNat:=by
   rw [Nat.mul_comm,Nat.mul_add_div hp,Nat.div_eq_of_lt h2];rfl
  rw [hv,e2] at e1;have hxy:x=y:=UInt8.toNat.inj e1.symm;subst hxy;rw [a8W h (by omega)]
theorem a3s {a b:List UInt8} (hb:canon b) (h:a.length < b.length):val a < val b:=by
 cases b with
 | nil=>simp at h
 | cons y b=>
  have h1:=a9K hb;have h2:=a0q a;have h3:256 ^ a.length<=256 ^ b.length:=c8Y (by decide) (by simp at h;omega);omega
theorem b9r {a b:List UInt8} (ha:canon a) (hb:canon b) (h:val a=val b):a=b:=by
 refine a8W ?_ h;rcases Nat.lt_trichotomy a.length b.length with h1|h1|h1
 ·have:=a3s hb h1;omega
 ·exact h1
 ·have:=a3s ha h1;omega
def enc (n:Nat):List UInt8:=if n=0 then [] else enc (n / 256)++[UInt8.ofNat (n % 256)]
termination_by n
decreasing_by omega
theorem a1r:enc 0=[]:=by unfold enc;rfl
theorem J4 (n:Nat):val (enc n)=n:=by
 induction n using Nat.strongRecOn with
 | _ n ih=>
  unfold enc;split
  ·rename_i h;subst h;rfl
  ·rw [a9h,ih _ (by omega)];have:(UInt8.ofNat (n % 256)).toNat=n % 256:=by simp
   rw [this];omega
theorem a6t {n:Nat} (h:n ≠ 0):enc n ≠ []:=fun e=>h (by rw [<- J4 n,e];rfl)
theorem a2Z (n:Nat):canon (enc n):=by
 induction n using Nat.strongRecOn with
 | _ n ih=>
  unfold enc;split
  ·exact a7G
  ·rename_i hn;intro r hr;by_cases h0:n / 256=0
   ·rw [h0,a1r,List.nil_append] at hr;injection hr with h1 _;have h2:=congrArg UInt8.toNat h1;simp at h2;omega
   ·have h1:=ih (n / 256) (by omega);cases he:enc (n / 256) with
    | nil=>exact a6t h0 he
    | cons b l=>
     rw [he] at hr h1;injection hr with h2 _;exact h1 l (by rw [h2])
theorem a8G (l:List UInt8):enc (val l)=trim l:=b9r (a2Z _) (Y1 l) (by rw [J4,T9])
theorem a2a {l:List UInt8} (h:canon l):enc (val l)=l:=by rw [a8G,a6L h]
theorem b0I {a b:Nat} (h:enc a=enc b):a=b:=by rw [<- J4 a,h,J4]
theorem H6 {n k:Nat} (h:n < 256 ^ k):(enc n).length<=k:=by
 rcases c8N k (enc n).length with h1|h1
 ·cases he:enc n with
  | nil=>rw [he] at h1;simp at h1
  | cons b l=>
   have h2:=a9K (he ▸ a2Z n);rw [<- he,J4] at h2;rw [he] at h1;have:256 ^ k<=256 ^ l.length:=c8Y (by decide) (by simp at h1;omega);omega
 ·exact h1
theorem Z0 {n k:Nat} (h:(enc n).length<=k):n < 256 ^ k:=by
 have h1:=a0q (enc n);rw [J4] at h1;have:256 ^ (enc n).length<=256 ^ k:=c8Y (by decide) h;omega
theorem a0M {l:List UInt8} {k:Nat} (h:l.length<=k):val l < 256 ^ k:=by
 have:=a0q l;have:256 ^ l.length<=256 ^ k:=c8Y (by decide) h;omega
def wv (B:Nat):List Nat->Nat
 | []=>0
 | w::r=>w+B*wv B r
theorem a7v (B:Nat):∀ (a b:List Nat),wv B (a++b)=wv B a+B ^ a.length*wv B b
 | [],b=>by simp [wv]
 | x::a,b=>by
  simp only [List.cons_append,wv,a7v B a b,c8R,c9c];grind
theorem a8q (B:Nat) (a:List Nat) (x:Nat):wv B (a++[x])=wv B a+B ^ a.length*x:=by
 rw [a7v];simp [wv]
theorem D7 (B:Nat) {l:List Nat} {i:Nat} (h:i < l.length):wv B (l.take (i+1))=wv B (l.take i)+B ^ i*l[i]:=by
 rw [c9k h,a8q,c8E];rw [Nat.min_eq_left (by omega)]
theorem a3A (B:Nat) (l:List Nat) (i:Nat) (h:i<=l.length):wv B l=wv B (l.take i)+B ^ i*wv B (l.drop i):=by
 have:=a7v B (l.take i) (l.drop i);rw [List.take_append_drop,c8E,Nat.min_eq_left h] at this;exact this
theorem a4W (B:Nat):∀ {l:List Nat} {i:Nat} (h:i < l.length) (v:Nat),wv B (l.set i v)+B ^ i*l[i]=wv B l+B ^ i*v
 | [],i,h,v=>by simp at h
 | x::l,0,h,v=>by simp [wv];omega
 | x::l,i+1,h,v=>by
  have:=a4W B (l:=l) (i:=i) (by simpa using h) v;simp only [List.set_cons_succ,wv,List.getElem_cons_succ,c9c];grind
theorem M9 (B:Nat):∀ {l:List Nat},(∀ w ∈ l,w < B)->wv B l < B ^ l.length
 | [],_=>by simp [wv]
 | x::l,h=>by
  have h1:=M9 B (l:=l) fun w hw=>h w (by simp [hw]);have h2:=h x (by simp);simp only [wv,c8R,c9c];have h3:B*(wv B l+1)<=B*B ^ l.length:=Nat.mul_le_mul_left _ h1;rw [Nat.mul_add,Nat.mul_one] at h3;rw [Nat.mul_comm (B ^ l.length) B];omega
theorem a7d (B:Nat):∀ n,wv B (List.replicate n 0)=0
 | 0=>rfl
 | n+1=>by simp [List.replicate_succ,wv,a7d B n]
theorem b4Q {B:Nat} {l:List Nat} {x:Nat} (hx:x ≠ 0):B ^ l.length<=wv B (l++[x]):=by
 rw [a8q];have:B ^ l.length*1<=B ^ l.length*x:=Nat.mul_le_mul_left _ (by omega);omega
theorem mem_set {α:Type} {l:List α} {i:Nat} {v x:α} (h:x ∈ l.set i v):x=v \/ x ∈ l:=by
 rcases List.mem_or_eq_of_mem_set h with h|h
 ·exact .inr h
 ·exact .inl h
def dig (B:Nat):Nat->Nat->List Nat
 | 0,_=>[]
 | L+1,n=>n % B::dig B L (n / B)
theorem J9 (B:Nat):∀ L n,(dig B L n).length=L
 | 0,_=>rfl
 | L+1,n=>by simp [dig,J9 B L]
theorem a1M {B:Nat} (hB:0 < B):∀ L n,∀ w ∈ dig B L n,w < B
 | 0,_,w,h=>by simp [dig] at h
 | L+1,n,w,h=>by
  simp only [dig,List.mem_cons] at h;rcases h with rfl|h
  ·exact Nat.mod_lt _ hB
  ·exact a1M hB L _ w h
theorem b9l (B:Nat):∀ L n,wv B (dig B L n)=n % B ^ L
 | 0,n=>by simp [dig,wv,Nat.mod_one]
 | L+1,n=>by
  simp only [dig,wv,b9l B L];rw [c9c,Nat.mul_comm (B ^ L) B,Nat.mod_mul]
theorem Y4 {B L n:Nat} (h:n < B ^ L):wv B (dig B L n)=n:=by rw [b9l,Nat.mod_eq_of_lt h]
theorem b8I {B:Nat} (hB:0 < B):∀ {l:List Nat},(∀ w ∈ l,w < B)->l=dig B l.length (wv B l)
 | [],_=>rfl
 | x::l,h=>by
  have hx:=h x (by simp);have ih:=b8I hB (l:=l) fun w hw=>h w (by simp [hw]);simp only [c8R,dig,wv];rw [Nat.add_mul_mod_self_left,Nat.mod_eq_of_lt hx,Nat.add_mul_div_left _ _ hB,Nat.div_eq_of_lt hx,c8Z,<- ih]
theorem Y7 {B L n:Nat} {l:List Nat} (hB:0 < B) (h:∀ w ∈ l,w < B) (hl:l.length=L) (hn:wv B l=n):l=dig B L n:=by
 have:=b8I hB h;rw [hl,hn] at this;exact this
theorem a7q {l:List UInt8} {i:Nat} (h:i < l.length):val (l.drop (l.length-1-i))=(l[l.length-1-i]).toNat*256 ^ i+val (l.drop (l.length-i)):=by
 have h1:l.drop (l.length-1-i)=l[l.length-1-i]::l.drop (l.length-i):=by
  rw [List.drop_eq_getElem_cons (by omega)];congr 2;omega
 rw [h1,a0o,c9g];congr 2;congr 1;omega
def a5q (l:List UInt8) (i:Nat) (out:List Nat):Prop:=
 out.length=(l.length+3) / 4/\(∀ w ∈ out,w < 4294967296)/\wv 4294967296 out=val (l.drop (l.length-i))/\∀ j (h:j < out.length),out[j] < 256 ^ (i-4*j)
theorem b2t (l:List UInt8):a5q l 0 (List.replicate ((l.length+3) / 4) 0):=by
 refine ⟨by simp,fun w hw=>by rw [c8T hw];decide,?_,fun j h=>by simp⟩;rw [a7d];simp [val]
theorem b8K (i:Nat):4294967296 ^ (i / 4)*256 ^ (i % 4)=256 ^ i:=by
 have h:(4294967296:Nat)=256 ^ 4:=by decide
 rw [h,<- Nat.pow_mul,<- Nat.pow_add];congr 1;omega
theorem a3D {a b r:Nat} (h:a < 2 ^ r):a ||| (b*2 ^ r)=a+b*2 ^ r:=by
 have:=Nat.two_pow_add_eq_or_of_lt h b;rw [Nat.mul_comm b,Nat.add_comm a,this,Nat.or_comm]
theorem b2p {l:List UInt8} {i:Nat} {out:List Nat} (h:a5q l i out) (hi:i < l.length) (hj:i / 4 < out.length) :
  a5q l (i+1) (out.set (i / 4) (out[i / 4] ||| (l[l.length-1-i]).toNat*2 ^ (8*(i % 4))))/\out[i / 4] ||| (l[l.length-1-i]).toNat*2 ^ (8*(i % 4)) < 4294967296/\(l[l.length-1-i]).toNat*2 ^ (8*(i % 4)) < 4294967296:=by
 obtain ⟨h1,h2,h3,h4⟩:=h;have e256:2 ^ (8*(i % 4))=256 ^ (i % 4):=by rw [Nat.pow_mul]
 have hb:=(l[l.length-1-i]).toNat_lt;have hlow:=h4 (i / 4) hj;rw [show i-4*(i / 4)=i % 4 by omega] at hlow;have hor:out[i / 4] ||| (l[l.length-1-i]).toNat*2 ^ (8*(i % 4))=out[i / 4]+(l[l.length-1-i]).toNat*256 ^ (i % 4):=by
  rw [a3D (by rw [e256];exact hlow),e256]
 rw [hor,e256];have hpos:=Nat.pow_pos (n:=i % 4) (show 0 < 256 by decide);have hmul:(l[l.length-1-i]).toNat*256 ^ (i % 4)<=255*256 ^ (i % 4):=c8X _ (by omega);have hnew:out[i / 4]+(l[l.length-1-i]).toNat*256 ^ (i % 4) < 256 ^ (i % 4+1):=by rw [c9c];omega
 have h4p:(256:Nat) ^ (i % 4+1)<=256 ^ 4:=c8Y (by decide) (by omega);have h44:(256:Nat) ^ 4=4294967296:=by decide
 refine ⟨⟨by simp [h1],fun w hw=>?_,?_,fun j hjl=>?_⟩,by omega,by omega⟩
 ·rcases mem_set hw with rfl|hw
  ·omega
  ·exact h2 w hw
 ·have hs:=a4W 4294967296 hj (out[i / 4]+(l[l.length-1-i]).toNat*256 ^ (i % 4));rw [Nat.mul_add,<- c9a,Nat.mul_right_comm,c9a,Nat.mul_comm (l[l.length-1-i]).toNat,Nat.mul_comm _ (l[l.length-1-i]).toNat] at hs;rw [show l.length-(i+1)=l.length-1-i by omega,a7q hi,<- h3,<- b8K i];have:4294967296 ^ (i / 4)*((l[l.length-1-i]).toNat*256 ^ (i % 4))=(l[l.length-1-i]).toNat*(4294967296 ^ (i / 4)*256 ^ (i % 4)):=by grind
  have hs':=a4W 4294967296 hj (out[i / 4]+(l[l.length-1-i]).toNat*256 ^ (i % 4));rw [Nat.mul_add] at hs';omega
 ·rw [List.getElem_set];split
  ·rename_i e;subst e;rw [show i+1-4*(i / 4)=i % 4+1 by omega];exact hnew
  ·have h5:=h4 j (by simpa using hjl);have:(256:Nat) ^ (i-4*j)<=256 ^ (i+1-4*j):=c8Y (by decide) (by omega);omega
def L6 (l:List UInt8):List Nat:=dig 4294967296 (((trim l).length+3) / 4) (val l)
theorem b4j {l:List UInt8} {out:List Nat} (h:a5q (trim l) (trim l).length out):out=L6 l:=by
 obtain ⟨h1,h2,h3,_⟩:=h;refine Y7 (by decide) h2 h1 ?_;rw [h3,Nat.sub_self,List.drop_zero,T9]
theorem b5c (l:List UInt8):val l < 4294967296 ^ (((trim l).length+3) / 4):=by
 have h:=a0q (trim l);rw [T9] at h;have h4:(4294967296:Nat)=256 ^ 4:=by decide
 rw [h4,<- Nat.pow_mul];have:256 ^ (trim l).length<=256 ^ (4*(((trim l).length+3) / 4)):=c8Y (by decide) (by omega);omega
theorem X7 (l:List UInt8):(L6 l).length=((trim l).length+3) / 4:=J9 _ _ _
theorem a0D (l:List UInt8):wv 4294967296 (L6 l)=val l:=Y4 (b5c l)
theorem a0H (l:List UInt8):∀ w ∈ L6 l,w < 4294967296:=a1M (by decide) _ _
theorem a7Q (l:List UInt8) (h:L6 l ≠ []):4294967296 ^ ((L6 l).length-1)<=val l:=by
 have hl:=X7 l;have hc:=Y1 l;have hv:=T9 l;cases ht:trim l with
 | nil=>rw [ht] at hl;exact absurd (c8V (by simpa using hl)) h
 | cons b r=>
  rw [ht] at hc hl hv;have:=a9K hc;have h4:(4294967296:Nat)=256 ^ 4:=by decide
  rw [h4,<- Nat.pow_mul];have:256 ^ (4*((L6 l).length-1))<=256 ^ r.length:=c8Y (by decide) (by simp at hl;omega);omega
theorem b1C {α:Type} (x0 x1 x2 x3:α):∀ (k:Nat) (b:List α),k+3 < b.length->((((b.set k x0).set (k+1) x1).set (k+2) x2).set (k+3) x3).drop k=x0::x1::x2::x3::b.drop (k+4)
 | 0,b,h=>by
  match b,h with
  | _::_::_::_::r,_=>simp
 | k+1,[],h=>by simp at h
 | k+1,a::b,h=>by
  have:=b1C x0 x1 x2 x3 k b (by simp at h;omega);simpa using this
def a6p (l:List Nat) (i:Nat) (b:List UInt8):Prop:=b.length=4*l.length/\val (b.drop (4*(l.length-i)))=wv 4294967296 (l.take i)
theorem b4S (l:List Nat):a6p l 0 (List.replicate (4*l.length) 0):=by
 refine ⟨by simp,?_⟩;rw [List.drop_of_length_le (by simp)];rfl
theorem b4k {l:List Nat} {i:Nat} {b:List UInt8} (h:a6p l i b) (hi:i < l.length) (hw:l[i] < 4294967296) {x0 x1 x2 x3:UInt8}
  (h0:x0.toNat=l[i] / 16777216 % 256) (h1:x1.toNat=l[i] / 65536 % 256) (h2:x2.toNat=l[i] / 256 % 256) (h3:x3.toNat=l[i] % 256) :
  a6p l (i+1) ((((b.set (4*(l.length-1-i)) x0).set (4*(l.length-1-i)+1) x1).set (4*(l.length-1-i)+2) x2).set (4*(l.length-1-i)+3) x3):=by
 obtain ⟨e1,e2⟩:=h;refine ⟨by simp [e1],?_⟩;rw [show 4*(l.length-(i+1))=4*(l.length-1-i) by omega,b1C _ _ _ _ _ _ (by omega),show 4*(l.length-1-i)+4=4*(l.length-i) by omega,D7 _ hi,<- e2];have hl:(b.drop (4*(l.length-i))).length=4*i:=by rw [c9g];omega
 simp only [a0o,c8R,hl];have h4:(4294967296:Nat)=256 ^ 4:=by decide
 rw [h4,<- Nat.pow_mul];have e:l[i]=x0.toNat*16777216+x1.toNat*65536+x2.toNat*256+x3.toNat:=by rw [h0,h1,h2,h3];omega
 rw [e];generalize x0.toNat=a0;generalize x1.toNat=a1;generalize x2.toNat=a2;generalize x3.toNat=a3;have p1:(256:Nat) ^ (4*i+1+1+1)=16777216*256 ^ (4*i):=by rw [c9c,c9c,c9c];omega
 have p2:(256:Nat) ^ (4*i+1+1)=65536*256 ^ (4*i):=by rw [c9c,c9c];omega
 have p3:(256:Nat) ^ (4*i+1)=256*256 ^ (4*i):=by rw [c9c];omega
 rw [p1,p2,p3];grind
theorem b5r {l:List Nat} {b:List UInt8} (h:a6p l l.length b):trim b=enc (wv 4294967296 l):=by
 obtain ⟨_,h⟩:=h;rw [Nat.sub_self,Nat.mul_zero,List.drop_zero,c8J] at h;rw [<- h,a8G]
def oB (n:Nat):UInt8:=UInt8.ofNat (n % 256)
theorem a2F (n:Nat):(oB n).toNat=n % 256:=by simp [oB]
def be8 (n:Nat):List UInt8:=[oB (n / 72057594037927936),oB (n / 281474976710656),oB (n / 1099511627776),oB (n / 4294967296),oB (n / 16777216),oB (n / 65536),oB (n / 256),oB n]
theorem b6P {n:Nat} (h:n < 18446744073709551616):val (be8 n)=n:=by
 simp only [be8,val,List.foldl_cons,List.foldl_nil,a2F];omega
theorem b4q {n:Nat} (h:n < 18446744073709551616):trim (be8 n)=enc n:=by rw [<- a8G,b6P h]
theorem b7q (v b:Nat) (hb:b < 256):(v % 18446744073709551616*256) % 18446744073709551616 ||| b=(256*v+b) % 18446744073709551616:=by
 have h1:(v % 18446744073709551616*256) % 18446744073709551616=(v % 72057594037927936)*2 ^ 8:=by omega
 rw [h1,Nat.mul_comm _ (2 ^ 8),<- Nat.two_pow_add_eq_or_of_lt (by simpa using hb)];omega
theorem R6 (B:Nat) {l:List Nat} {i:Nat} (h:i < l.length) (v:Nat):wv B ((l.set i v).take (i+1))=wv B (l.take i)+B ^ i*v:=by
 rw [D7 B (by simpa using h),List.getElem_set_self,List.take_set_of_le (c8B _)]
theorem a3g (B:Nat) (l:List Nat) (i:Nat):wv B (l.take (i+1))=wv B (l.take i)+B ^ i*l.getD i 0:=by
 rcases c8N i l.length with h|h
 ·rw [D7 B h,c8C,c8q h];rfl
 ·rw [c8P (by omega),c8P h,c8C,c8W h];simp
def a4i (x y:List Nat) (i:Nat) (out:List Nat) (c:Nat):Prop:=
 out.length=x.length+1/\(∀ w ∈ out,w < 4294967296)/\c<=1/\wv 4294967296 (out.take i)+4294967296 ^ i*c=wv 4294967296 (x.take i)+wv 4294967296 (y.take i)
theorem a8X (x y:List Nat):a4i x y 0 (List.replicate (x.length+1) 0) 0:=by
 refine ⟨by simp,fun w hw=>by rw [c8T hw];decide,by omega,by simp [wv]⟩
theorem b5B {x y:List Nat} {i:Nat} {out:List Nat} {c:Nat} (h:a4i x y i out c) (hi:i < x.length) (hx:x[i] < 4294967296) (hy:y.getD i 0 < 4294967296) {s:Nat} (hs:s=c+x[i]+y.getD i 0) :
  a4i x y (i+1) (out.set i (s % 4294967296)) (s / 4294967296):=by
 obtain ⟨h1,h2,h3,h4⟩:=h;refine ⟨by simp [h1],fun w hw=>?_,by omega,?_⟩
 ·rcases mem_set hw with rfl|hw
  ·exact Nat.mod_lt _ (by decide)
  ·exact h2 w hw
 ·rw [R6 _ (by omega),D7 _ hi,a3g];have hd:s=s % 4294967296+4294967296*(s / 4294967296):=by omega
  have e:4294967296 ^ i*s=4294967296 ^ i*c+4294967296 ^ i*x[i]+4294967296 ^ i*y.getD i 0:=by rw [hs,Nat.mul_add,Nat.mul_add]
  have e2:4294967296 ^ i*s=4294967296 ^ i*(s % 4294967296)+4294967296 ^ (i+1)*(s / 4294967296):=by
   conv=>lhs;rw [hd,Nat.mul_add,<- c9a,<- c9c]
  omega
theorem b0c {x y:List Nat} {out:List Nat} {c:Nat} (h:a4i x y x.length out c) (hl:y.length<=x.length):wv 4294967296 (out.set x.length c)=wv 4294967296 x+wv 4294967296 y/\∀ w ∈ out.set x.length c,w < 4294967296:=by
 obtain ⟨h1,h2,h3,h4⟩:=h;refine ⟨?_,fun w hw=>?_⟩
 ·have:=R6 4294967296 (l:=out) (i:=x.length) (by omega) c;rw [c8P (by simp [h1])] at this;rw [c8J,c8P hl] at h4;omega
 ·rcases mem_set hw with rfl|hw
  ·omega
  ·exact h2 w hw
def a7z (x y:List Nat) (i:Nat) (out:List Nat) (c:Nat):Prop:=
 out.length=x.length/\(∀ w ∈ out,w < 4294967296)/\c<=1/\out.drop i=x.drop i/\wv 4294967296 (out.take i)+wv 4294967296 (y.take i)+4294967296 ^ i*0=wv 4294967296 (x.take i)+4294967296 ^ i*c
theorem b5p {x:List Nat} (y:List Nat) (hx:∀ w ∈ x,w < 4294967296):a7z x y 0 x 0:=by
 refine ⟨rfl,hx,by omega,rfl,by simp [wv]⟩
theorem a0V {α:Type} {a b:List α} {i:Nat} (h:a.drop i=b.drop i):a[i]?=b[i]?:=by
 have:=congrArg (fun l=>l[0]?) h;simpa using this
theorem a0B {α:Type} {a b:List α} {i:Nat} (v:α) (h:a.drop i=b.drop i):(a.set i v).drop (i+1)=b.drop (i+1):=by
 rw [List.drop_set_of_lt (by omega)];have:=congrArg (List.drop 1) h;simpa [List.drop_drop] using this
theorem b5a {x y:List Nat} {i:Nat} {out:List Nat} {c:Nat} (h:a7z x y i out c) (hi:i < x.length) {t c':Nat} (ht:t < 4294967296) (hc:c'<=1) (hs:t+c+y.getD i 0=x[i]+4294967296*c') :
  a7z x y (i+1) (out.set i t) c':=by
 obtain ⟨h1,h2,h3,hd,h4⟩:=h;refine ⟨by simp [h1],fun w hw=>?_,hc,a0B _ hd,?_⟩
 ·rcases mem_set hw with rfl|hw
  ·exact ht
  ·exact h2 w hw
 ·rw [R6 _ (by omega),D7 _ hi,a3g];have e:=congrArg (4294967296 ^ i*·) hs;simp only [Nat.mul_add] at e;rw [<- c9a,<- c9c] at e;simp only [Nat.succ_eq_add_one] at e;omega
theorem b7d {x y:List Nat} {out:List Nat} {c:Nat} (h:a7z x y x.length out c) (hl:y.length<=x.length) (hle:wv 4294967296 y<=wv 4294967296 x):c=0/\wv 4294967296 out+wv 4294967296 y=wv 4294967296 x:=by
 obtain ⟨h1,h2,h3,_,h4⟩:=h;rw [c8J,c8P (by omega),c8P hl] at h4;have:=M9 4294967296 h2;rw [h1] at this;have hc:c=0:=by
  rcases c8Q c with h0|h0
  ·exact h0
  ·have:c=1:=by omega
   subst this;omega
 subst hc;exact ⟨rfl,by omega⟩
def a7K (x y:List Nat) (i:Nat) (out:List Nat):Prop:=
 out.length=x.length+y.length/\(∀ w ∈ out,w < 4294967296)/\wv 4294967296 out=wv 4294967296 (x.take i)*wv 4294967296 y/\∀ j,i+y.length<=j->out.getD j 0=0
def b0H (x y:List Nat) (i k:Nat) (out:List Nat) (c:Nat):Prop:=
 out.length=x.length+y.length/\(∀ w ∈ out,w < 4294967296)/\c < 4294967296/\wv 4294967296 out+4294967296 ^ (i+k)*c=wv 4294967296 (x.take i)*wv 4294967296 y+4294967296 ^ i*(x.getD i 0*wv 4294967296 (y.take k))/\∀ j,i+y.length<=j->out.getD j 0=0
theorem b5F (x y:List Nat):a7K x y 0 (List.replicate (x.length+y.length) 0):=by
 refine ⟨by simp,fun w hw=>by rw [c8T hw];decide,by rw [a7d];simp [wv],fun j _=>?_⟩;rw [c8C,List.getElem?_replicate];split<;>rfl
theorem b7n {x y:List Nat} {i:Nat} {out:List Nat} (h:a7K x y i out):b0H x y i 0 out 0:=by
 obtain ⟨h1,h2,h3,h4⟩:=h;exact ⟨h1,h2,by decide,by rw [h3];simp [wv],h4⟩
theorem getD_set_ne {l:List Nat} {i j v:Nat} (h:i ≠ j):(l.set i v).getD j 0=l.getD j 0:=by
 simp [c8C,List.getElem?_set_ne h]
theorem b7t {x y:List Nat} {i k:Nat} {out:List Nat} {c:Nat} (h:b0H x y i k out c) (hi:i < x.length) (hk:k < y.length) (hx:x[i] < 4294967296) (hy:y[k] < 4294967296) {s:Nat} (ho:i+k < out.length) (hs:s=c+x[i]*y[k]+out[i+k]) :
  b0H x y i (k+1) (out.set (i+k) (s % 4294967296)) (s / 4294967296)/\s<=18446744073709551615:=by
 obtain ⟨h1,h2,h3,h4,h5⟩:=h;have hm:x[i]*y[k]<=4294967295*4294967295:=Nat.mul_le_mul (by omega) (by omega);have hok:=h2 _ (c8L ho);have hsb:s<=18446744073709551615:=by omega
 refine ⟨⟨by simp [h1],fun w hw=>?_,by omega,?_,fun j hj=>?_⟩,hsb⟩
 ·rcases mem_set hw with rfl|hw
  ·exact Nat.mod_lt _ (by decide)
  ·exact h2 w hw
 ·have e0:=a4W 4294967296 ho (s % 4294967296);rw [D7 _ hk];have hd:s=s % 4294967296+4294967296*(s / 4294967296):=by omega
  have e2:4294967296 ^ (i+k)*s=4294967296 ^ (i+k)*(s % 4294967296)+4294967296 ^ (i+(k+1))*(s / 4294967296):=by
   conv=>lhs;rw [hd,Nat.mul_add,<- c9a,<- c9c]
   rfl
  have e3:4294967296 ^ (i+k)*s=4294967296 ^ (i+k)*c+4294967296 ^ (i+k)*(x[i]*y[k])+4294967296 ^ (i+k)*out[i+k]:=by rw [hs,Nat.mul_add,Nat.mul_add]
  have e4:x.getD i 0=x[i]:=by rw [c8C,c8q hi];rfl
  rw [e4] at h4 ⊢;have e5:4294967296 ^ i*(x[i]*(wv 4294967296 (y.take k)+4294967296 ^ k*y[k]))=4294967296 ^ i*(x[i]*wv 4294967296 (y.take k))+4294967296 ^ (i+k)*(x[i]*y[k]):=by
   rw [Nat.pow_add,Nat.mul_add,Nat.mul_add];congr 1;generalize 4294967296 ^ i=p;generalize 4294967296 ^ k=q;grind
  omega
 ·rw [getD_set_ne (by omega)];exact h5 j hj
theorem c0y {x y:List Nat} {i:Nat} {out:List Nat} {c:Nat} (h:b0H x y i y.length out c) (hi:i < x.length):a7K x y (i+1) (out.set (i+y.length) c):=by
 obtain ⟨h1,h2,h3,h4,h5⟩:=h;have ho:i+y.length < out.length:=by omega
 refine ⟨by simp [h1],fun w hw=>?_,?_,fun j hj=>?_⟩
 ·rcases mem_set hw with rfl|hw
  ·exact h3
  ·exact h2 w hw
 ·have e0:=a4W 4294967296 ho c;have e1:=h5 _ (c8B (i+y.length));rw [c8C,c8q ho] at e1;simp only [Option.getD_some] at e1;rw [e1,Nat.mul_zero,Nat.add_zero] at e0;rw [e0,h4,c8J,a3g];grind
 ·rw [getD_set_ne (by omega)];exact h5 j (by omega)
theorem b7C {x y:List Nat} {out:List Nat} (h:a7K x y x.length out):wv 4294967296 out=wv 4294967296 x*wv 4294967296 y:=by
 obtain ⟨_,_,h,_⟩:=h;rw [c8J] at h;exact h
section
variable {W V p v1 v2 lo2 top u2 wl d rest:Nat}
theorem c6i (hV:v1*p<=V) (hW:W < (top+1)*p) (h1:0 < v1):W / V<=top / v1:=by
 rw [Nat.le_div_iff_mul_le h1];rcases c8N top (W / V*v1) with h|h
 ·exfalso;have h2:(top+1)*p<=W / V*v1*p:=c8X p h;have h3:W / V*(v1*p)<=W / V*V:=Nat.mul_le_mul_left _ hV;have h4:W / V*V<=W:=Nat.div_mul_le_self W V;rw [<- c9a] at h3;omega
 ·exact h
theorem c4X {B:Nat} (hV:(v1*B+v2)*p<=V) (hW:W < (top*B+u2+1)*p) (ht:top=d*v1+rest) (hd:rest*B+u2 < d*v2):W / V < d:=by
 have h1:top*B+u2+1<=d*(v1*B+v2):=by
  rw [ht,Nat.add_mul,Nat.mul_add,c9a];omega
 have h2:(top*B+u2+1)*p<=d*(v1*B+v2)*p:=c8X p h1;have h3:d*((v1*B+v2)*p)<=d*V:=Nat.mul_le_mul_left _ hV;rw [<- c9a] at h3;have h4:W < d*V:=by omega
 rcases c8Q V with h0|h0
 ·subst h0;simp at h4
 ·rwa [Nat.div_lt_iff_lt_mul h0]
theorem c5h {B:Nat} (hV:V < (v1*B+v2+1)*p) (hW:(top*B+u2)*p<=W) (ht:top=d*v1+rest) (hd:d*v2<=rest*B+u2) (hB:d < B) (h1:0 < v1):(d-1)*V<=W:=by
 rcases c8Q d with h0|h0
 ·subst h0;simp
 obtain ⟨e,rfl⟩:∃ e,d=e+1:=⟨d-1,by omega⟩
 simp only [Nat.add_sub_cancel];have hB1:B<=v1*B:=by have:=c8X B h1;omega
 have h2:(e+1)*(v1*B+v2)<=top*B+u2:=by
  have a1:=Nat.mul_add (e+1) (v1*B) v2;have a2:=Nat.add_mul ((e+1)*v1) rest B;have a3:=c9a (e+1) v1 B;rw [ht];omega
 have h3:e*(v1*B+v2+1)<=top*B+u2:=by
  have:(e+1)*(v1*B+v2)=e*(v1*B+v2)+(v1*B+v2):=by rw [Nat.add_mul,Nat.one_mul]
  have:e*(v1*B+v2+1)=e*(v1*B+v2)+e:=by rw [Nat.mul_add _ _ 1,Nat.mul_one]
  omega
 have h4:e*V<=e*((v1*B+v2+1)*p):=Nat.mul_le_mul_left _ (by omega);have h5:e*(v1*B+v2+1)*p<=(top*B+u2)*p:=c8X p h3;rw [<- c9a] at h4;omega
end
theorem c2Q {W V d:Nat} (h1:W / V<=d) (h2:(d-1)*V<=W) (hV:0 < V):(d*V<=W/\W / V=d) \/ (W < d*V/\0 < d/\W / V=d-1):=by
 rcases c8N W (d*V) with h|h
 ·refine .inr ⟨h,?_,?_⟩
  ·rcases c8Q d with h0|h0
   ·subst h0;simp at h
   ·exact h0
  ·have:W / V < d:=by rwa [Nat.div_lt_iff_lt_mul hV]
   have:d-1<=W / V:=by rwa [Nat.le_div_iff_mul_le hV]
   omega
 ·refine .inl ⟨h,?_⟩;have:d<=W / V:=by rwa [Nat.le_div_iff_mul_le hV]
  omega
def leftInv (x:List Nat) (p i:Nat) (out:List Nat):Prop:=
 out.length=x.length+1/\(∀ w ∈ out,w < 4294967296)/\out.getD i 0 < p/\wv 4294967296 (out.take i)+4294967296 ^ i*out.getD i 0=wv 4294967296 (x.take i)*p
theorem getD_lt {l:List Nat} {i:Nat} (h:i < l.length):l.getD i 0=l[i]:=by rw [c8C,c8q h];rfl
theorem b3G (x:List Nat) {p:Nat} (hp:0 < p):leftInv x p 0 (List.replicate (x.length+1) 0):=by
 refine ⟨by simp,fun w hw=>by rw [c8T hw];decide,?_,by simp [wv]⟩;rw [getD_lt (by simp)];simp;omega
theorem a7U {l:List Nat} {i v u:Nat} (h:i+1 < l.length):((l.set i v).set (i+1) u).getD (i+1) 0=u:=by
 rw [getD_lt (by simp;omega)];simp
theorem b2L {x:List Nat} {r i:Nat} {out:List Nat} (h:leftInv x (2 ^ r) i out) (hr:r < 32) (hi:i < x.length) (hx:x[i] < 4294967296) (ho:i < out.length) :
  leftInv x (2 ^ r) (i+1) ((out.set i (out[i] ||| (x[i]*2 ^ r % 4294967296))).set (i+1) (x[i]*2 ^ r / 4294967296))/\x[i]*2 ^ r < 18446744073709551616/\out[i] ||| (x[i]*2 ^ r % 4294967296) < 4294967296/\x[i]*2 ^ r / 4294967296 < 4294967296:=by
 obtain ⟨h1,h2,h3,h4⟩:=h;rw [getD_lt ho] at h3 h4;have hp:(2:Nat) ^ r<=2 ^ 31:=c8Y (by decide) (by omega);have hp0:0 < (2:Nat) ^ r:=Nat.pow_pos (by decide);have hmul:x[i]*2 ^ r<=4294967295*2147483648:=Nat.mul_le_mul (by omega) hp;have e32:(4294967296:Nat)=2 ^ (32-r)*2 ^ r:=by rw [<- Nat.pow_add,show 32-r+r=32 by omega]
 have hmod:x[i]*2 ^ r % 4294967296=(x[i] % 2 ^ (32-r))*2 ^ r:=by rw [e32,Nat.mul_mod_mul_right]
 have hor:out[i] ||| (x[i]*2 ^ r % 4294967296)=out[i]+x[i]*2 ^ r % 4294967296:=by rw [hmod,a3D h3]
 have hq:x[i] % 2 ^ (32-r)+1<=2 ^ (32-r):=Nat.mod_lt _ (Nat.pow_pos (by decide));have hq2:(x[i] % 2 ^ (32-r)+1)*2 ^ r<=4294967296:=by
  have:=c8X (2 ^ r) hq;rw [<- e32] at this;exact this
 have hsum:out[i]+x[i]*2 ^ r % 4294967296 < 4294967296:=by rw [hmod];rw [Nat.add_mul,Nat.one_mul] at hq2;omega
 have hdiv:x[i]*2 ^ r / 4294967296 < 2 ^ r:=by
  rw [Nat.div_lt_iff_lt_mul (by decide),Nat.mul_comm];exact Nat.mul_lt_mul_of_pos_left hx hp0
 rw [hor];refine ⟨⟨by simp [h1],fun w hw=>?_,?_,?_⟩,by omega,hsum,by omega⟩
 ·rcases mem_set hw with rfl|hw
  ·omega
  ·rcases mem_set hw with rfl|hw
   ·exact hsum
   ·exact h2 w hw
 ·rw [a7U (by omega)];exact hdiv
 ·rw [a7U (by omega),List.take_set_of_le (c8B _),R6 _ ho,D7 _ hi,Nat.add_mul,<- h4,c9a,c9c];have hd:x[i]*2 ^ r=x[i]*2 ^ r % 4294967296+4294967296*(x[i]*2 ^ r / 4294967296):=by omega
  have e1:=congrArg (4294967296 ^ i*·) hd;simp only [Nat.mul_add] at e1;rw [e1,Nat.mul_add,c9a];omega
theorem b5v {x:List Nat} {p:Nat} {out:List Nat} (h:leftInv x p x.length out):wv 4294967296 out=wv 4294967296 x*p/\out.getD x.length 0 < p:=by
 obtain ⟨h1,h2,h3,h4⟩:=h;refine ⟨?_,h3⟩;have ho:x.length < out.length:=by omega
 have:=D7 4294967296 ho;rw [c8P (by omega),<- getD_lt ho] at this;rw [c8J] at h4;omega
def a5i (r0:List Nat) (p i:Nat) (out:List Nat):Prop:=
 out.length=r0.length/\(∀ w ∈ out,w < 4294967296)/\out.drop i=r0.drop i/\wv 4294967296 (out.take i)*p+r0.getD 0 0 % p=wv 4294967296 (r0.take i)+4294967296 ^ i*(r0.getD i 0 % p)
theorem b2o {r0:List Nat} {p:Nat} (h:∀ w ∈ r0,w < 4294967296):a5i r0 p 0 r0:=⟨rfl,h,rfl,by simp [wv]⟩
theorem b2v {r0:List Nat} {by' i:Nat} {out:List Nat} (h:a5i r0 (2 ^ by') i out) (hb:by' < 32) (hi:i < r0.length) (h0:∀ w ∈ r0,w < 4294967296) {t:Nat}
  (ht:t=if i+1 < r0.length then r0[i] / 2 ^ by' ||| (r0.getD (i+1) 0*2 ^ (32-by') % 4294967296) else r0[i] / 2 ^ by'):a5i r0 (2 ^ by') (i+1) (out.set i t)/\t < 4294967296:=by
 obtain ⟨h1,h2,h3,h4⟩:=h;have hp0:0 < (2:Nat) ^ by':=Nat.pow_pos (by decide);have hx:=h0 _ (c8L hi);have e32:(4294967296:Nat)=2 ^ by'*2 ^ (32-by'):=by rw [<- Nat.pow_add,show by'+(32-by')=32 by omega]
 have hd:r0[i] / 2 ^ by' < 2 ^ (32-by'):=by
  rw [Nat.div_lt_iff_lt_mul hp0,Nat.mul_comm,<- e32];exact hx
 have ht':t=r0[i] / 2 ^ by'+(r0.getD (i+1) 0 % 2 ^ by')*2 ^ (32-by'):=by
  rw [ht];split
  ·rename_i hlt;have hmod:r0.getD (i+1) 0*2 ^ (32-by') % 4294967296=(r0.getD (i+1) 0 % 2 ^ by')*2 ^ (32-by'):=by
    conv=>lhs;rw [e32,Nat.mul_mod_mul_right]
   rw [hmod,a3D hd]
  ·rename_i hge;have:r0.getD (i+1) 0=0:=by rw [c8C,c8W (by omega)];rfl
   rw [this];simp
 have hm1:r0.getD (i+1) 0 % 2 ^ by'+1<=2 ^ by':=Nat.mod_lt _ hp0;have hm2:(r0.getD (i+1) 0 % 2 ^ by'+1)*2 ^ (32-by')<=4294967296:=by
  have:=c8X (2 ^ (32-by')) hm1;rw [<- e32] at this;exact this
 have hlt:t < 4294967296:=by rw [ht'];rw [Nat.add_mul,Nat.one_mul] at hm2;omega
 refine ⟨⟨by simp [h1],fun w hw=>?_,a0B _ h3,?_⟩,hlt⟩
 ·rcases mem_set hw with rfl|hw
  ·exact hlt
  ·exact h2 w hw
 ·rw [R6 _ (by omega),D7 _ hi];rw [getD_lt hi] at h4;have e1:t*2 ^ by'=r0[i] / 2 ^ by'*2 ^ by'+(r0.getD (i+1) 0 % 2 ^ by')*4294967296:=by
   rw [ht',Nat.add_mul,c9a (r0.getD (i+1) 0 % 2 ^ by'),Nat.mul_comm (2 ^ (32-by')),<- e32]
  have e2:r0[i]=r0[i] / 2 ^ by'*2 ^ by'+r0[i] % 2 ^ by':=by
   have:=Nat.div_add_mod r0[i] (2 ^ by');rw [Nat.mul_comm] at this;omega
  rw [Nat.add_mul,c9a,e1,c9c];generalize r0[i] / 2 ^ by'*2 ^ by'=a at *;generalize r0[i] % 2 ^ by'=b at *;rw [e2];generalize r0.getD (i+1) 0 % 2 ^ by'=c at *;grind
theorem b4l {r0:List Nat} {by':Nat} {out:List Nat} (h:a5i r0 (2 ^ by') r0.length out) (hb:by'<=32) {z:Nat} (hz:wv 4294967296 r0=z*2 ^ by'):wv 4294967296 out=z:=by
 obtain ⟨h1,h2,_,h4⟩:=h;have hp0:0 < (2:Nat) ^ by':=Nat.pow_pos (by decide);rw [c8P (by omega),c8J,hz] at h4;have e0:r0.getD r0.length 0=0:=by rw [c8C,c8W (c8B _)];rfl
 rw [e0,Nat.zero_mod,Nat.mul_zero,Nat.add_zero] at h4;have hm:r0.getD 0 0 % 2 ^ by'=0:=by
  cases hr:r0 with
  | nil=>simp
  | cons a l=>
   rw [hr] at hz;simp only [wv] at hz;have e32:(4294967296:Nat)=2 ^ by'*2 ^ (32-by'):=by rw [<- Nat.pow_add,show by'+(32-by')=32 by omega]
   rw [e32,c9a] at hz;have h5:(a+2 ^ by'*(2 ^ (32-by')*wv (2 ^ by'*2 ^ (32-by')) l)) % 2 ^ by'=a % 2 ^ by':=Nat.add_mul_mod_self_left ..;rw [hz,Nat.mul_mod_left] at h5;exact h5.symm
 rw [hm,Nat.add_zero] at h4;exact Nat.eq_of_mul_eq_mul_right hp0 h4
def a9R (u v:List Nat) (d i:Nat) (out:List Nat) (c b:Nat):Prop:=
 out.length=u.length/\(∀ w ∈ out,w < 4294967296)/\c < 4294967296/\b<=1/\out.drop i=u.drop i/\wv 4294967296 (out.take i)+d*wv 4294967296 (v.take i)=wv 4294967296 (u.take i)+4294967296 ^ i*c+4294967296 ^ i*b
theorem b7L {u:List Nat} (v:List Nat) (d:Nat) (h:∀ w ∈ u,w < 4294967296):a9R u v d 0 u 0 0:=⟨rfl,h,by decide,by decide,rfl,by simp [wv]⟩
theorem b7p {u v:List Nat} {d i:Nat} {out:List Nat} {c b:Nat} (h:a9R u v d i out c b) (hi:i < v.length) (hu:i < u.length) (hv:v[i] < 4294967296) (hd:d < 4294967296) {t b':Nat} (ht:t < 4294967296) (hb:b'<=1)
  (hs:t+(c+d*v[i]) % 4294967296+b=u[i]+4294967296*b'):a9R u v d (i+1) (out.set i t) ((c+d*v[i]) / 4294967296) b'/\c+d*v[i]<=18446744073709551615:=by
 obtain ⟨h1,h2,h3,hb0,h4,h5⟩:=h;have hm:d*v[i]<=4294967295*4294967295:=Nat.mul_le_mul (by omega) (by omega);refine ⟨⟨by simp [h1],fun w hw=>?_,by omega,hb,a0B _ h4,?_⟩,by omega⟩
 ·rcases mem_set hw with rfl|hw
  ·exact ht
  ·exact h2 w hw
 ·rw [R6 _ (by omega),D7 _ hi,D7 _ hu,c9c];have hdm:c+d*v[i]=(c+d*v[i]) % 4294967296+4294967296*((c+d*v[i]) / 4294967296):=by omega
  have e1:=congrArg (4294967296 ^ i*·) hdm;have e2:=congrArg (4294967296 ^ i*·) hs;generalize (c+d*v[i]) % 4294967296=lo at *;generalize (c+d*v[i]) / 4294967296=hi' at *;grind
theorem b9V {u v:List Nat} {d:Nat} {out:List Nat} {c b:Nat} (h:a9R u v d v.length out c b) (hl:u.length=v.length+1) {t f:Nat} (ht:t < 4294967296) (hs:t+c+b=u[v.length]+4294967296*f) :
  wv 4294967296 (out.set v.length t)+d*wv 4294967296 v=wv 4294967296 u+4294967296 ^ u.length*f/\(∀ w ∈ out.set v.length t,w < 4294967296):=by
 obtain ⟨h1,h2,h3,hb0,h4,h5⟩:=h;refine ⟨?_,fun w hw=>?_⟩
 ·have e0:=R6 4294967296 (l:=out) (i:=v.length) (by omega) t;rw [c8P (by simp;omega)] at e0;have e1:=D7 4294967296 (l:=u) (i:=v.length) (by omega);rw [c8P (by omega)] at e1;rw [c8J] at h5;have e2:=congrArg (4294967296 ^ v.length*·) hs;rw [hl,c9c,e0,e1];grind
 ·rcases mem_set hw with rfl|hw
  ·exact ht
  ·exact h2 w hw
def b0w (u v:List Nat) (i:Nat) (out:List Nat) (c:Nat):Prop:=
 out.length=u.length/\(∀ w ∈ out,w < 4294967296)/\c<=1/\out.drop i=u.drop i/\wv 4294967296 (out.take i)+4294967296 ^ i*c=wv 4294967296 (u.take i)+wv 4294967296 (v.take i)
theorem b7w {u:List Nat} (v:List Nat) (h:∀ w ∈ u,w < 4294967296):b0w u v 0 u 0:=⟨rfl,h,by decide,rfl,by simp [wv]⟩
theorem b7m {u v:List Nat} {i:Nat} {out:List Nat} {c:Nat} (h:b0w u v i out c) (hi:i < v.length) (hu:i < u.length) (hv:v[i] < 4294967296) (hx:u[i] < 4294967296) {s:Nat} (hs:s=c+u[i]+v[i]) :
  b0w u v (i+1) (out.set i (s % 4294967296)) (s / 4294967296):=by
 obtain ⟨h1,h2,h3,h4,h5⟩:=h;refine ⟨by simp [h1],fun w hw=>?_,by omega,a0B _ h4,?_⟩
 ·rcases mem_set hw with rfl|hw
  ·exact Nat.mod_lt _ (by decide)
  ·exact h2 w hw
 ·rw [R6 _ (by omega),D7 _ hi,D7 _ hu,c9c];have hdm:s=s % 4294967296+4294967296*(s / 4294967296):=by omega
  have e1:=congrArg (4294967296 ^ i*·) hdm;have e2:=congrArg (4294967296 ^ i*·) hs;generalize s % 4294967296=lo at *;generalize s / 4294967296=hi' at *;grind
theorem b8j {u v:List Nat} {out:List Nat} {c:Nat} (h:b0w u v v.length out c) (hl:u.length=v.length+1) {t:Nat} (ht:t=(u[v.length]+c) % 4294967296) {z:Nat} (hz:wv 4294967296 u+wv 4294967296 v=z+4294967296 ^ u.length) (hzl:z < 4294967296 ^ u.length) :
  wv 4294967296 (out.set v.length t)=z/\(∀ w ∈ out.set v.length t,w < 4294967296):=by
 obtain ⟨h1,h2,h3,h4,h5⟩:=h;have hb:∀ w ∈ out.set v.length t,w < 4294967296:=fun w hw=>by
  rcases mem_set hw with rfl|hw
  ·rw [ht];exact Nat.mod_lt _ (by decide)
  ·exact h2 w hw
 refine ⟨?_,hb⟩;have hlt:=M9 4294967296 hb;rw [c9h,h1] at hlt;have e0:=R6 4294967296 (l:=out) (i:=v.length) (by omega) t;rw [c8P (by simp;omega)] at e0;have e1:=D7 4294967296 (l:=u) (i:=v.length) (by omega);rw [c8P (by omega)] at e1;rw [c8J] at h5;have hdm:u[v.length]+c=t+4294967296*((u[v.length]+c) / 4294967296):=by omega
 generalize (u[v.length]+c) / 4294967296=f at *;have e2:=congrArg (4294967296 ^ v.length*·) hdm;have key:wv 4294967296 (out.set v.length t)+4294967296 ^ u.length*f=z+4294967296 ^ u.length:=by
  rw [<- hz,hl,c9c,e0,e1];grind
 have hf:f=1:=by
  rcases Nat.lt_trichotomy f 1 with h0|h0|h0
  ·have:f=0:=by omega
   subst this;omega
  ·exact h0
  ·have:=Nat.mul_le_mul_left (4294967296 ^ u.length) h0;omega
 subst hf;omega
def H8 (l:List Nat):Prop:=∀ w ∈ l,w < 4294967296
theorem H8.take {l:List Nat} (h:H8 l) (n:Nat):H8 (l.take n):=fun w hw=>h w (List.mem_of_mem_take hw)
theorem H8.drop {l:List Nat} (h:H8 l) (n:Nat):H8 (l.drop n):=fun w hw=>h w (List.mem_of_mem_drop hw)
theorem H8.app {a b:List Nat} (h:H8 a) (k:H8 b):H8 (a++b):=fun w hw=>by
 rcases List.mem_append.1 hw with hw|hw
 ·exact h w hw
 ·exact k w hw
theorem H8.set {a:List Nat} (h:H8 a) {i v:Nat} (k:v < 4294967296):H8 (a.set i v):=fun w hw=>by
 rcases mem_set hw with rfl|hw
 ·exact k
 ·exact h w hw
theorem c4Z {l:List Nat} {m:Nat} (h:l.length=m+2) (ha:H8 l):∃ r,r < 4294967296 ^ m/\wv 4294967296 l=r+(l[m+1]*4294967296+l[m])*4294967296 ^ m:=by
 refine ⟨wv 4294967296 (l.take m),?_,?_⟩
 ·have:=M9 4294967296 (ha.take m);rw [c8E,Nat.min_eq_left (by omega)] at this;exact this
 ·have e1:=D7 4294967296 (l:=l) (i:=m+1) (by omega);have e2:=D7 4294967296 (l:=l) (i:=m) (by omega);rw [c8P (by omega)] at e1;rw [e1,e2,c9c];grind
theorem c4n {l:List Nat} {m:Nat} (h:l.length=m+3) (ha:H8 l):∃ r,r < 4294967296 ^ m/\wv 4294967296 l=r+((l[m+2]*4294967296+l[m+1])*4294967296+l[m])*4294967296 ^ m:=by
 refine ⟨wv 4294967296 (l.take m),?_,?_⟩
 ·have:=M9 4294967296 (ha.take m);rw [c8E,Nat.min_eq_left (by omega)] at this;exact this
 ·have e0:=D7 4294967296 (l:=l) (i:=m+2) (by omega);have e1:=D7 4294967296 (l:=l) (i:=m+1) (by omega);have e2:=D7 4294967296 (l:=l) (i:=m) (by omega);rw [c8P (by omega)] at e0;rw [e0,e1,e2,c9c,c9c];grind
structure Est (W V v1 v2 top u2 p:Nat):Prop where
 ge:(v1*4294967296+v2)*p<=V
 lt:V < (v1*4294967296+v2+1)*p
 wlt:W < (top*4294967296+u2+1)*p
 wge:(top*4294967296+u2)*p<=W
 hv1:0 < v1
 hv2:v2 < 4294967296
 hu2:u2 < 4294967296
 hW:W < 4294967296*V
theorem Est.of {v win:List Nat} {m:Nat} (hv:v.length=m+2) (hw:win.length=m+3) (hva:H8 v) (hwa:H8 win) (h1:0 < v[m+1]) (hW:wv 4294967296 win < 4294967296*wv 4294967296 v) :
  Est (wv 4294967296 win) (wv 4294967296 v) v[m+1] v[m] (win[m+2]*4294967296+win[m+1]) win[m] (4294967296 ^ m):=by
 obtain ⟨r,hr,e1⟩:=c4Z hv hva;obtain ⟨s,hs,e2⟩:=c4n hw hwa;refine ⟨by rw [e1];omega,by rw [e1,Nat.add_mul _ 1,Nat.one_mul];omega,by rw [e2,Nat.add_mul _ 1,Nat.one_mul];omega,by rw [e2];omega,h1,hva _ (c8L _),hwa _ (c8L _),hW⟩
theorem Est.pos {W V v1 v2 top u2 p:Nat} (h:Est W V v1 v2 top u2 p):0 < V:=by
 have:=h.hW;rcases c8Q V with h0|h0
 ·subst h0;omega
 ·exact h0
theorem Est.start {W V v1 v2 top u2 p:Nat} (h:Est W V v1 v2 top u2 p):W / V<=top / v1:=by
 refine c6i (p:=4294967296*p) ?_ ?_ h.hv1
 ·have:=h.ge;rw [Nat.add_mul,c9a] at this;omega
 ·have h1:=h.wlt;have h2:(top*4294967296+u2+1)*p<=((top+1)*4294967296)*p:=c8X p (by have:=h.hu2;omega);rw [c9a] at h2;omega
theorem Est.dec {W V v1 v2 top u2 p d rest:Nat} (h:Est W V v1 v2 top u2 p) (hq:W / V<=d) (ht:top=d*v1+rest) (hd:4294967296<=d \/ rest*4294967296+u2 < d*v2):W / V < d:=by
 rcases hd with hd|hd
 ·have:W / V < 4294967296:=by rw [Nat.div_lt_iff_lt_mul h.pos];exact h.hW
  omega
 ·exact c4X h.ge h.wlt ht hd
theorem Est.fin {W V v1 v2 top u2 p d rest:Nat} (h:Est W V v1 v2 top u2 p) (hq:W / V<=d) (ht:top=d*v1+rest) (hd:d < 4294967296) (hs:4294967296<=rest \/ d*v2<=rest*4294967296+u2):(d*V<=W/\W / V=d) \/ (W < d*V/\0 < d/\W / V=d-1):=by
 refine c2Q hq (c5h h.lt h.wge ht ?_ hd h.hv1) h.pos;rcases hs with hs|hs
 ·have h1:d*v2<=4294967296*4294967296:=Nat.mul_le_mul (by omega) (by have:=h.hv2;omega);have h2:4294967296*4294967296<=rest*4294967296:=c8X _ hs;omega
 ·exact hs
theorem Est.small {W V v1 v2 top u2 p d rest:Nat} (h:Est W V v1 v2 top u2 p) (ht:top=d*v1+rest) (htop:top < v1*4294967296+4294967296) (hr:4294967296<=rest):d < 4294967296:=by
 have hv:=h.hv1;have:d*v1 < 4294967296*v1:=by rw [Nat.mul_comm 4294967296];omega
 exact Nat.lt_of_mul_lt_mul_right this
def a6Z (U0:Nat) (v:List Nat) (L k:Nat) (u q:List Nat):Prop:=
 u.length=L/\H8 u/\q.length=L-v.length/\H8 q/\wv 4294967296 u+4294967296 ^ k*(wv 4294967296 v*wv 4294967296 (q.drop k))=U0/\wv 4294967296 (u.drop k) < wv 4294967296 v
theorem a3l (B:Nat) {l:List Nat} {k:Nat} (h:k < l.length):wv B (l.drop k)=l[k]+B*wv B (l.drop (k+1)):=by
 rw [List.drop_eq_getElem_cons h];rfl
theorem b1U {U0:Nat} {v:List Nat} {L k:Nat} {u q:List Nat} (h:a6Z U0 v L (k+1) u q) (hv:H8 v) (hk:k+1<=L-v.length) :
  wv 4294967296 ((u.drop k).take (v.length+1))=wv 4294967296 (u.drop k)/\wv 4294967296 (u.drop k) < 4294967296*wv 4294967296 v/\wv 4294967296 (u.drop (k+v.length+1))=0/\((u.drop k).take (v.length+1)).length=v.length+1:=by
 obtain ⟨h1,h2,h3,h4,h5,h6⟩:=h;have hku:k < u.length:=by omega
 have hx:=h2 _ (c8L hku);have e1:=a3l 4294967296 hku;have hlt:wv 4294967296 (u.drop k) < 4294967296*wv 4294967296 v:=by omega
 have hvl:=M9 4294967296 hv;have e2:=a3A 4294967296 (u.drop k) (v.length+1) (by rw [c9g];omega);rw [List.drop_drop] at e2;have hz:wv 4294967296 (u.drop (k+v.length+1))=0:=by
  rcases c8Q (wv 4294967296 (u.drop (k+v.length+1))) with h0|h0
  ·exact h0
  ·exfalso;rw [show k+(v.length+1)=k+v.length+1 by omega] at e2;have h7:=Nat.mul_le_mul_left (4294967296 ^ (v.length+1)) h0;have h8:4294967296*wv 4294967296 v<=4294967296*4294967296 ^ v.length:=Nat.mul_le_mul_left _ (Nat.le_of_lt hvl);rw [c9c] at h7 e2;omega
 refine ⟨?_,hlt,hz,by rw [c8E,c9g];omega⟩;rw [show k+(v.length+1)=k+v.length+1 by omega,hz,Nat.mul_zero,Nat.add_zero] at e2;exact e2.symm
theorem b7s {U0:Nat} {v:List Nat} {L k:Nat} {u q win:List Nat} (h:a6Z U0 v L (k+1) u q) (hv:H8 v) (hk:k+1<=L-v.length) (hwl:win.length=v.length+1) (hwa:H8 win) {d:Nat} (hd:d=wv 4294967296 (u.drop k) / wv 4294967296 v)
 (hw:wv 4294967296 win+d*wv 4294967296 v=wv 4294967296 (u.drop k)) (hpos:0 < wv 4294967296 v):a6Z U0 v L k (u.take k++win++u.drop (k+v.length+1)) (q.set k d):=by
 obtain ⟨g1,g2,g3,g4⟩:=b1U h hv hk;obtain ⟨h1,h2,h3,h4,h5,h6⟩:=h;have hku:k < u.length:=by omega
 have hd32:d < 4294967296:=by rw [hd,Nat.div_lt_iff_lt_mul hpos];exact g2
 have hkq:k < q.length:=by omega
 have hl:(u.take k++win++u.drop (k+v.length+1)).length=L:=by
  simp only [c8A,c8E,c9g];omega
 have htk:(u.take k).length=k:=by rw [c8E];omega
 have hdk:(u.take k++win++u.drop (k+v.length+1)).drop k=win++u.drop (k+v.length+1):=by
  rw [c9j,List.drop_append,htk,Nat.sub_self,List.drop_of_length_le (by omega),List.nil_append,List.drop_zero]
 have hwv:wv 4294967296 (win++u.drop (k+v.length+1))=wv 4294967296 win:=by rw [a7v,g3,Nat.mul_zero,Nat.add_zero]
 have hmod:wv 4294967296 win=wv 4294967296 (u.drop k) % wv 4294967296 v:=by
  have:=Nat.div_add_mod (wv 4294967296 (u.drop k)) (wv 4294967296 v);rw [<- hd,Nat.mul_comm] at this;omega
 refine ⟨hl,((h2.take k).app hwa).app (h2.drop _),by simp [h3],h4.set hd32,?_,?_⟩
 ·have e1:wv 4294967296 (u.take k++win++u.drop (k+v.length+1))=wv 4294967296 (u.take k)+4294967296 ^ k*wv 4294967296 win:=by
   rw [c9j,a7v,htk,hwv]
  have e2:=a3A 4294967296 u k (by omega);have e3:wv 4294967296 ((q.set k d).drop k)=d+4294967296*wv 4294967296 (q.drop (k+1)):=by
   rw [a3l _ (by simpa using hkq),List.getElem_set_self,List.drop_set_of_lt (by omega)]
  rw [e1,e3,<- h5,e2,<- hw,c9c];grind
 ·rw [hdk,hwv,hmod];exact Nat.mod_lt _ hpos
theorem b9C {U0:Nat} {v:List Nat} {L:Nat} {u q:List Nat} (h:a6Z U0 v L 0 u q) (hv:H8 v) (hl:v.length<=L):wv 4294967296 q=U0 / wv 4294967296 v/\wv 4294967296 (u.take v.length)=U0 % wv 4294967296 v:=by
 obtain ⟨h1,h2,h3,h4,h5,h6⟩:=h;rw [List.drop_zero] at h5 h6;simp only [Nat.pow_zero,Nat.one_mul] at h5;have hvl:=M9 4294967296 hv;have e2:=a3A 4294967296 u v.length (by omega);have hz:wv 4294967296 (u.drop v.length)=0:=by
  rcases c8Q (wv 4294967296 (u.drop v.length)) with h0|h0
  ·exact h0
  ·have:=Nat.mul_le_mul_left (4294967296 ^ v.length) h0;omega
 rw [hz,Nat.mul_zero,Nat.add_zero] at e2;rw [<- e2,<- h5];refine ⟨?_,?_⟩
 ·rw [Nat.add_mul_div_left _ _ (by omega),Nat.div_eq_of_lt h6,c8Z]
 ·rw [Nat.add_mul_mod_self_left,Nat.mod_eq_of_lt h6]
def a3m (l:List UInt8) (i:Nat) (out:List Nat):Prop:=
 out.length=(l.length+7) / 8/\(∀ w ∈ out,w < 18446744073709551616)/\wv 18446744073709551616 out=val (l.drop (l.length-i))/\∀ j (h:j < out.length),out[j] < 256 ^ (i-8*j)
theorem b0A (l:List UInt8):a3m l 0 (List.replicate ((l.length+7) / 8) 0):=by
 refine ⟨by simp,fun w hw=>by rw [c8T hw];decide,?_,fun j h=>by simp⟩;rw [a7d];simp [val]
theorem b5h (i:Nat):18446744073709551616 ^ (i / 8)*256 ^ (i % 8)=256 ^ i:=by
 have h:(18446744073709551616:Nat)=256 ^ 8:=by decide
 rw [h,<- Nat.pow_mul,<- Nat.pow_add];congr 1;omega
theorem b0j {l:List UInt8} {i:Nat} {out:List Nat} (h:a3m l i out) (hi:i < l.length) (hj:i / 8 < out.length) :
  a3m l (i+1) (out.set (i / 8) (out[i / 8] ||| (l[l.length-1-i]).toNat*2 ^ (8*(i % 8))))/\out[i / 8] ||| (l[l.length-1-i]).toNat*2 ^ (8*(i % 8)) < 18446744073709551616/\(l[l.length-1-i]).toNat*2 ^ (8*(i % 8)) < 18446744073709551616:=by
 obtain ⟨h1,h2,h3,h4⟩:=h;have e256:2 ^ (8*(i % 8))=256 ^ (i % 8):=by rw [Nat.pow_mul]
 have hb:=(l[l.length-1-i]).toNat_lt;have hlow:=h4 (i / 8) hj;rw [show i-8*(i / 8)=i % 8 by omega] at hlow;have hor:out[i / 8] ||| (l[l.length-1-i]).toNat*2 ^ (8*(i % 8))=out[i / 8]+(l[l.length-1-i]).toNat*256 ^ (i % 8):=by
  rw [a3D (by rw [e256];exact hlow),e256]
 rw [hor,e256];have hpos:=Nat.pow_pos (n:=i % 8) (show 0 < 256 by decide);have hmul:(l[l.length-1-i]).toNat*256 ^ (i % 8)<=255*256 ^ (i % 8):=c8X _ (by omega);have hnew:out[i / 8]+(l[l.length-1-i]).toNat*256 ^ (i % 8) < 256 ^ (i % 8+1):=by rw [c9c];omega
 have h4p:(256:Nat) ^ (i % 8+1)<=256 ^ 8:=c8Y (by decide) (by omega);have h44:(256:Nat) ^ 8=18446744073709551616:=by decide
 refine ⟨⟨by simp [h1],fun w hw=>?_,?_,fun j hjl=>?_⟩,by omega,by omega⟩
 ·rcases mem_set hw with rfl|hw
  ·omega
  ·exact h2 w hw
 ·have hs:=a4W 18446744073709551616 hj (out[i / 8]+(l[l.length-1-i]).toNat*256 ^ (i % 8));rw [Nat.mul_add,<- c9a,Nat.mul_right_comm,c9a,Nat.mul_comm (l[l.length-1-i]).toNat,Nat.mul_comm _ (l[l.length-1-i]).toNat] at hs;rw [show l.length-(i+1)=l.length-1-i by omega,a7q hi,<- h3,<- b5h i];have:18446744073709551616 ^ (i / 8)*((l[l.length-1-i]).toNat*256 ^ (i % 8))=(l[l.length-1-i]).toNat*(18446744073709551616 ^ (i / 8)*256 ^ (i % 8)):=by grind
  have hs':=a4W 18446744073709551616 hj (out[i / 8]+(l[l.length-1-i]).toNat*256 ^ (i % 8));rw [Nat.mul_add] at hs';omega
 ·rw [List.getElem_set];split
  ·rename_i e;subst e;rw [show i+1-8*(i / 8)=i % 8+1 by omega];exact hnew
  ·have h5:=h4 j (by simpa using hjl);have:(256:Nat) ^ (i-8*j)<=256 ^ (i+1-8*j):=c8Y (by decide) (by omega);omega
def a3N (x y:List Nat) (i:Nat) (out:List Nat) (c:Nat):Prop:=
 out.length=x.length/\(∀ w ∈ out,w < 18446744073709551616)/\c<=1/\out.drop i=x.drop i/\wv 18446744073709551616 (out.take i)+wv 18446744073709551616 (y.take i)+18446744073709551616 ^ i*0=wv 18446744073709551616 (x.take i)+18446744073709551616 ^ i*c
theorem a7r {x:List Nat} (y:List Nat) (hx:∀ w ∈ x,w < 18446744073709551616):a3N x y 0 x 0:=by
 refine ⟨rfl,hx,by omega,rfl,by simp [wv]⟩
theorem a7p {x y:List Nat} {i:Nat} {out:List Nat} {c:Nat} (h:a3N x y i out c) (hi:i < x.length) {t c':Nat} (ht:t < 18446744073709551616) (hc:c'<=1) (hs:t+c+y.getD i 0=x[i]+18446744073709551616*c') :
  a3N x y (i+1) (out.set i t) c':=by
 obtain ⟨h1,h2,h3,hd,h4⟩:=h;refine ⟨by simp [h1],fun w hw=>?_,hc,a0B _ hd,?_⟩
 ·rcases mem_set hw with rfl|hw
  ·exact ht
  ·exact h2 w hw
 ·rw [R6 _ (by omega),D7 _ hi,a3g];have e:=congrArg (18446744073709551616 ^ i*·) hs;simp only [Nat.mul_add] at e;rw [<- c9a,<- c9c] at e;simp only [Nat.succ_eq_add_one] at e;omega
theorem a8d {x y:List Nat} {out:List Nat} {c:Nat} (h:a3N x y x.length out c) (hl:y.length<=x.length) (hle:wv 18446744073709551616 y<=wv 18446744073709551616 x):c=0/\wv 18446744073709551616 out+wv 18446744073709551616 y=wv 18446744073709551616 x:=by
 obtain ⟨h1,h2,h3,_,h4⟩:=h;rw [c8J,c8P (by omega),c8P hl] at h4;have:=M9 18446744073709551616 h2;rw [h1] at this;have hc:c=0:=by
  rcases c8Q c with h0|h0
  ·exact h0
  ·have:c=1:=by omega
   subst this;omega
 subst hc;exact ⟨rfl,by omega⟩
def a2z (r0:List Nat) (p i:Nat) (out:List Nat):Prop:=
 out.length=r0.length/\(∀ w ∈ out,w < 18446744073709551616)/\out.drop i=r0.drop i/\wv 18446744073709551616 (out.take i)*p+r0.getD 0 0 % p=wv 18446744073709551616 (r0.take i)+18446744073709551616 ^ i*(r0.getD i 0 % p)
theorem a5D {r0:List Nat} {p:Nat} (h:∀ w ∈ r0,w < 18446744073709551616):a2z r0 p 0 r0:=⟨rfl,h,rfl,by simp [wv]⟩
theorem a5M {r0:List Nat} {by' i:Nat} {out:List Nat} (h:a2z r0 (2 ^ by') i out) (hb:by' < 64) (hi:i < r0.length) (h0:∀ w ∈ r0,w < 18446744073709551616) {t:Nat}
  (ht:t=if i+1 < r0.length then r0[i] / 2 ^ by' ||| (r0.getD (i+1) 0*2 ^ (64-by') % 18446744073709551616) else r0[i] / 2 ^ by'):a2z r0 (2 ^ by') (i+1) (out.set i t)/\t < 18446744073709551616:=by
 obtain ⟨h1,h2,h3,h4⟩:=h;have hp0:0 < (2:Nat) ^ by':=Nat.pow_pos (by decide);have hx:=h0 _ (c8L hi);have e32:(18446744073709551616:Nat)=2 ^ by'*2 ^ (64-by'):=by rw [<- Nat.pow_add,show by'+(64-by')=64 by omega]
 have hd:r0[i] / 2 ^ by' < 2 ^ (64-by'):=by
  rw [Nat.div_lt_iff_lt_mul hp0,Nat.mul_comm,<- e32];exact hx
 have ht':t=r0[i] / 2 ^ by'+(r0.getD (i+1) 0 % 2 ^ by')*2 ^ (64-by'):=by
  rw [ht];split
  ·rename_i hlt;have hmod:r0.getD (i+1) 0*2 ^ (64-by') % 18446744073709551616=(r0.getD (i+1) 0 % 2 ^ by')*2 ^ (64-by'):=by
    conv=>lhs;rw [e32,Nat.mul_mod_mul_right]
   rw [hmod,a3D hd]
  ·rename_i hge;have:r0.getD (i+1) 0=0:=by rw [c8C,c8W (by omega)];rfl
   rw [this];simp
 have hm1:r0.getD (i+1) 0 % 2 ^ by'+1<=2 ^ by':=Nat.mod_lt _ hp0;have hm2:(r0.getD (i+1) 0 % 2 ^ by'+1)*2 ^ (64-by')<=18446744073709551616:=by
  have:=c8X (2 ^ (64-by')) hm1;rw [<- e32] at this;exact this
 have hlt:t < 18446744073709551616:=by rw [ht'];rw [Nat.add_mul,Nat.one_mul] at hm2;omega
 refine ⟨⟨by simp [h1],fun w hw=>?_,a0B _ h3,?_⟩,hlt⟩
 ·rcases mem_set hw with rfl|hw
  ·exact hlt
  ·exact h2 w hw
 ·rw [R6 _ (by omega),D7 _ hi];rw [getD_lt hi] at h4;have e1:t*2 ^ by'=r0[i] / 2 ^ by'*2 ^ by'+(r0.getD (i+1) 0 % 2 ^ by')*18446744073709551616:=by
   rw [ht',Nat.add_mul,c9a (r0.getD (i+1) 0 % 2 ^ by'),Nat.mul_comm (2 ^ (64-by')),<- e32]
  have e2:r0[i]=r0[i] / 2 ^ by'*2 ^ by'+r0[i] % 2 ^ by':=by
   have:=Nat.div_add_mod r0[i] (2 ^ by');rw [Nat.mul_comm] at this;omega
  rw [Nat.add_mul,c9a,e1,c9c];generalize r0[i] / 2 ^ by'*2 ^ by'=a at *;generalize r0[i] % 2 ^ by'=b at *;rw [e2];generalize r0.getD (i+1) 0 % 2 ^ by'=c at *;grind
theorem a6D {r0:List Nat} {by':Nat} {out:List Nat} (h:a2z r0 (2 ^ by') r0.length out) (hb:by'<=64) {z:Nat} (hz:wv 18446744073709551616 r0=z*2 ^ by'):wv 18446744073709551616 out=z:=by
 obtain ⟨h1,h2,_,h4⟩:=h;have hp0:0 < (2:Nat) ^ by':=Nat.pow_pos (by decide);rw [c8P (by omega),c8J,hz] at h4;have e0:r0.getD r0.length 0=0:=by rw [c8C,c8W (c8B _)];rfl
 rw [e0,Nat.zero_mod,Nat.mul_zero,Nat.add_zero] at h4;have hm:r0.getD 0 0 % 2 ^ by'=0:=by
  cases hr:r0 with
  | nil=>simp
  | cons a l=>
   rw [hr] at hz;simp only [wv] at hz;have e32:(18446744073709551616:Nat)=2 ^ by'*2 ^ (64-by'):=by rw [<- Nat.pow_add,show by'+(64-by')=64 by omega]
   rw [e32,c9a] at hz;have h5:(a+2 ^ by'*(2 ^ (64-by')*wv (2 ^ by'*2 ^ (64-by')) l)) % 2 ^ by'=a % 2 ^ by':=Nat.add_mul_mod_self_left ..;rw [hz,Nat.mul_mod_left] at h5;exact h5.symm
 rw [hm,Nat.add_zero] at h4;exact Nat.eq_of_mul_eq_mul_right hp0 h4
structure Rt where
 neg:Bool
 num:List UInt8
 den:List UInt8
 deriving DecidableEq
def sgn (neg:Bool) (n:Nat):Int:=if neg=true then -(n:Int) else n
instance (l:List UInt8):Decidable (canon l):=match l with
 | []=>.isTrue a7G
 | b::r=>if h:b=0 then .isFalse fun hc=>hc r (by rw [h]) else .isTrue fun q e=>h (by injection e)
def Rt.F7 (a:Rt):Prop:=a.den ≠ []/\canon a.den/\canon a.num/\(a.num=[]->a.neg=false/\a.den=[1])/\(a.den=[1] \/ Nat.gcd (val a.num) (val a.den)=1)
instance (a:Rt):Decidable a.F7:=by unfold Rt.F7;infer_instance
def ofQ (q:Rat):Rt:=⟨decide (q.num < 0),enc q.num.natAbs,enc q.den⟩
def toQ (a:Rt):Rat:=mkRat (sgn a.neg (val a.num)) (val a.den)
def d9 (a:Rt):Rat:=if a.F7 then toQ a else 0
theorem O9:enc 1=[1]:=by
 have:val [1]=1:=rfl;rw [<- this,a8G];rfl
theorem b5P (q:Rat):sgn (decide (q.num < 0)) q.num.natAbs=q.num:=by
 unfold sgn;by_cases h:q.num < 0
 ·rw [if_pos (by simpa using h)];omega
 ·rw [if_neg (by simpa using h)];omega
theorem c7q (q:Rat):toQ (ofQ q)=q:=by
 unfold toQ ofQ;simp only [J4,b5P];exact Rat.mkRat_self q
theorem a6v (q:Rat):(ofQ q).F7:=by
 unfold Rt.F7 ofQ;simp only [J4];refine ⟨a6t q.den_nz,a2Z _,a2Z _,fun h=>?_,.inr q.reduced⟩;have h0:q.num.natAbs=0:=by
  rcases c8Q q.num.natAbs with h0|h0
  ·exact h0
  ·exact absurd h (a6t (by omega))
 have h1:=q.reduced;rw [Nat.Coprime,h0,Nat.gcd_zero_left] at h1;rw [h1,O9];exact ⟨decide_eq_false (by omega),rfl⟩
theorem a4B (b:Bool) (n:Nat):(sgn b n).natAbs=n:=by unfold sgn;split<;>omega
theorem c5A {a:Rt} (h:a.F7):Nat.gcd (val a.num) (val a.den)=1:=by
 rcases h.2.2.2.2 with h1|h1
 ·rw [h1];exact Nat.gcd_one_right _
 ·exact h1
theorem den_pos {a:Rt} (h:a.F7):val a.den ≠ 0:=fun h0=>h.1 ((val_zero h.2.1).1 h0)
theorem c4y {a:Rt} (h:a.F7):(toQ a).num=sgn a.neg (val a.num)/\(toQ a).den=val a.den:=by
 unfold toQ;rw [Rat.num_mkRat,Rat.den_mkRat,if_neg (den_pos h),if_neg (den_pos h),a4B,Nat.gcd_comm,c5A h];simp
theorem c7w {a:Rt} (h:a.F7):ofQ (toQ a)=a:=by
 obtain ⟨h1,h2⟩:=c4y h;obtain ⟨neg,num,den⟩:=a;unfold ofQ;rw [h1,h2,a4B];simp only [a2a h.2.1,a2a h.2.2.1] at *;congr 1;have hz:=val_zero h.2.2.1;have h3:=h.2.2.2.1;simp only at hz h3;unfold sgn;cases neg with
 | true=>
  simp only [if_true];have:val num ≠ 0:=fun h0=>by have:=(h3 (hz.1 h0)).1;cases this
  exact decide_eq_true (by omega)
 | false=>
  simp only [c9d,if_false];exact decide_eq_false (by omega)
theorem l6 (q:Rat):d9 (ofQ q)=q:=by unfold d9;rw [if_pos (a6v q),c7q]
theorem a1V {a:Rt} (h:a.F7):ofQ (d9 a)=a:=by unfold d9;rw [if_pos h,c7w h]
def a3P:Rt:=⟨false,[],[1]⟩
theorem a4U:ofQ 0=a3P:=by
 unfold ofQ a3P;have h1:(0:Rat).num=0:=rfl;have h2:(0:Rat).den=1:=rfl;rw [h1,h2,O9];simp [a1r]
theorem b1b (neg:Bool) {n d:Nat} (hd:d ≠ 0):(if n=0 then a3P else ⟨neg,enc (n / Nat.gcd n d),enc (d / Nat.gcd n d)⟩)=ofQ (mkRat (sgn neg n) d):=by
 split
 ·rename_i h0;subst h0;have:sgn neg 0=0:=by unfold sgn;split<;>rfl
  rw [this,Rat.zero_mkRat,a4U]
 ·rename_i h0;unfold ofQ;rw [Rat.num_mkRat,Rat.den_mkRat,if_neg hd,if_neg hd,a4B,Nat.gcd_comm d n];have hg:0 < Nat.gcd n d:=Nat.gcd_pos_of_pos_right _ (by omega);have hdv:Nat.gcd n d ∣ n:=Nat.gcd_dvd_left ..;have hq:0 < n / Nat.gcd n d:=Nat.div_pos (Nat.le_of_dvd (by omega) hdv) hg;have e:sgn neg n / ((Nat.gcd n d:Nat):Int)=sgn neg (n / Nat.gcd n d):=by
   unfold sgn;split
   ·rw [Int.neg_ediv_of_dvd (by exact Int.ofNat_dvd.2 hdv)];simp
   ·simp
  rw [e,a4B];congr 1;unfold sgn;cases neg with
  | true=>simp only [if_true];exact (decide_eq_true (by omega)).symm
  | false=>simp only [c9d,if_false];exact (decide_eq_false (by omega)).symm
def O1 (neg:Bool) (a:Nat) (mi:Bool) (b:Nat):Bool × Nat:=if neg=mi then (neg,a+b) else if b<=a then (neg,a-b) else (mi,b-a)
theorem b1u (neg:Bool) (a:Nat) (mi:Bool) (b:Nat):sgn (O1 neg a mi b).1 (O1 neg a mi b).2=sgn neg a+sgn mi b:=by
 unfold O1 sgn;cases neg<;>cases mi<;>simp only [if_true,c9d,if_false,reduceCtorEq]<;>(try split)<;>simp_all<;>omega
theorem c3S (x y:Bool) (a b:Nat):sgn (x != y) (a*b)=sgn x a*sgn y b:=by
 unfold sgn;cases x<;>cases y<;>simp [Int.natCast_mul,Int.neg_mul,Int.mul_neg]
theorem a5O (x:Bool) (a b:Nat):sgn x (a*b)=sgn x a*(b:Int):=by
 unfold sgn;cases x<;>simp [Int.natCast_mul,Int.neg_mul]
def l8 (a b:Rat):Int:=if a < b then -1 else if a=b then 0 else 1
def a1b (a b:Nat):Int:=if a < b then -1 else if a=b then 0 else 1
theorem c4E (a b:Rat):l8 a b=if decide (a.num < 0) ≠ decide (b.num < 0) then (if decide (a.num < 0)=true then -1 else 1) else if decide (a.num < 0)=true then-a1b (a.num.natAbs*b.den) (b.num.natAbs*a.den) else a1b (a.num.natAbs*b.den) (b.num.natAbs*a.den):=by
 have hlt:=Rat.lt_iff a b;have hlt2:=Rat.lt_iff b a;have hd1:0 < (a.den:Int):=by have:=a.den_pos;omega
 have hd2:0 < (b.den:Int):=by have:=b.den_pos;omega
 have heq:a=b <-> a.num*b.den=b.num*a.den:=by
  constructor
  ·rintro rfl;rfl
  ·intro h;have h1:¬ a < b:=fun h'=>by have:=hlt.1 h';omega
   have h2:¬ b < a:=fun h'=>by have:=hlt2.1 h';omega
   exact Rat.le_antisymm (Rat.not_lt.1 h2) (Rat.not_lt.1 h1)
 unfold l8;simp only [hlt,heq];by_cases hA:a.num < 0
 ·by_cases hB:b.num < 0
  ·simp only [decide_eq_true hA,decide_eq_true hB,ne_eq,not_true_eq_false,if_false,if_true];have e1:a.num*b.den=-((a.num.natAbs*b.den:Nat):Int):=by
    rw [Int.natCast_mul,<- Int.neg_mul];congr 1;omega
   have e2:b.num*a.den=-((b.num.natAbs*a.den:Nat):Int):=by
    rw [Int.natCast_mul,<- Int.neg_mul];congr 1;omega
   rw [e1,e2];unfold a1b
   repeat' split
   all_goals omega
  ·simp only [decide_eq_true hA,decide_eq_false hB,ne_eq,reduceCtorEq,not_false_eq_true,if_true];have e1:a.num*b.den < 0:=Int.mul_neg_of_neg_of_pos hA hd2;have e2:0<=b.num*a.den:=Int.mul_nonneg (by omega) (by omega);rw [if_pos (by omega)]
 ·by_cases hB:b.num < 0
  ·simp only [decide_eq_false hA,decide_eq_true hB,ne_eq,reduceCtorEq,not_false_eq_true,if_true,if_false];have e1:b.num*a.den < 0:=Int.mul_neg_of_neg_of_pos hB hd1;have e2:0<=a.num*b.den:=Int.mul_nonneg (by omega) (by omega);rw [if_neg (by omega),if_neg (by omega)]
  ·simp only [decide_eq_false hA,decide_eq_false hB,ne_eq,reduceCtorEq,not_true_eq_false,if_false];have e1:a.num*b.den=((a.num.natAbs*b.den:Nat):Int):=by
    rw [Int.natCast_mul];congr 1;omega
   have e2:b.num*a.den=((b.num.natAbs*a.den:Nat):Int):=by
    rw [Int.natCast_mul];congr 1;omega
   rw [e1,e2];unfold a1b
   repeat' split
   all_goals omega
theorem a7j {d y:Nat} (hy:y % 2=1) (k:Nat):Nat.gcd (2 ^ k*d) y=Nat.gcd d y:=by
 have hc:Nat.Coprime (2 ^ k) y:=by
  apply Nat.Coprime.pow_left;have:Nat.gcd 2 y=Nat.gcd (y % 2) 2:=Nat.gcd_rec 2 y;unfold Nat.Coprime;rw [this,hy];rfl
 exact Nat.Coprime.gcd_mul_left_cancel d hc
theorem b2h {x y:Nat} (h:y<=x):Nat.gcd (x-y) y=Nat.gcd x y:=by
 have:x=(x-y)+y:=by omega
 conv=>rhs;rw [this]
 rw [Nat.gcd_add_self_left]
theorem c2A {x y n m:Nat} (hx:x % 2=1) (hy:y % 2=1):Nat.gcd (2 ^ n*x) (2 ^ m*y)=2 ^ (min n m)*Nat.gcd x y:=by
 rcases Nat.le_total n m with h|h
 ·rw [Nat.min_eq_left h];obtain ⟨k,rfl⟩:∃ k,m=n+k:=⟨m-n,by omega⟩
  rw [Nat.pow_add,c9a,Nat.gcd_mul_left,Nat.gcd_comm x,a7j hx,Nat.gcd_comm]
 ·rw [Nat.min_eq_right h];obtain ⟨k,rfl⟩:∃ k,n=m+k:=⟨n-m,by omega⟩
  rw [Nat.pow_add,c9a,Nat.gcd_mul_left,a7j hy]
def v2 (n:Nat):Nat:=if n=0 then 0 else if n % 2=1 then 0 else 1+v2 (n / 2)
termination_by n
decreasing_by omega
theorem a3F {n:Nat} (h:n ≠ 0):∃ q,n=2 ^ v2 n*q/\q % 2=1:=by
 induction n using Nat.strongRecOn with
 | _ n ih=>
  unfold v2;rw [if_neg h];split
  ·rename_i h1;exact ⟨n,by simp,h1⟩
  ·obtain ⟨q,h1,h2⟩:=ih (n / 2) (by omega) (by omega);refine ⟨q,?_,h2⟩;rw [Nat.pow_add,Nat.pow_one,c9a,<- h1];omega
theorem c3o {n k q:Nat} (h:n=2 ^ k*q) (hq:q % 2=1):v2 n=k:=by
 induction k generalizing n with
 | zero=>
  unfold v2;rw [Nat.pow_zero,Nat.one_mul] at h;subst h;rw [if_neg (by omega),if_pos hq]
 | succ k ih=>
  rw [c9c,Nat.mul_comm (2 ^ k),c9a] at h;have h1:n / 2=2 ^ k*q:=by omega
  have h0:0 < 2 ^ k*q:=Nat.mul_pos (Nat.pow_pos (by decide)) (by omega);unfold v2;rw [if_neg (by omega),if_neg (by omega),ih h1];omega
end Go.Proofs.YtpnbklgbfhgknaaGreatDoor.Nm
namespace Go.Proofs.YtpnbklgbfhgknaaGreatDoor
open Go Go.RowKit Eng
def bs (l:List UInt8):ByteArray:=⟨l.toArray⟩
theorem c5d (a b:List UInt8):bs a++bs b=bs (a++b):=by
 apply ByteArray.ext;simp [bs]
theorem F5 (a:List UInt8):(bs a).size=a.length:=by simp [bs,ByteArray.size]
theorem c4L (s:ByteArray):bs s.data.toList=s:=by apply ByteArray.ext;simp [bs]
theorem a0l (l:List UInt8):(bs l).data.toList=l:=by simp [bs]
theorem b4v {a b:List UInt8} (h:bs a=bs b):a=b:=by
 have:=congrArg (fun x:ByteArray=>x.data.toList) h;simpa [a0l] using this
theorem b2E (a b:List UInt8):(bs a=bs b)=(a=b):=propext ⟨b4v,fun h=>by rw [h]⟩
theorem a6T (l:List UInt8):(⟨l.toArray⟩:ByteArray)=bs l:=rfl
theorem b4o (l:List UInt8) (i j:Nat):(bs l).extract i j=bs ((l.take j).drop i):=by
 apply ByteArray.ext;apply Array.ext';simp [bs,ByteArray.data_extract,Array.toList_extract,List.drop_take,List.extract_eq_take_drop]
def sb (l:List UInt8):C:=.v (.string (bs l))
def ints (n:Int):C:=.v (.int .i64 n)
def wd (w:Nat):List C:=[.v (.int .u32 w)]
def lm (w:Nat):List C:=[.v (.int .u64 w)]
attribute [go_sem] sb ints
theorem b4F (n:Nat):IntKind.u32.wrap (n:Int)=((n % 4294967296:Nat):Int):=by
 have h1:IntKind.u32.wrap (n:Int)=(n:Int) % 4294967296:=by simp [IntKind.wrap,IntKind.signed,IntKind.bits]
 rw [h1];omega
theorem a2C (n:Nat):IntKind.u8.wrap (n:Int)=((n % 256:Nat):Int):=by
 have h1:IntKind.u8.wrap (n:Int)=(n:Int) % 256:=by simp [IntKind.wrap,IntKind.signed,IntKind.bits]
 rw [h1];omega
theorem a5u (n:Nat):IntKind.u64.wrap (n:Int)=((n % 18446744073709551616:Nat):Int):=by
 have h1:IntKind.u64.wrap (n:Int)=(n:Int) % 18446744073709551616:=by simp [IntKind.wrap,IntKind.signed,IntKind.bits]
 rw [h1];omega
theorem a9P (a b:Nat) (ha:a < 18446744073709551616) (hb:b < 18446744073709551616):bits .or .u64 (a:Int) (b:Int)=((a ||| b:Nat):Int):=bits_or_u64_nat a b ha hb
theorem b8E (a b:Nat) (ha:a < 4294967296) (hb:b < 4294967296):bits .or .u32 (a:Int) (b:Int)=((a ||| b:Nat):Int):=by
 have hx:a ||| b < 2 ^ 32:=Nat.or_lt_two_pow (by omega) (by omega)
 have h1:(BitVec.ofInt 32 (a:Int)).toNat=a:=by
  rw [BitVec.ofInt_natCast,BitVec.toNat_ofNat];exact Nat.mod_eq_of_lt (by omega)
 have h2:(BitVec.ofInt 32 (b:Int)).toNat=b:=by
  rw [BitVec.ofInt_natCast,BitVec.toNat_ofNat];exact Nat.mod_eq_of_lt (by omega)
 show IntKind.u32.wrap ((BitVec.ofInt 32 (a:Int) ||| BitVec.ofInt 32 (b:Int)).toNat:Int)=_;rw [BitVec.toNat_or,h1,h2,Eng.wrap_u32 (by omega)]
theorem a2P (n k:Nat):Int.fdiv (n:Int) (k:Int)=((n / k:Nat):Int):=by
 rw [Int.fdiv_eq_ediv_of_nonneg _ (by omega)];rfl
end Go.Proofs.YtpnbklgbfhgknaaGreatDoor
namespace Go.Proofs.YtpnbklgbfhgknaaGreatDoor.Eng
open Go Go.RowKit
def TT (k:Nat):Operand:=.tmp k
def II (n:Int):Operand:=.const (.int .i64 n)
def OA (d:Nat) (x:IOp):E9:=⟨some d,x,none⟩
def OB (x:IOp):E9:=⟨none,x,none⟩
def OC (d:Nat) (x:IOp) (s:Nat) (b:Bool):E9:=⟨some d,x,some (s,b)⟩
def MM (d s:Nat):E9:=⟨some d,.mv (.tmp s),none⟩
def LL (d z s:Nat):E9:=⟨some d,.load true z (.tmp s),none⟩
def VV (d s:Nat):E9:=⟨some d,.load false 1 (.tmp s),none⟩
def FF (d o s:Nat):E9:=⟨some d,.faddr o (.tmp s),none⟩
def MG (d s k:Nat) (b:Bool):E9:=⟨some d,.mv (.tmp s),some (k,b)⟩
def LG (d z s k:Nat) (b:Bool):E9:=⟨some d,.load true z (.tmp s),some (k,b)⟩
def VG (d s k:Nat) (b:Bool):E9:=⟨some d,.load false 1 (.tmp s),some (k,b)⟩
def FG (d o s k:Nat) (b:Bool):E9:=⟨some d,.faddr o (.tmp s),some (k,b)⟩
end Go.Proofs.YtpnbklgbfhgknaaGreatDoor.Eng
namespace Go.Proofs.YtpnbklgbfhgknaaGreatDoor
open Go Eng
def c7N:List Nat:=[72,73,75,79,81,82,85,86,87,88,89,90,127,143,167,205,215,217,219,225,234,235,236,242]
def eff (f:Nat):Bool:=c7N.contains f
theorem kS {P:Program} {f:Nat} {fn:Func} {ir:a4V} (hf:P.funcs[f]?=some fn) (hc:a2p eff P fn=some ir) {args:List C} {r:C} (hn:Nat.ble args.length ir.ntmps=true) (h:∀ w O,S ⟨P,eff,ir.ntmps,w,fun _=>False,O,[],[]⟩ (Fin P ir.results (Out ⟨P,eff,ir.ntmps,w,fun _=>False,O,[],[]⟩ r)) ⟨j4 0 args,[]⟩ [.code ir.body]):u7 P f args r:=u7.of hf hc (c8G hn) h
theorem kW {P:Program} {Pw:World->Prop} {f:Nat} {fn:Func} {ir:a4V} (hf:P.funcs[f]?=some fn) (hc:a2p eff P fn=some ir) {args:List C} {r:C} (hn:Nat.ble args.length ir.ntmps=true) (h:∀ w O,Pw w->S ⟨P,eff,ir.ntmps,w,fun _=>False,O,[],[]⟩ (Fin P ir.results (Out ⟨P,eff,ir.ntmps,w,fun _=>False,O,[],[]⟩ r)) ⟨j4 0 args,[]⟩ [.code ir.body]):Z6 P Pw f args r:=Z6.of hf hc (c8G hn) h
open Go Go.RowKit Eng
set_option maxRecDepth 10000
set_option maxHeartbeats 1000000
theorem a8f (b:UInt8):((b.toNat:Int)=0)=(b=0):=propext ⟨fun h=>UInt8.toNat.inj (by simp;omega),fun h=>by subst h;rfl⟩
theorem b8a {α:Type} (x:α) (l:List α):List.drop (Int.toNat 1) (List.take (l.length+1) (x::l))=l:=by simp
theorem b8c (v:Nat) (b:UInt8):bits .or .u64 (IntKind.u64.wrap (((v % 18446744073709551616:Nat):Int)*256)) (IntKind.u64.wrap ((b.toNat:Nat):Int))=(((256*v+b.toNat) % 18446744073709551616:Nat):Int):=by
 have hb:=b.toNat_lt;have h1:IntKind.u64.wrap (((v % 18446744073709551616:Nat):Int)*256)=((v % 18446744073709551616*256 % 18446744073709551616:Nat):Int):=by rw [<- a5u];rfl
 rw [h1,a5u,a9P _ _ (by omega) (by omega),Nat.mod_eq_of_lt (a:=b.toNat) (by omega),Nm.b7q _ _ (by omega)]
theorem a0N (l:List UInt8) (hl:l.length<=1099511627776):u7 Tryz.prog 163 [sb l] (sb (Nm.trim l)):=by
 refine kS Tryz.func163 (by cbv) (by rfl) fun w O=>?_;simp only [j4,TT,II,OA,OC,MM,MG,sb];(repeat first|refine uA ?_|(apply uK;· omega)|simp (disch:=omega) only [go_sem]);refine S.loop (X:=List UInt8) (fun m=>⟨[(0,sb m)],[]⟩) (fun m=>Nm.trim m=Nm.trim l) (fun m=>m.length) l rfl (by repeat first|refine uA ?_|(refine ⟨?_,?_⟩;· first|rfl|trivial|(simp [slot];done))|rfl|trivial|simp) ?_;intro m hm;cases m with
 | nil=>
  simp only [sb];(repeat first|refine uA ?_|(apply uK;· first|omega|(intros;simp_all<;>omega))|simp only [go_sem,Nat.reduceBEq,F5,List.length_nil]|simp (disch:=omega) only [ww,F5,List.length_nil]);(refine uJ rfl (fun hc=>?_) fun hc=>?_)
  ·omega
  rw [<- hm];(repeat first|refine uA ?_|(apply uK;· omega)|simp (disch:=omega) only [go_sem,Nat.reduceBEq]);exact uS rfl rfl
 | cons b m=>
  simp only [sb];(repeat first|refine uA ?_|(apply uK;· omega)|simp only [go_sem,Nat.reduceBEq,F5,a0l,c8R,List.getD_cons_zero,a8f]|simp (disch:=omega) only [ww,F5,a0l,c8R,List.getD_cons_zero,b4o,a8f]);(refine uJ rfl (fun hc=>?_) fun hc=>?_)
  ·obtain ⟨_,rfl⟩:=hc;have hm2:Nm.trim m=Nm.trim l:=by rw [<- hm];rfl
   (repeat first|refine uA ?_|(apply uK;· omega)|simp only [go_sem,Nat.reduceBEq,F5,c8R,b4o,c8J,List.take_succ_cons,List.drop_succ_cons,c8u]|simp (disch:=omega) only [ww,F5,a0l,c8R,b4o,c8J,List.take_succ_cons,List.drop_succ_cons,c8u,b8a]);refine S.next (m:=List.length) (x:=0::m) m hm2 (by simp) (by exact (by repeat first|refine uA ?_|(refine ⟨?_,?_⟩;· first|rfl|trivial|(simp [slot];done))|rfl|trivial|simp))
  ·have hb:b ≠ 0:=by
    intro hb;rcases hc with hc|hc
    ·omega
    ·exact hc hb
   have he:Nm.trim l=b::m:=by rw [<- hm];unfold Nm.trim;rw [if_neg hb]
   rw [he];(repeat first|refine uA ?_|(apply uK;· omega)|simp (disch:=omega) only [go_sem,Nat.reduceBEq]);exact uS rfl rfl
theorem a2y (l:List UInt8) (hl:l.length<=1099511627776):u7 Tryz.prog 166 [sb l] (.v (.int .u64 ((Nm.val l % 18446744073709551616:Nat):Int))):=by
 refine kS Tryz.func166 (by cbv) (by rfl) fun w O=>?_;simp only [j4,TT,II,OA,MM,sb];(repeat first|refine uA ?_|(apply uK;· omega)|simp only [go_sem,Nat.reduceBEq,F5]|simp (disch:=omega) only [ww,F5]);refine S.loop (X:=Nat) (fun i=>⟨[(0,sb l),(3,.v (.int .u64 ((Nm.val (l.take i) % 18446744073709551616:Nat):Int))),(6,ints l.length),(7,ints i)],[]⟩) (fun i=>i<=l.length) (fun i=>l.length-i) 0 (c8w _) (by repeat first|refine uA ?_|(refine ⟨?_,?_⟩;· first|rfl|trivial|(simp [slot];done))|rfl|trivial|simp) ?_;intro i hi;simp only [sb,ints];(repeat first|refine uA ?_|(apply uK;· omega)|simp (disch:=omega) only [go_sem,Nat.reduceBEq]);(refine uJ rfl (fun hc=>?_) fun hc=>?_)
 ·have hi':i < l.length:=by omega
  have hg:l.getD i 0=l[i]:=by rw [c8C,c8q hi'];rfl
  have hv:Nm.val (l.take (i+1))=256*Nm.val (l.take i)+l[i].toNat:=by rw [c9k hi',Nm.a9h]
  have hb:=l[i].toNat_lt;(repeat first|refine uA ?_|(apply uK;· omega)|simp only [go_sem,Nat.reduceBEq,Nat.reduceLeDiff,Int.reducePow,F5,a0l,hg,b8c]|simp (disch:=omega) only [ww]);refine S.next (i+1) hi' (by omega) (by rw [hv];exact (by repeat first|refine uA ?_|(refine ⟨?_,?_⟩;· first|rfl|trivial|(simp [slot];done))|rfl|trivial|simp))
 ·have hi':i=l.length:=by omega
  subst hi';rw [c8J];(repeat first|refine uA ?_|(apply uK;· omega)|simp (disch:=omega) only [go_sem,Nat.reduceBEq]);exact uS rfl rfl
def b8 (n i:Nat):List C:=((Nm.be8 n).take i++List.replicate (8-i) 0).map fun b:UInt8=>.v (.int .u8 ((b.toNat:Nat):Int))
theorem a6O (n k:Nat):IntKind.u8.wrap (Int.fdiv (n:Int) (k:Int))=(((Nm.oB (n / k)).toNat:Nat):Int):=by
 rw [a2P,a2C,Nm.a2F]
theorem b8m (n i:Nat) (h:i<=8):(b8 n i).length=8:=by simp [b8,Nm.be8];omega
theorem c4C (n:Nat):b8 n 0=[.v (.int .u8 0),.v (.int .u8 0),.v (.int .u8 0),.v (.int .u8 0),.v (.int .u8 0),.v (.int .u8 0),.v (.int .u8 0),.v (.int .u8 0)]:=rfl
theorem c3F (n i:Nat) (h:i < 8):(b8 n i).take i++[C.v (.int .u8 (IntKind.u8.wrap (Int.fdiv (n:Int) (2 ^ min (56-8*(i:Int)).toNat 64))))]++(b8 n i).drop (i+1)=b8 n (i+1):=by
 have:i=0 \/ i=1 \/ i=2 \/ i=3 \/ i=4 \/ i=5 \/ i=6 \/ i=7:=by omega
 have e:IntKind.u8.wrap (Int.fdiv (n:Int) (2 ^ min (56-8*(i:Int)).toNat 64))=(((Nm.oB (n / 2 ^ (56-8*i))).toNat:Nat):Int):=by
  rw [<- a6O,show min (56-8*(i:Int)).toNat 64=56-8*i by omega];congr 2
 rw [e];rcases this with rfl|rfl|rfl|rfl|rfl|rfl|rfl|rfl<;>simp [b8,Nm.be8,List.replicate]
theorem b6r {α:Type} (k:Nat) (f:α->Value):∀ l:List α,C.bdL k (l.map fun x=>.v (f x))=true
 | []=>rfl
 | x::l=>by simp only [c8K,C.bdL,C.bd,Bool.true_and];exact b6r k f l
theorem b3e (n:Nat):a0r (List.map b0J (List.take 8 (b8 n 8)))=some (Nm.be8 n):=by
 have:List.map b0J (List.take 8 (b8 n 8))=(Nm.be8 n).map I6:=by simp [b8,Nm.be8,b0J,I6]
 rw [this,a0I]
theorem a0Y (n:Nat) (hn:n < 18446744073709551616):u7 Tryz.prog 165 [.v (.int .u64 (n:Int))] (sb (Nm.enc n)):=by
 refine kS Tryz.func165 (by cbv) (by rfl) fun w O=>?_;simp only [j4,TT,II,OA,OB,MM,sb];(repeat first|refine uA ?_|(apply uK;· omega)|simp (disch:=omega) only [go_sem]);refine S.loop (X:=Nat) (fun i=>⟨[(0,.v (.int .u64 (n:Int))),(3,.bp 0 0),(5,ints i)],[.box 247 (b8 n i)]⟩) (fun i=>i<=8) (fun i=>8-i) 0 (c8w _) (by rw [c4C];exact (by repeat first|refine uA ?_|(refine ⟨?_,?_⟩;· first|rfl|trivial|(simp [slot];done))|rfl|trivial|simp)) ?_;intro i hi;simp only [ints];(repeat first|refine uA ?_|(apply uK;· omega)|simp (disch:=omega) only [go_sem,Nat.reduceBEq]);(refine uJ rfl (fun hc=>?_) fun hc=>?_)
 ·have hlen:=b8m n i (by omega);(repeat first|refine uA ?_|(apply uK;· omega)|simp only [go_sem,Nat.reduceBEq,c8Z,Nat.mul_one]|simp (disch:=omega) only [ww]);refine S.next (i+1) (by omega) (by omega) (by rw [c3F n i (by omega)];exact Ent.mk _ _ (by repeat first|refine uA ?_|(refine ⟨?_,?_⟩;· first|rfl|trivial|(simp [slot];done))|rfl|trivial|simp) (D9.cons (RI.box _ _ _ (j3.refl (b6r _ _ _))) D9.nil) (c8w _))
 ·have hi8:i=8:=by omega
  subst hi8;have hlen:=b8m n 8 (by omega);(repeat first|refine uA ?_|(apply uK;· omega)|simp only [go_sem,Nat.reduceBEq,Nat.reduceAdd,Nat.reduceLeDiff,b3e,a6T,Nm.b4q hn]|simp (disch:=omega) only [ww,b3e,a6T,Nm.b4q hn]|(apply uB (a0N (Nm.be8 n) (c8G rfl));exact rfl));exact uS rfl rfl
theorem b3D (n:Int) (hn:n<=9223372036854775807):u7 Tryz.prog 125 [ints n] (sb (Nm.enc n.toNat)):=by
 refine kS Tryz.func125 (by cbv) (by rfl) fun w O=>?_;simp only [j4,TT,II,OA,MM,sb,ints];(repeat first|refine uA ?_|(apply uK;· omega)|simp (disch:=omega) only [go_sem,Nat.reduceBEq]);(refine uJ rfl (fun hc=>?_) fun hc=>?_)
 ·have h0:n.toNat=0:=by omega
  rw [h0,Nm.a1r];(repeat first|refine uA ?_|(apply uK;· omega)|simp (disch:=omega) only [go_sem]);exact uS rfl rfl
 ·obtain ⟨m,rfl⟩:=Int.eq_ofNat_of_zero_le (show 0<=n by omega);(repeat first|refine uA ?_|(apply uK;· omega)|simp (disch:=omega) only [go_sem,Nat.reduceBEq,ww]|(apply uB (a0Y m (by omega));exact rfl));exact uS rfl rfl
def ws (l:List Nat):List (List C):=l.map wd
theorem x9 (l:List Nat):(ws l).length=l.length:=by simp [ws]
theorem F8 (l:List Nat) (i:Nat):(ws l)[i]?=(l[i]?).map wd:=by simp [ws]
theorem L8 (l:List Nat) (i v:Nat):(ws l).set i [.v (.int .u32 (v:Int))]=ws (l.set i v):=by
 simp [ws,wd,List.map_set]
theorem a3y (n:Nat):List.replicate n [C.v (.int .u32 0)]=ws (List.replicate n 0):=by simp [ws,wd]
theorem c7Z (n:Nat) (h:n<=1099511627776):IntKind.i64.wrap (((n:Int)+3).tdiv 4)=(((n+3) / 4:Nat):Int):=by
 have:((n:Int)+3).tdiv 4=(((n+3) / 4:Nat):Int):=rfl;rw [this,Eng.wrap_i64 (by omega)]
theorem c7L (i:Nat) (h:i<=1099511627776):IntKind.i64.wrap ((i:Int).tdiv 4)=((i / 4:Nat):Int):=by
 have:(i:Int).tdiv 4=((i / 4:Nat):Int):=rfl;rw [this,Eng.wrap_i64 (by omega)]
theorem c6V (i:Nat):(i:Int).tmod 4=((i % 4:Nat):Int):=rfl
theorem b9R (o:Nat) (b:UInt8) (i:Nat) (ho:o < 4294967296) (hb:b.toNat*2 ^ (8*(i % 4)) < 4294967296) :
  bits .or .u32 (o:Int) (IntKind.u32.wrap (IntKind.u32.wrap ((b.toNat:Nat):Int)*2 ^ min (((i % 4:Nat):Int)*8).toNat 32))=((o ||| b.toNat*2 ^ (8*(i % 4)):Nat):Int):=by
 have h0:=b.toNat_lt;rw [Eng.wrap_u32 (n:=((b.toNat:Nat):Int)) (by omega),show min (((i % 4:Nat):Int)*8).toNat 32=8*(i % 4) by omega];have e:((b.toNat:Nat):Int)*2 ^ (8*(i % 4))=((b.toNat*2 ^ (8*(i % 4)):Nat):Int):=by rw [Int.natCast_mul,Int.natCast_pow];rfl
 rw [e,Eng.wrap_u32 (by omega),b8E _ _ ho hb]
theorem a3b (l:List UInt8) (hl:l.length<=1099511627776):FNew Tryz.prog 167 [sb l] 217 1 (ws (Nm.L6 l)):=by
 refine FNew.of (eff:=eff) Tryz.func167 (by cbv) (by exact c8G rfl) fun w O=>?_;simp only [j4,TT,II,OA,OB,MM,VV,sb];have htl:=Nm.Y9 l;have hend:=fun out h=>Nm.b4j (l:=l) (out:=out) h;have ht:=a0N l hl;generalize Nm.trim l=m at *;have hm:m.length<=1099511627776:=by omega
 (repeat first|refine uA ?_|(apply uK;· omega)|simp only [go_sem,Nat.reduceBEq,Nat.reduceAdd,F5]|simp (disch:=omega) only [ww,c7Z m.length hm]|(apply uB ht;exact rfl));refine S.loop (X:=Nat × List Nat) (fun x=>⟨[(0,sb m),(3,.rv 0),(14,ints m.length),(15,ints x.1)],[.row 217 1 (ws x.2)]⟩) (fun x=>x.1<=m.length/\Nm.a5q m x.1 x.2) (fun x=>m.length-x.1) (0,List.replicate ((m.length+3) / 4) 0) ⟨c8w _,Nm.b2t m⟩ (by simp only [<- a3y];exact (by repeat first|refine uA ?_|(refine ⟨?_,?_⟩;· first|rfl|trivial|(simp [slot];done))|rfl|trivial|simp)) ?_;rintro ⟨i,out⟩ ⟨hi,hinv⟩;simp only [sb,ints] at hi hinv ⊢;(repeat first|refine uA ?_|(apply uK;· omega)|simp (disch:=omega) only [go_sem,Nat.reduceBEq])
 (refine uJ rfl (fun hc=>?_) fun hc=>?_)
 ·have hi':i < m.length:=by omega
  have hol:=hinv.1;have hj:i / 4 < out.length:=by omega
  obtain ⟨hst,hlt,hbl⟩:=Nm.b2p hinv hi' hj;have hgo:out[i / 4]?=some out[i / 4]:=c8q hj;have ho32:=hinv.2.1 _ (c8L hj);have hgm:m.getD ((m.length:Int)-1-(i:Int)).toNat 0=m[m.length-1-i]:=by
   rw [show ((m.length:Int)-1-(i:Int)).toNat=m.length-1-i by omega,c8C,c8q (by omega)];rfl
  (repeat first|refine uA ?_|(apply uK;· omega)|simp only [go_sem,Nat.reduceBEq,Nat.reduceAdd,Nat.reduceLeDiff,F5,a0l,x9,F8,hgo,c8s,c7L i (by omega),c6V,wd]|simp (disch:=omega) only [ww,hgm,b9R _ _ _ ho32 hbl,L8]);refine S.next (x:=(i,out)) (i+1,_) ⟨hi',hst⟩ (by simp only;omega) (by repeat first|refine uA ?_|(refine ⟨?_,?_⟩;· first|rfl|trivial|(simp [slot];done))|rfl|trivial|simp)
 ·have hi':i=m.length:=by omega
  subst hi';(repeat first|refine uA ?_|(apply uK;· omega)|simp (disch:=omega) only [go_sem,Nat.reduceBEq]);rw [<- hend _ hinv];exact S.done (p8.new rfl rfl rfl)
theorem b4n (n k:Nat):IntKind.u8.wrap (Int.fdiv (n:Int) (k:Int))=(((Nm.oB (n / k)).toNat:Nat):Int):=a6O n k
theorem a7X (l:List UInt8) (i:Nat) (v:UInt8):(l.map I6).set i [.v (.int .u8 ((v.toNat:Nat):Int))]=(l.set i v).map I6:=by
 simp [I6,List.map_set]
theorem a3E (n:Nat):List.replicate n [C.v (.int .u8 0)]=(List.replicate n (0:UInt8)).map I6:=by simp [I6]
theorem a5g (l:List Nat) (hl:l.length<=274877906944) (hw:Nm.H8 l):u7 Tryz.prog 168 [.sl 1 (ws l)] (sb (Nm.enc (Nm.wv 4294967296 l))):=by
 refine kS Tryz.func168 (by cbv) (by rfl) fun w O=>?_;simp only [j4,TT,II,OA,OB,MM,VV,sb];(repeat first|refine uA ?_|(apply uK;· omega)|simp only [go_sem,Nat.reduceBEq,Nat.reduceAdd,x9]|simp (disch:=omega) only [ww]);refine S.loop (X:=Nat × List UInt8) (fun x=>⟨[(0,.sl 1 (ws l)),(3,.rv 0),(11,.sl 1 (ws l)),(12,ints l.length),(13,ints x.1)],[.row 5 1 (x.2.map I6)]⟩) (fun x=>x.1<=l.length/\Nm.a6p l x.1 x.2) (fun x=>l.length-x.1) (0,List.replicate (4*l.length) 0) ⟨c8w _,Nm.b4S l⟩ (by simp only [<- a3E];exact (by repeat first|refine uA ?_|(refine ⟨?_,?_⟩;· first|rfl|trivial|(simp [slot];done))|rfl|trivial|simp)) ?_;rintro ⟨i,b⟩ ⟨hi,hinv⟩;simp only [ints] at hi hinv ⊢;have hbl:=hinv.1
 (repeat first|refine uA ?_|(apply uK;· omega)|simp (disch:=omega) only [go_sem,Nat.reduceBEq]);(refine uJ rfl (fun hc=>?_) fun hc=>?_)
 ·have hi':i < l.length:=by omega
  have hgl:l[i]?=some l[i]:=c8q hi';have hw32:=hw _ (c8L hi');have hk:(l.length:Int)-1-(i:Int)=((l.length-1-i:Nat):Int):=by omega
  have hst:=Nm.b4k hinv hi' hw32 (Nm.a2F (l[i] / 16777216)) (Nm.a2F (l[i] / 65536)) (Nm.a2F (l[i] / 256)) (Nm.a2F l[i]);have w1:IntKind.u8.wrap ((l[i]:Int).fdiv 16777216)=(((Nm.oB (l[i] / 16777216)).toNat:Nat):Int):=b4n l[i] 16777216;have w2:IntKind.u8.wrap ((l[i]:Int).fdiv 65536)=(((Nm.oB (l[i] / 65536)).toNat:Nat):Int):=b4n l[i] 65536;have w3:IntKind.u8.wrap ((l[i]:Int).fdiv 256)=(((Nm.oB (l[i] / 256)).toNat:Nat):Int):=b4n l[i] 256;have w4:IntKind.u8.wrap (l[i]:Int)=(((Nm.oB l[i]).toNat:Nat):Int):=by rw [a2C,Nm.a2F]
  generalize Nm.oB (l[i] / 16777216)=x0 at *;generalize Nm.oB (l[i] / 65536)=x1 at *;generalize Nm.oB (l[i] / 256)=x2 at *;generalize Nm.oB l[i]=x3 at *;generalize hkk:l.length-1-i=k at *;have n0:(4*(k:Int)).toNat=4*k:=by omega
  have n1:(4*(k:Int)+1).toNat=4*k+1:=by omega
  have n2:(4*(k:Int)+2).toNat=4*k+2:=by omega
  have n3:(4*(k:Int)+3).toNat=4*k+3:=by omega
  have g0:b[4*k]?=some b[4*k]:=c8q (by omega);have g1:(b.set (4*k) x0)[4*k+1]?=some _:=c8q (by simp;omega);have g2:((b.set (4*k) x0).set (4*k+1) x1)[4*k+2]?=some _:=c8q (by simp;omega);have g3:(((b.set (4*k) x0).set (4*k+1) x1).set (4*k+2) x2)[4*k+3]?=some _:=c8q (by simp;omega);(repeat first|refine uA ?_|(apply uK;· omega)|simp only [go_sem,Nat.reduceBEq,Nat.reduceAdd,Nat.reduceLeDiff,Int.reducePow,x9,F8,hgl,c8s,wd,w1,w2,w3,w4,g1,g2,g3,a7X,I6,c9h,c8x]|simp (disch:=omega) only [ww,c8s,hk,n0,n1,n2,n3,g0,I6]);refine S.next (x:=(i,b)) (i+1,_) ⟨hi',hst⟩ (by simp only;omega) (by repeat first|refine uA ?_|(refine ⟨?_,?_⟩;· first|rfl|trivial|(simp [slot];done))|rfl|trivial|simp)
 ·have hi':i=l.length:=by omega
  subst hi';have hend:=Nm.b5r hinv;(repeat first|refine uA ?_|(apply uK;· omega)|simp only [go_sem,Nat.reduceBEq,a0I,a6T,hend]|simp (disch:=omega) only [ww,a0I,a6T,hend]|(apply uB (a0N b (by omega));exact rfl));exact uS rfl rfl
theorem a3n (n:Nat):IntKind.u32.wrap (n:Int)=((n % 4294967296:Nat):Int):=b4F n
theorem a1L (n:Nat):Int.fdiv (n:Int) 4294967296=((n / 4294967296:Nat):Int):=a2P n 4294967296
theorem f_add (a b:List UInt8) (ha:a.length<=549755813888) (hb:b.length<=549755813888):u7 Tryz.prog 126 [sb a,sb b] (sb (Nm.enc (Nm.val a+Nm.val b))):=by
 refine kS Tryz.func126 (by cbv) (by rfl) fun w O=>?_;simp only [j4,TT,II,OA,OB,OC,MM,VV,MG,sb];have hta:=Nm.Y9 a;have htb:=Nm.Y9 b;have hva:=Nm.T9 a;have hvb:=Nm.T9 b;have hla:=Nm.X7 (Nm.trim a);have hlb:=Nm.X7 (Nm.trim b);have hwa:=Nm.a0D (Nm.trim a);have hwb:=Nm.a0D (Nm.trim b);have h3a:=Nm.a0H (Nm.trim a);have h3b:=Nm.a0H (Nm.trim b);have fta:=a0N a (by omega);have ftb:=a0N b (by omega);rw [Nm.a7S] at hla hlb;generalize Nm.trim a=x at *;generalize Nm.trim b=y at *;(repeat first|refine uA ?_|(apply uK;· omega)|simp (disch:=omega) only [go_sem,Nat.reduceBEq,Nat.reduceAdd,F5]|(apply uB fta;exact rfl)|(apply uB ftb;exact rfl));(refine uJ rfl (fun hc=>?_) fun hc=>?_)
 ·obtain ⟨h1,h2⟩:=hc;have hx:=Nm.a0M (l:=x) (k:=7) (by omega);have hy:=Nm.a0M (l:=y) (k:=7) (by omega);have e1:Nm.val x % 18446744073709551616=Nm.val x:=Nat.mod_eq_of_lt (by omega);have e2:Nm.val y % 18446744073709551616=Nm.val y:=Nat.mod_eq_of_lt (by omega);have fx:=a2y x (by omega);have fy:=a2y y (by omega);rw [e1] at fx;rw [e2] at fy;have hf:=a0Y (Nm.val x+Nm.val y) (by omega);rw [<- hva,<- hvb];(repeat first|refine uA ?_|(apply uK;· omega)|simp (disch:=omega) only [go_sem,Nat.reduceBEq,ww]|(apply uB fx;exact rfl)|(apply uB fy;exact rfl)|(apply uB hf;exact rfl));exact uS rfl rfl
 ·have hwx:=(a3b x (by omega)).spec;have hwy:=(a3b y (by omega)).spec;rw [<- hva,<- hvb,<- hwa,<- hwb];generalize Nm.L6 x=p at *;generalize Nm.L6 y=q at *;(repeat first|refine uA ?_|(apply uK;· omega)|simp (disch:=omega) only [go_sem,Nat.reduceBEq,x9]|(apply uB hwx;exact rfl)|(apply uB hwy;exact rfl));have hpl:p.length<=137438953472:=by omega
  have hql:q.length<=137438953472:=by omega
  have key:∀ (x y out:List Nat) (i c:Nat),Nm.a4i x y i out c->i < x.length->(∀ w ∈ x,w < 4294967296)->(∀ w ∈ y,w < 4294967296)->∀ s,s=c+x.getD i 0+y.getD i 0->Nm.a4i x y (i+1) (out.set i (s % 4294967296)) (s / 4294967296):=fun x y out i c h hi hx hy s hs=>by
   rw [Nm.getD_lt hi] at hs;refine Nm.b5B h hi (hx _ (c8L hi)) ?_ hs;rcases c8N i y.length with h1|h1
   ·rw [Nm.getD_lt h1];exact hy _ (c8L h1)
   ·rw [c8C,c8W h1];decide
  refine S.cond rfl (fun hc=>?_) (fun hc=>?_)
  all_goals simp only [c8D,c8I] at hc
  all_goals clear hwx hwy fta ftb
  ·rw [Nat.add_comm];generalize hP:q=P at *;generalize hQ:p=Q at *;have hle:Q.length<=P.length:=by omega
   have hPl:P.length<=137438953472:=by omega
   have hP3:∀ w ∈ P,w < 4294967296:=h3b;have hQ3:∀ w ∈ Q,w < 4294967296:=h3a;clear hP hQ hwa hwb hc;(repeat first|refine uA ?_|(apply uK;· omega)|simp (disch:=omega) only [go_sem,Nat.reduceBEq,ww,x9]);have hn1:((P.length:Int)+1).toNat=P.length+1:=by omega
   refine S.loop (X:=Nat × List Nat × Nat) (fun x=>⟨[(5,.sl 1 (ws P)),(6,.sl 1 (ws Q)),(7,.rv 0),(8,.v (.int .u64 (x.2.2:Int))),(44,.sl 1 (ws P)),(45,ints P.length),(46,ints x.1)],[.row 217 1 (ws x.2.1)]⟩) (fun x=>x.1<=P.length/\Nm.a4i P Q x.1 x.2.1 x.2.2) (fun x=>P.length-x.1) (0,List.replicate (P.length+1) 0,0) ⟨c8w _,Nm.a8X P Q⟩ (by simp only [<- a3y];rw [hn1];exact (by repeat first|refine uA ?_|(refine ⟨?_,?_⟩;· first|rfl|trivial|(simp [slot];done))|rfl|trivial|simp)) ?_;rintro ⟨i,out,c⟩ ⟨hi,hinv⟩;simp only [ints] at hi hinv ⊢;have hol:=hinv.1;have hc1:=hinv.2.2.1;(repeat first|refine uA ?_|(apply uK;· omega)|simp (disch:=omega) only [go_sem,Nat.reduceBEq])
   (refine uJ rfl (fun hc=>?_) fun hc=>?_)
   ·have hi':i < P.length:=by omega
    have hgp:P[i]?=some P[i]:=c8q hi';have hp32:=hP3 _ (c8L hi');have hk:=key P Q out i c hinv hi' hP3 hQ3;rw [Nm.getD_lt hi'] at hk;have hgo:out[i]?=some out[i]:=c8q (by omega);generalize P[i]=pi at *;(repeat first|refine uA ?_|(apply uK;· omega)|simp (disch:=omega) only [go_sem,Nat.reduceBEq,ww,x9,F8,hgp,c8s,wd]);(refine uJ rfl (fun hc=>?_) fun hc=>?_)
    ·have hi2:i < Q.length:=by omega
     have hgq:Q[i]?=some Q[i]:=c8q hi2;have hq32:=hQ3 _ (c8L hi2);rw [Nm.getD_lt hi2] at hk;generalize Q[i]=qi at *;obtain ⟨s,hs⟩:∃ s:Nat,s=c+pi+qi:=⟨_,rfl⟩
     have hs':(c:Int)+(pi:Int)+(qi:Int)=(s:Int):=by omega
     have hk:=hk s hs;(repeat first|refine uA ?_|(apply uK;· omega)|simp (disch:=omega) only [go_sem,Nat.reduceBEq,Nat.reduceAdd,Nat.reduceLeDiff,Int.reducePow,ww,x9,F8,hgq,hgo,c8s,wd,hs',a3n,a1L,L8]);refine S.next (x:=(i,out,c)) (i+1,_,_) ⟨hi',hk⟩ (by simp only;omega) (by repeat first|refine uA ?_|(refine ⟨?_,?_⟩;· first|rfl|trivial|(simp [slot];done))|rfl|trivial|simp)
    ·have hq0:Q.getD i 0=0:=by rw [c8C,c8W (by omega)];rfl
     rw [hq0,Nat.add_zero] at hk;obtain ⟨s,hs⟩:∃ s:Nat,s=c+pi:=⟨_,rfl⟩
     have hs':(c:Int)+(pi:Int)=(s:Int):=by omega
     have hk:=hk s hs;(repeat first|refine uA ?_|(apply uK;· omega)|simp (disch:=omega) only [go_sem,Nat.reduceBEq,Nat.reduceAdd,Nat.reduceLeDiff,Int.reducePow,ww,x9,F8,hgo,c8s,wd,hs',a3n,a1L,L8]);refine S.next (x:=(i,out,c)) (i+1,_,_) ⟨hi',hk⟩ (by simp only;omega) (by repeat first|refine uA ?_|(refine ⟨?_,?_⟩;· first|rfl|trivial|(simp [slot];done))|rfl|trivial|simp)
   ·have hi':i=P.length:=by omega
    subst hi';obtain ⟨he,h32⟩:=Nm.b0c hinv hle;have hgo:out[P.length]?=some out[P.length]:=c8q (by omega);rw [<- he];have ht:=a5g (out.set P.length c) (by rw [c9h];omega) h32;(repeat first|refine uA ?_|(apply uK;· omega)|simp (disch:=omega) only [go_sem,Nat.reduceBEq,ww,x9,F8,hgo,c8s,wd,L8]|(apply uC ht;exact rfl;focus (repeat' first|exact j3.nil|exact Imp.refl rfl|exact Imp.frz rfl rfl rfl|(refine Imp.K5 rfl rfl ?_ ?_;(focus ((try simp only [c8A,x9,F8,hgo,c8s,wd,L8]);omega));(focus first|rfl|assumption))|refine j3.cons ?_ ?_);done));exact uS rfl rfl
  ·generalize hP:p=P at *;generalize hQ:q=Q at *;have hle:Q.length<=P.length:=by omega
   have hPl:P.length<=137438953472:=by omega
   have hP3:∀ w ∈ P,w < 4294967296:=h3a;have hQ3:∀ w ∈ Q,w < 4294967296:=h3b;clear hP hQ hwa hwb hc;(repeat first|refine uA ?_|(apply uK;· omega)|simp (disch:=omega) only [go_sem,Nat.reduceBEq,ww,x9]);have hn1:((P.length:Int)+1).toNat=P.length+1:=by omega
   refine S.loop (X:=Nat × List Nat × Nat) (fun x=>⟨[(5,.sl 1 (ws P)),(6,.sl 1 (ws Q)),(7,.rv 0),(8,.v (.int .u64 (x.2.2:Int))),(44,.sl 1 (ws P)),(45,ints P.length),(46,ints x.1)],[.row 217 1 (ws x.2.1)]⟩) (fun x=>x.1<=P.length/\Nm.a4i P Q x.1 x.2.1 x.2.2) (fun x=>P.length-x.1) (0,List.replicate (P.length+1) 0,0) ⟨c8w _,Nm.a8X P Q⟩ (by simp only [<- a3y];rw [hn1];exact (by repeat first|refine uA ?_|(refine ⟨?_,?_⟩;· first|rfl|trivial|(simp [slot];done))|rfl|trivial|simp)) ?_;rintro ⟨i,out,c⟩ ⟨hi,hinv⟩;simp only [ints] at hi hinv ⊢;have hol:=hinv.1;have hc1:=hinv.2.2.1;(repeat first|refine uA ?_|(apply uK;· omega)|simp (disch:=omega) only [go_sem,Nat.reduceBEq])
   (refine uJ rfl (fun hc=>?_) fun hc=>?_)
   ·have hi':i < P.length:=by omega
    have hgp:P[i]?=some P[i]:=c8q hi';have hp32:=hP3 _ (c8L hi');have hk:=key P Q out i c hinv hi' hP3 hQ3;rw [Nm.getD_lt hi'] at hk;have hgo:out[i]?=some out[i]:=c8q (by omega);generalize P[i]=pi at *;(repeat first|refine uA ?_|(apply uK;· omega)|simp (disch:=omega) only [go_sem,Nat.reduceBEq,ww,x9,F8,hgp,c8s,wd]);(refine uJ rfl (fun hc=>?_) fun hc=>?_)
    ·have hi2:i < Q.length:=by omega
     have hgq:Q[i]?=some Q[i]:=c8q hi2;have hq32:=hQ3 _ (c8L hi2);rw [Nm.getD_lt hi2] at hk;generalize Q[i]=qi at *;obtain ⟨s,hs⟩:∃ s:Nat,s=c+pi+qi:=⟨_,rfl⟩
     have hs':(c:Int)+(pi:Int)+(qi:Int)=(s:Int):=by omega
     have hk:=hk s hs;(repeat first|refine uA ?_|(apply uK;· omega)|simp (disch:=omega) only [go_sem,Nat.reduceBEq,Nat.reduceAdd,Nat.reduceLeDiff,Int.reducePow,ww,x9,F8,hgq,hgo,c8s,wd,hs',a3n,a1L,L8]);refine S.next (x:=(i,out,c)) (i+1,_,_) ⟨hi',hk⟩ (by simp only;omega) (by repeat first|refine uA ?_|(refine ⟨?_,?_⟩;· first|rfl|trivial|(simp [slot];done))|rfl|trivial|simp)
    ·have hq0:Q.getD i 0=0:=by rw [c8C,c8W (by omega)];rfl
     rw [hq0,Nat.add_zero] at hk;obtain ⟨s,hs⟩:∃ s:Nat,s=c+pi:=⟨_,rfl⟩
     have hs':(c:Int)+(pi:Int)=(s:Int):=by omega
     have hk:=hk s hs;(repeat first|refine uA ?_|(apply uK;· omega)|simp (disch:=omega) only [go_sem,Nat.reduceBEq,Nat.reduceAdd,Nat.reduceLeDiff,Int.reducePow,ww,x9,F8,hgo,c8s,wd,hs',a3n,a1L,L8]);refine S.next (x:=(i,out,c)) (i+1,_,_) ⟨hi',hk⟩ (by simp only;omega) (by repeat first|refine uA ?_|(refine ⟨?_,?_⟩;· first|rfl|trivial|(simp [slot];done))|rfl|trivial|simp)
   ·have hi':i=P.length:=by omega
    subst hi';obtain ⟨he,h32⟩:=Nm.b0c hinv hle;have hgo:out[P.length]?=some out[P.length]:=c8q (by omega);rw [<- he];have ht:=a5g (out.set P.length c) (by rw [c9h];omega) h32;(repeat first|refine uA ?_|(apply uK;· omega)|simp (disch:=omega) only [go_sem,Nat.reduceBEq,ww,x9,F8,hgo,c8s,wd,L8]|(apply uC ht;exact rfl;focus (repeat' first|exact j3.nil|exact Imp.refl rfl|exact Imp.frz rfl rfl rfl|(refine Imp.K5 rfl rfl ?_ ?_;(focus ((try simp only [c8A,x9,F8,hgo,c8s,wd,L8]);omega));(focus first|rfl|assumption))|refine j3.cons ?_ ?_);done));exact uS rfl rfl
theorem a9C (p q c:Nat) (hp:p < 4294967296) (hq:q < 4294967296) (hc:c<=1):∃ t c':Nat,IntKind.u32.wrap (IntKind.u64.wrap (IntKind.u64.wrap ((p:Int)-(c:Int))-(q:Int)))=(t:Int)/\Int.fdiv (IntKind.u64.wrap (IntKind.u64.wrap ((p:Int)-(c:Int))-(q:Int))) 9223372036854775808=(c':Int)/\t < 4294967296/\c'<=1/\t+c+q=p+4294967296*c':=by
 have h1:∀ n:Int,IntKind.u64.wrap n=n % 18446744073709551616:=fun n=>by simp [IntKind.wrap,IntKind.signed,IntKind.bits]
 have h2:∀ n:Int,IntKind.u32.wrap n=n % 4294967296:=fun n=>by simp [IntKind.wrap,IntKind.signed,IntKind.bits]
 rw [h1,h1,h2];by_cases h:c+q<=p
 ·refine ⟨p-c-q,0,by omega,?_,by omega,by omega,by omega⟩;rw [show (((p:Int)-(c:Int)) % 18446744073709551616-(q:Int)) % 18446744073709551616=((p-c-q:Nat):Int) by omega];have:=a2P (p-c-q) 9223372036854775808;rw [show ((9223372036854775808:Nat):Int)=9223372036854775808 from rfl] at this;rw [this,Nat.div_eq_of_lt (by omega)]
 ·refine ⟨p+4294967296-c-q,1,by omega,?_,by omega,by omega,by omega⟩;rw [show (((p:Int)-(c:Int)) % 18446744073709551616-(q:Int)) % 18446744073709551616=((p+18446744073709551616-c-q:Nat):Int) by omega];have:=a2P (p+18446744073709551616-c-q) 9223372036854775808;rw [show ((9223372036854775808:Nat):Int)=9223372036854775808 from rfl] at this;rw [this];congr 1;omega
theorem b9v (p c:Nat) (hp:p < 4294967296) (hc:c<=1):∃ t c':Nat,IntKind.u32.wrap (IntKind.u64.wrap ((p:Int)-(c:Int)))=(t:Int)/\Int.fdiv (IntKind.u64.wrap ((p:Int)-(c:Int))) 9223372036854775808=(c':Int)/\t < 4294967296/\c'<=1/\t+c+0=p+4294967296*c':=by
 obtain ⟨t,c',h1,h2,h3⟩:=a9C p 0 c hp (by omega) hc;have e:IntKind.u64.wrap (IntKind.u64.wrap ((p:Int)-(c:Int))-((0:Nat):Int))=IntKind.u64.wrap ((p:Int)-(c:Int)):=by
  have h1:∀ n:Int,IntKind.u64.wrap n=n % 18446744073709551616:=fun n=>by simp [IntKind.wrap,IntKind.signed,IntKind.bits]
  rw [h1,h1];omega
 rw [e] at h1 h2;exact ⟨t,c',h1,h2,h3⟩
theorem c6s {E:Ctx} (hP:E.P=Tryz.prog) (xs ys:List Nat) (hl:xs.length<=274877906944) (hyl:ys.length<=xs.length) (hx:Nm.H8 xs) (hy:Nm.H8 ys) (hle:Nm.wv 4294967296 ys<=Nm.wv 4294967296 xs) :
  l7 E [.row 217 1 (ws xs)] 225 [.rv 0,.sl 1 (ws ys)] (.tup []) [.row 217 1 (ws (Nm.dig 4294967296 xs.length (Nm.wv 4294967296 xs-Nm.wv 4294967296 ys)))] []:=by
 obtain ⟨P,eff',N,w0,own0,av0,nu0,pk0⟩:=E;simp only at hP;subst hP;refine l7.of (eff:=eff) Tryz.func225 (by cbv) (by exact c8G rfl) fun w own av ν hν=>?_;simp only [j4,TT,II,OA,OB,MM,VV];have hν0:ν.length<=1:=by rw [hν];exact c8B _
 (repeat first|refine uA ?_|(apply uK;· omega)|simp (disch:=omega) only [go_sem,Nat.reduceBEq,x9]);refine S.loop (X:=Nat × List Nat × Nat) (fun x=>⟨[(0,.rv 0),(1,.sl 1 (ws ys)),(4,.v (.int .u64 (x.2.2:Int))),(8,.rv 0),(9,ints xs.length),(10,ints x.1)],[.row 217 1 (ws x.2.1)]⟩) (fun x=>x.1<=xs.length/\Nm.a7z xs ys x.1 x.2.1 x.2.2) (fun x=>xs.length-x.1) (0,xs,0) ⟨c8w _,Nm.b5p ys hx⟩ (Ent.mk _ _ (by repeat first|refine uA ?_|(refine ⟨?_,?_⟩;· first|rfl|trivial|(simp [slot];done))|rfl|trivial|simp) (by repeat first|refine uA ?_|(refine ⟨?_,?_⟩;· first|rfl|trivial|(simp [slot];done))|rfl|trivial|simp) hν0) ?_;rintro ⟨i,out,c⟩ ⟨hi,hinv⟩;simp only [ints] at hi hinv ⊢;have hol:=hinv.1
 have hc1:=hinv.2.2.1;(repeat first|refine uA ?_|(apply uK;· omega)|simp (disch:=omega) only [go_sem,Nat.reduceBEq]);(refine uJ rfl (fun hc=>?_) fun hc=>?_)
 ·have hi':i < xs.length:=by omega
  have hgp:xs[i]?=some xs[i]:=c8q hi';have hgo:out[i]?=some xs[i]:=by rw [Nm.a0V hinv.2.2.2.1,hgp]
  have hp32:=hx _ (c8L hi');have hk:=fun t c' h1 h2 h3=>Nm.b5a (t:=t) (c':=c') hinv hi' h1 h2 h3;generalize xs[i]=pi at *;(repeat first|refine uA ?_|(apply uK;· omega)|simp (disch:=omega) only [go_sem,Nat.reduceBEq,ww,x9,F8,hgo,c8s,wd]);(refine uJ rfl (fun hc=>?_) fun hc=>?_)
  ·have hi2:i < ys.length:=by omega
   have hgq:ys[i]?=some ys[i]:=c8q hi2;have hq32:=hy _ (c8L hi2);rw [Nm.getD_lt hi2] at hk;generalize ys[i]=qi at *;obtain ⟨t,c',e1,e2,h1,h2,h3⟩:=a9C pi qi c hp32 hq32 hc1;have hk:=hk t c' h1 h2 h3;(repeat first|refine uA ?_|(apply uK;· omega)|simp (disch:=omega) only [go_sem,Nat.reduceBEq,Nat.reduceAdd,Nat.reduceLeDiff,Int.reducePow,ww,x9,F8,hgq,hgo,c8s,wd,e1,e2,L8]);refine S.next (x:=(i,out,c)) (i+1,_,_) ⟨hi',hk⟩ (by simp only;omega) (Ent.mk _ _ (by repeat first|refine uA ?_|(refine ⟨?_,?_⟩;· first|rfl|trivial|(simp [slot];done))|rfl|trivial|simp) (by repeat first|refine uA ?_|(refine ⟨?_,?_⟩;· first|rfl|trivial|(simp [slot];done))|rfl|trivial|simp) hν0)
  ·have hq0:ys.getD i 0=0:=by rw [c8C,c8W (by omega)];rfl
   rw [hq0] at hk;obtain ⟨t,c',e1,e2,h1,h2,h3⟩:=b9v pi c hp32 hc1;have hk:=hk t c' h1 h2 h3;(repeat first|refine uA ?_|(apply uK;· omega)|simp (disch:=omega) only [go_sem,Nat.reduceBEq,Nat.reduceAdd,Nat.reduceLeDiff,Int.reducePow,ww,x9,F8,hgo,c8s,wd,e1,e2,L8]);refine S.next (x:=(i,out,c)) (i+1,_,_) ⟨hi',hk⟩ (by simp only;omega) (Ent.mk _ _ (by repeat first|refine uA ?_|(refine ⟨?_,?_⟩;· first|rfl|trivial|(simp [slot];done))|rfl|trivial|simp) (by repeat first|refine uA ?_|(refine ⟨?_,?_⟩;· first|rfl|trivial|(simp [slot];done))|rfl|trivial|simp) hν0)
 ·have hi':i=xs.length:=by omega
  subst hi';obtain ⟨he1,he2⟩:=Nm.b7d hinv hyl hle;have hd:out=Nm.dig 4294967296 xs.length (Nm.wv 4294967296 xs-Nm.wv 4294967296 ys):=Nm.Y7 (by decide) hinv.2.1 hol (by omega);rw [<- hd];(repeat first|refine uA ?_|(apply uK;· omega)|simp (disch:=omega) only [go_sem,Nat.reduceBEq,ww]);exact S.end_ (p8.own rfl)
end Go.Proofs.YtpnbklgbfhgknaaGreatDoor
namespace Go.Proofs
open Go.Shelf
def Tryz.b5H:Go.Shelf.Ren:=⟨fun|133=>233|128=>191|n=>n,fun|51=>217|3=>3|4=>4|46=>203|5=>5|9=>9|n=>n,fun|n=>n⟩
theorem Tryz.c4Y:Go.Proofs.Lays.n133 Tryz.prog Tryz.b5H:={
 mixed:=by kernel_rfl
 f128:=Tryz.func191.trans (congrArg some (by kernel_rfl))
 f133:=Tryz.func233.trans (congrArg some (by kernel_rfl))
 t3:=Tryz.underlying3
 a3:=Tryz.isAgg3
 z3:=Tryz.sizeOf3
 v3:=Tryz.zeroValue3
 t4:=Tryz.underlying4
 a4:=Tryz.isAgg4
 z4:=Tryz.sizeOf4
 v4:=Tryz.zeroValue4
 t5:=Tryz.underlying5
 a5:=Tryz.isAgg5
 z5:=Tryz.sizeOf5
 v5:=Tryz.zeroValue5
 t9:=Tryz.underlying9
 a9:=Tryz.isAgg9
 z9:=Tryz.sizeOf9
 v9:=Tryz.zeroValue9
 t46:=Tryz.underlying203
 a46:=Tryz.isAgg203
 z46:=Tryz.sizeOf203
 v46:=Tryz.zeroValue203
 t51:=Tryz.underlying217
 a51:=Tryz.isAgg217
 z51:=Tryz.sizeOf217
 v51:=Tryz.zeroValue217 }
theorem Tryz.bits_LeadingZeros32 (x:Int) (w:World) (h0:0<=x) (h1:x<=4294967295) :
  Calls Tryz.prog 233 #[.int .u32 x] w fun e w'=>e=.returned (.int .i64 (32-(Lib.bitLen x.toNat:Int)))/\w'=w:=Any.bits_LeadingZeros32 Tryz.c4Y x w h0 h1
def Tryz.b5m:Go.Shelf.Ren:=⟨fun|106=>164|213=>196|265=>226|n=>n,fun|9=>9|3=>3|n=>n,fun|n=>n⟩
theorem Tryz.c4k:Go.Proofs.Lays.n106 Tryz.prog Tryz.b5m:={
 mixed:=by kernel_rfl
 f106:=Tryz.func164.trans (congrArg some (by kernel_rfl))
 f213:=Tryz.func196.trans (congrArg some (by kernel_rfl))
 f265:=Tryz.func226.trans (congrArg some (by kernel_rfl))
 t3:=Tryz.underlying3
 a3:=Tryz.isAgg3
 z3:=Tryz.sizeOf3
 v3:=Tryz.zeroValue3
 t9:=Tryz.underlying9
 a9:=Tryz.isAgg9
 z9:=Tryz.sizeOf9
 v9:=Tryz.zeroValue9 }
open Go.RowKit in
theorem Tryz.strings_Compare (a b:ByteArray) (w:World) :
  Calls Tryz.prog 164 #[.string a,.string b] w fun e w'=>e=.returned (.int .i64 (Lib.compareBytes a.data.toList b.data.toList))/\w'=w:=Any.strings_Compare Tryz.c4k a b w
end Go.Proofs
namespace Go.Proofs.YtpnbklgbfhgknaaGreatDoor
open Go Go.RowKit Eng
set_option maxRecDepth 10000
set_option maxHeartbeats 1000000
theorem a8Q:∀ {a b:List UInt8},a.length=b.length->Lib.compareBytes a b=Nm.a1b (Nm.val a) (Nm.val b)
 | [],[],_=>rfl
 | [],_::_,h=>by cases h
 | _::_,[],h=>by cases h
 | x::a,y::b,h=>by
  simp only [c8R,Nat.add_right_cancel_iff] at h;have ih:=a8Q h;have ha:=Nm.a0q a;have hb:=Nm.a0q b;rw [h] at ha;simp only [Lib.compareBytes,ih,Nm.a1b,Nm.a0o,h,UInt8.lt_iff_toNat_lt];rcases Nat.lt_trichotomy x.toNat y.toNat with hl|hl|hl
  ·have:=c8X (256 ^ b.length) hl;rw [Nat.succ_mul] at this;rw [if_pos hl,if_pos (by omega)]
  ·rw [if_neg (by omega),if_neg (by omega),hl]
   repeat' split
   all_goals omega
  ·have:=c8X (256 ^ b.length) hl;rw [Nat.succ_mul] at this;rw [if_neg (by omega),if_pos hl,if_neg (by omega),if_neg (by omega)]
theorem b9A (a b:List UInt8):u7 Tryz.prog 164 [sb a,sb b] (ints (Lib.compareBytes a b)):=by
 intro O w vs hO hA;simp only [FzL,sb,Fz] at hA;obtain ⟨y,ys,rfl,rfl,z,zs,rfl,rfl,rfl⟩:=hA;refine (Tryz.strings_Compare (bs a) (bs b) w).mono ?_;rintro e w' ⟨rfl,rfl⟩;exact ⟨_,rfl,Below.refl _ _,by simp only [ints,Fz,a0l]⟩
theorem b0e (a b:List UInt8) (ha:a.length<=1099511627776) (hb:b.length<=1099511627776):u7 Tryz.prog 109 [sb a,sb b] (ints (Nm.a1b (Nm.val a) (Nm.val b))):=by
 refine kS Tryz.func109 (by cbv) (by rfl) fun w O=>?_;simp only [j4,TT,II,OA,MM,sb,ints];have fta:=a0N a ha;have ftb:=a0N b hb;have hca:=Nm.Y1 a;have hcb:=Nm.Y1 b;rw [<- Nm.T9 a,<- Nm.T9 b];generalize Nm.trim a=x at *;generalize Nm.trim b=y at *;(repeat first|refine uA ?_|(apply uK;· first|omega|(intros;simp_all<;>omega))|simp (disch:=omega) only [go_sem,Nat.reduceBEq,Nat.reduceAdd,F5]|(apply uB fta;exact rfl)|(apply uB ftb;exact rfl));(refine uJ rfl (fun hc=>?_) fun hc=>?_)
 ·have:=Nm.a3s hcb (a:=x) (by omega);have he:Nm.a1b (Nm.val x) (Nm.val y)=-1:=by unfold Nm.a1b;rw [if_pos this]
  rw [he];(repeat first|refine uA ?_|(apply uK;· omega)|simp (disch:=omega) only [go_sem]);exact uS rfl rfl
 (repeat first|refine uA ?_|(apply uK;· omega)|simp (disch:=omega) only [go_sem,Nat.reduceBEq,F5]);(refine uJ rfl (fun hc=>?_) fun hc=>?_)
 ·have:=Nm.a3s hca (a:=y) (by omega);have he:Nm.a1b (Nm.val x) (Nm.val y)=1:=by unfold Nm.a1b;rw [if_neg (by omega),if_neg (by omega)]
  rw [he];(repeat first|refine uA ?_|(apply uK;· omega)|simp (disch:=omega) only [go_sem]);exact uS rfl rfl
 ·have hl:x.length=y.length:=by omega
  have fc:=b9A x y;rw [a8Q hl] at fc;(repeat first|refine uA ?_|(apply uK;· omega)|simp (disch:=omega) only [go_sem,Nat.reduceBEq]|(apply uB fc;exact rfl));exact uS rfl rfl
def F3 (a b:Nat):List UInt8:=if b<=a then Nm.enc (a-b) else []
def a5v (a b:Nat):Int:=if b<=a then 0 else 1
theorem b3h (a b:Nat):Nm.a1b a b < 0 <-> a < b:=by unfold Nm.a1b;repeat' split;all_goals omega
theorem c3q (a b:List UInt8) (ha:a.length<=549755813888) (hb:b.length<=549755813888):u7 Tryz.prog 193 [sb a,sb b] (.tup [sb (F3 (Nm.val a) (Nm.val b)),ints (a5v (Nm.val a) (Nm.val b))]):=by
 refine kS Tryz.func193 (by cbv) (by rfl) fun w O=>?_;simp only [j4,TT,II,OA,MM,sb,ints];have hcn:=b3h (Nm.val a) (Nm.val b);(repeat first|refine uA ?_|(apply uK;· first|omega|(intros;simp_all<;>omega))|simp (disch:=omega) only [go_sem,Nat.reduceBEq,Nat.reduceAdd]|(apply uB (b0e a b (by omega) (by omega));exact rfl));(refine uJ rfl (fun hc=>?_) fun hc=>?_)
 ·have h1:=hcn.1 hc;have e1:F3 (Nm.val a) (Nm.val b)=[]:=by unfold F3;rw [if_neg (by omega)]
  have e2:a5v (Nm.val a) (Nm.val b)=1:=by unfold a5v;rw [if_neg (by omega)]
  rw [e1,e2];(repeat first|refine uA ?_|(apply uK;· omega)|simp (disch:=omega) only [go_sem]);exact uS rfl rfl
 ·have h1:Nm.val b<=Nm.val a:=by
   rcases c8N (Nm.val a) (Nm.val b) with h|h
   ·exact absurd (hcn.2 h) hc
   ·exact h
  have e1:F3 (Nm.val a) (Nm.val b)=Nm.enc (Nm.val a-Nm.val b):=by unfold F3;rw [if_pos h1]
  have e2:a5v (Nm.val a) (Nm.val b)=0:=by unfold a5v;rw [if_pos h1]
  rw [e1,e2];have hta:=Nm.Y9 a;have htb:=Nm.Y9 b;have hla:=Nm.X7 a;have hlb:=Nm.X7 b;have hwa:=Nm.a0D a;have hwb:=Nm.a0D b;have h3a:=Nm.a0H a;have h3b:=Nm.a0H b;have fwa:=a3b a (by omega);have fwb:=(a3b b (by omega)).spec;have hle:(Nm.L6 b).length<=(Nm.L6 a).length:=by
   rcases c8N (Nm.L6 a).length (Nm.L6 b).length with h|h
   ·exfalso;have h2:=Nm.a7Q b (fun e=>by rw [e] at h;simp at h);have h3:=Nm.M9 4294967296 h3a;have h4:4294967296 ^ (Nm.L6 a).length<=4294967296 ^ ((Nm.L6 b).length-1):=c8Y (by decide) (by omega);omega
   ·exact h
  have h1w:Nm.wv 4294967296 (Nm.L6 b)<=Nm.wv 4294967296 (Nm.L6 a):=by rw [hwa,hwb];exact h1
  rw [<- hwa,<- hwb];clear hwa hwb h1 hc hcn e1 e2;generalize Nm.L6 a=p at *;generalize Nm.L6 b=q at *;have hd1:Nm.wv 4294967296 (Nm.dig 4294967296 p.length (Nm.wv 4294967296 p-Nm.wv 4294967296 q))=Nm.wv 4294967296 p-Nm.wv 4294967296 q:=by
   refine Nm.Y4 ?_;have:=Nm.M9 4294967296 h3a;omega
  have ft:=a5g (Nm.dig 4294967296 p.length (Nm.wv 4294967296 p-Nm.wv 4294967296 q)) (by rw [Nm.J9];omega) (Nm.a1M (by decide) _ _);rw [hd1] at ft;(repeat first|refine uA ?_|(apply uK;· omega)|simp (disch:=omega) only [go_sem,Nat.reduceBEq]|refine l9.t (FNew.t fwa rfl) ?_|refine l9.t (c6s rfl p q (by omega) hle h3a h3b h1w) ?_|(apply uB fwb;exact rfl)|(apply uC ft;exact rfl;focus (repeat' first|exact j3.nil|exact Imp.refl rfl|exact Imp.frz rfl rfl rfl|(refine Imp.K5 rfl rfl ?_ ?_;(focus ((try simp only [c8A]);omega));(focus first|rfl|assumption))|refine j3.cons ?_ ?_);done));exact uS rfl rfl
theorem a3T (a b:List UInt8) (ha:a.length<=274877906944) (hb:b.length<=274877906944):u7 Tryz.prog 110 [sb a,sb b] (sb (Nm.enc (Nm.val a*Nm.val b))):=by
 refine kS Tryz.func110 (by cbv) (by rfl) fun w O=>?_;simp only [j4,TT,II,OA,OB,MM,VV,sb];have hta:=Nm.Y9 a;have htb:=Nm.Y9 b;have hva:=Nm.T9 a;have hvb:=Nm.T9 b;have hla:=Nm.X7 (Nm.trim a);have hlb:=Nm.X7 (Nm.trim b);have hwa:=Nm.a0D (Nm.trim a);have hwb:=Nm.a0D (Nm.trim b);have h3a:=Nm.a0H (Nm.trim a);have h3b:=Nm.a0H (Nm.trim b);have fta:=a0N a (by omega);have ftb:=a0N b (by omega);rw [Nm.a7S] at hla hlb;rw [<- hva,<- hvb];clear hva hvb;generalize Nm.trim a=x at *;generalize Nm.trim b=y at *;(repeat first|refine uA ?_|(apply uK;· omega)|simp (disch:=omega) only [go_sem,Nat.reduceBEq,Nat.reduceAdd,ww,F5]|(apply uB fta;exact rfl)|(apply uB ftb;exact rfl))
 (refine uJ rfl (fun hc=>?_) fun hc=>?_)
 ·have hx:=Nm.a0q x;have hy:=Nm.a0q y;have hp:Nm.val x*Nm.val y < 18446744073709551616:=by
   refine c8U (Nat.mul_lt_mul'' hx hy) ?_;rw [<- Nat.pow_add,show 18446744073709551616=256 ^ 8 by decide];exact c8Y (by decide) (by omega)
  have fx:=a2y x (by omega);have fy:=a2y y (by omega);have hx7:=Nm.a0M (l:=x) (k:=8) (by omega);have hy7:=Nm.a0M (l:=y) (k:=8) (by omega);have e1:Nm.val x % 18446744073709551616=Nm.val x:=Nat.mod_eq_of_lt (by omega);have e2:Nm.val y % 18446744073709551616=Nm.val y:=Nat.mod_eq_of_lt (by omega);rw [e1] at fx;rw [e2] at fy;have hf:=a0Y (Nm.val x*Nm.val y) hp;have hm:IntKind.u64.wrap ((Nm.val x:Int)*(Nm.val y:Int))=((Nm.val x*Nm.val y:Nat):Int):=by
   rw [Eng.wrap_u64]
   ·simp
   ·rw [<- Int.natCast_mul];omega
  (repeat first|refine uA ?_|(apply uK;· omega)|simp (disch:=omega) only [go_sem,Nat.reduceBEq,hm]|(apply uB fx;exact rfl)|(apply uB fy;exact rfl)|(apply uB hf;exact rfl));exact uS rfl rfl
 ·have hwx:=(a3b x (by omega)).spec;have hwy:=(a3b y (by omega)).spec;rw [<- hwa,<- hwb];clear hwa hwb fta ftb hc;generalize Nm.L6 x=p at *;generalize Nm.L6 y=q at *;have hpl:p.length<=68719476737:=by omega
  have hql:q.length<=68719476737:=by omega
  (repeat first|refine uA ?_|(apply uK;· omega)|simp (disch:=omega) only [go_sem,Nat.reduceBEq,ww,x9]|(apply uB hwx;exact rfl)|(apply uB hwy;exact rfl));have hn1:((p.length:Int)+(q.length:Int)).toNat=p.length+q.length:=by omega
  clear hwx hwy;refine S.loop (X:=Nat × List Nat) (fun x=>⟨[(5,.sl 1 (ws p)),(6,.sl 1 (ws q)),(7,.rv 0),(39,.sl 1 (ws p)),(40,ints p.length),(41,ints x.1)],[.row 217 1 (ws x.2)]⟩) (fun x=>x.1<=p.length/\Nm.a7K p q x.1 x.2) (fun x=>p.length-x.1) (0,List.replicate (p.length+q.length) 0) ⟨c8w _,Nm.b5F p q⟩ (by simp only [<- a3y];rw [hn1];exact (by repeat first|refine uA ?_|(refine ⟨?_,?_⟩;· first|rfl|trivial|(simp [slot];done))|rfl|trivial|simp)) ?_;rintro ⟨i,out0⟩ ⟨hi,hinv⟩;simp only [ints] at hi hinv ⊢;have hol:=hinv.1;(repeat first|refine uA ?_|(apply uK;· omega)|simp (disch:=omega) only [go_sem,Nat.reduceBEq]);(refine uJ rfl (fun hc=>?_) fun hc=>?_)
  ·have hi':i < p.length:=by omega
   have hgp:p[i]?=some p[i]:=c8q hi';have hp32:=h3a _ (c8L hi');(repeat first|refine uA ?_|(apply uK;· omega)|simp (disch:=omega) only [go_sem,Nat.reduceBEq,x9,F8,hgp,c8s,wd]);refine S.loop (X:=Nat × List Nat × Nat) (fun x=>⟨[(5,.sl 1 (ws p)),(6,.sl 1 (ws q)),(7,.rv 0),(39,.sl 1 (ws p)),(40,ints p.length),(41,ints i),(8,ints i),(9,.v (.int .u32 (p[i]:Int))),(10,.v (.int .u64 (x.2.2:Int))),(46,.sl 1 (ws q)),(47,ints q.length),(48,ints x.1)],[.row 217 1 (ws x.2.1)]⟩) (fun x=>x.1<=q.length/\Nm.b0H p q i x.1 x.2.1 x.2.2) (fun x=>q.length-x.1) (0,out0,0) ⟨c8w _,Nm.b7n hinv⟩ (by repeat first|refine uA ?_|(refine ⟨?_,?_⟩;· first|rfl|trivial|(simp [slot];done))|rfl|trivial|simp) ?_;clear hinv hol
   rintro ⟨k,out,c⟩ ⟨hk,hinv⟩;simp only [ints] at hk hinv ⊢;have hol:=hinv.1;have hc1:=hinv.2.2.1;(repeat first|refine uA ?_|(apply uK;· omega)|simp (disch:=omega) only [go_sem,Nat.reduceBEq]);(refine uJ rfl (fun hc=>?_) fun hc=>?_)
   ·have hk':k < q.length:=by omega
    have hgq:q[k]?=some q[k]:=c8q hk';have hq32:=h3b _ (c8L hk');have hgo:out[i+k]?=some (out[i+k]'(by omega)):=c8q (by omega);have ho32:=hinv.2.1 _ (c8L (show i+k < out.length by omega));obtain ⟨hs,hsb⟩:=Nm.b7t hinv hi' hk' hp32 hq32 (by omega) rfl;generalize hP:p[i]=pi at *;generalize q[k]=qk at *;generalize hO:out[i+k]'(by omega)=o at *;obtain ⟨m,hm⟩:∃ m:Nat,m=pi*qk:=⟨_,rfl⟩
    have hm':(pi:Int)*(qk:Int)=(m:Int):=by rw [hm];simp
    rw [<- hm] at hs hsb;have hs':(c:Int)+((m:Int)+(o:Int))=((c+m+o:Nat):Int):=by omega
    have hik:((i:Int)+(k:Int)).toNat=i+k:=by omega
    (repeat first|refine uA ?_|(apply uK;· omega)|simp (disch:=omega) only [go_sem,Nat.reduceBEq,Nat.reduceAdd,Nat.reduceLeDiff,Int.reducePow,ww,x9,F8,hgq,hgo,c8s,wd,hm',hs',hik,a3n,a1L,L8]);refine S.next (x:=(k,out,c)) (k+1,_,_) ⟨hk',hs⟩ (by simp only;omega) (by repeat first|refine uA ?_|(refine ⟨?_,?_⟩;· first|rfl|trivial|(simp [slot];done))|rfl|trivial|simp)
   ·have hk':k=q.length:=by omega
    subst hk';have he:=Nm.c0y hinv hi';have hik:((i:Int)+(q.length:Int)).toNat=i+q.length:=by omega
    have hgo:out[i+q.length]?=some (out[i+q.length]'(by omega)):=c8q (by omega);(repeat first|refine uA ?_|(apply uK;· omega)|simp (disch:=omega) only [go_sem,Nat.reduceBEq,ww,x9,F8,hgo,c8s,wd,hik,L8]);refine S.next (x:=(i,out0)) (i+1,_) ⟨hi',he⟩ (by simp only;omega) (by repeat first|refine uA ?_|(refine ⟨?_,?_⟩;· first|rfl|trivial|(simp [slot];done))|rfl|trivial|simp)
  ·have hi':i=p.length:=by omega
   subst hi';have he:=Nm.b7C hinv;rw [<- he];have ht:=a5g out0 (by omega) hinv.2.1;(repeat first|refine uA ?_|(apply uK;· omega)|simp (disch:=omega) only [go_sem,Nat.reduceBEq]|(apply uC ht;exact rfl;focus (repeat' first|exact j3.nil|exact Imp.refl rfl|exact Imp.frz rfl rfl rfl|(refine Imp.K5 rfl rfl ?_ ?_;(focus ((try simp only [c8A]);omega));(focus first|rfl|assumption))|refine j3.cons ?_ ?_);done));exact uS rfl rfl
theorem b6f (x r:Nat) (h:x*2 ^ r < 18446744073709551616) (hr:r < 64):IntKind.u64.wrap ((x:Int)*2 ^ min r 64)=((x*2 ^ r:Nat):Int):=by
 rw [show min r 64=r by omega,Eng.wrap_u64]
 ·simp
 ·have e:(x:Int)*2 ^ r=((x*2 ^ r:Nat):Int):=by simp
  rw [e];omega
theorem c0i (o n:Nat) (ho:o < 4294967296):bits .or .u32 (o:Int) (((n % 4294967296:Nat)):Int)=((o ||| n % 4294967296:Nat):Int):=b8E _ _ ho (Nat.mod_lt _ (by decide))
theorem c0d (x:List Nat) (r:Nat) (hl:x.length<=274877906940) (hx:Nm.H8 x) (hr:r < 32):FNew Tryz.prog 234 [.sl 1 (ws x),ints r] 217 1 (ws (Nm.dig 4294967296 (x.length+1) (Nm.wv 4294967296 x*2 ^ r))):=by
 refine FNew.of (eff:=eff) Tryz.func234 (by cbv) (by exact c8G rfl) fun w O=>?_;simp only [j4,TT,II,OA,OB,MM,VV,ints];(repeat first|refine uA ?_|(apply uK;· omega)|simp only [go_sem,Nat.reduceBEq,Nat.reduceAdd,x9]|simp (disch:=omega) only [ww]);have hn1:((x.length:Int)+1).toNat=x.length+1:=by omega
 refine S.loop (X:=Nat × List Nat) (fun s=>⟨[(0,.sl 1 (ws x)),(1,ints r),(5,.rv 0),(13,.sl 1 (ws x)),(14,ints x.length),(15,ints s.1)],[.row 217 1 (ws s.2)]⟩) (fun s=>s.1<=x.length/\Nm.leftInv x (2 ^ r) s.1 s.2) (fun s=>x.length-s.1) (0,List.replicate (x.length+1) 0) ⟨c8w _,Nm.b3G x (Nat.pow_pos (by decide))⟩ (by simp only [<- a3y];rw [hn1];exact (by repeat first|refine uA ?_|(refine ⟨?_,?_⟩;· first|rfl|trivial|(simp [slot];done))|rfl|trivial|simp)) ?_;rintro ⟨i,out⟩ ⟨hi,hinv⟩;simp only [ints] at hi hinv ⊢;have hol:=hinv.1;(repeat first|refine uA ?_|(apply uK;· omega)|simp (disch:=omega) only [go_sem,Nat.reduceBEq]);(refine uJ rfl (fun hc=>?_) fun hc=>?_)
 ·have hi':i < x.length:=by omega
  have hgp:x[i]?=some x[i]:=c8q hi';have hgo:out[i]?=some (out[i]'(by omega)):=c8q (by omega);have hg1:out[i+1]?=some (out[i+1]'(by omega)):=c8q (by omega);have ho32:=hinv.2.1 _ (c8L (show i < out.length by omega));obtain ⟨hs,hm,h1,h2⟩:=Nm.b2L hinv hr hi' (hx _ (c8L hi')) (by omega);have hx32:=hx _ (c8L hi');generalize x[i]=xi at *;generalize out[i]'(by omega)=o at *;generalize out[i+1]'(by omega)=o1 at *;have hv:=b6f xi r hm (by omega);generalize xi*2 ^ r=n at *;have hol2:=c0i o n ho32;have hgs:(out.set i (o ||| n % 4294967296))[i+1]?=some o1:=by rw [List.getElem?_set_ne (by omega)];exact hg1
  have hi1:((i:Int)+1).toNat=i+1:=by omega
  (repeat first|refine uA ?_|(apply uK;· omega)|simp only [go_sem,Nat.reduceBEq,Nat.reduceAdd,Nat.reduceLeDiff,Int.reducePow,x9,F8,hgp,hgo,c8s,wd,L8,c9h]|simp (disch:=omega) only [ww,F8,hgs,hi1,c8s,wd,hv,a3n,a1L,hol2,L8]);refine S.next (x:=(i,out)) (i+1,_) ⟨hi',hs⟩ (by simp only;omega) (by repeat first|refine uA ?_|(refine ⟨?_,?_⟩;· first|rfl|trivial|(simp [slot];done))|rfl|trivial|simp)
 ·have hi':i=x.length:=by omega
  subst hi';have he:=(Nm.b5v hinv).1;have hd:out=Nm.dig 4294967296 (x.length+1) (Nm.wv 4294967296 x*2 ^ r):=Nm.Y7 (by decide) hinv.2.1 hol he;rw [<- hd];(repeat first|refine uA ?_|(apply uK;· omega)|simp (disch:=omega) only [go_sem,Nat.reduceBEq]);exact S.done (p8.new rfl rfl rfl)
def put (us:List Nat) (k:Nat) (out:List Nat):List Nat:=us.take k++out++us.drop (k+out.length)
theorem a0A {us out:List Nat} {k:Nat} (h:k+out.length<=us.length):(put us k out).length=us.length:=by
 simp only [put,c8A,c8E,c9g];omega
theorem V5 {us out:List Nat} {k i:Nat} (h:k+out.length<=us.length) (hi:i < out.length):(put us k out)[k+i]?=out[i]?:=by
 have ht:(us.take k).length=k:=by rw [c8E];omega
 rw [put,c9j,c8M (by omega),ht,Nat.add_sub_cancel_left,c8H hi]
theorem a0z {us out:List Nat} {k i v:Nat} (h:k+out.length<=us.length) (hi:i < out.length):(put us k out).set (k+i) v=put us k (out.set i v):=by
 have ht:(us.take k).length=k:=by rw [c8E];omega
 rw [put,put,c9j,List.set_append_right _ _ (by omega),ht,Nat.add_sub_cancel_left,List.set_append_left _ _ hi,c9h,c9j]
theorem a4Z {us:List Nat} {k n:Nat} (h:k+n<=us.length):put us k ((us.drop k).take n)=us:=by
 rw [put,c8E,c9g,show min n (us.length-k)=n by omega,c9j,<- List.drop_drop];rw [List.take_append_drop,List.take_append_drop]
theorem b6x (o lo b:Nat) (ho:o < 4294967296) (hl:lo < 4294967296) (hb:b<=1):∃ t c':Nat,IntKind.u32.wrap (IntKind.u64.wrap (IntKind.u64.wrap ((o:Int)-(lo:Int))-(b:Int)))=(t:Int)/\Int.fdiv (IntKind.u64.wrap (IntKind.u64.wrap ((o:Int)-(lo:Int))-(b:Int))) 9223372036854775808=(c':Int)/\t < 4294967296/\c'<=1/\t+lo+b=o+4294967296*c':=by
 obtain ⟨t,c',e1,e2,h1,h2,h3⟩:=a9C o lo b ho hl hb;have g1:∀ n:Int,IntKind.u64.wrap n=n % 18446744073709551616:=fun n=>by simp [IntKind.wrap,IntKind.signed,IntKind.bits]
 have e:IntKind.u64.wrap (IntKind.u64.wrap ((o:Int)-(lo:Int))-(b:Int))=IntKind.u64.wrap (IntKind.u64.wrap ((o:Int)-(b:Int))-(lo:Int)):=by
  rw [g1,g1,g1,g1];omega
 rw [e];exact ⟨t,c',e1,e2,h1,h2,by omega⟩
theorem c6w {E:Ctx} (hP:E.P=Tryz.prog) (us qs v:List Nat) (k d:Nat) (hl:us.length<=274877906944) (hk:k+v.length+1<=us.length) (hu:Nm.H8 us) (hv:Nm.H8 v) (hd:d < 4294967296)
    {W:Nat} (hW:W=Nm.wv 4294967296 ((us.drop k).take (v.length+1))) :
    l7 E [.row 217 1 (ws us),.row 217 1 (ws qs)] 235 [.wv 0 1 k (v.length+1),.sl 1 (ws v),.v (.int .u64 (d:Int))] (.v (.bool (decide (W < d*Nm.wv 4294967296 v))))
      [.row 217 1 (ws (put us k (Nm.dig 4294967296 (v.length+1) ((W+4294967296 ^ (v.length+1)*(if W < d*Nm.wv 4294967296 v then 1 else 0))-d*Nm.wv 4294967296 v)))),.row 217 1 (ws qs)] []:=by
  obtain ⟨P,eff',N,w0,own0,av0,nu0,pk0⟩:=E;simp only at hP;subst hP;refine l7.of (eff:=eff) Tryz.func235 (by cbv) (by exact c8G rfl) fun w own av ν hν=>?_;simp only [j4,TT,II,OA,OB,MM,VV];have hν0:ν.length<=2:=by rw [hν];exact c8B _
  have hul:((us.drop k).take (v.length+1)).length=v.length+1:=by rw [c8E,c9g];omega
  have hua:Nm.H8 ((us.drop k).take (v.length+1)):=(hu.drop k).take _;have hps:put us k ((us.drop k).take (v.length+1))=us:=a4Z (by omega);generalize (us.drop k).take (v.length+1)=u at *;(repeat first|refine uA ?_|(apply uK;· omega)|simp only [go_sem,Nat.reduceBEq,Nat.reduceAdd,x9]|simp (disch:=omega) only [ww,x9])
  refine S.loop (X:=Nat × List Nat × Nat × Nat) (fun x=>⟨[(0,.wv 0 1 k (v.length+1)),(1,.sl 1 (ws v)),(2,.v (.int .u64 (d:Int))),(7,.v (.int .u64 (x.2.2.1:Int))),(8,.v (.int .u64 (x.2.2.2:Int))),(13,.sl 1 (ws v)),(14,ints v.length),(15,ints x.1)],[.row 217 1 (ws (put us k x.2.1)),.row 217 1 (ws qs)]⟩) (fun x=>x.1<=v.length/\Nm.a9R u v d x.1 x.2.1 x.2.2.1 x.2.2.2) (fun x=>v.length-x.1) (0,u,0,0) ⟨c8w _,Nm.b7L v d hua⟩ (by simp only [hps];exact Ent.mk _ _ (by repeat first|refine uA ?_|(refine ⟨?_,?_⟩;· first|rfl|trivial|(simp [slot];done))|rfl|trivial|simp) (by repeat first|refine uA ?_|(refine ⟨?_,?_⟩;· first|rfl|trivial|(simp [slot];done))|rfl|trivial|simp) hν0) ?_
  rintro ⟨i,out,c,b⟩ ⟨hi,hinv⟩;simp only [ints] at hi hinv ⊢;have hol:=hinv.1;have hc1:=hinv.2.2.1;have hb1:=hinv.2.2.2.1;have hpl:(put us k out).length=us.length:=a0A (by omega);(repeat first|refine uA ?_|(apply uK;· omega)|simp (disch:=omega) only [go_sem,Nat.reduceBEq]);(refine uJ rfl (fun hc=>?_) fun hc=>?_)
  · have hi':i < v.length:=by omega
    have hgv:v[i]?=some v[i]:=c8q hi';have hgu:u[i]?=some (u[i]'(by omega)):=c8q (by omega);have hgo:(put us k out)[k+i]?=some (u[i]'(by omega)):=by rw [V5 (by omega) (by omega),Nm.a0V hinv.2.2.2.2.1,hgu]
    have hu32:=hua _ (c8L (show i < u.length by omega));have hv32:=hv _ (c8L hi');have hiu:i < u.length:=by omega
    have hk:=fun t b' h1 h2 h3=>Nm.b7p (t:=t) (b':=b') hinv hi' hiu hv32 hd h1 h2 h3;generalize v[i]=vi at *;generalize u[i]'(by omega)=ui at *;obtain ⟨m,hm⟩:∃ m:Nat,m=d*vi:=⟨_,rfl⟩
    have hm':(d:Int)*(vi:Int)=(m:Int):=by rw [hm];simp
    have hmb:m<=4294967295*4294967295:=by rw [hm];exact Nat.mul_le_mul (by omega) (by omega)
    rw [<- hm] at hk;obtain ⟨s,hs⟩:∃ s:Nat,s=c+m:=⟨_,rfl⟩
    have hs':(c:Int)+(m:Int)=(s:Int):=by omega
    rw [<- hs] at hk;obtain ⟨t,b',e1,e2,h1,h2,h3⟩:=b6x ui (s % 4294967296) b hu32 (Nat.mod_lt _ (by decide)) hb1;have hk:=(hk t b' h1 h2 h3).1;have hsl:=a0z (us:=us) (out:=out) (k:=k) (i:=i) (v:=t) (by omega) (by omega);have hki:((k:Int)+(i:Int)).toNat=k+i:=by omega
    (repeat first|refine uA ?_|(apply uK;· omega)|simp only [go_sem,Nat.reduceBEq,Nat.reduceAdd,Nat.reduceLeDiff,Int.reducePow,x9,F8,hgv,hgo,c8s,wd]|simp (disch:=omega) only [ww,hm',hs',a3n,a1L,e1,e2,L8,hsl]);refine S.next (x:=(i,out,c,b)) (i+1,_,_,_) ⟨hi',hk⟩ (by simp only;omega) (Ent.mk _ _ (by repeat first|refine uA ?_|(refine ⟨?_,?_⟩;· first|rfl|trivial|(simp [slot];done))|rfl|trivial|simp) (by repeat first|refine uA ?_|(refine ⟨?_,?_⟩;· first|rfl|trivial|(simp [slot];done))|rfl|trivial|simp) hν0)
  · have hi':i=v.length:=by omega
    subst hi';have hgu:u[v.length]?=some (u[v.length]'(by omega)):=c8q (by omega);have hgo:(put us k out)[k+v.length]?=some (u[v.length]'(by omega)):=by rw [V5 (by omega) (by omega),Nm.a0V hinv.2.2.2.2.1,hgu]
    have hu32:=hua _ (c8L (show v.length < u.length by omega));obtain ⟨t,f,e1,e2,h1,h2,h3⟩:=b6x _ c b hu32 hc1 hb1;obtain ⟨hk1,hk2⟩:=Nm.b9V (t:=t) (f:=f) hinv hul h1 h3;have hsl:=a0z (us:=us) (out:=out) (k:=k) (i:=v.length) (v:=t) (by omega) (by omega);have hlt:=Nm.M9 4294967296 hk2;have hlt2:=Nm.M9 4294967296 hua;rw [c9h,hol,hul] at hlt;rw [hul,<- hW] at hlt2;rw [hul,<- hW] at hk1;have hf:f=if W < d*Nm.wv 4294967296 v then 1 else 0:=by
      have:f=0 \/ f=1:=by omega
      rcases this with rfl|rfl
      · rw [if_neg (by omega)]
      · rw [if_pos (by omega)]
    have hdg:out.set v.length t=Nm.dig 4294967296 (v.length+1) (W+4294967296 ^ (v.length+1)*f-d*Nm.wv 4294967296 v):=Nm.Y7 (by decide) hk2 (by rw [c9h];omega) (by omega);rw [<- hf,<- hdg];have hfb:decide (W < d*Nm.wv 4294967296 v)=decide ((0:Int) < (f:Int)):=by
      rw [hf];by_cases h:W < d*Nm.wv 4294967296 v<;>simp [h]
    rw [hfb];have hki:((k:Int)+(v.length:Int)).toNat=k+v.length:=by omega
    (repeat first|refine uA ?_|(apply uK;· omega)|simp only [go_sem,Nat.reduceBEq,Nat.reduceAdd,Nat.reduceLeDiff,Int.reducePow,x9,F8,hgo,c8s,wd]|simp (disch:=omega) only [ww,e1,e2,L8,hsl]);exact S.done (p8.own rfl)
end Go.Proofs.YtpnbklgbfhgknaaGreatDoor
namespace Go.Proofs.YtpnbklgbfhgknaaGreatDoor.Eng
open Go Go.RowKit
def Met (E:Ctx) {Y:Type} (stY:Y->St) (preY:Y->Prop):Act->World->Prop:=fun a w=>∃ y ν',preY y/\Good E ν' (stY y) a w
theorem S.join {E:Ctx} {Q:Exit->Act->World->Prop} {st:St} {c:IC} {k:List It} {Y:Type} (stY:Y->St) (preY:Y->Prop)
  (h:S E Q st (.code c::.inv (Met E stY preY)::k)) (hk:∀ y,preY y->S E Q (stY y) k):S E Q st (.code c::k):=by
 intro wf ν a w hG code hc;refine wp_mono (h wf ν a w hG code hc) fun e a' w' hq=>?_;cases e with
 | normal=>
  simp only [wpS] at hq;obtain ⟨y,ν',hp,hG'⟩:=hq;exact hk y hp wf ν' a' w' hG'
 | exit i=>simpa only [exS] using hq
 | _=>exact hq
theorem S.c2U {E:Ctx} {Q:Exit->Act->World->Prop} {st:St} {c:IC} {id:Nat} {k:List It} {Y:Type} (stY:Y->St) (preY:Y->Prop)
  (h:S E Q st (.code c::.blk id::.inv (Met E stY preY)::k)) (hk:∀ y,preY y->S E Q (stY y) k):S E Q st (.code c::.blk id::k):=by
 intro wf ν a w hG code hc;refine wp_mono (h wf ν a w hG code hc) fun e a' w' hq=>?_;cases e with
 | normal=>
  simp only [wpS] at hq ⊢;obtain ⟨y,ν',hp,hG'⟩:=hq;exact hk y hp wf ν' a' w' hG'
 | exit i=>
  simp only [exS] at hq ⊢;split
  ·rename_i e;rw [if_pos e] at hq;simp only [wpS] at hq;obtain ⟨y,ν',hp,hG'⟩:=hq;exact hk y hp wf ν' a' w' hG'
  ·rename_i e;rw [if_neg e] at hq;exact hq
 | _=>exact hq
theorem S.met {E:Ctx} {Q:Exit->Act->World->Prop} {st:St} {k:List It} {Y:Type} {stY:Y->St} {preY:Y->Prop} (y:Y) (hp:preY y) (h:Ent E st (stY y)):S E Q st (.inv (Met E stY preY)::k):=by
 intro wf ν a w hG;obtain ⟨ν',hG'⟩:=h wf ν a w hG;exact ⟨y,ν',hp,hG'⟩
end Go.Proofs.YtpnbklgbfhgknaaGreatDoor.Eng
namespace Go.Proofs.YtpnbklgbfhgknaaGreatDoor
open Go Go.RowKit Eng
set_option maxRecDepth 10000
set_option maxHeartbeats 1000000
theorem c4I {us a b:List Nat} {k:Nat} (hl:a.length=b.length) (h:k+a.length<=us.length):put (put us k a) k b=put us k b:=by
 have ht:(us.take k).length=k:=by rw [c8E];omega
 rw [put,put,put,<- hl];congr 1
 ·congr 1;rw [c9j,List.take_append_of_le_length (by omega),c8P (by omega)]
 ·exact List.drop_left' (by rw [c8A,ht])
theorem a3a {us a:List Nat} {k n:Nat} (hn:n=a.length) (h:k+a.length<=us.length):((put us k a).drop k).take n=a:=by
 have ht:(us.take k).length=k:=by rw [c8E];omega
 subst hn;rw [put,c9j,List.drop_append,ht,Nat.sub_self,List.drop_of_length_le (by omega),List.nil_append,List.drop_zero,List.take_append_of_le_length (c8B _),c8J]
theorem c4d {us a:List Nat} {k:Nat} (hu:Nm.H8 us) (ha:Nm.H8 a):Nm.H8 (put us k a):=((hu.take k).app ha).app (hu.drop _)
theorem c5q {E:Ctx} (hP:E.P=Tryz.prog) (us qs v:List Nat) (k:Nat) (hl:us.length<=274877906944) (hk:k+v.length+1<=us.length) (hu:Nm.H8 us) (hv:Nm.H8 v)
    {W:Nat} (hW:W=Nm.wv 4294967296 ((us.drop k).take (v.length+1))) (hlt:4294967296 ^ (v.length+1)<=W+Nm.wv 4294967296 v) :
    l7 E [.row 217 1 (ws us),.row 217 1 (ws qs)] 236 [.wv 0 1 k (v.length+1),.sl 1 (ws v)] (.tup [])
      [.row 217 1 (ws (put us k (Nm.dig 4294967296 (v.length+1) (W+Nm.wv 4294967296 v-4294967296 ^ (v.length+1))))),.row 217 1 (ws qs)] []:=by
  obtain ⟨P,eff',N,w0,own0,av0,nu0,pk0⟩:=E;simp only at hP;subst hP;refine l7.of (eff:=eff) Tryz.func236 (by cbv) (by exact c8G rfl) fun w own av ν hν=>?_;simp only [j4,TT,II,OA,OB,MM,VV];have hν0:ν.length<=2:=by rw [hν];exact c8B _
  have hul:((us.drop k).take (v.length+1)).length=v.length+1:=by rw [c8E,c9g];omega
  have hua:Nm.H8 ((us.drop k).take (v.length+1)):=(hu.drop k).take _;have hps:put us k ((us.drop k).take (v.length+1))=us:=a4Z (by omega);generalize (us.drop k).take (v.length+1)=u at *;(repeat first|refine uA ?_|(apply uK;· first|omega|trivial|(intros;simp_all<;>omega))|simp (disch:=omega) only [go_sem,Nat.reduceBEq,Nat.reduceAdd,x9])
  refine S.loop (X:=Nat × List Nat × Nat) (fun x=>⟨[(0,.wv 0 1 k (v.length+1)),(1,.sl 1 (ws v)),(4,.v (.int .u64 (x.2.2:Int))),(7,.sl 1 (ws v)),(8,ints v.length),(9,ints x.1)],[.row 217 1 (ws (put us k x.2.1)),.row 217 1 (ws qs)]⟩) (fun x=>x.1<=v.length/\Nm.b0w u v x.1 x.2.1 x.2.2) (fun x=>v.length-x.1) (0,u,0) ⟨c8w _,Nm.b7w v hua⟩ (by simp only [hps];exact Ent.mk _ _ (by repeat first|refine uA ?_|(refine ⟨?_,?_⟩;· first|rfl|trivial|(simp [slot];done))|rfl|trivial|simp) (by repeat first|refine uA ?_|(refine ⟨?_,?_⟩;· first|rfl|trivial|(simp [slot];done))|rfl|trivial|simp) hν0) ?_;rintro ⟨i,out,c⟩ ⟨hi,hinv⟩;simp only [ints] at hi hinv ⊢;have hol:=hinv.1;have hc1:=hinv.2.2.1
  have hpl:(put us k out).length=us.length:=a0A (by omega);(repeat first|refine uA ?_|(apply uK;· first|omega|trivial|(intros;simp_all<;>omega))|simp (disch:=omega) only [go_sem,Nat.reduceBEq]);(refine uJ rfl (fun hc=>?_) fun hc=>?_)
  · have hi':i < v.length:=by omega
    have hiu:i < u.length:=by omega
    have hgv:v[i]?=some v[i]:=c8q hi';have hgu:u[i]?=some (u[i]'(by omega)):=c8q (by omega);have hgo:(put us k out)[k+i]?=some (u[i]'(by omega)):=by rw [V5 (by omega) (by omega),Nm.a0V hinv.2.2.2.1,hgu]
    have hu32:=hua _ (c8L (show i < u.length by omega));have hv32:=hv _ (c8L hi');have hk:=Nm.b7m hinv hi' hiu hv32 hu32 rfl;generalize v[i]=vi at *;generalize u[i]'(by omega)=ui at *;obtain ⟨s,hs⟩:∃ s:Nat,s=c+ui+vi:=⟨_,rfl⟩
    have hs':(c:Int)+((ui:Int)+(vi:Int))=(s:Int):=by omega
    rw [<- hs] at hk;have hsl:=a0z (us:=us) (out:=out) (k:=k) (i:=i) (v:=s % 4294967296) (by omega) (by omega);have hki:((k:Int)+(i:Int)).toNat=k+i:=by omega
    (repeat first|refine uA ?_|(apply uK;· first|omega|trivial|(intros;simp_all<;>omega))|simp (disch:=omega) only [go_sem,Nat.reduceBEq,Nat.reduceAdd,Nat.reduceLeDiff,Int.reducePow,ww,x9,F8,hgv,hgo,c8s,wd,hs',a3n,a1L,L8,hsl]);refine S.next (x:=(i,out,c)) (i+1,_,_) ⟨hi',hk⟩ (by simp only;omega) (Ent.mk _ _ (by repeat first|refine uA ?_|(refine ⟨?_,?_⟩;· first|rfl|trivial|(simp [slot];done))|rfl|trivial|simp) (by repeat first|refine uA ?_|(refine ⟨?_,?_⟩;· first|rfl|trivial|(simp [slot];done))|rfl|trivial|simp) hν0)
  · have hi':i=v.length:=by omega
    subst hi';have hgu:u[v.length]?=some (u[v.length]'(by omega)):=c8q (by omega);have hgo:(put us k out)[k+v.length]?=some (u[v.length]'(by omega)):=by rw [V5 (by omega) (by omega),Nm.a0V hinv.2.2.2.1,hgu]
    have hu32:=hua _ (c8L (show v.length < u.length by omega));have hlt2:=Nm.M9 4294967296 hua;have hlv:=Nm.M9 4294967296 hv;rw [hul,<- hW] at hlt2;have hpw:4294967296 ^ v.length<=4294967296 ^ (v.length+1):=c8Y (by decide) (by omega);obtain ⟨hk1,hk2⟩:=Nm.b8j hinv hul rfl (z:=W+Nm.wv 4294967296 v-4294967296 ^ (v.length+1)) (by rw [hul,<- hW];omega) (by rw [hul];omega);have hdg:=Nm.Y7 (by decide) hk2 (show _=v.length+1 by rw [c9h];omega) hk1;rw [<- hdg];have hsl:=a0z (us:=us) (out:=out) (k:=k) (i:=v.length) (v:=(u[v.length]+c) % 4294967296) (by omega) (by omega);have hki:((k:Int)+(v.length:Int)).toNat=k+v.length:=by omega
    have hw1:IntKind.u32.wrap ((u[v.length]:Int)+(c:Int))=(((u[v.length]+c) % 4294967296:Nat):Int):=a3n (u[v.length]+c);(repeat first|refine uA ?_|(apply uK;· first|omega|trivial|(intros;simp_all<;>omega))|simp (disch:=omega) only [go_sem,Nat.reduceBEq,Nat.reduceAdd,Nat.reduceLeDiff,ww,x9,F8,hgo,c8s,wd,hw1,L8,hsl]);exact S.end_ (p8.own rfl)
set_option maxHeartbeats 2000000
theorem a9H:∀ (f x:Nat),x < 2 ^ f->f<=64->x ≠ 0->0 < Lib.bitLen x/\2 ^ (Lib.bitLen x-1)<=x/\x < 2 ^ Lib.bitLen x
 | 0,x,h,_,h0=>by simp at h;omega
 | f+1,x,h,hf,h0=>by
  have h64:x < 2 ^ 64:=c8U h (c8Y (by decide) hf);rw [Lib.bitLen_half x h0 h64];by_cases h1:x / 2=0
  ·rw [h1,show Lib.bitLen 0=0 from rfl];refine ⟨by omega,?_,?_⟩
   ·simp;omega
   ·simp;omega
  ·obtain ⟨g0,g1,g2⟩:=a9H f (x / 2) (by rw [c9c] at h;omega) (by omega) h1;refine ⟨by omega,?_,?_⟩
   ·rw [show 1+Lib.bitLen (x / 2)-1=Lib.bitLen (x / 2)-1+1 by omega,c9c];omega
   ·rw [Nat.add_comm,c9c];omega
def lz (x:Nat):Nat:=32-Lib.bitLen x
theorem b6Q {x:Nat} (h0:x ≠ 0) (h:x < 4294967296):lz x < 32/\Lib.bitLen x+lz x=32/\(x+1)*2 ^ lz x<=4294967296:=by
 obtain ⟨g0,g1,g2⟩:=a9H 32 x h (by decide) h0;have hb:Lib.bitLen x<=32:=by
  rcases c8N 32 (Lib.bitLen x) with h1|h1
  ·have:2 ^ 32<=2 ^ (Lib.bitLen x-1):=c8Y (by decide) (by omega);omega
  ·exact h1
 refine ⟨by unfold lz;omega,by unfold lz;omega,?_⟩;have:=c8X (2 ^ lz x) (Nat.succ_le_of_lt g2);rw [<- Nat.pow_add,show Lib.bitLen x+lz x=32 by unfold lz;omega] at this;exact this
theorem c8e (x:Nat) (h0:x ≠ 0) (h:x < 4294967296):u7 Tryz.prog 233 [.v (.int .u32 (x:Int))] (ints (lz x)):=by
 intro O w vs hO hA;simp only [FzL,Fz] at hA;obtain ⟨y,ys,rfl,rfl,rfl⟩:=hA;refine (Tryz.bits_LeadingZeros32 (x:Int) w (by omega) (by omega)).mono ?_;rintro e w' ⟨rfl,rfl⟩;refine ⟨_,rfl,Below.refl _ _,?_⟩;have:=(b6Q h0 h).2.1;simp only [ints,Fz,c8u];rw [show (32:Int)-(Lib.bitLen x:Int)=((lz x:Nat):Int) by omega]
namespace Nm
theorem b3W {B:Nat}:∀ {m L n:Nat},m<=L->(dig B L n).take m=dig B m n
 | 0,_,_,_=>by simp [dig]
 | m+1,0,_,h=>by omega
 | m+1,L+1,n,h=>by simp only [dig,List.take_succ_cons];rw [b3W (by omega)]
theorem b5Q {B:Nat} {l:List Nat} (h:∀ w ∈ l,w < B) {k:Nat} (hk:k<=l.length):wv B (l.drop k)=wv B l / B ^ k:=by
 have e:=a3A B l k hk;have h1:wv B (l.take k) < B ^ k:=by
  have:=M9 B (l:=l.take k) (fun w hw=>h w (List.mem_of_mem_take hw));rwa [c8E,Nat.min_eq_left hk] at this
 rw [e,Nat.add_mul_div_left _ _ (by omega),Nat.div_eq_of_lt h1,c8Z]
theorem Est.top {W V v1 v2 top u2 p:Nat} (h:Est W V v1 v2 top u2 p):top < v1*4294967296+4294967296:=by
 have h1:=h.wge;have h2:=h.lt;have h3:=h.hW;have h4:=h.hv2;have hp:0 < p:=by
  rcases c8Q p with h0|h0
  ·subst h0;omega
  ·exact h0
 have h5:(top*4294967296+u2)*p < (4294967296*(v1*4294967296+v2+1))*p:=by
  rw [c9a 4294967296];omega
 have:=Nat.lt_of_mul_lt_mul_right h5;omega
theorem b5j {x y:List Nat} {r:Nat} (hx:H8 x) (hy:H8 y) (hl:y.length<=x.length) (hyt:4294967296 ^ (y.length-1)<=wv 4294967296 y) (hy0:0 < y.length) (hr:wv 4294967296 y*2 ^ r < 4294967296 ^ y.length) :
  a6Z (wv 4294967296 x*2 ^ r) (dig 4294967296 y.length (wv 4294967296 y*2 ^ r)) (x.length+1) (x.length+1-y.length) (dig 4294967296 (x.length+1) (wv 4294967296 x*2 ^ r)) (List.replicate (x.length+1-y.length) 0):=by
 have hp:0 < 2 ^ r:=Nat.pow_pos (by decide);have hxl:=M9 4294967296 hx;have hr32:2 ^ r<=4294967296:=by
  have h1:4294967296 ^ (y.length-1)*2 ^ r<=wv 4294967296 y*2 ^ r:=c8X _ hyt;have h2:4294967296 ^ y.length=4294967296 ^ (y.length-1)*4294967296:=by rw [<- c9c,show (y.length-1).succ=y.length by omega]
  have h3:4294967296 ^ (y.length-1)*2 ^ r < 4294967296 ^ (y.length-1)*4294967296:=by omega
  exact Nat.le_of_lt (Nat.lt_of_mul_lt_mul_left h3)
 have hU:wv 4294967296 x*2 ^ r < 4294967296 ^ (x.length+1):=by
  rw [c9c];exact c8U (Nat.mul_lt_mul_of_pos_right hxl hp) (Nat.mul_le_mul_left _ hr32)
 have hwu:wv 4294967296 (dig 4294967296 (x.length+1) (wv 4294967296 x*2 ^ r))=wv 4294967296 x*2 ^ r:=Y4 hU;have hwv:wv 4294967296 (dig 4294967296 y.length (wv 4294967296 y*2 ^ r))=wv 4294967296 y*2 ^ r:=Y4 hr;refine ⟨J9 _ _ _,a1M (by decide) _ _,by simp [J9],fun w hw=>by rw [c8T hw];decide,?_,?_⟩
 ·rw [hwu,List.drop_of_length_le (by simp),show wv 4294967296 []=0 from rfl,Nat.mul_zero,Nat.mul_zero,Nat.add_zero]
 ·rw [b5Q (a1M (by decide) _ _) (by rw [J9];omega),hwu,hwv];have e:4294967296 ^ x.length=4294967296 ^ (x.length+1-y.length)*4294967296 ^ (y.length-1):=by
   rw [<- Nat.pow_add];congr 1;omega
  refine c8U ?_ (c8X (2 ^ r) hyt);rw [Nat.div_lt_iff_lt_mul (Nat.pow_pos (by decide))];have:=Nat.mul_lt_mul_of_pos_right hxl hp;rw [e] at this;exact Nat.lt_of_lt_of_eq this (by rw [c9a,Nat.mul_comm])
end Nm
theorem b3o (a b:Nat) (ha:a < 4294967296) (hb:b < 4294967296):bits .or .u64 ((a:Int)*4294967296) (b:Int)=((a*4294967296+b:Nat):Int):=by
 have h1:(a:Int)*4294967296=((a*4294967296:Nat):Int):=by omega
 rw [h1,a9P _ _ (by omega) (by omega)];have:=Nm.a3D (a:=b) (b:=a) (r:=32) hb;rw [Nat.or_comm,show (4294967296:Nat)=2 ^ 32 from rfl,this,Nat.add_comm]
set_option maxHeartbeats 4000000
theorem c5S (x y:List Nat) (hxl:x.length<=274877906900) (hx:Nm.H8 x) (hy:Nm.H8 y) (hl:y.length<=x.length) (hy2:2<=y.length) (hyt:4294967296 ^ (y.length-1)<=Nm.wv 4294967296 y) :
 u7 Tryz.prog 205 [.sl 1 (ws x),.sl 1 (ws y)] (.tup [.sl 1 (ws (Nm.dig 4294967296 (x.length+1-y.length) (Nm.wv 4294967296 x / Nm.wv 4294967296 y))),.sl 1 (ws (Nm.dig 4294967296 y.length (Nm.wv 4294967296 x % Nm.wv 4294967296 y)))]):=by
 refine kS Tryz.func205 (cF rfl rfl (by cbv) (by repeat' first|exact cS|exact cT|exact cE|apply cA|apply cC|apply cB|apply cL|(apply cR;cbv)|(apply cD;cbv;cbv;kernel_rfl))) (by rfl) fun w O=>?_;simp only [j4];have hgy:y[y.length-1]?=some (y[y.length-1]'(by omega)):=c8q (by omega);have hyw:=Nm.D7 4294967296 (l:=y) (i:=y.length-1) (by omega);rw [show y.length-1+1=y.length by omega,c8J] at hyw;have hyk:=Nm.M9 4294967296 (l:=y.take (y.length-1)) (fun w hw=>hy w (List.mem_of_mem_take hw));rw [c8E,Nat.min_eq_left (by omega)] at hyk;have ht32:=hy _ (c8L (show y.length-1 < y.length by omega));generalize y[y.length-1]'(by omega)=t at *;have ht0:t ≠ 0:=fun h=>by subst h;omega
 obtain ⟨hr32,_,htr⟩:=b6Q ht0 ht32;have hflz:=c8e t ht0 ht32;generalize lz t=r at *;have hr:Nm.wv 4294967296 y*2 ^ r < 4294967296 ^ y.length:=by
  have h1:Nm.wv 4294967296 y < (t+1)*4294967296 ^ (y.length-1):=by
   rw [Nat.add_mul,Nat.one_mul,Nat.mul_comm];omega
  have h2:=Nat.mul_lt_mul_of_pos_right h1 (show 0 < 2 ^ r from Nat.pow_pos (by decide));have h3:=c8X (4294967296 ^ (y.length-1)) htr;rw [<- Nat.pow_succ',show (y.length-1).succ=y.length by omega] at h3;refine c8U h2 ?_;rw [c9a,Nat.mul_comm (4294967296 ^ _),<- c9a];exact h3
 have hi1:((y.length:Int)-1).toNat=y.length-1:=by omega
 have hti:=Nm.b3W (B:=4294967296) (m:=y.length) (L:=y.length+1) (n:=Nm.wv 4294967296 y*2 ^ r) (by omega);have hvl:=Nm.J9 4294967296 y.length (Nm.wv 4294967296 y*2 ^ r);have hva:Nm.H8 _:=Nm.a1M (B:=4294967296) (by decide) y.length (Nm.wv 4294967296 y*2 ^ r);have hvw:=Nm.Y4 hr;have hst:=Nm.b5j hx hy hl hyt (by omega) hr;have hlx:=c0d x r (by omega) hx hr32;have hly:=(c0d y r (by omega) hy hr32).spec;have htk:List.take y.length (ws (Nm.dig 4294967296 (y.length+1) (Nm.wv 4294967296 y*2 ^ r)))=ws (Nm.dig 4294967296 y.length (Nm.wv 4294967296 y*2 ^ r)):=by
  rw [<- hti];simp [ws]
 have hul:=Nm.J9 4294967296 (x.length+1) (Nm.wv 4294967296 x*2 ^ r);have hn1:(((x.length+1:Nat):Int)-(y.length:Int)).toNat=x.length+1-y.length:=by omega
 (repeat first|refine uA ?_|(apply uK;· first|omega|trivial|(intro h;rw [h];rfl)|(intro h h2;rw [h,h2];rfl)|(intro h;(try simp at h);omega)|(intros;simp_all<;>omega))|simp only [go_sem,Nat.reduceBEq,Nat.reduceAdd,Nat.reduceLeDiff,Int.reduceToNat,Int.reducePow,x9,F8,hgy,hi1,c8s,wd,Nm.J9,htk,hn1,List.length_replicate]|simp (disch:=omega) only [ww,x9,F8,hgy,hi1,c8s,wd,Nm.J9,htk,hn1,List.length_replicate]|refine l9.t (FNew.t hlx rfl) ?_|(refine uB hflz ?_ ?_;rfl)|(refine uB hly ?_ ?_;rfl));clear hflz hlx hly htk hti hgy;have hyn:∃ m,y.length=m+2:=⟨y.length-2,by omega⟩
 obtain ⟨m,hm⟩:=hyn;have hV:Nm.wv 4294967296 y*2 ^ r / 2 ^ r=Nm.wv 4294967296 y:=Nat.mul_div_cancel _ (Nat.pow_pos (by decide));generalize Nm.dig 4294967296 y.length (Nm.wv 4294967296 y*2 ^ r)=v at *;generalize hn:y.length=n at *
 refine S.loop (X:=Nat × List Nat × List Nat) (fun s=>⟨[(10,ints ((s.1:Int)-1)),(4,.rv 1),(9,.sl 1 (ws v)),(8,.rv 0),(7,ints n),(6,ints r)],[.row 217 1 (ws s.2.1),.row 217 1 (ws s.2.2)]⟩) (fun s=>s.1<=x.length+1-n/\Nm.a6Z (Nm.wv 4294967296 x*2 ^ r) v (x.length+1) s.1 s.2.1 s.2.2) (fun s=>s.1) (x.length+1-n,_,_) ⟨c8B _,hst⟩ (by simp only [<- a3y];exact Ent.mk _ _ (by repeat' (first|exact R3.nil|exact Imp.refl rfl|exact Imp.eq (by simp [slot];omega) rfl|refine R3.cons ?_ ?_)) (by repeat first|refine uA ?_|(refine ⟨?_,?_⟩;· first|rfl|trivial|(simp [slot];done))|rfl|trivial|simp) (c8w _)) ?_;clear hst;rintro ⟨j,us,qs⟩ ⟨hj,hinv⟩;simp only [ints] at hj hinv ⊢;have hus:=hinv.1;have hua:=hinv.2.1
 have hql:=hinv.2.2.1;have hqa:=hinv.2.2.2.1;(repeat first|refine uA ?_|(apply uK;· first|omega|trivial|(intro h;rw [h];rfl)|(intro h h2;rw [h,h2];rfl)|(intro h;(try simp at h);omega)|(intros;simp_all<;>omega))|simp only [go_sem,Nat.reduceBEq,Nat.reduceAdd,Nat.reduceLeDiff,Int.reduceToNat,Int.reducePow]|simp (disch:=omega) only [ww]);(refine uJ rfl (fun hc=>?_) fun hc=>?_)
 ·obtain ⟨k,rfl⟩:∃ k,j=k+1:=⟨j-1,by omega⟩
  rw [show (((k+1:Nat):Int)-1)=(k:Int) by omega];obtain ⟨g1,g2,g3,g4⟩:=Nm.b1U hinv hva (by omega);have hwa:Nm.H8 ((us.drop k).take (v.length+1)):=(hua.drop k).take _;have hv1:0 < v[m+1]'(by omega):=by
   have h1:=Nm.D7 4294967296 (l:=v) (i:=m+1) (by omega);rw [c8P (by omega)] at h1;have h2:=Nm.M9 4294967296 (l:=v.take (m+1)) (fun w hw=>hva w (List.mem_of_mem_take hw));rw [c8E,Nat.min_eq_left (by omega)] at h2;have h3:Nm.wv 4294967296 y<=Nm.wv 4294967296 y*2 ^ r:=Nat.le_mul_of_pos_right _ (Nat.pow_pos (by decide));rw [show n-1=m+1 by omega] at hyt;rcases c8Q (v[m+1]'(by omega)) with h0|h0
   ·rw [h0] at h1;omega
   ·exact h0
  have hE:=Nm.Est.of (m:=m) (by omega) (by rw [g4];omega) hva hwa hv1 (by rw [g1];exact g2);simp only [List.getElem_take,List.getElem_drop,g1] at hE;have ha2:us[k+n]?=some (us[k+(m+2)]'(by omega)):=(show us[k+n]?=us[k+(m+2)]? by rw [hm]).trans (c8q (by omega));have ha1:us[k+(m+1)]?=some (us[k+(m+1)]'(by omega)):=c8q (by omega);have ha0:us[k+m]?=some (us[k+m]'(by omega)):=c8q (by omega);have hb1:v[m+1]?=some (v[m+1]'(by omega)):=c8q (by omega);have hb0:v[m]?=some (v[m]'(by omega)):=c8q (by omega);have hA2:=hua _ (c8L (show k+(m+2) < us.length by omega));have hA1:=hua _ (c8L (show k+(m+1) < us.length by omega));have hA0:=hua _ (c8L (show k+m < us.length by omega))
  have hB1:=hva _ (c8L (show m+1 < v.length by omega));have hB0:=hva _ (c8L (show m < v.length by omega));generalize us[k+(m+2)]'(by omega)=a2 at *;generalize us[k+(m+1)]'(by omega)=a1 at *;generalize us[k+m]'(by omega)=a0 at *;generalize v[m+1]'(by omega)=v1 at *;generalize v[m]'(by omega)=v2 at *;have hi2:((k:Int)+(n:Int)).toNat=k+n:=by omega
  have hi3:((k:Int)+(n:Int)-1).toNat=k+(m+1):=by omega
  have hi4:((k:Int)+(n:Int)-2).toNat=k+m:=by omega
  have hi5:((n:Int)-1).toNat=m+1:=by omega
  have hi6:((n:Int)-2).toNat=m:=by omega
  have htop:=b3o a2 a1 hA2 hA1;have htb:a2*4294967296+a1 < 18446744073709551616:=by omega
  have hs0:=hE.start;have htp:=hE.top;have hd0:=Nat.div_add_mod (a2*4294967296+a1) v1;have hr0:=Nat.mod_lt (a2*4294967296+a1) hv1;obtain ⟨top,htd⟩:∃ top,top=a2*4294967296+a1:=⟨_,rfl⟩
  rw [<- htd] at hE htop htb hs0 htp hd0 hr0;have hq:∀ q:Nat,q=top / v1->Int.tdiv (top:Int) (v1:Int)=(q:Int):=fun q h=>by rw [h];rfl
  have hqr:∀ q:Nat,q=top % v1->Int.tmod (top:Int) (v1:Int)=(q:Int):=fun q h=>by rw [h];rfl
  obtain ⟨d0,hd0e⟩:∃ d0,d0=top / v1:=⟨_,rfl⟩
  obtain ⟨e0,he0e⟩:∃ e0,e0=top % v1:=⟨_,rfl⟩
  have hq:=hq d0 hd0e;have hqr:=hqr e0 he0e;rw [<- hd0e,<- he0e] at hd0;rw [<- hd0e] at hs0;rw [<- he0e] at hr0;have hd0b:d0<=18446744073709551615:=by
   have:d0<=top:=by rw [hd0e];exact Nat.div_le_self _ _
   omega
  clear hd0e he0e;(repeat first|refine uA ?_|(apply uK;· first|omega|trivial|(intro h;rw [h];rfl)|(intro h h2;rw [h,h2];rfl)|(intro h;(try simp at h);omega)|(intros;simp_all<;>omega))|simp only [go_sem,Nat.reduceBEq,Nat.reduceAdd,Nat.reduceLeDiff,Int.reduceToNat,Int.reducePow,x9,F8,ha2,ha1,hb1,c8s,wd,hi2,hi3,hi5,htop,hq,hqr]|simp (disch:=omega) only [ww,x9,F8,ha2,ha1,hb1,c8s,wd,hi2,hi3,hi5,htop,hq,hqr])
  refine S.c2U (Y:=Nat) (fun d=>⟨[(10,ints k),(4,.rv 1),(9,.sl 1 (ws v)),(8,.rv 0),(7,ints n),(6,ints r),(12,.v (.int .u64 (d:Int)))],[.row 217 1 (ws us),.row 217 1 (ws qs)]⟩) (fun d=>d < 4294967296/\((d*Nm.wv 4294967296 v<=Nm.wv 4294967296 (us.drop k)/\Nm.wv 4294967296 (us.drop k) / Nm.wv 4294967296 v=d) \/ (Nm.wv 4294967296 (us.drop k) < d*Nm.wv 4294967296 v/\0 < d/\Nm.wv 4294967296 (us.drop k) / Nm.wv 4294967296 v=d-1))) ?_ ?_
  ·refine S.loop (X:=Nat × Nat) (fun s=>⟨[(10,ints k),(4,.rv 1),(9,.sl 1 (ws v)),(8,.rv 0),(7,ints n),(6,ints r),(12,.v (.int .u64 (s.1:Int))),(13,.v (.int .u64 (s.2:Int)))],[.row 217 1 (ws us),.row 217 1 (ws qs)]⟩) (fun s=>Nm.wv 4294967296 (us.drop k) / Nm.wv 4294967296 v<=s.1/\top=s.1*v1+s.2/\s.2 < 4294967296/\s.1<=18446744073709551615) (fun s=>s.1) (d0,e0) ⟨hs0,by rw [<- hd0,Nat.mul_comm],by simp only;omega,hd0b⟩ (by repeat first|refine uA ?_|(refine ⟨?_,?_⟩;· first|rfl|trivial|(simp [slot];done))|rfl|trivial|simp) ?_;clear hs0 hd0 hr0 hd0b hq hqr;rintro ⟨d,rest⟩ ⟨p1,p2,p3,p4⟩;simp only [ints] at p1 p2 p3 p4 ⊢;have hor:=b3o rest a0 p3 hA0
   (repeat first|refine uA ?_|(apply uK;· first|omega|trivial|(intro h;rw [h];rfl)|(intro h h2;rw [h,h2];rfl)|(intro h;(try simp at h);omega)|(intros;simp_all<;>omega))|simp only [go_sem,Nat.reduceBEq,Nat.reduceAdd,Nat.reduceLeDiff,Int.reduceToNat,Int.reducePow,x9,F8,hb0,ha0,c8s,wd,hi4,hi6,a1L,hor]|simp (disch:=omega) only [ww,x9,F8,hb0,ha0,c8s,wd,hi4,hi6,a1L,hor]);have hmul:d < 4294967296->IntKind.u64.wrap ((d:Int)*(v2:Int))=((d*v2:Nat):Int):=fun h=>by
    have h1:d*v2<=4294967295*4294967295:=Nat.mul_le_mul (by omega) (by omega);rw [<- Int.natCast_mul,Eng.wrap_u64 (by omega)]
   (refine uJ rfl (fun hc=>?_) fun hc=>?_)
   ·have hdec:Nm.wv 4294967296 (us.drop k) / Nm.wv 4294967296 v < d:=by
     refine hE.dec p1 p2 ?_;rcases c8N d 4294967296 with h|h
     ·rw [hmul h] at hc;omega
     ·exact Or.inl h
    have hd1:1<=d:=Nat.lt_of_le_of_lt (c8w _) hdec;have hdm:(d:Int)-1=((d-1:Nat):Int):=by clear hdec p1;omega
    have hrm:(rest:Int)+(v1:Int)=((rest+v1:Nat):Int):=by omega
    have ht2:top=(d-1)*v1+(rest+v1):=by
     rw [p2]
     conv=>lhs;rw [show d=d-1+1 by omega,Nat.add_mul,Nat.one_mul]
     omega
    (repeat first|refine uA ?_|(apply uK;· first|omega|trivial|(intro h;rw [h];rfl)|(intro h h2;rw [h,h2];rfl)|(intro h;(try simp at h);omega)|(intros;simp_all<;>omega))|simp only [go_sem,Nat.reduceBEq,Nat.reduceAdd,Nat.reduceLeDiff,Int.reduceToNat,Int.reducePow,x9,F8,hb1,c8s,wd,hi5,a1L,hdm,hrm]|simp (disch:=omega) only [ww,x9,F8,hb1,c8s,wd,hi5,a1L,hdm,hrm]);(refine uJ rfl (fun hc=>?_) fun hc=>?_)
    ·have hsm:=hE.small ht2 htp (by omega);(repeat first|refine uA ?_|(apply uK;· first|omega|trivial|(intro h;rw [h];rfl)|(intro h h2;rw [h,h2];rfl)|(intro h;(try simp at h);omega)|(intros;simp_all<;>omega))|simp only [go_sem,Nat.reduceBEq,Nat.reduceAdd,Nat.reduceLeDiff,Int.reduceToNat,Int.reducePow]|simp (disch:=omega) only [ww]);exact S.met (d-1) ⟨hsm,hE.fin (by omega) ht2 hsm (by omega)⟩ (by repeat first|refine uA ?_|(refine ⟨?_,?_⟩;· first|rfl|trivial|(simp [slot];done))|rfl|trivial|simp)
    ·(repeat first|refine uA ?_|(apply uK;· first|omega|trivial|(intro h;rw [h];rfl)|(intro h h2;rw [h,h2];rfl)|(intro h;(try simp at h);omega)|(intros;simp_all<;>omega))|simp only [go_sem,Nat.reduceBEq,Nat.reduceAdd,Nat.reduceLeDiff,Int.reduceToNat,Int.reducePow]|simp (disch:=omega) only [ww]);refine S.next (x:=(d,rest)) (d-1,rest+v1) ⟨by simp only;omega,ht2,by simp only;omega,by simp only;omega⟩ (by simp only;omega) (by repeat first|refine uA ?_|(refine ⟨?_,?_⟩;· first|rfl|trivial|(simp [slot];done))|rfl|trivial|simp)
   ·have hdl:d < 4294967296:=by
     rcases c8N d 4294967296 with h|h
     ·exact h
     ·exfalso;omega
    rw [hmul hdl] at hc;(repeat first|refine uA ?_|(apply uK;· first|omega|trivial|(intro h;rw [h];rfl)|(intro h h2;rw [h,h2];rfl)|(intro h;(try simp at h);omega)|(intros;simp_all<;>omega))|simp only [go_sem,Nat.reduceBEq,Nat.reduceAdd,Nat.reduceLeDiff,Int.reduceToNat,Int.reducePow]|simp (disch:=omega) only [ww]);exact S.met d ⟨hdl,hE.fin p1 p2 hdl (by omega)⟩ (by repeat first|refine uA ?_|(refine ⟨?_,?_⟩;· first|rfl|trivial|(simp [slot];done))|rfl|trivial|simp)
  ·clear hs0 hd0 hr0 hd0b hq hqr;rintro d ⟨hd32,hfin⟩;simp only [ints];generalize hW:Nm.wv 4294967296 (us.drop k)=W at *;generalize hVV:Nm.wv 4294967296 v=V at *;have htake:=c6w (E:=⟨Tryz.prog,eff,179,w,fun _=>False,O,[],[]⟩) rfl us qs v k d (by omega) (by omega) hua hva hd32 (W:=W) (by rw [g1]);rw [hVV] at htake;have hlo:((k:Int)+(n:Int)+1).toNat-k=v.length+1:=by omega
   have hqk:k < qs.length:=by omega
   have hgq:qs[k]?=some (qs[k]'hqk):=c8q hqk;have hpos:0 < V:=hE.pos;have hlk:k+v.length+1<=us.length:=by omega
   have hWl:W < 4294967296 ^ (v.length+1):=by
    have:=Nm.M9 4294967296 hwa;rwa [g4,g1] at this
   have hVl:V<=4294967296 ^ (v.length+1):=by
    rw [<- hVV];exact Nat.le_of_lt (c8U (Nm.M9 4294967296 hva) (c8Y (by decide) (by omega)))
   have hput:∀ l,put us k (Nm.dig 4294967296 (v.length+1) l)=us.take k++Nm.dig 4294967296 (v.length+1) l++us.drop (k+v.length+1):=fun l=>by
    rw [put,Nm.J9,Nat.add_assoc]
   have hend:Nm.a6Z (Nm.wv 4294967296 x*2 ^ r) v (x.length+1) k (put us k (Nm.dig 4294967296 (v.length+1) (W-W / V*V))) (qs.set k (W / V)):=by
    rw [hput];refine Nm.b7s hinv hva (by omega) (Nm.J9 _ _ _) (Nm.a1M (by decide) _ _) (by rw [hW,hVV]) ?_ (by rw [hVV];exact hpos);have hm1:=Nat.div_mul_le_self W V;rw [Nm.Y4 (by omega),hW,hVV];omega
   (repeat first|refine uA ?_|(apply uK;· first|omega|trivial|(intro h;rw [h];rfl)|(intro h h2;rw [h,h2];rfl)|(intro h;(try simp at h);omega)|(intros;simp_all<;>omega))|simp only [go_sem,Nat.reduceBEq,Nat.reduceAdd,Nat.reduceLeDiff,Int.reduceToNat,Int.reducePow,x9,hlo]|simp (disch:=omega) only [ww,x9,hlo]|refine l9.t htake ?_);(refine uJ rfl (fun hc=>?_) fun hc=>?_)
   ·rcases hfin with ⟨h1,h2⟩|⟨h1,h2,h3⟩
    ·omega
    rw [if_pos h1];have hm:(d-1)*V+V=d*V:=by
     conv=>rhs;rw [show d=d-1+1 by omega,Nat.add_mul,Nat.one_mul]
    have hm2:=Nat.div_mul_le_self W V;rw [h3] at hend hm2;have hpl:(put us k (Nm.dig 4294967296 (v.length+1) (W+4294967296 ^ (v.length+1)*1-d*V))).length=us.length:=a0A (by rw [Nm.J9];omega);have hdV:d*V<=W+4294967296 ^ (v.length+1):=by
     omega
    have hback:=c5q (E:=⟨Tryz.prog,eff,179,w,fun _=>False,O,[],[]⟩) rfl (put us k (Nm.dig 4294967296 (v.length+1) (W+4294967296 ^ (v.length+1)*1-d*V))) qs v k (by omega) (by omega) (c4d hua (Nm.a1M (by decide) _ _)) hva (W:=W+4294967296 ^ (v.length+1)*1-d*V) (by
     rw [a3a (Nm.J9 _ _ _).symm (by rw [Nm.J9];omega),Nm.Y4 (by omega)]) (by rw [hVV];omega)
    rw [hVV,c4I (by rw [Nm.J9,Nm.J9]) (by rw [Nm.J9];omega),show W+4294967296 ^ (v.length+1)*1-d*V+V-4294967296 ^ (v.length+1)=W-(d-1)*V by omega] at hback;have hdm:(d:Int)-1=((d-1:Nat):Int):=by omega
    (repeat first|refine uA ?_|(apply uK;· first|omega|trivial|(intro h;rw [h];rfl)|(intro h h2;rw [h,h2];rfl)|(intro h;(try simp at h);omega)|(intros;simp_all<;>omega))|simp only [go_sem,Nat.reduceBEq,Nat.reduceAdd,Nat.reduceLeDiff,Int.reduceToNat,Int.reducePow,x9,F8,hgq,c8s,wd,hlo,hpl,hdm,L8]|simp (disch:=omega) only [ww,x9,F8,hgq,c8s,wd,hlo,hpl,hdm,L8]|refine l9.t hback ?_);refine S.next (x:=(k+1,us,qs)) (k,_,_) ⟨by simp only;omega,hend⟩ (by simp only;omega) (by repeat first|refine uA ?_|(refine ⟨?_,?_⟩;· first|rfl|trivial|(simp [slot];done))|rfl|trivial|simp)
   ·rcases hfin with ⟨h1,h2⟩|⟨h1,h2,h3⟩
    ·rw [if_neg (by omega),Nat.mul_zero,Nat.add_zero];rw [h2] at hend;(repeat first|refine uA ?_|(apply uK;· first|omega|trivial|(intro h;rw [h];rfl)|(intro h h2;rw [h,h2];rfl)|(intro h;(try simp at h);omega)|(intros;simp_all<;>omega))|simp only [go_sem,Nat.reduceBEq,Nat.reduceAdd,Nat.reduceLeDiff,Int.reduceToNat,Int.reducePow,x9,F8,hgq,c8s,wd,L8]|simp (disch:=omega) only [ww,x9,F8,hgq,c8s,wd,L8]);refine S.next (x:=(k+1,us,qs)) (k,_,_) ⟨by simp only;omega,hend⟩ (by simp only;omega) (by repeat first|refine uA ?_|(refine ⟨?_,?_⟩;· first|rfl|trivial|(simp [slot];done))|rfl|trivial|simp)
    ·omega
 ·have hj0:j=0:=by omega
  subst hj0;clear hc hj;obtain ⟨e1,e2⟩:=Nm.b9C hinv hva (by omega);rw [hvw,Nat.mul_div_mul_right _ _ (Nat.pow_pos (by decide))] at e1;rw [hvw,Nat.mul_mod_mul_right,hvl] at e2;have hq:qs=Nm.dig 4294967296 (x.length+1-n) (Nm.wv 4294967296 x / Nm.wv 4294967296 y):=Nm.Y7 (by decide) hqa (by omega) e1;rw [<- hq];have hps:put us 0 (us.take n)=us:=by
   have:=a4Z (us:=us) (k:=0) (n:=n) (by omega);rwa [List.drop_zero] at this
  have hra:Nm.H8 (us.take n):=hua.take n;have hrl:(us.take n).length=n:=by rw [c8E];omega
  generalize us.take n=r0 at *;(repeat first|refine uA ?_|(apply uK;· first|omega|trivial|(intro h;rw [h];rfl)|(intro h h2;rw [h,h2];rfl)|(intro h;(try simp at h);omega)|(intros;simp_all<;>omega))|simp only [go_sem,Nat.reduceBEq,Nat.reduceAdd,Nat.reduceLeDiff,Int.reduceToNat,Int.reducePow,x9]|simp (disch:=omega) only [ww,x9])
  refine S.loop (X:=Nat × List Nat) (fun s=>⟨[(4,.rv 1),(5,.wv 0 1 0 n),(6,ints r),(7,ints n),(8,.rv 0),(145,ints n),(146,ints s.1)],[.row 217 1 (ws (put us 0 s.2)),.row 217 1 (ws qs)]⟩) (fun s=>s.1<=n/\Nm.a5i r0 (2 ^ r) s.1 s.2) (fun s=>n-s.1) (0,r0) ⟨c8w _,Nm.b2o hra⟩ (by simp only [hps];exact (by repeat first|refine uA ?_|(refine ⟨?_,?_⟩;· first|rfl|trivial|(simp [slot];done))|rfl|trivial|simp)) ?_;rintro ⟨i,out⟩ ⟨hi,hri⟩;simp only [ints] at hi hri ⊢;have hol:=hri.1;have hpl:(put us 0 out).length=us.length:=a0A (by omega)
  (repeat first|refine uA ?_|(apply uK;· first|omega|trivial|(intro h;rw [h];rfl)|(intro h h2;rw [h,h2];rfl)|(intro h;(try simp at h);omega)|(intros;simp_all<;>omega))|simp only [go_sem,Nat.reduceBEq,Nat.reduceAdd,Nat.reduceLeDiff,Int.reduceToNat,Int.reducePow]|simp (disch:=omega) only [ww]);(refine uJ rfl (fun hc=>?_) fun hc=>?_)
  ·have hi':i < n:=by omega
   have hgr:r0[i]?=some (r0[i]'(by omega)):=c8q (by omega);have hgo:(put us 0 out)[i]?=some (r0[i]'(by omega)):=by
    have:=V5 (us:=us) (out:=out) (k:=0) (i:=i) (by omega) (by omega);rw [c8Z] at this;rw [this,Nm.a0V hri.2.2.1,hgr]
   have hr32':=hra _ (c8L (show i < r0.length by omega));have hir:i < r0.length:=by omega
   have hk:=fun t ht=>Nm.b2v (t:=t) hri hr32 hir hra ht;have hset:∀ a,(put us 0 out).set i a=put us 0 (out.set i a):=fun a=>by
    have:=a0z (us:=us) (out:=out) (k:=0) (i:=i) (v:=a) (by omega) (by omega);rwa [c8Z] at this
   generalize r0[i]'(by omega)=ri at *;have hsh:Int.fdiv (ri:Int) (2 ^ min r 32)=((ri / 2 ^ r:Nat):Int):=by
    rw [show min r 32=r by omega,<- a2P];congr 1
   have hrb:ri / 2 ^ r < 4294967296:=Nat.lt_of_le_of_lt (Nat.div_le_self _ _) hr32';generalize ri / 2 ^ r=rs at *;(repeat first|refine uA ?_|(apply uK;· first|omega|trivial|(intro h;rw [h];rfl)|(intro h h2;rw [h,h2];rfl)|(intro h;(try simp at h);omega)|(intros;simp_all<;>omega))|simp only [go_sem,Nat.reduceBEq,Nat.reduceAdd,Nat.reduceLeDiff,Int.reduceToNat,Int.reducePow,x9,F8,hgo,c8Z,c8s,wd,L8,hsh,hset]|simp (disch:=omega) only [ww,x9,F8,hgo,c8Z,c8s,wd,L8,hsh,hset]);(refine uJ rfl (fun hc=>?_) fun hc=>?_)
   ·have hi1:i+1 < n:=by omega
    have hpl1:(put us 0 (out.set i rs)).length=us.length:=a0A (by rw [c9h];omega);have hg1:(put us 0 (out.set i rs))[i]?=some rs:=by
     rw [<- hset,List.getElem?_set_self (by omega)]
    have hg3:r0[i+1]?=some (r0[i+1]'(by omega)):=c8q (by omega);have hg2:(put us 0 (out.set i rs))[i+1]?=some (r0[i+1]'(by omega)):=by
     have:=V5 (us:=us) (out:=out) (k:=0) (i:=i+1) (by omega) (by omega);rw [c8Z] at this;rw [<- hset,List.getElem?_set_ne (by omega),this];have h3:=congrArg (fun l=>l[1]?) hri.2.2.1;simp only [c9e] at h3;rw [h3,hg3]
    have hn32:=hra _ (c8L (show i+1 < r0.length by omega));have hgd:r0.getD (i+1) 0=r0[i+1]'(by omega):=Nm.getD_lt (by omega);rw [hgd] at hk;generalize r0[i+1]'(by omega)=rn at *;have hmb:rn*2 ^ (32-r) < 18446744073709551616:=by
     have h1:2 ^ (32-r)<=2 ^ 32:=c8Y (by decide) (by omega);have h2:rn*2 ^ (32-r)<=4294967295*4294967296:=Nat.mul_le_mul (by omega) h1;omega
    have hshl:=b6f rn (32-r) hmb (by omega);have hrr:((32:Int)-(r:Int)).toNat=32-r:=by omega
    have horl:=c0i rs (rn*2 ^ (32-r)) hrb;have hk:=hk _ rfl;rw [if_pos (by omega)] at hk;generalize rn*2 ^ (32-r)=sh at *;generalize hto:rs ||| sh % 4294967296=to at *
    have hset2:(put us 0 (out.set i rs)).set i to=put us 0 (out.set i to):=by
     have:=a0z (us:=us) (out:=out.set i rs) (k:=0) (i:=i) (v:=to) (by rw [c9h];omega) (by rw [c9h];omega);rwa [c8Z,List.set_set] at this
    have hi1n:((i:Int)+1).toNat=i+1:=by omega
    (repeat first|refine uA ?_|(apply uK;· first|omega|trivial|(intro h;rw [h];rfl)|(intro h h2;rw [h,h2];rfl)|(intro h;(try simp at h);omega)|(intros;simp_all<;>omega))|simp only [go_sem,Nat.reduceBEq,Nat.reduceAdd,Nat.reduceLeDiff,Int.reduceToNat,Int.reducePow,x9,F8,hg1,hg2,hpl1,c8Z,c8s,wd,hrr,hi1n,hshl,a3n,horl,L8,hset2]|simp (disch:=omega) only [ww,x9,F8,hg1,hg2,hpl1,c8Z,c8s,wd,hrr,hi1n,hshl,a3n,horl,L8,hset2]);refine S.next (x:=(i,out)) (i+1,_) ⟨hi',hk.1⟩ (by simp only;omega) (by repeat first|refine uA ?_|(refine ⟨?_,?_⟩;· first|rfl|trivial|(simp [slot];done))|rfl|trivial|simp)
   ·have hk:=hk _ rfl;rw [if_neg (by omega)] at hk;(repeat first|refine uA ?_|(apply uK;· first|omega|trivial|(intro h;rw [h];rfl)|(intro h h2;rw [h,h2];rfl)|(intro h;(try simp at h);omega)|(intros;simp_all<;>omega))|simp only [go_sem,Nat.reduceBEq,Nat.reduceAdd,Nat.reduceLeDiff,Int.reduceToNat,Int.reducePow]|simp (disch:=omega) only [ww]);refine S.next (x:=(i,out)) (i+1,_) ⟨hi',hk.1⟩ (by simp only;omega) (by repeat first|refine uA ?_|(refine ⟨?_,?_⟩;· first|rfl|trivial|(simp [slot];done))|rfl|trivial|simp)
  ·have hi':i=n:=by omega
   subst hi';rw [<- hrl] at hri;have he:=Nm.b4l hri (by omega) e2;have hd:out=Nm.dig 4294967296 i (Nm.wv 4294967296 x % Nm.wv 4294967296 y):=Nm.Y7 (by decide) hri.2.1 (by omega) he;rw [<- hd];have hwin:((ws (put us 0 out)).drop 0).take i=ws out:=by
    rw [List.drop_zero,put,List.take_zero,List.nil_append];simp only [ws,c9i];rw [List.take_append_of_le_length (by simp;omega),c8P (by simp;omega)]
   (repeat first|refine uA ?_|(apply uK;· first|omega|trivial|(intro h;rw [h];rfl)|(intro h h2;rw [h,h2];rfl)|(intro h;(try simp at h);omega)|(intros;simp_all<;>omega))|simp only [go_sem,Nat.reduceBEq,Nat.reduceAdd,Nat.reduceLeDiff,Int.reduceToNat,Int.reducePow]|simp (disch:=omega) only [ww]);exact uQ rfl (Imp.tup (j3.cons (Imp.frz rfl rfl rfl) (j3.cons (Imp.K5 rfl rfl (by simp only [x9];omega) hwin) j3.nil))) rfl rfl
namespace Nm
def a9S (x:List Nat) (d j:Nat) (out:List Nat) (rest:Nat):Prop:=
 out.length=x.length/\H8 out/\out.take j=x.take j/\wv 4294967296 (out.drop j)=wv 4294967296 (x.drop j) / d/\rest=wv 4294967296 (x.drop j) % d
theorem b5A {x:List Nat} {d:Nat} (hx:H8 x):a9S x d x.length x 0:=by
 refine ⟨rfl,hx,rfl,?_,?_⟩<;>rw [List.drop_of_length_le (c8B _)]<;>simp [wv]
theorem b5n {x:List Nat} {d j:Nat} {out:List Nat} {rest:Nat} (h:a9S x d (j+1) out rest) (hj:j < x.length) (hd:0 < d) (hd32:d < 4294967296) (hx:x[j] < 4294967296) :
  a9S x d j (out.set j ((rest*4294967296+x[j]) / d)) ((rest*4294967296+x[j]) % d)/\(rest*4294967296+x[j]) / d < 4294967296/\rest < 4294967296:=by
 obtain ⟨h1,h2,h3,h4,h5⟩:=h;have hrd:rest < d:=by rw [h5];exact Nat.mod_lt _ hd
 have hs:(rest*4294967296+x[j]) / d < 4294967296:=by
  rw [Nat.div_lt_iff_lt_mul hd];have:(rest+1)*4294967296<=d*4294967296:=c8X _ hrd;rw [Nat.mul_comm d] at this;omega
 have hxd:=a3l 4294967296 hj;have hW:=Nat.div_add_mod (wv 4294967296 (x.drop (j+1))) d;rw [<- h5,<- h4] at hW;have e:wv 4294967296 (x.drop j)=(rest*4294967296+x[j])+d*(4294967296*wv 4294967296 (out.drop (j+1))):=by
  rw [hxd,<- hW,Nat.mul_add];grind
 refine ⟨⟨by simp [h1],h2.set hs,?_,?_,?_⟩,hs,by omega⟩
 ·rw [List.take_set_of_le (c8B _)];have:=congrArg (List.take j) h3;simpa [List.take_take,Nat.min_eq_left (show j<=j+1 by omega)] using this
 ·rw [a3l _ (by rw [c9h];omega),List.getElem_set_self,List.drop_set_of_lt (by omega),e,Nat.add_mul_div_left _ _ hd]
 ·rw [e,Nat.add_mul_mod_self_left]
theorem L9 {α:Type} {a b:List α} {j:Nat} (h:a.take (j+1)=b.take (j+1)):a[j]?=b[j]?:=by
 have:=congrArg (fun l=>l[j]?) h;simpa using this
end Nm
theorem a0n (l:List UInt8):(bs l=(⟨#[]⟩:ByteArray))=(l=[]):=b2E l []
theorem b2B (a b:List UInt8) (ha:a.length<=274877906944) (hb:b.length<=274877906944) (h0:Nm.val b ≠ 0):u7 Tryz.prog 174 [sb a,sb b] (.tup [sb (Nm.enc (Nm.val a / Nm.val b)),sb (Nm.enc (Nm.val a % Nm.val b)),ints 0]):=by
 refine kS Tryz.func174 (by cbv) (by rfl) fun w O=>?_;simp only [j4,TT,II,OA,OB,OC,MM,VV,MG,sb,ints];have hta:=Nm.Y9 a;have htb:=Nm.Y9 b;have hva:=Nm.T9 a;have hvb:=Nm.T9 b;have hla:=Nm.X7 (Nm.trim a);have hlb:=Nm.X7 (Nm.trim b);have hwa:=Nm.a0D (Nm.trim a);have hwb:=Nm.a0D (Nm.trim b);have h3a:=Nm.a0H (Nm.trim a);have h3b:=Nm.a0H (Nm.trim b);have hca:=Nm.Y1 a;have hcb:=Nm.Y1 b;have htopb:=Nm.a7Q (Nm.trim b);have htopa:=Nm.a7Q (Nm.trim a);have fta:=a0N a (by omega);have ftb:=a0N b (by omega);rw [Nm.a7S] at hla hlb;rw [<- hva,<- hvb];rw [<- hvb] at h0;clear hva hvb;generalize Nm.trim a=x at *;generalize Nm.trim b=y at *;have hy0:y ≠ []:=fun h=>by subst h;exact h0 rfl
 (repeat first|refine uA ?_|(apply uK;· omega)|simp (disch:=omega) only [go_sem,Nat.reduceBEq,Nat.reduceAdd]|(apply uB fta;exact rfl)|(apply uB ftb;exact rfl));(refine uJ rfl (fun hc=>?_) fun hc=>?_)
 ·rw [a0n] at hc;exact absurd hc hy0
 (repeat first|refine uA ?_|(apply uK;· omega)|simp (disch:=omega) only [go_sem,Nat.reduceBEq,F5]);(refine uJ rfl (fun hc=>?_) fun hc=>?_)
 ·have hx7:=Nm.a0M (l:=x) (k:=8) (by omega);have hy7:=Nm.a0M (l:=y) (k:=8) (by omega);have e1:Nm.val x % 18446744073709551616=Nm.val x:=Nat.mod_eq_of_lt (by omega);have e2:Nm.val y % 18446744073709551616=Nm.val y:=Nat.mod_eq_of_lt (by omega);have fx:=a2y x (by omega);have fy:=a2y y (by omega);rw [e1] at fx;rw [e2] at fy;have hqb:Nm.val x / Nm.val y < 18446744073709551616:=Nat.lt_of_le_of_lt (Nat.div_le_self _ _) (by omega);have hrb:Nm.val x % Nm.val y < 18446744073709551616:=c8U (Nat.mod_lt _ (by omega)) (by omega);have hf:=a0Y _ hqb;have hg:=a0Y _ hrb;have hq:Int.tdiv (Nm.val x:Int) (Nm.val y:Int)=((Nm.val x / Nm.val y:Nat):Int):=rfl
  have hr:Int.tmod (Nm.val x:Int) (Nm.val y:Int)=((Nm.val x % Nm.val y:Nat):Int):=rfl;generalize Nm.val x / Nm.val y=q at *;generalize Nm.val x % Nm.val y=r at *;(repeat first|refine uA ?_|(apply uK;· omega)|simp (disch:=omega) only [go_sem,Nat.reduceBEq,ww,hq,hr]|(apply uB fx;exact rfl)|(apply uB fy;exact rfl)|(apply uB hf;exact rfl)|(apply uB hg;exact rfl));exact uS rfl rfl
 have hcn:=b3h (Nm.val x) (Nm.val y);(repeat first|refine uA ?_|(apply uK;· omega)|simp (disch:=omega) only [go_sem,Nat.reduceBEq]|(apply uB (b0e x y (by omega) (by omega));exact rfl));(refine uJ rfl (fun hc=>?_) fun hc=>?_)
 ·have h1:=hcn.1 hc;rw [Nat.div_eq_of_lt h1,Nat.mod_eq_of_lt h1,Nm.a1r,Nm.a2a hca];(repeat first|refine uA ?_|(apply uK;· omega)|simp (disch:=omega) only [go_sem,Nat.reduceBEq]);exact uS rfl rfl
 have hge:Nm.val y<=Nm.val x:=by
  rcases c8N (Nm.val x) (Nm.val y) with h|h
  ·exact absurd (hcn.2 h) hc
  ·exact h
 have fwx:=a3b x (by omega);have fwy:=(a3b y (by omega)).spec;rw [<- hwa,<- hwb] at hge;rw [<- hwb] at h0;rw [<- hwa] at htopa;rw [<- hwb] at htopb;rw [<- hwa,<- hwb];clear hwa hwb hcn hc;generalize Nm.L6 x=p at *;generalize Nm.L6 y=q at *;have hq0:q ≠ []:=fun h=>by subst h;exact h0 rfl
 have hql:0 < q.length:=List.length_pos_iff.2 hq0;have hle:q.length<=p.length:=by
  rcases c8N p.length q.length with h|h
  ·exfalso;have h2:=htopb hq0;have h3:=Nm.M9 4294967296 h3a;have h4:4294967296 ^ p.length<=4294967296 ^ (q.length-1):=c8Y (by decide) (by omega);omega
  ·exact h
 (repeat first|refine uA ?_|(apply uK;· omega)|simp (disch:=omega) only [go_sem,Nat.reduceBEq,x9]|refine l9.t (FNew.t fwx rfl) ?_|(apply uB fwy;exact rfl));clear fwx fwy fta ftb;(refine uJ rfl (fun hc=>?_) fun hc=>?_)
 ·obtain ⟨d,rfl⟩:∃ d,q=[d]:=by
   match q,hc with
   | [d],_=>exact ⟨d,rfl⟩
   | [],h=>simp at h
   | _::_::_,h=>simp at h;omega
  have hd32:d < 4294967296:=h3b d (by simp);have hwd:Nm.wv 4294967296 [d]=d:=by simp [Nm.wv]
  rw [hwd] at h0 ⊢;have hpl:p.length<=68719476737:=by omega
  clear hge hle htopa htopb hla hlb hc;(repeat first|refine uA ?_|(apply uK;· omega)|simp (disch:=omega) only [go_sem,Nat.reduceBEq,ww,x9]);refine S.loop (X:=Nat × List Nat × Nat) (fun s=>⟨[(7,.rv 0),(8,.sl 1 (ws [d])),(9,.v (.int .u64 (s.2.2:Int))),(10,ints ((s.1:Int)-1))],[.row 217 1 (ws s.2.1)]⟩) (fun s=>s.1<=p.length/\Nm.a9S p d s.1 s.2.1 s.2.2) (fun s=>s.1) (p.length,p,0) ⟨c8B _,Nm.b5A h3a⟩ (by repeat first|refine uA ?_|(refine ⟨?_,?_⟩;· first|rfl|trivial|(simp [slot];done))|rfl|trivial|simp) ?_;rintro ⟨j,out,rest⟩ ⟨hj,hinv⟩;simp only [ints] at hj hinv ⊢;have hol:=hinv.1;(repeat first|refine uA ?_|(apply uK;· omega)|simp (disch:=omega) only [go_sem,Nat.reduceBEq])
  (refine uJ rfl (fun hc=>?_) fun hc=>?_)
  ·obtain ⟨k,rfl⟩:∃ k,j=k+1:=⟨j-1,by omega⟩
   rw [show (((k+1:Nat):Int)-1)=(k:Int) by omega];have hgp:p[k]?=some (p[k]'(by omega)):=c8q (by omega);have hgo:out[k]?=some (p[k]'(by omega)):=by rw [Nm.L9 hinv.2.2.1,hgp]
   have hp32:=h3a _ (c8L (show k < p.length by omega));obtain ⟨hs,hq32,hr32⟩:=Nm.b5n hinv (by omega) (by omega) hd32 hp32;generalize p[k]'(by omega)=pk at *;have hor:=b3o rest pk hr32 hp32;have hwd0:(ws [d])[0]?=some (wd d):=rfl;have hq:Int.tdiv ((rest*4294967296+pk:Nat):Int) (d:Int)=(((rest*4294967296+pk) / d:Nat):Int):=rfl;have hr:Int.tmod ((rest*4294967296+pk:Nat):Int) (d:Int)=(((rest*4294967296+pk) % d:Nat):Int):=rfl;generalize rest*4294967296+pk=s at *;generalize s / d=sq at *;generalize s % d=sr at *;(repeat first|refine uA ?_|(apply uK;· omega)|simp (disch:=omega) only [go_sem,Nat.reduceBEq,Nat.reduceAdd,Nat.reduceLeDiff,Int.reducePow,ww,x9,F8,hgo,hwd0,c8s,wd,hor,hq,hr,L8])
   refine S.next (x:=(k+1,out,rest)) (k,_,_) ⟨by simp only;omega,hs⟩ (by simp only;omega) (by repeat first|refine uA ?_|(refine ⟨?_,?_⟩;· first|rfl|trivial|(simp [slot];done))|rfl|trivial|simp)
  ·have hj0:j=0:=by omega
   subst hj0;obtain ⟨h1,h2,_,h4,h5⟩:=hinv;rw [List.drop_zero] at h4 h5;rw [List.drop_zero] at h4;rw [<- h4,<- h5];have hrd:rest < d:=by rw [h5];exact Nat.mod_lt _ (by omega)
   have ft:=a5g out (by omega) h2;have hf:=a0Y rest (by omega);(repeat first|refine uA ?_|(apply uK;· omega)|simp (disch:=omega) only [go_sem,Nat.reduceBEq]|(apply uB hf;exact rfl)|(apply uC ft;exact rfl;focus (repeat' first|exact j3.nil|exact Imp.refl rfl|exact Imp.frz rfl rfl rfl|(refine Imp.K5 rfl rfl ?_ ?_;(focus ((try simp only [c8A]);omega));(focus first|rfl|assumption))|refine j3.cons ?_ ?_);done));exact uS rfl rfl
 ·have hfl:=c5S p q (by omega) h3a h3b hle (by omega) (htopb hq0);have hqx:=Nm.M9 4294967296 h3a;have hpw:4294967296 ^ p.length=4294967296 ^ (p.length+1-q.length)*4294967296 ^ (q.length-1):=by
   rw [<- Nat.pow_add];congr 1;omega
  have hqq:Nm.wv 4294967296 p / Nm.wv 4294967296 q < 4294967296 ^ (p.length+1-q.length):=by
   rw [Nat.div_lt_iff_lt_mul (by omega)];rw [hpw] at hqx;exact c8U hqx (Nat.mul_le_mul_left _ (htopb hq0))
  have hqy:=Nm.M9 4294967296 h3b;have hrr:Nm.wv 4294967296 p % Nm.wv 4294967296 q < 4294967296 ^ q.length:=Nat.lt_trans (Nat.mod_lt _ (by omega)) hqy;have ft1:=a5g _ (by rw [Nm.J9];omega) (Nm.a1M (B:=4294967296) (by decide) (p.length+1-q.length) (Nm.wv 4294967296 p / Nm.wv 4294967296 q));have ft2:=a5g _ (by rw [Nm.J9];omega) (Nm.a1M (B:=4294967296) (by decide) q.length (Nm.wv 4294967296 p % Nm.wv 4294967296 q));rw [Nm.Y4 hqq] at ft1;rw [Nm.Y4 hrr] at ft2;refine S.weaken (st':=⟨[(7,.sl 1 (ws p)),(8,.sl 1 (ws q))],[.gone]⟩) (Ent.mk _ _ (R3.cons (Imp.frz rfl rfl rfl) (R3.cons (Imp.refl rfl) R3.nil)) (by repeat first|refine uA ?_|rfl|simp [slot]) (c8w _)) ?_
  (repeat first|refine uA ?_|(apply uK;· omega)|simp (disch:=omega) only [go_sem,Nat.reduceBEq]|(apply uB hfl;exact rfl)|(apply uB ft1;exact rfl)|(apply uB ft2;exact rfl));exact uS rfl rfl
end Go.Proofs.YtpnbklgbfhgknaaGreatDoor
namespace Go.Proofs
open Go.Shelf
def Tryz.b4r:Go.Shelf.Ren:=⟨fun|29=>241|n=>n,fun|22=>213|3=>3|4=>4|25=>203|54=>290|0=>0|5=>5|n=>n,fun|1=>1|n=>n⟩
theorem Tryz.c1J:Go.Proofs.Lays7.n29 Tryz.prog Tryz.b4r:={
 mixed:=by kernel_rfl
 f29:=Tryz.func241.trans (congrArg some (by kernel_rfl))
 t0:=Tryz.underlying0
 a0:=Tryz.isAgg0
 z0:=Tryz.sizeOf0
 v0:=Tryz.zeroValue0
 i0:=by kernel_rfl
 t3:=Tryz.underlying3
 a3:=Tryz.isAgg3
 z3:=Tryz.sizeOf3
 v3:=Tryz.zeroValue3
 i3:=by kernel_rfl
 t4:=Tryz.underlying4
 a4:=Tryz.isAgg4
 z4:=Tryz.sizeOf4
 v4:=Tryz.zeroValue4
 i4:=by kernel_rfl
 t5:=Tryz.underlying5
 a5:=Tryz.isAgg5
 z5:=Tryz.sizeOf5
 v5:=Tryz.zeroValue5
 i5:=by kernel_rfl
 t22:=Tryz.underlying213
 a22:=Tryz.isAgg213
 z22:=Tryz.sizeOf213
 v22:=Tryz.zeroValue213
 i22:=by kernel_rfl
 t25:=Tryz.underlying203
 a25:=Tryz.isAgg203
 z25:=Tryz.sizeOf203
 v25:=Tryz.zeroValue203
 i25:=by kernel_rfl
 t54:=Tryz.underlying290
 a54:=Tryz.isAgg290
 z54:=Tryz.sizeOf290
 g1:=by kernel_rfl }
open Go.RowKit in
theorem Tryz.bits_TrailingZeros64 (x:Nat) (hx:x < 18446744073709551616) (w:World) (hT:x ≠ 0->TabAt 1 Lib.deBruijn64tab w) :
  Calls Tryz.prog 241 #[.int .u64 x] w fun e w'=>e=.returned (.int .i64 (Lib.ctz 64 x))/\w'=w:=Any7.bits_TrailingZeros64 Tryz.c1J x hx w hT
def Tryz.b5G:Go.Shelf.Ren:=⟨fun|160=>175|232=>207|231=>206|227=>208|234=>210|233=>209|236=>212|235=>211|228=>237|271=>240|151=>239|197=>238|120=>250|152=>249|260=>248|137=>251|119=>252|224=>253|225=>254|217=>255|266=>256|n=>n,fun|9=>9|4=>4|3=>3|5=>5|117=>254|116=>253|0=>0|124=>257|21=>21|105=>279|46=>203|119=>291|139=>294|138=>293|n=>n,fun|3=>2|4=>3|n=>n⟩
theorem Tryz.c4S:Go.Proofs.Lays.n160 Tryz.prog Tryz.b5G:={
 mixed:=by kernel_rfl
 f119:=Tryz.func252.trans (congrArg some (by kernel_rfl))
 f120:=Tryz.func250.trans (congrArg some (by kernel_rfl))
 f137:=Tryz.func251.trans (congrArg some (by kernel_rfl))
 f151:=Tryz.func239.trans (congrArg some (by kernel_rfl))
 f152:=Tryz.func249.trans (congrArg some (by kernel_rfl))
 f160:=Tryz.func175.trans (congrArg some (by kernel_rfl))
 f197:=Tryz.func238.trans (congrArg some (by kernel_rfl))
 f217:=Tryz.func255.trans (congrArg some (by kernel_rfl))
 f224:=Tryz.func253.trans (congrArg some (by kernel_rfl))
 f225:=Tryz.func254.trans (congrArg some (by kernel_rfl))
 f227:=Tryz.func208.trans (congrArg some (by kernel_rfl))
 f228:=Tryz.func237.trans (congrArg some (by kernel_rfl))
 f231:=Tryz.func206.trans (congrArg some (by kernel_rfl))
 f232:=Tryz.func207.trans (congrArg some (by kernel_rfl))
 f233:=Tryz.func209.trans (congrArg some (by kernel_rfl))
 f234:=Tryz.func210.trans (congrArg some (by kernel_rfl))
 f235:=Tryz.func211.trans (congrArg some (by kernel_rfl))
 f236:=Tryz.func212.trans (congrArg some (by kernel_rfl))
 f260:=Tryz.func248.trans (congrArg some (by kernel_rfl))
 f266:=Tryz.func256.trans (congrArg some (by kernel_rfl))
 f271:=Tryz.func240.trans (congrArg some (by kernel_rfl))
 t0:=Tryz.underlying0
 a0:=Tryz.isAgg0
 z0:=Tryz.sizeOf0
 v0:=Tryz.zeroValue0
 t3:=Tryz.underlying3
 a3:=Tryz.isAgg3
 z3:=Tryz.sizeOf3
 v3:=Tryz.zeroValue3
 t4:=Tryz.underlying4
 a4:=Tryz.isAgg4
 z4:=Tryz.sizeOf4
 v4:=Tryz.zeroValue4
 t5:=Tryz.underlying5
 a5:=Tryz.isAgg5
 z5:=Tryz.sizeOf5
 v5:=Tryz.zeroValue5
 t9:=Tryz.underlying9
 a9:=Tryz.isAgg9
 z9:=Tryz.sizeOf9
 v9:=Tryz.zeroValue9
 t21:=Tryz.underlying21
 a21:=Tryz.isAgg21
 z21:=Tryz.sizeOf21
 v21:=Tryz.zeroValue21
 t46:=Tryz.underlying203
 a46:=Tryz.isAgg203
 z46:=Tryz.sizeOf203
 v46:=Tryz.zeroValue203
 t105:=Tryz.underlying279
 a105:=Tryz.isAgg279
 z105:=Tryz.sizeOf279
 v105:=Tryz.zeroValue279
 t116:=Tryz.underlying253
 a116:=Tryz.isAgg253
 z116:=Tryz.sizeOf253
 t117:=Tryz.underlying254
 a117:=Tryz.isAgg254
 z117:=Tryz.sizeOf254
 v117:=Tryz.zeroValue254
 t119:=Tryz.underlying291
 a119:=Tryz.isAgg291
 z119:=Tryz.sizeOf291
 t124:=Tryz.underlying257
 a124:=Tryz.isAgg257
 z124:=Tryz.sizeOf257
 v124:=Tryz.zeroValue257
 t138:=Tryz.underlying293
 a138:=Tryz.isAgg293
 z138:=Tryz.sizeOf293
 v138:=Tryz.zeroValue293
 t139:=Tryz.underlying294
 a139:=Tryz.isAgg294
 z139:=Tryz.sizeOf294
 v139:=Tryz.zeroValue294
 g3:=by kernel_rfl
 g4:=by kernel_rfl }
end Go.Proofs
namespace Go.Proofs.YtpnbklgbfhgknaaGreatDoor
open Go Go.RowKit Eng
def Wz (w:World):Prop:=TabAt 1 Lib.deBruijn64tab w
abbrev FZ (f:Nat) (args:List C) (r:C):Prop:=Z6 Tryz.prog Wz f args r
namespace Eng
def Tz (E:Ctx):Prop:=Wz E.w0/\¬ E.own0 1
theorem c2T {w:World} (h:Wz w):1 < w.heap.size:=by
 have:=h 0 (by decide);exact block_lt_of_cell this
theorem Tz.at {E:Ctx} (h:Tz E) {w:World} (hF:Frm E.own0 E.w0 w):Wz w:=by
 intro j hj;rw [<- h.1 j hj];exact World.cell?_of_block (hF.block _ (c2T h.1) h.2)
section
variable {E:Ctx} {rs:List Res} {f:Nat} {args args':List C} {r:C}
theorem S9.c3n {p:Bool} (ht:Tz E) (hs:p=true->Z6 E.P Wz f args' r) (hi:p=true->j3 rs rs args args') (hcl:p=true->C.clL args'=true):S9 E rs p f args r:=by
 intro hp av ν w vs hR hav hF hD;have hlt:∀ b,OO av rs ν b->b < w.heap.size:=fun b hb=>by
  rcases hb with hb|hb
  ·exact hR.av b hb
  ·exact (hR.low b hb).1
 have hD':=(hi hp).den hR (Cut.of hR (a3R rs)) hD;have et:ν.take rs.length=ν:=by rw [<- hR.len];exact c8J
 rw [et] at hD';refine (hs hp (OO av rs ν) w vs (ht.at hF) hlt (hD'.fz (hcl hp))).mono ?_;rintro e w' ⟨y,rfl,h1,h2⟩;exact ⟨y,rfl,h1,h2.den ν⟩
theorem S9.c6O {p:Bool} (ht:Tz E) (hs:p=true->Z6 E.P Wz f args' r) (hi:p=true->j3 rs [] args args') (hcl:p=true->C.clL args'=true) (hr:r.flat=true):S9 E rs p f args r:=by
 intro hp av ν w vs hR hav hF hD;have hC:Cut av rs [] ν:=Cut.of hR (by simp [U1]);have hD':=(hi hp).den hR hC hD;have hlt:∀ b,OO av [] (ν.take ([]:List Res).length) b->b < w.heap.size:=fun b hb=>by
  rcases hC.sub b hb with hb|hb
  ·exact hR.av b hb
  ·exact (hR.low b hb).1
 refine (hs hp _ w vs (ht.at hF) hlt (hD'.fz (hcl hp))).mono ?_;rintro e w' ⟨y,rfl,h1,h2⟩;exact ⟨y,rfl,h1,Fz.flat hr h2⟩
variable {g q:Prop} {p:Bool} {a a':List C}
theorem uD {P:Program} (hs:Z6 P Wz f a' r) [h:By g E rs p f a r q] (ht:Tz E) (e:(E.P,a,(C.bdL rs.length a && C.clL a))=(P,a',true)) (x:q):g:=by
 injection e with e1 e2;injection e2 with e2 e3;rw [c8F] at e3;subst e1 e2;exact h.go (S9.c3n ht (fun _=>hs) (fun _=>j3.refl e3.1) (fun _=>e3.2)) x
theorem uE {P:Program} (hs:Z6 P Wz f a' r) [h:By g E rs p f a r q] (ht:Tz E) (e:(E.P,C.clL a',r.flat)=(P,true,true)) (hi:j3 rs [] a a') (x:q):g:=by
 injection e with e1 e2;injection e2 with e2 e3;subst e1;exact h.go (S9.c6O ht (fun _=>hs) (fun _=>hi) (fun _=>e2) e3) x
theorem uG {P:Program} (hs:Z6 P Wz f a' r) {st:St} {ok:Prop} {d:Option Nat} {K:St->Prop} (x:ok/\KPg st false d K r):a1f E st false f a ok d K:=
 .inr ⟨x.1,.inr (.inr ⟨r,(fun h=>absurd h (by decide)),x.2⟩)⟩
end
theorem tz {P:Program} {eff:Nat->Bool} {N:Nat} {w:World} {O:Nat->Prop} (hw:Wz w):Tz ⟨P,eff,N,w,fun _=>False,O,[],[]⟩:=⟨hw,fun h=>h⟩
end Eng
theorem c5K {x:Nat} (h0:x ≠ 0) (h:x < 18446744073709551616):Lib.ctz 64 x=Nm.v2 x:=by
 unfold Lib.ctz;rw [if_neg h0];obtain ⟨m,h1,_⟩:=Lib.ctzFrom_spec 64 x (by omega) h;exact (Nm.c3o h1 (by omega)).symm
theorem c7D (x:Nat) (h0:x ≠ 0) (h:x < 18446744073709551616):FZ 241 [.v (.int .u64 (x:Int))] (.v (.int .i64 (Nm.v2 x:Int))):=by
 intro O w vs hw hO hA;simp only [FzL,Fz] at hA;obtain ⟨y,ys,rfl,rfl,rfl⟩:=hA;refine (Tryz.bits_TrailingZeros64 x h w (fun _=>hw)).mono ?_;rintro e w' ⟨rfl,rfl⟩;exact ⟨_,rfl,Below.refl _ _,by simp only [Fz,c5K h0 h]⟩
set_option maxRecDepth 10000
set_option maxHeartbeats 4000000
def ls (l:List Nat):List (List C):=l.map lm
theorem G9 (l:List Nat):(ls l).length=l.length:=by simp [ls]
theorem O5 (l:List Nat) (i:Nat):(ls l)[i]?=(l[i]?).map lm:=by simp [ls]
theorem a2d (l:List Nat) (i v:Nat):(ls l).set i [.v (.int .u64 (v:Int))]=ls (l.set i v):=by
 simp only [ls,List.map_set,lm]
theorem c2e (n:Nat):List.replicate n [C.v (.int .u64 0)]=ls (List.replicate n 0):=by simp [ls,lm]
theorem c7k (n:Nat) (h:n<=1099511627776):IntKind.i64.wrap (((n:Int)+7).tdiv 8)=(((n+7) / 8:Nat):Int):=by
 have:((n:Int)+7).tdiv 8=(((n+7) / 8:Nat):Int):=rfl;rw [this,Eng.wrap_i64 (by omega)]
theorem c3a (i:Nat) (h:i<=1099511627776):IntKind.i64.wrap ((i:Int).tdiv 8)=((i / 8:Nat):Int):=by
 have:(i:Int).tdiv 8=((i / 8:Nat):Int):=rfl;rw [this,Eng.wrap_i64 (by omega)]
theorem b3w (i:Nat):(i:Int).tmod 8=((i % 8:Nat):Int):=rfl
theorem c0D (o:Nat) (b:UInt8) (i:Nat) (ho:o < 18446744073709551616) (hb:b.toNat*2 ^ (8*(i % 8)) < 18446744073709551616) :
  bits .or .u64 (o:Int) (IntKind.u64.wrap (IntKind.u64.wrap ((b.toNat:Nat):Int)*2 ^ min (((i % 8:Nat):Int)*8).toNat 64))=((o ||| b.toNat*2 ^ (8*(i % 8)):Nat):Int):=by
 have h0:=b.toNat_lt;rw [Eng.wrap_u64 (n:=((b.toNat:Nat):Int)) (by omega),show min (((i % 8:Nat):Int)*8).toNat 64=8*(i % 8) by omega];have e:((b.toNat:Nat):Int)*2 ^ (8*(i % 8))=((b.toNat*2 ^ (8*(i % 8)):Nat):Int):=by rw [Int.natCast_mul,Int.natCast_pow];rfl
 rw [e,Eng.wrap_u64 (by omega),a9P _ _ ho hb]
namespace Nm
def O0 (l:List Nat):Prop:=∀ w ∈ l,w < 18446744073709551616
theorem O0.take {l:List Nat} (h:O0 l) (n:Nat):O0 (l.take n):=fun w hw=>h w (List.mem_of_mem_take hw)
theorem O0.drop {l:List Nat} (h:O0 l) (n:Nat):O0 (l.drop n):=fun w hw=>h w (List.mem_of_mem_drop hw)
def U3 (l:List UInt8):List Nat:=dig 18446744073709551616 ((l.length+7) / 8) (val l)
theorem a9b (l:List UInt8):(U3 l).length=(l.length+7) / 8:=J9 _ _ _
theorem b0n (l:List UInt8):O0 (U3 l):=a1M (by decide) _ _
theorem b0q (l:List UInt8):wv 18446744073709551616 (U3 l)=val l:=Y4 (by
 refine c8U (a0q l) ?_;rw [show (18446744073709551616:Nat)=256 ^ 8 by decide,<- Nat.pow_mul];exact c8Y (by decide) (by omega))
theorem b0L {l:List UInt8} {out:List Nat} (h:a3m l l.length out):out=U3 l:=by
 obtain ⟨h1,h2,h3,_⟩:=h;exact Y7 (by decide) h2 h1 (by rw [h3,Nat.sub_self,List.drop_zero])
end Nm
theorem b6E (m:List UInt8) (hm:m.length<=1099511627776):FNew Tryz.prog 215 [sb m] 213 1 (ls (Nm.U3 m)):=by
 refine FNew.of (eff:=eff) Tryz.func215 (by cbv) (by exact c8G rfl) fun w O=>?_;simp only [j4,TT,II,OA,OB,MM,VV,sb];(repeat first|refine uA ?_|(apply uK;· omega)|simp only [go_sem,Nat.reduceBEq,Nat.reduceAdd,F5]|simp (disch:=omega) only [ww,c7k m.length hm]);refine S.loop (X:=Nat × List Nat) (fun x=>⟨[(0,sb m),(3,.rv 0),(11,ints m.length),(12,ints x.1)],[.row 213 1 (ls x.2)]⟩) (fun x=>x.1<=m.length/\Nm.a3m m x.1 x.2) (fun x=>m.length-x.1) (0,List.replicate ((m.length+7) / 8) 0) ⟨c8w _,Nm.b0A m⟩ (by simp only [<- c2e];exact (by repeat first|refine uA ?_|(refine ⟨?_,?_⟩;· first|rfl|trivial|(simp [slot];done))|rfl|trivial|simp)) ?_;rintro ⟨i,out⟩ ⟨hi,hinv⟩;simp only [sb,ints] at hi hinv ⊢
 (repeat first|refine uA ?_|(apply uK;· omega)|simp (disch:=omega) only [go_sem,Nat.reduceBEq]);(refine uJ rfl (fun hc=>?_) fun hc=>?_)
 ·have hi':i < m.length:=by omega
  have hol:=hinv.1;have hj:i / 8 < out.length:=by omega
  obtain ⟨hst,hlt,hbl⟩:=Nm.b0j hinv hi' hj;have hgo:out[i / 8]?=some out[i / 8]:=c8q hj;have ho32:=hinv.2.1 _ (c8L hj);have hgm:m.getD ((m.length:Int)-1-(i:Int)).toNat 0=m[m.length-1-i]:=by
   rw [show ((m.length:Int)-1-(i:Int)).toNat=m.length-1-i by omega,c8C,c8q (by omega)];rfl
  (repeat first|refine uA ?_|(apply uK;· omega)|simp only [go_sem,Nat.reduceBEq,Nat.reduceAdd,Nat.reduceLeDiff,F5,a0l,G9,O5,hgo,c8s,c3a i (by omega),b3w,lm]|simp (disch:=omega) only [ww,hgm,c0D _ _ _ ho32 hbl,a2d]);refine S.next (x:=(i,out)) (i+1,_) ⟨hi',hst⟩ (by simp only;omega) (by repeat first|refine uA ?_|(refine ⟨?_,?_⟩;· first|rfl|trivial|(simp [slot];done))|rfl|trivial|simp)
 ·have hi':i=m.length:=by omega
  subst hi';(repeat first|refine uA ?_|(apply uK;· omega)|simp (disch:=omega) only [go_sem,Nat.reduceBEq]);rw [<- Nm.b0L hinv];exact S.done (p8.new rfl rfl rfl)
theorem b3u (x y:Nat) (hx:x < 18446744073709551616) (hy:y < 18446744073709551616):u7 Tryz.prog 181 [.v (.int .u64 (x:Int)),.v (.int .u64 (y:Int))] (.v (.int .u64 (Nat.gcd x y:Int))):=by
 refine kS Tryz.func181 (by cbv) (by rfl) fun w O=>?_;simp only [j4,TT,OA,MM];(repeat first|refine uA ?_|(apply uK;· omega)|simp (disch:=omega) only [go_sem]);refine S.loop (X:=Nat × Nat) (fun s=>⟨[(0,.v (.int .u64 (s.1:Int))),(1,.v (.int .u64 (s.2:Int)))],[]⟩) (fun s=>Nat.gcd s.1 s.2=Nat.gcd x y/\s.2 < 18446744073709551616) (fun s=>s.2) (x,y) ⟨rfl,hy⟩ (by repeat first|refine uA ?_|(refine ⟨?_,?_⟩;· first|rfl|trivial|(simp [slot];done))|rfl|trivial|simp) ?_;rintro ⟨a,b⟩ ⟨h1,h2⟩;simp only at h1 h2 ⊢;(repeat first|refine uA ?_|(apply uK;· omega)|simp (disch:=omega) only [go_sem,Nat.reduceBEq]);(refine uJ rfl (fun hc=>?_) fun hc=>?_)
 ·have hr:Int.tmod (a:Int) (b:Int)=((a % b:Nat):Int):=rfl;have hlt:a % b < b:=Nat.mod_lt _ (by omega);(repeat first|refine uA ?_|(apply uK;· omega)|simp only [go_sem,Nat.reduceBEq,hr]|simp (disch:=omega) only [ww,hr]);refine S.next (x:=(a,b)) (b,a % b) ⟨by rw [<- h1];simp only;rw [Nat.gcd_comm b,<- Nat.gcd_rec,Nat.gcd_comm],by simp only;omega⟩ (by simp only;omega) (by repeat first|refine uA ?_|(refine ⟨?_,?_⟩;· first|rfl|trivial|(simp [slot];done))|rfl|trivial|simp)
 ·have hb:b=0:=by omega
  subst hb;rw [Nat.gcd_zero_right] at h1;rw [<- h1];(repeat first|refine uA ?_|(apply uK;· omega)|simp (disch:=omega) only [go_sem,Nat.reduceBEq]);exact uS rfl rfl
theorem c4T (x y:List Nat) (hxl:x.length<=274877906944) (hyl:y.length<=274877906944) (hx:Nm.O0 x) (hy:Nm.O0 y) (hxc:∀ h:x ≠ [],x.getLast h ≠ 0) (hyc:∀ h:y ≠ [],y.getLast h ≠ 0) :
 u7 Tryz.prog 218 [.sl 1 (ls x),.sl 1 (ls y)] (.v (.bool (decide (Nm.wv 18446744073709551616 x < Nm.wv 18446744073709551616 y)))):=by
 have top:∀ {a b:List Nat},Nm.O0 a->(∀ h:b ≠ [],b.getLast h ≠ 0)->a.length < b.length->Nm.wv 18446744073709551616 a < Nm.wv 18446744073709551616 b:=by
  intro a b ha hb hl;have hne:b ≠ []:=fun h=>by subst h;simp at hl
  have h1:=Nm.b4Q (B:=18446744073709551616) (l:=b.dropLast) (hb hne);rw [List.dropLast_concat_getLast hne,List.length_dropLast] at h1;have h2:=Nm.M9 18446744073709551616 ha;have h3:18446744073709551616 ^ a.length<=18446744073709551616 ^ (b.length-1):=c8Y (by decide) (by omega);omega
 refine kS Tryz.func218 (by cbv) (by rfl) fun w O=>?_;simp only [j4,TT,II,OA,MM,VV];(repeat first|refine uA ?_|(apply uK;· omega)|simp only [go_sem,Nat.reduceBEq,Nat.reduceAdd,G9]|simp (disch:=omega) only [ww,G9]);(refine uJ rfl (fun hc=>?_) fun hc=>?_)
 ·have he:decide (Nm.wv 18446744073709551616 x < Nm.wv 18446744073709551616 y)=decide ((x.length:Int) < (y.length:Int)):=by
   rw [decide_eq_decide];constructor
   ·intro h;rcases Nat.lt_trichotomy x.length y.length with h1|h1|h1
    ·omega
    ·omega
    ·have:=top hy hxc h1;omega
   ·intro h;exact top hx hyc (by omega)
  rw [he];(repeat first|refine uA ?_|(apply uK;· omega)|simp only [go_sem,Nat.reduceBEq,G9]|simp (disch:=omega) only [ww,G9]);exact uS rfl rfl
 ·have hl:x.length=y.length:=by omega
  (repeat first|refine uA ?_|(apply uK;· omega)|simp only [go_sem,Nat.reduceBEq,G9]|simp (disch:=omega) only [ww]);refine S.loop (X:=Nat) (fun j=>⟨[(0,.sl 1 (ls x)),(1,.sl 1 (ls y)),(5,ints ((j:Int)-1))],[]⟩) (fun j=>j<=x.length/\x.drop j=y.drop j) (fun j=>j) x.length ⟨c8B _,by rw [List.drop_of_length_le (c8B _),List.drop_of_length_le (by omega)]⟩ (by repeat first|refine uA ?_|(refine ⟨?_,?_⟩;· first|rfl|trivial|(simp [slot];done))|rfl|trivial|simp) ?_;rintro j ⟨hj,hd⟩;simp only [ints];(repeat first|refine uA ?_|(apply uK;· omega)|simp (disch:=omega) only [go_sem,Nat.reduceBEq]);(refine uJ rfl (fun hc=>?_) fun hc=>?_)
  ·obtain ⟨k,rfl⟩:∃ k,j=k+1:=⟨j-1,by omega⟩
   rw [show (((k+1:Nat):Int)-1)=(k:Int) by omega];have hgx:x[k]?=some (x[k]'(by omega)):=c8q (by omega);have hgy:y[k]?=some (y[k]'(by omega)):=c8q (by omega);have hsx:=Nm.a3A 18446744073709551616 x k (by omega);have hsy:=Nm.a3A 18446744073709551616 y k (by omega);have hdx:x.drop k=x[k]'(by omega)::x.drop (k+1):=List.drop_eq_getElem_cons (by omega);have hdy:y.drop k=y[k]'(by omega)::y.drop (k+1):=List.drop_eq_getElem_cons (by omega);generalize x[k]'(by omega)=xk at *;generalize y[k]'(by omega)=yk at *;rw [hdx] at hsx;rw [hdy,<- hd] at hsy;simp only [Nm.wv] at hsx hsy;generalize Nm.wv 18446744073709551616 (x.drop (k+1))=T at *;have hlx:=Nm.M9 18446744073709551616 (hx.take k)
   have hly:=Nm.M9 18446744073709551616 (hy.take k);rw [c8E,Nat.min_eq_left (by omega)] at hlx hly;rw [Nat.mul_add] at hsx hsy;(repeat first|refine uA ?_|(apply uK;· omega)|simp only [go_sem,Nat.reduceBEq,G9,O5,hgx,hgy,c8s,lm]|simp (disch:=omega) only [ww,G9,O5,hgx,hgy,c8s,lm]);(refine uJ rfl (fun hc=>?_) fun hc=>?_)
   ·have he:decide (Nm.wv 18446744073709551616 x < Nm.wv 18446744073709551616 y)=decide ((xk:Int) < (yk:Int)):=by
     rw [decide_eq_decide];rcases Nat.lt_trichotomy xk yk with h|h|h
     ·have:=Nat.mul_le_mul_left (18446744073709551616 ^ k) h;rw [Nat.mul_succ] at this;omega
     ·omega
     ·have:=Nat.mul_le_mul_left (18446744073709551616 ^ k) h;rw [Nat.mul_succ] at this;omega
    rw [he];(repeat first|refine uA ?_|(apply uK;· omega)|simp only [go_sem,Nat.reduceBEq,G9,O5,hgx,hgy,c8s,lm]|simp (disch:=omega) only [ww,G9,O5,hgx,hgy,c8s,lm]);exact uS rfl rfl
   ·have:xk=yk:=by omega
    (repeat first|refine uA ?_|(apply uK;· omega)|simp (disch:=omega) only [go_sem,Nat.reduceBEq,ww]);refine S.next (x:=k+1) k ⟨by omega,by rw [hdx,hdy,this,hd]⟩ (by omega) (by repeat first|refine uA ?_|(refine ⟨?_,?_⟩;· first|rfl|trivial|(simp [slot];done))|rfl|trivial|simp)
  ·have hj0:j=0:=by omega
   subst hj0;rw [List.drop_zero,List.drop_zero] at hd;rw [hd];have he:decide (Nm.wv 18446744073709551616 y < Nm.wv 18446744073709551616 y)=false:=by simp
   rw [he];(repeat first|refine uA ?_|(apply uK;· omega)|simp (disch:=omega) only [go_sem]);exact uS rfl rfl
theorem c4h {x n:Nat} {T:Nat} (h0:x ≠ 0) (h:x < 18446744073709551616):Nm.v2 (18446744073709551616 ^ n*(x+18446744073709551616*T))=64*n+Nm.v2 x:=by
 obtain ⟨q,h1,h2⟩:=Nm.a3F h0;have hk:Nm.v2 x < 64:=by
  rcases c8N (Nm.v2 x) 64 with h3|h3
  ·exact h3
  ·exfalso;have h4:2 ^ 64<=2 ^ Nm.v2 x:=c8Y (by decide) h3;have h5:2 ^ Nm.v2 x<=2 ^ Nm.v2 x*q:=Nat.le_mul_of_pos_right _ (by omega);omega
 refine Nm.c3o (q:=q+2 ^ (64-Nm.v2 x)*T) ?_ ?_
 ·have e1:(18446744073709551616:Nat)=2 ^ Nm.v2 x*2 ^ (64-Nm.v2 x):=by rw [<- Nat.pow_add,show Nm.v2 x+(64-Nm.v2 x)=64 by omega]
  have e2:(18446744073709551616:Nat) ^ n=2 ^ (64*n):=by rw [Nat.pow_mul]
  rw [e2,Nat.pow_add,c9a];congr 1
  conv=>lhs;rw [h1]
  rw [Nat.mul_add,<- c9a (2 ^ Nm.v2 x),<- e1]
 ·have e3:2 ^ (64-Nm.v2 x)=2*2 ^ (64-Nm.v2 x-1):=by rw [<- Nat.pow_succ'];congr 1;omega
  rw [e3,c9a];omega
theorem a8A (x:List Nat) (hxl:x.length<=274877906944) (hx:Nm.O0 x) (h0:Nm.wv 18446744073709551616 x ≠ 0):FZ 216 [.sl 1 (ls x)] (ints (Nm.v2 (Nm.wv 18446744073709551616 x))):=by
 refine kW Tryz.func216 (by cbv) (by rfl) fun w O hw=>?_;simp only [j4,TT,II,OA,MM,VV,ints];(repeat first|refine uA ?_|(apply uK;· omega)|simp (disch:=omega) only [go_sem]);refine S.loop (X:=Nat) (fun n=>⟨[(0,.sl 1 (ls x)),(3,ints n)],[]⟩) (fun n=>n<=x.length/\Nm.wv 18446744073709551616 x=18446744073709551616 ^ n*Nm.wv 18446744073709551616 (x.drop n)) (fun n=>x.length-n) 0 ⟨c8w _,by simp⟩ (by repeat first|refine uA ?_|(refine ⟨?_,?_⟩;· first|rfl|trivial|(simp [slot];done))|rfl|trivial|simp) ?_;rintro n ⟨hn,hv⟩;simp only [ints];have hn':n < x.length:=by
  rcases c8N n x.length with h|h
  ·exact h
  ·rw [List.drop_of_length_le h] at hv;simp [Nm.wv] at hv;exact absurd hv h0
 have hgx:x[n]?=some (x[n]'hn'):=c8q hn';have hd:x.drop n=x[n]'hn'::x.drop (n+1):=List.drop_eq_getElem_cons hn';have hx64:=hx _ (c8L hn');generalize x[n]'hn'=xn at *;rw [hd] at hv;simp only [Nm.wv] at hv;(repeat first|refine uA ?_|(apply uK;· omega)|simp only [go_sem,Nat.reduceBEq,G9,O5,hgx,c8s,lm]|simp (disch:=omega) only [ww,G9,O5,hgx,c8s,lm]);(refine uJ rfl (fun hc=>?_) fun hc=>?_)
 ·have hz:xn=0:=by omega
  subst hz;(repeat first|refine uA ?_|(apply uK;· omega)|simp (disch:=omega) only [go_sem,Nat.reduceBEq,ww]);refine S.next (x:=n) (n+1) ⟨hn',by rw [hv,c8Z,<- c9a,c9c]⟩ (by omega) (by repeat first|refine uA ?_|(refine ⟨?_,?_⟩;· first|rfl|trivial|(simp [slot];done))|rfl|trivial|simp)
 ·have hz:xn ≠ 0:=by omega
  have he:=c4h (n:=n) (T:=Nm.wv 18446744073709551616 (x.drop (n+1))) hz hx64;rw [<- hv] at he;rw [he];have htz:=c7D xn hz hx64;have hk:Nm.v2 xn < 64:=by
   obtain ⟨q,h1,h2⟩:=Nm.a3F hz;rcases c8N (Nm.v2 xn) 64 with h3|h3
   ·exact h3
   ·exfalso;have h4:2 ^ 64<=2 ^ Nm.v2 xn:=c8Y (by decide) h3;have h5:2 ^ Nm.v2 xn<=2 ^ Nm.v2 xn*q:=Nat.le_mul_of_pos_right _ (by omega);omega
  have hcast:((64*n+Nm.v2 xn:Nat):Int)=64*(n:Int)+(Nm.v2 xn:Int):=by omega
  rw [hcast];generalize Nm.v2 xn=k at *;(repeat first|refine uA ?_|(apply uK;· omega)|simp only [go_sem,Nat.reduceBEq,G9,O5,hgx,c8s,lm]|simp (disch:=omega) only [ww]|(apply uD htz;exact tz hw;rfl));exact uS rfl rfl
namespace Nm
def I4 (l:List Nat):List Nat:=(l.reverse.dropWhile (· == 0)).reverse
theorem a7m (l:List Nat):I4 (l++[0])=I4 l:=by simp [I4]
theorem a4I {l:List Nat} {x:Nat} (h:x ≠ 0):I4 (l++[x])=l++[x]:=by simp [I4,h]
theorem a7D:I4 []=[]:=rfl
theorem a5J (l:List Nat):I4 l=l.take (I4 l).length/\(I4 l).length<=l.length/\(∀ B,wv B (I4 l)=wv B l)/\(∀ h:I4 l ≠ [],(I4 l).getLast h ≠ 0):=by
 obtain ⟨r,rfl⟩:∃ r,l=r.reverse:=⟨l.reverse,by simp⟩
 induction r with
 | nil=>simp [a7D]
 | cons x r ih=>
  rw [List.reverse_cons];by_cases hx:x=0
  ·subst hx;rw [a7m];obtain ⟨h1,h2,h3,h4⟩:=ih;refine ⟨?_,by rw [c8A];omega,fun B=>?_,h4⟩
   ·rw [List.take_append_of_le_length h2];exact h1
   ·rw [h3,a8q];simp
  ·rw [a4I hx];refine ⟨by rw [c8J],c8B _,fun B=>rfl,fun h=>?_⟩;rw [List.getLast_concat];exact hx
theorem b9L (l:List Nat):(I4 l).length<=l.length:=(a5J l).2.1
theorem c0M (B:Nat) (l:List Nat):wv B (I4 l)=wv B l:=(a5J l).2.2.1 B
theorem b6V (l:List Nat):l.take (I4 l).length=I4 l:=(a5J l).1.symm
theorem b0G (l:List Nat) (h:I4 l ≠ []):(I4 l).getLast h ≠ 0:=(a5J l).2.2.2 h
end Nm
def rw2 (s:Bool) (u o:List Nat):List Res:=match s with
 | true=>[.row 213 1 (ls u),.row 213 1 (ls o)]
 | false=>[.row 213 1 (ls o),.row 213 1 (ls u)]
section
variable {rs rs' l:List Res} {u o:List Nat} {r:Res}
instance :Sb (D9 rs rs' (rw2 true u o) l) (D9 rs rs' [.row 213 1 (ls u),.row 213 1 (ls o)] l):=⟨id⟩
instance :Sb (D9 rs rs' (rw2 false u o) l) (D9 rs rs' [.row 213 1 (ls o),.row 213 1 (ls u)] l):=⟨id⟩
instance :Sb (D9 rs rs' (r::l) (rw2 true u o)) (D9 rs rs' (r::l) [.row 213 1 (ls u),.row 213 1 (ls o)]):=⟨id⟩
instance :Sb (D9 rs rs' (r::l) (rw2 false u o)) (D9 rs rs' (r::l) [.row 213 1 (ls o),.row 213 1 (ls u)]):=⟨id⟩
end
def kx (s:Bool):Nat:=match s with
 | true=>0
 | false=>1
theorem a8u {E:Ctx} (hP:E.P=Tryz.prog) (s:Bool) (u o:List Nat) (lo n:Nat) (hl:u.length<=274877906944) (hn:lo+n<=u.length) (hlo:lo < u.length) :
 l7 E (rw2 s u o) 242 [.wv (kx s) 1 lo n] (.wv (kx s) 1 lo (Nm.I4 ((u.drop lo).take n)).length) (rw2 s u o) []:=by
 obtain ⟨P,eff',N,w0,own0,av0,nu0,pk0⟩:=E;simp only at hP;subst hP;cases s
 all_goals
  refine l7.of (eff:=eff) Tryz.func242 (by cbv) (by exact c8G rfl) fun w own av ν hν=>?_;simp only [j4,TT,II,OA,OC,MM,MG,VG,rw2,kx];have hν0:ν.length<=2:=by rw [hν];exact c8B _
  (repeat first|refine uA ?_|(apply uK;· omega)|simp (disch:=omega) only [go_sem])
 ·refine S.loop (X:=Nat) (fun m=>⟨[(0,.wv 1 1 lo m)],[.row 213 1 (ls o),.row 213 1 (ls u)]⟩) (fun m=>m<=n/\Nm.I4 ((u.drop lo).take m)=Nm.I4 ((u.drop lo).take n)) (fun m=>m) n ⟨c8B _,rfl⟩ (Ent.mk _ _ (by repeat first|refine uA ?_|(refine ⟨?_,?_⟩;· first|rfl|simp [slot])|rfl|simp) (by repeat first|refine uA ?_|(refine ⟨?_,?_⟩;· first|rfl|simp [slot])|rfl|simp) hν0) ?_;rintro m ⟨hm,ht⟩;have hq:lo+((m:Int)-1).toNat < u.length:=by omega
  have hg:u[lo+((m:Int)-1).toNat]?=some (u[lo+((m:Int)-1).toNat]'hq):=c8q hq;have hsn:0 < m->(u.drop lo).take m=(u.drop lo).take (m-1)++[u[lo+((m:Int)-1).toNat]'hq]:=fun h=>by
   have e1:(u.drop lo)[m-1]?=some (u[lo+((m:Int)-1).toNat]'hq):=by
    rw [c9e,<- hg];congr 1;omega
   conv=>lhs;rw [show m=m-1+1 by omega,List.take_add_one,e1]
   rfl
  generalize u[lo+((m:Int)-1).toNat]'hq=c at *;(repeat first|refine uA ?_|(apply uK;· first|omega|(intros;simp_all<;>omega))|simp (disch:=omega) only [go_sem,Nat.reduceBEq,ww,G9,O5,hg,c8s,lm]);(refine uJ rfl (fun hc=>?_) fun hc=>?_)
  ·obtain ⟨h0,h1⟩:=hc;have hc0:c=0:=by omega
   have hm1:((m:Int)-1)=((m-1:Nat):Int):=by omega
   rw [hsn (by omega),hc0,Nm.a7m] at ht;have hm2:((m:Int)-1).toNat=m-1:=by omega
   (repeat first|refine uA ?_|(apply uK;· omega)|simp (disch:=omega) only [go_sem,Nat.reduceBEq,ww,hm2,Nat.add_zero,Nat.sub_zero,Int.toNat_zero]);refine S.next (x:=m) (m-1) ⟨by omega,ht⟩ (by omega) (Ent.mk _ _ (by repeat first|refine uA ?_|(refine ⟨?_,?_⟩;· first|rfl|simp [slot])|rfl|simp) (by repeat first|refine uA ?_|(refine ⟨?_,?_⟩;· first|rfl|simp [slot])|rfl|simp) hν0)
  ·have hmt:(Nm.I4 ((u.drop lo).take n)).length=m:=by
    rw [<- ht];rcases c8Q m with h0|h0
    ·subst h0;simp [Nm.a7D]
    ·have hcn:c ≠ 0:=by omega
     rw [hsn h0,Nm.a4I hcn,c8A,c8E,c9g,List.length_singleton];omega
   rw [hmt];(repeat first|refine uA ?_|(apply uK;· omega)|simp (disch:=omega) only [go_sem,Nat.reduceBEq]);exact S.done (p8.own rfl)
 ·refine S.loop (X:=Nat) (fun m=>⟨[(0,.wv 0 1 lo m)],[.row 213 1 (ls u),.row 213 1 (ls o)]⟩) (fun m=>m<=n/\Nm.I4 ((u.drop lo).take m)=Nm.I4 ((u.drop lo).take n)) (fun m=>m) n ⟨c8B _,rfl⟩ (Ent.mk _ _ (by repeat first|refine uA ?_|(refine ⟨?_,?_⟩;· first|rfl|simp [slot])|rfl|simp) (by repeat first|refine uA ?_|(refine ⟨?_,?_⟩;· first|rfl|simp [slot])|rfl|simp) hν0) ?_;rintro m ⟨hm,ht⟩;have hq:lo+((m:Int)-1).toNat < u.length:=by omega
  have hg:u[lo+((m:Int)-1).toNat]?=some (u[lo+((m:Int)-1).toNat]'hq):=c8q hq;have hsn:0 < m->(u.drop lo).take m=(u.drop lo).take (m-1)++[u[lo+((m:Int)-1).toNat]'hq]:=fun h=>by
   have e1:(u.drop lo)[m-1]?=some (u[lo+((m:Int)-1).toNat]'hq):=by
    rw [c9e,<- hg];congr 1;omega
   conv=>lhs;rw [show m=m-1+1 by omega,List.take_add_one,e1]
   rfl
  generalize u[lo+((m:Int)-1).toNat]'hq=c at *;(repeat first|refine uA ?_|(apply uK;· first|omega|(intros;simp_all<;>omega))|simp (disch:=omega) only [go_sem,Nat.reduceBEq,ww,G9,O5,hg,c8s,lm]);(refine uJ rfl (fun hc=>?_) fun hc=>?_)
  ·obtain ⟨h0,h1⟩:=hc;have hc0:c=0:=by omega
   have hm1:((m:Int)-1)=((m-1:Nat):Int):=by omega
   rw [hsn (by omega),hc0,Nm.a7m] at ht;have hm2:((m:Int)-1).toNat=m-1:=by omega
   (repeat first|refine uA ?_|(apply uK;· omega)|simp (disch:=omega) only [go_sem,Nat.reduceBEq,ww,hm2,Nat.add_zero,Nat.sub_zero,Int.toNat_zero]);refine S.next (x:=m) (m-1) ⟨by omega,ht⟩ (by omega) (Ent.mk _ _ (by repeat first|refine uA ?_|(refine ⟨?_,?_⟩;· first|rfl|simp [slot])|rfl|simp) (by repeat first|refine uA ?_|(refine ⟨?_,?_⟩;· first|rfl|simp [slot])|rfl|simp) hν0)
  ·have hmt:(Nm.I4 ((u.drop lo).take n)).length=m:=by
    rw [<- ht];rcases c8Q m with h0|h0
    ·subst h0;simp [Nm.a7D]
    ·have hcn:c ≠ 0:=by omega
     rw [hsn h0,Nm.a4I hcn,c8A,c8E,c9g,List.length_singleton];omega
   rw [hmt];(repeat first|refine uA ?_|(apply uK;· omega)|simp (disch:=omega) only [go_sem,Nat.reduceBEq]);exact S.done (p8.own rfl)
theorem c4x {E:Ctx} (hP:E.P=Tryz.prog) (s:Bool) (u o:List Nat) (lo n lo2 n2:Nat) (hl:u.length<=274877906944) (hlo2:o.length<=274877906944) (hn:lo+n<=u.length) (hlo:lo < u.length) (hn2:lo2+n2<=o.length) (hnn:n2<=n)
  (hu:Nm.O0 u) (ho:Nm.O0 o) {X Y:Nat} (hX:X=Nm.wv 18446744073709551616 ((u.drop lo).take n)) (hY:Y=Nm.wv 18446744073709551616 ((o.drop lo2).take n2)) (hle:Y<=X) :
  l7 E (rw2 s u o) 219 [.wv (kx s) 1 lo n,.wv (kx !s) 1 lo2 n2] (.wv (kx s) 1 lo (Nm.I4 (Nm.dig 18446744073709551616 n (X-Y))).length) (rw2 s (put u lo (Nm.dig 18446744073709551616 n (X-Y))) o) []:=by
 obtain ⟨P,eff',N,w0,own0,av0,nu0,pk0⟩:=E;simp only at hP;subst hP;have hul:((u.drop lo).take n).length=n:=by rw [c8E,c9g];omega
 have hol2:((o.drop lo2).take n2).length=n2:=by rw [c8E,c9g];omega
 have hua:Nm.O0 ((u.drop lo).take n):=(hu.drop lo).take _;have hoa:Nm.O0 ((o.drop lo2).take n2):=(ho.drop lo2).take _;have hps:put u lo ((u.drop lo).take n)=u:=a4Z hn;have hgo2:∀ i,i < n2->o[lo2+i]?=((o.drop lo2).take n2)[i]?:=fun i hi=>by rw [List.getElem?_take_of_lt hi,c9e]
 generalize (u.drop lo).take n=x at *;generalize (o.drop lo2).take n2=y at *;cases s
 all_goals
  refine l7.of (eff:=eff) Tryz.func219 (by cbv) (by exact c8G rfl) fun w own av ν hν=>?_;simp only [j4,TT,II,OA,OB,MM,VV,rw2,kx,Bool.not_true,Bool.not_false];have hν0:ν.length<=2:=by rw [hν];exact c8B _
  (repeat first|refine uA ?_|(apply uK;· omega)|simp (disch:=omega) only [go_sem,Nat.reduceBEq])
 ·refine S.loop (X:=Nat × List Nat × Nat) (fun s=>⟨[(0,.wv 1 1 lo n),(1,.wv 0 1 lo2 n2),(5,.v (.int .u64 (s.2.2:Int))),(8,.wv 1 1 lo n),(9,ints n),(10,ints s.1)],[.row 213 1 (ls o),.row 213 1 (ls (put u lo s.2.1))]⟩) (fun s=>s.1<=n/\Nm.a3N x y s.1 s.2.1 s.2.2) (fun s=>n-s.1) (0,x,0) ⟨c8w _,Nm.a7r y hua⟩ (by simp only [hps];exact Ent.mk _ _ (by repeat first|refine uA ?_|(refine ⟨?_,?_⟩;· first|rfl|simp [slot])|rfl|simp) (by repeat first|refine uA ?_|(refine ⟨?_,?_⟩;· first|rfl|simp [slot])|rfl|simp) hν0) ?_;rintro ⟨i,out,c⟩ ⟨hi,hinv⟩;simp only [ints] at hi hinv ⊢;have hol:=hinv.1;have hc1:=hinv.2.2.1;have hpl:(put u lo out).length=u.length:=a0A (by omega)
  (repeat first|refine uA ?_|(apply uK;· omega)|simp (disch:=omega) only [go_sem,Nat.reduceBEq]);(refine uJ rfl (fun hc=>?_) fun hc=>?_)
  ·have hi':i < n:=by omega
   have hix:i < x.length:=by omega
   have hgx:x[i]?=some (x[i]'hix):=c8q hix;have hgo:(put u lo out)[lo+i]?=some (x[i]'hix):=by rw [V5 (by omega) (by omega),Nm.a0V hinv.2.2.2.1,hgx]
   have hx64:=hua _ (c8L hix);have hk:=fun t c' h1 h2 h3=>Nm.a7p (t:=t) (c':=c') hinv hix h1 h2 h3;generalize x[i]'hix=xi at *;have hsub:∀ d:Nat,d < 18446744073709551616->∃ t c':Nat,((xi:Int)+18446744073709551616-(d:Int)-(c:Int)) % 18446744073709551616=(t:Int)/\(if (xi:Int) < (d:Int)+(c:Int) then (1:Int) else 0)=(c':Int)/\t < 18446744073709551616/\c'<=1/\t+c+d=xi+18446744073709551616*c':=fun d hd=>by
    by_cases h:xi < d+c
    ·exact ⟨xi+18446744073709551616-d-c,1,by omega,by rw [if_pos (by omega)];rfl,by omega,by omega,by omega⟩
    ·exact ⟨xi-d-c,0,by omega,by rw [if_neg (by omega)];rfl,by omega,by omega,by omega⟩
   have hsl:∀ t,(put u lo out).set (lo+i) t=put u lo (out.set i t):=fun t=>a0z (by omega) (by omega);(repeat first|refine uA ?_|(apply uK;· omega)|simp (disch:=omega) only [go_sem,Nat.reduceBEq]);(refine uJ rfl (fun hc=>?_) fun hc=>?_)
   ·have hiy:i < y.length:=by omega
    have hgy:y[i]?=some (y[i]'hiy):=c8q hiy;have hgy2:=(hgo2 i (by omega)).trans hgy;have hy64:=hoa _ (c8L hiy);rw [Nm.getD_lt hiy] at hk;generalize y[i]'hiy=yi at *;obtain ⟨t,c',e1,e2,h1,h2,h3⟩:=hsub yi hy64;have hk:=hk t c' h1 h2 h3;(repeat first|refine uA ?_|(apply uK;· omega)|simp (disch:=omega) only [go_sem,Nat.reduceBEq,ww,G9,O5,hgo,hgy2,hpl,c8s,lm,e1,e2,a2d,hsl]);refine S.next (x:=(i,out,c)) (i+1,_,_) ⟨hi',hk⟩ (by simp only;omega) (Ent.mk _ _ (by repeat first|refine uA ?_|(refine ⟨?_,?_⟩;· first|rfl|simp [slot])|rfl|simp) (by repeat first|refine uA ?_|(refine ⟨?_,?_⟩;· first|rfl|simp [slot])|rfl|simp) hν0)
   ·have hy0:y.getD i 0=0:=by rw [c8C,c8W (by omega)];rfl
    rw [hy0] at hk;obtain ⟨t,c',e1,e2,h1,h2,h3⟩   := hsub 0 (by decide);rw [show ((0:Nat):Int)=0 from rfl] at e1 e2;have hk:=hk t c' h1 h2 h3;(repeat first|refine uA ?_|(apply uK;· omega)|simp (disch:=omega) only [go_sem,Nat.reduceBEq,ww,G9,O5,hgo,hpl,c8s,lm,e1,e2,a2d,hsl]);refine S.next (x:=(i,out,c)) (i+1,_,_) ⟨hi',hk⟩ (by simp only;omega) (Ent.mk _ _ (by repeat first|refine uA ?_|(refine ⟨?_,?_⟩;· first|rfl|simp [slot])|rfl|simp) (by repeat first|refine uA ?_|(refine ⟨?_,?_⟩;· first|rfl|simp [slot])|rfl|simp) hν0)
  ·have hi':i=n:=by omega
   subst hi';rw [<- hul] at hinv;obtain ⟨he1,he2⟩:=Nm.a8d hinv (by omega) (by omega);have hd:out=Nm.dig 18446744073709551616 i (X-Y):=Nm.Y7 (by decide) hinv.2.1 (by omega) (by omega);rw [<- hd];have hcut:=fun (E:Ctx) (hP:E.P=Tryz.prog)=>a8u (E:=E) hP (match 1 with|0=>true|_=>false) (put u lo out) o lo i (by omega) (by omega) (by omega);rw [a3a (by omega) (by omega)] at hcut;(repeat first|refine uA ?_|(apply uK;· omega)|simp (disch:=omega) only [go_sem,Nat.reduceBEq]|refine l9.t (hcut _ rfl) ?_);exact S.done (p8.own rfl)
 ·refine S.loop (X:=Nat × List Nat × Nat) (fun s=>⟨[(0,.wv 0 1 lo n),(1,.wv 1 1 lo2 n2),(5,.v (.int .u64 (s.2.2:Int))),(8,.wv 0 1 lo n),(9,ints n),(10,ints s.1)],[.row 213 1 (ls (put u lo s.2.1)),.row 213 1 (ls o)]⟩) (fun s=>s.1<=n/\Nm.a3N x y s.1 s.2.1 s.2.2) (fun s=>n-s.1) (0,x,0) ⟨c8w _,Nm.a7r y hua⟩ (by simp only [hps];exact Ent.mk _ _ (by repeat first|refine uA ?_|(refine ⟨?_,?_⟩;· first|rfl|simp [slot])|rfl|simp) (by repeat first|refine uA ?_|(refine ⟨?_,?_⟩;· first|rfl|simp [slot])|rfl|simp) hν0) ?_;rintro ⟨i,out,c⟩ ⟨hi,hinv⟩;simp only [ints] at hi hinv ⊢;have hol:=hinv.1;have hc1:=hinv.2.2.1;have hpl:(put u lo out).length=u.length:=a0A (by omega)
  (repeat first|refine uA ?_|(apply uK;· omega)|simp (disch:=omega) only [go_sem,Nat.reduceBEq]);(refine uJ rfl (fun hc=>?_) fun hc=>?_)
  ·have hi':i < n:=by omega
   have hix:i < x.length:=by omega
   have hgx:x[i]?=some (x[i]'hix):=c8q hix;have hgo:(put u lo out)[lo+i]?=some (x[i]'hix):=by rw [V5 (by omega) (by omega),Nm.a0V hinv.2.2.2.1,hgx]
   have hx64:=hua _ (c8L hix);have hk:=fun t c' h1 h2 h3=>Nm.a7p (t:=t) (c':=c') hinv hix h1 h2 h3;generalize x[i]'hix=xi at *;have hsub:∀ d:Nat,d < 18446744073709551616->∃ t c':Nat,((xi:Int)+18446744073709551616-(d:Int)-(c:Int)) % 18446744073709551616=(t:Int)/\(if (xi:Int) < (d:Int)+(c:Int) then (1:Int) else 0)=(c':Int)/\t < 18446744073709551616/\c'<=1/\t+c+d=xi+18446744073709551616*c':=fun d hd=>by
    by_cases h:xi < d+c
    ·exact ⟨xi+18446744073709551616-d-c,1,by omega,by rw [if_pos (by omega)];rfl,by omega,by omega,by omega⟩
    ·exact ⟨xi-d-c,0,by omega,by rw [if_neg (by omega)];rfl,by omega,by omega,by omega⟩
   have hsl:∀ t,(put u lo out).set (lo+i) t=put u lo (out.set i t):=fun t=>a0z (by omega) (by omega);(repeat first|refine uA ?_|(apply uK;· omega)|simp (disch:=omega) only [go_sem,Nat.reduceBEq]);(refine uJ rfl (fun hc=>?_) fun hc=>?_)
   ·have hiy:i < y.length:=by omega
    have hgy:y[i]?=some (y[i]'hiy):=c8q hiy;have hgy2:=(hgo2 i (by omega)).trans hgy;have hy64:=hoa _ (c8L hiy);rw [Nm.getD_lt hiy] at hk;generalize y[i]'hiy=yi at *;obtain ⟨t,c',e1,e2,h1,h2,h3⟩:=hsub yi hy64;have hk:=hk t c' h1 h2 h3;(repeat first|refine uA ?_|(apply uK;· omega)|simp (disch:=omega) only [go_sem,Nat.reduceBEq,ww,G9,O5,hgo,hgy2,hpl,c8s,lm,e1,e2,a2d,hsl]);refine S.next (x:=(i,out,c)) (i+1,_,_) ⟨hi',hk⟩ (by simp only;omega) (Ent.mk _ _ (by repeat first|refine uA ?_|(refine ⟨?_,?_⟩;· first|rfl|simp [slot])|rfl|simp) (by repeat first|refine uA ?_|(refine ⟨?_,?_⟩;· first|rfl|simp [slot])|rfl|simp) hν0)
   ·have hy0:y.getD i 0=0:=by rw [c8C,c8W (by omega)];rfl
    rw [hy0] at hk;obtain ⟨t,c',e1,e2,h1,h2,h3⟩   := hsub 0 (by decide);rw [show ((0:Nat):Int)=0 from rfl] at e1 e2;have hk:=hk t c' h1 h2 h3;(repeat first|refine uA ?_|(apply uK;· omega)|simp (disch:=omega) only [go_sem,Nat.reduceBEq,ww,G9,O5,hgo,hpl,c8s,lm,e1,e2,a2d,hsl]);refine S.next (x:=(i,out,c)) (i+1,_,_) ⟨hi',hk⟩ (by simp only;omega) (Ent.mk _ _ (by repeat first|refine uA ?_|(refine ⟨?_,?_⟩;· first|rfl|simp [slot])|rfl|simp) (by repeat first|refine uA ?_|(refine ⟨?_,?_⟩;· first|rfl|simp [slot])|rfl|simp) hν0)
  ·have hi':i=n:=by omega
   subst hi';rw [<- hul] at hinv;obtain ⟨he1,he2⟩:=Nm.a8d hinv (by omega) (by omega);have hd:out=Nm.dig 18446744073709551616 i (X-Y):=Nm.Y7 (by decide) hinv.2.1 (by omega) (by omega);rw [<- hd];have hcut:=fun (E:Ctx) (hP:E.P=Tryz.prog)=>a8u (E:=E) hP (match 0 with|0=>true|_=>false) (put u lo out) o lo i (by omega) (by omega) (by omega);rw [a3a (by omega) (by omega)] at hcut;(repeat first|refine uA ?_|(apply uK;· omega)|simp (disch:=omega) only [go_sem,Nat.reduceBEq]|refine l9.t (hcut _ rfl) ?_);exact S.done (p8.own rfl)
theorem c6n (i:Nat) (h:i<=70368744177664):IntKind.i64.wrap ((i:Int).tdiv 64)=((i / 64:Nat):Int):=by
 have:(i:Int).tdiv 64=((i / 64:Nat):Int):=rfl;rw [this,Eng.wrap_i64 (by omega)]
theorem c4i (i:Nat):(i:Int).tmod 64=((i % 64:Nat):Int):=rfl
theorem b4e (o n:Nat) (ho:o < 18446744073709551616):bits .or .u64 (o:Int) (((n % 18446744073709551616:Nat)):Int)=((o ||| n % 18446744073709551616:Nat):Int):=a9P _ _ ho (Nat.mod_lt _ (by decide))
theorem b2e (x r:Nat) (hr:r<=64):IntKind.u64.wrap ((x:Int)*2 ^ min r 64)=((x*2 ^ r % 18446744073709551616:Nat):Int):=by
 rw [show min r 64=r by omega,<- a5u];congr 1
theorem a8h {E:Ctx} (hP:E.P=Tryz.prog) (s:Bool) (u o:List Nat) (lo n by' z:Nat) (hl:u.length<=274877906944) (hn:lo+n<=u.length) (hb:by'<=70368744177664)
  (hu:Nm.O0 u) (hz:z ≠ 0) (hX:Nm.wv 18446744073709551616 ((u.drop lo).take n)=z*2 ^ by') :
  by' / 64 < n/\z < 18446744073709551616 ^ (n-by' / 64)/\l7 E (rw2 s u o) 217 [.wv (kx s) 1 lo n,ints by'] (.wv (kx s) 1 (lo+by' / 64) (Nm.I4 (Nm.dig 18446744073709551616 (n-by' / 64) z)).length) (rw2 s (put u (lo+by' / 64) (Nm.dig 18446744073709551616 (n-by' / 64) z)) o) []:=by
 have hul:((u.drop lo).take n).length=n:=by rw [c8E,c9g];omega
 have hua:Nm.O0 ((u.drop lo).take n):=(hu.drop lo).take _;have e2:2 ^ by'=18446744073709551616 ^ (by' / 64)*2 ^ (by' % 64):=by
  rw [show (18446744073709551616:Nat)=2 ^ 64 by decide,<- Nat.pow_mul,<- Nat.pow_add];congr 1;omega
 have hjn:by' / 64 < n:=by
  rcases c8N (by' / 64) n with h|h
  ·exact h
  ·exfalso;have h1:=Nm.M9 18446744073709551616 hua;have h2:18446744073709551616 ^ n<=18446744073709551616 ^ (by' / 64):=c8Y (by decide) h;have h3:18446744073709551616 ^ (by' / 64)<=2 ^ by':=by rw [e2];exact Nat.le_mul_of_pos_right _ (Nat.pow_pos (by decide))
   have h4:2 ^ by'<=z*2 ^ by':=Nat.le_mul_of_pos_left _ (by omega);rw [hul] at h1;omega
 have hdr:((u.drop lo).take n).drop (by' / 64)=(u.drop (lo+by' / 64)).take (n-by' / 64):=by
  rw [List.drop_take,List.drop_drop]
 have hW1:Nm.wv 18446744073709551616 ((u.drop (lo+by' / 64)).take (n-by' / 64))=z*2 ^ (by' % 64):=by
  rw [<- hdr,Nm.b5Q hua (by omega),hX,e2,<- c9a,Nat.mul_comm z,c9a,Nat.mul_comm (18446744073709551616 ^ _) (z*_),Nat.mul_div_cancel _ (Nat.pow_pos (by decide))]
 have hb64:by' % 64 < 64:=Nat.mod_lt _ (by decide);have hjb:by' / 64<=1099511627776:=by omega
 clear hdr hX e2;have hq1:=c6n by' hb;have hq2:=c4i by';generalize by' / 64=j at *;generalize by' % 64=b at *;generalize hp:n-j=p at *;generalize hl1:lo+j=l1 at *;have hlp:l1+p<=u.length:=by omega
 have hp0:0 < p:=by omega
 have hpn:n-j=p:=hp;have hua1:Nm.O0 ((u.drop l1).take p):=(hu.drop l1).take _;have hps:put u l1 ((u.drop l1).take p)=u:=a4Z hlp;have hrl:((u.drop l1).take p).length=p:=by rw [c8E,c9g];omega
 generalize (u.drop l1).take p=r0 at *;have hzl:z < 18446744073709551616 ^ p:=by
  have h1:=Nm.M9 18446744073709551616 hua1;rw [hrl,hW1] at h1;exact Nat.lt_of_le_of_lt (Nat.le_mul_of_pos_right _ (Nat.pow_pos (by decide))) h1
 refine ⟨hjn,hzl,?_⟩;clear hul hua;obtain ⟨P,eff',N,w0,own0,av0,nu0,pk0⟩:=E;simp only at hP;subst hP;cases s
 all_goals
  refine l7.of (eff:=eff) Tryz.func217 (by cbv) (by exact c8G rfl) fun w own av ν hν=>?_;simp only [j4,TT,II,OA,OB,MM,VV,rw2,kx,ints];have hν0:ν.length<=2:=by rw [hν];exact c8B _
  (repeat first|refine uA ?_|(apply uK;· omega)|simp only [go_sem,Nat.reduceBEq,Nat.reduceAdd,hq1,hq2,hl1,hpn]|simp (disch:=omega) only [ww,hq1,hq2,G9,hl1,hpn]);(refine uJ rfl (fun hc=>?_) fun hc=>?_)
 ·(repeat first|refine uA ?_|(apply uK;· omega)|simp (disch:=omega) only [go_sem,Nat.reduceBEq]);refine S.loop (X:=Nat × List Nat) (fun s=>⟨[(0,.wv 1 1 l1 p),(1,ints b),(15,ints p),(16,ints s.1)],[.row 213 1 (ls o),.row 213 1 (ls (put u l1 s.2))]⟩) (fun s=>s.1<=p/\Nm.a2z r0 (2 ^ b) s.1 s.2) (fun s=>p-s.1) (0,r0) ⟨c8w _,Nm.a5D hua1⟩ (by simp only [hps];exact Ent.mk _ _ (by repeat first|refine uA ?_|(refine ⟨?_,?_⟩;· first|rfl|trivial|(simp [slot];done))|rfl|trivial|simp) (by repeat first|refine uA ?_|(refine ⟨?_,?_⟩;· first|rfl|trivial|(simp [slot];done))|rfl|trivial|simp) hν0) ?_;rintro ⟨i,out⟩ ⟨hi,hri⟩;simp only [ints] at hi hri ⊢;have hol:=hri.1
  have hpl:(put u l1 out).length=u.length:=a0A (by omega);(repeat first|refine uA ?_|(apply uK;· omega)|simp (disch:=omega) only [go_sem,Nat.reduceBEq]);(refine uJ rfl (fun hc=>?_) fun hc=>?_)
  ·have hi':i < p:=by omega
   have hir:i < r0.length:=by omega
   have hgr:r0[i]?=some (r0[i]'hir):=c8q hir;have hgo:(put u l1 out)[l1+i]?=some (r0[i]'hir):=by
    rw [V5 (by omega) (by omega),Nm.a0V hri.2.2.1,hgr]
   have hr32':=hua1 _ (c8L hir);have hk:=fun t ht=>Nm.a5M (t:=t) hri hb64 hir hua1 ht;have hset:∀ a,(put u l1 out).set (l1+i) a=put u l1 (out.set i a):=fun a=>a0z (by omega) (by omega);generalize r0[i]'hir=ri at *;have hsh:Int.fdiv (ri:Int) (2 ^ min b 64)=((ri / 2 ^ b:Nat):Int):=by
    rw [show min b 64=b by omega,<- a2P];congr 1
   have hrb:ri / 2 ^ b < 18446744073709551616:=Nat.lt_of_le_of_lt (Nat.div_le_self _ _) hr32';generalize ri / 2 ^ b=rs at *;(repeat first|refine uA ?_|(apply uK;· omega)|simp only [go_sem,Nat.reduceBEq,Nat.reduceAdd,Nat.reduceLeDiff,G9,O5,hgo,hpl,c8s,lm,a2d,hsh,hset]|simp (disch:=omega) only [ww]);(refine uJ rfl (fun hc=>?_) fun hc=>?_)
   ·have hi1:i+1 < r0.length:=by omega
    have hpl1:(put u l1 (out.set i rs)).length=u.length:=a0A (by rw [c9h];omega);have hg1:(put u l1 (out.set i rs))[l1+i]?=some rs:=by
     rw [<- hset,List.getElem?_set_self (by omega)]
    have hg3:r0[i+1]?=some (r0[i+1]'hi1):=c8q hi1;have hg2:(put u l1 (out.set i rs))[l1+(i+1)]?=some (r0[i+1]'hi1):=by
     have:=V5 (us:=u) (out:=out) (k:=l1) (i:=i+1) (by omega) (by omega);rw [<- hset,List.getElem?_set_ne (by omega),this];have h3:=congrArg (fun l=>l[1]?) hri.2.2.1;simp only [c9e] at h3;rw [h3,hg3]
    have hn32:=hua1 _ (c8L hi1);have hgd:r0.getD (i+1) 0=r0[i+1]'hi1:=Nm.getD_lt hi1;rw [hgd] at hk;generalize r0[i+1]'hi1=rn at *;have hshl:=b2e rn (64-b) (by omega);have hrr:((64:Int)-(b:Int)).toNat=64-b:=by omega
    have horl:=b4e rs (rn*2 ^ (64-b)) hrb;have hk:=hk _ rfl;rw [if_pos (by omega)] at hk;generalize rn*2 ^ (64-b)=sh at *;generalize hto:rs ||| sh % 18446744073709551616=to at *
    have hset2:(put u l1 (out.set i rs)).set (l1+i) to=put u l1 (out.set i to):=by
     have:=a0z (us:=u) (out:=out.set i rs) (k:=l1) (i:=i) (v:=to) (by rw [c9h];omega) (by rw [c9h];omega);rwa [List.set_set] at this
    have hi1n:((i:Int)+1).toNat=i+1:=by omega
    (repeat first|refine uA ?_|(apply uK;· omega)|simp only [go_sem,Nat.reduceBEq,Nat.reduceAdd,Nat.reduceLeDiff,G9,O5,hg1,hpl1,c8s,lm]|simp (disch:=omega) only [ww,hg2,c8s,lm,hrr,hi1n,hshl,horl,a2d,hset2]);refine S.next (x:=(i,out)) (i+1,_) ⟨hi',hk.1⟩ (by simp only;omega) (Ent.mk _ _ (by repeat first|refine uA ?_|(refine ⟨?_,?_⟩;· first|rfl|trivial|(simp [slot];done))|rfl|trivial|simp) (by repeat first|refine uA ?_|(refine ⟨?_,?_⟩;· first|rfl|trivial|(simp [slot];done))|rfl|trivial|simp) hν0)
   ·have hk:=hk _ rfl;rw [if_neg (by omega)] at hk;(repeat first|refine uA ?_|(apply uK;· omega)|simp (disch:=omega) only [go_sem,Nat.reduceBEq,ww]);refine S.next (x:=(i,out)) (i+1,_) ⟨hi',hk.1⟩ (by simp only;omega) (Ent.mk _ _ (by repeat first|refine uA ?_|(refine ⟨?_,?_⟩;· first|rfl|trivial|(simp [slot];done))|rfl|trivial|simp) (by repeat first|refine uA ?_|(refine ⟨?_,?_⟩;· first|rfl|trivial|(simp [slot];done))|rfl|trivial|simp) hν0)
  ·have hi':i=p:=by omega
   subst hi';rw [<- hrl] at hri;have he:=Nm.a6D hri (by omega) hW1;have hd:out=Nm.dig 18446744073709551616 i z:=Nm.Y7 (by decide) hri.2.1 (by omega) he;rw [<- hd];have hcut:=fun (E:Ctx) (hP:E.P=Tryz.prog)=>a8u (E:=E) hP (match 1 with|0=>true|_=>false) (put u l1 out) o l1 i (by omega) (by omega) (by omega);rw [a3a (by omega) (by omega)] at hcut;(repeat first|refine uA ?_|(apply uK;· omega)|simp (disch:=omega) only [go_sem,Nat.reduceBEq]|refine l9.t (hcut _ rfl) ?_);exact S.done (p8.own rfl)
 ·have hb0:b=0:=by omega
  subst hb0;rw [Nat.pow_zero,Nat.mul_one] at hW1;have hd:r0=Nm.dig 18446744073709551616 p z:=Nm.Y7 (by decide) hua1 hrl hW1;have hcut:=fun (E:Ctx) (hP:E.P=Tryz.prog)=>a8u (E:=E) hP (match 1 with|0=>true|_=>false) u o l1 p (by omega) (by omega) (by omega);have hw:(u.drop l1).take p=r0:=by rw [<- hps];exact a3a hrl.symm (by omega)
  rw [hw] at hcut;rw [<- hd,hps];(repeat first|refine uA ?_|(apply uK;· omega)|simp (disch:=omega) only [go_sem,Nat.reduceBEq]|refine l9.t (hcut _ rfl) ?_);exact S.done (p8.own rfl)
 ·(repeat first|refine uA ?_|(apply uK;· omega)|simp (disch:=omega) only [go_sem,Nat.reduceBEq]);refine S.loop (X:=Nat × List Nat) (fun s=>⟨[(0,.wv 0 1 l1 p),(1,ints b),(15,ints p),(16,ints s.1)],[.row 213 1 (ls (put u l1 s.2)),.row 213 1 (ls o)]⟩) (fun s=>s.1<=p/\Nm.a2z r0 (2 ^ b) s.1 s.2) (fun s=>p-s.1) (0,r0) ⟨c8w _,Nm.a5D hua1⟩ (by simp only [hps];exact Ent.mk _ _ (by repeat first|refine uA ?_|(refine ⟨?_,?_⟩;· first|rfl|trivial|(simp [slot];done))|rfl|trivial|simp) (by repeat first|refine uA ?_|(refine ⟨?_,?_⟩;· first|rfl|trivial|(simp [slot];done))|rfl|trivial|simp) hν0) ?_;rintro ⟨i,out⟩ ⟨hi,hri⟩;simp only [ints] at hi hri ⊢;have hol:=hri.1
  have hpl:(put u l1 out).length=u.length:=a0A (by omega);(repeat first|refine uA ?_|(apply uK;· omega)|simp (disch:=omega) only [go_sem,Nat.reduceBEq]);(refine uJ rfl (fun hc=>?_) fun hc=>?_)
  ·have hi':i < p:=by omega
   have hir:i < r0.length:=by omega
   have hgr:r0[i]?=some (r0[i]'hir):=c8q hir;have hgo:(put u l1 out)[l1+i]?=some (r0[i]'hir):=by
    rw [V5 (by omega) (by omega),Nm.a0V hri.2.2.1,hgr]
   have hr32':=hua1 _ (c8L hir);have hk:=fun t ht=>Nm.a5M (t:=t) hri hb64 hir hua1 ht;have hset:∀ a,(put u l1 out).set (l1+i) a=put u l1 (out.set i a):=fun a=>a0z (by omega) (by omega);generalize r0[i]'hir=ri at *;have hsh:Int.fdiv (ri:Int) (2 ^ min b 64)=((ri / 2 ^ b:Nat):Int):=by
    rw [show min b 64=b by omega,<- a2P];congr 1
   have hrb:ri / 2 ^ b < 18446744073709551616:=Nat.lt_of_le_of_lt (Nat.div_le_self _ _) hr32';generalize ri / 2 ^ b=rs at *;(repeat first|refine uA ?_|(apply uK;· omega)|simp only [go_sem,Nat.reduceBEq,Nat.reduceAdd,Nat.reduceLeDiff,G9,O5,hgo,hpl,c8s,lm,a2d,hsh,hset]|simp (disch:=omega) only [ww]);(refine uJ rfl (fun hc=>?_) fun hc=>?_)
   ·have hi1:i+1 < r0.length:=by omega
    have hpl1:(put u l1 (out.set i rs)).length=u.length:=a0A (by rw [c9h];omega);have hg1:(put u l1 (out.set i rs))[l1+i]?=some rs:=by
     rw [<- hset,List.getElem?_set_self (by omega)]
    have hg3:r0[i+1]?=some (r0[i+1]'hi1):=c8q hi1;have hg2:(put u l1 (out.set i rs))[l1+(i+1)]?=some (r0[i+1]'hi1):=by
     have:=V5 (us:=u) (out:=out) (k:=l1) (i:=i+1) (by omega) (by omega);rw [<- hset,List.getElem?_set_ne (by omega),this];have h3:=congrArg (fun l=>l[1]?) hri.2.2.1;simp only [c9e] at h3;rw [h3,hg3]
    have hn32:=hua1 _ (c8L hi1);have hgd:r0.getD (i+1) 0=r0[i+1]'hi1:=Nm.getD_lt hi1;rw [hgd] at hk;generalize r0[i+1]'hi1=rn at *;have hshl:=b2e rn (64-b) (by omega);have hrr:((64:Int)-(b:Int)).toNat=64-b:=by omega
    have horl:=b4e rs (rn*2 ^ (64-b)) hrb;have hk:=hk _ rfl;rw [if_pos (by omega)] at hk;generalize rn*2 ^ (64-b)=sh at *;generalize hto:rs ||| sh % 18446744073709551616=to at *
    have hset2:(put u l1 (out.set i rs)).set (l1+i) to=put u l1 (out.set i to):=by
     have:=a0z (us:=u) (out:=out.set i rs) (k:=l1) (i:=i) (v:=to) (by rw [c9h];omega) (by rw [c9h];omega);rwa [List.set_set] at this
    have hi1n:((i:Int)+1).toNat=i+1:=by omega
    (repeat first|refine uA ?_|(apply uK;· omega)|simp only [go_sem,Nat.reduceBEq,Nat.reduceAdd,Nat.reduceLeDiff,G9,O5,hg1,hpl1,c8s,lm]|simp (disch:=omega) only [ww,hg2,c8s,lm,hrr,hi1n,hshl,horl,a2d,hset2]);refine S.next (x:=(i,out)) (i+1,_) ⟨hi',hk.1⟩ (by simp only;omega) (Ent.mk _ _ (by repeat first|refine uA ?_|(refine ⟨?_,?_⟩;· first|rfl|trivial|(simp [slot];done))|rfl|trivial|simp) (by repeat first|refine uA ?_|(refine ⟨?_,?_⟩;· first|rfl|trivial|(simp [slot];done))|rfl|trivial|simp) hν0)
   ·have hk:=hk _ rfl;rw [if_neg (by omega)] at hk;(repeat first|refine uA ?_|(apply uK;· omega)|simp (disch:=omega) only [go_sem,Nat.reduceBEq,ww]);refine S.next (x:=(i,out)) (i+1,_) ⟨hi',hk.1⟩ (by simp only;omega) (Ent.mk _ _ (by repeat first|refine uA ?_|(refine ⟨?_,?_⟩;· first|rfl|trivial|(simp [slot];done))|rfl|trivial|simp) (by repeat first|refine uA ?_|(refine ⟨?_,?_⟩;· first|rfl|trivial|(simp [slot];done))|rfl|trivial|simp) hν0)
  ·have hi':i=p:=by omega
   subst hi';rw [<- hrl] at hri;have he:=Nm.a6D hri (by omega) hW1;have hd:out=Nm.dig 18446744073709551616 i z:=Nm.Y7 (by decide) hri.2.1 (by omega) he;rw [<- hd];have hcut:=fun (E:Ctx) (hP:E.P=Tryz.prog)=>a8u (E:=E) hP (match 0 with|0=>true|_=>false) (put u l1 out) o l1 i (by omega) (by omega) (by omega);rw [a3a (by omega) (by omega)] at hcut;(repeat first|refine uA ?_|(apply uK;· omega)|simp (disch:=omega) only [go_sem,Nat.reduceBEq]|refine l9.t (hcut _ rfl) ?_);exact S.done (p8.own rfl)
 ·have hb0:b=0:=by omega
  subst hb0;rw [Nat.pow_zero,Nat.mul_one] at hW1;have hd:r0=Nm.dig 18446744073709551616 p z:=Nm.Y7 (by decide) hua1 hrl hW1;have hcut:=fun (E:Ctx) (hP:E.P=Tryz.prog)=>a8u (E:=E) hP (match 0 with|0=>true|_=>false) u o l1 p (by omega) (by omega) (by omega);have hw:(u.drop l1).take p=r0:=by rw [<- hps];exact a3a hrl.symm (by omega)
  rw [hw] at hcut;rw [<- hd,hps];(repeat first|refine uA ?_|(apply uK;· omega)|simp (disch:=omega) only [go_sem,Nat.reduceBEq]|refine l9.t (hcut _ rfl) ?_);exact S.done (p8.own rfl)
structure Win (u:List Nat) (lo n v:Nat):Prop where
 hn:lo+n<=u.length
 hlo:lo < u.length
 hl:u.length<=17179869184
 ha:Nm.O0 u
 hv:Nm.wv 18446744073709551616 ((u.drop lo).take n)=v
 ht:Nm.I4 ((u.drop lo).take n)=(u.drop lo).take n
theorem Win.len {u:List Nat} {lo n v:Nat} (h:Win u lo n v):((u.drop lo).take n).length=n:=by
 have:=h.hn;rw [c8E,c9g];omega
theorem b9e {us a:List Nat} {k:Nat} (hu:Nm.O0 us) (ha:Nm.O0 a):Nm.O0 (put us k a):=fun w hw=>by
 simp only [put,List.mem_append] at hw;rcases hw with (hw|hw)|hw
 ·exact hu w (List.mem_of_mem_take hw)
 ·exact ha w hw
 ·exact hu w (List.mem_of_mem_drop hw)
theorem Win.put {u:List Nat} {l1 p z:Nat} (h1:l1+p<=u.length) (h2:l1 < u.length) (hl:u.length<=17179869184) (ha:Nm.O0 u) (hz:z < 18446744073709551616 ^ p) :
  Win (put u l1 (Nm.dig 18446744073709551616 p z)) l1 (Nm.I4 (Nm.dig 18446744073709551616 p z)).length z:=by
 have hpl:(Go.Proofs.YtpnbklgbfhgknaaGreatDoor.put u l1 (Nm.dig 18446744073709551616 p z)).length=u.length:=a0A (by rw [Nm.J9];omega);have htl:=Nm.b9L (Nm.dig 18446744073709551616 p z);rw [Nm.J9] at htl;have hw:((Go.Proofs.YtpnbklgbfhgknaaGreatDoor.put u l1 (Nm.dig 18446744073709551616 p z)).drop l1).take (Nm.I4 (Nm.dig 18446744073709551616 p z)).length=Nm.I4 (Nm.dig 18446744073709551616 p z):=by
  have e:=a3a (us:=u) (k:=l1) (a:=Nm.dig 18446744073709551616 p z) (n:=p) (Nm.J9 _ _ _).symm (by rw [Nm.J9];omega);have e2:=congrArg (List.take (Nm.I4 (Nm.dig 18446744073709551616 p z)).length) e;rw [List.take_take,Nat.min_eq_left htl,Nm.b6V] at e2;exact e2
 refine ⟨by rw [hpl];omega,by rw [hpl];exact h2,by rw [hpl];exact hl,b9e ha (Nm.a1M (by decide) _ _),?_,?_⟩
 ·rw [hw,Nm.c0M,Nm.Y4 hz]
 ·rw [hw];have h4:∀ l,Nm.I4 (Nm.I4 l)=Nm.I4 l:=fun l=>by
   by_cases h:Nm.I4 l=[]
   ·rw [h];rfl
   ·have h5:=Nm.b0G l h;have h6:Nm.I4 l=(Nm.I4 l).dropLast++[(Nm.I4 l).getLast h]:=(List.dropLast_concat_getLast h).symm;rw [h6,Nm.a4I h5]
  exact h4 _
theorem Win.last {u:List Nat} {lo n v:Nat} (h:Win u lo n v):∀ hh:(u.drop lo).take n ≠ [],((u.drop lo).take n).getLast hh ≠ 0:=by
 have ht:=h.ht;generalize (u.drop lo).take n=x at *;intro hh;have:=Nm.b0G x (by rw [ht];exact hh);simpa only [ht] using this
theorem Win.all {u:List Nat} {lo n v:Nat} (h:Win u lo n v):Nm.O0 ((u.drop lo).take n):=(h.ha.drop lo).take n
theorem Win.zero {u:List Nat} {lo n v:Nat} (h:Win u lo n v) (h0:v=0):n=0:=by
 rcases c8Q n with h1|h1
 ·exact h1
 ·exfalso;have hl:=h.len;have hla:=h.last;have hv:=h.hv;generalize (u.drop lo).take n=x at *;have hne:x ≠ []:=fun e=>by subst e;simp at hl;omega
  have h2:=Nm.b4Q (B:=18446744073709551616) (l:=x.dropLast) (hla hne);rw [List.dropLast_concat_getLast hne] at h2;have:=Nat.pow_pos (n:=x.dropLast.length) (show 0 < 18446744073709551616 by decide);omega
theorem Win.nonzero {u:List Nat} {lo n v:Nat} (h:Win u lo n v) (h0:n=0):v=0:=by
 have:=h.hv;subst h0;rw [<- this];rfl
theorem Win.le {u o:List Nat} {lo n v lo2 n2 v2:Nat} (h:Win u lo n v) (h2:Win o lo2 n2 v2) (hle:v2<=v):n2<=n:=by
 rcases c8N n n2 with h1|h1
 ·exfalso;have hl:=h2.len;have hla:=h2.last;have hv:=h2.hv;have hl1:=Nm.M9 18446744073709551616 h.all;rw [h.len,h.hv] at hl1;generalize (o.drop lo2).take n2=x at *;have hne:x ≠ []:=fun e=>by subst e;simp at hl;omega
  have h3:=Nm.b4Q (B:=18446744073709551616) (l:=x.dropLast) (hla hne);rw [List.dropLast_concat_getLast hne,List.length_dropLast] at h3;have h4:18446744073709551616 ^ n<=18446744073709551616 ^ (x.length-1):=c8Y (by decide) (by omega);omega
 ·exact h1
theorem Win.v2 {u:List Nat} {lo n v:Nat} (h:Win u lo n v) (h0:v ≠ 0):Nm.v2 v<=70368744177664:=by
 obtain ⟨q,h1,h2⟩:=Nm.a3F h0;have hl1:=Nm.M9 18446744073709551616 h.all;rw [h.len,h.hv] at hl1;have h3:2 ^ Nm.v2 v<=v:=by
  conv=>rhs;rw [h1]
  exact Nat.le_mul_of_pos_right _ (by omega)
 have h4:2 ^ Nm.v2 v < 2 ^ (64*n):=by rw [Nat.pow_mul];exact Nat.lt_of_le_of_lt h3 hl1
 have h5:=(Nat.pow_lt_pow_iff_right (by decide:1 < 2)).1 h4;have:=h.hn;have:=h.hl;omega
namespace Nm
theorem c3M (n k:Nat) (h:k < 8):(be8 n)[k]?=some (oB (n / 2 ^ (56-8*k))):=by
 have:k=0 \/ k=1 \/ k=2 \/ k=3 \/ k=4 \/ k=5 \/ k=6 \/ k=7:=by omega
 rcases this with rfl|rfl|rfl|rfl|rfl|rfl|rfl|rfl<;>simp [be8]
theorem a8l (n:Nat):(be8 n).length=8:=rfl
def a2I (l:List Nat):List UInt8:=(l.reverse.map be8).flatten
theorem a9Q (l:List Nat) (x:Nat):a2I (l++[x])=be8 x++a2I l:=by simp [a2I]
theorem b1Z (r:List Nat) (h:O0 r.reverse):(a2I r.reverse).length=8*r.length/\val (a2I r.reverse)=wv 18446744073709551616 r.reverse:=by
 induction r with
 | nil=>exact ⟨rfl,rfl⟩
 | cons x r ih=>
  rw [List.reverse_cons] at h ⊢;obtain ⟨h1,h2⟩:=ih fun w hw=>h w (List.mem_append_left _ hw);rw [a9Q,a8q,b5T,h1,h2,b6P (h x (by simp)),List.length_reverse,c8A,a8l,h1,c8R];refine ⟨by omega,?_⟩;rw [Nat.pow_mul,show (256:Nat) ^ 8=18446744073709551616 by decide,Nat.mul_comm x,Nat.add_comm]
theorem b1s {l:List Nat} (h:O0 l):(a2I l).length=8*l.length:=by
 have:=(b1Z l.reverse (by simpa using h)).1;simpa using this
theorem b8h {l:List Nat} (h:O0 l):val (a2I l)=wv 18446744073709551616 l:=by
 have:=(b1Z l.reverse (by simpa using h)).2;simpa using this
def a2B (l:List Nat) (i k:Nat):List UInt8:=List.replicate (8*(l.length-1-i)) 0++((be8 (l.getD i 0)).take k++List.replicate (8-k) 0)++a2I (l.take i)
def a4R (l:List Nat) (i:Nat):List UInt8:=List.replicate (8*(l.length-i)) 0++a2I (l.take i)
theorem b8g (l:List Nat):a4R l 0=List.replicate (8*l.length) 0:=by simp [a4R,a2I]
theorem b4V (l:List Nat):a4R l l.length=a2I l:=by simp [a4R]
theorem b1O {l:List Nat} {i:Nat} (h:i < l.length):a2B l i 0=a4R l i:=by
 rw [a2B,a4R,List.take_zero,List.nil_append,Nat.sub_zero,List.replicate_append_replicate];congr 2;omega
theorem b0i {l:List Nat} {i:Nat} (h:i < l.length):a2B l i 8=a4R l (i+1):=by
 have e:l.take (i+1)=l.take i++[l.getD i 0]:=by
  rw [List.take_add_one,c8C,c8q h];rfl
 rw [a2B,a4R,e,a9Q,c8P (by rw [a8l];exact c8B _),Nat.sub_self,List.replicate_zero,List.append_nil,c9j];congr 3;omega
theorem b2O {l:List Nat} (hl:O0 l) {i k:Nat} (h:i < l.length) (hk:k<=8):(a2B l i k).length=8*l.length:=by
 simp only [a2B,c8A,List.length_replicate,c8E,a8l,b1s (hl.take i),c8E];omega
theorem b1y {l:List Nat} {i k:Nat} (hk:k < 8):(a2B l i k).set (8*(l.length-1-i)+k) (oB (l.getD i 0 / 2 ^ (56-8*k)))=a2B l i (k+1):=by
 have e:(be8 (l.getD i 0)).take (k+1)=(be8 (l.getD i 0)).take k++[oB (l.getD i 0 / 2 ^ (56-8*k))]:=by
  rw [List.take_add_one,c3M _ _ hk];rfl
 have e2:List.replicate (8-k) (0:UInt8)=0::List.replicate (8-(k+1)) 0:=by rw [<- List.replicate_succ];congr 1;omega
 have hlk:((be8 (l.getD i 0)).take k).length=k:=by rw [c8E,a8l];omega
 rw [a2B,a2B,e,e2,List.set_append_left _ _ (by simp only [c8A,List.length_replicate,hlk,c8R];omega),List.set_append_right _ _ (by simp),List.length_replicate,Nat.add_sub_cancel_left,List.set_append_right _ _ (by omega),hlk,Nat.sub_self,List.set_cons_zero,c9j (List.take k _),List.singleton_append]
theorem b8S (n:Nat):val (oB (2 ^ (n % 8))::List.replicate (n / 8) 0)=2 ^ n:=by
 have h0:val (List.replicate (n / 8) (0:UInt8))=0:=by
  generalize n / 8=k
  induction k with
  | zero=>rfl
  | succ k ih=>rw [List.replicate_succ,a0o,ih];simp
 have h1:2 ^ (n % 8) < 256:=by
  have:2 ^ (n % 8)<=2 ^ 7:=c8Y (by decide) (by omega);omega
 rw [a0o,h0,a2F,Nat.mod_eq_of_lt h1,List.length_replicate,Nat.add_zero,show (256:Nat)=2 ^ 8 by decide,<- Nat.pow_mul,<- Nat.pow_add];congr 1;omega
end Nm
end Go.Proofs.YtpnbklgbfhgknaaGreatDoor
