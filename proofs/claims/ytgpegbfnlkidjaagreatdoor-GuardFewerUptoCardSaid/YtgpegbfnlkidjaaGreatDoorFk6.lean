/- A part of the proof: lemmas only, with the conditions that each names. -/
import Derived.Shelf.Small.Bits
import Derived.Shelf.Small.Strs
import Derived.Shelf.Small.Wraps
import Derived.Shelf.Strconv.Itoa0
import Derived.Shelf.Spec.TrailingZeros
import Derived.Shelf.SlSortCmp.NoneTotal
import Derived.Ground.SlsfProg
import Derived.Test.YtgpegbfnlkidjaaGreatDoorProg
import Derived.KernelRfl
import Derived.Shelf.Strings.SlTrimAscii
import Derived.Test.YtgpegbfnlkidjaaGreatDoorFk5
set_option linter.all false
namespace Go.Proofs.YtgpegbfnlkidjaaGreatDoor
abbrev Cl:=Int × Int
def b4W (a b:Int):Int:=if a < b then -1 else if b < a then 1 else 0
def a1e (a b:Cl):Int:=if b4W a.2 b.2=0 then b4W a.1 b.1 else b4W a.2 b.2
def ltC (a b:Cl):Bool:=decide (a1e a b < 0)
theorem c3R {a b:Cl}:a1e a b < 0 <-> a.2 < b.2 \/ (a.2=b.2/\a.1 < b.1):=by
 obtain ⟨a1,a2⟩:=a
 obtain ⟨b1,b2⟩:=b
 simp only [a1e,b4W]
 split<;>(try split)<;>(try split)<;>(try split)<;>omega
theorem b7i {a b:Cl}:a1e a b=0 <-> a=b:=by
 obtain ⟨a1,a2⟩:=a
 obtain ⟨b1,b2⟩:=b
 rw [Prod.mk.injEq]
 simp only [a1e,b4W]
 split<;>(try split)<;>(try split)<;>(try split)<;>omega
theorem b1N {a b:Cl}:ltC a b=true <-> a.2 < b.2 \/ (a.2=b.2/\a.1 < b.1):=by
 unfold ltC;rw [decide_eq_true_iff,c3R]
theorem a8v {a b:Cl}:ltC a b=false <-> ¬ (a.2 < b.2 \/ (a.2=b.2/\a.1 < b.1)):=by
 rw [<- b1N,Bool.not_eq_true]
theorem a2Z (a:Cl):ltC a a=false:=by rw [a8v];omega
theorem a5q {a b c:Cl} (h:ltC a b=true) (k:ltC b c=true):ltC a c=true:=by rw [b1N] at *;omega
theorem b0N {a b c:Cl} (h:ltC a b=false) (k:ltC b c=false):ltC a c=false:=by rw [a8v] at *;omega
theorem b2N {a b:Cl} (h:ltC a b=false) (k:ltC b a=false):a=b:=by
 rw [a8v] at *
 exact Prod.ext (by omega) (by omega)
theorem c5L {a b c:Cl} (h:ltC b a=false) (k:ltC b c=true):ltC a c=true:=by rw [a8v] at h;rw [b1N] at *;omega
def Up (l:List Cl):Prop:=l.Pairwise fun a b=>ltC a b=true
theorem Up.sub {l m:List Cl} (h:Up l) (s:m.Sublist l):Up m:=h.sublist s
theorem Up.get {l:List Cl} (h:Up l) {i j:Nat} {x y:Cl} (hij:i < j) (hi:l[i]?=some x) (hj:l[j]?=some y):ltC x y=true:=by
 obtain ⟨a,rfl⟩:=c7m.1 hi
 obtain ⟨b,rfl⟩:=c7m.1 hj
 exact List.pairwise_iff_getElem.1 h i j a b hij
def dd (l:List Cl):Nat->List Cl
 | 0=>[]
 | r+1=>if 0 < r/\l[r-1]?=l[r]? then dd l r else dd l r++(l[r]?).toList
theorem b5i {l:List Cl} {r:Nat} {x y:Cl} (hr:0 < r) (hx:l[r]?=some x) (hy:l[r-1]?=some y) (h:x=y):dd l (r+1)=dd l r:=by
 show (if 0 < r/\l[r-1]?=l[r]? then dd l r else dd l r++(l[r]?).toList)=_
 rw [if_pos ⟨hr,by rw [hx,hy,h]⟩]
theorem c0P {l:List Cl} {r:Nat} {x y:Cl} (hx:l[r]?=some x) (hy:l[r-1]?=some y) (h:x ≠ y):dd l (r+1)=dd l r++[x]:=by
 show (if 0 < r/\l[r-1]?=l[r]? then dd l r else dd l r++(l[r]?).toList)=_
 rw [if_neg (fun k=>h (by have:=k.2;rw [hx,hy] at this;injection this with this;exact this.symm)),hx]
 rfl
theorem c6a {l:List Cl} {x:Cl} (hx:l[0]?=some x):dd l 1=[x]:=by
 show (if 0 < 0/\l[0-1]?=l[0]? then dd l 0 else dd l 0++(l[0]?).toList)=_
 rw [if_neg (fun k=>absurd k.1 (Nat.lt_irrefl _)),hx]
 rfl
theorem b4Z {l:List Cl}:∀ r:Nat,r<=l.length->(∀ j,0 < j->j < r->l[j]? ≠ l[j-1]?)->dd l r=l.take r
 | 0,_,_=>by simp [dd]
 | r+1,hr,h=>by
  have ih:=b4Z r (by omega) fun j h0 h1=>h j h0 (by omega)
  have hx:=c7h (show r < l.length by omega)
  generalize l[r]'_=x at hx
  show (if 0 < r/\l[r-1]?=l[r]? then dd l r else dd l r++(l[r]?).toList)=_
  rw [if_neg (fun k=>h r k.1 (by omega) k.2.symm),ih,List.take_add_one]
theorem a6C {l:List Cl} (hs:l.Pairwise fun a b=>ltC b a=false):∀ r:Nat,r<=l.length->Up (dd l r)/\(∀ x,x ∈ dd l r <-> x ∈ l.take r)/\(dd l r).length<=r
 | 0,_=>⟨List.Pairwise.nil,by simp [dd],c7p _⟩
 | r+1,hr=>by
  obtain ⟨h1,h2,h3⟩:=a6C hs r (by omega)
  have hx:=c7h (show r < l.length by omega)
  generalize l[r]'_=x at hx
  have ht:l.take (r+1)=l.take r++[x]:=by rw [List.take_add_one,hx];rfl
  rw [ht]
  rcases c7E r with h0|h0
  ·subst h0
   rw [c6a hx]
   exact ⟨List.pairwise_singleton _ _,by simp,by simp⟩
  ·have hy:=c7h (show r-1 < l.length by omega)
   generalize l[r-1]'_=y at hy
   have hyt:y ∈ l.take r:=c7k (i:=r-1) (by rw [List.getElem?_take,if_pos (by omega)];exact hy)
   by_cases hxy:x=y
   ·rw [b5i h0 hx hy hxy]
    subst hxy
    refine ⟨h1,fun z=>?_,by omega⟩
    rw [h2,List.mem_append,List.mem_singleton]
    exact ⟨.inl,fun h=>h.elim id fun e=>e ▸ hyt⟩
   ·rw [c0P hx hy hxy]
    have pw:=List.pairwise_iff_getElem.1 hs
    have get:∀ {i j:Nat} {a b:Cl},i < j->l[i]?=some a->l[j]?=some b->ltC b a=false:=fun {i j a b} hij hi hj=>by
     obtain ⟨p,rfl⟩:=c7m.1 hi
     obtain ⟨q,rfl⟩:=c7m.1 hj
     exact pw i j p q hij
    have hyx:ltC y x=true:=by
     have h:=get (show r-1 < r by omega) hy hx
     cases hc:ltC y x with
     | true=>rfl
     | false=>exact absurd (b2N h hc) hxy
    refine ⟨List.pairwise_append.2 ⟨h1,List.pairwise_singleton _ _,fun z hz w hw=>?_⟩,fun z=>?_,by rw [c7t];simp;omega⟩
    ·rw [List.mem_singleton] at hw
     subst hw
     rw [h2] at hz
     obtain ⟨j,hj⟩:=List.mem_iff_getElem?.1 hz
     rw [List.getElem?_take] at hj
     split at hj
     ·rcases c7D j (r-1) with h|h
      ·exact c5L (get h hj hy) hyx
      ·have:j=r-1:=by omega
       subst this
       rw [hy] at hj
       injection hj with hj
       rw [<- hj]
       exact hyx
     ·cases hj
    ·rw [List.mem_append,List.mem_append,h2]
def leC (a b:Cl):Bool:=!ltC b a
def M4 (l:List Cl):List Cl:=dd (l.mergeSort leC) (l.mergeSort leC).length
theorem a7g (l:List Cl):(l.mergeSort leC).Pairwise fun a b=>ltC b a=false:=by
 have h:=List.pairwise_mergeSort (le:=leC) (fun a b c h1 h2=>by
  unfold leC at *
  rw [Bool.not_eq_true'] at *
  exact b0N h2 h1) (fun a b=>by
  unfold leC
  cases h:ltC b a with
  | false=>rfl
  | true=>
   cases k:ltC a b with
   | false=>rfl
   | true=>exact absurd (a5q h k) (by rw [a2Z];decide)) l
 exact h.imp fun {a b} k=>by unfold leC at k;rwa [Bool.not_eq_true'] at k
theorem a9O (l:List Cl):Up (M4 l):=(a6C (a7g l) _ (c7p _)).1
theorem a5L {l:List Cl} {x:Cl}:x ∈ M4 l <-> x ∈ l:=by
 unfold M4
 rw [(a6C (a7g l) _ (c7p _)).2.1,c7y,List.mem_mergeSort]
theorem a4d (l:List Cl):(M4 l).length<=l.length:=by
 have:=(a6C (a7g l) _ (c7p _)).2.2
 rw [List.length_mergeSort] at this
 unfold M4
 rwa [List.length_mergeSort]
def a3c (a b:List Cl):List Cl:=M4 (a++b)
def a0K (l:List Cl) (c:Cl):Bool:=l.contains c
def a0k (a b:List Cl):Bool:=a.all fun c=>a0K (M4 b) c
def a1F (a b:List Cl):List Cl:=(M4 a).filter fun c=>a0K (M4 b) c
theorem a9j {a b:List Cl}:a0k a b=true <-> ∀ c ∈ a,c ∈ b:=by
 unfold a0k a0K
 simp only [List.all_eq_true,List.contains_iff_mem,a5L]
theorem b2x {a b:List Cl} {x:Cl}:x ∈ a1F a b <-> x ∈ a/\x ∈ b:=by
 unfold a1F a0K
 rw [List.mem_filter,a5L,List.contains_iff_mem,a5L]
theorem b8c {l:List Cl} (hu:Up l) {t:Cl} {i:Nat} (h1:∀ k x,k < i->l[k]?=some x->ltC x t=true) (h2:∀ k x,i<=k->l[k]?=some x->ltC x t=false) :
  a0K l t=match l[i]? with|some x=>decide (a1e x t=0)|none=>false:=by
 unfold a0K
 have mem:l.contains t=true->l[i]?=some t:=fun h=>by
  obtain ⟨m,hm⟩:=List.mem_iff_getElem?.1 (List.contains_iff_mem.1 h)
  rcases Nat.lt_trichotomy m i with k|k|k
  ·have:=h1 m t k hm
   rw [a2Z] at this
   cases this
  ·rw [<- k];exact hm
  ·have hi:=c7h (show i < l.length by have:=(c7m.1 hm).1;omega)
   have a:=hu.get k hi hm
   rw [h2 i _ (c7p _) hi] at a
   cases a
 cases h:l.contains t with
 | true=>rw [mem h];simp [b7i]
 | false=>
  cases hi:l[i]? with
  | none=>rfl
  | some x=>
   simp only
   refine (decide_eq_false fun e=>?_).symm
   rw [b7i] at e
   subst e
   rw [List.contains_iff_mem.2 (c7k hi)] at h
   cases h
end Go.Proofs.YtgpegbfnlkidjaaGreatDoor
namespace Go.Proofs
open Go.Shelf
def Tryz.a4h:Go.Shelf.Ren:=⟨fun|6=>117|15=>164|14=>163|28=>193|29=>194|20=>185|21=>186|22=>187|23=>188|24=>189|25=>190|26=>191|27=>192|46=>209|47=>210|48=>211|49=>212|50=>213|57=>218|n=>n,fun|22=>43|24=>53|25=>127|3=>3|39=>223|0=>0|53=>222|55=>218|4=>4|46=>248|45=>247|50=>200|5=>5|9=>9|66=>265|70=>269|76=>274|77=>168|n=>n,fun|n=>n⟩
theorem Tryz.b2w:Go.Proofs.SlLaysF0.n6 Tryz.prog Tryz.a4h:={
 mixed:=by kernel_rfl
 f6:=⟨Tryz.f117.name,by decide,Tryz.func117.trans (congrArg some (by kernel_rfl))⟩
 f14:=⟨Tryz.f163.name,by decide,Tryz.func163.trans (congrArg some (by kernel_rfl))⟩
 f15:=Tryz.func164.trans (congrArg some (by kernel_rfl))
 f20:=⟨Tryz.f185.name,by decide,Tryz.func185.trans (congrArg some (by kernel_rfl))⟩
 f21:=⟨Tryz.f186.name,by decide,Tryz.func186.trans (congrArg some (by kernel_rfl))⟩
 f22:=⟨Tryz.f187.name,by decide,Tryz.func187.trans (congrArg some (by kernel_rfl))⟩
 f23:=⟨Tryz.f188.name,by decide,Tryz.func188.trans (congrArg some (by kernel_rfl))⟩
 f24:=⟨Tryz.f189.name,by decide,Tryz.func189.trans (congrArg some (by kernel_rfl))⟩
 f25:=⟨Tryz.f190.name,by decide,Tryz.func190.trans (congrArg some (by kernel_rfl))⟩
 f26:=⟨Tryz.f191.name,by decide,Tryz.func191.trans (congrArg some (by kernel_rfl))⟩
 f27:=⟨Tryz.f192.name,by decide,Tryz.func192.trans (congrArg some (by kernel_rfl))⟩
 f28:=Tryz.func193.trans (congrArg some (by kernel_rfl))
 f29:=Tryz.func194.trans (congrArg some (by kernel_rfl))
 f46:=⟨Tryz.f209.name,by decide,Tryz.func209.trans (congrArg some (by kernel_rfl))⟩
 f47:=Tryz.func210.trans (congrArg some (by kernel_rfl))
 f48:=Tryz.func211.trans (congrArg some (by kernel_rfl))
 f49:=⟨Tryz.f212.name,by decide,Tryz.func212.trans (congrArg some (by kernel_rfl))⟩
 f50:=⟨Tryz.f213.name,by decide,Tryz.func213.trans (congrArg some (by kernel_rfl))⟩
 f57:=⟨Tryz.f218.name,by decide,Tryz.func218.trans (congrArg some (by kernel_rfl))⟩
 t0:=Tryz.underlying0
 a0:=Tryz.isAgg0
 z0:=Tryz.sizeOf0
 v0:=Tryz.zeroValue0
 t3:=Tryz.underlying3
 a3:=Tryz.isAgg3
 z3:=Tryz.sizeOf3
 v3:=Tryz.zeroValue3
 t4:=Tryz.underlying4
 a4:=Tryz.isAgg4
 z4:=Tryz.sizeOf4
 v4:=Tryz.zeroValue4
 t5:=Tryz.underlying5
 a5:=Tryz.isAgg5
 z5:=Tryz.sizeOf5
 v5:=Tryz.zeroValue5
 t9:=Tryz.underlying9
 a9:=Tryz.isAgg9
 z9:=Tryz.sizeOf9
 v9:=Tryz.zeroValue9
 t22:=Tryz.underlying43
 a22:=Tryz.isAgg43
 z22:=Tryz.sizeOf43
 v22:=Tryz.zeroValue43
 t25:=Tryz.underlying127
 a25:=Tryz.isAgg127
 z25:=Tryz.sizeOf127
 v25:=Tryz.zeroValue127
 t39:=Tryz.underlying223
 a39:=Tryz.isAgg223
 z39:=Tryz.sizeOf223
 v39:=Tryz.zeroValue223
 t45:=Tryz.underlying247
 a45:=Tryz.isAgg247
 z45:=Tryz.sizeOf247
 v45:=Tryz.zeroValue247
 t46:=Tryz.underlying248
 a46:=Tryz.isAgg248
 z46:=Tryz.sizeOf248
 v46:=Tryz.zeroValue248
 t50:=Tryz.underlying200
 a50:=Tryz.isAgg200
 z50:=Tryz.sizeOf200
 v50:=Tryz.zeroValue200
 t53:=Tryz.underlying222
 a53:=Tryz.isAgg222
 z53:=Tryz.sizeOf222
 v53:=Tryz.zeroValue222
 t55:=Tryz.underlying218
 a55:=Tryz.isAgg218
 z55:=Tryz.sizeOf218
 v55:=Tryz.zeroValue218
 t66:=Tryz.underlying265
 a66:=Tryz.isAgg265
 z66:=Tryz.sizeOf265
 v66:=Tryz.zeroValue265
 t70:=Tryz.underlying269
 a70:=Tryz.isAgg269
 z70:=Tryz.sizeOf269
 v70:=Tryz.zeroValue269
 t76:=Tryz.underlying274
 a76:=Tryz.isAgg274
 z76:=Tryz.sizeOf274
 v76:=Tryz.zeroValue274
 t77:=Tryz.underlying168
 a77:=Tryz.isAgg168
 z77:=Tryz.sizeOf168
 v77:=Tryz.zeroValue168 }
def Tryz.b6I:Go.Shelf.Ren:=⟨fun|122=>124|215=>166|n=>n,fun|3=>3|4=>4|n=>n,fun|n=>n⟩
theorem Tryz.c4s:Go.Proofs.Lays.n122 Tryz.prog Tryz.b6I:={
 mixed:=by kernel_rfl
 f122:=Tryz.func124.trans (congrArg some (by kernel_rfl))
 f215:=Tryz.func166.trans (congrArg some (by kernel_rfl))
 t3:=Tryz.underlying3
 a3:=Tryz.isAgg3
 z3:=Tryz.sizeOf3
 v3:=Tryz.zeroValue3
 t4:=Tryz.underlying4
 a4:=Tryz.isAgg4
 z4:=Tryz.sizeOf4
 v4:=Tryz.zeroValue4 }
open Go.RowKit in
theorem Tryz.cmp_Compare_int (x y:Int) (w:World) :
  Calls Tryz.prog 124 #[.int .i64 x,.int .i64 y] w fun e w'=>e=.returned (.int .i64 (Lib.compareInt x y))/\w'=w:=Any.cmp_Compare_int Tryz.c4s x y w
end Go.Proofs
namespace Go.Proofs.YtgpegbfnlkidjaaGreatDoor
open Go Go.RowKit Go.Lib Go.Sort Eng
set_option maxRecDepth 100000
set_option maxHeartbeats 4000000
def ce (p:Cl):List C:=[.v (.int .i64 p.1),.v (.int .i64 p.2)]
def cls (l:List Cl):C:=.sl 2 (l.map ce)
def cv (p:Cl):List Value:=[.int .i64 p.1,.int .i64 p.2]
theorem c5r {l:List Cl}:∀ q ∈ l.map ce,q.length=2:=fun q hq=>by
 obtain ⟨p,_,rfl⟩:=List.mem_map.1 hq
 rfl
theorem b3S {l:List Cl}:∀ q ∈ l.map cv,q.length=2:=fun q hq=>by
 obtain ⟨p,_,rfl⟩:=List.mem_map.1 hq
 rfl
theorem b8C:∀ l:List Cl,(l.map ce).flatten=((l.map cv).flatten).map C.v
 | []=>rfl
 | p::l=>by
  rw [c7w,List.flatten_cons,b8C l,c7w,List.flatten_cons,c7X]
  rfl
theorem c3d {w:World} {O:Nat->Prop}:∀ (xs vs:List Value),FzL w O (xs.map C.v) vs->vs=xs
 | [],vs,h=>by simpa only [c7I,FzL] using h
 | x::xs,vs,h=>by
  simp only [c7w,FzL,Fz] at h
  obtain ⟨y,ys,rfl,rfl,h⟩:=h
  rw [c3d xs ys h]
theorem flat_get {α:Type} {es:List (List α)} {sz k i:Nat} {q:List α} (hl:∀ q ∈ es,q.length=sz) (hq:es[k]?=some q) (hi:i < sz):es.flatten[k*sz+i]?=q[i]?:=by
 rw [<- a2n hl hq,List.getElem?_take,if_pos hi,c7U]
theorem b7z (l:List Cl):(flatK cv 2 l.toArray).toList=(l.map cv).flatten:=by
 apply List.ext_getElem?
 intro j
 have hlen:(l.map cv).flatten.length=l.length*2:=by rw [P6 (sz:=2) b3S,c7i]
 rcases c7D j (l.length*2) with h|h
 ·have hk:j / 2 < l.length:=by omega
  have e1:(l.map cv)[j / 2]?=some (cv l[j / 2]):=by rw [c7r,c7h hk];rfl
  have e2:=flat_get (i:=j % 2) b3S e1 (by omega)
  rw [show j / 2*2+j % 2=j by omega] at e2
  rw [e2]
  simp only [flatK,Array.getElem?_toList,Array.getElem?_map,Array.getElem?_range,List.size_toArray]
  rw [if_pos h,c7j,getElem!_pos l.toArray (j / 2) (by simpa using hk)]
  have e3:(cv l[j / 2])[j % 2]?=some ((cv l[j / 2])[j % 2]!):=by
   rcases (show j % 2=0 \/ j % 2=1 by omega) with h|h<;>rw [h]<;>rfl
  rw [e3]
  rfl
 ·rw [c7J (by simpa using h),c7J (by omega)]
theorem b7k (x1 x2 y1 y2:Int) (W:World):Calls Tryz.prog 61 #[.agg #[.int .i64 x1,.int .i64 x2],.agg #[.int .i64 y1,.int .i64 y2]] W fun e w'=>e=.returned (.int .i64 (a1e (x1,x2) (y1,y2)))/\∃ q os',w'=grow (W.drewN q) os':=by
 have he:a1e (x1,x2) (y1,y2)=if Lib.compareInt x2 y2=0 then Lib.compareInt x1 y1 else Lib.compareInt x2 y2:=rfl
 rw [he]
 have h:=fun a b W'=>Tryz.cmp_Compare_int a b W'
 clear he
 generalize Lib.compareInt=cf at *
 go_enter Tryz.func61,Tryz.ntmps61
 go_wp2_with (go_at_call 124;refine (h _ _ _).mono ?_;rintro e w' ⟨rfl,rfl⟩)
 all_goals (go_ret;exact ⟨by simp_all,0,_,by rw [alloc_eq_grow,alloc_eq_grow,grow_grow];rfl⟩)
theorem b7B (a b:Cl):A9 Tryz.prog 61 [.agg (ce a),.agg (ce b)] (ints (a1e a b)):=by
 intro O w vs hO hA
 simp only [FzL,ce,Fz] at hA
 obtain ⟨y,ys,rfl,⟨us,⟨z,zs,rfl,rfl,z2,zs2,rfl,rfl,rfl⟩,rfl⟩,y2,ys2,rfl,⟨us,⟨z,zs,rfl,rfl,z2,zs2,rfl,rfl,rfl⟩,rfl⟩,rfl⟩:=hA
 refine (b7k a.1 a.2 b.1 b.2 w).mono ?_
 rintro e w' ⟨rfl,q,os,rfl⟩
 refine ⟨_,rfl,⟨rfl,rfl,rfl,?_,fun k hk=>?_⟩,by simp only [ints,Fz]⟩
 ·show w.heap.size<=(w.heap++os).size
  simp
 ·show (w.heap++os)[k]?=w.heap[k]?
  rw [Array.getElem?_append_left hk]
theorem c5J {E:Ctx} (hP:E.P=Tryz.prog) (es:List Cl) (hn:es.length < 4611686018427387904) :
    j6 E [.row 53 2 (es.map ce)] 117 [.rv 0,.v (.func (.func 61) #[] #[])] (.v (.tuple #[])) [.row 53 2 ((es.mergeSort leC).map ce)] []:=by
  obtain ⟨P,eff',N,w0,own0,av0,nu0,pk0⟩:=E
  simp only at hP
  subst hP
  intro av ν w vs hR hav hF hD
  simp only [l8,Den] at hD
  obtain ⟨x,ys,rfl,⟨hx,_⟩,y2,ys2,rfl,rfl,rfl⟩:=hD
  obtain ⟨hl,vs,hFz,hone,hrow⟩:=hR.get (k:=0) rfl hx
  have hν:ν=[x]:=by
    have hlen:=hR.len
    match ν,hlen,hx with
    | [z],_,h=>simp at h;rw [h]
  subst hν
  have hvs:vs=(es.map cv).flatten:=c3d _ _ (by rw [<- b8C];exact hFz)
  rw [c7i] at hrow
  have fin:∀ w',RG av own0 w0.heap.size [x] ([Res.row 53 2 (es.map ce)].set 0 (.row 53 2 ((es.mergeSort leC).map ce))) w'/\Mv [Res.row 53 2 (es.map ce)] [x] w [] ([Res.row 53 2 (es.map ce)].set 0 (.row 53 2 ((es.mergeSort leC).map ce))) [x] w' ->
      ∃ ν',RG av own0 w0.heap.size ν' [.row 53 2 ((es.mergeSort leC).map ce)] w'/\Mv [.row 53 2 (es.map ce)] [x] w [] [.row 53 2 ((es.mergeSort leC).map ce)] ν' w'/\Den ν' w' (OO av [.row 53 2 ((es.mergeSort leC).map ce)] ν') (.v (.tuple #[])) (.tuple #[]):=
    fun w' h=>⟨[x],h.1,h.2,by simp only [Den]⟩
  rcases hrow.2 with ⟨h0,A,rfl⟩|⟨g,cap,cur,rfl,hc0,hg,hnc,hcm,hcs,htake⟩
  · have he:es=[]:=c7K h0
    subst he
    have h:=AnyF.slices_SortFunc_none (P:=Tryz.prog) (ρ:=Tryz.a4h) { Tryz.b2w with } A 0 (.func (.func 61) #[] #[]) w
    refine h.mono ?_
    rintro e w' ⟨rfl,rfl⟩
    refine (fin _ ?_).elim fun ν' h=>⟨_,ν',rfl,h⟩
    rw [show ([]:List Cl).mergeSort leC=[] by simp,set_self rfl]
    exact ⟨hR,Mv.of_below (Below.refl _ _)⟩
  · have hgl:g < w.heap.size:=(Array.getElem?_eq_some_iff.1 hg).1
    have hcz:es.length*2<=cur.size:=by rw [hcs];exact c7M _ hnc
    have hH:HoldsK cv 2 w g 0 es.toArray:=by
      intro j hj
      rw [size_flatK,List.size_toArray] at hj
      have e1:(flatK cv 2 es.toArray)[j]! = cur[j]'(by omega):=by
        have h1:(flatK cv 2 es.toArray).toList[j]?=cur.toList[j]?:=by
          rw [b7z,<- hvs,<- htake,List.getElem?_take,if_pos hj]
        rw [Array.getElem?_toList,Array.getElem?_toList,Array.getElem?_eq_getElem (show j < cur.size by omega),Array.getElem?_eq_getElem (show j < (flatK cv 2 es.toArray).size by rw [size_flatK,List.size_toArray];exact hj)] at h1
        injection h1 with h1
        rw [getElem!_pos _ _ (by rw [size_flatK,List.size_toArray];exact hj),h1]
      rw [e1]
      have hj2:j < cur.size:=by omega
      constructor
      · simp [World.cell?,hg,hj2]
      · simp [World.frozen?,hg]
    have hcmp:CmpLays Tryz.prog 61 #[] cv 2 a1e g 0 es.toArray.size w:=fun _ _ _ _ a b=>b7k a.1 a.2 b.1 b.2 _
    have eg:∀ args w,(callFunc 61 args).run Tryz.prog w=.ok (.enter 61 args) w:=enters_of Tryz.func61 (by kernel_rfl) rfl
    have hswo:SWO (ltOf a1e):=⟨a2Z,fun _ _ _ h k=>a5q h k,fun _ _ _ h k=>b0N h k⟩
    have h:=AnyQ.slices_SortFunc_total (P:=Tryz.prog) (ρ:=Tryz.a4h) Tryz.b2w 2 Tryz.isAgg53 Tryz.sizeOf53 cv (fun _=>rfl) (fun a v hv=>by simp [cv] at hv;rcases hv with rfl|rfl<;>rfl) a1e hswo 61 #[] g 0 cap es.toArray w eg hcmp hH hgl (by simpa using hn) (fun _ _ h k=>b2N h k)
    have hsz:es.toArray.size=es.length:=by simp
    rw [hsz] at h
    refine Calls.mono h ?_
    rintro e w' ⟨rfl,n,os,rfl⟩
    refine (fin _ ?_).elim fun ν' h=>⟨_,ν',rfl,h⟩
    have hms:(List.mergeSort es.toArray.toList fun x y=>!(ltOf a1e) y x)=es.mergeSort leC:=rfl
    rw [hms]
    generalize hM:es.mergeSort leC=M
    have hml:M.length=es.length:=by rw [<- hM,List.length_mergeSort]
    have hheap:∀ k,k < w.heap.size->(sortWorldK cv 2 w g 0 n M.toArray os).heap[k]?=if g=k then some (.cells (putCells id 0 (flatK cv 2 M.toArray) cur) 53 (0,0)) else w.heap[k]?:=fun k hk=>by
      show ((w.heap.modify g (onCells (putCells id 0 (flatK cv 2 M.toArray))))++os)[k]?=_
      rw [Array.getElem?_append_left (by simpa using hk),Array.getElem?_modify]
      split
      · rename_i e
        subst e
        rw [hg]
        rfl
      · rfl
    refine hR.upd (r':=.row 53 2 (M.map ce)) rfl rfl ⟨rfl,rfl,rfl,?_,fun b hb hn=>?_⟩ (fun b hb=>hb) fun hkp=>?_
    · show w.heap.size<=((w.heap.modify g _)++os).size
      simp
    · rw [hheap b hb,if_neg fun e=>hn (by simp only [fp,D5];rw [if_neg (by omega),e])]
    · refine ⟨c5r,(M.map cv).flatten,by rw [b8C];exact FzL.vs _,fun u hu=>?_,?_⟩
      · obtain ⟨q,hq,hu⟩:=List.mem_flatten.1 hu
        obtain ⟨p,_,rfl⟩:=List.mem_map.1 hq
        simp [cv] at hu
        rcases hu with rfl|rfl<;>rfl
      · rw [c7i,hml]
        refine ⟨by rw [P6 (sz:=2) b3S,c7i,hml],.inr ⟨g,cap,_,rfl,hc0,by rw [hheap g hgl,if_pos rfl],hnc,hcm,by simpa [putCells] using hcs,?_⟩⟩
        rw [<- b7z]
        apply List.ext_getElem?
        intro j
        rw [List.getElem?_take]
        split
        · rename_i hj
          have hj':j < (flatK cv 2 M.toArray).size:=by rw [size_flatK,List.size_toArray,hml];exact hj
          have hj2:j < cur.size:=by omega
          simp only [Array.getElem?_toList,putCells,Array.getElem?_mapIdx]
          rw [Array.getElem?_eq_getElem hj2,c7j,if_pos ⟨c7n _,by omega⟩,Array.getElem?_eq_getElem hj',Nat.sub_zero,getElem!_pos (flatK cv 2 M.toArray) j hj']
          rfl
        · rename_i hj
          rw [c7J]
          rw [Array.length_toList,size_flatK,List.size_toArray,hml]
          omega
open Go Eng
open Go Go.RowKit Eng
set_option maxHeartbeats 8000000
theorem j6.vg {E:Ctx} {rs rs2 rs':List Res} {f:Nat} {args args':List C} {s:C} {pk:List Nat} (h:j6 E rs2 f args' s rs' pk) (hi:j4 rs rs2 args args') (hrs:D8 rs rs2 rs2 rs) (hlen:rs2.length=rs.length):j6 E rs f args s rs' pk:=by
 intro av ν w vs hR hav hF hD
 have hk:=a1z hrs
 have hD':=hi.den hR (Cut.of hR hk) hD
 have et:ν.take rs2.length=ν:=by rw [hlen,<- hR.len];exact c7y
 rw [et] at hD'
 have hR2:=hR.weak hrs
 rw [et] at hR2
 refine (h av ν w vs hR2 hav hF hD').mono ?_
 rintro e w' ⟨y,ν',rfl,h1,h2,h3⟩
 exact ⟨y,ν',rfl,h1,⟨h2.os,h2.tape,h2.output,h2.size,fun b hb hn=>h2.block b hb (fun ho=>hn (a2W hk ho)),fun b hb=>(h2.own b hb).imp (a2W hk) id,h2.nu⟩,h3⟩
theorem c4h (n:Nat) (hn:n<=1000000000):FNew Tryz.prog 23 [.v (.slice none 0 0),ints n] 53 2 []:=by
 refine FNew.of (eff:=eff) Tryz.func23 (by cbv) (by exact c7z rfl) fun w O=>?_
 simp only [j5,TT,II,OA,OB,MM,ints]
 (repeat first|refine uA ?_|(apply uK;focus first|omega|(intros;simp_all<;>omega))|simp (disch:=omega) only [go_sem,Nat.reduceBEq,Nat.reduceAdd])
 (refine uJ rfl (fun hc=>?_) fun hc=>?_)
 ·omega
 (repeat first|refine uA ?_|(apply uK;focus omega)|simp (disch:=omega) only [go_sem,Nat.reduceBEq,ww])
 (refine uJ rfl (fun hc=>?_) fun hc=>?_)
 ·(repeat first|refine uA ?_|(apply uK;focus omega)|simp (disch:=omega) only [go_sem,Nat.reduceBEq])
  refine S.weaken (Ent.shrink 4 0 rfl rfl (c7n _) ⟨.inr (c7n _),trivial⟩) ?_
  exact S.done (j3.new rfl rfl rfl)
 ·(repeat first|refine uA ?_|(apply uK;focus omega)|simp (disch:=omega) only [go_sem,Nat.reduceBEq])
  refine S.weaken (Ent.pack 4 53 2 rfl) ?_
  exact S.done (j3.new rfl rfl rfl)
def P7 (ls:List (List Cl)):C:=.sl 1 (ls.map fun l=>[cls l])
theorem b3g {ls:List (List Cl)} {i:Nat} {l:List Cl} (h:ls[i]?=some l):(ls.take (i+1)).flatten=(ls.take i).flatten++l:=by
 rw [List.take_add_one,h,List.flatten_append]
 simp
def a2o (ls:List (List Cl)) (i:Nat):Nat:=((ls.take i).flatten).length
theorem c0p (ls:List (List Cl)):a2o ls 0=0:=by simp [a2o]
theorem c1s {ls:List (List Cl)} {i:Nat} {l:List Cl} (h:ls[i]?=some l):a2o ls (i+1)=a2o ls i+l.length:=by unfold a2o;rw [b3g h,c7t]
theorem b5K (ls:List (List Cl)) (hl:ls.length<=1000) (hn:∀ i,a2o ls i<=1000000000):FNew Tryz.prog 9 [P7 ls] 53 2 (ls.flatten.map ce):=by
 refine FNew.of (eff:=eff) Tryz.func9 (by cbv) (by exact c7z rfl) fun w O=>?_
 have hg:=c4h ls.flatten.length (by have:=hn ls.length;unfold a2o at this;rwa [c7y] at this)
 simp only [j5,TT,II,OA,OB,MM,VV,P7]
 (repeat first|refine uA ?_|(apply uK;focus omega)|simp (disch:=omega) only [go_sem,Nat.reduceBEq,c7i])
 refine S.loop (X:=Nat) (fun i=>⟨[(0,P7 ls),(3,ints (a2o ls i:Nat)),(9,P7 ls),(10,ints ls.length),(11,ints i)],[]⟩) (fun i=>i<=ls.length) (fun i=>ls.length-i) 0 (c7n _) (by simp only [c0p];exact (by (repeat first|refine uA ?_|(refine ⟨?_,?_⟩;focus first|rfl|simp [slot])|rfl|simp))) ?_
 ·intro i hi
  simp only [P7,ints]
  (repeat first|refine uA ?_|(apply uK;focus omega)|simp (disch:=omega) only [go_sem,Nat.reduceBEq])
  (refine uJ rfl (fun hc=>?_) fun hc=>?_)
  ·have hi':i < ls.length:=by omega
   have hgl:=c7h hi'
   generalize ls[i]=l at hgl
   have hs:=c1s hgl
   have h1:=hn (i+1)
   generalize e1:a2o ls (i+1)=n1 at *
   generalize a2o ls i=n0 at *
   have hsi:(n0:Int)+(l.length:Int)=(n1:Int):=by omega
   (repeat first|refine uA ?_|(apply uK;focus omega)|simp (disch:=omega) only [go_sem,Nat.reduceBEq,ww,c7i,c7r,hgl,c7j,c7o,cls,hsi])
   (refine uJ rfl (fun hc=>?_) fun hc=>?_)
   ·omega
   (repeat first|refine uA ?_|(apply uK;focus omega)|simp (disch:=omega) only [go_sem,Nat.reduceBEq,ww])
   refine S.next (i+1) (by omega) (by omega) (by simp only [e1];exact (by (repeat first|refine uA ?_|(refine ⟨?_,?_⟩;focus first|rfl|simp [slot])|rfl|simp)))
  ·have hi':i=ls.length:=by omega
   subst hi'
   rw [show a2o ls ls.length=ls.flatten.length by unfold a2o;rw [c7y]]
   generalize hm:ls.flatten.length=m at hg
   (repeat first|refine uA ?_|(apply uK;focus omega)|simp (disch:=omega) only [go_sem,Nat.reduceBEq,c7i]|refine l9.t (FNew.t hg rfl) ?_)
   refine S.loop (X:=Nat) (fun i=>⟨[(6,.rv 0),(25,P7 ls),(26,ints ls.length),(27,ints i)],[.row 53 2 (((ls.take i).flatten).map ce)]⟩) (fun i=>i<=ls.length) (fun i=>ls.length-i) 0 (c7n _) (by simp only [List.take_zero,List.flatten_nil,c7I];exact (by (repeat first|refine uA ?_|(refine ⟨?_,?_⟩;focus first|rfl|simp [slot])|rfl|simp))) ?_
   intro i hi
   clear hg
   simp only [P7,ints]
   (repeat first|refine uA ?_|(apply uK;focus omega)|simp (disch:=omega) only [go_sem,Nat.reduceBEq])
   (refine uJ rfl (fun hc=>?_) fun hc=>?_)
   ·have hi':i < ls.length:=by omega
    have hgl:=c7h hi'
    generalize ls[i]=l at hgl
    have hs:=b3g hgl
    have h1:=hn (i+1)
    have h0:=hn i
    unfold a2o at h1 h0
    rw [hs,c7t] at h1
    generalize e1:(ls.take (i+1)).flatten=n1 at *
    generalize (ls.take i).flatten=n0 at *
    (repeat first|refine uA ?_|(apply uK;focus first|omega|(intros;simp_all<;>omega))|simp (disch:=omega) only [go_sem,Nat.reduceBEq,ww,c7i,c7r,hgl,c7j,c7o,cls])
    refine S.next (i+1) (by omega) (by omega) (by simp only [e1,hs,c7X];exact (by (repeat first|refine uA ?_|(refine ⟨?_,?_⟩;focus first|rfl|simp [slot])|rfl|simp)))
   ·have hi':i=ls.length:=by omega
    subst hi'
    rw [c7y]
    (repeat first|refine uA ?_|(apply uK;focus omega)|simp (disch:=omega) only [go_sem,Nat.reduceBEq])
    exact S.done (j3.new rfl rfl rfl)
def Y0:H6:=⟨61,[.tmp 2],.seq (.reg [OA 2 (.mv (.const (.slice none 0 0)))]) (.seq (.seq (.reg [MM 6 0,OA 7 (.len false (TT 6)),OA 8 (.bin .lss (TT 7) (II 2))]) (.cond (TT 8) (.seq (.reg [MM 9 0,MM 2 9]) .ret) .skip)) (.seq (.seq (.reg
 [OA 3 (.mv (II 1))]) (.block 0 (.loop (.seq (.seq (.reg [MM 10 3,MM 11 0,OA 12 (.len false (TT 11)),OA 13 (.bin .lss (TT 10) (TT 12))]) (.cond (TT 13) .skip (.exit 0))) (.seq (.block 1 (.seq (.y9 [.q,.q,.q,.q,.q,.q,
 .q,.q,.q,.q] [MM 16 0,MM 17 3,OA 18 (.l7 2 (TT 16) (TT 17)),LL 19 2 18,MM 20 0,MM 21 3,OA 22 (.bin .sub (TT 21) (II 1)),OA 23 (.l7 2 (TT 20) (TT 22)),LL 24 2 23,OA 25 (.aeq false [.i,.i] (TT 19) (TT 24))])
 (.cond (TT 25) (.seq (.reg [MM 26 0,MM 27 3,OA 28 (.a0L 2 (TT 26) (some (TT 27)) none),MM 4 28]) (.seq (.seq (.reg [OA 5 (.mv (II 1))]) (.block 2 (.loop (.seq (.seq (.reg [MM 29 5,MM 30 4,OA 31 (.len false (TT 30)),OA 32
 (.bin .lss (TT 29) (TT 31))]) (.cond (TT 32) .skip (.exit 2))) (.seq (.block 3 (.seq (.y9 [.q,.q,.q,.q,.q,.q,.q,.q,.q,.q] [MM 35 4,MM 36 5,OA 37 (.l7 2 (TT 35) (TT 36)),LL 38 2 37,MM 39 4,MM 40 5,OA 41 (.bin
 .sub (TT 40) (II 1)),OA 42 (.l7 2 (TT 39) (TT 41)),LL 43 2 42,OA 44 (.aeq true [.i,.i] (TT 38) (TT 43))]) (.cond (TT 44) (.seq (.reg [MM 45 0,MM 46 3,MM 47 4,MM 48 5,OA 49 (.l7 2 (TT 47) (TT 48)),LL 50 2 49,OA 51
 (.l7 2 (TT 45) (TT 46)),OB (.store 2 (TT 51) (TT 50))]) (.reg [MM 52 3,OA 53 (.bin .add (TT 52) (II 1)),MM 3 53])) .skip))) (.reg [MM 33 5,OA 34 (.bin .add (TT 33) (II 1)),MM 5 34])))))) (.seq (.reg [MM 54 0,MM 55 3,OA
 56 (.a0L 2 (TT 54) (some (TT 55)) none),OB (.clr [.int .i64 0,.int .i64 0] (TT 56))]) (.seq (.reg [MM 57 0,MM 58 3,OA 59 (.a0L 2 (TT 57) none (some (TT 58))),MM 2 59]) .ret)))) .skip))) (.reg [MM 14 3,OA 15 (.bin .add
 (TT 14) (II 1)),MM 3 15])))))) (.seq (.reg [MM 60 0,MM 2 60]) .ret)))⟩
theorem a1I:F3 eff Tryz.prog Tryz.f118=some Y0:=by kernel_rfl
theorem a1J:Tryz.prog.funcs[118]?=some Tryz.f118:=Tryz.func118
theorem c1e {E:Ctx} (hP:E.P=Tryz.prog) (l:List Cl) (hn:l.length<=1000000000) :
    j6 E [.row 53 2 (l.map ce)] 118 [.rv 0] (.wv 0 2 0 (dd l l.length).length) [.row 53 2 ((dd l l.length++List.replicate (l.length-(dd l l.length).length) (0,0)).map ce)] []:=by
  obtain ⟨P,eff',N,w0,own0,av0,nu0,pk0⟩:=E
  simp only at hP
  subst hP
  refine j6.of (eff:=eff) a1J a1I (by exact c7z rfl) fun w own av ν hν=>?_
  have hν0:ν.length<=1:=by rw [hν];exact c7p _
  have hall:(∀ j,0 < j->j < l.length->l[j]? ≠ l[j-1]?)->dd l l.length=l:=fun h=>by rw [b4Z l.length (c7p _) h,c7y]
  have same:(∀ j,0 < j->j < l.length->l[j]? ≠ l[j-1]?)->(dd l l.length).length=l.length/\(dd l l.length++List.replicate (l.length-(dd l l.length).length) (0,0)).map ce=l.map ce:=fun h=>by
    rw [hall h]
    simp
  clear hall
  simp only [Y0,j5,TT,II,OA,OB,MM,LL]
  (repeat first|refine uA ?_|(apply uK;focus omega)|simp (disch:=omega) only [go_sem,Nat.reduceBEq,c7i])
  (refine uJ rfl (fun hc=>?_) fun hc=>?_)
  · obtain ⟨h1,h2⟩:=same fun j h0 h1=>by omega
    rw [h2,h1]
    (repeat first|refine uA ?_|(apply uK;focus omega)|simp (disch:=omega) only [go_sem,Nat.reduceBEq])
    exact S.done (j3.K9 (Imp.win rfl (by rw [c7i]) Nat.zero_lt_one) (by (repeat first|refine uA ?_|rfl|simp [slot])) hν0)
  (repeat first|refine uA ?_|(apply uK;focus omega)|simp (disch:=omega) only [go_sem])
  refine S.loop (X:=Nat) (fun k=>⟨[(0,.rv 0),(3,ints k)],[.row 53 2 (l.map ce)]⟩) (fun k=>(1<=k/\k<=l.length)/\∀ j,0 < j->j < k->l[j]? ≠ l[j-1]?) (fun k=>l.length-k) 1 ⟨⟨c7p _,by omega⟩,fun j h0 h1=>by omega⟩ (by (repeat first|refine uA ?_|(refine ⟨?_,?_⟩;focus first|rfl|simp [slot])|rfl|simp|exact c7l hν0 (by simp))) ?_
  rintro k ⟨⟨hk1,hk2⟩,hm⟩
  simp only [ints]
  (repeat first|refine uA ?_|(apply uK;focus omega)|simp (disch:=omega) only [go_sem,Nat.reduceBEq,c7i])
  (refine uJ rfl (fun hc=>?_) fun hc=>?_)
  · have hk:k < l.length:=by omega
    have hgx:=c7h hk
    have hgy:=c7h (show k-1 < l.length by omega)
    generalize l[k]'_=x at hgx
    generalize l[k-1]'_=y at hgy
    have hkn:((k:Int)-1).toNat=k-1:=by omega
    (repeat first|refine uA ?_|(apply uK;focus omega)|simp (disch:=omega) only [go_sem,Nat.reduceBEq,ww,c7i,c7r,hgx,hgy,hkn,c7j,c7o,ce])
    refine S.cond rfl (fun hc=>?_) (fun hc=>?_)
    · have hxy:x=y:=by
        simp only [c7q,c7v] at hc
        exact Prod.ext hc.1 (by first|exact hc.2.1|exact hc.2)
      have hd0:dd l (k+1)=l.take k:=by rw [b5i (by omega) hgx hgy hxy,b4Z k (by omega) hm]
      clear same hm
      (repeat first|refine uA ?_|(apply uK;focus omega)|simp (disch:=omega) only [go_sem,Nat.reduceBEq,c7i,c7o])
      refine S.loop (X:=Nat × List Cl) (fun p=>⟨[(0,.rv 0),(3,ints ((dd l (k+p.1)).length:Nat)),(4,.wv 0 2 k (l.length-k)),(5,ints p.1)],[.row 53 2 (p.2.map ce)]⟩)
        (fun p=>(1<=p.1/\k+p.1<=l.length)/\p.2.length=l.length/\p.2.take (dd l (k+p.1)).length=dd l (k+p.1)/\(dd l (k+p.1)).length+1<=k+p.1/\∀ j,k+p.1-1<=j->p.2[j]?=l[j]?) (fun p=>l.length-p.1) (1,l)
        ⟨⟨c7p _,by simp only;omega⟩,rfl,by simp only [hd0,c7s];rw [Nat.min_eq_left (by omega)],by simp only [hd0,c7s];omega,fun _ _=>rfl⟩ (by simp only [hd0,c7s,Nat.min_eq_left hk2];exact (by (repeat first|refine uA ?_|(refine ⟨?_,?_⟩;focus first|rfl|simp [slot])|rfl|simp|exact c7l hν0 (by simp)))) ?_
      rintro ⟨r,es⟩ ⟨⟨hr1,hr2⟩,hel,het,hew,hej⟩
      simp only at hr1 hr2 hel het hew hej
      simp only [ints]
      (repeat first|refine uA ?_|(apply uK;focus omega)|simp (disch:=omega) only [go_sem,Nat.reduceBEq])
      (refine uJ rfl (fun hc=>?_) fun hc=>?_)
      · have hr:k+r < l.length:=by omega
        have gx:=c7h hr
        have gy:=c7h (show k+r-1 < l.length by omega)
        generalize l[k+r]'_=u at gx
        generalize l[k+r-1]'_=v at gy
        have ex:=(hej (k+r) (by omega)).trans gx
        have ey:=(hej (k+r-1) (c7p _)).trans gy
        have hrn:((r:Int)-1).toNat=r-1:=by omega
        have hkr:k+(r-1)=k+r-1:=by omega
        (repeat first|refine uA ?_|(apply uK;focus omega)|simp (disch:=omega) only [go_sem,Nat.reduceBEq,ww,c7i,c7r,hel,ex,ey,hrn,hkr,c7j,c7o,ce])
        refine S.cond rfl (fun hc=>?_) (fun hc=>?_)
        · have huv:u ≠ v:=fun e=>by
            subst e
            simp at hc
          have hdn:=c0P gx gy huv
          rw [show k+r+1=k+(r+1) by omega] at hdn
          have hdl:(dd l (k+(r+1))).length=(dd l (k+r)).length+1:=by rw [hdn,c7t];rfl
          generalize hm:(dd l (k+r)).length=m at *
          have hmg:=c7h (show m < es.length by omega)
          generalize es[m]'_=z at hmg
          have hset:(es.map ce).set m [C.v (.int .i64 u.1),C.v (.int .i64 u.2)]=(es.set m u).map ce:=by rw [List.map_set];rfl
          have hnt:(es.set m u).take (m+1)=dd l (k+(r+1)):=by
            rw [hdn,List.take_add_one,List.getElem?_set_self (by omega),List.take_set_of_le (c7p _),het]
            rfl
          have hnj:∀ j,k+(r+1)-1<=j->(es.set m u)[j]?=l[j]?:=fun j hj=>by
            rw [List.getElem?_set_ne (by omega)]
            exact hej j (by omega)
          have hnl:(es.set m u).length=l.length:=by rw [c7W,hel]
          generalize es.set m u=es' at *
          (repeat first|refine uA ?_|(apply uK;focus omega)|simp (disch:=omega) only [go_sem,Nat.reduceBEq,ww,c7i,c7r,hel,ex,hmg,c7j,c7o,ce,List.take_zero,List.drop_zero,List.drop_succ_cons,List.nil_append,List.append_nil,hset])
          refine S.next (m:=fun p:Nat × List Cl=>l.length-p.1) (x:=(r,es)) (r+1,es') ⟨⟨by simp only;omega,by simp only;omega⟩,hnl,by simp only [hdl];exact hnt,by simp only [hdl];omega,hnj⟩ (by simp only;omega) (by simp only [hdl];exact (by (repeat first|refine uA ?_|(refine ⟨?_,?_⟩;focus first|rfl|simp [slot])|rfl|simp|exact c7l hν0 (by simp))))
        · have huv:u=v:=by
            simp at hc
            exact Prod.ext hc.1 hc.2
          have hdn:=b5i (by omega) gx gy huv
          rw [show k+r+1=k+(r+1) by omega] at hdn
          (repeat first|refine uA ?_|(apply uK;focus omega)|simp (disch:=omega) only [go_sem,Nat.reduceBEq,ww])
          refine S.next (m:=fun p:Nat × List Cl=>l.length-p.1) (x:=(r,es)) (r+1,es) ⟨⟨by simp only;omega,by simp only;omega⟩,hel,by simp only [hdn];exact het,by simp only [hdn];omega,fun j hj=>hej j (by omega)⟩ (by simp only;omega) (by simp only [hdn];exact (by (repeat first|refine uA ?_|(refine ⟨?_,?_⟩;focus first|rfl|simp [slot])|rfl|simp|exact c7l hν0 (by simp))))
      · have hrr:k+r=l.length:=by omega
        rw [hrr] at het hew ⊢
        clear hej hd0
        generalize hm:(dd l l.length).length=m at *
        generalize dd l l.length=d at *
        have hz:(es.map ce).take m++List.replicate (l.length-m) [C.v (.int .i64 0),.v (.int .i64 0)]=(d++List.replicate (l.length-m) (0,0)).map ce:=by
          rw [c7X,List.map_replicate,<- List.map_take,het]
          rfl
        generalize (d++List.replicate (l.length-m) (0,0)).map ce=R at *
        have hRl:R.length=l.length:=by rw [<- hz];simp;omega
        have hz2:=hz
        rw [<- List.map_take] at hz2
        (repeat first|refine uA ?_|(apply uK;focus omega)|simp (disch:=omega) only [go_sem,Nat.reduceBEq,c7i,hel,c7o,hz2,hRl])
        exact S.done (j3.K9 (Imp.refl rfl) (D8.cons (RI.row _ _ _ _ (by first|exact hz|exact hz2|rfl)) D8.nil) hν0)
    · have hxy:x ≠ y:=fun e=>by
        subst e
        simp at hc
      (repeat first|refine uA ?_|(apply uK;focus omega)|simp (disch:=omega) only [go_sem,Nat.reduceBEq,ww])
      refine S.next (k+1) ⟨⟨by omega,by omega⟩,fun j h0 h1=>?_⟩ (by omega) (by (repeat first|refine uA ?_|(refine ⟨?_,?_⟩;focus first|rfl|simp [slot])|rfl|simp|exact c7l hν0 (by simp)))
      rcases c7D j k with h|h
      · exact hm j h0 h
      · have:j=k:=by omega
        subst this
        rw [hgx,hgy]
        exact fun e=>hxy (Option.some.inj e)
  · have hk:k=l.length:=by omega
    subst hk
    obtain ⟨h1,h2⟩:=same hm
    rw [h2,h1]
    (repeat first|refine uA ?_|(apply uK;focus omega)|simp (disch:=omega) only [go_sem,Nat.reduceBEq])
    exact S.done (j3.K9 (Imp.win rfl (by rw [c7i]) Nat.zero_lt_one) (by (repeat first|refine uA ?_|rfl|simp [slot])) hν0)
theorem b7r {ls:List (List Cl)} {i:Nat}:a2o ls i<=ls.flatten.length:=by
 unfold a2o
 have h:ls.flatten=(ls.take i).flatten++(ls.drop i).flatten:=by rw [<- List.flatten_append,List.take_append_drop]
 rw [h,c7t]
 omega
theorem a7f (ls:List (List Cl)) (hl:ls.length<=1000) (hn:ls.flatten.length<=1000000000):FNew Tryz.prog 52 [P7 ls] 53 2 ((M4 ls.flatten).map ce):=by
 refine FNew.of (eff:=eff) Tryz.func52 (by cbv) (by exact c7z rfl) fun w O=>?_
 have h1:=b5K ls hl (fun i=>c7l b7r hn)
 have h2:=fun (E:Ctx) (hP:E.P=Tryz.prog)=>c5J (E:=E) hP ls.flatten (by omega)
 have h3:=fun (E:Ctx) (hP:E.P=Tryz.prog)=>c1e (E:=E) hP (ls.flatten.mergeSort leC) (by rw [List.length_mergeSort];exact hn)
 have hd:=(a6C (a7g ls.flatten) _ (c7p _)).2.2
 have hs:M4 ls.flatten=dd (ls.flatten.mergeSort leC) (ls.flatten.mergeSort leC).length:=rfl
 rw [hs]
 generalize dd (ls.flatten.mergeSort leC) (ls.flatten.mergeSort leC).length=d at *
 generalize hm:(ls.flatten.mergeSort leC).length-d.length=m at *
 generalize ls.flatten.mergeSort leC=M at *
 generalize ls.flatten=F at *
 simp only [j5,TT,OA,MM,P7] at h1 ⊢
 (repeat first|refine uA ?_|(apply uK;focus omega)|simp (disch:=omega) only [go_sem,Nat.reduceBEq]|refine l9.t (FNew.t h1 rfl) ?_|refine l9.t (h2 _ rfl) ?_|refine l9.t (h3 _ rfl) ?_)
 refine S.weaken (Ent.shrink 2 0 rfl rfl (by simp) ⟨.inr (c7n _),trivial⟩) ?_
 exact S.done (j3.new rfl rfl (by simp [a0M,Res.D6]))
theorem c4D (a b:List Cl) (ha:a.length<=100000000) (hb:b.length<=100000000):A9 Tryz.prog 22 [cls a,cls b] (cls (a3c a b)):=by
 refine kS Tryz.func22 (by cbv) (by rfl) fun w O=>?_
 have h:=(a7f [a,b] (by show 2<=1000;decide) (by simp;omega)).spec
 rw [show [a,b].flatten=a++b by simp] at h
 unfold a3c
 generalize M4 (a++b)=r at *
 simp only [j5,TT,OA,MM,cls]
 simp only [P7,c7w,c7I,cls] at h
 (repeat first|refine uA ?_|(apply uK;focus first|omega|(intros;simp_all<;>omega))|simp (disch:=omega) only [go_sem,Nat.reduceBEq,Nat.reduceAdd])
 refine l9.b3J [.sl 1 [[cls a],[cls b]]] [.gone] h (j4.cons (Imp.frz rfl rfl rfl) j4.nil) rfl (D8.cons (RI.gone _) D8.nil) rfl ?_
 (repeat first|refine uA ?_|(apply uK;focus omega)|simp (disch:=omega) only [go_sem,Nat.reduceBEq])
 exact S.done (j3.out rfl (Imp.refl rfl) rfl)
theorem Imp.c5B {rs rs':List Res} {c:C}:Imp rs rs' c (.any fun _=>True):=fun _ _ _ _ _ _ _ _ _=>by simp only [Den]
theorem c1q (l:List Cl) (t:Cl) (hu:Up l) (hn:l.length<=1000000000):A9 Tryz.prog 126 [cls l,.agg (ce t),.v (.func (.func 61) #[] #[])] (.tup [.any fun _=>True,.v (.bool (a0K l t))]):=by
 refine kS Tryz.func126 (by cbv) (by rfl) fun w O=>?_
 have ho:=fun a=>b7B a t
 have hcal:callable Tryz.prog 61=true:=by kernel_rfl
 simp only [j5,TT,II,OA,OC,MM,LL,MG,LG,cls,ce] at ho ⊢
 (repeat first|refine uA ?_|(refine uK ?_ ?_;focus first|omega|(intros;simp_all<;>omega))|simp (disch:=omega) only [go_sem,Nat.reduceBEq,Nat.reduceAdd,c7i])
 refine S.loop (X:=Nat × Nat) (fun p=>⟨[(0,cls l),(2,.v (.func (.func 61) #[] #[])),(4,.bp 0 0),(8,ints l.length),(9,ints p.1),(10,ints p.2)],[.box 53 (ce t)]⟩)
  (fun p=>(p.1<=p.2/\p.2<=l.length)/\(∀ k x,k < p.1->l[k]?=some x->ltC x t=true)/\(∀ k x,p.2<=k->l[k]?=some x->ltC x t=false)) (fun p=>p.2-p.1) (0,l.length)
  ⟨⟨c7n _,c7p _⟩,fun _ _ h=>absurd h (Nat.not_lt_zero _),fun k x h hx=>by have:=(c7m.1 hx).1;simp only at h;omega⟩ (by (repeat first|refine uA ?_|(refine ⟨?_,?_⟩;focus first|rfl|simp [slot])|rfl|simp)) ?_
 rintro ⟨i,j⟩ ⟨⟨h1,h2⟩,h3,h4⟩
 simp only at h1 h2 h3 h4
 simp only [cls,ce,ints]
 (repeat first|refine uA ?_|(refine uK ?_ ?_;focus first|omega|(intros;simp_all<;>omega))|simp (disch:=omega) only [go_sem,Nat.reduceBEq])
 (refine uJ rfl (fun hc=>?_) fun hc=>?_)
 ·obtain ⟨h,hh⟩:∃ h:Nat,h=(i+j) / 2:=⟨_,rfl⟩
  have hlt:h < l.length:=by omega
  have hg:=c7h hlt
  generalize l[h]=x at hg
  have hsh:((i:Int)+(j:Int)).fdiv (2 ^ 1)=(h:Int):=by
   rw [Int.fdiv_eq_ediv_of_nonneg _ (by decide)]
   omega
  have hox:=ho x
  have hlx:ltC x t=decide (a1e x t < 0):=rfl
  generalize a1e x t=c at hox hlx
  (repeat first|refine uA ?_|(refine uK ?_ ?_;focus first|omega|(intros;simp_all<;>omega))|simp (disch:=omega) only [go_sem,Nat.reduceBEq,Nat.reduceAdd,ww,hsh,hg,hcal,c7i,c7r,c7j,c7o,ce]|(refine uB hox ?_ ?_;exact rfl))
  refine S.cond rfl (fun hc2=>?_) (fun hc2=>?_)
  ·rw [hc2] at hlx
   (repeat first|refine uA ?_|(refine uK ?_ ?_;focus first|omega|(intros;simp_all<;>omega))|simp (disch:=omega) only [go_sem,Nat.reduceBEq,ww])
   refine S.next (m:=fun p:Nat × Nat=>p.2-p.1) (x:=(i,j)) (h+1,j) ⟨⟨by simp only;omega,h2⟩,fun k y hk hy=>?_,h4⟩ (by simp only;omega) (by (repeat first|refine uA ?_|(refine ⟨?_,?_⟩;focus first|rfl|simp [slot])|rfl|simp))
   rcases c7D k h with hk'|hk'
   ·exact a5q (hu.get hk' hy hg) hlx
   ·have:k=h:=by simp only at hk;omega
    subst this
    rw [hg] at hy
    injection hy with hy
    rw [<- hy]
    exact hlx
  ·rw [hc2] at hlx
   (repeat first|refine uA ?_|(refine uK ?_ ?_;focus first|omega|(intros;simp_all<;>omega))|simp (disch:=omega) only [go_sem,Nat.reduceBEq])
   refine S.next (m:=fun p:Nat × Nat=>p.2-p.1) (x:=(i,j)) (i,h) ⟨⟨by simp only;omega,by simp only;omega⟩,h3,fun k y hk hy=>?_⟩ (by simp only;omega) (by (repeat first|refine uA ?_|(refine ⟨?_,?_⟩;focus first|rfl|simp [slot])|rfl|simp))
   rcases c7D h k with hk'|hk'
   ·cases hy2:ltC y t with
    | false=>rfl
    | true=>rw [a5q (hu.get hk' hg hy) hy2] at hlx;cases hlx
   ·have:k=h:=by simp only at hk;omega
    subst this
    rw [hg] at hy
    injection hy with hy
    rw [<- hy]
    exact hlx
 ·have hij:j=i:=by omega
  subst hij
  have hf:=b8c hu h3 h4
  rw [hf]
  clear h3 h4 hf
  rcases c7D j l.length with hlt|hge
  ·have hg:=c7h hlt
   generalize l[j]=x at hg
   have hox:=ho x
   rw [hg]
   simp only
   generalize a1e x t=c at hox
   have hjl:decide ((j:Int) < (l.length:Int))=true:=decide_eq_true (by omega)
   (repeat first|refine uA ?_|(refine uK ?_ ?_;focus first|omega|(intros;simp_all<;>omega))|simp (disch:=omega) only [go_sem,Nat.reduceBEq,Nat.reduceAdd,hg,hcal,c7i,c7r,c7j,c7o,ce,hjl]|(refine uB hox ?_ ?_;exact rfl))
   refine S.done ?_
   simp only [p9,go_sem,Nat.reduceBEq]
   exact j3.out rfl (Imp.tup (j4.cons Imp.c5B (j4.cons (Imp.eq (by simp) rfl) j4.nil))) rfl
  ·rw [c7J hge]
   have hgn:l[j]?=none:=c7J hge
   have hjl:decide ((j:Int) < (l.length:Int))=false:=decide_eq_false (by omega)
   (repeat first|refine uA ?_|(refine uK ?_ ?_;focus first|omega|(intros;simp_all<;>omega))|simp (disch:=omega) only [go_sem,Nat.reduceBEq,Nat.reduceAdd,c7i,hjl,hgn,c7r,Option.map_none,hcal,c7o])
   refine X6.mk (r:=.v (.int .i64 0)) (fun hp=>by cases hp) ?_
   (repeat first|refine uA ?_|(refine uK ?_ ?_;focus first|omega|(intros;simp_all<;>omega))|simp (disch:=omega) only [go_sem,Nat.reduceBEq])
   refine S.done ?_
   simp only [p9,go_sem,Nat.reduceBEq]
   exact j3.out rfl (Imp.tup (j4.cons Imp.c5B (j4.cons (Imp.eq (by simp) rfl) j4.nil))) rfl
theorem c3f (l:List Cl) (t:Cl) (hu:Up l) (hn:l.length<=1000000000):A9 Tryz.prog 64 [cls l,.agg (ce t)] (.v (.bool (a0K l t))):=by
 refine kS Tryz.func64 (by cbv) (by rfl) fun w O=>?_
 have h:=c1q l t hu hn
 generalize a0K l t=b at *
 simp only [j5,TT,OA,MM,LL,cls,ce] at h ⊢
 (repeat first|refine uA ?_|(apply uK;focus first|omega|(intros;simp_all<;>omega))|simp (disch:=omega) only [go_sem,Nat.reduceBEq,Nat.reduceAdd]|(apply uB h;exact rfl))
 exact S.done (j3.out rfl (Imp.refl rfl) rfl)
theorem b9J (l:List Cl) (t:Cl) (hu:Up l) (hn:l.length<=1000000000):A9 Tryz.prog 128 [.agg (ce t),.ep [cls l]] (.v (.bool (!a0K l t))):=by
 refine kS Tryz.func128 (by cbv) (by rfl) fun w O=>?_
 have h:=c3f l t hu hn
 generalize a0K l t=b at *
 simp only [j5,TT,OA,MM,LL,VV,cls,ce] at h ⊢
 (repeat first|refine uA ?_|(apply uK;focus first|omega|(intros;simp_all<;>omega))|simp (disch:=omega) only [go_sem,Nat.reduceBEq,Nat.reduceAdd]|(apply uB h;exact rfl))
 exact S.done (j3.out rfl (Imp.refl rfl) rfl)
theorem c4u (l:List Cl) (t:Cl) (hu:Up l) (hn:l.length<=1000000000):A9 Tryz.prog 63 [.agg (ce t),.ep [cls l]] (.v (.bool (!a0K l t))):=by
 refine kS Tryz.func63 (by cbv) (by rfl) fun w O=>?_
 have h:=c3f l t hu hn
 generalize a0K l t=b at *
 simp only [j5,TT,OA,MM,LL,VV,cls,ce] at h ⊢
 (repeat first|refine uA ?_|(apply uK;focus first|omega|(intros;simp_all<;>omega))|simp (disch:=omega) only [go_sem,Nat.reduceBEq,Nat.reduceAdd]|(apply uB h;exact rfl))
 exact S.done (j3.out rfl (Imp.refl rfl) rfl)
theorem b9S (g:Nat) (hcal:callable Tryz.prog g=true) (X:C) (p:Cl->Bool) (l:List Cl) (hn:l.length<=1000000000) (hX:C.cl X=true) (hg:∀ x:Cl,A9 Tryz.prog g [.agg (ce x),.ep [X]] (.v (.bool (p x)))) :
  A9 Tryz.prog 125 [cls l,.clo g [.ep [X]]] (ints (a1f p l)):=by
 refine kS Tryz.func125 (by cbv) (by rfl) fun w O=>?_
 simp only [j5,TT,II,OA,MM,LL,cls,ints]
 (repeat first|refine uA ?_|(apply uK;focus omega)|simp (disch:=omega) only [go_sem,Nat.reduceBEq,c7i])
 refine S.loop (X:=Nat) (fun i=>⟨[(0,cls l),(1,.clo g [.ep [X]]),(7,ints l.length),(8,ints i)],[]⟩) (fun i=>i<=l.length/\∀ j,j < i->∀ x,l[j]?=some x->p x=false) (fun i=>l.length-i) 0 ⟨c7n _,fun _ h=>absurd h (Nat.not_lt_zero _)⟩ (by (repeat first|refine uA ?_|(refine ⟨?_,?_⟩;focus first|rfl|simp [slot])|rfl|simp)) ?_
 rintro i ⟨hi,hm⟩
 simp only [cls,ints]
 (repeat first|refine uA ?_|(apply uK;focus omega)|simp (disch:=omega) only [go_sem,Nat.reduceBEq])
 (refine uJ rfl (fun hc=>?_) fun hc=>?_)
 ·have hi':i < l.length:=by omega
  have hgi:=c7h hi'
  generalize l[i]=x at hgi
  have hs:=hg x
  simp only [ce] at hs
  generalize hpx:p x=b at hs
  (repeat first|refine uA ?_|(apply uK;focus omega)|simp (disch:=omega) only [go_sem,Nat.reduceBEq,hgi,c7j,c7i,c7r,ce,c7o,hcal]|(apply uB hs;exact rfl))
  refine S.cond rfl (fun hc2=>?_) (fun hc2=>?_)
  ·rw [a2z (p:=p) hgi (hpx.trans hc2) hm]
   (repeat first|refine uA ?_|(apply uK;focus omega)|simp (disch:=omega) only [go_sem,Nat.reduceBEq])
   exact S.done (j3.out rfl (Imp.refl rfl) rfl)
  ·(repeat first|refine uA ?_|(apply uK;focus omega)|simp (disch:=omega) only [go_sem,Nat.reduceBEq,ww])
   refine S.next (i+1) ⟨by omega,fun j hj y hy=>?_⟩ (by omega) (by (repeat first|refine uA ?_|(refine ⟨?_,?_⟩;focus first|rfl|simp [slot])|rfl|simp))
   rcases c7D j i with h1|h1
   ·exact hm j h1 y hy
   ·have:j=i:=by omega
    subst this
    rw [hgi] at hy
    cases hy
    exact hpx.trans hc2
 ·have hi':i=l.length:=by omega
  subst hi'
  rw [a1B hm]
  (repeat first|refine uA ?_|(apply uK;focus omega)|simp (disch:=omega) only [go_sem])
  exact S.done (j3.out rfl (Imp.refl rfl) rfl)
theorem c3J (g:Nat) (hcal:callable Tryz.prog g=true) (X:C) (p:Cl->Bool) (l:List Cl) (hn:l.length<=1000000000) (hX:C.cl X=true) (hg:∀ x:Cl,A9 Tryz.prog g [.agg (ce x),.ep [X]] (.v (.bool (p x)))) :
  A9 Tryz.prog 127 [cls l,.clo g [.ep [X]]] (.v (.bool (l.any p))):=by
 refine kS Tryz.func127 (by cbv) (by rfl) fun w O=>?_
 have h:=b9S g hcal X p l hn hX hg
 rw [<- a3k]
 generalize a1f p l=n at *
 simp only [j5,TT,II,OA,MM]
 simp only [cls,ints] at *
 (repeat first|refine uA ?_|(apply uK;focus first|omega|(intros;simp_all<;>omega))|simp (disch:=omega) only [go_sem,Nat.reduceBEq,Nat.reduceAdd]|(apply uB h;exact rfl))
 exact S.done (j3.out rfl (Imp.refl rfl) rfl)
theorem c2e (a b:List Cl) (ha:a.length<=100000000) (hb:b.length<=100000000):A9 Tryz.prog 66 [cls a,cls b] (.v (.bool (a0k a b))):=by
 refine kS Tryz.func66 (by cbv) (by rfl) fun w O=>?_
 have h:=(a7f [b] (by show 1<=1000;decide) (by simp;omega)).spec
 rw [show [b].flatten=b by simp] at h
 have hB:=a4d b
 have hu:=a9O b
 have h2:=c3J 128 (by kernel_rfl) (cls (M4 b)) (fun t=>!a0K (M4 b) t) a (by omega) rfl (fun x=>b9J (M4 b) x hu (by omega))
 have he:a0k a b=!(a.any fun t=>!a0K (M4 b) t):=by unfold a0k;rw [List.not_any_eq_all_not];simp
 rw [he]
 generalize (a.any fun t=>!a0K (M4 b) t)=r at *
 generalize M4 b=B at *
 simp only [j5,TT,OA,OB,MM,VV,cls]
 simp only [P7,c7w,c7I,cls] at h h2
 (repeat first|refine uA ?_|(apply uK;focus first|omega|(intros;simp_all<;>omega))|simp (disch:=omega) only [go_sem,Nat.reduceBEq,Nat.reduceAdd])
 refine l9.b3J [.sl 1 [[cls b]]] [.box 43 [cls b],.gone] h (j4.cons (Imp.frz rfl rfl rfl) j4.nil) rfl (D8.cons (RI.box _ _ _ (j4.refl rfl)) (D8.cons (RI.gone _) D8.nil)) rfl ?_
 (repeat first|refine uA ?_|(apply uK;focus omega)|simp (disch:=omega) only [go_sem,Nat.reduceBEq]|(apply uC h2;exact rfl;focus (repeat' first|exact j4.nil|exact Imp.refl rfl|exact Imp.F8|exact Imp.fbx rfl rfl (j4.refl rfl) rfl rfl|refine Imp.clo ?_|exact Imp.frz rfl rfl rfl|(refine Imp.V5 rfl rfl ?_ ?_;(focus ((try simp only [c7t]);omega));(focus first|rfl|assumption))|refine Imp.agg ?_|refine j4.cons ?_ ?_);done))
 exact S.done (j3.out rfl (Imp.refl rfl) rfl)
theorem b3c {α:Type} (p:α->Bool):∀ l:List α,(∀ (j:Nat) (x:α),j < l.length->l[j]?=some x->p x=false) \/ ∃ (i:Nat) (x:α),l[i]?=some x/\p x=true/\∀ j,j < i->∀ x,l[j]?=some x->p x=false
 | []=>.inl fun j x h=>by simp at h
 | a::l=>by
  cases ha:p a with
  | true=>exact .inr ⟨0,a,rfl,ha,fun j h=>absurd h (Nat.not_lt_zero _)⟩
  | false=>
   rcases b3c p l with h|⟨i,x,hx,hp,h⟩
   ·refine .inl fun j x hj hx=>?_
    cases j with
    | zero=>simp at hx;subst hx;exact ha
    | succ j=>exact h j x (by simpa using hj) (by simpa using hx)
   ·refine .inr ⟨i+1,x,by simpa using hx,hp,fun j hj y hy=>?_⟩
    cases j with
    | zero=>simp at hy;subst hy;exact ha
    | succ j=>exact h j (by omega) y (by simpa using hy)
theorem b4E {p:Cl->Bool} {l:List Cl} (i:Nat) (h:∀ j,j < i->∀ x,l[j]?=some x->p x=false):(l.take i).filter (fun x=>!p x)=l.take i:=by
 rw [List.filter_eq_self]
 intro x hx
 obtain ⟨j,hj⟩:=List.mem_iff_getElem?.1 hx
 rw [List.getElem?_take] at hj
 split at hj
 ·rw [h j (by assumption) x hj];rfl
 ·cases hj
theorem b3j {p:Cl->Bool} {l:List Cl} {i:Nat} {x:Cl} (h:l[i]?=some x):(l.take (i+1)).filter (fun x=>!p x)=(l.take i).filter (fun x=>!p x)++(if p x=true then [] else [x]):=by
 rw [List.take_add_one,h,List.filter_append]
 cases hp:p x<;>simp [hp]
theorem c2c {E:Ctx} (hP:E.P=Tryz.prog) (g:Nat) (hcal:callable Tryz.prog g=true) (B:List Cl) (p:Cl->Bool) (l:List Cl) (hn:l.length<=1000000000) (hg:∀ x:Cl,A9 Tryz.prog g [.agg (ce x),.ep [cls B]] (.v (.bool (p x)))) :
  j6 E [.gone,.gone,.gone,.row 53 2 (l.map ce)] 62 [.rv 3,.clo g [.ep [cls B]]] (.wv 3 2 0 (l.filter fun x=>!p x).length) [.gone,.gone,.gone,.row 53 2 (((l.filter fun x=>!p x)++List.replicate (l.length-(l.filter fun x=>!p x).length) (0,0)).map ce)] []:=by
 obtain ⟨P,eff',N,w0,own0,av0,nu0,pk0⟩:=E
 simp only at hP
 subst hP
 refine j6.of (eff:=eff) Tryz.func62 (by cbv) (by exact c7z rfl) fun w own av ν hν=>?_
 have hν0:ν.length<=4:=by rw [hν];exact c7p _
 have hI:=b9S g hcal (cls B) p l hn rfl hg
 simp only [j5,TT,II,OA,OB,MM,LL]
 rcases b3c p l with hnone|⟨i,x0,hx0,hp0,hfirst⟩
 ·rw [a1B (fun j hj x hx=>hnone j x hj hx)] at hI
  have hF:l.filter (fun x=>!p x)=l:=by
   have:=b4E (p:=p) (l:=l) l.length (fun j hj x hx=>hnone j x hj hx)
   rwa [c7y] at this
  rw [hF]
  simp only [cls,ints,Nat.sub_self,List.replicate_zero,List.append_nil] at hI ⊢
  (repeat first|refine uA ?_|(apply uK;focus first|omega|(intros;simp_all<;>omega))|simp (disch:=omega) only [go_sem,Nat.reduceBEq,Nat.reduceAdd]|(apply uC hI;exact rfl;focus (repeat' first|exact j4.nil|exact Imp.refl rfl|exact Imp.F8|exact Imp.fbx rfl rfl (j4.refl rfl) rfl rfl|refine Imp.clo ?_|exact Imp.frz rfl rfl rfl|(refine Imp.V5 rfl rfl ?_ ?_;(focus ((try simp only [c7t]);omega));(focus first|rfl|assumption))|refine Imp.agg ?_|refine j4.cons ?_ ?_);done))
  (refine uJ rfl (fun hc=>?_) fun hc=>?_)
  ·(repeat first|refine uA ?_|(apply uK;focus omega)|simp (disch:=omega) only [go_sem,Nat.reduceBEq])
   exact S.done (j3.K9 (Imp.win rfl (by rw [c7i]) (by show 3 < 4;decide)) (by (repeat first|refine uA ?_|rfl|simp [slot])) hν0)
  ·first|omega|exact (hc rfl).elim|(simp at hc;done)
 ·rw [a2z (p:=p) hx0 hp0 hfirst] at hI
  have hil:=(c7m.1 hx0).1
  simp only [cls,ints] at hI ⊢
  (repeat first|refine uA ?_|(apply uK;focus first|omega|(intros;simp_all<;>omega))|simp (disch:=omega) only [go_sem,Nat.reduceBEq,Nat.reduceAdd]|(apply uC hI;exact rfl;focus (repeat' first|exact j4.nil|exact Imp.refl rfl|exact Imp.F8|exact Imp.fbx rfl rfl (j4.refl rfl) rfl rfl|refine Imp.clo ?_|exact Imp.frz rfl rfl rfl|(refine Imp.V5 rfl rfl ?_ ?_;(focus ((try simp only [c7t]);omega));(focus first|rfl|assumption))|refine Imp.agg ?_|refine j4.cons ?_ ?_);done))
  (refine uJ rfl (fun hc=>?_) fun hc=>?_)
  ·omega
  have hs0:(l.take (i+1)).filter (fun x=>!p x)=l.take i:=by rw [b3j hx0,if_pos hp0,List.append_nil,b4E i hfirst]
  (repeat first|refine uA ?_|(apply uK;focus omega)|simp (disch:=omega) only [go_sem,Nat.reduceBEq,ww])
  refine S.loop (X:=Nat × List Cl) (fun q=>⟨[(0,.rv 3),(1,.clo g [.ep [cls B]]),(5,ints (((l.take q.1).filter fun x=>!p x).length:Nat)),(6,ints q.1)],[.gone,.gone,.gone,.row 53 2 (q.2.map ce)]⟩)
   (fun q=>(1<=q.1/\q.1<=l.length)/\q.2.length=l.length/\q.2.take ((l.take q.1).filter fun x=>!p x).length=(l.take q.1).filter (fun x=>!p x)/\((l.take q.1).filter fun x=>!p x).length+1<=q.1/\∀ j,q.1<=j->q.2[j]?=l[j]?) (fun q=>l.length-q.1) (i+1,l)
   ⟨⟨by simp only;omega,hil⟩,rfl,by simp only [hs0,c7s];rw [Nat.min_eq_left (by omega)],by simp only [hs0,c7s];omega,fun _ _=>rfl⟩ (by simp only [hs0,c7s,Nat.min_eq_left (Nat.le_of_lt hil),cls];exact (by (repeat first|refine uA ?_|(refine ⟨?_,?_⟩;focus first|rfl|simp [slot])|rfl|simp|exact c7l hν0 (by simp)))) ?_
  clear hI hs0 hfirst hx0
  rintro ⟨r,es⟩ ⟨⟨hr1,hr2⟩,hel,het,hew,hej⟩
  simp only at hr1 hr2 hel het hew hej
  simp only [ints,cls]
  (repeat first|refine uA ?_|(apply uK;focus omega)|simp (disch:=omega) only [go_sem,Nat.reduceBEq,c7i])
  (refine uJ rfl (fun hc=>?_) fun hc=>?_)
  ·have hr:r < l.length:=by omega
   have gx:=c7h hr
   generalize l[r]=u at gx
   have ex:=(hej r (c7p _)).trans gx
   have hfs:=b3j (p:=p) gx
   have hgu:=hg u
   simp only [cls,ce] at hgu
   generalize p u=b at *
   (repeat first|refine uA ?_|(apply uK;focus omega)|simp (disch:=omega) only [go_sem,Nat.reduceBEq,c7i,c7r,hel,ex,c7j,c7o,ce,hcal]|(apply uB hgu;exact rfl))
   refine S.cond rfl (fun hc=>?_) (fun hc=>?_)
   ·have hb:b=false:=by simpa using hc
    rw [hb,if_neg (by decide)] at hfs
    have hdl:((l.take (r+1)).filter fun x=>!p x).length=((l.take r).filter fun x=>!p x).length+1:=by rw [hfs,c7t];rfl
    generalize hm:((l.take r).filter fun x=>!p x).length=m at *
    have hmg:=c7h (show m < es.length by omega)
    generalize es[m]'_=z at hmg
    have hset:(es.map ce).set m [C.v (.int .i64 u.1),C.v (.int .i64 u.2)]=(es.set m u).map ce:=by rw [List.map_set];rfl
    have hnt:(es.set m u).take (m+1)=(l.take (r+1)).filter fun x=>!p x:=by
     rw [hfs,List.take_add_one,List.getElem?_set_self (by omega),List.take_set_of_le (c7p _),het]
     rfl
    have hnj:∀ j,r+1<=j->(es.set m u)[j]?=l[j]?:=fun j hj=>by
     rw [List.getElem?_set_ne (by omega)]
     exact hej j (by omega)
    have hnl:(es.set m u).length=l.length:=by rw [c7W,hel]
    generalize es.set m u=es' at *
    (repeat first|refine uA ?_|(apply uK;focus omega)|simp (disch:=omega) only [go_sem,Nat.reduceBEq,ww,c7i,c7r,hel,hmg,c7j,c7o,ce,List.take_zero,List.drop_zero,List.drop_succ_cons,List.nil_append,List.append_nil,hset])
    refine S.next (m:=fun q:Nat × List Cl=>l.length-q.1) (x:=(r,es)) (r+1,es') ⟨⟨by simp only;omega,hr⟩,hnl,by simp only [hdl];exact hnt,by simp only [hdl];omega,hnj⟩ (by simp only;omega) (by simp only [hdl];exact (by (repeat first|refine uA ?_|(refine ⟨?_,?_⟩;focus first|rfl|simp [slot])|rfl|simp|exact c7l hν0 (by simp))))
   ·have hb:b=true:=by simpa using hc
    rw [hb,if_pos rfl,List.append_nil] at hfs
    (repeat first|refine uA ?_|(apply uK;focus omega)|simp (disch:=omega) only [go_sem,Nat.reduceBEq,ww])
    refine S.next (m:=fun q:Nat × List Cl=>l.length-q.1) (x:=(r,es)) (r+1,es) ⟨⟨by simp only;omega,hr⟩,hel,by simp only [hfs];exact het,by simp only [hfs];omega,fun j hj=>hej j (by omega)⟩ (by simp only;omega) (by simp only [hfs];exact (by (repeat first|refine uA ?_|(refine ⟨?_,?_⟩;focus first|rfl|simp [slot])|rfl|simp|exact c7l hν0 (by simp))))
  ·have hrr:r=l.length:=by omega
   subst hrr
   rw [c7y] at het hew ⊢
   clear hej hil hp0
   generalize hm:(l.filter fun x=>!p x).length=m at *
   generalize (l.filter fun x=>!p x)=d at *
   have hz:(es.map ce).take m++List.replicate (l.length-m) [C.v (.int .i64 0),.v (.int .i64 0)]=(d++List.replicate (l.length-m) (0,0)).map ce:=by
    rw [c7X,List.map_replicate,<- List.map_take,het]
    rfl
   generalize (d++List.replicate (l.length-m) (0,0)).map ce=R at *
   have hRl:R.length=l.length:=by rw [<- hz];simp;omega
   have hz2:=hz
   rw [<- List.map_take] at hz2
   (repeat first|refine uA ?_|(apply uK;focus omega)|simp (disch:=omega) only [go_sem,Nat.reduceBEq,c7i,hel,c7o,hz2,hRl])
   exact S.done (j3.K9 (Imp.refl rfl) (D8.cons (RI.gone _) (D8.cons (RI.gone _) (D8.cons (RI.gone _) (D8.cons (RI.row _ _ _ _ (by first|exact hz|exact hz2|rfl)) D8.nil)))) hν0)
theorem c4Y (a b:List Cl) (ha:a.length<=100000000) (hb:b.length<=100000000):A9 Tryz.prog 26 [cls a,cls b] (cls (a1F a b)):=by
 refine kS Tryz.func26 (by cbv) (by rfl) fun w O=>?_
 have h:=(a7f [b] (by show 1<=1000;decide) (by simp;omega)).spec
 have h':=a7f [a] (by show 1<=1000;decide) (by simp;omega)
 rw [show [b].flatten=b by simp] at h
 rw [show [a].flatten=a by simp] at h'
 have hB:=a4d b
 have hA:=a4d a
 have hu:=a9O b
 have h2:=fun (E:Ctx) (hP:E.P=Tryz.prog)=>c2c (E:=E) hP 63 (by kernel_rfl) (M4 b) (fun t=>!a0K (M4 b) t) (M4 a) (by omega) (fun x=>c4u (M4 b) x hu (by omega))
 have he:a1F a b=(M4 a).filter fun t=>!(!a0K (M4 b) t):=by unfold a1F;simp
 rw [he]
 have hf:=List.length_filter_le (fun t=>!(!a0K (M4 b) t)) (M4 a)
 generalize ((M4 a).filter fun t=>!(!a0K (M4 b) t))=F at *
 generalize hm:(M4 a).length-F.length=m at *
 generalize M4 b=B at *
 generalize M4 a=A at *
 simp only [j5,TT,OA,OB,MM,VV,cls]
 simp only [P7,c7w,c7I,cls] at h h' h2
 (repeat first|refine uA ?_|(apply uK;focus first|omega|(intros;simp_all<;>omega))|simp (disch:=omega) only [go_sem,Nat.reduceBEq,Nat.reduceAdd])
 refine l9.b3J [.sl 1 [[cls b]]] [.box 43 [cls b],.gone] h (j4.cons (Imp.frz rfl rfl rfl) j4.nil) rfl (D8.cons (RI.box _ _ _ (j4.refl rfl)) (D8.cons (RI.gone _) D8.nil)) rfl ?_
 (repeat first|refine uA ?_|(apply uK;focus omega)|simp (disch:=omega) only [go_sem,Nat.reduceBEq])
 refine l9.t (j6.vg (rs2:=[.box 43 [cls B],.gone,.gone]) (FNew.t h' rfl) (j4.cons (Imp.frz rfl rfl rfl) j4.nil) (D8.cons (RI.box _ _ _ (j4.refl rfl)) (D8.cons (RI.gone _) (D8.cons (RI.gone _) D8.nil))) rfl) ?_
 (repeat first|refine uA ?_|(apply uK;focus omega)|simp (disch:=omega) only [go_sem,Nat.reduceBEq])
 refine l9.t (j6.vg (h2 _ rfl) (j4.cons (Imp.refl rfl) (j4.cons (Imp.clo (j4.cons (Imp.fbx rfl rfl (j4.refl rfl) rfl rfl) j4.nil)) j4.nil)) (D8.cons (RI.gone _) (D8.cons (RI.gone _) (D8.cons (RI.gone _) (D8.cons (RI.row _ _ _ _ rfl) D8.nil)))) rfl) ?_
 (repeat first|refine uA ?_|(apply uK;focus omega)|simp (disch:=omega) only [go_sem,Nat.reduceBEq])
 exact S.done (j3.out rfl (Imp.V5 rfl rfl (by simp) (by simp)) rfl)
open Go
def onB (n:Int):Bool:=decide (-64<=n) && decide (n < 64)
theorem a8A {n:Int}:onB n=true <-> -64<=n/\n < 64:=by unfold onB;rw [c7q,decide_eq_true_iff,decide_eq_true_iff]
def M6 (lo:Rat):Int:=-flI (-lo)-1
def a0X (lo hi:Rat):Bool:=decide (flE hi=0) && decide (flE (-lo)=0) && onB (M6 lo) && onB (flI hi)
def ofE (b:Bq):Int:=if 0 < Nm.q9 b.lx b.hx \/ 0 < Nm.q9 b.ly b.hy then 1 else if (a0X b.lx b.hx && a0X b.ly b.hy)=false then 17 else if 400 < (flI b.hx-M6 b.lx+1)*(flI b.hy-M6 b.ly+1) then 2 else 0
def a3i (x0 y:Int) (n:Nat):List Cl:=(List.range n).map fun k:Nat=>(x0+(k:Int),y)
def a4O (x0 y0:Int) (m n:Nat):List Cl:=(List.range n).flatMap fun k:Nat=>a3i x0 (y0+(k:Int)) m
theorem c0l (x0 y:Int) (n:Nat):a3i x0 y (n+1)=a3i x0 y n++[(x0+(n:Int),y)]:=by simp [a3i,List.range_succ]
theorem b2H (x0 y0:Int) (m n:Nat):a4O x0 y0 m (n+1)=a4O x0 y0 m n++a3i x0 (y0+(n:Int)) m:=by simp [a4O,List.range_succ]
theorem b4C (x0 y:Int) (n:Nat):(a3i x0 y n).length=n:=by simp [a3i]
theorem a9L (x0 y0:Int) (m:Nat):∀ n,(a4O x0 y0 m n).length=n*m
 | 0=>by simp [a4O]
 | n+1=>by rw [b2H,c7t,a9L x0 y0 m n,b4C,Nat.succ_mul]
def wid (a b:Int):Nat:=(b+1-a).toNat
def ofC (b:Bq):List Cl:=if ofE b=0 then a4O (M6 b.lx) (M6 b.ly) (wid (M6 b.lx) (flI b.hx)) (wid (M6 b.ly) (flI b.hy)) else []
theorem b5f {b:Bq} (h:ofE b=0):(onB (M6 b.lx)=true/\onB (flI b.hx)=true)/\(onB (M6 b.ly)=true/\onB (flI b.hy)=true):=by
 unfold ofE at h
 split at h
 ·cases h
 ·split at h
  ·cases h
  ·rename_i _ h2
   rw [Bool.not_eq_false,c7q] at h2
   unfold a0X at h2
   simp only [c7q] at h2
   exact ⟨⟨h2.1.1.2,h2.1.2⟩,⟨h2.2.1.2,h2.2.2⟩⟩
theorem c5w {b:Bq} {c:Cl} (h:c ∈ ofC b):onB c.1=true/\onB c.2=true:=by
 unfold ofC at h
 split at h
 ·rename_i h0
  obtain ⟨⟨a1,a2⟩,a3,a4⟩:=b5f h0
  obtain ⟨k,hk,hc⟩:=List.mem_flatMap.1 h
  obtain ⟨j,hj,rfl⟩:=List.mem_map.1 hc
  rw [List.mem_range] at hk hj
  rw [a8A] at *
  unfold wid at hk hj
  simp only
  rw [a8A]
  omega
 ·cases h
theorem b1u (b:Bq):(ofC b).length<=16384:=by
 unfold ofC
 split
 ·rename_i h0
  obtain ⟨⟨a1,a2⟩,a3,a4⟩:=b5f h0
  rw [a9L]
  rw [a8A] at *
  have h1:wid (M6 b.lx) (flI b.hx)<=128:=by unfold wid;omega
  have h2:wid (M6 b.ly) (flI b.hy)<=128:=by unfold wid;omega
  exact c7l (Nat.mul_le_mul h2 h1) (by decide)
 ·exact c7n _
def G8 (bs:List Bq):List Cl:=bs.foldl (fun o b=>a3c o (ofC b)) []
theorem b6z (bs:List Bq) (b:Bq):G8 (bs++[b])=a3c (G8 bs) (ofC b):=by unfold G8;rw [List.foldl_append];rfl
theorem a4p:∀ (bs:List Bq) (o:List Cl),Up o->Up (bs.foldl (fun o b=>a3c o (ofC b)) o)/\(∀ x,x ∈ bs.foldl (fun o b=>a3c o (ofC b)) o <-> x ∈ o \/ ∃ b ∈ bs,x ∈ ofC b)/\(bs.foldl (fun o b=>a3c o (ofC b)) o).length<=o.length+16384*bs.length
 | [],o,h=>⟨h,fun x=>by simp,by simp⟩
 | b::r,o,h=>by
  obtain ⟨h1,h2,h3⟩:=a4p r (a3c o (ofC b)) (a9O _)
  refine ⟨h1,fun x=>?_,?_⟩
  ·rw [List.foldl_cons,h2]
   unfold a3c
   rw [a5L,List.mem_append]
   constructor
   ·rintro ((h|h)|⟨c,hc,hx⟩)
    ·exact .inl h
    ·exact .inr ⟨b,List.mem_cons_self,h⟩
    ·exact .inr ⟨c,List.mem_cons_of_mem _ hc,hx⟩
   ·rintro (h|⟨c,hc,hx⟩)
    ·exact .inl (.inl h)
    ·rcases List.mem_cons.1 hc with rfl|hc
     ·exact .inl (.inr hx)
     ·exact .inr ⟨c,hc,hx⟩
  ·have k1:=a4d (o++ofC b)
   have k2:=b1u b
   rw [c7t] at k1
   rw [List.foldl_cons,c7A]
   unfold a3c at h3 ⊢
   omega
theorem b2I (bs:List Bq):Up (G8 bs):=(a4p bs [] List.Pairwise.nil).1
theorem a6L {bs:List Bq} {x:Cl}:x ∈ G8 bs <-> ∃ b ∈ bs,x ∈ ofC b:=by
 unfold G8
 rw [(a4p bs [] List.Pairwise.nil).2.1]
 simp
theorem b8t (bs:List Bq):(G8 bs).length<=16384*bs.length:=by
 have:=(a4p bs [] List.Pairwise.nil).2.2
 simpa [G8] using this
def a5Z (bs:List Bq):Int:=match bs.find? fun b=>!decide (ofE b=0) with
 | some b=>ofE b
 | none=>0
def cellsE (bs:List Bq):Int:=if a5Z bs=0 then if 400 < (G8 bs).length then 2 else 0 else a5Z bs
theorem b9D {bs:List Bq} (h:a5Z bs=0):∀ b ∈ bs,ofE b=0:=by
 unfold a5Z at h
 intro b hb
 split at h
 ·rename_i c hc
  have:=List.find?_some hc
  simp [h] at this
 ·rename_i hc
  have:=List.find?_eq_none.1 hc b hb
  simpa using this
theorem c1z {bs:List Bq} {i:Nat} {b:Bq} (hb:bs[i]?=some b) (h:ofE b ≠ 0) (hm:∀ j,j < i->∀ c,bs[j]?=some c->ofE c=0):a5Z bs=ofE b:=by
 have:bs.find? (fun b=>!decide (ofE b=0))=some b:=by
  obtain ⟨hi,he⟩:=c7m.1 hb
  rw [List.find?_eq_some_iff_getElem]
  refine ⟨by simpa using h,i,hi,he,fun j hj=>?_⟩
  have:=hm j hj _ (c7h (by omega))
  simp [this]
 unfold a5Z
 rw [this]
theorem c1p {bs:List Bq} (hm:∀ j,j < bs.length->∀ c,bs[j]?=some c->ofE c=0):a5Z bs=0:=by
 have:bs.find? (fun b=>!decide (ofE b=0))=none:=List.find?_eq_none.2 fun b hb=>by
  obtain ⟨j,hj⟩:=List.mem_iff_getElem?.1 hb
  simp [hm j (c7m.1 hj).1 b hj]
 unfold a5Z
 rw [this]
theorem a8X {bs:List Bq} (h:cellsE bs=0):(∀ b ∈ bs,ofE b=0)/\(G8 bs).length<=400:=by
 unfold cellsE at h
 split at h
 ·rename_i h0
  split at h
  ·cases h
  ·exact ⟨b9D h0,by omega⟩
 ·contradiction
def a2O (l:List Cl):Prop:=l.length<=400/\(∀ c ∈ l,onB c.1=true/\onB c.2=true)/\Up l
theorem b6u {bs:List Bq} (h:cellsE bs=0):a2O (G8 bs):=
 ⟨(a8X h).2,fun c hc=>by obtain ⟨b,_,hb⟩:=a6L.1 hc;exact c5w hb,b2I bs⟩
def a1g (l:List Cl) (k:Nat):List Cl:=l.take k++l.drop (k+1)
theorem a8y (l:List Cl) (k:Nat):(a1g l k).Sublist l:=by
 unfold a1g
 rw [<- List.eraseIdx_eq_take_drop_succ]
 exact List.eraseIdx_sublist l k
theorem c2u {l:List Cl} (h:a2O l) (k:Nat):a2O (a1g l k):=
 ⟨c7l (a8y l k).length_le h.1,fun c hc=>h.2.1 c ((a8y l k).mem hc),h.2.2.sub (a8y l k)⟩
theorem c3I {l:List Cl} (h:Up l) {k:Nat} {c:Cl} (hc:l[k]?=some c):c ∉ a1g l k:=fun hm=>by
 unfold a1g at hm
 rcases List.mem_append.1 hm with hm|hm
 ·obtain ⟨j,hj⟩:=List.mem_iff_getElem?.1 hm
  rw [List.getElem?_take] at hj
  split at hj
  ·have:=h.get (by assumption) hj hc
   rw [a2Z] at this
   cases this
  ·cases hj
 ·obtain ⟨j,hj⟩:=List.mem_iff_getElem?.1 hm
  rw [c7U] at hj
  have:=h.get (by omega) hc hj
  rw [a2Z] at this
  cases this
def Q8 (ls:List (List Cl)):Bool:=(List.range ls.length).any fun i=>(ls.take i).any fun m=>decide (0 < (a1F (ls.getD i []) m).length)
theorem c1b {ls:List (List Cl)}:Q8 ls=true <-> ∃ (i j:Nat) (a b:List Cl) (x:Cl),j < i/\ls[i]?=some a/\ls[j]?=some b/\x ∈ a/\x ∈ b:=by
 unfold Q8
 simp only [List.any_eq_true,c7v]
 constructor
 ·rintro ⟨i,hi,m,hm,h⟩
  rw [List.mem_range] at hi
  obtain ⟨j,hj⟩:=List.mem_iff_getElem?.1 hm
  rw [List.getElem?_take] at hj
  split at hj
  ·rename_i hji
   have hg:=c7h hi
   rw [c7u,hg,Option.getD_some] at h
   obtain ⟨x,hx⟩:=List.exists_mem_of_length_pos h
   rw [b2x] at hx
   exact ⟨i,j,_,m,x,hji,hg,hj,hx.1,hx.2⟩
  ·cases hj
 ·rintro ⟨i,j,a,b,x,hji,ha,hb,h1,h2⟩
  refine ⟨i,List.mem_range.2 (c7m.1 ha).1,b,List.mem_iff_getElem?.2 ⟨j,by rw [List.getElem?_take,if_pos hji];exact hb⟩,?_⟩
  rw [c7u,ha,Option.getD_some]
  exact List.length_pos_of_mem (b2x.2 ⟨h1,h2⟩)
theorem b9j {ls ms:List (List Cl)} (h:∀ (i:Nat) a,ms[i]?=some a->∃ b,ls[i]?=some b/\∀ x ∈ a,x ∈ b) (hm:Q8 ms=true):Q8 ls=true:=by
 rw [c1b] at *
 obtain ⟨i,j,a,b,x,hji,ha,hb,h1,h2⟩:=hm
 obtain ⟨a',ha',ka⟩:=h i a ha
 obtain ⟨b',hb',kb⟩:=h j b hb
 exact ⟨i,j,a',b',x,hji,ha',hb',ka x h1,kb x h2⟩
theorem b9d (n:Int):A9 Tryz.prog 60 [ints n] (.v (.bool (onB n))):=by
 refine kS Tryz.func60 (by cbv) (by rfl) fun w O=>?_
 unfold onB
 simp only [j5,TT,II,OA,OC,MM,MG,ints]
 (repeat first|refine uA ?_|(apply uK;focus omega)|simp (disch:=omega) only [go_sem,Nat.reduceBEq])
 exact S.done (j3.out rfl (Imp.refl rfl) rfl)
theorem c2V (p:Rat):-9223372036854775807<=flI p/\flI p<=9223372036854775807:=by
 unfold flI
 split<;>omega
theorem b7f (lo hi:Rat) (hl:Rb 1000000000 (Nm.ofQ lo)) (hh:Rb 1000000000 (Nm.ofQ hi)):FZ 51 [rq lo,rq hi] (.tup [ints (M6 lo),ints (flI hi),.v (.bool (a0X lo hi))]):=by
 refine kW Tryz.func51 (by cbv) (by rfl) fun w O hw=>?_
 have o1:=a9C (Nm.ofQ hi) (hh.mono (by decide))
 have o2:=a4S (Nm.ofQ lo) (hl.mono (by decide))
 have r2:=a1c hl
 have o3:=a9C (Nm.ofQ (-lo)) (r2.mono (by decide))
 rw [Nm.q8] at o1 o2 o3
 have b1:=c2V hi
 have b2:=c2V (-lo)
 have hs:M6 lo=-flI (-lo)-1:=rfl
 have hB:a0X lo hi=(decide (flE hi=0) && decide (flE (-lo)=0) && onB (M6 lo) && onB (flI hi)):=rfl
 rw [hB]
 generalize M6 lo=x at *
 generalize flE hi=e1 at *
 generalize flE (-lo)=e2 at *
 generalize flI hi=y at *
 generalize flI (-lo)=z at *
 have o4:=b9d x
 have o5:=b9d y
 have hx:-z-1=x:=hs.symm
 have hx2:0-z-1=x:=by omega
 generalize onB x=u1 at *
 generalize onB y=u2 at *
 simp only [j5,TT,II,OA,OC,MM,LL,MG]
 simp only [rq,rc,sb,ints] at o1 o2 o3 o4 o5 ⊢
 (repeat first|refine uA ?_|(apply uK;focus first|omega|(intros;simp_all<;>omega))|simp (disch:=omega) only [go_sem,Nat.reduceBEq,Nat.reduceAdd,ww,hx2]|(apply uB o4;exact rfl)|(apply uB o5;exact rfl)|(apply uD o1;exact tz hw;rfl)|(apply uD o2;exact tz hw;rfl)|(apply uD o3;exact tz hw;rfl))
 refine S.done ?_
 simp only [p9,go_sem,Nat.reduceBEq]
 (repeat (refine ⟨?_,?_⟩;focus first|trivial|omega|simp))
 exact j3.out rfl (Imp.tup (j4.cons (Imp.refl rfl) (j4.cons (Imp.refl rfl) (j4.cons (Imp.eq (by simp) rfl) j4.nil)))) rfl
theorem c1w (l:List Cl) (h:a2O l):A9 Tryz.prog 25 [cls l] (ints 0):=by
 refine kS Tryz.func25 (by cbv) (by rfl) fun w O=>?_
 obtain ⟨hn,hon,hu⟩:=h
 simp only [j5,cls,ints]
 (repeat first|refine uA ?_|(apply uK;focus omega)|simp (disch:=omega) only [go_sem,Nat.reduceBEq,c7i])
 (refine uJ rfl (fun hc=>?_) fun hc=>?_)
 ·omega
 (repeat first|refine uA ?_|(apply uK;focus omega)|simp (disch:=omega) only [go_sem,Nat.reduceBEq,c7i])
 refine S.loop (X:=Nat) (fun i=>⟨[(0,cls l),(8,cls l),(9,ints l.length),(10,ints i)],[]⟩) (fun i=>i<=l.length) (fun i=>l.length-i) 0 (c7n _) (by (repeat first|refine uA ?_|(refine ⟨?_,?_⟩;focus first|rfl|simp [slot])|rfl|simp)) ?_
 intro i hi
 simp only [cls,ints]
 (repeat first|refine uA ?_|(apply uK;focus omega)|simp (disch:=omega) only [go_sem,Nat.reduceBEq])
 (refine uJ rfl (fun hc=>?_) fun hc=>?_)
 ·have hi':i < l.length:=by omega
  have hg:=c7h hi'
  generalize l[i]=x at hg
  obtain ⟨x1,x2⟩:=hon x (c7k hg)
  have o1:=b9d x.1
  have o2:=b9d x.2
  rw [x1] at o1
  rw [x2] at o2
  simp only [ints] at o1 o2
  (repeat first|refine uA ?_|(apply uK;focus first|omega|(intros;simp_all<;>omega))|simp (disch:=omega) only [go_sem,Nat.reduceBEq,Nat.reduceAdd,c7i,c7r,hg,c7j,c7o,ce]|(apply uB o1;exact rfl)|(apply uB o2;exact rfl))
  refine S.cond rfl (fun hc=>by simp at hc) (fun hc=>?_)
  rcases c7E i with h0|h0
  ·subst h0
   have hjl:decide ((0:Int) < ((0:Nat):Int))=false:=by decide
   have hjm:(((0:Nat):Int)-1).toNat=0:=by decide
   (repeat first|refine uA ?_|(apply uK;focus omega)|simp (disch:=omega) only [go_sem,Nat.reduceBEq,ww,c7i,hjl,hjm,hg,c7r,c7j,ce])
   refine X6.mk (r:=.v (.int .i64 0)) (fun hp=>by cases hp) ?_
   (repeat first|refine uA ?_|(apply uK;focus omega)|simp (disch:=omega) only [go_sem,Nat.reduceBEq])
   refine S.cond rfl (fun hc=>by simp at hc) (fun hc=>?_)
   (repeat first|refine uA ?_|(apply uK;focus omega)|simp (disch:=omega) only [go_sem,Nat.reduceBEq,ww])
   refine S.next (x:=0) 1 (by omega) (by omega) (by (repeat first|refine uA ?_|(refine ⟨?_,?_⟩;focus first|rfl|simp [slot])|rfl|simp))
  ·have hgy:=c7h (show i-1 < l.length by omega)
   generalize l[i-1]'_=y at hgy
   have hlt:=hu.get (show i-1 < i by omega) hgy hg
   have o3:=b7B y x
   have h4:a1e y x < 0:=by simpa [ltC] using hlt
   have hjl:decide ((0:Int) < (i:Int))=true:=decide_eq_true (by omega)
   have hjm:((i:Int)-1).toNat=i-1:=by omega
   generalize a1e y x=c at *
   simp only [ce,ints] at o3
   (repeat first|refine uA ?_|(apply uK;focus omega)|simp (disch:=omega) only [go_sem,Nat.reduceBEq,ww,c7i,hjl,hjm,hgy,c7r,c7j,ce]|(apply uB o3;exact rfl))
   refine S.cond rfl (fun hc=>?_) (fun hc=>?_)
   ·simp at hc
    omega
   (repeat first|refine uA ?_|(apply uK;focus omega)|simp (disch:=omega) only [go_sem,Nat.reduceBEq,ww])
   refine S.next (i+1) (by omega) (by omega) (by (repeat first|refine uA ?_|(refine ⟨?_,?_⟩;focus first|rfl|simp [slot])|rfl|simp))
 ·have hi':i=l.length:=by omega
  subst hi'
  (repeat first|refine uA ?_|(apply uK;focus omega)|simp (disch:=omega) only [go_sem])
  exact S.done (j3.out rfl (Imp.refl rfl) rfl)
def b1e:H6:=⟨88,[.tmp 2,.tmp 3],.seq (.reg [OA 1 (.box 82 (TT 0)),OA 2 (.mv (.const (.slice none 0 0))),OA 3 (.mv (II 0))]) (.seq (.seq (.reg [FF 13 0 1,FF 14 0 13,LL 15 3 14,FF 16 6 1,FF 17 0 16,LL 18 3 17,OA 19 (.call 39 [TT 15,
 TT 18]),OA 20 (.bin .gtr (TT 19) (II 0)),MM 21 20,FG 22 0 1 21 false,FG 23 3 22 21 false,LG 24 3 23 21 false,FG 25 6 1 21 false,FG 26 3 25 21 false,LG 27 3 26 21 false,OC 28 (.call 39 [TT 24,TT 27]) 21 false,OC 29
 (.bin .gtr (TT 28) (II 0)) 21 false,OA 30 (.pick (TT 21) (.const (.bool true)) (TT 29))]) (.cond (TT 30) (.seq (.reg [OA 2 (.mv (.const (.slice none 0 0))),OA 3 (.mv (II 1))]) .ret) .skip)) (.seq (.reg [FF 32 0 1,FF 33 0 32,
 LL 34 3 33,FF 35 6 1,FF 36 0 35,LL 37 3 36,OA 38 (.call 51 [TT 34,TT 37]),MM 31 38,OA 39 (.ext (TT 31) 0),OA 40 (.ext (TT 31) 1),OA 41 (.ext (TT 31) 2),MM 4 39,MM 5 40,MM 6 41]) (.seq (.reg [FF 43 0 1,FF 44 3 43,LL
 45 3 44,FF 46 6 1,FF 47 3 46,LL 48 3 47,OA 49 (.call 51 [TT 45,TT 48]),MM 42 49,OA 50 (.ext (TT 42) 0),OA 51 (.ext (TT 42) 1),OA 52 (.ext (TT 42) 2),MM 7 50,MM 8 51,MM 9 52]) (.seq (.seq (.reg [MM 53 6,OA 54 (.un
 .not (TT 53)),MM 55 54,MG 56 9 55 false,OC 57 (.un .not (TT 56)) 55 false,OA 58 (.pick (TT 55) (.const (.bool true)) (TT 57))]) (.cond (TT 58) (.seq (.reg [OA 2 (.mv (.const (.slice none 0 0))),OA 3 (.mv (II 17))]) .ret)
 .skip)) (.seq (.seq (.reg [MM 59 5,MM 60 4,OA 61 (.bin .sub (TT 59) (TT 60)),OA 62 (.bin .add (TT 61) (II 1)),MM 63 8,MM 64 7,OA 65 (.bin .sub (TT 63) (TT 64)),OA 66 (.bin .add (TT 65) (II 1)),OA 67 (.bin .mul (TT 62)
 (TT 66)),OA 68 (.bin .gtr (TT 67) (II 400))]) (.cond (TT 68) (.seq (.reg [OA 2 (.mv (.const (.slice none 0 0))),OA 3 (.mv (II 2))]) .ret) .skip)) (.seq (.reg [OA 10 (.mv (.const (.slice none 0 0)))]) (.seq (.seq (.reg [MM 69
 7,MM 11 69]) (.block 0 (.loop (.seq (.seq (.reg [MM 70 11,MM 71 8,OA 72 (.bin .leq (TT 70) (TT 71))]) (.cond (TT 72) .skip (.exit 0))) (.seq (.block 1 (.seq (.reg [MM 75 4,MM 12 75]) (.block 2 (.loop (.seq (.seq (.reg [MM 76
 12,MM 77 5,OA 78 (.bin .leq (TT 76) (TT 77))]) (.cond (TT 78) .skip (.exit 2))) (.seq (.block 3 (.reg [MM 81 10,MM 82 12,MM 83 11,OA 84 (.build [.int .i64 0,.int .i64 0] [(0,(1,TT 82)),(1,(1,TT 83))]),OA 85 (.bsl 53
 2 1 [.int .i64 0,.int .i64 0] [(0,TT 84)]),OA 86 (.app 53 2 16 (TT 81) (TT 85)),MM 10 86])) (.reg [MM 79 12,OA 80 (.bin .add (TT 79) (II 1)),MM 12 80]))))))) (.reg [MM 73 11,OA 74 (.bin .add (TT 73) (II 1)),MM 11
 74])))))) (.seq (.reg [MM 87 10,MM 2 87,OA 3 (.mv (II 0))]) .ret))))))))⟩
theorem b9k:F3 eff Tryz.prog Tryz.f21=some b1e:=by kernel_rfl
theorem b7Z:Tryz.prog.funcs[21]?=some Tryz.f21:=Tryz.func21
theorem c4O (b:Bq) (hb:Bb 1000000000 b):FZ 21 [.agg b.enc] (.tup [cls (ofC b),ints (ofE b)]):=by
  refine kW b7Z b9k (by rfl) fun w O hw=>?_
  have hon:=@b5f b
  have hE:ofE b=if 0 < Nm.q9 b.lx b.hx \/ 0 < Nm.q9 b.ly b.hy then 1 else if (a0X b.lx b.hx && a0X b.ly b.hy)=false then 17 else if 400 < (flI b.hx-M6 b.lx+1)*(flI b.hy-M6 b.ly+1) then 2 else 0:=rfl
  have hC:ofC b=if ofE b=0 then a4O (M6 b.lx) (M6 b.ly) (wid (M6 b.lx) (flI b.hx)) (wid (M6 b.ly) (flI b.hy)) else []:=rfl
  have hS:(a0X b.lx b.hx && a0X b.ly b.hy)=true->(onB (M6 b.lx)=true/\onB (flI b.hx)=true)/\(onB (M6 b.ly)=true/\onB (flI b.hy)=true):=fun h2=>by
    unfold a0X at h2
    simp only [c7q] at h2
    exact ⟨⟨h2.1.1.2,h2.1.2⟩,⟨h2.2.1.2,h2.2.2⟩⟩
  rw [hC]
  clear hon hC
  obtain ⟨lx,ly,hx,hy⟩:=b
  obtain ⟨b1,b2,b3,b4⟩:=hb
  simp only at b1 b2 b3 b4 hE hS ⊢
  have o1:=Q9 (Nm.ofQ lx) (Nm.ofQ hx) (b1.mono (by decide)) (b3.mono (by decide))
  have o2:=Q9 (Nm.ofQ ly) (Nm.ofQ hy) (b2.mono (by decide)) (b4.mono (by decide))
  rw [Nm.q8,Nm.q8] at o1 o2
  have o3:=b7f lx hx b1 b3
  have o4:=b7f ly hy b2 b4
  generalize ofE ⟨lx,ly,hx,hy⟩=E at *
  generalize Nm.q9 lx hx=c1 at *
  generalize Nm.q9 ly hy=c2 at *
  generalize a0X lx hx=s1 at *
  generalize a0X ly hy=s2 at *
  generalize M6 lx=x0 at *
  generalize M6 ly=y0 at *
  generalize flI hx=x1 at *
  generalize flI hy=y1 at *
  clear b1 b2 b3 b4
  simp only [b1e,j5,TT,II,OA,OC,MM,LL,FF,MG,LG,FG]
  simp only [Bq.enc,rq,rc,sb,ints,cls] at o1 o2 o3 o4 ⊢
  (repeat first|refine uA ?_|(refine uK ?_ ?_;focus first|omega|(intros;simp_all<;>omega))|simp (disch:=omega) only [go_sem,Nat.reduceBEq,Nat.reduceAdd]|(refine uD o1 ?_ ?_ ?_;exact tz hw;exact rfl)|(refine uD o2 ?_ ?_ ?_;exact tz hw;exact rfl))
  refine S.cond rfl (fun hc=>?_) (fun hc=>?_)
  · have h1:0 < c1 \/ 0 < c2:=by
      revert hc
      by_cases k1:0 < c1<;>by_cases k2:0 < c2<;>simp [k1,k2]
    rw [if_pos h1] at hE
    subst hE
    rw [if_neg (by decide)]
    (repeat first|refine uA ?_|(refine uK ?_ ?_;focus first|omega|(intros;simp_all<;>omega))|simp (disch:=omega) only [go_sem])
    (refine S.done ?_;simp only [p9,go_sem,Nat.reduceBEq];(repeat (refine ⟨?_,?_⟩;focus first|trivial|omega|simp));exact j3.out rfl (Imp.tup (by (repeat' (first|exact j4.nil|exact Imp.refl rfl|exact Imp.frz rfl rfl rfl|exact Imp.F8|refine Imp.agg ?_|refine j4.cons ?_ ?_)))) rfl)
  have h1:¬ (0 < c1 \/ 0 < c2):=by
    revert hc
    by_cases k1:0 < c1<;>by_cases k2:0 < c2<;>simp [k1,k2]
  rw [if_neg h1] at hE
  (repeat first|refine uA ?_|(refine uK ?_ ?_;focus first|omega|(intros;simp_all<;>omega))|simp (disch:=omega) only [go_sem,Nat.reduceBEq,Nat.reduceAdd]|(refine uD o3 ?_ ?_ ?_;exact tz hw;exact rfl)|(refine uD o4 ?_ ?_ ?_;exact tz hw;exact rfl))
  refine S.cond rfl (fun hc=>?_) (fun hc=>?_)
  · have h2:(s1 && s2)=false:=by
      revert hc
      cases s1<;>cases s2<;>simp
    rw [if_pos h2] at hE
    subst hE
    rw [if_neg (by decide)]
    (repeat first|refine uA ?_|(refine uK ?_ ?_;focus first|omega|(intros;simp_all<;>omega))|simp (disch:=omega) only [go_sem])
    (refine S.done ?_;simp only [p9,go_sem,Nat.reduceBEq];(repeat (refine ⟨?_,?_⟩;focus first|trivial|omega|simp));exact j3.out rfl (Imp.tup (by (repeat' (first|exact j4.nil|exact Imp.refl rfl|exact Imp.frz rfl rfl rfl|exact Imp.F8|refine Imp.agg ?_|refine j4.cons ?_ ?_)))) rfl)
  have h2:(s1 && s2)=true:=by
    revert hc
    cases s1<;>cases s2<;>simp
  obtain ⟨⟨e1,e2⟩,e3,e4⟩:=hS h2
  rw [if_neg (by rw [h2];decide)] at hE
  rw [a8A] at e1 e2 e3 e4
  obtain ⟨A,hA⟩:∃ A,A=x1-x0+1:=⟨_,rfl⟩
  obtain ⟨B,hB⟩:∃ B,B=y1-y0+1:=⟨_,rfl⟩
  rw [<- hA,<- hB] at hE
  have hP:-65536<=A*B/\A*B<=65536:=by
    have a1:-128<=A/\A<=128:=by omega
    have a2:-128<=B/\B<=128:=by omega
    have hq:=Int.natAbs_mul A B
    have:=Nat.mul_le_mul (show A.natAbs<=128 by omega) (show B.natAbs<=128 by omega)
    omega
  have hA':x1-x0+1=A:=hA.symm
  have hB':y1-y0+1=B:=hB.symm
  generalize hAB:A*B=AB at hE hP
  (repeat first|refine uA ?_|(refine uK ?_ ?_;focus first|omega|(intros;simp_all<;>omega))|simp (disch:=omega) only [go_sem,Nat.reduceBEq,ww,hA',hB',hAB])
  refine S.cond rfl (fun hc=>?_) (fun hc=>?_)
  · rw [if_pos (by simpa using hc)] at hE
    subst hE
    rw [if_neg (by decide)]
    (repeat first|refine uA ?_|(refine uK ?_ ?_;focus first|omega|(intros;simp_all<;>omega))|simp (disch:=omega) only [go_sem])
    (refine S.done ?_;simp only [p9,go_sem,Nat.reduceBEq];(repeat (refine ⟨?_,?_⟩;focus first|trivial|omega|simp));exact j3.out rfl (Imp.tup (by (repeat' (first|exact j4.nil|exact Imp.refl rfl|exact Imp.frz rfl rfl rfl|exact Imp.F8|refine Imp.agg ?_|refine j4.cons ?_ ?_)))) rfl)
  rw [if_neg (by simpa using hc)] at hE
  subst hE
  rw [if_pos rfl]
  obtain ⟨m,hm⟩:∃ m,m=wid x0 x1:=⟨_,rfl⟩
  obtain ⟨n,hn⟩:∃ n,n=wid y0 y1:=⟨_,rfl⟩
  have hm':m=(x1+1-x0).toNat:=hm
  have hn':n=(y1+1-y0).toNat:=hn
  rw [<- hm,<- hn]
  have hlen:∀ i j,i<=n->j<=m->(a4O x0 y0 m i).length+j<=20000:=fun i j hi hj=>by
    rw [a9L]
    have:=Nat.mul_le_mul (show i<=128 by omega) (show m<=128 by omega)
    omega
  clear o1 o2 o3 o4 hP hAB hA' hB' hA hB hm hn
  (repeat first|refine uA ?_|(refine uK ?_ ?_;focus first|omega|(intros;simp_all<;>omega))|simp (disch:=omega) only [go_sem,Nat.reduceBEq])
  refine S.loop (X:=Nat) (fun i=>⟨[(4,ints x0),(5,ints x1),(8,ints y1),(10,.rv 1),(11,ints (y0+(i:Int)))],[.gone,.row 53 2 ((a4O x0 y0 m i).map ce)]⟩) (fun i=>i<=n) (fun i=>n-i) 0 (c7n _) (Ent.trans (Ent.pack 10 53 2 rfl) (by simp only [ints,Int.natCast_zero,Int.add_zero,show a4O x0 y0 m 0=[] from rfl,c7I];exact (by (repeat first|refine uA ?_|(refine ⟨?_,?_⟩;focus first|rfl|simp [slot])|rfl|simp)))) ?_
  intro i hi
  simp only [ints]
  (repeat first|refine uA ?_|(refine uK ?_ ?_;focus first|omega|(intros;simp_all<;>omega))|simp (disch:=omega) only [go_sem,Nat.reduceBEq])
  (refine uJ rfl (fun hc=>?_) fun hc=>?_)
  · have hi':i < n:=by omega
    have hl0:=hlen i
    have hsu:=b2H x0 y0 m i
    generalize a4O x0 y0 m i=T at *
    obtain ⟨y,hy⟩:∃ y,y=y0+(i:Int):=⟨_,rfl⟩
    have hyn:y0+((i+1:Nat):Int)=y+1:=by omega
    rw [<- hy] at hsu ⊢
    (repeat first|refine uA ?_|(refine uK ?_ ?_;focus first|omega|(intros;simp_all<;>omega))|simp (disch:=omega) only [go_sem,Nat.reduceBEq])
    refine S.loop (X:=Nat) (fun j=>⟨[(4,ints x0),(5,ints x1),(8,ints y1),(10,.rv 1),(11,ints y),(12,ints (x0+(j:Int)))],[.gone,.row 53 2 ((T++a3i x0 y j).map ce)]⟩) (fun j=>j<=m) (fun j=>m-j) 0 (c7n _) (by simp only [ints,Int.natCast_zero,Int.add_zero,show a3i x0 y 0=[] from rfl,List.append_nil];exact (by (repeat first|refine uA ?_|(refine ⟨?_,?_⟩;focus first|rfl|simp [slot])|rfl|simp))) ?_
    intro j hj
    simp only [ints]
    (repeat first|refine uA ?_|(refine uK ?_ ?_;focus first|omega|(intros;simp_all<;>omega))|simp (disch:=omega) only [go_sem,Nat.reduceBEq])
    (refine uJ rfl (fun hc=>?_) fun hc=>?_)
    · have hj':j < m:=by omega
      have hl1:=hl0 j (by omega) hj
      have hrs:=c0l x0 y j
      have hrl:=b4C x0 y j
      have hxn:x0+((j+1:Nat):Int)=x0+(j:Int)+1:=by omega
      obtain ⟨x,hx⟩:∃ x,x=x0+(j:Int):=⟨_,rfl⟩
      rw [<- hx] at hrs hxn ⊢
      have hap:(T++a3i x0 y (j+1)).map ce=(T++a3i x0 y j).map ce++[[C.v (.int .i64 x),.v (.int .i64 y)]]:=by
        rw [hrs,<- c7P,c7X (l₂:=[(x,y)])]
        rfl
      have hTl:((T++a3i x0 y j).map ce).length<=20000:=by rw [c7i,c7t,hrl];exact hl1
      generalize (T++a3i x0 y j).map ce=R at *
      (repeat first|refine uA ?_|(refine uK ?_ ?_;focus first|omega|(intros;simp_all<;>omega))|simp (disch:=omega) only [go_sem,Nat.reduceBEq,Nat.reduceAdd,ww])
      refine S.next (j+1) (by omega) (by omega) (by simp only [hxn,hap];exact (by (repeat first|refine uA ?_|(refine ⟨?_,?_⟩;focus first|rfl|simp [slot])|rfl|simp)))
    · have hj':j=m:=by omega
      subst hj'
      rw [<- hsu]
      (repeat first|refine uA ?_|(refine uK ?_ ?_;focus first|omega|(intros;simp_all<;>omega))|simp (disch:=omega) only [go_sem,Nat.reduceBEq,ww])
      refine S.next (i+1) (by omega) (by omega) (by simp only [hyn];exact (by (repeat first|refine uA ?_|(refine ⟨?_,?_⟩;focus first|rfl|simp [slot])|rfl|simp)))
  · have hi':i=n:=by omega
    subst hi'
    (repeat first|refine uA ?_|(refine uK ?_ ?_;focus first|omega|(intros;simp_all<;>omega))|simp (disch:=omega) only [go_sem,Nat.reduceBEq])
    (refine S.done ?_;simp only [p9,go_sem,Nat.reduceBEq];(repeat (refine ⟨?_,?_⟩;focus first|trivial|omega|simp));exact j3.out rfl (Imp.tup (by (repeat' (first|exact j4.nil|exact Imp.refl rfl|exact Imp.frz rfl rfl rfl|exact Imp.F8|refine Imp.agg ?_|refine j4.cons ?_ ?_)))) rfl)
set_option maxRecDepth 10000
theorem c0E (x n:Int) (h:1<=n):x % n=(if x.tmod n < 0 then x.tmod n+n else x.tmod n)/\-n < x.tmod n/\x.tmod n < n:=by
 have hq:x=n*(x.tdiv n)+x.tmod n:=(Int.mul_tdiv_add_tmod x n).symm
 have he:x % n=x.tmod n % n:=by
  conv=>lhs;rw [hq]
  exact Int.mul_add_emod_self_left ..
 have h2:=Int.tmod_lt_of_pos x (show 0 < n by omega)
 have h3:-n < x.tmod n:=by
  have:=Int.tmod_lt_of_pos (-x) (show 0 < n by omega)
  rw [Int.neg_tmod] at this
  omega
 refine ⟨?_,h3,h2⟩
 rw [he]
 split
 ·rename_i hc
  have:x.tmod n % n=(x.tmod n+n) % n:=by simp
  rw [this]
  exact Int.emod_eq_of_lt (by omega) (by omega)
 ·exact Int.emod_eq_of_lt (by omega) (by omega)
theorem b5z (x n:Int) (h:1<=n/\n<=4611686018427387904):A9 Tryz.prog 8 [ints x,ints n] (ints (x % n)):=by
 refine kS Tryz.func8 (by cbv) (by rfl) fun w O=>?_
 simp only [j5,TT,II,OA,MM,ints]
 have hn:¬ n=0:=by omega
 obtain ⟨he,hlt⟩:=c0E x n (by omega)
 (repeat first|refine uA ?_|(apply uK;focus first|omega|(intros;simp_all<;>omega))|simp (disch:=omega) only [go_sem,Nat.reduceBEq,Nat.reduceAdd])
 (refine uJ rfl (fun hc=>?_) fun hc=>?_)
 ·rw [he,if_pos hc]
  (repeat first|refine uA ?_|(apply uK;focus omega)|simp (disch:=omega) only [go_sem,Nat.reduceBEq,ww])
  exact S.done (j3.out rfl (Imp.refl rfl) rfl)
 ·rw [he,if_neg hc]
  (repeat first|refine uA ?_|(apply uK;focus omega)|simp (disch:=omega) only [go_sem,Nat.reduceBEq])
  exact S.done (j3.out rfl (Imp.refl rfl) rfl)
def x9 (l:List Int):C:=.sl 1 (l.map fun n=>[.v (.int .i64 n)])
theorem I7 {E:Ctx} (hP:E.P=Tryz.prog) (l:List Int) (n:Int) (h:1<=n/\n<=4611686018427387904) :
  j6 E [.box 95 [x9 l]] 33 [.bp 0 0,ints n] (ints (nx l n)) [.box 95 [x9 (l.drop 1)]] []:=by
 obtain ⟨P,eff',N,w0,own0,av0,nu0,pk0⟩:=E
 simp only at hP
 subst hP
 refine j6.of (eff:=eff) Tryz.func33 (by cbv) (by exact c7z rfl) fun w own av ν hν=>?_
 have hν0:ν.length<=1:=by rw [hν];exact c7p _
 have hn1:decide (n < 1)=false:=decide_eq_false (by omega)
 cases l with
 | nil=>
  have e:nx [] n=0:=by unfold nx;rw [List.headD_nil,Int.zero_emod]
  rw [e]
  simp only [j5,TT,II,OA,OB,OC,MM,VV,FF,MG,x9,ints,List.drop_nil,c7I]
  (repeat first|refine uA ?_|(refine uK ?_ ?_;focus first|omega|(intros;simp_all<;>omega))|simp (disch:=omega) only [go_sem,Nat.reduceBEq,Nat.reduceAdd,hn1,List.length_nil])
  refine S.cond rfl (fun hc=>?_) (fun hc=>by simp at hc)
  (repeat first|refine uA ?_|(refine uK ?_ ?_;focus first|omega|(intros;simp_all<;>omega))|simp (disch:=omega) only [go_sem])
  (refine S.done ?_;simp only [p9,go_sem,Nat.reduceBEq];(repeat (refine ⟨?_,?_⟩;focus first|trivial|omega|simp));exact j3.K9 (Imp.refl rfl) (by (repeat first|refine uA ?_|(refine ⟨?_,?_⟩;focus first|rfl|simp [slot])|rfl|simp)) (c7l hν0 (by simp)))
 | cons x r=>
  have e:nx (x::r) n=x % n:=by unfold nx;rw [List.headD_cons]
  rw [e]
  have hb:=b5z x n h
  have h0:decide (((r.length:Int)+1)=0)=false:=decide_eq_false (by omega)
  simp only [j5,TT,II,OA,OB,OC,MM,VV,FF,MG,x9,ints,c7w,List.drop_succ_cons,List.drop_zero] at *
  (repeat first|refine uA ?_|(refine uK ?_ ?_;focus first|omega|(intros;simp_all<;>omega))|simp (disch:=omega) only [go_sem,Nat.reduceBEq,Nat.reduceAdd,hn1,c7A,c7i]|(refine uB hb ?_ ?_;exact rfl))
  refine S.cond rfl (fun hc=>by simp at hc;omega) (fun hc=>?_)
  (repeat first|refine uA ?_|(refine uK ?_ ?_;focus first|omega|(intros;simp_all<;>omega))|simp (disch:=omega) only [go_sem,Nat.reduceBEq,Nat.reduceAdd,c7A,c7i,List.getElem?_cons_zero,List.drop_succ_cons,Nat.add_sub_cancel,c7y]|(refine uB hb ?_ ?_;exact rfl))
  (refine S.done ?_;simp only [p9,go_sem,Nat.reduceBEq];(repeat (refine ⟨?_,?_⟩;focus first|trivial|omega|simp));exact j3.K9 (Imp.refl rfl) (by (repeat first|refine uA ?_|(refine ⟨?_,?_⟩;focus first|rfl|simp [slot])|rfl|simp)) (c7l hν0 (by simp)))
set_option maxRecDepth 100000
set_option maxHeartbeats 4000000
def nuI (a:Nm.Rt):Int:=Nm.sgn a.neg (Nm.val a.num)
def deI (a:Nm.Rt):Int:=max (Nm.val a.den:Int) 1
def a3M (x:Lk) (k:Int):Nm.Rt:=Q (8*nuI x.low*deI x.high+(nuI x.high*deI x.low-nuI x.low*deI x.high)*k) (8*deI x.low*deI x.high)
def O4:List Lk->List Int->List Nm.Rt
 | [],_=>[]
 | x::r,l=>a3M x (nx l 9)::O4 r (l.drop 1)
theorem a1D:∀ (L:List Lk) (l:List Int),(O4 L l).length=L.length
 | [],_=>rfl
 | x::r,l=>by rw [O4,c7A,c7A,a1D r]
theorem b1q:∀ (L:List Lk) (l:List Int) (i:Nat) (x:Lk),L[i]?=some x->O4 (L.take (i+1)) l=O4 (L.take i) l++[a3M x (nx (l.drop i) 9)]
 | [],_,i,x,h=>by simp at h
 | y::r,l,0,x,h=>by
  simp only [List.getElem?_cons_zero,Option.some.injEq] at h
  subst h
  simp [O4]
 | y::r,l,i+1,x,h=>by
  rw [List.getElem?_cons_succ] at h
  have:=b1q r (l.drop 1) i x h
  rw [List.take_succ_cons,O4,this,List.take_succ_cons,O4,List.cons_append,List.drop_drop]
  rw [show 1+i=i+1 by omega]
theorem b0E {a d A D:Int} (h:-A<=a/\a<=A) (hd:0<=d/\d<=D) (hA:0<=A):-(A*D)<=a*d/\a*d<=A*D:=by
 have h1:=Int.mul_le_mul_of_nonneg_right h.2 hd.1
 have h2:=Int.mul_le_mul_of_nonneg_right h.1 hd.1
 have h3:=Int.mul_le_mul_of_nonneg_left hd.2 hA
 rw [Int.neg_mul] at h2
 omega
theorem b1W {a:Nm.Rt} (h:l6 a=true):(-1000000<=nuI a/\nuI a<=1000000)/\1<=deI a/\deI a<=1000:=by
 unfold l6 at h
 simp only [c7q,c7v] at h
 obtain ⟨⟨_,h1⟩,h2⟩:=h
 unfold nuI deI Nm.sgn
 split<;>omega
structure c3i (x:Lk) (k:Int):Prop where
 n1:-1000000<=nuI x.low/\nuI x.low<=1000000
 n2:-1000000<=nuI x.high/\nuI x.high<=1000000
 d1:1<=deI x.low/\deI x.low<=1000
 d2:1<=deI x.high/\deI x.high<=1000
 p1:-1000000000<=nuI x.low*deI x.high/\nuI x.low*deI x.high<=1000000000
 p2:-1000000000<=nuI x.high*deI x.low/\nuI x.high*deI x.low<=1000000000
 p3:-16000000000<=(nuI x.high*deI x.low-nuI x.low*deI x.high)*k/\(nuI x.high*deI x.low-nuI x.low*deI x.high)*k<=16000000000
 p4:1<=deI x.low*deI x.high/\deI x.low*deI x.high<=1000000
 p5:8*nuI x.low*deI x.high=8*(nuI x.low*deI x.high)
 p6:8*deI x.low*deI x.high=8*(deI x.low*deI x.high)
theorem b2f {x:Lk} {k:Int} (h1:l6 x.low=true) (h2:l6 x.high=true) (hk:0<=k/\k<=8):c3i x k:=by
 obtain ⟨n1,d1⟩:=b1W h1
 obtain ⟨n2,d2⟩:=b1W h2
 have p1:=b0E (A:=1000000) (D:=1000) n1 (d:=deI x.high) (by omega) (by decide)
 have p2:=b0E (A:=1000000) (D:=1000) n2 (d:=deI x.low) (by omega) (by decide)
 have p3:=b0E (A:=2000000000) (D:=8) (a:=nuI x.high*deI x.low-nuI x.low*deI x.high) (d:=k) (by omega) hk (by decide)
 have p4:=b0E (A:=1000) (D:=1000) (a:=deI x.low) (d:=deI x.high) (by omega) (by omega) (by decide)
 have p5:0 < deI x.low*deI x.high:=Int.mul_pos (by omega) (by omega)
 exact ⟨n1,n2,d1,d2,by omega,by omega,by omega,by omega,Int.mul_assoc _ _ _,Int.mul_assoc _ _ _⟩
theorem c6R {n d:Int} (hn:-1099511627776<=n/\n<=1099511627776) (hd:1<=d/\d<=1099511627776):Rb 8 (Q n d):=by
 obtain ⟨g,hg,⟨k,h1,h2⟩,h3⟩:=b0d n d hd.1
 have hk:k.natAbs<=1099511627776:=by
  have:n.natAbs=g*k.natAbs:=by rw [h1,Int.natAbs_mul];simp
  have:k.natAbs<=g*k.natAbs:=Nat.le_mul_of_pos_left _ hg
  omega
 have e:(256:Nat) ^ 8=18446744073709551616:=by decide
 refine ⟨Nm.G5 ?_,Nm.G5 ?_⟩
 ·show (mkRat n d.toNat).num.natAbs < 256 ^ 8
  rw [h2,e];omega
 ·show (mkRat n d.toNat).den < 256 ^ 8
  rw [e];omega
theorem c3D {x:Lk} {k:Int} (h:c3i x k):Rb 8 (a3M x k):=by
 obtain ⟨n1,n2,d1,d2,p1,p2,p3,p4,p5,p6⟩:=h
 exact c6R (by omega) (by omega)
theorem nx9 (l:List Int):0<=nx l 9/\nx l 9<=8:=by
 have:=p8 l (n:=9) (by decide)
 have:=C9 l (n:=9) (by decide)
 omega
theorem b1y {l:Lk} (h:O6 l=0):l6 l.low=true/\l6 l.high=true:=by
 unfold O6 at h
 split at h
 ·cases h
 rename_i h2
 have hs2:(l6 l.length && l6 l.low && l6 l.high && l6 l.speed && l6 l.brake)=true:=by
  cases hb:(l6 l.length && l6 l.low && l6 l.high && l6 l.speed && l6 l.brake) with
  | true=>rfl
  | false=>exact absurd (.inl hb) h2
 simp only [c7q] at hs2
 exact ⟨hs2.1.1.1.2,hs2.1.1.2⟩
theorem a5k:∀ (L:List Lk) (l:List Int),(∀ x ∈ L,O6 x=0)->∀ r ∈ O4 L l,Rb 8 r
 | [],_,_,r,hr=>by cases hr
 | x::L,l,h,r,hr=>by
  rw [O4] at hr
  rcases List.mem_cons.1 hr with rfl|hr
  ·obtain ⟨s1,s2⟩:=b1y (h x (by simp))
   exact c3D (b2f s1 s2 (nx9 l))
  ·exact a5k L _ (fun y hy=>h y (by simp [hy])) r hr
theorem a5c (l:List UInt8) (b:UInt8):Nm.val (l++[b])=256*Nm.val l+b.toNat:=by
 unfold Nm.val
 rw [List.foldl_append]
 rfl
theorem b4e {l:List UInt8} (h:l.length<=3) (i:Nat):Nm.val (l.take i) < 16777216:=by
 have h1:=Nm.Y8 (l.take i)
 have h2:(l.take i).length<=3:=by rw [c7s];omega
 have h3:(256:Nat) ^ (l.take i).length<=256 ^ 3:=c7N (by decide) h2
 have e:(256:Nat) ^ 3=16777216:=by decide
 omega
def a4o (x:Lk) (c q:Nm.Rt):Nm.Rt:=Nm.ofQ (K6 (-(Nm.d9 x.speed)) (G9 (Nm.d9 x.speed) (Nm.d9 c-Nm.d9 q)))
def a2M (L:List Lk) (c q:List Nm.Rt):List Nm.Rt:=(L.zip (c.zip q)).map fun z=>a4o z.1 z.2.1 z.2.2
def a3a (z:List (Am × Ast)) (to:List Int) (i:Nat):List Nm.Rt:=match z[i]? with
 | some (a,x)=>a2M a.links (O4 a.links (to.drop (3*i))) x.q
 | none=>[]
def a1O (z:List (Am × Ast)) (to:List Int) (n:Nat):List (List Nm.Rt):=(List.range n).map (a3a z to)
theorem b8B (z:List (Am × Ast)) (to:List Int) (n:Nat):a1O z to (n+1)=a1O z to n++[a3a z to n]:=by
 unfold a1O
 rw [List.range_succ,c7X]
 rfl
theorem b2Q (z:List (Am × Ast)) (to:List Int) (n:Nat):(a1O z to n).length=n:=by unfold a1O;simp
theorem c0O {L:List Lk} {c q:List Nm.Rt} {i:Nat} {l:Lk} {x y:Nm.Rt} (h1:L[i]?=some l) (h2:c[i]?=some x) (h3:q[i]?=some y):(a2M L c q)[i]?=some (a4o l x y):=by
 unfold a2M
 rw [c7r,O1 h1 (O1 h2 h3)]
 rfl
theorem b2Y {L:List Lk} {c q:List Nm.Rt} (h1:c.length=L.length) (h2:q.length=L.length):(a2M L c q).length=L.length:=by
 unfold a2M;simp only [c7i,List.length_zip];omega
theorem b5j {α:Type} (l:List α) (n:Nat):l.drop (min l.length n)=l.drop n:=by
 rcases Nat.le_total l.length n with h|h
 ·rw [Nat.min_eq_left h,List.drop_eq_nil_of_le h,List.drop_eq_nil_of_le (c7p _)]
 ·rw [Nat.min_eq_right h]
theorem c2B {x:Lk} {c q:Nm.Rt} {k:Nat} (hs:Rb 3 x.speed) (hc:Rb 8 c) (hq:Rb k q) (hk:8<=k):Rb (k+9) (a4o x c q):=by
 have h1:Rb (k+9) (Nm.ofQ (Nm.d9 c-Nm.d9 q)):=(U5 (hc.fit (by decide)) (hq.fit (by omega))).mono (by omega)
 have h2:Rb (k+9) (Nm.ofQ (Nm.d9 x.speed)):=(hs.fit (by decide)).mono (by omega)
 have h3:Rb (k+9) (Nm.ofQ (-(Nm.d9 x.speed))):=(b4F hs (by decide)).mono (by omega)
 unfold a4o K6 G9
 repeat' split
 all_goals assumption
structure b7O (w:Wk) (s:Stt) (k:Nat):Prop where
 st:U1 w s=0
 q:∀ x ∈ s.arms,∀ r ∈ x.q,Rb (100+1000*k) r
theorem Calm.c5t {w:Wk} {s:Stt} {k:Nat} (h:Calm w s k):b7O w s k:=⟨h.st,h.q⟩
theorem c2y {w:Wk} {s:Stt} {to:List Int} {k i:Nat} (h:b7O w s k) {r:Nm.Rt} (hr:r ∈ a3a (w.arms.zip s.arms) to i):Rb (109+1000*k) r:=by
 unfold a3a at hr
 split at hr
 ·rename_i a x hz
  have hm:=c7k hz
  have ho:=b0k ((a2v h.st).one _ hm)
  simp only at ho
  have hl:=(O7 ho.arm).2
  obtain ⟨z,hz2,rfl⟩:=List.mem_map.1 hr
  obtain ⟨z1,z2,z3⟩:=z
  have m1:=(List.of_mem_zip hz2).1
  have m2:=(List.of_mem_zip (List.of_mem_zip hz2).2).1
  have m3:=(List.of_mem_zip (List.of_mem_zip hz2).2).2
  exact (c2B (a7j (hl z1 m1)).2.2.1 (a5k _ _ hl z2 m2) (h.q x (List.of_mem_zip hm).2 z3 m3) (by omega)).mono (by omega)
 ·cases hr
theorem b9z {w:Wk} {s:Stt} {to:List Int} {k i:Nat} (h:b7O w s k) {a:Am} (ha:w.arms[i]?=some a):(a3a (w.arms.zip s.arms) to i).length=a.links.length:=by
 have hok:=a2v h.st
 have hil:=(c7m.1 ha).1
 have hx:=c7h (show i < s.arms.length by have:=hok.arms;omega)
 have hz:=O1 ha hx
 have ho:=b0k (hok.one _ (c7k hz))
 simp only at ho
 unfold a3a
 rw [hz]
 exact b2Y (a1D _ _) ho.q
structure c4M (y b:Ast) (j:Nat) (v:Nm.Rt):Prop where
 ex:∃ bv q bq,b.v[j]?=some bv/\y.q[j]?=some q/\b.q[j]?=some bq/\¬ 0 < Nm.q9 (E8 (Nm.d9 v)) (E8 (Nm.d9 bv))/\(E9 (Nm.d9 bv)=0->q=bq)/\Rb 1048576 bv/\Rb 1048576 v
structure c7g (y b:Ast):Prop where
 power:y.power=false
 vlen:y.v.length=b.v.length
 qlen:y.q.length=y.v.length
 small:y.v.length<=3
 joint:∀ j v,y.v[j]?=some v->c4M y b j v
theorem b6r {w:Wk} {s:Stt} (h:U1 w s=0):s.parts.all a1N=true:=by
 unfold U1 at h
 split at h
 ·rename_i h1;exact absurd h h1
 split at h
 ·cases h
 split at h
 ·cases h
 split at h
 ·rename_i h1;exact absurd h h1
 split at h
 ·rename_i h2
  simp only [c7q] at h2
  exact h2.1
 ·cases h
structure c7f (w:Wk) (s:Stt) (to:List Int):Prop where
 step:c6y w s (a1O (w.arms.zip s.arms) to w.arms.length) (List.replicate w.arms.length true) []=0
 next:Calm w (c6s w s (a1O (w.arms.zip s.arms) to w.arms.length) (List.replicate w.arms.length true) []) 1
set_option maxRecDepth 10000
set_option maxHeartbeats 8000000
instance :DecidableEq Nm.Rt:=fun ⟨a,b,c⟩ ⟨d,e,f⟩=>decidable_of_iff (a=d/\b=e/\c=f) ⟨fun ⟨h1,h2,h3⟩=>by rw [h1,h2,h3],fun h=>by injection h with h1 h2 h3;exact ⟨h1,h2,h3⟩⟩
instance :DecidableEq Vt:=fun ⟨a,b⟩ ⟨d,e⟩=>decidable_of_iff (a=d/\b=e) ⟨fun ⟨h1,h2⟩=>by rw [h1,h2],fun h=>by injection h with h1 h2;exact ⟨h1,h2⟩⟩
instance :DecidableEq Fr:=fun ⟨a,b,c,g⟩ ⟨d,e,f,h⟩=>decidable_of_iff (a=d/\b=e/\c=f/\g=h) ⟨fun ⟨h1,h2,h3,h4⟩=>by rw [h1,h2,h3,h4],fun h=>by injection h with h1 h2 h3 h4;exact ⟨h1,h2,h3,h4⟩⟩
instance :DecidableEq Ast:=fun ⟨a,b,c,g⟩ ⟨d,e,f,h⟩=>decidable_of_iff (a=d/\b=e/\c=f/\g=h) ⟨fun ⟨h1,h2,h3,h4⟩=>by rw [h1,h2,h3,h4],fun h=>by injection h with h1 h2 h3 h4;exact ⟨h1,h2,h3,h4⟩⟩
instance :DecidableEq Stt:=fun ⟨a,b,c,g,i⟩ ⟨d,e,f,h,j⟩=>decidable_of_iff (a=d/\b=e/\c=f/\g=h/\i=j) ⟨fun ⟨h1,h2,h3,h4,h5⟩=>by rw [h1,h2,h3,h4,h5],fun h=>by injection h with h1 h2 h3 h4 h5;exact ⟨h1,h2,h3,h4,h5⟩⟩
set_option maxHeartbeats 4000000
end Go.Proofs.YtgpegbfnlkidjaaGreatDoor
namespace Go.Proofs.YtgpegbfnlkidjaaGreatDoor.Eng
open Go Go.RowKit
theorem j6.quiet {P:Program} {f:Nat} {args:List C} {s s':C} {rs':List Res} (h:∀ E:Ctx,E.P=P->j6 E [] f args s rs' []) (hi:Imp rs' [] s s') (hc:s'.cl=true):A9 P f args s':=by
 intro O w vs hO hA
 have ho0:∀ b,¬ owned [] [] b:=fun b ⟨k,r,x,hk,_⟩=>by simp at hk
 have hRG:RG O (fun _=>False) w.heap.size [] [] w:=⟨rfl,fun k r hk=>by simp at hk,fun k l r r' x x' b _ hk=>by simp at hk,fun b hb=>(ho0 b hb).elim,hO,c7p _⟩
 have hsub:∀ b,OO O [] [] b->O b:=fun b hb=>hb.elim id fun h=>(ho0 b h).elim
 refine (h ⟨P,fun _=>false,0,w,fun _=>False,O,[],[]⟩ rfl O [] w vs hRG (fun b hb=>hb) ⟨rfl,rfl,rfl,c7p _,fun _ _ _=>rfl⟩ ((FzL.keep (Keeps.sub hsub) hA).den [])).mono ?_
 rintro e w' ⟨y,ν',rfl,h1,h2,h3⟩
 have hC:Cut O rs' [] ν':=Cut.of h1 (by simp [R9])
 have h4:=hi O (fun _=>False) w.heap.size ν' w' y h1 hC h3
 exact ⟨y,rfl,⟨h2.os,h2.tape,h2.output,h2.size,fun b hb=>h2.block b hb (ho0 b)⟩,Fz.keep (Keeps.sub fun b hb=>.inl hb) (Den.fz hc h4)⟩
end Go.Proofs.YtgpegbfnlkidjaaGreatDoor.Eng
namespace Go.Proofs.YtgpegbfnlkidjaaGreatDoor
open Go Go.RowKit Eng
set_option maxRecDepth 10000
set_option maxHeartbeats 16000000
open Go Eng
set_option maxRecDepth 100000
def dX (t f g:Fr):Rat:=Nm.d9 t.x-c5Q f ⟨g.x,g.y⟩
def dY (t f g:Fr):Rat:=Nm.d9 t.y-c4L f ⟨g.x,g.y⟩
def c4E (t f g:Fr):Prop:=0 < Nm.q9 (E8 (dX t f g)) (1 / 8) \/ 0 < Nm.q9 (E8 (dY t f g)) (1 / 8)
instance (t f g:Fr):Decidable (c4E t f g):=by unfold c4E;infer_instance
set_option maxHeartbeats 4000000
theorem b2E {a:Nm.Rt} (h:l6 a=true):Nm.d9 a=(nuI a:Rat) / (deI a:Rat)/\(0:Rat) < (deI a:Rat):=by
 unfold l6 at h
 simp only [c7q,c7v] at h
 obtain ⟨⟨⟨_,hg⟩,_⟩,_⟩:=h
 have hv:Nm.val a.den ≠ 0:=fun e=>hg.1 ((Nm.val_zero hg.2.1).1 e)
 have hd:deI a=(Nm.val a.den:Int):=by unfold deI;omega
 have hp:(0:Rat) < ((Nm.val a.den:Int):Rat):=by
  have:(0:Int) < (Nm.val a.den:Int):=by omega
  exact_mod_cast this
 rw [hd]
 refine ⟨?_,hp⟩
 unfold Nm.d9
 rw [if_pos hg]
 unfold Nm.toQ
 rw [Rat.mkRat_eq_div]
 rfl
theorem c3T {x:Lk} {k:Int} (h1:l6 x.low=true) (h2:l6 x.high=true) (hk:0<=k/\k<=8):Nm.d9 (a3M x k)=Nm.d9 x.low+(Nm.d9 x.high-Nm.d9 x.low)*(k:Rat) / 8:=by
 obtain ⟨e1,p1⟩:=b2E h1
 obtain ⟨e2,p2⟩:=b2E h2
 have hb:=b2f h1 h2 hk
 have b4:=hb.p4
 have b6:=hb.p6
 unfold a3M
 rw [a2L,Rat.mkRat_eq_div,e1,e2]
 have hD:(((8*deI x.low*deI x.high).toNat:Int):Rat)=8*(deI x.low:Rat)*(deI x.high:Rat):=by
  rw [show (((8*deI x.low*deI x.high).toNat:Nat):Int)=8*deI x.low*deI x.high by omega]
  simp only [Rat.intCast_mul]
  rfl
 rw [show (((8*deI x.low*deI x.high).toNat:Nat):Rat)=(((8*deI x.low*deI x.high).toNat:Int):Rat) from rfl,hD]
 simp only [Rat.intCast_add,Rat.intCast_mul,Rat.intCast_sub]
 generalize (nuI x.low:Rat)=n at *
 generalize (nuI x.high:Rat)=m at *
 generalize (deI x.low:Rat)=d at *
 generalize (deI x.high:Rat)=e at *
 generalize (k:Rat)=K at *
 have d0:d ≠ 0:=by grind
 have e0:e ≠ 0:=by grind
 have hn:n / d*d=n:=Rat.div_mul_cancel d0
 have hm:m / e*e=m:=Rat.div_mul_cancel e0
 generalize n / d=L at *
 generalize m / e=H at *
 have hde:(8*d*e) ≠ 0:=by
  have:=Rat.mul_pos p1 p2
  grind
 have key:(8:Int)*n*e+(m*d-n*e)*K=(L+(H-L)*K / 8)*(8*d*e):=by
  rw [<- hn,<- hm]
  grind
 rw [key]
 exact Rat.mul_div_cancel hde
theorem c1Y {x:Lk} (hl:O6 x=0) {k:Int} (hk:0<=k/\k<=8):c2E (x,a3M x k)=0:=by
 obtain ⟨h1,h2⟩:=b1y hl
 have h3:=(a4w hl).2.1
 rw [a3t] at h3
 unfold c2E
 rw [if_neg]
 rw [a3t,a3u]
 simp only
 rw [c3T h1 h2 hk]
 have k0:(0:Rat)<=(k:Rat):=by exact_mod_cast hk.1
 have k8:(k:Rat)<=8:=by exact_mod_cast hk.2
 generalize Nm.d9 x.low=L at *
 generalize Nm.d9 x.high=H at *
 generalize (k:Rat)=K at *
 have m1:0<=(H-L)*K:=Rat.mul_nonneg (by grind) k0
 have m2:0<=(H-L)*(8-K):=Rat.mul_nonneg (by grind) (by grind)
 grind
theorem b2G:∀ (L:List Lk) (l:List Int) (z:Lk × Nm.Rt),z ∈ L.zip (O4 L l)->∃ l',z.1 ∈ L/\z.2=a3M z.1 (nx l' 9)
 | [],_,z,h=>by simp at h
 | x::r,l,z,h=>by
  rw [O4,List.zip_cons_cons] at h
  rcases List.mem_cons.1 h with rfl|h
  ·exact ⟨l,by simp,rfl⟩
  ·obtain ⟨l',h1,h2⟩:=b2G r _ z h
   exact ⟨l',by simp [h1],h2⟩
theorem b0F:∀ (L:List Lk) (l:List Int),(O4 L l).all M8=true
 | [],_=>rfl
 | x::r,l=>by
  rw [O4,List.all_cons,b0F r]
  have:M8 (a3M x (nx l 9))=true:=decide_eq_true (Nm.a1H _)
  rw [this];rfl
def a6M (a:Am) (l:List Int) (h:Int):Ast:=⟨O4 a.links l,a.links.map fun _=>Nm.ofQ 0,false,h⟩
theorem c2d {a:Am} {l:List Int} {h:Int} {n:Nat} (ha:J3 a=0) (hh:-1<=h/\h < n):a1j a (a6M a l h) n=0:=by
 have hl:=(O7 ha).2
 refine c1F ha (b0F _ _) ?_ (a1D _ _) (by simp [a6M]) hh (fun z hz=>?_) fun z hz=>?_
 ·rw [List.all_eq_true]
  intro r hr
  obtain ⟨_,_,rfl⟩:=List.mem_map.1 (show r ∈ a.links.map (fun _=>Nm.ofQ 0) from hr)
  exact decide_eq_true (Nm.a1H _)
 ·obtain ⟨l',h1,h2⟩:=b2G _ _ z hz
  obtain ⟨z1,z2⟩:=z
  simp only at h1 h2
  rw [h2]
  exact c1Y (hl z1 h1) (nx9 l')
 ·obtain ⟨h1,h2⟩:=a6h (show z ∈ a.links.zip (a.links.map fun _=>Nm.ofQ 0) from hz)
  obtain ⟨z1,z2⟩:=z
  simp only at h1 h2
  rw [h2]
  exact a9t (hl z1 h1)
def c3l (w:Wk) (to:List Int) (i:Nat):Ast:=match w.arms[i]? with
 | some a=>a6M a (to.drop (3*i)) (-1)
 | none=>⟨[],[],false,-1⟩
set_option maxHeartbeats 16000000
theorem c4z {E:Ctx} (hP:E.P=Tryz.prog) (ht0:Tz E) (w:Wk) (hwb:Wb 1073741824 w) (h:a0b w=0) :
  j6 E [] 35 [w.c] (.tup [.agg [ints 0,.rv 3,.rv 4,.v (.slice none 0 0),.rv 5],ints 0]) [.gone,.gone,.gone,.row 49 4 ((E5 w).arms.map Ast.enc),.row 66 10 ((E5 w).parts.map Fr.enc),.row 4 1 ((E5 w).gates.map fun b=>[.v (.bool b)])] []:=by
 obtain ⟨P,eff',N,w0,own0,av0,nu0,pk0⟩:=E
 simp only at hP
 subst hP
 refine j6.ofT (eff:=eff) ht0 b1B b1D (by exact c7z rfl) fun w' own av ν hν ht=>?_
 have hν0:ν.length<=0:=by rw [hν];exact c7p _
 have hck:=a9P w hwb
 rw [h] at hck
 obtain ⟨n1,b1⟩:=hwb.arms
 have n3:=hwb.parts.1
 have n4:=hwb.slots.1
 have n5:=hwb.gates.1
 have hz:=a8w
 have hfz:=c4t
 have hpe:∀ i,a7B w i=if h:i < w.slots.length then (w.slots[i]).frame else a4x:=fun _=>rfl
 unfold E5
 generalize hfp:a7B w=fP at *
 obtain ⟨arms,walls,parts,slots,gates,walk⟩:=w
 simp only at n1 b1 n3 n4 n5 hpe ⊢
 simp only [a6x,j5,TT,II,OA,OB,MM,LL,VV,FF]
 simp only [Wk.c,Wk.enc,ams,wls,pts,sls,gts,vts,sb,ints] at hck ⊢
 (repeat first|refine uA ?_|(refine uK ?_ ?_;focus first|omega|(intros;simp_all<;>omega))|simp (disch:=omega) only [go_sem,Nat.reduceBEq,Nat.reduceAdd]|(refine uD hck ?_ ?_ ?_;exact ht;exact rfl))
 refine S.cond rfl (fun hc=>by simp at hc) (fun hc=>?_)
 (repeat first|refine uA ?_|(refine uK ?_ ?_;focus first|omega|(intros;simp_all<;>omega))|simp (disch:=omega) only [go_sem,Nat.reduceBEq,Nat.reduceAdd,c7i])
 refine S.loop (X:=Nat) (fun i=>⟨[(1,.bp 0 0),(2,.bp 1 0),(5,.bp 2 0),(20,ams arms),(21,ints arms.length),(22,ints i)],[.box 31 [ams arms,wls walls,pts parts,sls slots,gts gates,.v (.bool walk.neg),sb walk.num,sb walk.den],.box 37 [.v (.int .i64 0),.v (.slice none 0 0),.v (.slice none 0 0),.v (.slice none 0 0),.v (.slice none 0 0)],.box 37 [.v (.int .i64 0),.rv 3,.rv 4,.v (.slice none 0 0),.v (.slice none 0 0)],.row 49 4 (((arms.take i).map Q7).map Ast.enc),.row 66 10 []]⟩) (fun i=>i<=arms.length) (fun i=>arms.length-i) 0 (c7n _)
  (Ent.trans (Ent.a3K 2 1 49 4 rfl rfl rfl) (Ent.trans (Ent.a3K 2 2 66 10 rfl rfl rfl) (by (repeat first|refine uA ?_|(refine ⟨?_,?_⟩;focus first|rfl|simp [slot])|rfl|simp|exact c7l hν0 (by simp))))) ?_
 intro i hi
 simp only [ams,wls,pts,sls,gts,vts,sb,ints]
 (repeat first|refine uA ?_|(refine uK ?_ ?_;focus first|omega|(intros;simp_all<;>omega))|simp (disch:=omega) only [go_sem,Nat.reduceBEq])
 (refine uJ rfl (fun hc=>?_) fun hc=>?_)
 ·have hi':i < arms.length:=by omega
  have hgi:=c7h hi'
  have hap:arms.take (i+1)=arms.take i++[arms[i]]:=c7Z hi'
  have htl:(arms.take i).length=i:=by rw [c7s];omega
  generalize arms[i]=a at hgi hap
  obtain ⟨b0,_,nl,bl⟩:=b1 a (c7k hgi)
  (repeat first|refine uA ?_|(refine uK ?_ ?_;focus first|omega|(intros;simp_all<;>omega))|simp (disch:=omega) only [go_sem,Nat.reduceBEq,Nat.reduceAdd,hgi,c7j,c7i,Am.enc,lks,sb])
  refine S.loop (X:=Nat) (fun k=>⟨[(1,.bp 0 0),(2,.bp 1 0),(5,.bp 2 0),(8,.bp 6 0),(20,ams arms),(21,ints arms.length),(22,ints i),(28,lks a.links),(29,ints a.links.length),(30,ints k)],[.box 31 [ams arms,wls walls,pts parts,sls slots,gts gates,.v (.bool walk.neg),sb walk.num,sb walk.den],.box 37 [.v (.int .i64 0),.v (.slice none 0 0),.v (.slice none 0 0),.v (.slice none 0 0),.v (.slice none 0 0)],.box 37 [.v (.int .i64 0),.rv 3,.rv 4,.v (.slice none 0 0),.v (.slice none 0 0)],.row 49 4 (((arms.take i).map Q7).map Ast.enc),.row 66 10 [],.gone,.box 49 [.rv 7,.rv 8,.v (.bool false),.v (.int .i64 (-1))],.row 29 3 (((a.links.take k).map a0N).map rcs),.row 29 3 (((a.links.take k).map fun _=>Nm.ofQ 0).map rcs)]⟩) (fun k=>k<=a.links.length) (fun k=>a.links.length-k) 0 (c7n _)
   (Ent.trans (Ent.a3K 6 0 29 3 rfl rfl rfl) (Ent.trans (Ent.a3K 6 1 29 3 rfl rfl rfl) (by (repeat first|refine uA ?_|(refine ⟨?_,?_⟩;focus first|rfl|simp [slot])|rfl|simp|exact c7l hν0 (by simp))))) ?_
  intro k hk
  simp only [ams,wls,pts,sls,gts,lks,vts,sb,ints]
  (repeat first|refine uA ?_|(refine uK ?_ ?_;focus first|omega|(intros;simp_all<;>omega))|simp (disch:=omega) only [go_sem,Nat.reduceBEq])
  (refine uJ rfl (fun hc=>?_) fun hc=>?_)
  ·have hk':k < a.links.length:=by omega
   have hgk:=c7h hk'
   have hak:a.links.take (k+1)=a.links.take k++[a.links[k]]:=c7Z hk'
   have htk:(a.links.take k).length=k:=by rw [c7s];omega
   generalize a.links[k]=l at hgk hak
   obtain ⟨_,l2,l3,_⟩:=bl l (c7k hgk)
   have z1:=a1b
   have z2:=l3.fit (by decide)
   have o1:=a3W l.high (Nm.ofQ 0) (l3.mono (by decide)) (a1b.mono (by decide))
   rw [Nm.q8] at o1
   have z3:Rb 1073741824 (Nm.ofQ (G9 (Nm.d9 l.high) 0)):=by unfold G9;split;exact z2;exact z1.mono (by decide)
   have o2:=a6b l.low (Nm.ofQ (G9 (Nm.d9 l.high) 0)) (l2.mono (by decide)) (z3.mono (by decide))
   rw [Nm.q8] at o2
   have hq:a0N l=Nm.ofQ (K6 (Nm.d9 l.low) (G9 (Nm.d9 l.high) 0)):=rfl
   unfold rq at o1 o2 hz
   generalize Nm.ofQ (K6 (Nm.d9 l.low) (G9 (Nm.d9 l.high) 0))=r2 at *
   generalize Nm.ofQ (G9 (Nm.d9 l.high) 0)=r1 at *
   generalize Nm.ofQ 0=r0 at *
   simp only [rc,sb] at o1 o2 hz
   (repeat first|refine uA ?_|(refine uK ?_ ?_;focus first|omega|(intros;simp_all<;>omega))|simp (disch:=omega) only [go_sem,Nat.reduceBEq,Nat.reduceAdd,ww,hgk,c7j,c7i,htk,Lk.enc,vts,sb]|(refine uD hz ?_ ?_ ?_;exact ht;exact rfl)|(refine uD o1 ?_ ?_ ?_;exact ht;exact rfl)|(refine uD o2 ?_ ?_ ?_;exact ht;exact rfl))
   refine S.next (k+1) (by omega) (by omega) (by simp only [hak,hq,c7X,c7w,c7I,rcs,sb];exact (by (repeat first|refine uA ?_|(refine ⟨?_,?_⟩;focus first|rfl|simp [slot])|rfl|simp|exact c7l hν0 (by simp))))
  ·have hk':k=a.links.length:=by omega
   subst hk'
   rw [c7y]
   refine S.exit rfl ?_
   refine S.weaken (st':=⟨[(1,.bp 0 0),(2,.bp 1 0),(5,.bp 2 0),(8,.bp 6 0),(20,ams arms),(21,ints arms.length),(22,ints i)],[.box 31 [ams arms,wls walls,pts parts,sls slots,gts gates,.v (.bool walk.neg),sb walk.num,sb walk.den],.box 37 [.v (.int .i64 0),.v (.slice none 0 0),.v (.slice none 0 0),.v (.slice none 0 0),.v (.slice none 0 0)],.box 37 [.v (.int .i64 0),.rv 3,.rv 4,.v (.slice none 0 0),.v (.slice none 0 0)],.row 49 4 (((arms.take i).map Q7).map Ast.enc),.row 66 10 [],.gone,.box 49 (Q7 a).enc]⟩) (Ent.mk _ _ (by (repeat' (first|exact O0.nil|exact Imp.junk|exact Imp.refl rfl|exact Imp.eq (by simp [slot];done) rfl|refine O0.cons ?_ ?_))) (by (repeat' (first|exact D8.nil|exact RI.gone _|exact RI.row _ _ _ _ rfl|exact RI.map _ _ _ rfl|exact RI.box _ _ _ (j4.refl rfl)|(refine RI.box _ _ _ ?_;(repeat' (first|exact j4.nil|exact Imp.refl rfl|exact Imp.frz rfl rfl rfl|exact Imp.F8|refine j4.cons ?_ ?_)))|refine D8.cons ?_ ?_))) (c7l hν0 (by simp))) ?_
   simp only [ams,wls,pts,sls,gts,vts,sb,ints,Ast.enc,rts]
   (repeat first|refine uA ?_|(refine uK ?_ ?_;focus first|omega|(intros;simp_all<;>omega))|simp (disch:=omega) only [go_sem,Nat.reduceBEq,Nat.reduceAdd,ww,c7i,htl])
   refine S.next (i+1) (by omega) (by omega) (by simp only [hap,c7X,c7w,c7I,Ast.enc,rts,ints];exact (by (repeat first|refine uA ?_|(refine ⟨?_,?_⟩;focus first|rfl|simp [slot])|rfl|simp|exact c7l hν0 (by simp))))
 ·have hi':i=arms.length:=by omega
  subst hi'
  rw [c7y]
  (repeat first|refine uA ?_|(refine uK ?_ ?_;focus first|omega|(intros;simp_all<;>omega))|simp (disch:=omega) only [go_sem,Nat.reduceBEq,Nat.reduceAdd,c7i])
  refine S.loop (X:=Nat) (fun i=>⟨[(1,.bp 0 0),(2,.bp 1 0),(5,.bp 2 0),(62,ints parts.length),(63,ints i)],[.box 31 [ams arms,wls walls,pts parts,sls slots,gts gates,.v (.bool walk.neg),sb walk.num,sb walk.den],.box 37 [.v (.int .i64 0),.v (.slice none 0 0),.v (.slice none 0 0),.v (.slice none 0 0),.v (.slice none 0 0)],.box 37 [.v (.int .i64 0),.rv 3,.rv 4,.v (.slice none 0 0),.v (.slice none 0 0)],.row 49 4 ((arms.map Q7).map Ast.enc),.row 66 10 (((List.range i).map fP).map Fr.enc)]⟩) (fun i=>i<=parts.length) (fun i=>parts.length-i) 0 (c7n _) (by (repeat first|refine uA ?_|(refine ⟨?_,?_⟩;focus first|rfl|simp [slot])|rfl|simp|exact c7l hν0 (by simp))) ?_
  intro i hi
  simp only [ams,wls,pts,sls,gts,vts,sb,ints]
  (repeat first|refine uA ?_|(refine uK ?_ ?_;focus first|omega|(intros;simp_all<;>omega))|simp (disch:=omega) only [go_sem,Nat.reduceBEq])
  (refine uJ rfl (fun hc=>?_) fun hc=>?_)
  ·have hrl:((List.range i).map fP).length=i:=by simp
   simp only [a4x,Fr.c,Fr.enc,sb] at hfz
   (repeat first|refine uA ?_|(refine uK ?_ ?_;focus first|omega|(intros;simp_all<;>omega))|simp (disch:=omega) only [go_sem,Nat.reduceBEq,Nat.reduceAdd]|(refine uD hfz ?_ ?_ ?_;exact ht;exact rfl))
   refine S.join (Y:=Fr) (fun f=>⟨[(1,.bp 0 0),(2,.bp 1 0),(5,.bp 2 0),(12,.bp 5 0),(62,ints parts.length),(63,ints i)],[.box 31 [ams arms,wls walls,pts parts,sls slots,gts gates,.v (.bool walk.neg),sb walk.num,sb walk.den],.box 37 [.v (.int .i64 0),.v (.slice none 0 0),.v (.slice none 0 0),.v (.slice none 0 0),.v (.slice none 0 0)],.box 37 [.v (.int .i64 0),.rv 3,.rv 4,.v (.slice none 0 0),.v (.slice none 0 0)],.row 49 4 ((arms.map Q7).map Ast.enc),.row 66 10 (((List.range i).map fP).map Fr.enc),.box 66 f.enc]⟩) (fun f=>f=fP i) ?_ ?_
   ·refine S.cond rfl (fun hc=>?_) (fun hc=>?_)
    ·have hsi:i < slots.length:=by simp at hc;omega
     have hgs:=c7h hsi
     have hf:fP i=(slots[i]).frame:=by rw [hpe i,dif_pos hsi]
     generalize slots[i]=s at hgs hf
     (repeat first|refine uA ?_|(refine uK ?_ ?_;focus first|omega|(intros;simp_all<;>omega))|simp (disch:=omega) only [go_sem,Nat.reduceBEq,Nat.reduceAdd,hgs,c7j,c7i,Sl.enc,sb,c7o])
     exact S.met s.frame hf.symm (by simp only [ams,wls,pts,sls,gts,vts,sb,Fr.enc];exact (by (repeat first|refine uA ?_|(refine ⟨?_,?_⟩;focus first|rfl|simp [slot])|rfl|simp|exact c7l hν0 (by simp))))
    ·have hf:fP i=a4x:=by rw [hpe i,dif_neg (by simp at hc;omega)]
     (repeat first|refine uA ?_|(refine uK ?_ ?_;focus first|omega|(intros;simp_all<;>omega))|simp (disch:=omega) only [go_sem])
     exact S.met a4x hf.symm (by simp only [ams,wls,pts,sls,gts,vts,sb,Fr.enc,a4x];exact (by (repeat first|refine uA ?_|(refine ⟨?_,?_⟩;focus first|rfl|simp [slot])|rfl|simp|exact c7l hν0 (by simp))))
   rintro f hf
   simp only [ams,wls,pts,sls,gts,vts,sb,ints,Fr.enc]
   (repeat first|refine uA ?_|(refine uK ?_ ?_;focus first|omega|(intros;simp_all<;>omega))|simp (disch:=omega) only [go_sem,Nat.reduceBEq,Nat.reduceAdd,ww,c7i,hrl])
   refine S.next (i+1) (by omega) (by omega) (by simp only [List.range_succ,c7X,c7w,c7I,<- hf,Fr.enc,sb];exact (by (repeat first|refine uA ?_|(refine ⟨?_,?_⟩;focus first|rfl|simp [slot])|rfl|simp|exact c7l hν0 (by simp))))
  ·have hi':i=parts.length:=by omega
   subst hi'
   simp only [List.map_replicate]
   (repeat first|refine uA ?_|(refine uK ?_ ?_;focus first|omega|(intros;simp_all<;>omega))|simp (disch:=omega) only [go_sem,Nat.reduceBEq,Nat.reduceAdd,c7i,c7o])
   (refine S.done ?_;simp only [p9,r9,go_sem,Nat.reduceBEq,Nat.reduceAdd,Nat.reduceLeDiff];(repeat (refine ⟨?_,?_⟩;focus first|trivial|omega|simp));exact j3.K9 (Imp.tup (by (repeat' (first|exact j4.nil|exact Imp.refl rfl|exact Imp.frz rfl rfl rfl|exact Imp.F8|refine Imp.agg ?_|refine j4.cons ?_ ?_)))) (by (repeat first|refine uA ?_|(refine ⟨?_,?_⟩;focus first|rfl|simp [slot])|rfl|simp)) (c7l hν0 (by simp)))
set_option maxRecDepth 10000
set_option maxHeartbeats 8000000
def a8q (l:List UInt8) (i:Nat) (out:List UInt8):Prop:=
 out.length=l.length/\∀ k,k < l.length->out[k]?=if k < i \/ l.length-i<=k then l[l.length-1-k]? else l[k]?
theorem b6x (l:List UInt8):a8q l 0 l:=⟨rfl,fun k hk=>by rw [if_neg (by omega)]⟩
theorem b6C {l out:List UInt8} {i:Nat} {x y:UInt8} (h:a8q l i out) (hi:i+1 < l.length-i) (hx:out[i]?=some x) (hy:out[l.length-1-i]?=some y):a8q l (i+1) ((out.set i y).set (l.length-1-i) x):=by
 obtain ⟨h1,h2⟩:=h
 have e1:=h2 i (by omega)
 have e2:=h2 (l.length-1-i) (by omega)
 rw [if_neg (by omega),hx] at e1
 rw [if_neg (by omega),hy] at e2
 refine ⟨by simp [h1],fun k hk=>?_⟩
 by_cases k1:k=l.length-1-i
 ·subst k1
  rw [List.getElem?_set_self (by simp;omega),if_pos (by omega),e1]
  congr 1
  omega
 ·rw [List.getElem?_set_ne (fun e=>k1 e.symm)]
  by_cases k2:k=i
  ·subst k2
   rw [List.getElem?_set_self (by omega),if_pos (by omega),e2]
  ·rw [List.getElem?_set_ne (fun e=>k2 e.symm),h2 k hk]
   by_cases k3:k < i \/ l.length-i<=k
   ·rw [if_pos k3,if_pos (by omega)]
   ·rw [if_neg k3,if_neg (by omega)]
theorem b8X {l out:List UInt8} {i:Nat} (h:a8q l i out) (hi:l.length-i<=i+1):out=l.reverse:=by
 obtain ⟨h1,h2⟩:=h
 apply List.ext_getElem?
 intro k
 rcases c7D k l.length with hk|hk
 ·rw [h2 k hk,List.getElem?_reverse hk]
  by_cases k3:k < i \/ l.length-i<=k
  ·rw [if_pos k3]
  ·rw [if_neg k3,show l.length-1-k=k by omega]
 ·rw [c7J (by omega),c7J (by simp;omega)]
theorem c6u {E:Ctx} (hP:E.P=Tryz.prog) (l:List UInt8) (hl:l.length<=1099511627776):j6 E [.row 5 1 (l.map G6)] 170 [.rv 0] (.tup []) [.row 5 1 (l.reverse.map G6)] []:=by
 obtain ⟨P,eff',N,w0,own0,av0,nu0,pk0⟩:=E
 simp only at hP
 subst hP
 refine j6.of (eff:=eff) Tryz.func170 (by cbv) (by exact c7z rfl) fun w own av ν hν=>?_
 have hν0:ν.length<=1:=by rw [hν];exact c7p _
 simp only [j5,TT,II,OA,OB,MM,VV]
 (repeat first|refine uA ?_|(apply uK;focus omega)|simp (disch:=omega) only [go_sem,Nat.reduceBEq,ww,c7i])
 refine S.loop (X:=Nat × List UInt8) (fun x=>⟨[(0,.rv 0),(2,ints x.1),(3,ints ((l.length:Int)-1-(x.1:Int)))],[.row 5 1 (x.2.map G6)]⟩) (fun x=>x.1<=l.length/\a8q l x.1 x.2) (fun x=>l.length-x.1) (0,l) ⟨c7n _,b6x l⟩ (by simp only [Int.natCast_zero,Int.sub_zero];exact (by (repeat first|refine uA ?_|(refine ⟨?_,?_⟩;focus first|rfl|simp [slot])|rfl|simp|exact c7l hν0 (by simp)))) ?_
 rintro ⟨i,out⟩ ⟨hi,hinv⟩
 simp only [ints] at hi hinv ⊢
 have hol:=hinv.1
 (repeat first|refine uA ?_|(apply uK;focus omega)|simp (disch:=omega) only [go_sem,Nat.reduceBEq])
 (refine uJ rfl (fun hc=>?_) fun hc=>?_)
 ·have gi:out[i]?=some (out[i]'(by omega)):=c7h (by omega)
  have gj:out[l.length-1-i]?=some (out[l.length-1-i]'(by omega)):=c7h (by omega)
  have hst:=b6C hinv (by omega) gi gj
  have hsk:l.length-1-i ≠ i:=by omega
  generalize out[i]'_=xi at *
  generalize out[l.length-1-i]'_=xj at *
  have gj2:(out.set i xj)[l.length-1-i]?=some xj:=by rw [List.getElem?_set_ne (Ne.symm hsk)];exact gj
  have n0:((l.length:Int)-1-(i:Int)).toNat=l.length-1-i:=by omega
  have e1:(out.map G6).set i [.v (.int .u8 ((xj.toNat:Nat):Int))]=(out.set i xj).map G6:=a7M out i xj
  have e2:((out.set i xj).map G6).set (l.length-1-i) [.v (.int .u8 ((xi.toNat:Nat):Int))]=((out.set i xj).set (l.length-1-i) xi).map G6:=a7M _ _ _
  have hr:(l.length:Int)-1-((i+1:Nat):Int)=(l.length:Int)-1-(i:Int)-1:=by omega
  (repeat first|refine uA ?_|(apply uK;focus omega)|simp (disch:=omega) only [go_sem,Nat.reduceBEq,ww,c7i,gi,gj,gj2,n0,e1,e2,G6,c7j,c7o,c7W])
  refine S.next (x:=(i,out)) (i+1,_) ⟨by simp only;omega,hst⟩ (by simp only;omega) (by simp only [hr];exact (by (repeat first|refine uA ?_|(refine ⟨?_,?_⟩;focus first|rfl|simp [slot])|rfl|simp|exact c7l hν0 (by simp))))
 ·have:=b8X hinv (by omega)
  subst this
  (repeat first|refine uA ?_|(apply uK;focus omega)|simp (disch:=omega) only [go_sem,Nat.reduceBEq,ww])
  exact S.end_ (j3.own rfl)
theorem b4G (n:Nat) (hn:n < 4611686018427387904):A9 Tryz.prog 136 [.v (.int .i64 (n:Int))] (sb (Nm.enc n)):=by
  refine kS Tryz.func136 (by cbv) (by rfl) fun w O=>?_
  have h8:(Nm.enc n).length<=8:=Nm.G5 (by omega)
  simp only [j5,TT,II,OA,MM,sb]
  (repeat first|refine uA ?_|(apply uK;focus omega)|simp (disch:=omega) only [go_sem])
  refine S.loop (X:=Nat × List UInt8) (fun x=>⟨[(0,ints x.1),(3,.rv 0)],[.row 5 1 (x.2.map G6)]⟩) (fun x=>x.1<=n/\Nm.enc x.1++x.2.reverse=Nm.enc n) (fun x=>x.1) (n,[]) ⟨c7p _,by simp⟩ (Ent.trans (Ent.pack 3 5 1 rfl) (by (repeat first|refine uA ?_|(refine ⟨?_,?_⟩;focus first|rfl|simp [slot])|rfl|simp))) ?_
  rintro ⟨m,out⟩ ⟨hm,hinv⟩
  simp only [ints] at hm hinv ⊢
  have hol:out.length<=8:=by
    have:=congrArg List.length hinv
    simp only [c7t,List.length_reverse] at this
    omega
  (repeat first|refine uA ?_|(apply uK;focus omega)|simp (disch:=omega) only [go_sem,Nat.reduceBEq])
  (refine uJ rfl (fun hc=>?_) fun hc=>?_)
  · have he:Nm.enc m=Nm.enc (m / 256)++[UInt8.ofNat (m % 256)]:=by
      conv=>lhs;unfold Nm.enc
      rw [if_neg (by omega)]
    have hb:(UInt8.ofNat (m % 256)).toNat=m % 256:=by simp
    have h1:IntKind.u8.wrap (Int.tmod (m:Int) 256)=(((UInt8.ofNat (m % 256)).toNat:Nat):Int):=by
      rw [hb,show Int.tmod (m:Int) 256=((m % 256:Nat):Int) from rfl,a2a]
      omega
    have h2:Int.tdiv (m:Int) 256=((m / 256:Nat):Int):=rfl
    have hap:Nm.enc (m / 256)++(out++[UInt8.ofNat (m % 256)]).reverse=Nm.enc n:=by
      rw [List.reverse_append,<- hinv,he]
      simp
    generalize UInt8.ofNat (m % 256)=b at *
    (repeat first|refine uA ?_|(apply uK;focus first|omega|(intros;simp_all<;>omega))|simp (disch:=omega) only [go_sem,Nat.reduceBEq,Nat.reduceAdd,ww,c7i,h1,h2])
    refine S.next (x:=(m,out)) (m / 256,out++[b]) ⟨by simp only;omega,hap⟩ (by simp only;omega) (by simp only [c7X,c7w,c7I,G6];exact (by (repeat first|refine uA ?_|(refine ⟨?_,?_⟩;focus first|rfl|simp [slot])|rfl|simp)))
  · have h0:m=0:=by omega
    subst h0
    rw [Nm.a0S,List.nil_append] at hinv
    have hr:=fun (E:Ctx) (hP:E.P=Tryz.prog)=>c6u hP out (by omega)
    rw [hinv] at hr
    (repeat first|refine uA ?_|(apply uK;focus omega)|simp (disch:=omega) only [go_sem,Nat.reduceBEq,a0t,a6S]|refine l9.t (j6.lift (k:=0) rfl (hr _ rfl) rfl rfl rfl) ?_)
    exact S.done (j3.out rfl (Imp.refl rfl) rfl)
theorem c2J (a b:Nat) (h:0 < b):Nat.gcd b (a % b)=Nat.gcd a b:=by
 rw [Nat.gcd_comm b,<- Nat.gcd_rec,Nat.gcd_comm]
theorem a1S (n d:Int) (hn:-1099511627776<=n/\n<=1099511627776) (hd:1<=d/\d<=1099511627776):A9 Tryz.prog 78 [ints n,ints d] (rc (Q n d)):=by
 refine kS Tryz.func78 (by cbv) (by rfl) fun w O=>?_
 obtain ⟨m,rfl⟩:∃ m:Nat,d=m:=⟨d.toNat,by omega⟩
 have hq:Q n m=Nm.ofQ (mkRat (Nm.sgn (decide (n < 0)) n.natAbs) m):=by
  unfold Q
  have:Nm.sgn (decide (n < 0)) n.natAbs=n:=by unfold Nm.sgn;by_cases h:n < 0<;>simp [h]<;>omega
  rw [this,c7o]
 rw [hq,<- Nm.b2a _ (by omega)]
 have hmx:(if n < -n then -n else n)=((n.natAbs:Nat):Int):=by split<;>omega
 have hwn:IntKind.i64.wrap (0-n)=-n:=by rw [Eng.wrap_i64 (by omega)];omega
 have hgp:0 < Nat.gcd n.natAbs m:=Nat.gcd_pos_of_pos_right _ (by omega)
 simp only [j5,TT,II,OA,OB,MM,ints]
 (repeat first|refine uA ?_|(apply uK;focus first|omega|(intros;simp_all<;>omega))|simp (disch:=omega) only [go_sem,Nat.reduceBEq,Nat.reduceAdd,hwn,hmx])
 refine S.loop (X:=Nat × Nat) (fun x=>⟨[(0,ints n),(1,ints m),(4,.bp 0 0),(5,ints x.1),(6,ints x.2)],[.box 29 [.v (.bool false),.v (.string ⟨#[]⟩),.v (.string ⟨#[]⟩)]]⟩) (fun x=>Nat.gcd x.1 x.2=Nat.gcd n.natAbs m/\x.1<=1099511627776/\x.2<=1099511627776) (fun x=>x.2) (n.natAbs,m) ⟨rfl,by omega,by omega⟩ (by (repeat first|refine uA ?_|(refine ⟨?_,?_⟩;focus first|rfl|simp [slot])|rfl|simp)) ?_
 rintro ⟨a,b⟩ ⟨hg,ha,hb⟩
 simp only [ints] at hg ha hb ⊢
 (repeat first|refine uA ?_|(apply uK;focus omega)|simp (disch:=omega) only [go_sem,Nat.reduceBEq])
 (refine uJ rfl (fun hc=>?_) fun hc=>?_)
 ·have h1:Int.tmod (a:Int) (b:Int)=((a % b:Nat):Int):=rfl
  have hlt:a % b < b:=Nat.mod_lt _ (by omega)
  have hb0:¬ ((b:Int)=0):=by omega
  (repeat first|refine uA ?_|(apply uK;focus omega)|simp (disch:=omega) only [go_sem,Nat.reduceBEq,h1])
  refine S.next (x:=(a,b)) (b,a % b) ⟨by simp only;rw [c2J a b (by omega)];exact hg,by simp only;omega,by simp only;omega⟩ (by simp only;omega) (by (repeat first|refine uA ?_|(refine ⟨?_,?_⟩;focus first|rfl|simp [slot])|rfl|simp))
 ·have hb0:b=0:=by omega
  subst hb0
  rw [Nat.gcd_zero_right] at hg
  subst hg
  have ha0:¬ (((Nat.gcd n.natAbs m:Nat):Int)=0):=by omega
  generalize hgg:Nat.gcd n.natAbs m=g at *
  have hdvn:g ∣ n.natAbs:=by rw [<- hgg];exact Nat.gcd_dvd_left ..
  have e2:Int.tdiv (m:Int) (g:Int)=((m / g:Nat):Int):=rfl
  obtain ⟨k,hk⟩:=hdvn
  have hkq:n.natAbs / g=k:=by rw [hk];exact Nat.mul_div_cancel_left _ hgp
  have e1:Int.tdiv n (g:Int)=Nm.sgn (decide (n < 0)) k:=by
   have h3:(n:Int)=(g:Int)*Nm.sgn (decide (n < 0)) k:=by
    have h4:((n.natAbs:Nat):Int)=(g:Int)*(k:Int):=by rw [hk];simp
    unfold Nm.sgn
    by_cases h:n < 0
    ·simp only [h,decide_true,if_true,Int.mul_neg];omega
    ·simp only [h,decide_false,c7Q,if_false];omega
   rw [show Int.tdiv n (g:Int)=Int.tdiv ((g:Int)*Nm.sgn (decide (n < 0)) k) (g:Int) from congrArg (fun z=>Int.tdiv z (g:Int)) h3]
   exact Int.mul_tdiv_cancel_left _ (by omega)
  have hkb:k<=1099511627776:=by
   have:k<=g*k:=Nat.le_mul_of_pos_left k hgp
   omega
  have hmb:m / g<=m:=Nat.div_le_self _ _
  have hs:-1099511627776<=Nm.sgn (decide (n < 0)) k/\Nm.sgn (decide (n < 0)) k<=1099511627776:=by unfold Nm.sgn;split<;>omega
  have hneg:decide (Nm.sgn (decide (n < 0)) k < 0)=(decide (n < 0) && !decide (k=0)):=by
   unfold Nm.sgn
   by_cases h:n < 0
   ·by_cases h0:k=0
    ·subst h0;simp [h]
    ·simp [h,h0];try omega
   ·simp [h];try omega
  have hab:(if Nm.sgn (decide (n < 0)) k < -(Nm.sgn (decide (n < 0)) k) then -(Nm.sgn (decide (n < 0)) k) else Nm.sgn (decide (n < 0)) k)=((k:Nat):Int):=by unfold Nm.sgn;split<;>split<;>omega
  have hws:IntKind.i64.wrap (0-Nm.sgn (decide (n < 0)) k)=-(Nm.sgn (decide (n < 0)) k):=by rw [Eng.wrap_i64 (by omega)];omega
  have hwm:IntKind.i64.wrap ((m / g:Nat):Int)=((m / g:Nat):Int):=by
   generalize m / g=z at *
   exact Eng.wrap_i64 (by omega)
  have d1:=b4G k (by omega)
  have d2:=b4G (m / g) (by omega)
  have hres:(if n.natAbs=0 then Nm.a3H else ⟨decide (n < 0),Nm.enc (n.natAbs / g),Nm.enc (m / g)⟩:Nm.Rt)=⟨decide (n < 0) && !decide (k=0),Nm.enc k,Nm.enc (m / g)⟩:=by
   rw [hkq]
   by_cases h0:n.natAbs=0
   ·have hn0:n=0:=by omega
    subst hn0
    have hk0:k=0:=by
     rcases c7E k with h|h
     ·exact h
     ·have:=Nat.mul_pos hgp h;omega
    have hgm:g=m:=by rw [<- hgg];simp
    subst hk0
    have h1:m / g=1:=by rw [hgm];exact Nat.div_self (by omega)
    rw [h1,Nm.U6,Nm.a0S]
    rfl
   ·have hk0:k ≠ 0:=by intro h;subst h;omega
    rw [if_neg h0]
    simp [hk0]
  rw [hres]
  rw [<- hneg]
  simp only [rc,sb] at d1 d2 ⊢
  generalize Nm.sgn (decide (n < 0)) k=s at *
  (repeat first|refine uA ?_|(apply uK;focus omega)|simp (disch:=omega) only [go_sem,Nat.reduceBEq,ww,e1,e2,hws,hab,hwm]|(apply uB d1;exact rfl)|(apply uB d2;exact rfl))
  (refine S.done ?_;simp only [p9,r9,go_sem,Nat.reduceBEq,Nat.reduceAdd,Nat.reduceLeDiff];(repeat (refine ⟨?_,?_⟩;focus first|trivial|omega|simp));exact j3.out rfl (Imp.refl rfl) rfl)
theorem V6 (x y:Int) (hx:-1000000<=x/\x<=1000000) (hy:-1000000<=y/\y<=1000000):A9 Tryz.prog 82 [ints x,ints y] (atV x y).c:=by
 refine kS Tryz.func82 (by cbv) (by rfl) fun w O=>?_
 have h1:=a1S x 4 (by omega) (by omega)
 have h2:=a1S y 4 (by omega) (by omega)
 unfold atV
 generalize Q x 4=qx at *
 generalize Q y 4=qy at *
 simp only [j5,TT,II,OA,OB,MM]
 simp only [rc,sb,ints,Vt.c,Vt.enc] at *
 (repeat first|refine uA ?_|(apply uK;focus first|omega|(intros;simp_all<;>omega))|simp (disch:=omega) only [go_sem,Nat.reduceBEq,Nat.reduceAdd]|(apply uB h1;exact rfl)|(apply uB h2;exact rfl))
 (refine S.done ?_;simp only [p9,r9,go_sem,Nat.reduceBEq,Nat.reduceAdd,Nat.reduceLeDiff];(repeat (refine ⟨?_,?_⟩;focus first|trivial|omega|simp));exact j3.out rfl (Imp.refl rfl) rfl)
theorem b9F (x y u v:Int) (hx:-100000<=x/\x<=100000) (hy:-100000<=y/\y<=100000) (hu:-100000<=u/\u<=100000) (hv:-100000<=v/\v<=100000):A9 Tryz.prog 80 [ints x,ints y,ints u,ints v] (vts (a5I x y u v)):=by
 refine kS Tryz.func80 (by cbv) (by rfl) fun w O=>?_
 have h1:=V6 x y (by omega) (by omega)
 have h2:=V6 u y (by omega) (by omega)
 have h3:=V6 u v (by omega) (by omega)
 have h4:=V6 x v (by omega) (by omega)
 unfold a5I
 generalize atV x y=p1 at *
 generalize atV u y=p2 at *
 generalize atV u v=p3 at *
 generalize atV x v=p4 at *
 simp only [j5,TT,OA,MM]
 simp only [vts,Vt.c,Vt.enc,sb,ints] at *
 (repeat first|refine uA ?_|(apply uK;focus first|omega|(intros;simp_all<;>omega))|simp (disch:=omega) only [go_sem,Nat.reduceBEq,Nat.reduceAdd]|(apply uB h1;exact rfl)|(apply uB h2;exact rfl)|(apply uB h3;exact rfl)|(apply uB h4;exact rfl))
 exact S.done (j3.out rfl (Imp.frz rfl rfl rfl) rfl)
theorem c2x (l:List Int):a1M l=if nx (l.drop 2) 4=1 then (a1V (1+nx l 6) (1+nx (l.drop 1) 6) 1 (nx (l.drop 3) (2*(1+nx l 6)+1)),l.drop 4) else (a1V (1+nx l 6) (1+nx (l.drop 1) 6) (nx (l.drop 2) 4) 0,l.drop 3):=by
 unfold a1M
 by_cases h:nx (l.drop 2) 4=1
 ·simp only [h,if_true]
 ·simp only [if_neg h]
theorem c5b {E:Ctx} (hP:E.P=Tryz.prog) (l:List Int) :
  j6 E [.box 95 [x9 l]] 81 [.bp 0 0] (vts (a1M l).1) [.box 95 [x9 (a1M l).2]] []:=by
 obtain ⟨P,eff',N,w0,own0,av0,nu0,pk0⟩:=E
 simp only at hP
 subst hP
 refine j6.of (eff:=eff) a9E a9D (by exact c7z rfl) fun w own av ν hν=>?_
 have hν0:ν.length<=1:=by rw [hν];exact c7p _
 have n1:=fun (E:Ctx) (hP:E.P=Tryz.prog)=>I7 hP l 6 (by decide)
 have n2:=fun (E:Ctx) (hP:E.P=Tryz.prog)=>I7 hP (l.drop 1) 6 (by decide)
 have n3:=fun (E:Ctx) (hP:E.P=Tryz.prog)=>I7 hP (l.drop 2) 4 (by decide)
 have b1:=p8 l (n:=6) (by decide)
 have b2:=C9 l (n:=6) (by decide)
 have b3:=p8 (l.drop 1) (n:=6) (by decide)
 have b4:=C9 (l.drop 1) (n:=6) (by decide)
 have b5:=p8 (l.drop 2) (n:=4) (by decide)
 have b6:=C9 (l.drop 2) (n:=4) (by decide)
 rw [c2x]
 generalize hw:nx l 6=w' at *
 generalize hh:nx (l.drop 1) 6=h' at *
 have n4:=fun (E:Ctx) (hP:E.P=Tryz.prog)=>I7 hP (l.drop 3) (2*(1+w')+1) (by omega)
 have b7:=p8 (l.drop 3) (n:=2*(1+w')+1) (by omega)
 have b8:=C9 (l.drop 3) (n:=2*(1+w')+1) (by omega)
 generalize hk:nx (l.drop 2) 4=k at *
 generalize hs:nx (l.drop 3) (2*(1+w')+1)=s at *
 rw [List.drop_drop] at n2 n3 n4
 generalize hu1:1+w'=u at *
 generalize hv1:1+h'=v at *
 have ru:IntKind.i64.wrap (0-u)=-u:=by rw [Eng.wrap_i64 (by omega)];omega
 have rv:IntKind.i64.wrap (0-v)=-v:=by rw [Eng.wrap_i64 (by omega)];omega
 simp only [a4T,j5,TT,II,OA,MM]
 simp only [x9,ints] at n1 n2 n3 n4 ⊢
 (repeat first|refine uA ?_|(apply uK;focus omega)|simp (disch:=omega) only [go_sem,Nat.reduceBEq,ww,hu1,hv1]|refine l9.t (j6.lift (k:=0) rfl (n1 _ rfl) rfl rfl rfl) ?_|refine l9.t (j6.lift (k:=0) rfl (n2 _ rfl) rfl rfl rfl) ?_)
 (repeat first|refine uA ?_|(apply uK;focus omega)|simp (disch:=omega) only [go_sem,Nat.reduceBEq]|refine l9.t (j6.lift (k:=0) rfl (n3 _ rfl) rfl rfl rfl) ?_)
 by_cases k0:k=0
 ·subst k0
  rw [if_neg (by decide),show a1V u v 0 0=[atV (-u) (-v),atV u (-v),atV u v,atV (-u) v] from rfl]
  have h1:=V6 (-u) (-v) (by omega) (by omega)
  have h2:=V6 (u) (-v) (by omega) (by omega)
  have h3:=V6 (u) (v) (by omega) (by omega)
  have h4:=V6 (-u) (v) (by omega) (by omega)
  generalize hq1:atV (-u) (-v)=p1 at *
  generalize hq2:atV (u) (-v)=p2 at *
  generalize hq3:atV (u) (v)=p3 at *
  generalize hq4:atV (-u) (v)=p4 at *
  simp only [vts,Vt.c,Vt.enc,sb,ints] at h1 h2 h3 h4 ⊢
  refine S.cond rfl (fun hc=>?_) (fun hc=>by simp at hc)
  (repeat first|refine uA ?_|(apply uK;focus omega)|simp (disch:=omega) only [go_sem,Nat.reduceBEq,ru,rv]|(apply uB h1;exact rfl)|(apply uB h2;exact rfl)|(apply uB h3;exact rfl)|(apply uB h4;exact rfl))
  (refine S.done ?_;simp only [p9,go_sem,Nat.reduceBEq,Nat.reduceAdd];(repeat (refine ⟨?_,?_⟩;focus first|trivial|omega|simp));exact j3.K9 (Imp.frz rfl rfl rfl) (by (repeat first|refine uA ?_|(refine ⟨?_,?_⟩;focus first|rfl|simp [slot])|rfl|simp)) (c7l hν0 (by simp)))
 refine S.cond rfl (fun hc=>by simp at hc;exact absurd hc k0) (fun hc=>?_)
 (repeat first|refine uA ?_|(apply uK;focus omega)|simp (disch:=omega) only [go_sem,Nat.reduceBEq])
 by_cases k1:k=1
 ·subst k1
  rw [if_pos rfl,show a1V u v 1 s=[atV (-u) (-v),atV u (-v),atV (s-u) v] from rfl]
  have h1:=V6 (-u) (-v) (by omega) (by omega)
  have h2:=V6 (u) (-v) (by omega) (by omega)
  have h3:=V6 (s-u) (v) (by omega) (by omega)
  generalize hq1:atV (-u) (-v)=p1 at *
  generalize hq2:atV (u) (-v)=p2 at *
  generalize hq3:atV (s-u) (v)=p3 at *
  simp only [vts,Vt.c,Vt.enc,sb,ints] at h1 h2 h3 ⊢
  refine S.cond rfl (fun hc=>?_) (fun hc=>by simp at hc)
  (repeat first|refine uA ?_|(apply uK;focus omega)|simp (disch:=omega) only [go_sem,Nat.reduceBEq,ww,ru,rv]|refine l9.t (j6.lift (k:=0) rfl (n4 _ rfl) rfl rfl rfl) ?_|(apply uB h1;exact rfl)|(apply uB h2;exact rfl)|(apply uB h3;exact rfl))
  (refine S.done ?_;simp only [p9,go_sem,Nat.reduceBEq,Nat.reduceAdd];(repeat (refine ⟨?_,?_⟩;focus first|trivial|omega|simp));exact j3.K9 (Imp.frz rfl rfl rfl) (by (repeat first|refine uA ?_|(refine ⟨?_,?_⟩;focus first|rfl|simp [slot])|rfl|simp)) (c7l hν0 (by simp)))
 rw [if_neg k1]
 refine S.cond rfl (fun hc=>by simp at hc;exact absurd hc k1) (fun hc=>?_)
 (repeat first|refine uA ?_|(apply uK;focus omega)|simp (disch:=omega) only [go_sem,Nat.reduceBEq])
 by_cases k2:k=2
 ·subst k2
  rw [show a1V u v 2 0=[atV (-u-1) (-v-1),atV u (-v-1),atV (u+1) (-v),atV (u+1) v,atV (-u-1) v] from rfl]
  have h1:=V6 (-u-1) (-v-1) (by omega) (by omega)
  have h2:=V6 (u) (-v-1) (by omega) (by omega)
  have h3:=V6 (u+1) (-v) (by omega) (by omega)
  have h4:=V6 (u+1) (v) (by omega) (by omega)
  have h5:=V6 (-u-1) (v) (by omega) (by omega)
  generalize hq1:atV (-u-1) (-v-1)=p1 at *
  generalize hq2:atV (u) (-v-1)=p2 at *
  generalize hq3:atV (u+1) (-v)=p3 at *
  generalize hq4:atV (u+1) (v)=p4 at *
  generalize hq5:atV (-u-1) (v)=p5 at *
  simp only [vts,Vt.c,Vt.enc,sb,ints] at h1 h2 h3 h4 h5 ⊢
  refine S.cond rfl (fun hc=>?_) (fun hc=>by simp at hc)
  (repeat first|refine uA ?_|(apply uK;focus omega)|simp (disch:=omega) only [go_sem,Nat.reduceBEq,ww,ru,rv]|(apply uB h1;exact rfl)|(apply uB h2;exact rfl)|(apply uB h3;exact rfl)|(apply uB h4;exact rfl)|(apply uB h5;exact rfl))
  (refine S.done ?_;simp only [p9,go_sem,Nat.reduceBEq,Nat.reduceAdd];(repeat (refine ⟨?_,?_⟩;focus first|trivial|omega|simp));exact j3.K9 (Imp.frz rfl rfl rfl) (by (repeat first|refine uA ?_|(refine ⟨?_,?_⟩;focus first|rfl|simp [slot])|rfl|simp)) (c7l hν0 (by simp)))
 ·rw [show a1V u v k 0=[atV (-u) 0,atV 0 (-v),atV u 0,atV 0 v] by unfold a1V;rw [if_neg k0,if_neg k1,if_neg k2]]
  have h1:=V6 (-u) (0) (by omega) (by omega)
  have h2:=V6 (0) (-v) (by omega) (by omega)
  have h3:=V6 (u) (0) (by omega) (by omega)
  have h4:=V6 (0) (v) (by omega) (by omega)
  generalize hq1:atV (-u) (0)=p1 at *
  generalize hq2:atV (0) (-v)=p2 at *
  generalize hq3:atV (u) (0)=p3 at *
  generalize hq4:atV (0) (v)=p4 at *
  simp only [vts,Vt.c,Vt.enc,sb,ints] at h1 h2 h3 h4 ⊢
  refine S.cond rfl (fun hc=>by simp at hc;exact absurd hc k2) (fun hc=>?_)
  (repeat first|refine uA ?_|(apply uK;focus omega)|simp (disch:=omega) only [go_sem,Nat.reduceBEq,ru,rv]|(apply uB h1;exact rfl)|(apply uB h2;exact rfl)|(apply uB h3;exact rfl)|(apply uB h4;exact rfl))
  (refine S.done ?_;simp only [p9,go_sem,Nat.reduceBEq,Nat.reduceAdd];(repeat (refine ⟨?_,?_⟩;focus first|trivial|omega|simp));exact j3.K9 (Imp.frz rfl rfl rfl) (by (repeat first|refine uA ?_|(refine ⟨?_,?_⟩;focus first|rfl|simp [slot])|rfl|simp)) (c7l hν0 (by simp)))
set_option maxRecDepth 100000
set_option maxHeartbeats 16000000
theorem c1v (n:Nat) (h:n<=3):([[C.v (.string ⟨#[111,110,101]⟩)],[C.v (.string ⟨#[116,119,111]⟩)],[C.v (.string ⟨#[116,104,114,101,101]⟩)],[C.v (.string ⟨#[102,111,117,114]⟩)]]:List (List C))[n]?=some [C.v (.string (bs (a4Y n)))]:=by
 match n,h with
 | 0,_=>rfl
 | 1,_=>rfl
 | 2,_=>rfl
 | 3,_=>rfl
theorem c3r (k:Int) (h0:0<=k) (h1:k < 4):([[C.v (.int .i64 0)],[C.v (.int .i64 1)],[C.v (.int .i64 (-1))],[C.v (.int .i64 1)]]:List (List C))[k.toNat]?=some [C.v (.int .i64 (a3B k))]:=by
 have:k=0 \/ k=1 \/ k=2 \/ k=3:=by omega
 rcases this with rfl|rfl|rfl|rfl<;>rfl
theorem b9p (k:Int):-1<=a3B k/\a3B k<=1:=by unfold a3B;split;omega;split<;>omega
theorem c6g {E:Ctx} (hP:E.P=Tryz.prog) (l:List Int) (n:Nat) (hn:n<=3) :
  j6 E [.box 95 [x9 l]] 79 [.bp 0 0,.v (.int .i64 (n:Int))] (b1R l n).c [.box 95 [x9 (b2h l)]] []:=by
 obtain ⟨P,eff',N,w0,own0,av0,nu0,pk0⟩:=E
 simp only at hP
 subst hP
 refine j6.of (eff:=eff) b0J b0B (by exact c7z rfl) fun w own av ν hν=>?_
 have hν0:ν.length<=1:=by rw [hν];exact c7p _
 have hnm:=c1v n hn
 have h1:=V6 (40*(n:Int)) 0 (by omega) (by omega)
 have k1:=fun (E:Ctx) (hP:E.P=Tryz.prog)=>I7 hP l 4 (by decide)
 have k2:=fun (E:Ctx) (hP:E.P=Tryz.prog)=>I7 hP (l.drop 1) 3 (by decide)
 have k3:=fun (E:Ctx) (hP:E.P=Tryz.prog)=>I7 hP (l.drop 2) 3 (by decide)
 have a1:=p8 l (n:=4) (by decide)
 have a2:=C9 l (n:=4) (by decide)
 have a3:=p8 (l.drop 1) (n:=3) (by decide)
 have a4:=C9 (l.drop 1) (n:=3) (by decide)
 have a5:=p8 (l.drop 2) (n:=3) (by decide)
 have a6:=C9 (l.drop 2) (n:=3) (by decide)
 have htn:=c3r (nx l 4) a1 a2
 have htr:=b9p (nx l 4)
 have h2:=a1S (a3B (nx l 4)) (1+nx (l.drop 1) 3) (by omega) (by omega)
 rw [List.drop_drop] at k2 k3
 have hc:((a4s l:Nat):Int)=1+nx (l.drop 2) 3:=by unfold a4s;omega
 have hc3:a4s l<=3:=by omega
 have hR:b2h l=(l.drop 3).drop (6*a4s l):=by unfold b2h;rw [List.drop_drop]
 unfold b1R
 rw [hR]
 generalize a4s l=c at *
 generalize l.drop 3=l0 at *
 unfold atV at h1
 generalize Q (40*(n:Int)) 4=q1 at *
 generalize Q 0 4=q2 at *
 generalize a3B (nx l 4)=tn at *
 generalize Q tn (1+nx (l.drop 1) 3)=q3 at *
 generalize nx l 4=x1 at *
 generalize nx (l.drop 1) 3=x2 at *
 generalize nx (l.drop 2) 3=x3 at *
 generalize a4Y n=nm at *
 simp only [a5v,j5,TT,II,OA,OB,MM,LL,VV,FF]
 simp only [Am.c,Am.enc,Vt.c,Vt.enc,rc,x9,sb,ints,lks] at h1 h2 k1 k2 k3 ⊢
 (repeat first|refine uA ?_|(refine uK ?_ ?_;focus first|omega|trivial|(intros;simp_all<;>omega))|simp (disch:=omega) only [go_sem,Nat.reduceBEq,Nat.reduceAdd,Nat.reduceLeDiff,ww,hnm,htn,c7o]|refine l9.t (j6.lift (k:=0) rfl (k1 _ rfl) rfl rfl rfl) ?_|refine l9.t (j6.lift (k:=0) rfl (k2 _ rfl) rfl rfl rfl) ?_|(refine uB h1 ?_ ?_;exact rfl)|(refine uB h2 ?_ ?_;exact rfl))
 (repeat first|refine uA ?_|(refine uK ?_ ?_;focus first|omega|trivial|(intros;simp_all<;>omega))|simp (disch:=omega) only [go_sem,Nat.reduceBEq,ww]|refine l9.t (j6.lift (k:=0) rfl (k3 _ rfl) rfl rfl rfl) ?_)
 rw [<- hc]
 refine S.loop (X:=Nat × List Lk × List Int) (fun x=>⟨[(0,.bp 0 0),(4,.bp 1 0),(5,.bp 3 0),(30,ints c),(31,ints x.1)],[.box 95 [x9 x.2.2],.box 69 [.v (.string ⟨#[]⟩),.v (.bool false),.v (.string ⟨#[]⟩),.v (.string ⟨#[]⟩),.v (.bool false),.v (.string ⟨#[]⟩),.v (.string ⟨#[]⟩),.v (.bool false),.v (.bool false),.v (.string ⟨#[]⟩),.v (.string ⟨#[]⟩),.v (.slice none 0 0)],.gone,.box 69 [.v (.string (bs nm)),.v (.bool q1.neg),.v (.string (bs q1.num)),.v (.string (bs q1.den)),.v (.bool q2.neg),.v (.string (bs q2.num)),.v (.string (bs q2.den)),.v (.bool false),.v (.bool q3.neg),.v (.string (bs q3.num)),.v (.string (bs q3.den)),.rv 4],.row 74 16 (x.2.1.map Lk.enc)]⟩)
  (fun x=>x.1<=c/\x.2.1.length=x.1/\x.2.1++a1u (c-x.1) x.2.2=a1u c l0/\x.2.2.drop (6*(c-x.1))=l0.drop (6*c)) (fun x=>c-x.1) (0,[],l0) ⟨c7n _,rfl,rfl,rfl⟩ (Ent.trans (Ent.a3K 3 11 74 16 rfl rfl rfl) (by (repeat first|refine uA ?_|(refine ⟨?_,?_⟩;focus first|rfl|trivial|(simp [slot];done))|rfl|trivial|simp|exact c7l hν0 (by simp)))) ?_
 rintro ⟨i,ls,m⟩ ⟨hi,hls,hL,hM⟩
 simp only [ints,x9] at hi hls hL hM ⊢
 (repeat first|refine uA ?_|(refine uK ?_ ?_;focus first|omega|trivial|(intros;simp_all<;>omega))|simp (disch:=omega) only [go_sem,Nat.reduceBEq])
 (refine uJ rfl (fun hc=>?_) fun hc=>?_)
 ·have hi':c-i=(c-i-1)+1:=by omega
  have n0:=fun (E:Ctx) (hP:E.P=Tryz.prog)=>I7 hP (m.drop 0) 4 (by decide)
  have a0:=p8 (m.drop 0) (n:=4) (by decide)
  have b0:=C9 (m.drop 0) (n:=4) (by decide)
  have n1:=fun (E:Ctx) (hP:E.P=Tryz.prog)=>I7 hP (m.drop 1) 6 (by decide)
  have a1:=p8 (m.drop 1) (n:=6) (by decide)
  have b1:=C9 (m.drop 1) (n:=6) (by decide)
  have n2:=fun (E:Ctx) (hP:E.P=Tryz.prog)=>I7 hP (m.drop 2) 6 (by decide)
  have a2:=p8 (m.drop 2) (n:=6) (by decide)
  have b2:=C9 (m.drop 2) (n:=6) (by decide)
  have n3:=fun (E:Ctx) (hP:E.P=Tryz.prog)=>I7 hP (m.drop 3) 8 (by decide)
  have a3:=p8 (m.drop 3) (n:=8) (by decide)
  have b3:=C9 (m.drop 3) (n:=8) (by decide)
  have n4:=fun (E:Ctx) (hP:E.P=Tryz.prog)=>I7 hP (m.drop 4) 20 (by decide)
  have a4:=p8 (m.drop 4) (n:=20) (by decide)
  have b4:=C9 (m.drop 4) (n:=20) (by decide)
  have n5:=fun (E:Ctx) (hP:E.P=Tryz.prog)=>I7 hP (m.drop 5) 3 (by decide)
  have a5:=p8 (m.drop 5) (n:=3) (by decide)
  have b5:=C9 (m.drop 5) (n:=3) (by decide)
  rw [hi',a1u] at hL
  have hM2:(m.drop 6).drop (6*(c-(i+1)))=l0.drop (6*c):=by rw [List.drop_drop,<- hM];congr 1;omega
  rw [show c-i-1=c-(i+1) by omega] at hL
  simp only [List.drop_drop,List.drop_zero] at n0 n1 n2 n3 n4 n5 a0 b0
  unfold b3P a5F at hL
  have o1:=a1S (4+2*nx m 4) 4 (by omega) (by omega)
  have o2:=a1S (-1-nx (m.drop 1) 6) 3 (by omega) (by omega)
  have o3:=a1S (1+nx (m.drop 2) 6) 3 (by omega) (by omega)
  have o4:=a1S 1 (4+nx (m.drop 3) 8) (by omega) (by omega)
  have o5:=a1S 1 (10+nx (m.drop 4) 20) (by omega) (by omega)
  have o6:=b9F (-1) (-1) (4+2*nx m 4+1) 1 (by omega) (by omega) (by omega) (by omega)
  have o7:=V6 (-1) (-1) (by omega) (by omega)
  have o8:=V6 (4+2*nx m 4+1) 0 (by omega) (by omega)
  have o9:=V6 (-1) 1 (by omega) (by omega)
  generalize Q (4+2*nx m 4) 4=p1 at *
  generalize Q (-1-nx (m.drop 1) 6) 3=p2 at *
  generalize Q (1+nx (m.drop 2) 6) 3=p3 at *
  generalize Q 1 (4+nx (m.drop 3) 8)=p4 at *
  generalize Q 1 (10+nx (m.drop 4) 20)=p5 at *
  generalize a5I (-1) (-1) (4+2*nx m 4+1) 1=r6 at *
  generalize atV (-1) (-1)=v7 at *
  generalize atV (4+2*nx m 4+1) 0=v8 at *
  generalize atV (-1) 1=v9 at *
  generalize nx m 4=y0 at *
  generalize nx (m.drop 1) 6=y1 at *
  generalize nx (m.drop 2) 6=y2 at *
  generalize nx (m.drop 3) 8=y3 at *
  generalize nx (m.drop 4) 20=y4 at *
  generalize nx (m.drop 5) 3=y5 at *
  simp only [x9,ints,rc,sb,vts,Vt.c,Vt.enc] at n0 n1 n2 n3 n4 n5 o1 o2 o3 o4 o5 o6 o7 o8 o9
  (repeat first|refine uA ?_|(refine uK ?_ ?_;focus first|omega|trivial|(intros;simp_all<;>omega))|simp (disch:=omega) only [go_sem,Nat.reduceBEq,Nat.reduceAdd,Nat.reduceLeDiff,ww]|refine l9.t (j6.lift (k:=0) rfl (n0 _ rfl) rfl rfl rfl) ?_|refine l9.t (j6.lift (k:=0) rfl (n1 _ rfl) rfl rfl rfl) ?_|refine l9.t (j6.lift (k:=0) rfl (n2 _ rfl) rfl rfl rfl) ?_|refine l9.t (j6.lift (k:=0) rfl (n3 _ rfl) rfl rfl rfl) ?_|refine l9.t (j6.lift (k:=0) rfl (n4 _ rfl) rfl rfl rfl) ?_|refine l9.t (j6.lift (k:=0) rfl (n5 _ rfl) rfl rfl rfl) ?_|(refine uB o1 ?_ ?_;exact rfl)|(refine uB o2 ?_ ?_;exact rfl)|(refine uB o3 ?_ ?_;exact rfl)|(refine uB o4 ?_ ?_;exact rfl)|(refine uB o5 ?_ ?_;exact rfl)|(refine uB o6 ?_ ?_;exact rfl))
  refine S.join (Y:=List Vt) (fun sh=>⟨[(0,.bp 0 0),(4,.bp 1 0),(5,.bp 3 0),(7,.bp 5 0),(30,ints c),(31,ints i)],[.box 95 [x9 (m.drop 6)],.box 69 [.v (.string ⟨#[]⟩),.v (.bool false),.v (.string ⟨#[]⟩),.v (.string ⟨#[]⟩),.v (.bool false),.v (.string ⟨#[]⟩),.v (.string ⟨#[]⟩),.v (.bool false),.v (.bool false),.v (.string ⟨#[]⟩),.v (.string ⟨#[]⟩),.v (.slice none 0 0)],.gone,.box 69 [.v (.string (bs nm)),.v (.bool q1.neg),.v (.string (bs q1.num)),.v (.string (bs q1.den)),.v (.bool q2.neg),.v (.string (bs q2.num)),.v (.string (bs q2.den)),.v (.bool false),.v (.bool q3.neg),.v (.string (bs q3.num)),.v (.string (bs q3.den)),.rv 4],.row 74 16 (ls.map Lk.enc),.box 74 (Lk.enc ⟨p1,p2,p3,p4,p5,sh⟩)]⟩) (fun sh=>sh=if y5=2 then [v7,v8,v9] else r6) ?_ ?_
  ·refine S.cond rfl (fun hc=>?_) (fun hc=>?_)
   ·(repeat first|refine uA ?_|(refine uK ?_ ?_;focus first|omega|trivial|(intros;simp_all<;>omega))|simp (disch:=omega) only [go_sem,Nat.reduceBEq,Nat.reduceAdd,Nat.reduceLeDiff,ww]|(refine uB o7 ?_ ?_;exact rfl)|(refine uB o8 ?_ ?_;exact rfl)|(refine uB o9 ?_ ?_;exact rfl))
    exact S.met [v7,v8,v9] (by simp at hc;rw [if_pos hc]) (Ent.mk _ _ (by (repeat' (first|exact O0.nil|exact Imp.junk|exact Imp.refl rfl|exact Imp.eq (by simp [slot];done) rfl|refine O0.cons ?_ ?_))) (by (repeat' (first|exact D8.nil|exact RI.gone _|exact RI.row _ _ _ _ rfl|exact RI.map _ _ _ rfl|exact RI.box _ _ _ (j4.refl rfl)|(refine RI.box _ _ _ ?_;(repeat' (first|exact j4.nil|exact Imp.refl rfl|exact Imp.frz rfl rfl rfl|exact Imp.F8|refine j4.cons ?_ ?_)))|refine D8.cons ?_ ?_))) (c7l hν0 (by simp)))
   ·(repeat first|refine uA ?_|(refine uK ?_ ?_;focus first|omega|trivial|(intros;simp_all<;>omega))|simp (disch:=omega) only [go_sem])
    exact S.met r6 (by simp at hc;rw [if_neg hc]) (by (repeat first|refine uA ?_|(refine ⟨?_,?_⟩;focus first|rfl|trivial|(simp [slot];done))|rfl|trivial|simp|exact c7l hν0 (by simp)))
  rintro sh hsh
  rw [<- hsh] at hL
  simp only [x9,ints,Lk.enc,vts]
  (repeat first|refine uA ?_|(refine uK ?_ ?_;focus first|omega|trivial|(intros;simp_all<;>omega))|simp (disch:=omega) only [go_sem,Nat.reduceBEq,Nat.reduceAdd,Nat.reduceLeDiff,ww,c7i,hls])
  refine S.next (x:=(i,ls,m)) (i+1,ls++[⟨p1,p2,p3,p4,p5,sh⟩],m.drop 6) ⟨by simp only;omega,by simp [hls],by simp only;rw [c7P];exact hL,by simp only;exact hM2⟩ (by simp only;omega) (by simp only [c7X,c7w,c7I];exact (by (repeat first|refine uA ?_|(refine ⟨?_,?_⟩;focus first|rfl|trivial|(simp [slot];done))|rfl|trivial|simp|exact c7l hν0 (by simp))))
 ·have hi':i=c:=by omega
  subst hi'
  rw [Nat.sub_self,a1u,List.append_nil] at hL
  rw [Nat.sub_self,Nat.mul_zero,List.drop_zero] at hM
  subst hL
  subst hM
  (repeat first|refine uA ?_|(refine uK ?_ ?_;focus first|omega|trivial|(intros;simp_all<;>omega))|simp (disch:=omega) only [go_sem,Nat.reduceBEq,Nat.reduceAdd,Nat.reduceLeDiff])
  (refine S.done ?_;simp only [p9,r9,go_sem,Nat.reduceBEq,Nat.reduceAdd,Nat.reduceLeDiff];(repeat (refine ⟨?_,?_⟩;focus first|trivial|omega|simp));exact j3.K9 (Imp.agg (by (repeat' (first|exact j4.nil|exact Imp.refl rfl|exact Imp.frz rfl rfl rfl|exact Imp.F8|refine j4.cons ?_ ?_)))) (by (repeat first|refine uA ?_|(refine ⟨?_,?_⟩;focus first|rfl|trivial|(simp [slot];done))|rfl|trivial|simp)) (c7l hν0 (by simp)))
set_option maxHeartbeats 32000000
def a1l:List C:=[.v (.slice none 0 0),.v (.slice none 0 0),.v (.slice none 0 0),.v (.slice none 0 0),.v (.slice none 0 0),.v (.bool false),.v (.string ⟨#[]⟩),.v (.string ⟨#[]⟩)]
def rsM (m:List Int) (a:List Am) (w:List (List Vt)) (p:List Pt) (s:List Sl) (g:List Gt):List Res:=
 [.box 31 a1l,.box 95 [x9 m],.box 31 [.rv 3,.rv 4,.rv 5,.rv 6,.rv 7,.v (.bool false),.v (.string ⟨#[]⟩),.v (.string ⟨#[]⟩)],.row 69 12 (a.map Am.enc),.row 34 1 (w.map fun s=>[vts s]),.row 115 12 (p.map Pt.enc),.row 151 14 (s.map Sl.enc),.row 143 13 (g.map Gt.enc)]
theorem b9x (n:Nat) (h:n < 2):([[C.v (.string ⟨#[98,111,108,116]⟩)],[C.v (.string ⟨#[110,117,116]⟩)]]:List (List C))[n]?=some [C.v (.string (bs (a4t n)))]:=by
 match n,h with
 | 0,_=>rfl
 | 1,_=>rfl
theorem c0S (n:Nat) (h:n < 3):([[C.v (.string ⟨#[104,101,114,101]⟩)],[C.v (.string ⟨#[116,104,101,114,101]⟩)],[C.v (.string ⟨#[98,101,121,111,110,100]⟩)]]:List (List C))[n]?=some [C.v (.string (bs (a5N n)))]:=by
 match n,h with
 | 0,_=>rfl
 | 1,_=>rfl
 | 2,_=>rfl
theorem c4r (l:List Int):A9 Tryz.prog 34 [x9 l] (u6 l).c:=by
 refine kS a8T a8R (by rfl) fun w O=>?_
 have k0:=fun (E:Ctx) (hP:E.P=Tryz.prog)=>I7 hP l 2 (by decide)
 have c0:=p8 l (n:=2) (by decide)
 have d0:=C9 l (n:=2) (by decide)
 have hc1:((nA l:Nat):Int)=1+nx l 2:=by unfold nA;omega
 have z2:=p8 (l1 l) (n:=3) (by decide)
 have z3:=p8 (l2 l) (n:=3) (by decide)
 have z4:=p8 (l3 l) (n:=2) (by decide)
 have z5:=p8 (l4 l) (n:=2) (by decide)
 have z6:=p8 (l5 l) (n:=4) (by decide)
 have y6:=C9 (l5 l) (n:=4) (by decide)
 have hc2:((nW l:Nat):Int)=nx (l1 l) 3:=by unfold nW;omega
 have hc3:((nP l:Nat):Int)=nx (l2 l) 3:=by unfold nP;omega
 have hc4:((nS l:Nat):Int)=(nP l:Int)+nx (l3 l) 2:=by unfold nS;omega
 have hc5:((nG l:Nat):Int)=nx (l4 l) 2:=by unfold nG;omega
 obtain ⟨cc1,cc2,cc3,cc4,cc5⟩:=counts l
 have q1:l1 l=a6T (nA l) (l.drop 1):=rfl
 have q2:l2 l=(l1 l).drop (1+5*nW l):=rfl
 have q3:l3 l=a4M (nP l) ((l2 l).drop 1):=rfl
 have q4:l4 l=(l3 l).drop (1+4*nS l):=rfl
 have q5:l5 l=(l4 l).drop (1+4*nG l):=rfl
 unfold u6
 generalize nA l=cA at *
 generalize nW l=cW at *
 generalize nP l=cP at *
 generalize nS l=cS at *
 generalize nG l=cG at *
 generalize l5 l=L5 at *
 generalize l4 l=L4 at *
 generalize l3 l=L3 at *
 generalize l2 l=L2 at *
 generalize l1 l=L1 at *
 generalize l.drop 1=s0 at *
 generalize nx l 2=x0 at *
 have k1:=fun (E:Ctx) (hP:E.P=Tryz.prog)=>I7 hP L1 3 (by decide)
 have k2:=fun (E:Ctx) (hP:E.P=Tryz.prog)=>I7 hP L2 3 (by decide)
 have k3:=fun (E:Ctx) (hP:E.P=Tryz.prog)=>I7 hP L3 2 (by decide)
 have k4:=fun (E:Ctx) (hP:E.P=Tryz.prog)=>I7 hP L4 2 (by decide)
 have k5:=fun (E:Ctx) (hP:E.P=Tryz.prog)=>I7 hP L5 4 (by decide)
 simp only [x9,ints] at k1 k2 k3 k4 k5
 simp only [a4n,j5,TT,II,OA,OB,MM,LL,VV,FF]
 simp only [x9,ints] at k0 ⊢
 (repeat first|refine uA ?_|(apply uK;focus omega)|simp (disch:=omega) only [go_sem,Nat.reduceBEq,ww]|refine l9.t (j6.lift (k:=1) rfl (k0 _ rfl) rfl rfl rfl) ?_)
 rw [<- hc1]
 refine S.loop (X:=Nat × List Am × List Int) (fun x=>⟨[(2,.bp 0 0),(3,.bp 1 0),(4,.bp 2 0),(17,ints cA),(18,ints x.1)],rsM x.2.2 x.2.1 [] [] [] []⟩)
  (fun x=>x.1<=cA/\x.2.1.length=x.1/\x.2.1++a0C (cA-x.1) x.1 x.2.2=a0C cA 0 s0/\a6T (cA-x.1) x.2.2=a6T cA s0) (fun x=>cA-x.1) (0,[],s0) ⟨c7n _,rfl,rfl,rfl⟩
  (Ent.trans (Ent.a3K 2 0 69 12 rfl rfl rfl) (Ent.trans (Ent.a3K 2 1 34 1 rfl rfl rfl) (Ent.trans (Ent.a3K 2 2 115 12 rfl rfl rfl) (Ent.trans (Ent.a3K 2 3 151 14 rfl rfl rfl) (Ent.trans (Ent.a3K 2 4 143 13 rfl rfl rfl) (by simp only [rsM,x9,a1l];exact (by (repeat first|refine uA ?_|(refine ⟨?_,?_⟩;focus first|rfl|simp [slot])|rfl|simp)))))))) ?_
 rintro ⟨i,am,ma⟩ ⟨hi,hl,hL,hM⟩
 simp only [rsM,a1l,x9,ints] at hi hl hL hM ⊢
 (repeat first|refine uA ?_|(apply uK;focus omega)|simp (disch:=omega) only [go_sem,Nat.reduceBEq])
 (refine uJ rfl (fun hc=>?_) fun hc=>?_)
 ·have hi':i < cA:=by omega
  rw [show cA-i=(cA-(i+1))+1 by omega,a0C] at hL
  rw [show cA-i=(cA-(i+1))+1 by omega,a6T] at hM
  have ha:=fun (E:Ctx) (hP:E.P=Tryz.prog)=>c6g hP ma i (by omega)
  generalize b1R ma i=A at *
  generalize b2h ma=m' at *
  simp only [x9,Am.c,Am.enc,lks,sb] at ha
  (repeat first|refine uI ?_|(apply uK;focus omega)|simp (disch:=omega) only [go_sem,Nat.reduceBEq])
  refine S.y9 [.gone,.gone,.box 31 [.rv 3,.rv 4,.rv 5,.rv 6,.rv 7,.v (.bool false),.v (.string ⟨#[]⟩),.v (.string ⟨#[]⟩)]] (by simp [Eng.H8,Eng.X0]) ?_
  (repeat first|refine uA ?_|(apply uK;focus first|omega|(intros;simp_all<;>omega))|simp (disch:=omega) only [go_sem,Nat.reduceBEq,Nat.reduceAdd,ww,c7i,hl]|refine l9.t (j6.lift (k:=1) rfl (ha _ rfl) rfl rfl rfl) ?_)
  refine S.next (x:=(i,am,ma)) (i+1,am++[A],m') ⟨by simp only;omega,by simp [hl],by simp only;rw [c7P];exact hL,by simp only;exact hM⟩ (by simp only;omega) (by simp only [c7X,c7w,c7I];exact (by (repeat first|refine uA ?_|(refine ⟨?_,?_⟩;focus first|rfl|simp [slot])|rfl|simp)))
 have hi':i=cA:=by omega
 subst hi'
 rw [Nat.sub_self,a0C,List.append_nil] at hL
 rw [Nat.sub_self,a6T] at hM
 have hm:ma=L1:=by rw [q1];exact hM
 subst hm
 rw [<- hL]
 (repeat first|refine uA ?_|(apply uK;focus omega)|simp (disch:=omega) only [go_sem,Nat.reduceBEq]|refine l9.t (j6.lift (k:=1) rfl (k1 _ rfl) rfl rfl rfl) ?_)
 rw [<- hc2]
 refine S.loop (X:=Nat × List (List Vt) × List Int) (fun x=>⟨[(2,.bp 0 0),(3,.bp 1 0),(4,.bp 2 0),(31,ints cW),(32,ints x.1)],rsM x.2.2 am x.2.1 [] [] []⟩)
  (fun x=>x.1<=cW/\x.2.1.length=x.1/\x.2.1++a2g (cW-x.1) x.2.2=a2g cW (ma.drop 1)/\x.2.2.drop (5*(cW-x.1))=(ma.drop 1).drop (5*cW)) (fun x=>cW-x.1) (0,[],ma.drop 1) ⟨c7n _,rfl,rfl,rfl⟩ (by simp only [rsM,x9,a1l];exact (by (repeat first|refine uA ?_|(refine ⟨?_,?_⟩;focus first|rfl|simp [slot])|rfl|simp))) ?_
 rintro ⟨i,ws,mw⟩ ⟨hi,hl,hL,hM⟩
 simp only [rsM,a1l,x9,ints] at hi hl hL hM ⊢
 (repeat first|refine uA ?_|(apply uK;focus omega)|simp (disch:=omega) only [go_sem,Nat.reduceBEq])
 (refine uJ rfl (fun hc=>?_) fun hc=>?_)
 ·have hi':i < cW:=by omega
  rw [show cW-i=(cW-(i+1))+1 by omega,a2g] at hL
  have hM2:(mw.drop 5).drop (5*(cW-(i+1)))=(ma.drop 1).drop (5*cW):=by rw [<- hM,List.drop_drop];congr 1;omega
  have n0:=fun (E:Ctx) (hP:E.P=Tryz.prog)=>I7 hP mw 80 (by decide)
  have a0:=p8 mw (n:=80) (by decide)
  have b0:=C9 mw (n:=80) (by decide)
  have n1:=fun (E:Ctx) (hP:E.P=Tryz.prog)=>I7 hP (mw.drop 1) 30 (by decide)
  have a1:=p8 (mw.drop 1) (n:=30) (by decide)
  have b1:=C9 (mw.drop 1) (n:=30) (by decide)
  have n2:=fun (E:Ctx) (hP:E.P=Tryz.prog)=>I7 hP (mw.drop 2) 2 (by decide)
  have a2:=p8 (mw.drop 2) (n:=2) (by decide)
  have b2:=C9 (mw.drop 2) (n:=2) (by decide)
  have n3:=fun (E:Ctx) (hP:E.P=Tryz.prog)=>I7 hP (mw.drop 3) 20 (by decide)
  have a3:=p8 (mw.drop 3) (n:=20) (by decide)
  have b3:=C9 (mw.drop 3) (n:=20) (by decide)
  have n4:=fun (E:Ctx) (hP:E.P=Tryz.prog)=>I7 hP (mw.drop 4) 5 (by decide)
  have a4:=p8 (mw.drop 4) (n:=5) (by decide)
  have b4:=C9 (mw.drop 4) (n:=5) (by decide)
  simp only [List.drop_drop,x9,ints] at n0 n1 n2 n3 n4
  have hwy:-1000<=a1n mw/\a1n mw<=1000:=by unfold a1n;split<;>omega
  have o1:=b9F (nx mw 80-30) (a1n mw) (nx mw 80-30+1+nx (mw.drop 3) 20) (a1n mw+1+nx (mw.drop 4) 5) (by omega) (by omega) (by omega) (by omega)
  unfold b3K at hL
  generalize a5I (nx mw 80-30) (a1n mw) (nx mw 80-30+1+nx (mw.drop 3) 20) (a1n mw+1+nx (mw.drop 4) 5)=R at *
  have hwe:a1n mw=if nx (mw.drop 2) 2=1 then -(12+nx (mw.drop 1) 30)-6 else 12+nx (mw.drop 1) 30:=rfl
  generalize a1n mw=Y at *
  generalize nx mw 80=x1 at *
  generalize nx (mw.drop 1) 30=x2 at *
  generalize nx (mw.drop 2) 2=x3 at *
  generalize nx (mw.drop 3) 20=x4 at *
  generalize nx (mw.drop 4) 5=x5 at *
  simp only [ints,vts] at o1
  (repeat first|refine uA ?_|(apply uK;focus omega)|simp (disch:=omega) only [go_sem,Nat.reduceBEq,ww]|refine l9.t (j6.lift (k:=1) rfl (n0 _ rfl) rfl rfl rfl) ?_|refine l9.t (j6.lift (k:=1) rfl (n1 _ rfl) rfl rfl rfl) ?_|refine l9.t (j6.lift (k:=1) rfl (n2 _ rfl) rfl rfl rfl) ?_)
  refine S.join (Y:=Int) (fun y=>⟨[(2,.bp 0 0),(3,.bp 1 0),(4,.bp 2 0),(6,ints (x1-30)),(7,ints y),(31,ints cW),(32,ints i)],rsM (mw.drop 3) am ws [] [] []⟩) (fun y=>y=Y) ?_ ?_
  ·refine S.cond rfl (fun hc=>?_) (fun hc=>?_)
   ·have hn2:IntKind.i64.wrap (0-(12+x2))=-(12+x2):=by rw [Eng.wrap_i64 (by omega)];omega
    (repeat first|refine uA ?_|(apply uK;focus omega)|simp (disch:=omega) only [go_sem,Nat.reduceBEq,ww,hn2])
    exact S.met (-(12+x2)-6) (by simp at hc;rw [hwe,if_pos hc]) (by simp only [rsM,x9,a1l];exact (by (repeat first|refine uA ?_|(refine ⟨?_,?_⟩;focus first|rfl|simp [slot])|rfl|simp)))
   ·(repeat first|refine uA ?_|(apply uK;focus omega)|simp (disch:=omega) only [go_sem])
    exact S.met (12+x2) (by simp at hc;rw [hwe,if_neg hc]) (by simp only [rsM,x9,a1l];exact (by (repeat first|refine uA ?_|(refine ⟨?_,?_⟩;focus first|rfl|simp [slot])|rfl|simp)))
  rintro y rfl
  simp only [rsM,a1l,x9,ints]
  (repeat first|refine uI ?_|(apply uK;focus omega)|simp (disch:=omega) only [go_sem])
  refine S.y9 [.gone,.gone,.box 31 [.rv 3,.rv 4,.rv 5,.rv 6,.rv 7,.v (.bool false),.v (.string ⟨#[]⟩),.v (.string ⟨#[]⟩)]] (by simp [Eng.H8,Eng.X0]) ?_
  (repeat first|refine uA ?_|(apply uK;focus first|omega|(intros;simp_all<;>omega))|simp (disch:=omega) only [go_sem,Nat.reduceBEq,Nat.reduceAdd,ww,c7i,hl]|refine l9.t (j6.lift (k:=1) rfl (n3 _ rfl) rfl rfl rfl) ?_|refine l9.t (j6.lift (k:=1) rfl (n4 _ rfl) rfl rfl rfl) ?_|(apply uB o1;exact rfl))
  refine S.next (x:=(i,ws,mw)) (i+1,ws++[R],mw.drop 5) ⟨by simp only;omega,by simp [hl],by simp only;rw [c7P];exact hL,by simp only;exact hM2⟩ (by simp only;omega) (by simp only [c7X,c7w,c7I];exact (by (repeat first|refine uA ?_|(refine ⟨?_,?_⟩;focus first|rfl|simp [slot])|rfl|simp)))
 have hi':i=cW:=by omega
 subst hi'
 rw [Nat.sub_self,a2g,List.append_nil] at hL
 rw [Nat.sub_self,Nat.mul_zero,List.drop_zero,List.drop_drop] at hM
 have hm:mw=L2:=by rw [q2];exact hM
 subst hm
 rw [<- hL]
 (repeat first|refine uA ?_|(apply uK;focus omega)|simp (disch:=omega) only [go_sem,Nat.reduceBEq]|refine l9.t (j6.lift (k:=1) rfl (k2 _ rfl) rfl rfl rfl) ?_)
 rw [<- hc3]
 refine S.loop (X:=Nat × List Pt × List Int) (fun x=>⟨[(2,.bp 0 0),(3,.bp 1 0),(4,.bp 2 0),(66,ints cP),(67,ints x.1)],rsM x.2.2 am ws x.2.1 [] []⟩)
  (fun x=>x.1<=cP/\x.2.1.length=x.1/\x.2.1++a0E (cP-x.1) x.1 x.2.2=a0E cP 0 (mw.drop 1)/\a4M (cP-x.1) x.2.2=a4M cP (mw.drop 1)) (fun x=>cP-x.1) (0,[],mw.drop 1) ⟨c7n _,rfl,rfl,rfl⟩ (by simp only [rsM,x9,a1l];exact (by (repeat first|refine uA ?_|(refine ⟨?_,?_⟩;focus first|rfl|simp [slot])|rfl|simp))) ?_
 rintro ⟨i,ps,mp⟩ ⟨hi,hl,hL,hM⟩
 simp only [rsM,a1l,x9,ints] at hi hl hL hM ⊢
 (repeat first|refine uA ?_|(apply uK;focus omega)|simp (disch:=omega) only [go_sem,Nat.reduceBEq])
 (refine uJ rfl (fun hc=>?_) fun hc=>?_)
 ·have hi':i < cP:=by omega
  rw [show cP-i=(cP-(i+1))+1 by omega,a0E] at hL
  rw [show cP-i=(cP-(i+1))+1 by omega,a4M] at hM
  have hp:=fun (E:Ctx) (hP:E.P=Tryz.prog)=>c5b hP mp
  have hnm:=b9x i (by omega)
  have o1:=V6 0 0 (by decide) (by decide)
  have o2:=a1S 0 1 (by decide) (by decide)
  unfold c2W at hL
  unfold atV at o1
  generalize (a1M mp).1=sh at *
  generalize (a1M mp).2=m' at *
  generalize Q 0 4=qa at *
  generalize Q 0 1=qb at *
  generalize a4t i=nm at *
  simp only [x9,vts,Vt.c,Vt.enc,rc,sb,ints] at hp o1 o2
  (repeat first|refine uI ?_|(apply uK;focus omega)|simp (disch:=omega) only [go_sem,Nat.reduceBEq])
  refine S.y9 [.gone,.gone,.box 31 [.rv 3,.rv 4,.rv 5,.rv 6,.rv 7,.v (.bool false),.v (.string ⟨#[]⟩),.v (.string ⟨#[]⟩)]] (by simp [Eng.H8,Eng.X0]) ?_
  (repeat first|refine uA ?_|(apply uK;focus first|omega|(intros;simp_all<;>omega))|simp (disch:=omega) only [go_sem,Nat.reduceBEq,Nat.reduceAdd,ww,c7i,hl,hnm,c7o]|refine l9.t (j6.lift (k:=1) rfl (hp _ rfl) rfl rfl rfl) ?_|(apply uB o1;exact rfl)|(apply uB o2;exact rfl))
  refine S.next (x:=(i,ps,mp)) (i+1,ps++[⟨nm,sh,⟨qa,qa,false,qb⟩⟩],m') ⟨by simp only;omega,by simp [hl],by simp only;rw [c7P];exact hL,by simp only;exact hM⟩ (by simp only;omega) (by simp only [c7X,c7w,c7I];exact (by (repeat first|refine uA ?_|(refine ⟨?_,?_⟩;focus first|rfl|simp [slot])|rfl|simp)))
 have hi':i=cP:=by omega
 subst hi'
 rw [Nat.sub_self,a0E,List.append_nil] at hL
 rw [Nat.sub_self,a4M] at hM
 have hm:mp=L3:=by rw [q3];exact hM
 subst hm
 rw [<- hL]
 (repeat first|refine uI ?_|(apply uK;focus omega)|simp (disch:=omega) only [go_sem,Nat.reduceBEq,ww])
 refine S.y9 [.gone,.gone,.box 31 [.rv 3,.rv 4,.rv 5,.rv 6,.rv 7,.v (.bool false),.v (.string ⟨#[]⟩),.v (.string ⟨#[]⟩)],.gone,.gone,.row 115 12 (ps.map Pt.enc)] (by simp [Eng.H8,Eng.X0]) ?_
 (repeat first|refine uA ?_|(apply uK;focus omega)|simp (disch:=omega) only [go_sem,Nat.reduceBEq,ww,c7i,hl]|refine l9.t (j6.lift (k:=1) rfl (k3 _ rfl) rfl rfl rfl) ?_)
 rw [<- hc4]
 refine S.loop (X:=Nat × List Sl × List Int) (fun x=>⟨[(2,.bp 0 0),(3,.bp 1 0),(4,.bp 2 0),(92,ints cS),(93,ints x.1)],rsM x.2.2 am ws ps x.2.1 []⟩)
  (fun x=>x.1<=cS/\x.2.1.length=x.1/\x.2.1++a0F (cS-x.1) x.1 x.2.2=a0F cS 0 (mp.drop 1)/\x.2.2.drop (4*(cS-x.1))=(mp.drop 1).drop (4*cS)) (fun x=>cS-x.1) (0,[],mp.drop 1) ⟨c7n _,rfl,rfl,rfl⟩ (by simp only [rsM,x9,a1l];exact (by (repeat first|refine uA ?_|(refine ⟨?_,?_⟩;focus first|rfl|simp [slot])|rfl|simp))) ?_
 rintro ⟨i,ss,ms⟩ ⟨hi,hl,hL,hM⟩
 simp only [rsM,a1l,x9,ints] at hi hl hL hM ⊢
 (repeat first|refine uA ?_|(apply uK;focus omega)|simp (disch:=omega) only [go_sem,Nat.reduceBEq])
 (refine uJ rfl (fun hc=>?_) fun hc=>?_)
 ·have hi':i < cS:=by omega
  rw [show cS-i=(cS-(i+1))+1 by omega,a0F] at hL
  have hM2:(ms.drop 4).drop (4*(cS-(i+1)))=(mp.drop 1).drop (4*cS):=by rw [<- hM,List.drop_drop];congr 1;omega
  have n0:=fun (E:Ctx) (hP:E.P=Tryz.prog)=>I7 hP ms 40 (by decide)
  have a0:=p8 ms (n:=40) (by decide)
  have b0:=C9 ms (n:=40) (by decide)
  have n1:=fun (E:Ctx) (hP:E.P=Tryz.prog)=>I7 hP (ms.drop 1) 24 (by decide)
  have a1:=p8 (ms.drop 1) (n:=24) (by decide)
  have b1:=C9 (ms.drop 1) (n:=24) (by decide)
  have n2:=fun (E:Ctx) (hP:E.P=Tryz.prog)=>I7 hP (ms.drop 2) 5 (by decide)
  have a2:=p8 (ms.drop 2) (n:=5) (by decide)
  have b2:=C9 (ms.drop 2) (n:=5) (by decide)
  have n3:=fun (E:Ctx) (hP:E.P=Tryz.prog)=>I7 hP (ms.drop 3) 20 (by decide)
  have a3:=p8 (ms.drop 3) (n:=20) (by decide)
  have b3:=C9 (ms.drop 3) (n:=20) (by decide)
  simp only [List.drop_drop,x9,ints] at n0 n1 n2 n3
  have hnm:=c0S i (by omega)
  have o1:=V6 (nx ms 40-20) (nx (ms.drop 1) 24-12) (by omega) (by omega)
  have o2:=a1S (nx (ms.drop 2) 5-2) 2 (by omega) (by decide)
  have o3:=a1S 1 (8+nx (ms.drop 3) 20) (by decide) (by omega)
  unfold b8m at hL
  unfold atV at o1
  generalize Q (nx ms 40-20) 4=qa at *
  generalize Q (nx (ms.drop 1) 24-12) 4=qb at *
  generalize Q (nx (ms.drop 2) 5-2) 2=qc at *
  generalize Q 1 (8+nx (ms.drop 3) 20)=qd at *
  generalize a5N i=nm at *
  generalize nx ms 40=x1 at *
  generalize nx (ms.drop 1) 24=x2 at *
  generalize nx (ms.drop 2) 5=x3 at *
  generalize nx (ms.drop 3) 20=x4 at *
  simp only [Vt.c,Vt.enc,rc,sb,ints] at o1 o2 o3
  (repeat first|refine uI ?_|(apply uK;focus omega)|simp (disch:=omega) only [go_sem,Nat.reduceBEq])
  refine S.y9 [.gone,.gone,.box 31 [.rv 3,.rv 4,.rv 5,.rv 6,.rv 7,.v (.bool false),.v (.string ⟨#[]⟩),.v (.string ⟨#[]⟩)]] (by simp [Eng.H8,Eng.X0]) ?_
  (repeat first|refine uA ?_|(apply uK;focus first|omega|(intros;simp_all<;>omega))|simp (disch:=omega) only [go_sem,Nat.reduceBEq,Nat.reduceAdd,ww,c7i,hl,hnm,c7o]|refine l9.t (j6.lift (k:=1) rfl (n0 _ rfl) rfl rfl rfl) ?_|refine l9.t (j6.lift (k:=1) rfl (n1 _ rfl) rfl rfl rfl) ?_|refine l9.t (j6.lift (k:=1) rfl (n2 _ rfl) rfl rfl rfl) ?_|refine l9.t (j6.lift (k:=1) rfl (n3 _ rfl) rfl rfl rfl) ?_|(apply uB o1;exact rfl)|(apply uB o2;exact rfl)|(apply uB o3;exact rfl))
  refine S.next (x:=(i,ss,ms)) (i+1,ss++[⟨nm,⟨qa,qb,false,qc⟩,qd⟩],ms.drop 4) ⟨by simp only;omega,by simp [hl],by simp only;rw [c7P];exact hL,by simp only;exact hM2⟩ (by simp only;omega) (by simp only [c7X,c7w,c7I];exact (by (repeat first|refine uA ?_|(refine ⟨?_,?_⟩;focus first|rfl|simp [slot])|rfl|simp)))
 have hi':i=cS:=by omega
 subst hi'
 rw [Nat.sub_self,a0F,List.append_nil] at hL
 rw [Nat.sub_self,Nat.mul_zero,List.drop_zero,List.drop_drop] at hM
 have hm:ms=L4:=by rw [q4];exact hM
 subst hm
 rw [<- hL]
 (repeat first|refine uA ?_|(apply uK;focus omega)|simp (disch:=omega) only [go_sem,Nat.reduceBEq]|refine l9.t (j6.lift (k:=1) rfl (k4 _ rfl) rfl rfl rfl) ?_)
 rw [<- hc5]
 refine S.loop (X:=Nat × List Gt × List Int) (fun x=>⟨[(2,.bp 0 0),(3,.bp 1 0),(4,.bp 2 0),(125,ints cG),(126,ints x.1)],rsM x.2.2 am ws ps ss x.2.1⟩)
  (fun x=>x.1<=cG/\x.2.1.length=x.1/\x.2.1++a0G (cG-x.1) x.2.2=a0G cG (ms.drop 1)/\x.2.2.drop (4*(cG-x.1))=(ms.drop 1).drop (4*cG)) (fun x=>cG-x.1) (0,[],ms.drop 1) ⟨c7n _,rfl,rfl,rfl⟩ (by simp only [rsM,x9,a1l];exact (by (repeat first|refine uA ?_|(refine ⟨?_,?_⟩;focus first|rfl|simp [slot])|rfl|simp))) ?_
 rintro ⟨i,gs,mg⟩ ⟨hi,hl,hL,hM⟩
 simp only [rsM,a1l,x9,ints] at hi hl hL hM ⊢
 (repeat first|refine uA ?_|(apply uK;focus omega)|simp (disch:=omega) only [go_sem,Nat.reduceBEq])
 (refine uJ rfl (fun hc=>?_) fun hc=>?_)
 ·have hi':i < cG:=by omega
  rw [show cG-i=(cG-(i+1))+1 by omega,a0G] at hL
  have hM2:(mg.drop 4).drop (4*(cG-(i+1)))=(ms.drop 1).drop (4*cG):=by rw [<- hM,List.drop_drop];congr 1;omega
  have n0:=fun (E:Ctx) (hP:E.P=Tryz.prog)=>I7 hP mg 60 (by decide)
  have a0:=p8 mg (n:=60) (by decide)
  have b0:=C9 mg (n:=60) (by decide)
  have n1:=fun (E:Ctx) (hP:E.P=Tryz.prog)=>I7 hP (mg.drop 1) 60 (by decide)
  have a1:=p8 (mg.drop 1) (n:=60) (by decide)
  have b1:=C9 (mg.drop 1) (n:=60) (by decide)
  have n2:=fun (E:Ctx) (hP:E.P=Tryz.prog)=>I7 hP (mg.drop 2) 12 (by decide)
  have a2:=p8 (mg.drop 2) (n:=12) (by decide)
  have b2:=C9 (mg.drop 2) (n:=12) (by decide)
  have n3:=fun (E:Ctx) (hP:E.P=Tryz.prog)=>I7 hP (mg.drop 3) 12 (by decide)
  have a3:=p8 (mg.drop 3) (n:=12) (by decide)
  have b3:=C9 (mg.drop 3) (n:=12) (by decide)
  simp only [List.drop_drop,x9,ints] at n0 n1 n2 n3
  have o1:=V6 (nx mg 60-30) (nx (mg.drop 1) 60-30) (by omega) (by omega)
  have o2:=V6 (nx mg 60-30+nx (mg.drop 2) 12) (nx (mg.drop 1) 60-30+nx (mg.drop 3) 12) (by omega) (by omega)
  unfold b9i at hL
  generalize atV (nx mg 60-30) (nx (mg.drop 1) 60-30)=va at *
  generalize atV (nx mg 60-30+nx (mg.drop 2) 12) (nx (mg.drop 1) 60-30+nx (mg.drop 3) 12)=vb at *
  generalize nx mg 60=x1 at *
  generalize nx (mg.drop 1) 60=x2 at *
  generalize nx (mg.drop 2) 12=x3 at *
  generalize nx (mg.drop 3) 12=x4 at *
  simp only [Vt.c,Vt.enc,sb,ints] at o1 o2
  (repeat first|refine uI ?_|(apply uK;focus omega)|simp (disch:=omega) only [go_sem,Nat.reduceBEq,ww]|refine l9.t (j6.lift (k:=1) rfl (n0 _ rfl) rfl rfl rfl) ?_|refine l9.t (j6.lift (k:=1) rfl (n1 _ rfl) rfl rfl rfl) ?_)
  refine S.y9 [.gone,.gone,.box 31 [.rv 3,.rv 4,.rv 5,.rv 6,.rv 7,.v (.bool false),.v (.string ⟨#[]⟩),.v (.string ⟨#[]⟩)]] (by simp [Eng.H8,Eng.X0]) ?_
  (repeat first|refine uA ?_|(apply uK;focus first|omega|(intros;simp_all<;>omega))|simp (disch:=omega) only [go_sem,Nat.reduceBEq,Nat.reduceAdd,ww,c7i,hl]|refine l9.t (j6.lift (k:=1) rfl (n2 _ rfl) rfl rfl rfl) ?_|refine l9.t (j6.lift (k:=1) rfl (n3 _ rfl) rfl rfl rfl) ?_|(apply uB o1;exact rfl)|(apply uB o2;exact rfl))
  refine S.next (x:=(i,gs,mg)) (i+1,gs++[⟨[100,111,111,114],va,vb⟩],mg.drop 4) ⟨by simp only;omega,by simp [hl],by simp only;rw [c7P];exact hL,by simp only;exact hM2⟩ (by simp only;omega) (by simp only [c7X,c7w,c7I];exact (by (repeat first|refine uA ?_|(refine ⟨?_,?_⟩;focus first|rfl|simp [slot])|rfl|simp)))
 have hi':i=cG:=by omega
 subst hi'
 rw [Nat.sub_self,a0G,List.append_nil] at hL
 rw [Nat.sub_self,Nat.mul_zero,List.drop_zero,List.drop_drop] at hM
 have hm:mg=L5:=by rw [q5];exact hM
 subst hm
 rw [<- hL]
 have o1:=a1S (nx mg 4) 8 (by omega) (by decide)
 generalize Q (nx mg 4) 8=qw at *
 generalize nx mg 4=x6 at *
 simp only [Wk.c,Wk.enc,ams,wls,pts,sls,gts,rc,sb,ints] at o1 ⊢
 (repeat first|refine uA ?_|(apply uK;focus omega)|simp (disch:=omega) only [go_sem,Nat.reduceBEq]|refine l9.t (j6.lift (k:=1) rfl (k5 _ rfl) rfl rfl rfl) ?_|(apply uB o1;exact rfl))
 (refine S.done ?_;simp only [p9,r9,go_sem,Nat.reduceBEq,Nat.reduceAdd,Nat.reduceLeDiff];(repeat (refine ⟨?_,?_⟩;focus first|trivial|omega|simp));exact j3.out rfl (Imp.agg (by (repeat' (first|exact j4.nil|exact Imp.refl rfl|exact Imp.frz rfl rfl rfl|exact Imp.F8|refine j4.cons ?_ ?_)))) rfl)
def b8W:Wk:=⟨[],[],[],[],[],⟨false,[],[]⟩⟩
theorem a7A {w:World} {O:Nat->Prop} {sz:Nat}:Fz w O (.sl sz []) (.slice none 0 0):=by
 simp only [Fz]
 exact ⟨none,0,rfl,c7p _,c7n _,fun h=>absurd h (by simp)⟩
theorem c2K:FZ 36 [.agg [.v (.slice none 0 0),.v (.slice none 0 0),.v (.slice none 0 0),.v (.slice none 0 0),.v (.slice none 0 0),.v (.bool false),.v (.string ⟨#[]⟩),.v (.string ⟨#[]⟩)]] (ints 4):=by
 have h:=a9P b8W ⟨⟨c7n _,fun x hx=>(by cases hx)⟩,⟨c7n _,fun x hx=>(by cases hx)⟩,⟨c7n _,fun x hx=>(by cases hx)⟩,⟨c7n _,fun x hx=>(by cases hx)⟩,⟨c7n _,fun x hx=>(by cases hx)⟩,⟨c7n _,c7n _⟩⟩
 have he:a0b b8W=4:=rfl
 rw [he] at h
 intro O w vs hw hO hA
 refine h O w vs hw hO ?_
 simp only [FzL,Fz] at hA
 obtain ⟨y,ys,rfl,⟨us,⟨y1,r1,rfl,rfl,y2,r2,rfl,rfl,y3,r3,rfl,rfl,y4,r4,rfl,rfl,y5,r5,rfl,rfl,y6,r6,rfl,rfl,y7,r7,rfl,rfl,y8,r8,rfl,rfl,rfl⟩,rfl⟩,rfl⟩:=hA
 refine ⟨_,_,rfl,?_,rfl⟩
 simp only [Wk.c,Wk.enc,b8W,Fz]
 exact ⟨_,⟨_,_,rfl,a7A,_,_,rfl,a7A,_,_,rfl,a7A,_,_,rfl,a7A,_,_,rfl,a7A,_,_,rfl,by simp only [Fz],_,_,rfl,by simp only [sb,Fz];rfl,_,_,rfl,by simp only [sb,Fz];rfl,rfl⟩,rfl⟩
set_option maxHeartbeats 16000000
theorem c4p {E:Ctx} (hP:E.P=Tryz.prog) (ht0:Tz E) (l:List Int) :
  j6 E [] 13 [x9 l] (.tup [(u6 l).c,.agg [ints 0,.rv 6,.rv 7,.v (.slice none 0 0),.rv 8],.v (.bool true)]) [.gone,.gone,.gone,.gone,.gone,.gone,.row 49 4 ((E5 (u6 l)).arms.map Ast.enc),.row 66 10 ((E5 (u6 l)).parts.map Fr.enc),.row 4 1 ((E5 (u6 l)).gates.map fun b=>[.v (.bool b)]),.gone] []:=by
 obtain ⟨P,eff',N,w0,own0,av0,nu0,pk0⟩:=E
 simp only at hP
 subst hP
 refine j6.ofT (eff:=eff) ht0 a7Y a8b (by exact c7z rfl) fun w' own av ν hν ht=>?_
 have hν0:ν.length<=0:=by rw [hν];exact c7p _
 have hk:=a6J l
 obtain ⟨ha,hs⟩:=a3F l
 have hb:=c0o l
 have h1:=c4r l
 have h2:=fun (E:Ctx) (hP:E.P=Tryz.prog) (ht:Tz E)=>c4z hP ht (u6 l) hb hk
 have h3:=b5g (u6 l) (E5 (u6 l)) hb (b9M hb ha hs)
 rw [a6E hk ha hs] at h3
 have h4:=c2K
 have e1:(E5 (u6 l)).arms.length=(u6 l).arms.length:=by simp [E5]
 have e2:(E5 (u6 l)).parts.length=(u6 l).parts.length:=by simp [E5]
 have e3:(E5 (u6 l)).people=[]:=rfl
 have e4:(E5 (u6 l)).tick=0:=rfl
 generalize E5 (u6 l)=s at *
 generalize u6 l=w at *
 obtain ⟨arms,walls,parts,slots,gates,walk⟩:=w
 obtain ⟨tick,sarms,sparts,people,sgates⟩:=s
 simp only at e1 e2 e3 e4
 subst e3 e4
 have d1:decide ((sarms.length:Int)=(arms.length:Int))=true:=decide_eq_true (by omega)
 have d2:decide ((sparts.length:Int)=(parts.length:Int))=true:=decide_eq_true (by omega)
 simp only [a3P,j5,TT,II,OA,OB,OC,MM,LL,LG,VG,FG]
 simp only [Wk.c,Wk.enc,Stt.c,Stt.enc,ams,wls,pts,sls,gts,P9,frs,vts,bls,sb,ints,x9,c7I] at h1 h2 h3 h4 ⊢
 (repeat first|refine uI ?_|(refine uK ?_ ?_;focus first|omega|(intros;simp_all<;>omega))|simp (disch:=omega) only [go_sem,Nat.reduceBEq,Nat.reduceAdd,C.sh,C.shL,c7A,List.length_nil]|refine l9.t (j6.pre (h2 _ rfl ht) rfl rfl rfl) ?_|(refine uB h1 ?_ ?_;exact rfl))
 refine S.y9 [.gone,.gone,.gone,.gone,.gone,.gone,.gone,.gone,.gone,.box 37 [.v (.int .i64 0),.rv 6,.rv 7,.v (.slice none 0 0),.rv 8]] (by simp [Eng.H8,Eng.X0]) ?_
 (repeat first|refine uA ?_|(refine uK ?_ ?_;focus first|omega|(intros;simp_all<;>omega))|simp (disch:=omega) only [go_sem,Nat.reduceBEq,Nat.reduceAdd,c7i,e1,e2,decide_true,Bool.and_self]|(refine uD h4 ?_ ?_ ?_;exact ht;exact rfl)|(refine uE h3 ?_ ?_ ?_ ?_;exact ht;exact rfl;focus (repeat' first|exact j4.nil|exact Imp.refl rfl|exact Imp.F8|exact Imp.fbx rfl rfl (j4.refl rfl) rfl rfl|refine Imp.clo ?_|exact Imp.frz rfl rfl rfl|(refine Imp.V5 rfl rfl ?_ ?_;(focus ((try simp only [c7t,H8,c7i,e1,e2,d1,d2,decide_true,Bool.and_self]);omega));(focus first|rfl|assumption))|refine Imp.agg ?_|refine j4.cons ?_ ?_);done))
 (refine S.done ?_;simp only [p9,r9,go_sem,Nat.reduceBEq,Nat.reduceAdd,Nat.reduceLeDiff];(repeat (refine ⟨?_,?_⟩;focus first|trivial|omega|simp));exact j3.K9 (Imp.tup (by (repeat' (first|exact j4.nil|exact Imp.refl rfl|exact Imp.frz rfl rfl rfl|exact Imp.F8|refine Imp.agg ?_|refine j4.cons ?_ ?_)))) (by (repeat first|refine uA ?_|(refine ⟨?_,?_⟩;focus first|rfl|simp [slot])|rfl|simp)) (c7l hν0 (by simp)))
theorem b0R {n:Int} (h:-9223372036854775808<=n/\n<=9223372036854775807):IntKind.i64.wrap n=n:=by
 rw [show IntKind.i64.wrap n=if n % 18446744073709551616 >= 9223372036854775808 then n % 18446744073709551616-18446744073709551616 else n % 18446744073709551616 by simp [IntKind.wrap,IntKind.signed,IntKind.bits]]
 split<;>omega
theorem b0O (a:Nm.Rt) (h:l6 a=true):A9 Tryz.prog 98 [rc a] (.tup [ints (nuI a),ints (deI a)]):=by
 refine kS Tryz.func98 (by cbv) (by rfl) fun w O=>?_
 have hI:=b1W h
 have hn:a.num.length<=3:=(X3 h).1
 have hd:a.den.length<=3:=(X3 h).2
 unfold nuI deI Nm.sgn at *
 obtain ⟨neg,num,den⟩:=a
 simp only at hI hn hd ⊢
 simp only [j5,TT,II,OA,MM,VV,FF]
 simp only [rc,sb,ints]
 (repeat first|refine uA ?_|(apply uK;focus omega)|simp (disch:=omega) only [go_sem,Nat.reduceBEq,F4])
 refine S.loop (X:=Nat) (fun i=>⟨[(1,.bp 0 0),(4,ints (Nm.val (num.take i))),(5,ints 0),(12,.sl 1 (num.map G6)),(13,ints num.length),(14,ints i)],[.box 29 [.v (.bool neg),sb num,sb den]]⟩) (fun i=>i<=num.length) (fun i=>num.length-i) 0 (c7n _) (by (repeat first|refine uA ?_|(refine ⟨?_,?_⟩;focus first|rfl|simp [slot])|rfl|simp)) ?_
 intro i hi
 simp only [sb,ints] at hi ⊢
 have hb:=b4e hn i
 (repeat first|refine uA ?_|(apply uK;focus omega)|simp (disch:=omega) only [go_sem,Nat.reduceBEq])
 (refine uJ rfl (fun hc=>?_) fun hc=>?_)
 ·have hi':i < num.length:=by omega
  have hgi:=c7h hi'
  have hap:num.take (i+1)=num.take i++[num[i]]:=c7Z hi'
  have hv:=a5c (num.take i) num[i]
  rw [<- hap] at hv
  generalize num[i]=c at hgi hv
  have hc8:=UInt8.toNat_lt c
  have w1:IntKind.i64.wrap (c.toNat:Int)=(c.toNat:Int):=b0R (by omega)
  have w2:IntKind.i64.wrap (256*(Nm.val (num.take i):Int)+(c.toNat:Int))=256*(Nm.val (num.take i):Int)+(c.toNat:Int):=b0R (by omega)
  (repeat first|refine uA ?_|(apply uK;focus omega)|simp (disch:=omega) only [go_sem,Nat.reduceBEq,ww,hgi,c7j,c7i,G6,c7o,w1,w2])
  refine S.next (i+1) (by omega) (by omega) (by rw [hv];exact (by (repeat first|refine uA ?_|(refine ⟨?_,?_⟩;focus first|rfl|simp [slot])|rfl|simp)))
 have hi':i=num.length:=by omega
 subst hi'
 rw [c7y]
 (repeat first|refine uA ?_|(apply uK;focus omega)|simp (disch:=omega) only [go_sem,Nat.reduceBEq,F4])
 refine S.loop (X:=Nat) (fun i=>⟨[(1,.bp 0 0),(4,ints (Nm.val num)),(5,ints (Nm.val (den.take i))),(26,.sl 1 (den.map G6)),(27,ints den.length),(28,ints i)],[.box 29 [.v (.bool neg),sb num,sb den]]⟩) (fun i=>i<=den.length) (fun i=>den.length-i) 0 (c7n _) (by (repeat first|refine uA ?_|(refine ⟨?_,?_⟩;focus first|rfl|simp [slot])|rfl|simp)) ?_
 intro i hi
 simp only [sb,ints] at hi ⊢
 have hb:=b4e hd i
 (repeat first|refine uA ?_|(apply uK;focus omega)|simp (disch:=omega) only [go_sem,Nat.reduceBEq])
 (refine uJ rfl (fun hc=>?_) fun hc=>?_)
 ·have hi':i < den.length:=by omega
  have hgi:=c7h hi'
  have hap:den.take (i+1)=den.take i++[den[i]]:=c7Z hi'
  have hv:=a5c (den.take i) den[i]
  rw [<- hap] at hv
  generalize den[i]=c at hgi hv
  have hc8:=UInt8.toNat_lt c
  have w1:IntKind.i64.wrap (c.toNat:Int)=(c.toNat:Int):=b0R (by omega)
  have w2:IntKind.i64.wrap (256*(Nm.val (den.take i):Int)+(c.toNat:Int))=256*(Nm.val (den.take i):Int)+(c.toNat:Int):=b0R (by omega)
  (repeat first|refine uA ?_|(apply uK;focus omega)|simp (disch:=omega) only [go_sem,Nat.reduceBEq,ww,hgi,c7j,c7i,G6,c7o,w1,w2])
  refine S.next (i+1) (by omega) (by omega) (by rw [hv];exact (by (repeat first|refine uA ?_|(refine ⟨?_,?_⟩;focus first|rfl|simp [slot])|rfl|simp)))
 have hi':i=den.length:=by omega
 subst hi'
 rw [c7y]
 (repeat first|refine uA ?_|(apply uK;focus omega)|simp (disch:=omega) only [go_sem,Nat.reduceBEq])
 refine S.cond rfl (fun hc=>?_) (fun hc=>?_)
 ·subst hc
  rw [if_pos rfl] at hI ⊢
  rw [show -(Nm.val num:Int)=0-(Nm.val num:Int) by omega,show max (Nm.val den:Int) 1=if (Nm.val den:Int) < 1 then 1 else (Nm.val den:Int) by split<;>omega]
  (repeat first|refine uA ?_|(apply uK;focus omega)|simp (disch:=omega) only [go_sem,Nat.reduceBEq,ww])
  (refine S.done ?_;simp only [p9,go_sem,Nat.reduceBEq,Nat.reduceAdd];exact j3.out rfl (Imp.tup (by (repeat' (first|exact j4.nil|exact Imp.refl rfl|exact Imp.frz rfl rfl rfl|exact Imp.F8|refine Imp.agg ?_|refine j4.cons ?_ ?_)))) rfl)
 ·subst hc
  rw [if_neg (by decide)] at hI ⊢
  rw [show max (Nm.val den:Int) 1=if (Nm.val den:Int) < 1 then 1 else (Nm.val den:Int) by split<;>omega]
  (repeat first|refine uA ?_|(apply uK;focus omega)|simp (disch:=omega) only [go_sem,Nat.reduceBEq])
  (refine S.done ?_;simp only [p9,go_sem,Nat.reduceBEq,Nat.reduceAdd];exact j3.out rfl (Imp.tup (by (repeat' (first|exact j4.nil|exact Imp.refl rfl|exact Imp.frz rfl rfl rfl|exact Imp.F8|refine Imp.agg ?_|refine j4.cons ?_ ?_)))) rfl)
def a5i:H6:=⟨58,[.tmp 4],.seq (.reg [OA 2 (.box 69 (TT 0)),OA 4 (.mv (.const (.slice none 0 0)))]) (.seq (.reg [OA 5 (.mv (.const (.slice none 0 0)))]) (.seq (.seq (.reg [FF 13 11 2,VV 14 13,OA 15 (.len false (TT 14)),OA 16 (.mv (II
 0))]) (.block 0 (.loop (.seq (.reg [OA 17 (.bin .lss (TT 16) (TT 15))]) (.seq (.cond (TT 17) .skip (.exit 0)) (.seq (.block 1 (.seq (.reg [OA 18 (.l7 16 (TT 14) (TT 16)),LL 19 16 18,OA 7 (.alloc 74 [.bool false,.string
 ⟨#[]⟩,.string ⟨#[]⟩,.bool false,.string ⟨#[]⟩,.string ⟨#[]⟩,.bool false,.string ⟨#[]⟩,.string ⟨#[]⟩,.bool false,.string ⟨#[]⟩,.string ⟨#[]⟩,.bool false,.string ⟨#[]⟩,.string ⟨#[]⟩,.slice none 0 0]),OB (.store 16
 (TT 7) (TT 19))]) (.seq (.reg [FF 21 3 7,LL 22 3 21,OA 23 (.call 98 [TT 22]),MM 20 23,OA 24 (.ext (TT 20) 0),OA 25 (.ext (TT 20) 1),MM 8 24,MM 9 25]) (.seq (.reg [FF 27 6 7,LL 28 3 27,OA 29 (.call 98 [TT 28]),MM 26 29,
 OA 30 (.ext (TT 26) 0),OA 31 (.ext (TT 26) 1),MM 10 30,MM 11 31]) (.seq (.reg [MM 32 1,OA 33 (.call 33 [TT 32,II 9]),MM 12 33]) (.reg [MM 34 5,MM 35 8,OA 36 (.bin .mul (II 8) (TT 35)),MM 37 11,OA 38 (.bin .mul (TT 36)
 (TT 37)),MM 39 10,MM 40 9,OA 41 (.bin .mul (TT 39) (TT 40)),MM 42 8,MM 43 11,OA 44 (.bin .mul (TT 42) (TT 43)),OA 45 (.bin .sub (TT 41) (TT 44)),MM 46 12,OA 47 (.bin .mul (TT 45) (TT 46)),OA 48 (.bin .add (TT 38) (TT
 47)),MM 49 9,OA 50 (.bin .mul (II 8) (TT 49)),MM 51 11,OA 52 (.bin .mul (TT 50) (TT 51)),OA 53 (.call 78 [TT 48,TT 52]),OA 54 (.bsl 29 3 1 [.bool false,.string ⟨#[]⟩,.string ⟨#[]⟩] [(0,TT 53)]),OA 55 (.app 29 3 40 (TT
 34) (TT 54)),MM 5 55])))))) (.reg [OA 56 (.bin .add (TT 16) (II 1)),MM 16 56]))))))) (.seq (.reg [MM 57 5,MM 4 57]) .ret)))⟩
theorem a9V:F3 eff Tryz.prog Tryz.f37=some a5i:=by kernel_rfl
theorem b0a:Tryz.prog.funcs[37]?=some Tryz.f37:=Tryz.func37
theorem c5W {E:Ctx} (hP:E.P=Tryz.prog) (a:Am) (l:List Int) (ha:J3 a=0) :
  j6 E [.box 95 [x9 l]] 37 [a.c,.bp 0 0] (rts (O4 a.links l)) [.box 95 [x9 (l.drop a.links.length)]] []:=by
 obtain ⟨P,eff',N,w0,own0,av0,nu0,pk0⟩:=E
 simp only at hP
 subst hP
 refine j6.of (eff:=eff) b0a a9V (by exact c7z rfl) fun w own av ν hν=>?_
 have hν0:ν.length<=1:=by rw [hν];exact c7p _
 have hl:=(O7 ha).2
 have h3:=(Z4 ha).2
 obtain ⟨name,base,links⟩:=a
 simp only at hl h3 ⊢
 simp only [a5i,j5,TT,II,OA,OB,MM,LL,VV,FF]
 simp only [Am.c,Am.enc,lks,rts,x9,sb]
 (repeat first|refine uA ?_|(apply uK;focus omega)|simp (disch:=omega) only [go_sem,Nat.reduceBEq,c7i])
 refine S.loop (X:=Nat) (fun i=>⟨[(1,.bp 0 0),(5,.rv 2),(14,lks links),(15,ints links.length),(16,ints i)],[.box 95 [x9 (l.drop i)],.gone,.row 29 3 ((O4 (links.take i) l).map rcs)]⟩) (fun i=>i<=links.length) (fun i=>links.length-i) 0 (c7n _)
  (Ent.trans (Ent.pack 5 29 3 rfl) (by (repeat first|refine uA ?_|(refine ⟨?_,?_⟩;focus first|rfl|simp [slot])|rfl|simp|exact c7l hν0 (by simp)))) ?_
 intro i hi
 simp only [lks,x9,ints]
 (repeat first|refine uA ?_|(apply uK;focus omega)|simp (disch:=omega) only [go_sem,Nat.reduceBEq])
 (refine uJ rfl (fun hc=>?_) fun hc=>?_)
 ·have hi':i < links.length:=by omega
  have hgi:=c7h hi'
  have hsn:=b1q links l i _ hgi
  have hln:(O4 (links.take i) l).length=i:=by rw [a1D,c7s];omega
  have hx:=hl _ (c7k hgi)
  generalize links[i]=x at hgi hsn hx
  obtain ⟨s1,s2⟩:=b1y hx
  have k:=fun (E:Ctx) (hP:E.P=Tryz.prog)=>I7 hP (l.drop i) 9 (by decide)
  have f1:=b0O x.low s1
  have f2:=b0O x.high s2
  have hb:=b2f s1 s2 (nx9 (l.drop i))
  have hk:=nx9 (l.drop i)
  have hcr:a3M x (nx (l.drop i) 9)=Q (8*nuI x.low*deI x.high+(nuI x.high*deI x.low-nuI x.low*deI x.high)*nx (l.drop i) 9) (8*deI x.low*deI x.high):=rfl
  obtain ⟨b1,b2,b3,b4,b5,b6,b7,b8,b9,b10⟩:=hb
  have o:=a1S (8*nuI x.low*deI x.high+(nuI x.high*deI x.low-nuI x.low*deI x.high)*nx (l.drop i) 9) (8*deI x.low*deI x.high) (by omega) (by omega)
  rw [<- hcr] at o
  rw [List.drop_drop] at k
  generalize a3M x (nx (l.drop i) 9)=r at *
  generalize nx (l.drop i) 9=y at *
  generalize nuI x.low=m1 at *
  generalize nuI x.high=m2 at *
  generalize deI x.low=d1 at *
  generalize deI x.high=d2 at *
  simp only [rc,x9,sb,ints] at k f1 f2 o
  (repeat first|refine uA ?_|(apply uK;focus first|omega|(intros;simp_all<;>omega))|simp (disch:=omega) only [go_sem,Nat.reduceBEq,Nat.reduceAdd,ww,hgi,c7j,c7i,hln,Lk.enc,vts,sb,c7o]|refine l9.t (j6.lift (k:=0) rfl (k _ rfl) rfl rfl rfl) ?_|(apply uB f1;exact rfl)|(apply uB f2;exact rfl)|(apply uB o;exact rfl))
  refine S.next (i+1) (by omega) (by omega) (by simp only [hsn,c7X,c7w,c7I,rcs,sb];exact (by (repeat first|refine uA ?_|(refine ⟨?_,?_⟩;focus first|rfl|simp [slot])|rfl|simp|exact c7l hν0 (by simp))))
 have hi':i=links.length:=by omega
 subst hi'
 rw [c7y]
 (repeat first|refine uA ?_|(apply uK;focus omega)|simp (disch:=omega) only [go_sem,Nat.reduceBEq])
 (refine S.done ?_;simp only [p9,go_sem,Nat.reduceBEq];(repeat (refine ⟨?_,?_⟩;focus first|trivial|omega|simp));exact j3.K9 (Imp.frz rfl rfl rfl) (by (repeat first|refine uA ?_|(refine ⟨?_,?_⟩;focus first|rfl|simp [slot])|rfl|simp)) (c7l hν0 (by simp)))
theorem c0k (a:Am) (l:List Int) (ha:J3 a=0):A9 Tryz.prog 14 [a.c,x9 l] (rts (O4 a.links l)):=by
 refine kS Tryz.func14 (by cbv) (by rfl) fun w O=>?_
 have k:=fun (E:Ctx) (hP:E.P=Tryz.prog)=>c5W hP a l ha
 generalize O4 a.links l=r at *
 obtain ⟨name,base,links⟩:=a
 simp only [j5,TT,OA,MM,LL]
 simp only [Am.c,Am.enc,lks,rts,x9,sb] at k ⊢
 (repeat first|refine uA ?_|(apply uK;focus first|omega|(intros;simp_all<;>omega))|simp (disch:=omega) only [go_sem,Nat.reduceBEq,Nat.reduceAdd]|refine l9.t (j6.lift (k:=1) rfl (k _ rfl) rfl rfl rfl) ?_)
 exact S.done (j3.out rfl (Imp.refl rfl) rfl)
def a3Y:H6:=⟨47,[.cell 4 true 8,.cell 5 true 5,.tmp 6],.seq (.reg [OA 4 (.alloc 31 [.slice none 0 0,.slice none 0 0,.slice none 0 0,.slice none 0 0,.slice none 0 0,.bool false,.string ⟨#[]⟩,.string ⟨#[]⟩]),OA 5 (.alloc 37 [.int
 .i64 0,.slice none 0 0,.slice none 0 0,.slice none 0 0,.slice none 0 0]),OA 6 (.mv (.const (.bool false)))]) (.seq (.reg [MM 13 0,OA 14 (.call 13 [TT 13]),MM 12 14,OA 15 (.ext (TT 12) 0),OA 16 (.ext (TT 12) 1),OA 17
 (.ext (TT 12) 2),OA 7 (.alloc 31 [.slice none 0 0,.slice none 0 0,.slice none 0 0,.slice none 0 0,.slice none 0 0,.bool false,.string ⟨#[]⟩,.string ⟨#[]⟩]),OA 8 (.alloc 37 [.int .i64 0,.slice none 0 0,.slice none 0 0,
 .slice none 0 0,.slice none 0 0]),OB (.store 8 (TT 7) (TT 15)),OB (.store 5 (TT 8) (TT 16)),MM 9 17]) (.seq (.seq (.reg [MM 18 9,OA 19 (.un .not (TT 18))]) (.cond (TT 19) (.seq (.y9 [.q,.l,.e none false,.e none true,
 .q] [LL 20 8 7,LL 21 5 8,OB (.store 8 (TT 4) (TT 20)),OB (.store 5 (TT 5) (TT 21)),OA 6 (.mv (.const (.bool false)))]) .ret) .skip)) (.seq (.seq (.reg [FF 22 0 7,VV 23 22,OA 24 (.len false (TT 23)),OA 25 (.mv (II 0))])
 (.block 0 (.loop (.seq (.reg [OA 26 (.bin .lss (TT 25) (TT 24))]) (.seq (.cond (TT 26) .skip (.exit 0)) (.seq (.block 1 (.seq (.reg [MM 27 25,OA 28 (.l7 12 (TT 23) (TT 25)),LL 29 12 28,OA 11 (.alloc 69 [.string ⟨#[]⟩,
 .bool false,.string ⟨#[]⟩,.string ⟨#[]⟩,.bool false,.string ⟨#[]⟩,.string ⟨#[]⟩,.bool false,.bool false,.string ⟨#[]⟩,.string ⟨#[]⟩,.slice none 0 0]),MM 10 27,OB (.store 12 (TT 11) (TT 29))]) (.y9 [.q,.q,.q,.q,
 .q,.q,.q,.q,.q,.q,.q,.q,.q,.q,.e none true] [FF 30 1 8,VV 31 30,MM 32 10,LL 33 12 11,MM 34 1,MM 35 1,OA 36 (.len false (TT 35)),MM 37 10,OA 38 (.bin .mul (II 3) (TT 37)),OA 39 (.min (TT 36) (TT 38)),OA 40
 (.a0L 1 (TT 34) (some (TT 39)) none),OA 41 (.call 14 [TT 33,TT 40]),OA 42 (.l7 4 (TT 31) (TT 32)),FF 43 0 42,OB (.store 1 (TT 43) (TT 41))]))) (.reg [OA 44 (.bin .add (TT 25) (II 1)),MM 25 44]))))))) (.seq (.y9 [.q,
 .l,.e none false,.e none true,.q] [LL 45 8 7,LL 46 5 8,OB (.store 8 (TT 4) (TT 45)),OB (.store 5 (TT 5) (TT 46)),OA 6 (.mv (.const (.bool true)))]) .ret))))⟩
theorem a7D:F3 eff Tryz.prog Tryz.f5=some a3Y:=by kernel_rfl
theorem a7z:Tryz.prog.funcs[5]?=some Tryz.f5:=Tryz.func5
theorem j6.b3J {E:Ctx} {rs rs2 rs':List Res} {f:Nat} {args args':List C} {s:C} {pk:List Nat} (h:j6 E rs2 f args' s rs' pk) (hi:j4 rs rs2 args args') (hrs:D8 rs rs2 rs2 rs) (hlen:rs2.length=rs.length):j6 E rs f args s rs' pk:=by
 intro av ν w vs hR hav hF hD
 have hk:=a1z hrs
 have hD':=hi.den hR (Cut.of hR hk) hD
 have et:ν.take rs2.length=ν:=by rw [hlen,<- hR.len];exact c7y
 rw [et] at hD'
 have hR2:=hR.weak hrs
 rw [et] at hR2
 refine (h av ν w vs hR2 hav hF hD').mono ?_
 rintro e w' ⟨y,ν',rfl,h1,h2,h3⟩
 exact ⟨y,ν',rfl,h1,⟨h2.os,h2.tape,h2.output,h2.size,fun b hb hn=>h2.block b hb (fun ho=>hn (a2W hk ho)),fun b hb=>(h2.own b hb).imp (a2W hk) id,h2.nu⟩,h3⟩
def Y9 (w:Wk) (to:List Int):List Ast:=(List.range w.arms.length).map (c3l w to)
theorem a4b {w:Wk} {to:List Int} {i:Nat} {a:Am} (h:w.arms[i]?=some a):(Y9 w to)[i]?=some (a6M a (to.drop (3*i)) (-1)):=by
 have hi:=(c7m.1 h).1
 unfold Y9
 rw [c7r,List.getElem?_range hi,c7j]
 unfold c3l
 rw [h]
theorem a5p (w:Wk) (to:List Int):(Y9 w to).length=w.arms.length:=by unfold Y9;simp
theorem b4m {α:Type} {l m:List α} {i:Nat} {y:α} (hl:l.length=m.length) (hy:m[i]?=some y):(l.take i++m.drop i)[i]?=some y:=by
 have hi:=(c7m.1 hy).1
 have h1:(l.take i).length=i:=by rw [c7s];omega
 rw [c7F (by omega),h1,Nat.sub_self,c7U,Nat.add_zero,hy]
theorem c3p {E:Ctx} (hP:E.P=Tryz.prog) (ht0:Tz E) (l to:List Int) (hn:to.length<=1048576) :
  j6 E [] 5 [x9 l,x9 to] (.tup [(u6 l).c,.agg [ints 0,.rv 8,.rv 9,.v (.slice none 0 0),.rv 10],.v (.bool true)]) [.gone,.gone,.gone,.gone,.gone,.gone,.gone,.gone,.row 49 4 ((Y9 (u6 l) to).map Ast.enc),.row 66 10 ((E5 (u6 l)).parts.map Fr.enc),.row 4 1 ((E5 (u6 l)).gates.map fun b=>[.v (.bool b)]),.gone,.gone,.gone] []:=by
 obtain ⟨P,eff',N,w0,own0,av0,nu0,pk0⟩:=E
 simp only at hP
 subst hP
 refine j6.ofT (eff:=eff) ht0 a7z a7D (by exact c7z rfl) fun w' own av ν hν ht=>?_
 have hν0:ν.length<=0:=by rw [hν];exact c7p _
 have hbg:=fun (E:Ctx) (hP:E.P=Tryz.prog) (ht:Tz E)=>c4p hP ht l
 obtain ⟨ha,hs⟩:=a3F l
 have hbig:(u6 l).arms.length<=4:=(a2v (a6E (a6J l) ha hs)).big.2.1
 have hpg:=fun (i:Nat) (a:Am) (h:(u6 l).arms[i]?=some a)=>a4b (to:=to) h
 have hpl:=a5p (u6 l) to
 have hfa:(E5 (u6 l)).arms=(u6 l).arms.map Q7:=rfl
 generalize Y9 (u6 l) to=L at *
 generalize E5 (u6 l)=s at *
 generalize u6 l=w at *
 obtain ⟨arms,walls,parts,slots,gates,walk⟩:=w
 obtain ⟨tick,sarms,sparts,people,sgates⟩:=s
 simp only at hfa hbig hpg hpl ha
 have hsl:sarms.length=arms.length:=by rw [hfa,c7i]
 simp only [a3Y,j5,TT,II,OA,OB,MM,LL,VV,FF]
 simp only [Wk.c,Wk.enc,ams,wls,pts,sls,gts,sb,ints,x9] at hbg ⊢
 (repeat first|refine uA ?_|(refine uK ?_ ?_;focus first|omega|(intros;simp_all<;>omega))|simp (disch:=omega) only [go_sem,Nat.reduceBEq,Nat.reduceAdd,C.sh,C.shL,c7A,List.length_nil]|refine l9.t (j6.pre (hbg _ rfl ht) rfl rfl rfl) ?_)
 refine S.cond rfl (fun hc=>by simp at hc) (fun hc=>?_)
 (repeat first|refine uA ?_|(refine uK ?_ ?_;focus first|omega|(intros;simp_all<;>omega))|simp (disch:=omega) only [go_sem,Nat.reduceBEq,Nat.reduceAdd,c7i])
 refine S.loop (X:=Nat) (fun i=>⟨[(1,x9 to),(4,.bp 0 0),(5,.bp 1 0),(7,.bp 12 0),(8,.bp 13 0),(23,ams arms),(24,ints arms.length),(25,ints i)],[.box 31 [.v (.slice none 0 0),.v (.slice none 0 0),.v (.slice none 0 0),.v (.slice none 0 0),.v (.slice none 0 0),.v (.bool false),.v (.string ⟨#[]⟩),.v (.string ⟨#[]⟩)],.box 37 [.v (.int .i64 0),.v (.slice none 0 0),.v (.slice none 0 0),.v (.slice none 0 0),.v (.slice none 0 0)],.gone,.gone,.gone,.gone,.gone,.gone,.row 49 4 ((L.take i++sarms.drop i).map Ast.enc),.row 66 10 (sparts.map Fr.enc),.row 4 1 (sgates.map fun b=>[.v (.bool b)]),.gone,.box 31 [ams arms,wls walls,pts parts,sls slots,gts gates,.v (.bool walk.neg),sb walk.num,sb walk.den],.box 37 [.v (.int .i64 0),.rv 8,.rv 9,.v (.slice none 0 0),.rv 10]]⟩) (fun i=>i<=arms.length) (fun i=>arms.length-i) 0 (c7n _) (by (repeat first|refine uA ?_|(refine ⟨?_,?_⟩;focus first|rfl|simp [slot])|rfl|simp|exact c7l hν0 (by simp))) ?_
 intro i hi
 simp only [ams,wls,pts,sls,gts,x9,sb,ints]
 (repeat first|refine uA ?_|(refine uK ?_ ?_;focus first|omega|(intros;simp_all<;>omega))|simp (disch:=omega) only [go_sem,Nat.reduceBEq])
 (refine uJ rfl (fun hc=>?_) fun hc=>?_)
 ·have hi':i < arms.length:=by omega
  have hga:=c7h hi'
  have hpi:=hpg i _ hga
  have hm1:sarms[i]?=some (Q7 arms[i]):=by rw [hfa,c7r,hga];rfl
  have haa:=ha _ (c7k hga)
  generalize arms[i]=a at *
  have hms:=b7t (l:=L) (m:=sarms) (by omega) hpi
  have hmg:=b4m (l:=L) (m:=sarms) (by omega) hm1
  have hml:=b7j (l:=L) (m:=sarms) (i:=i) (by omega) (by omega)
  have hC:=c0k a (to.drop (3*i)) haa
  have hpe:a6M a (to.drop (3*i)) (-1)=⟨O4 a.links (to.drop (3*i)),a.links.map fun _=>Nm.ofQ 0,false,-1⟩:=rfl
  have hfe:Q7 a=⟨a.links.map a0N,a.links.map fun _=>Nm.ofQ 0,false,-1⟩:=rfl
  rw [hpe] at hms
  rw [hfe] at hmg
  have hmn:(if 3*(i:Int) < (to.length:Int) then 3*(i:Int) else (to.length:Int))=((min to.length (3*i):Nat):Int):=by split<;>omega
  have hdm:(to.drop (min to.length (3*i))).take (to.length-min to.length (3*i))=to.drop (3*i):=by
   rw [b5j,c7C (by rw [c7S];omega)]
  have hmll:min to.length (3*i)<=to.length:=Nat.min_le_left _ _
  have hse:((L.take i++sarms.drop i).map Ast.enc).set i [rts (O4 a.links (to.drop (3*i))),rts (a.links.map fun _=>Nm.ofQ 0),.v (.bool false),.v (.int .i64 (-1))]=(L.take (i+1)++sarms.drop (i+1)).map Ast.enc:=by rw [<- hms,List.map_set];rfl
  clear hms hpe hfe hpi hm1
  generalize O4 a.links (to.drop (3*i))=c at *
  generalize min to.length (3*i)=mm at *
  generalize to.drop (3*i)=td at *
  generalize hM2:L.take (i+1)++sarms.drop (i+1)=M2 at *
  generalize L.take i++sarms.drop i=M1 at *
  simp only [Am.c,Am.enc,lks,rts,x9,sb] at hC hse
  (repeat first|refine uA ?_|(refine uK ?_ ?_;focus first|omega|(intros;simp_all<;>omega))|simp (disch:=omega) only [go_sem,Nat.reduceBEq,Nat.reduceAdd,ww,hga,hmg,hse,hml,c7j,c7i,Am.enc,Ast.enc,lks,rts,sb,ints,hmn,hdm,c7o]|(refine uB hC ?_ ?_;exact rfl))
  refine S.next (i+1) (by omega) (by omega) (by simp only [hM2];exact (by (repeat first|refine uA ?_|(refine ⟨?_,?_⟩;focus first|rfl|simp [slot])|rfl|simp|exact c7l hν0 (by simp))))
 have hi':i=arms.length:=by omega
 subst hi'
 have hme:=mid_end (l:=L) (m:=sarms) (by omega)
 rw [hsl] at hme
 rw [hme]
 (repeat first|refine uI ?_|(refine uK ?_ ?_;focus first|omega|(intros;simp_all<;>omega))|simp (disch:=omega) only [go_sem,Nat.reduceBEq,Nat.reduceAdd,ww])
 refine S.y9 [.gone,.gone,.gone,.gone,.gone,.gone,.gone,.gone,.gone,.gone,.gone,.gone,.gone,.box 37 [.v (.int .i64 0),.rv 8,.rv 9,.v (.slice none 0 0),.rv 10]] (by simp [Eng.H8,Eng.X0]) ?_
 (repeat first|refine uA ?_|(refine uK ?_ ?_;focus first|omega|(intros;simp_all<;>omega))|simp (disch:=omega) only [go_sem,Nat.reduceBEq,Nat.reduceAdd])
 (refine S.done ?_;simp only [p9,r9,go_sem,Nat.reduceBEq,Nat.reduceAdd,Nat.reduceLeDiff];(repeat (refine ⟨?_,?_⟩;focus first|trivial|omega|simp));exact j3.K9 (Imp.tup (by (repeat' (first|exact j4.nil|exact Imp.refl rfl|exact Imp.frz rfl rfl rfl|exact Imp.F8|refine Imp.agg ?_|refine j4.cons ?_ ?_)))) (by (repeat first|refine uA ?_|(refine ⟨?_,?_⟩;focus first|rfl|simp [slot])|rfl|simp)) (c7l hν0 (by simp)))
set_option maxHeartbeats 4000000
theorem a8j {w:Wk} {to:List Int} {x:Ast} (h:x ∈ Y9 w to):∃ a l,a ∈ w.arms/\x=a6M a l (-1):=by
 obtain ⟨i,hi⟩:=List.getElem?_of_mem h
 have hl:=(c7m.1 hi).1
 rw [a5p] at hl
 have ga:=c7h hl
 rw [a4b ga] at hi
 injection hi with hi
 exact ⟨_,_,c7k ga,hi.symm⟩
theorem c1C {w:Wk} (to:List Int) (hk:a0b w=0) (ha:∀ a ∈ w.arms,J3 a=0) (hs:∀ s ∈ w.slots,okF s.frame=true):U1 w ⟨0,Y9 w to,(E5 w).parts,[],(E5 w).gates⟩=0:=by
 have h:=a6E hk ha hs
 have hl:=a5p w to
 have hfl:(E5 w).arms.length=w.arms.length:=by simp [E5]
 have he:(u7 (V8 w.parts.length) [] (w.arms.zip (E5 w).arms)).1=0:=by
  unfold U1 at h
  split at h
  ·rename_i h1;exact absurd h h1
  split at h
  ·cases h
  split at h
  ·cases h
  split at h
  ·rename_i h1;exact absurd h h1
  ·rename_i h1;exact Classical.not_not.1 h1
 have hm:(E5 w).arms.map (·.holds)=(Y9 w to).map (·.holds):=by
  refine List.ext_getElem? fun i=>?_
  rw [c7r,c7r]
  rcases c7D i w.arms.length with hi|hi
  ·have ga:=c7h hi
   have gf:(E5 w).arms[i]?=some (Q7 w.arms[i]):=by
    show (w.arms.map Q7)[i]?=_
    rw [c7r,ga]
    rfl
   rw [a4b ga,gf]
   rfl
  ·rw [c7J (by omega),c7J (by omega)]
 have he2:=b3s _ w.arms (E5 w).arms (Y9 w to) [] hm (fun z hz=>by
  obtain ⟨i,hi⟩:=List.getElem?_of_mem hz
  rw [List.getElem?_zip_eq_some] at hi
  obtain ⟨i1,i2⟩:=hi
  rw [a4b i1] at i2
  injection i2 with i2
  rw [<- i2]
  exact c2d (ha _ (c7k i1)) ⟨by decide,by omega⟩) he
 have hok:=a2v h
 have hpg:=b6r h
 have e3:=hok.parts
 have e4:=hok.gates
 unfold U1
 rw [hk,if_neg (by decide)]
 simp only [List.length_nil,List.all_nil,Bool.and_true]
 rw [if_neg (by omega),if_neg (by omega),he2,if_neg (by decide),hpg]
 rfl
theorem b1p {w:Wk} (to:List Int) (hwb:Wb 1048576 w) (hk:a0b w=0) (ha:∀ a ∈ w.arms,J3 a=0) (hs:∀ s ∈ w.slots,okF s.frame=true):Calm w ⟨0,Y9 w to,(E5 w).parts,[],(E5 w).gates⟩ 0:=by
 refine ⟨c1C to hk ha hs,rfl,fun x hx=>?_,fun x hx r hr=>?_,fun x hx r hr=>?_,rfl,(b9m hwb hk ha hs).parts⟩
 ·obtain ⟨a,l,_,rfl⟩:=a8j hx
  rfl
 ·obtain ⟨a,l,hm,rfl⟩:=a8j hx
  exact (a5k _ _ ((O7 (ha a hm)).2) r hr).mono (by decide)
 ·obtain ⟨a,l,hm,rfl⟩:=a8j hx
  obtain ⟨_,_,rfl⟩:=List.mem_map.1 (show r ∈ a.links.map (fun _=>Nm.ofQ 0) from hr)
  exact a1b.mono (by decide)
structure Run (a:Am) (q0 u:List Nm.Rt) (j:Nat) (y:Ast):Prop where
 q:y.q.length=a.links.length
 v:y.v.length=a.links.length
 pos:∀ (i:Nat) (l:Lk) (b c q v:Nm.Rt),a.links[i]?=some l->q0[i]?=some b->u[i]?=some c->y.q[i]?=some q->y.v[i]?=some v->c7b b c l.brake j q v
def R7 (z:List (Lk × Nm.Rt)):Int:=z.foldl (fun m z=>max m (I6 (Nm.d9 z.1.brake) (Nm.d9 z.2))) 0
theorem b5B {α:Type} {f:α->Int}:∀ (l:List α) (m:Int),m<=l.foldl (fun m z=>max m (f z)) m/\∀ z ∈ l,f z<=l.foldl (fun m z=>max m (f z)) m
 | [],m=>⟨Int.le_refl _,fun z hz=>by cases hz⟩
 | x::l,m=>by
  obtain ⟨h1,h2⟩:=b5B (f:=f) l (max m (f x))
  rw [List.foldl_cons]
  refine ⟨by omega,fun z hz=>?_⟩
  rcases List.mem_cons.1 hz with rfl|hz
  ·omega
  ·exact h2 z hz
theorem a7r (z:List (Lk × Nm.Rt)):0<=R7 z:=(b5B (f:=fun z:Lk × Nm.Rt=>I6 (Nm.d9 z.1.brake) (Nm.d9 z.2)) z 0).1
def a6i:H6:=⟨106,[.tmp 6,.tmp 7,.tmp 8],.seq (.reg [OA 3 (.box 69 (TT 0)),OA 6 (.mv (.const (.slice none 0 0))),OA 7 (.mv (II 0)),OA 8 (.mv (II 0))]) (.seq (.seq (.reg [LL 18 12 3,OA 19 (.call 41 [TT 18]),MM 9 19]) (.seq (.reg [MM 20
 9,OA 21 (.bin .neq (TT 20) (II 0))]) (.cond (TT 21) (.seq (.reg [MM 22 9,OA 6 (.mv (.const (.slice none 0 0))),OA 7 (.mv (II 0)),MM 8 22]) .ret) .skip))) (.seq (.seq (.reg [MM 23 1,OA 24 (.len false (TT 23)),FF 25 11 3,VV
 26 25,OA 27 (.len false (TT 26)),OA 28 (.bin .neq (TT 24) (TT 27)),MM 29 28,MG 30 2 29 false,OC 31 (.len false (TT 30)) 29 false,FG 32 11 3 29 false,VG 33 32 29 false,OC 34 (.len false (TT 33)) 29 false,OC 35 (.bin .neq
 (TT 31) (TT 34)) 29 false,OA 36 (.pick (TT 29) (.const (.bool true)) (TT 35))]) (.cond (TT 36) (.seq (.reg [OA 6 (.mv (.const (.slice none 0 0))),OA 7 (.mv (II 0)),OA 8 (.mv (II 1))]) .ret) .skip)) (.seq (.reg [OA 10 (.mv
 (.const (.slice none 0 0)))]) (.seq (.seq (.reg [MM 37 1,OA 38 (.len false (TT 37)),OA 39 (.mv (II 0))]) (.block 0 (.loop (.seq (.reg [OA 40 (.bin .lss (TT 39) (TT 38))]) (.seq (.cond (TT 40) .skip (.exit 0)) (.seq (.block 1
 (.seq (.reg [MM 41 39,MM 11 41]) (.y9 [.q,.q,.q,.q,.q,.q,.q,.q,.q,.q,.q,.e none true,.q] [MM 42 10,MM 43 1,MM 44 11,OA 45 (.l7 3 (TT 43) (TT 44)),LL 46 3 45,MM 47 2,MM 48 11,OA 49 (.l7 3 (TT 47) (TT
 48)),LL 50 3 49,OA 51 (.call 38 [TT 46,TT 50]),OA 52 (.bsl 29 3 1 [.bool false,.string ⟨#[]⟩,.string ⟨#[]⟩] [(0,TT 51)]),OA 53 (.app 29 3 40 (TT 42) (TT 52)),MM 10 53]))) (.reg [OA 54 (.bin .add (TT 39) (II 1)),MM 39
 54]))))))) (.seq (.reg [LL 56 12 3,MM 57 10,MM 58 2,OA 59 (.call 42 [TT 56,TT 57,TT 58]),MM 55 59,OA 60 (.ext (TT 55) 0),OA 61 (.ext (TT 55) 1),MM 12 60,MM 13 61]) (.seq (.seq (.reg [MM 62 13,OA 63 (.bin .neq (TT 62)
 (II 0))]) (.cond (TT 63) (.seq (.reg [MM 64 13,OA 6 (.mv (.const (.slice none 0 0))),OA 7 (.mv (II 0)),MM 8 64]) .ret) .skip)) (.seq (.reg [OA 14 (.mv (II 0))]) (.seq (.seq (.reg [MM 65 12,OA 66 (.len false (TT 65)),OA 67
 (.mv (II 0))]) (.block 2 (.loop (.seq (.reg [OA 68 (.bin .lss (TT 67) (TT 66))]) (.seq (.cond (TT 68) .skip (.exit 2)) (.seq (.block 3 (.seq (.reg [MM 69 67,MM 15 69]) (.seq (.y9 [.q,.q,.q,.q,.q,.q,.q,.q,.q,.q,.q,
 .q,.q,.e none true] [MM 70 12,MM 71 15,MM 72 12,MM 73 15,OA 74 (.l7 6 (TT 72) (TT 73)),LL 75 6 74,MM 76 1,MM 77 15,OA 78 (.l7 3 (TT 76) (TT 77)),LL 79 3 78,OA 80 (.call 44 [TT 79]),OA 81 (.call 43 [TT 75,TT
 80]),OA 82 (.l7 6 (TT 70) (TT 71)),OB (.store 6 (TT 82) (TT 81))]) (.seq (.y9 [.q,.q,.q,.q,.q,.q,.q,.q,.q,.q,.q,.q,.q,.q,.q] [FF 84 11 3,VV 85 84,MM 86 15,OA 87 (.l7 16 (TT 85) (TT 86)),LL 88 16 87,
 MM 89 2,MM 90 15,OA 91 (.l7 3 (TT 89) (TT 90)),LL 92 3 91,OA 93 (.call 45 [TT 88,TT 92]),MM 83 93,OA 94 (.ext (TT 83) 0),OA 95 (.ext (TT 83) 1),MM 16 94,MM 17 95]) (.seq (.seq (.reg [MM 96 17,OA 97 (.bin .neq (TT
 96) (II 0))]) (.cond (TT 97) (.seq (.reg [MM 98 17,OA 6 (.mv (.const (.slice none 0 0))),OA 7 (.mv (II 0)),MM 8 98]) .ret) .skip)) (.reg [MM 99 14,MM 100 16,OA 101 (.max (TT 99) (TT 100)),MM 14 101])))))) (.reg [OA 102
 (.bin .add (TT 67) (II 1)),MM 67 102]))))))) (.seq (.reg [MM 103 12,MM 104 14,OA 105 (.bin .add (TT 104) (II 1)),MM 6 103,MM 7 105,OA 8 (.mv (II 0))]) .ret)))))))))⟩
theorem b1T:F3 eff Tryz.prog Tryz.f19=some a6i:=by kernel_rfl
theorem b1v:Tryz.prog.funcs[19]?=some Tryz.f19:=Tryz.func19
set_option maxHeartbeats 8000000
def b4J (l:Lk) (q u:Nm.Rt):Sn:=snQ (loQ q u l.brake) (hiQ q u l.brake)
def a4e (L:List Lk) (q u:List Nm.Rt):List Sn:=(L.zip (q.zip u)).map fun z=>b4J z.1 z.2.1 z.2.2
theorem c0x {L:List Lk} {t v:List Nm.Rt} {i:Nat} {l:Lk} {x y:Nm.Rt} (h1:L[i]?=some l) (h2:t[i]?=some x) (h3:v[i]?=some y):(a4e L t v)[i]?=some (b4J l x y):=by
 unfold a4e
 rw [c7r,O1 h1 (O1 h2 h3)]
 rfl
theorem c1o {L:List Lk} {t v:List Nm.Rt} (h1:t.length=L.length) (h2:v.length=L.length):(a4e L t v).length=L.length:=by
 unfold a4e;simp only [c7i,List.length_zip];omega
def toL (q u:List Nm.Rt):List Nm.Rt:=(q.zip u).map fun z=>a2q z.1 z.2
theorem c5E {q u:List Nm.Rt} {i:Nat} {x y:Nm.Rt} (h2:q[i]?=some x) (h3:u[i]?=some y):(toL q u)[i]?=some (a2q x y):=by
 unfold toL
 rw [c7r,O1 h2 h3]
 rfl
theorem c5Z {q u:List Nm.Rt} (h:u.length=q.length):(toL q u).length=q.length:=by
 unfold toL;simp only [c7i,List.length_zip];omega
theorem b6F {z:List (Lk × Nm.Rt)} {i:Nat} {x:Lk × Nm.Rt} (h:z[i]?=some x):R7 (z.take (i+1))=if R7 (z.take i) < I6 (Nm.d9 x.1.brake) (Nm.d9 x.2) then I6 (Nm.d9 x.1.brake) (Nm.d9 x.2) else R7 (z.take i):=by
 unfold R7
 rw [take_at h,List.foldl_append,List.foldl_cons,List.foldl_nil]
 generalize List.foldl _ _ _=m
 generalize I6 _ _=k
 split<;>omega
theorem c3w (p q:Rat):G9 p q<=K6 p q:=by
 have h1:=(b7A p q).1
 have h2:=(b7w p q).1
 grind
theorem b1X {k:Nat} {p q:Rat} (hp:Rb k (Nm.ofQ p)) (hq:Rb k (Nm.ofQ q)):Rb k (Nm.ofQ (G9 p q)):=by unfold G9;split;exact hp;exact hq
theorem b2k {k:Nat} {p q:Rat} (hp:Rb k (Nm.ofQ p)) (hq:Rb k (Nm.ofQ q)):Rb k (Nm.ofQ (K6 p q)):=by unfold K6;split;exact hp;exact hq
theorem b7m (a:Am) (q u:List Nm.Rt) (hl:Ab 1073741824 a) (ha:J3 a=0) (hq:q.length=a.links.length) (hv:u.length=a.links.length) (hqb:∀ r ∈ q,Rb 1024 r) (hf:∀ (i:Nat) (l:Lk) (x:Nm.Rt),a.links[i]?=some l->u[i]?=some x->Few l x) :
  FZ 19 [a.c,rts q,rts u] (.tup [.sl 6 ((a4e a.links q u).map Sn.enc),ints (R7 (a.links.zip u)+1),ints 0]):=by
 refine kW b1v b1T (by rfl) fun w O hw=>?_
 have hck:=b0X a hl
 rw [ha] at hck
 have hn:=hl.2.2.1
 have htl:=c5Z (q:=q) (u:=u) (by omega)
 have htg:=@c5E q u
 have hsp:=fun (E:Ctx) (hP:E.P=Tryz.prog) (ht:Tz E)=>c4A hP ht a (toL q u) u hl ha (by omega) hv (fun r hr=>by
  obtain ⟨x,hx,y,hy,rfl⟩:=c7a hr
  obtain ⟨i,hi⟩:=List.getElem?_of_mem hy
  have hil:=(c7m.1 hi).1
  exact (U4 ((hqb x hx).fit (by decide)) ((hf i _ y (c7h (show i < a.links.length by omega)) hi).hv.fit (by decide))).mono (by decide)) hf
 have hsl:=b2T (L:=a.links) (t:=toL q u) (v:=u) (by omega) hv
 have hsg:=@b2A a.links (toL q u) u
 have hrl:=c1o (L:=a.links) hq hv
 have hrg:=@c0x a.links q u
 have htk:=@b6F (a.links.zip u)
 have hzl:(a.links.zip u).length=a.links.length:=by rw [List.length_zip];omega
 have hT8:∀ i,0<=R7 ((a.links.zip u).take i)/\R7 ((a.links.zip u).take i)<=8:=fun i=>by
  refine ⟨a7r _,?_⟩
  have key:∀ (z:List (Lk × Nm.Rt)) (m:Int),m<=8->(∀ x ∈ z,I6 (Nm.d9 x.1.brake) (Nm.d9 x.2)<=8)->z.foldl (fun m z=>max m (I6 (Nm.d9 z.1.brake) (Nm.d9 z.2))) m<=8:=by
   intro z
   induction z with
   | nil=>intro m hm _;exact hm
   | cons x z ih=>
    intro m hm hx
    rw [List.foldl_cons]
    have:=hx x (by simp)
    exact ih _ (by omega) fun y hy=>hx y (by simp [hy])
  refine key _ 0 (by decide) fun x hx=>?_
  obtain ⟨j,hj⟩:=List.getElem?_of_mem (List.mem_of_mem_take hx)
  rw [List.getElem?_zip_eq_some] at hj
  exact (hf j _ _ hj.1 hj.2).few
 have hzg:=fun (i:Nat) (l:Lk) (x:Nm.Rt) (h1:a.links[i]?=some l) (h2:u[i]?=some x)=>O1 h1 h2
 have ht0:R7 ((a.links.zip u).take 0)=0:=rfl
 have hte:(a.links.zip u).take a.links.length=a.links.zip u:=c7C (by omega)
 generalize a4N a.links (toL q u) u=SL at *
 generalize toL q u=T at *
 generalize a4e a.links q u=RL at *
 generalize a.links.zip u=Z at *
 obtain ⟨name,⟨bx,by',half,tu⟩,links⟩:=a
 simp only at hq hv hn hf hsl hsg hrl hrg hzl hte hzg hsp ⊢
 simp only [a6i,j5,TT,II,OA,OB,OC,MM,LL,VV,FF,MG,VG,FG]
 simp only [Am.c,Am.enc,lks,rts,sb,ints] at hck hsp ⊢
 (repeat first|refine uA ?_|(apply uK;focus omega)|simp (disch:=omega) only [go_sem,Nat.reduceBEq]|(apply uD hck;exact tz hw;rfl))
 refine S.cond rfl (fun hc=>by simp at hc) (fun hc=>?_)
 (repeat first|refine uA ?_|(apply uK;focus first|omega|(intros;simp_all<;>omega))|simp (disch:=omega) only [go_sem,Nat.reduceBEq,Nat.reduceAdd,c7i])
 refine S.cond rfl (fun hc=>by simp [hq,hv] at hc) (fun hc=>?_)
 (repeat first|refine uA ?_|(apply uK;focus omega)|simp (disch:=omega) only [go_sem,Nat.reduceBEq,c7i])
 refine S.loop (X:=Nat) (fun i=>⟨[(1,rts q),(2,rts u),(3,.bp 0 0),(10,.rv 1),(38,ints q.length),(39,ints i)],[.box 69 [sb name,.v (.bool bx.neg),sb bx.num,sb bx.den,.v (.bool by'.neg),sb by'.num,sb by'.den,.v (.bool half),.v (.bool tu.neg),sb tu.num,sb tu.den,lks links],.row 29 3 ((T.take i).map rcs)]⟩) (fun i=>i<=q.length) (fun i=>q.length-i) 0 (c7n _)
  (Ent.trans (Ent.pack 10 29 3 rfl) (by (repeat first|refine uA ?_|(refine ⟨?_,?_⟩;focus first|rfl|simp [slot])|rfl|simp))) ?_
 intro i hi
 simp only [lks,rts,sb,ints]
 (repeat first|refine uA ?_|(apply uK;focus omega)|simp (disch:=omega) only [go_sem,Nat.reduceBEq])
 (refine uJ rfl (fun hc=>?_) fun hc=>?_)
 ·have hi':i < q.length:=by omega
  have hgl:=c7h (show i < links.length by omega)
  have hgq:=c7h hi'
  have hgu:=c7h (show i < u.length by omega)
  generalize q[i]'_=x at *
  generalize u[i]'_=y at *
  have hap:=take_at (htg hgq hgu)
  have htl:(T.take i).length=i:=by rw [c7s];omega
  have o1:=a7T x y ((hqb x (c7k hgq)).mono (by decide)) ((hf i _ y hgl hgu).hv.mono (by decide))
  unfold a2q at hap
  unfold rq at o1
  generalize Nm.ofQ (Nm.d9 x+Nm.d9 y)=z at *
  clear hsg hf hqb hrg htg htk hsp hgl hzg
  simp only [rc,sb] at o1
  (repeat first|refine uA ?_|(apply uK;focus first|omega|(intros;simp_all<;>omega))|simp (disch:=omega) only [go_sem,Nat.reduceBEq,Nat.reduceAdd,ww,hgq,hgu,c7j,c7i,htl,rcs,sb,c7o]|(apply uD o1;exact tz hw;rfl))
  refine S.next (i+1) (by omega) (by omega) (by simp only [hap,c7X,c7w,c7I,rcs,sb];exact (by (repeat first|refine uA ?_|(refine ⟨?_,?_⟩;focus first|rfl|simp [slot])|rfl|simp)))
 have hi':i=q.length:=by omega
 subst hi'
 rw [c7C (by omega)]
 refine S.exit rfl ?_
 refine S.weaken (st':=⟨[(1,rts q),(2,rts u),(3,.bp 0 0),(10,.sl 3 (T.map rcs))],[.box 69 [sb name,.v (.bool bx.neg),sb bx.num,sb bx.den,.v (.bool by'.neg),sb by'.num,sb by'.den,.v (.bool half),.v (.bool tu.neg),sb tu.num,sb tu.den,lks links]]⟩) (Ent.mk _ _ (by (repeat' (first|exact O0.nil|exact Imp.junk|exact Imp.refl rfl|exact Imp.frz rfl rfl rfl|exact Imp.eq (by simp [slot];done) rfl|refine O0.cons ?_ ?_))) (by (repeat' (first|exact D8.nil|exact RI.gone _|exact RI.row _ _ _ _ rfl|exact RI.map _ _ _ rfl|exact RI.box _ _ _ (j4.refl rfl)|(refine RI.box _ _ _ ?_;(repeat' (first|exact j4.nil|exact Imp.refl rfl|exact Imp.frz rfl rfl rfl|exact Imp.F8|refine j4.cons ?_ ?_)))|refine D8.cons ?_ ?_))) (c7n _)) ?_
 simp only [lks,rts,sb]
 (repeat first|refine uA ?_|(apply uK;focus omega)|simp (disch:=omega) only [go_sem,Nat.reduceBEq,C.sh,C.shL,c7A,List.length_nil]|refine l9.t (j6.pre (hsp _ rfl (tz hw)) rfl rfl rfl) ?_)
 refine S.cond rfl (fun hc=>by simp at hc) (fun hc=>?_)
 (repeat first|refine uA ?_|(apply uK;focus omega)|simp (disch:=omega) only [go_sem,Nat.reduceBEq,c7i])
 refine S.loop (X:=Nat) (fun i=>⟨[(1,rts q),(2,rts u),(3,.bp 0 0),(12,.rv 2),(14,ints (R7 (Z.take i))),(66,ints SL.length),(67,ints i)],[.box 69 [sb name,.v (.bool bx.neg),sb bx.num,sb bx.den,.v (.bool by'.neg),sb by'.num,sb by'.den,.v (.bool half),.v (.bool tu.neg),sb tu.num,sb tu.den,lks links],.gone,.row 108 6 ((RL.take i++SL.drop i).map Sn.enc)]⟩) (fun i=>i<=SL.length) (fun i=>SL.length-i) 0 (c7n _) (by rw [ht0];exact (by (repeat first|refine uA ?_|(refine ⟨?_,?_⟩;focus first|rfl|simp [slot])|rfl|simp))) ?_
 intro i hi
 simp only [lks,rts,sb,ints]
 have hti:=hT8 i
 (repeat first|refine uA ?_|(apply uK;focus omega)|simp (disch:=omega) only [go_sem,Nat.reduceBEq])
 (refine uJ rfl (fun hc=>?_) fun hc=>?_)
 ·have hi':i < SL.length:=by omega
  have hgl:=c7h (show i < links.length by omega)
  have hgq:=c7h (show i < q.length by omega)
  have hgu:=c7h (show i < u.length by omega)
  generalize links[i]'_=l at *
  generalize q[i]'_=x at *
  generalize u[i]'_=y at *
  have hgs:=hsg hgl (htg hgq hgu) hgu
  have hgr:=hrg hgl hgq hgu
  have hF:=hf i l y hgl hgu
  have hsn:=htk (hzg i l y hgl hgu)
  have r1:=(hqb x (c7k hgq)).fit (by decide)
  have r2:=hF.hv.fit (by decide)
  have r3:=U4 r1 r2
  have r4:=U4 r3 (b4r hF)
  have e1:Nm.d9 (a2q x y)=Nm.d9 x+Nm.d9 y:=by unfold a2q;rw [Nm.q8]
  have e2:b8d x y l.brake=Nm.d9 x+Nm.d9 y+a0w l y:=rfl
  unfold b3N at hgs
  unfold b4J loQ hiQ at hgr
  rw [e1] at hgs
  rw [e2] at hgr
  have o1:FZ 44 [rc x] (snQ (Nm.d9 x) (Nm.d9 x)).c:=a0J x ((hqb x (c7k hgq)).mono (by decide))
  have o2:=b9R (G9 (Nm.d9 x+Nm.d9 y) (Nm.d9 x+Nm.d9 y+a0w l y)) (K6 (Nm.d9 x+Nm.d9 y) (Nm.d9 x+Nm.d9 y+a0w l y)) (Nm.d9 x) (Nm.d9 x) (c3w _ _) Rat.le_refl ((b1X (r3.mono (by decide)) r4).mono (by decide)) ((b2k (r3.mono (by decide)) r4).mono (by decide)) (r1.mono (by decide)) (r1.mono (by decide))
  have o3:=b7o l y hF
  have m1:=b4m (l:=RL) (m:=SL) (by omega) hgs
  have s1:=c4e Sn.enc (by omega) hgr (m:=SL)
  have hml:=b7j (l:=RL) (m:=SL) (i:=i) (by omega) (by omega)
  have hb8:=hF.few
  have hb0:=(a6Q (V:=Nm.d9 y) (b0I hF.pos)).1
  simp only at hsn
  clear r1 r2 r3 r4 e1 e2 hgs hgr hF hsg hf hqb hrg htg htk hsp hzg
  generalize I6 (Nm.d9 l.brake) (Nm.d9 y)=tk at *
  unfold snQ at *
  generalize Nm.ofQ (G9 (G9 (Nm.d9 x+Nm.d9 y) (Nm.d9 x+Nm.d9 y+a0w l y)) (Nm.d9 x))=n1 at *
  generalize Nm.ofQ (K6 (K6 (Nm.d9 x+Nm.d9 y) (Nm.d9 x+Nm.d9 y+a0w l y)) (Nm.d9 x))=n2 at *
  generalize Nm.ofQ (G9 (Nm.d9 x+Nm.d9 y) (Nm.d9 x+Nm.d9 y+a0w l y))=n3 at *
  generalize Nm.ofQ (K6 (Nm.d9 x+Nm.d9 y) (Nm.d9 x+Nm.d9 y+a0w l y))=n4 at *
  generalize Nm.ofQ (Nm.d9 x)=n5 at *
  generalize R7 (Z.take i)=t0 at *
  generalize hM1:RL.take (i+1)++SL.drop (i+1)=M1 at *
  generalize RL.take i++SL.drop i=M0 at *
  simp only [Lk.c,Lk.enc,Sn.c,Sn.enc,vts,rc,sb,ints] at o1 o2 o3 s1
  (repeat first|refine uA ?_|(apply uK;focus omega)|simp (disch:=omega) only [go_sem,Nat.reduceBEq,hgl,hgq,hgu,m1,s1,hml,c7j,c7i,Lk.enc,Sn.enc,rcs,vts,sb,c7o]|(apply uD o1;exact tz hw;rfl)|(apply uD o2;exact tz hw;rfl)|(apply uD o3;exact tz hw;rfl))
  refine S.cond rfl (fun hc=>by simp at hc) (fun hc=>?_)
  (repeat first|refine uA ?_|(apply uK;focus omega)|simp (disch:=omega) only [go_sem,Nat.reduceBEq,ww])
  refine S.next (i+1) (by omega) (by omega) (by simp only [hM1,hsn];exact (by (repeat first|refine uA ?_|(refine ⟨?_,?_⟩;focus first|rfl|simp [slot])|rfl|simp)))
 ·have hi':i=SL.length:=by omega
  subst hi'
  rw [hsl,hte] at hti
  rw [hsl,hte,<- hrl,c7y,List.drop_eq_nil_of_le (by omega),List.append_nil]
  generalize R7 Z=tz at *
  (repeat first|refine uA ?_|(apply uK;focus omega)|simp (disch:=omega) only [go_sem,Nat.reduceBEq,ww])
  (refine S.done ?_;simp only [p9,go_sem,Nat.reduceBEq];exact j3.out rfl (Imp.tup (by (repeat' (first|exact j4.nil|exact Imp.refl rfl|exact Imp.frz rfl rfl rfl|exact Imp.F8|refine Imp.agg ?_|refine j4.cons ?_ ?_)))) rfl)
def a6p:H6:=⟨119,[.tmp 8,.tmp 9],.seq (.reg [OA 4 (.box 31 (TT 0)),OA 8 (.mv (.const (.slice none 0 0))),OA 9 (.mv (II 0))]) (.seq (.seq (.reg [MM 18 1,OA 19 (.bin .lss (TT 18) (II 0)),MM 20 19,MG 21 1 20 false,FG 22 0 4 20 false,VG
 23 22 20 false,OC 24 (.len false (TT 23)) 20 false,OC 25 (.bin .geq (TT 21) (TT 24)) 20 false,OA 26 (.pick (TT 20) (.const (.bool true)) (TT 25)),MM 27 26,MG 28 2 27 false,OC 29 (.bin .lss (TT 28) (II (-1))) 27 false,OA
 30 (.pick (TT 27) (.const (.bool true)) (TT 29)),MM 31 30,MG 32 2 31 false,FG 33 2 4 31 false,VG 34 33 31 false,OC 35 (.len false (TT 34)) 31 false,OC 36 (.bin .geq (TT 32) (TT 35)) 31 false,OA 37 (.pick (TT 31) (.const
 (.bool true)) (TT 36))]) (.cond (TT 37) (.seq (.reg [OA 8 (.mv (.const (.slice none 0 0))),OA 9 (.mv (II 1))]) .ret) .skip)) (.seq (.reg [FF 39 0 4,VV 40 39,MM 41 1,OA 42 (.l7 12 (TT 40) (TT 41)),LL 43 12 42,MM 44 3,OA
 45 (.call 46 [TT 43,TT 44]),MM 38 45,OA 46 (.ext (TT 38) 0),OA 47 (.ext (TT 38) 1),MM 10 46,MM 11 47]) (.seq (.seq (.reg [MM 48 11,OA 49 (.bin .neq (TT 48) (II 0)),MM 50 49,MG 51 2 50 false,OC 52 (.bin .lss (TT 51) (II
 0)) 50 false,OA 53 (.pick (TT 50) (.const (.bool true)) (TT 52))]) (.cond (TT 53) (.seq (.reg [MM 54 10,MM 55 11,MM 8 54,MM 9 55]) .ret) .skip)) (.seq (.reg [FF 57 0 4,VV 58 57,MM 59 1,OA 60 (.l7 12 (TT 58) (TT 59)),
 LL 61 12 60,MM 62 3,OA 63 (.call 47 [TT 61,TT 62]),MM 56 63,OA 64 (.ext (TT 56) 0),OA 65 (.ext (TT 56) 1),MM 12 64,MM 11 65]) (.seq (.seq (.reg [MM 66 11,OA 67 (.bin .neq (TT 66) (II 0)),MM 68 67,MG 69 12 68 false,OC
 70 (.len false (TT 69)) 68 false,OC 71 (.bin .eql (TT 70) (II 0)) 68 false,OA 72 (.pick (TT 68) (.const (.bool true)) (TT 71))]) (.cond (TT 72) (.seq (.reg [MM 73 11,OA 8 (.mv (.const (.slice none 0 0))),MM 9 73]) .ret)
 .skip)) (.seq (.reg [FF 74 2 4,VV 75 74,MM 76 2,OA 77 (.l7 12 (TT 75) (TT 76)),LL 78 12 77,OA 13 (.alloc 115 [.string ⟨#[]⟩,.slice none 0 0,.bool false,.string ⟨#[]⟩,.string ⟨#[]⟩,.bool false,.string ⟨#[]⟩,.string
 ⟨#[]⟩,.bool false,.bool false,.string ⟨#[]⟩,.string ⟨#[]⟩]),OB (.store 12 (TT 13) (TT 78))]) (.seq (.reg [OA 79 (.call 48 [II 0]),OA 14 (.alloc 29 [.bool false,.string ⟨#[]⟩,.string ⟨#[]⟩]),OB (.store 3 (TT 14) (TT
 79))]) (.seq (.seq (.reg [FF 80 1 13,VV 81 80,OA 82 (.len false (TT 81)),OA 83 (.mv (II 0))]) (.block 0 (.loop (.seq (.reg [OA 84 (.bin .lss (TT 83) (TT 82))]) (.seq (.cond (TT 84) .skip (.exit 0)) (.seq (.block 1 (.seq (.reg
 [OA 85 (.l7 6 (TT 81) (TT 83)),LL 86 6 85,OA 16 (.alloc 59 [.bool false,.string ⟨#[]⟩,.string ⟨#[]⟩,.bool false,.string ⟨#[]⟩,.string ⟨#[]⟩]),OB (.store 6 (TT 16) (TT 86))]) (.seq (.y9 [.q,.q,.q,.q,.q,.q,.q,
 .q,.q,.q,.q,.q,.q,.q,.q,.q,.q,.a,.e (some 17) true] [FF 87 0 16,LL 88 3 87,FF 89 2 13,FF 90 0 89,FF 91 0 90,LL 92 3 91,OA 93 (.call 15 [TT 88,TT 92]),OA 94 (.call 49 [TT 93]),FF 95 3 16,LL 96 3 95,FF 97 2
 13,FF 98 0 97,FF 99 3 98,LL 100 3 99,OA 101 (.call 15 [TT 96,TT 100]),OA 102 (.call 49 [TT 101]),OA 103 (.call 38 [TT 94,TT 102]),OA 17 (.alloc 29 [.bool false,.string ⟨#[]⟩,.string ⟨#[]⟩]),OB (.store 3 (TT 17) (TT
 103))]) (.reg [LL 104 3 14,LL 105 3 17,OA 106 (.call 16 [TT 104,TT 105]),OB (.store 3 (TT 14) (TT 106))])))) (.reg [OA 107 (.bin .add (TT 83) (II 1)),MM 83 107]))))))) (.seq (.y9 [.q,.q,.q,.q,.q,.q,.q,.q,.q,.q,
 .e none true,.q,.q] [MM 108 10,MM 109 12,MM 110 12,OA 111 (.len false (TT 110)),OA 112 (.bin .sub (TT 111) (II 1)),OA 113 (.l7 12 (TT 109) (TT 112)),LL 114 12 113,LL 115 3 14,OA 116 (.call 50 [TT 114,TT 115]),OA
 117 (.bsl 82 12 1 [.bool false,.string ⟨#[]⟩,.string ⟨#[]⟩,.bool false,.string ⟨#[]⟩,.string ⟨#[]⟩,.bool false,.string ⟨#[]⟩,.string ⟨#[]⟩,.bool false,.string ⟨#[]⟩,.string ⟨#[]⟩] [(0,TT 116)]),OA 118 (.app 82 12
 160 (TT 108) (TT 117)),MM 8 118,OA 9 (.mv (II 0))]) .ret)))))))))⟩
theorem b1A:F3 eff Tryz.prog Tryz.f20=some a6p:=by kernel_rfl
theorem b1Q:Tryz.prog.funcs[20]?=some Tryz.f20:=Tryz.func20
def J8 (L:List Lk) (q u:List Nm.Rt):List Sp:=(L.zip (q.zip u)).map fun z=>⟨loQ z.2.1 z.2.2 z.1.brake,hiQ z.2.1 z.2.2 z.1.brake⟩
theorem b3l (L:List Lk) (q u:List Nm.Rt):(a4e L q u).map Sn.enc=(J8 L q u).map Sp.enc:=by
 unfold a4e J8
 rw [List.map_map,List.map_map]
 rfl
theorem b1m {L:List Lk} {t v:List Nm.Rt} (h1:t.length=L.length) (h2:v.length=L.length):(J8 L t v).length=L.length:=by
 unfold J8;simp only [c7i,List.length_zip];omega
theorem b4U {L:List Lk} {q u:List Nm.Rt} (hq:∀ r ∈ q,Rb 1024 r) (hf:∀ (i:Nat) (l:Lk) (x:Nm.Rt),L[i]?=some l->u[i]?=some x->Few l x):∀ s ∈ J8 L q u,Zb 16384 s:=fun s hs=>by
 obtain ⟨i,hi⟩:=List.mem_iff_getElem?.1 hs
 unfold J8 at hi
 rw [c7r] at hi
 cases hz:(L.zip (q.zip u))[i]? with
 | none=>rw [hz] at hi;cases hi
 | some z=>
  rw [hz] at hi
  injection hi with hi
  subst hi
  obtain ⟨l,x,y⟩:=z
  rw [List.getElem?_zip_eq_some] at hz
  obtain ⟨h1,h2⟩:=hz
  rw [List.getElem?_zip_eq_some] at h2
  have hF:=hf i l y h1 h2.2
  have r0:=hq x (c7k h2.1)
  have r1:=r0.fit (by decide)
  have r2:=hF.hv.fit (by decide)
  have r3:=U4 r1 r2
  have r4:=U4 r3 (b4r hF)
  change Zb 16384 ⟨loQ x y l.brake,hiQ x y l.brake⟩
  unfold loQ hiQ
  rw [show b8d x y l.brake=Nm.d9 x+Nm.d9 y+a0w l y from rfl]
  exact ⟨b1X (b1X (r3.mono (by decide)) (r4.mono (by decide))) (r1.mono (by decide)),b2k (b2k (r3.mono (by decide)) (r4.mono (by decide))) (r1.mono (by decide))⟩
def Z5 (a:Am) (q:List Sp):List Bq:=a2D (X4 (a2Q a.base) (a.links.zip q)) a.links
theorem b5M {a:Am} {q:List Sp} (h:q.length=a.links.length):(Z5 a q).length=a.links.length:=by
 unfold Z5 a2D
 rw [c7i,List.length_zip,a6Y,List.length_zip]
 omega
theorem c0u {a:Am} {q:List Sp} (ha:J3 a=0) (hql:q.length=a.links.length) (hq:∀ r ∈ q,Zb 16384 r):∀ b ∈ Z5 a q,Bb 173015040 b:=fun b hb=>by
 have hT:=a9M (a.links.zip q) 0 (a2Q a.base) (by rw [List.length_zip];have:=(Z4 ha).2;omega) (b7J ha) (fun z hz=>⟨(b0h ha).2 _ (List.of_mem_zip hz).1,hq _ (List.of_mem_zip hz).2⟩)
 obtain ⟨z,hz,rfl⟩:=List.mem_map.1 hb
 have hl:=(List.of_mem_zip hz).1
 have hf:=hT _ (List.of_mem_zip hz).2
 obtain ⟨s1,s2,s3⟩:=b1s ((O7 ha).2 _ hl)
 unfold shB
 split
 ·rename_i he
  rw [he] at s1
  simp at s1
 ·rename_i v r he
  have hp:=b8x hf r (atX z.2 v,atY z.2 v) (b8v hf (s3 v (by rw [he];simp)).1 (s3 v (by rw [he];simp)).2) (fun u hu=>s3 u (by rw [he];exact List.mem_cons_of_mem v hu))
  exact ⟨hp.1.1,hp.2.1,hp.1.2,hp.2.2⟩
theorem b5Y (w:Wk) (n:Nat) (a:Am) (q:List Sp) (hw1:w.arms.length<=1000) (hw2:w.parts.length<=1000) (ga:w.arms[n]?=some a) (hl:Ab 1073741824 a) (ha:J3 a=0) (hql:q.length=a.links.length) (hq:∀ r ∈ q,Zb 16384 r) :
  FZ 20 [w.c,ints n,ints (-1),.sl 6 (q.map Sp.enc)] (.tup [.sl 12 ((Z5 a q).map Bq.enc),ints 0]):=by
 refine kW b1Q b1A (by rfl) fun w' O hw=>?_
 have h:=fun (E:Ctx) (hP:E.P=Tryz.prog) (ht:Tz E)=>b9V hP ht a q hl ha hql hq
 have hn:=(c7m.1 ga).1
 change ∀ E:Ctx,E.P=Tryz.prog->Tz E->j6 E [] 46 [a.c,.sl 6 (q.map Sp.enc)] (.tup [.rv 1,ints 0]) [.gone,.row 82 12 ((Z5 a q).map Bq.enc)] [] at h
 generalize Z5 a q=R at *
 obtain ⟨arms,walls,parts,slots,gates,walk⟩:=w
 obtain ⟨name,⟨bx,by',half,tu⟩,links⟩:=a
 simp only at ga hn hw1 hw2
 have e1:decide ((n:Int) < 0)=false:=decide_eq_false (by omega)
 have e2:decide ((arms.length:Int)<=(n:Int))=false:=decide_eq_false (by omega)
 have e3:decide ((parts.length:Int)<=-1)=false:=decide_eq_false (by omega)
 simp only [a6p,j5,TT,II,OA,OB,OC,MM,LL,VV,FF,MG,VG,FG]
 simp only [Wk.c,Wk.enc,Am.c,Am.enc,ams,wls,pts,sls,gts,lks,sb,ints] at h ⊢
 (repeat first|refine uA ?_|(apply uK;focus first|omega|(intros;simp_all<;>omega))|simp (disch:=omega) only [go_sem,Nat.reduceBEq,Nat.reduceAdd,c7i,e1,e2,e3])
 refine S.cond rfl (fun hc=>by simp at hc) (fun hc=>?_)
 (repeat first|refine uA ?_|(apply uK;focus first|omega|(intros;simp_all<;>omega))|simp (disch:=omega) only [go_sem,Nat.reduceBEq,Nat.reduceAdd,C.sh,C.shL,c7A,List.length_nil,c7i,c7r,ga,c7j,c7o,Am.enc,lks,sb]|refine l9.t (j6.pre (h _ rfl ⟨hw,id⟩) rfl rfl rfl) ?_)
 refine S.cond rfl (fun hc=>?_) (fun hc=>by simp at hc)
 (repeat first|refine uA ?_|(apply uK;focus omega)|simp (disch:=omega) only [go_sem,Nat.reduceBEq])
 (refine S.done ?_;simp only [p9,go_sem,Nat.reduceBEq];exact j3.out rfl (Imp.tup (by (repeat' (first|exact j4.nil|exact Imp.refl rfl|exact Imp.frz rfl rfl rfl|exact Imp.F8|refine Imp.agg ?_|refine j4.cons ?_ ?_)))) rfl)
def a8f:H6:=⟨99,[.tmp 8,.tmp 9],.seq (.reg [OA 4 (.box 31 (TT 0)),OA 6 (.box 49 (TT 2)),OA 8 (.mv (.const (.slice none 0 0))),OA 9 (.mv (II 0))]) (.seq (.seq (.y9 [.q,.q,.q,.q,.q,.q,.q,.q,.q,.q,.q,.q,.q,.q,.q,.q,.q,
 .q,.q,.q,.q,.q,.q,.q,.q,.q,.q,.q,.q,.q] [MM 19 1,OA 20 (.bin .lss (TT 19) (II 0)),MM 21 20,MG 22 1 21 false,FG 23 0 4 21 false,VG 24 23 21 false,OC 25 (.len false (TT 24)) 21 false,OC 26 (.bin .geq (TT 22) (TT
 25)) 21 false,OA 27 (.pick (TT 21) (.const (.bool true)) (TT 26)),MM 28 27,FG 29 0 6 28 false,VG 30 29 28 false,OC 31 (.len false (TT 30)) 28 false,FG 32 0 4 28 false,VG 33 32 28 false,MG 34 1 28 false,OC 35 (.l7 12
 (TT 33) (TT 34)) 28 false,FG 36 11 35 28 false,VG 37 36 28 false,OC 38 (.len false (TT 37)) 28 false,OC 39 (.bin .neq (TT 31) (TT 38)) 28 false,OA 40 (.pick (TT 28) (.const (.bool true)) (TT 39)),MM 41 40,MG 42 3 41
 false,OC 43 (.len false (TT 42)) 41 false,FG 44 0 6 41 false,VG 45 44 41 false,OC 46 (.len false (TT 45)) 41 false,OC 47 (.bin .neq (TT 43) (TT 46)) 41 false,OA 48 (.pick (TT 41) (.const (.bool true)) (TT 47))]) (.cond (TT
 48) (.seq (.reg [OA 8 (.mv (.const (.slice none 0 0))),OA 9 (.mv (II 1))]) .ret) .skip)) (.seq (.y9 [.q,.q,.q,.q,.q,.q,.q,.q,.q,.q,.q,.q,.q,.q,.q,.q] [FF 50 0 4,VV 51 50,MM 52 1,OA 53 (.l7 12 (TT 51) (TT
 52)),LL 54 12 53,FF 55 0 6,VV 56 55,MM 57 3,OA 58 (.call 19 [TT 54,TT 56,TT 57]),MM 49 58,OA 59 (.ext (TT 49) 0),OA 60 (.ext (TT 49) 1),OA 61 (.ext (TT 49) 2),MM 10 59,MM 11 60,MM 12 61]) (.seq (.seq (.reg [MM 62
 12,OA 63 (.bin .neq (TT 62) (II 0))]) (.cond (TT 63) (.seq (.reg [MM 64 12,OA 8 (.mv (.const (.slice none 0 0))),MM 9 64]) .ret) .skip)) (.seq (.reg [LL 66 8 4,MM 67 1,FF 68 3 6,VV 69 68,MM 70 10,OA 71 (.call 20 [TT 66,
 TT 67,TT 69,TT 70]),MM 65 71,OA 72 (.ext (TT 65) 0),OA 73 (.ext (TT 65) 1),MM 13 72,MM 12 73]) (.seq (.seq (.reg [MM 74 12,OA 75 (.bin .neq (TT 74) (II 0))]) (.cond (TT 75) (.seq (.reg [MM 76 12,OA 8 (.mv (.const
 (.slice none 0 0))),MM 9 76]) .ret) .skip)) (.seq (.reg [OA 14 (.mv (.const (.slice none 0 0)))]) (.seq (.seq (.reg [MM 77 13,OA 78 (.len false (TT 77)),OA 79 (.mv (II 0))]) (.block 0 (.loop (.seq (.reg [OA 80 (.bin .lss (TT
 79) (TT 78))]) (.seq (.cond (TT 80) .skip (.exit 0)) (.seq (.block 1 (.seq (.reg [OA 81 (.l7 12 (TT 77) (TT 79)),LL 82 12 81,OA 16 (.alloc 82 [.bool false,.string ⟨#[]⟩,.string ⟨#[]⟩,.bool false,.string ⟨#[]⟩,.string
 ⟨#[]⟩,.bool false,.string ⟨#[]⟩,.string ⟨#[]⟩,.bool false,.string ⟨#[]⟩,.string ⟨#[]⟩]),OB (.store 12 (TT 16) (TT 82))]) (.seq (.reg [LL 84 12 16,OA 85 (.call 21 [TT 84]),MM 83 85,OA 86 (.ext (TT 83) 0),OA 87 (.ext
 (TT 83) 1),MM 17 86,MM 18 87]) (.seq (.seq (.reg [MM 88 18,OA 89 (.bin .neq (TT 88) (II 0))]) (.cond (TT 89) (.seq (.reg [MM 90 18,OA 8 (.mv (.const (.slice none 0 0))),MM 9 90]) .ret) .skip)) (.reg [MM 91 14,MM 92 17,OA
 93 (.call 22 [TT 91,TT 92]),MM 14 93]))))) (.reg [OA 94 (.bin .add (TT 79) (II 1)),MM 79 94]))))))) (.seq (.seq (.reg [MM 95 14,OA 96 (.len false (TT 95)),OA 97 (.bin .gtr (TT 96) (II 400))]) (.cond (TT 97) (.seq (.reg [OA
 8 (.mv (.const (.slice none 0 0))),OA 9 (.mv (II 2))]) .ret) .skip)) (.seq (.reg [MM 98 14,MM 8 98,OA 9 (.mv (II 0))]) .ret)))))))))⟩
theorem b4l:F3 eff Tryz.prog Tryz.f7=some a8f:=by kernel_rfl
theorem b5b:Tryz.prog.funcs[7]?=some Tryz.f7:=Tryz.func7
def a6w (bs:List Bq):List Cl:=if cellsE bs=0 then G8 bs else []
theorem c3v (w:Wk) (n:Nat) (a:Am) (x:Ast) (u:List Nm.Rt) (hw1:w.arms.length<=1000) (hw2:w.parts.length<=1000) (ga:w.arms[n]?=some a) (hl:Ab 1073741824 a) (ha:J3 a=0) (hh:x.holds=-1)
  (hxl:x.q.length=a.links.length) (hul:u.length=a.links.length) (hqb:∀ r ∈ x.q,Rb 1024 r) (hf:∀ (i:Nat) (l:Lk) (y:Nm.Rt),a.links[i]?=some l->u[i]?=some y->Few l y) :
  FZ 7 [w.c,ints n,x.c,rts u] (.tup [cls (a6w (Z5 a (J8 a.links x.q u))),ints (cellsE (Z5 a (J8 a.links x.q u)))]):=by
 refine kW b5b b4l (by rfl) fun w' O hw=>?_
 have hn:=(c7m.1 ga).1
 have h1:=b7m a x.q u hl ha hxl hul hqb hf
 rw [b3l] at h1
 have hql:=b1m (L:=a.links) hxl hul
 have hqz:=b4U hqb hf
 have h2:=b5Y w n a (J8 a.links x.q u) hw1 hw2 ga hl ha hql hqz
 have hbl:=b5M hql
 have hbb:=c0u ha hql hqz
 have hl3:=(Z4 ha).2
 have hR:a6w (Z5 a (J8 a.links x.q u))=if cellsE (Z5 a (J8 a.links x.q u))=0 then G8 (Z5 a (J8 a.links x.q u)) else []:=rfl
 have hE:cellsE (Z5 a (J8 a.links x.q u))=if a5Z (Z5 a (J8 a.links x.q u))=0 then if 400 < (G8 (Z5 a (J8 a.links x.q u))).length then 2 else 0 else a5Z (Z5 a (J8 a.links x.q u)):=rfl
 rw [hR]
 generalize Z5 a (J8 a.links x.q u)=bs at *
 generalize J8 a.links x.q u=Q at *
 generalize cellsE bs=E at *
 obtain ⟨tk,htk⟩:∃ t,t=R7 (a.links.zip u)+1:=⟨_,rfl⟩
 rw [<- htk] at h1
 clear hqz hql hf hqb hR htk
 obtain ⟨arms,walls,parts,slots,gates,walk⟩:=w
 obtain ⟨q,v,mov,holds⟩:=x
 obtain ⟨name,⟨bx,by',half,tu⟩,links⟩:=a
 simp only at ga hn hw1 hw2 hh hxl hul hl3 hbl h1 h2
 subst hh
 have e1:decide ((n:Int) < 0)=false:=decide_eq_false (by omega)
 have e2:decide ((arms.length:Int)<=(n:Int))=false:=decide_eq_false (by omega)
 simp only [a8f,j5,TT,II,OA,OB,OC,MM,LL,VV,FF,MG,VG,FG]
 simp only [Wk.c,Wk.enc,Am.c,Am.enc,Ast.c,Ast.enc,ams,wls,pts,sls,gts,lks,rts,sb,ints] at h1 h2 ⊢
 (repeat first|refine uA ?_|(refine uK ?_ ?_;focus first|omega|(intros;simp_all<;>omega))|simp (disch:=omega) only [go_sem,Nat.reduceBEq,Nat.reduceAdd,c7i,c7r,ga,c7j,c7o,Am.enc,lks,sb,e1,e2,hxl,hul])
 refine S.cond rfl (fun hc=>by simp at hc) (fun hc=>?_)
 (repeat first|refine uA ?_|(refine uK ?_ ?_;focus first|omega|(intros;simp_all<;>omega))|simp (disch:=omega) only [go_sem,Nat.reduceBEq,Nat.reduceAdd,c7i,c7r,ga,c7j,c7o,Am.enc,lks,sb]|(refine uD h1 ?_ ?_ ?_;exact tz hw;exact rfl))
 refine S.cond rfl (fun hc=>by simp at hc) (fun hc=>?_)
 (repeat first|refine uA ?_|(refine uK ?_ ?_;focus first|omega|(intros;simp_all<;>omega))|simp (disch:=omega) only [go_sem,Nat.reduceBEq,Nat.reduceAdd]|(refine uD h2 ?_ ?_ ?_;exact tz hw;exact rfl))
 refine S.cond rfl (fun hc=>by simp at hc) (fun hc=>?_)
 clear h1 h2
 (repeat first|refine uA ?_|(refine uK ?_ ?_;focus first|omega|(intros;simp_all<;>omega))|simp (disch:=omega) only [go_sem,Nat.reduceBEq,c7i])
 refine S.loop (X:=Nat) (fun i=>⟨[(14,cls (G8 (bs.take i))),(77,.sl 12 (bs.map Bq.enc)),(78,ints bs.length),(79,ints i)],[]⟩) (fun i=>i<=bs.length/\∀ j,j < i->∀ c,bs[j]?=some c->ofE c=0) (fun i=>bs.length-i) 0 ⟨c7n _,fun _ h=>absurd h (Nat.not_lt_zero _)⟩ (by simp only [List.take_zero,show G8 []=[] from rfl,cls,c7I];exact Ent.mk _ _ (by repeat' (first|exact O0.nil|exact Imp.refl rfl|exact Imp.F8|refine O0.cons ?_ ?_)) (by repeat' (first|exact D8.nil|refine D8.cons (RI.gone _) ?_)) (c7n _)) ?_
 rintro i ⟨hi,hm⟩
 simp only [cls,ints]
 (repeat first|refine uA ?_|(refine uK ?_ ?_;focus first|omega|(intros;simp_all<;>omega))|simp (disch:=omega) only [go_sem,Nat.reduceBEq])
 (refine uJ rfl (fun hc=>?_) fun hc=>?_)
 ·have hi':i < bs.length:=by omega
  have hg:=c7h hi'
  generalize bs[i]=b at hg
  have hb:=hbb b (c7k hg)
  have o1:=c4O b ⟨hb.1.mono (by decide),hb.2.1.mono (by decide),hb.2.2.1.mono (by decide),hb.2.2.2.mono (by decide)⟩
  have hs:G8 (bs.take (i+1))=a3c (G8 (bs.take i)) (ofC b):=by rw [List.take_add_one,hg];exact b6z _ _
  have hcl:=b8t (bs.take i)
  rw [c7s] at hcl
  have o2:=c4D (G8 (bs.take i)) (ofC b) (by omega) (c7l (b1u b) (by decide))
  rw [<- hs] at o2
  have hbad:=fun h:ofE b ≠ 0=>c1z hg h hm
  have hmn:ofE b=0->∀ j,j < i+1->∀ c,bs[j]?=some c->ofE c=0:=fun h j hj c hcj=>by
   rcases c7D j i with h1|h1
   ·exact hm j h1 c hcj
   ·have:j=i:=by omega
    subst this
    rw [hg] at hcj
    cases hcj
    exact h
  clear hs
  generalize hT1:G8 (bs.take (i+1))=T1 at *
  generalize G8 (bs.take i)=T at *
  generalize ofC b=D at *
  generalize ofE b=e at *
  simp only [Bq.enc,cls,sb,ints] at o1 o2
  (repeat first|refine uA ?_|(refine uK ?_ ?_;focus first|omega|(intros;simp_all<;>omega))|simp (disch:=omega) only [go_sem,Nat.reduceBEq,Nat.reduceAdd,hg,c7i,c7r,c7j,c7o,Bq.enc,sb]|(refine uD o1 ?_ ?_ ?_;exact tz hw;exact rfl))
  (refine uJ rfl (fun hc=>?_) fun hc=>?_)
  ·have hbd:=hbad hc
   rw [hbd,if_neg hc] at hE
   rw [hE,if_neg hc]
   (repeat first|refine uA ?_|(refine uK ?_ ?_;focus first|omega|(intros;simp_all<;>omega))|simp (disch:=omega) only [go_sem,Nat.reduceBEq])
   (refine S.done ?_;simp only [p9,go_sem,Nat.reduceBEq];(repeat (refine ⟨?_,?_⟩;focus first|trivial|omega|simp));exact j3.out rfl (Imp.tup (by (repeat' (first|exact j4.nil|exact Imp.refl rfl|exact Imp.frz rfl rfl rfl|exact Imp.F8|refine Imp.agg ?_|refine j4.cons ?_ ?_)))) rfl)
  ·have hc0:e=0:=by omega
   (repeat first|refine uA ?_|(refine uK ?_ ?_;focus first|omega|(intros;simp_all<;>omega))|simp (disch:=omega) only [go_sem,Nat.reduceBEq,ww]|(refine uB o2 ?_ ?_;exact rfl))
   refine S.next (x:=i) (i+1) ⟨by omega,hmn hc0⟩ (by omega) (by simp only [hT1];exact (by (repeat first|refine uA ?_|(refine ⟨?_,?_⟩;focus first|rfl|simp [slot])|rfl|simp)))
 ·have hi':i=bs.length:=by omega
  subst hi'
  rw [c1p hm,if_pos rfl] at hE
  rw [c7y]
  generalize G8 bs=T at *
  (repeat first|refine uA ?_|(refine uK ?_ ?_;focus first|omega|(intros;simp_all<;>omega))|simp (disch:=omega) only [go_sem,Nat.reduceBEq,c7i])
  (refine uJ rfl (fun hc=>?_) fun hc=>?_)
  ·rw [if_pos (by omega)] at hE
   rw [hE,if_neg (by decide)]
   (repeat first|refine uA ?_|(refine uK ?_ ?_;focus first|omega|(intros;simp_all<;>omega))|simp (disch:=omega) only [go_sem])
   (refine S.done ?_;simp only [p9,go_sem,Nat.reduceBEq];(repeat (refine ⟨?_,?_⟩;focus first|trivial|omega|simp));exact j3.out rfl (Imp.tup (by (repeat' (first|exact j4.nil|exact Imp.refl rfl|exact Imp.frz rfl rfl rfl|exact Imp.F8|refine Imp.agg ?_|refine j4.cons ?_ ?_)))) rfl)
  ·rw [if_neg (by omega)] at hE
   rw [hE,if_pos rfl]
   (repeat first|refine uA ?_|(refine uK ?_ ?_;focus first|omega|(intros;simp_all<;>omega))|simp (disch:=omega) only [go_sem,Nat.reduceBEq])
   (refine S.done ?_;simp only [p9,go_sem,Nat.reduceBEq];(repeat (refine ⟨?_,?_⟩;focus first|trivial|omega|simp));exact j3.out rfl (Imp.tup (by (repeat' (first|exact j4.nil|exact Imp.refl rfl|exact Imp.frz rfl rfl rfl|exact Imp.F8|refine Imp.agg ?_|refine j4.cons ?_ ?_)))) rfl)
def a5G:H6:=⟨57,[.cell 4 true 6,.tmp 5],.seq (.reg [OA 4 (.alloc 59 [.bool false,.string ⟨#[]⟩,.string ⟨#[]⟩,.bool false,.string ⟨#[]⟩,.string ⟨#[]⟩]),OA 5 (.mv (.const (.bool false)))]) (.seq (.seq (.reg [MM 13 0,OA 14 (.len false
 (TT 13)),OA 15 (.mv (II 0))]) (.block 0 (.loop (.seq (.reg [OA 16 (.bin .lss (TT 15) (TT 14))]) (.seq (.cond (TT 16) .skip (.exit 0)) (.seq (.block 1 (.seq (.reg [MM 17 15,OA 18 (.l7 6 (TT 13) (TT 15)),LL 19 6 18,OA 7
 (.alloc 59 [.bool false,.string ⟨#[]⟩,.string ⟨#[]⟩,.bool false,.string ⟨#[]⟩,.string ⟨#[]⟩]),MM 6 17,OB (.store 6 (TT 7) (TT 19))]) (.seq (.y9 [.q,.q,.q,.q,.q,.q,.q,.q,.q,.q,.a,.e (some 8) true] [MM 20 0,MM
 21 6,OA 22 (.bin .add (TT 21) (II 1)),MM 23 0,OA 24 (.len false (TT 23)),OA 25 (.bin .rem (TT 22) (TT 24)),OA 26 (.l7 6 (TT 20) (TT 25)),LL 27 6 26,LL 28 6 7,OA 29 (.call 168 [TT 27,TT 28]),OA 8 (.alloc 59 [.bool
 false,.string ⟨#[]⟩,.string ⟨#[]⟩,.bool false,.string ⟨#[]⟩,.string ⟨#[]⟩]),OB (.store 6 (TT 8) (TT 29))]) (.seq (.y9 [.q,.q,.q,.q,.q,.q,.a,.e (some 9) true] [FF 30 3 8,LL 31 3 30,FF 32 0 8,LL 33 3 32,OA 34
 (.call 17 [TT 33]),OA 35 (.build [.bool false,.string ⟨#[]⟩,.string ⟨#[]⟩,.bool false,.string ⟨#[]⟩,.string ⟨#[]⟩] [(0,(3,TT 31)),(3,(3,TT 34))]),OA 9 (.alloc 59 [.bool false,.string ⟨#[]⟩,.string ⟨#[]⟩,.bool
 false,.string ⟨#[]⟩,.string ⟨#[]⟩]),OB (.store 6 (TT 9) (TT 35))]) (.seq (.reg [OA 10 (.mv (.const (.bool true)))]) (.seq (.seq (.reg [MM 36 1,OA 37 (.len false (TT 36)),OA 38 (.mv (II 0))]) (.block 2 (.loop (.seq (.reg [OA
 39 (.bin .lss (TT 38) (TT 37))]) (.seq (.cond (TT 39) .skip (.exit 2)) (.seq (.block 3 (.seq (.reg [OA 40 (.l7 6 (TT 36) (TT 38)),LL 41 6 40,OA 12 (.alloc 59 [.bool false,.string ⟨#[]⟩,.string ⟨#[]⟩,.bool false,.string
 ⟨#[]⟩,.string ⟨#[]⟩]),OB (.store 6 (TT 12) (TT 41))]) (.y9 [.q,.q,.q,.q,.q,.q,.q,.q,.q,.q,.q] [MM 42 10,MM 43 42,LG 44 6 9 43 true,LG 45 6 12 43 true,LG 46 6 7 43 true,OC 47 (.call 168 [TT 45,TT 46]) 43 true,
 OC 48 (.call 169 [TT 44,TT 47]) 43 true,OC 49 (.call 97 [TT 48]) 43 true,OC 50 (.bin .gtr (TT 49) (II 0)) 43 true,OA 51 (.pick (TT 43) (TT 50) (.const (.bool false))),MM 10 51]))) (.reg [OA 52 (.bin .add (TT 38) (II 1)),MM
 38 52]))))))) (.seq (.reg [MM 53 10]) (.cond (TT 53) (.seq (.reg [LL 54 6 9,OB (.store 6 (TT 4) (TT 54)),OA 5 (.mv (.const (.bool true)))]) .ret) .skip)))))))) (.reg [OA 55 (.bin .add (TT 15) (II 1)),MM 15 55]))))))) (.seq
 (.reg [OA 56 (.build [.bool false,.string ⟨#[]⟩,.string ⟨#[]⟩,.bool false,.string ⟨#[]⟩,.string ⟨#[]⟩] []),OB (.store 6 (TT 4) (TT 56)),OA 5 (.mv (.const (.bool false)))]) .ret))⟩
theorem b0V:F3 eff Tryz.prog Tryz.f131=some a5G:=by kernel_rfl
theorem b1r:Tryz.prog.funcs[131]?=some Tryz.f131:=Tryz.func131
end Go.Proofs.YtgpegbfnlkidjaaGreatDoor
