/- A part of the proof: lemmas only, with the conditions that each names. -/
import Derived.Test.YtgpegbfnlkidjaaGreatDoorProg
import Derived.KernelRfl
import Derived.Test.YtgpegbfnlkidjaaGreatDoorFk4
set_option linter.all false
namespace Go.Proofs.YtgpegbfnlkidjaaGreatDoor
open Go Go.RowKit Eng
set_option maxRecDepth 100000
set_option maxHeartbeats 4000000
theorem X3 {a:Nm.Rt} (h:l6 a=true):Rb 3 a:=by
 unfold l6 at h
 simp only [c7q,c7v] at h
 exact ⟨h.1.1.1.1,by have:=h.1.1.1.2;omega⟩
theorem J2 {a:Nm.Rt} (h:l6 a=true):Rb 1048576 a:=(X3 h).mono (by decide)
theorem b2q {α:Type} {f:α->Int}:∀ {l:List α},I5 f l=0->∀ x ∈ l,f x=0
 | [],_,x,hx=>by cases hx
 | y::l,h,x,hx=>by
  rw [I5] at h
  split at h
  ·rename_i h0
   rcases List.mem_cons.1 hx with rfl|hx
   ·exact h0
   ·exact b2q h x hx
  ·rename_i h0;exact absurd h h0
theorem b2Z {l:List Vt} (h:L6 l 8=0):l.length<=8:=by
 unfold L6 at h
 split at h
 ·cases h
 ·omega
theorem b3o {l:List Vt} (h:K8 l=0):Vbs 1048576 l:=by
 have hl:=b2Z (a5P h)
 unfold K8 at h
 rw [a5P h,if_neg (by decide)] at h
 split at h
 ·rename_i ha
  rw [List.all_eq_true] at ha
  refine ⟨by omega,fun v hv=>?_⟩
  have:=ha v hv
  unfold okV at this
  simp only [c7q] at this
  exact ⟨J2 this.1.2,J2 this.2⟩
 ·cases h
theorem a4w {l:Lk} (h:O6 l=0):Lb 1048576 l/\Nm.q9 (Nm.d9 l.low) (Nm.d9 l.high) < 0/\0 < E9 (Nm.d9 l.speed):=by
 unfold O6 at h
 split at h
 ·cases h
 rename_i h1
 split at h
 ·cases h
 rename_i h2
 split at h
 ·rename_i h3;exact absurd h h3
 rename_i h3
 split at h
 ·rename_i h4
  have h1a:(l6 l.length && l6 l.low && l6 l.high && l6 l.speed && l6 l.brake)=true:=by
   cases hb:(l6 l.length && l6 l.low && l6 l.high && l6 l.speed && l6 l.brake) with
   | true=>rfl
   | false=>exact absurd (.inl hb) h1
  simp only [c7q] at h1a
  obtain ⟨⟨⟨⟨s1,s2⟩,s3⟩,s4⟩,s5⟩:=h1a
  have hpe:=b2Z (Classical.not_not.1 h3)
  rw [List.all_eq_true] at h4
  refine ⟨⟨J2 s1,J2 s2,J2 s3,J2 s4,J2 s5,by omega,fun v hv=>?_⟩,?_,?_⟩
  ·have:=h4 v hv
   simp only [c7q] at this
   exact ⟨J2 this.1,J2 this.2⟩
  ·have:¬ 0<=Nm.q9 (Nm.d9 l.low) (Nm.d9 l.high):=fun h=>h1 (.inr (.inr h))
   omega
  ·have:¬ E9 (Nm.d9 l.speed)<=0:=fun h=>h2 (.inl h)
   omega
 ·cases h
theorem O7 {a:Am} (h:J3 a=0):Ab 1048576 a/\∀ l ∈ a.links,O6 l=0:=by
 unfold J3 at h
 split at h
 ·cases h
 rename_i h1
 split at h
 ·cases h
 split at h
 ·cases h
 rename_i h2 h3
 have hn:a.name.length<=12:=by
  have:a1P a.name=true:=by simpa using h1
  unfold a1P at this
  simp only [c7q,c7v] at this
  exact this.2
 have h3a:(l6 a.base.x && l6 a.base.y && l6 a.base.t)=true:=by
  cases hb:(l6 a.base.x && l6 a.base.y && l6 a.base.t) with
  | true=>rfl
  | false=>exact absurd (.inr (.inl hb)) h3
 simp only [c7q] at h3a
 have hl:=b2q h
 exact ⟨⟨by omega,⟨J2 h3a.1.1,J2 h3a.1.2,J2 h3a.2⟩,by omega,fun l hl'=>(a4w (hl l hl')).1⟩,hl⟩
theorem a8s {f:Fr} (h:okF f=true):Fb 1048576 f/\a1N f=true:=by
 unfold okF okV at h
 simp only [c7q,c7v] at h
 obtain ⟨⟨⟨⟨⟨⟨g1,g2⟩,s1⟩,s2⟩,g3⟩,s3⟩,z⟩:=h
 refine ⟨⟨J2 s1,J2 s2,J2 s3⟩,?_⟩
 unfold a1N M8
 simp [g1,g2,g3,z]
theorem b9Y {n:Nat}:(a4Y n).length<=5/\(a4t n).length<=4/\(a5N n).length<=6:=by
 refine ⟨?_,?_,?_⟩
 ·unfold a4Y
  match n with
  | 0|1|2|3=>decide
  | n+4=>simp
 ·unfold a4t
  match n with
  | 0|1=>decide
  | n+2=>simp
 ·unfold a5N
  match n with
  | 0|1|2=>decide
  | n+3=>simp
theorem b2D:∀ (c n:Nat) (l:List Int),∀ p ∈ a0E c n l,p.name.length<=4
 | 0,_,_,p,hp=>by cases hp
 | c+1,n,l,p,hp=>by
  rcases List.mem_cons.1 hp with rfl|hp
  ·exact b9Y.2.1
  ·exact b2D c _ _ p hp
theorem b3b:∀ (c n:Nat) (l:List Int),∀ p ∈ a0F c n l,p.name.length<=6
 | 0,_,_,p,hp=>by cases hp
 | c+1,n,l,p,hp=>by
  rcases List.mem_cons.1 hp with rfl|hp
  ·exact b9Y.2.2
  ·exact b3b c _ _ p hp
theorem b2X:∀ (c:Nat) (l:List Int),∀ p ∈ a0G c l,p.name.length<=4
 | 0,_,p,hp=>by cases hp
 | c+1,l,p,hp=>by
  rcases List.mem_cons.1 hp with rfl|hp
  ·exact (by decide:([100,111,111,114]:List UInt8).length<=4)
  ·exact b2X c _ p hp
theorem Fb.mono {k m:Nat} {f:Fr} (h:Fb k f) (hm:k<=m):Fb m f:=⟨h.1.mono hm,h.2.1.mono hm,h.2.2.mono hm⟩
theorem Vbs.mono {k m:Nat} {l:List Vt} (h:Vbs k l) (hm:k<=m):Vbs m l:=⟨c7l h.1 hm,fun v hv=>⟨(h.2 v hv).1.mono hm,(h.2 v hv).2.mono hm⟩⟩
theorem Ab.mono {k m:Nat} {a:Am} (h:Ab k a) (hm:k<=m):Ab m a:=⟨c7l h.1 hm,h.2.1.mono hm,c7l h.2.2.1 hm,fun l hl=>by
 obtain ⟨h1,h2,h3,h4,h5,h6⟩:=h.2.2.2 l hl
 exact ⟨h1.mono hm,h2.mono hm,h3.mono hm,h4.mono hm,h5.mono hm,h6.mono hm⟩⟩
theorem Wb.mono {k m:Nat} {w:Wk} (h:Wb k w) (hm:k<=m):Wb m w:=
  ⟨⟨c7l h.arms.1 hm,fun x hx=>(h.arms.2 x hx).mono hm⟩,⟨c7l h.walls.1 hm,fun x hx=>(h.walls.2 x hx).mono hm⟩,⟨c7l h.parts.1 hm,fun x hx=>⟨c7l (h.parts.2 x hx).1 hm,(h.parts.2 x hx).2.1.mono hm,(h.parts.2 x hx).2.2.mono hm⟩⟩,
   ⟨c7l h.slots.1 hm,fun x hx=>⟨c7l (h.slots.2 x hx).1 hm,(h.slots.2 x hx).2.1.mono hm,(h.slots.2 x hx).2.2.mono hm⟩⟩,⟨c7l h.gates.1 hm,fun x hx=>⟨c7l (h.gates.2 x hx).1 hm,⟨(h.gates.2 x hx).2.1.1.mono hm,(h.gates.2 x hx).2.1.2.mono hm⟩,(h.gates.2 x hx).2.2.1.mono hm,(h.gates.2 x hx).2.2.2.mono hm⟩⟩,h.walk.mono hm⟩
theorem Stb.mono {k m:Nat} {s:Stt} (h:Stb k s) (hm:k<=m):Stb m s:=
 ⟨⟨c7l h.arms.1 hm,fun x hx=>⟨⟨c7l (h.arms.2 x hx).1.1 hm,fun r hr=>((h.arms.2 x hx).1.2 r hr).mono hm⟩,c7l (h.arms.2 x hx).2.1 hm,fun r hr=>((h.arms.2 x hx).2.2 r hr).mono hm⟩⟩,⟨c7l h.parts.1 hm,fun x hx=>(h.parts.2 x hx).mono hm⟩,h.people.mono hm,c7l h.gates hm⟩
theorem a9T (l:List Int):Wb 1048576 (u6 l):=by
 obtain ⟨c1,c2,c3,c4,c5⟩:=counts l
 have x1:=a7h (nA l) 0 (l.drop 1) (by omega)
 have x2:=a5A (nW l) ((l1 l).drop 1)
 have x3:=a8e (nP l) 0 ((l2 l).drop 1)
 have x4:=a5r (nS l) 0 ((l3 l).drop 1)
 have x5:=a7R (nG l) ((l4 l).drop 1)
 have a1:=p8 (l5 l) (n:=4) (by decide)
 have a2:=C9 (l5 l) (n:=4) (by decide)
 refine ⟨⟨?_,fun x hx=>(O7 (x1 x hx)).1⟩,⟨?_,fun x hx=>b3o (x2.1 x hx).1⟩,⟨?_,fun x hx=>?_⟩,⟨?_,fun x hx=>?_⟩,⟨?_,fun x hx=>?_⟩,?_⟩
 ·show (a0C _ _ _).length<=_
  rw [a7G];omega
 ·show (a2g _ _).length<=_
  rw [x2.2];omega
 ·show (a0E _ _ _).length<=_
  rw [x3.2.1];omega
 ·obtain ⟨⟨h1,h2⟩,h3⟩:=x3.1 x hx
  have:=b2D _ _ _ x hx
  exact ⟨by omega,b3o h1,(a8s h2).1⟩
 ·show (a0F _ _ _).length<=_
  rw [x4.2.1];omega
 ·have h:=x4.1 x hx
  simp only [c7q] at h
  have:=b3b _ _ _ x hx
  exact ⟨by omega,(a8s h.1.1.1).1,J2 h.1.2⟩
 ·show (a0G _ _).length<=_
  rw [x5.2.1];omega
 ·have h:=x5.1 x hx
  simp only [c7q] at h
  have:=b2X _ _ x hx
  obtain ⟨⟨⟨h1,h2⟩,_⟩,_⟩:=h
  unfold okV at h1 h2
  simp only [c7q] at h1 h2
  exact ⟨by omega,⟨J2 h1.1.2,J2 h1.2⟩,J2 h2.1.2,J2 h2.2⟩
 ·exact J2 (U9 _ _ (by omega) (by decide))
theorem c0o (l:List Int):Wb 1073741824 (u6 l):=(a9T l).mono (by decide)
theorem a6h {α β:Type} {f:α->β}:∀ {l:List α} {x:α × β},x ∈ l.zip (l.map f)->x.1 ∈ l/\x.2=f x.1
 | [],x,h=>by simp at h
 | a::l,x,h=>by
  simp only [c7w,List.zip_cons_cons] at h
  rcases List.mem_cons.1 h with rfl|h
  ·exact ⟨List.mem_cons_self ..,rfl⟩
  ·exact ⟨List.mem_cons_of_mem _ (a6h h).1,(a6h h).2⟩
theorem a3t (p q:Rat):Nm.q9 p q < 0 <-> p < q:=by
 unfold Nm.q9
 split
 ·simp_all
 ·split
  ·simp_all
  ·simp_all
theorem a3u (p q:Rat):0 < Nm.q9 p q <-> q < p:=by
 unfold Nm.q9
 split
 ·rename_i h;simp;grind
 ·split
  ·rename_i h1 h2;simp;grind
  ·rename_i h1 h2;simp;grind
theorem c1i {l:Lk} (h:O6 l=0):a5S (l,a0N l)=0:=by
 have hc:=(a3t _ _).1 (a4w h).2.1
 unfold a5S a0N
 simp only [Nm.q8]
 rw [if_neg]
 rw [a3t,a3u]
 unfold K6 G9
 have e1:∀ p q:Rat,(Nm.q9 p q >= 0) <-> ¬ p < q:=fun p q=>by rw [<- a3t];omega
 have e2:∀ p q:Rat,(Nm.q9 p q<=0) <-> ¬ q < p:=fun p q=>by rw [<- a3u];omega
 simp only [e1,e2]
 repeat' split
 all_goals grind
theorem a9t {l:Lk} (h:O6 l=0):a1q (l,Nm.ofQ 0)=0:=by
 have hs:=(a4w h).2.2
 unfold a1q
 simp only [Nm.q8]
 rw [if_neg]
 have h0:E8 0=0:=rfl
 rw [h0,a3u]
 have hn:0 < (Nm.d9 l.speed).num:=by
  unfold E9 at hs
  split at hs
  ·omega
  ·split at hs<;>omega
 intro hlt
 have:=(Rat.lt_iff _ _).1 hlt
 simp at this
 omega
theorem c1n {a:Am} (h:J3 a=0) (n:Nat):a1j a (Q7 a) n=0:=by
 have hl:=(O7 h).2
 unfold a1j Q7
 simp only
 have g1:(a.links.map a0N).all M8=true:=by
  rw [List.all_eq_true]
  intro x hx
  obtain ⟨l,_,rfl⟩:=List.mem_map.1 hx
  exact decide_eq_true (Nm.a1H _)
 have g2:(a.links.map fun _=>Nm.ofQ 0).all M8=true:=by
  rw [List.all_eq_true]
  intro x hx
  obtain ⟨l,_,rfl⟩:=List.mem_map.1 hx
  exact decide_eq_true (Nm.a1H _)
 have hf:a2m a (a.links.map a0N)=0:=by
  rw [b3W]
  have:a4i a (a.links.map a0N).length=0:=by
   unfold a4i
   rw [h,if_neg (by decide),c7i,if_neg (by simp)]
  rw [this,if_neg (by decide)]
  refine a1U fun x hx=>?_
  obtain ⟨h1,h2⟩:=a6h hx
  obtain ⟨x1,x2⟩:=x
  simp only at h1 h2
  rw [h2]
  exact c1i (hl x1 h1)
 rw [g1,g2,if_neg (by decide),hf,if_neg (by decide),if_neg (by simp;omega)]
 refine a1U fun x hx=>?_
 obtain ⟨h1,h2⟩:=a6h hx
 obtain ⟨x1,x2⟩:=x
 simp only at h1 h2
 rw [h2]
 exact a9t (hl x1 h1)
theorem a8Y (n:Nat):∀ (l:List Am) (h:List Int),(∀ a ∈ l,J3 a=0)->(u7 (V8 n) h (l.zip (l.map Q7))).1=0
 | [],_,_=>rfl
 | a::l,h,ha=>by
  have e:V8 n h (a,Q7 a)=(0,a8D h (-1)):=by
   unfold V8
   simp only
   rw [c1n (ha a (by simp)) n,if_neg (by decide),if_neg (by simp [Q7])]
   rfl
  simp only [c7w,List.zip_cons_cons,u7,e]
  exact a8Y n l _ fun x hx=>ha x (by simp [hx])
theorem a6E {w:Wk} (h:a0b w=0) (ha:∀ a ∈ w.arms,J3 a=0) (hs:∀ s ∈ w.slots,okF s.frame=true):U1 w (E5 w)=0:=by
 unfold U1
 have l1:(E5 w).arms.length=w.arms.length:=by simp [E5]
 have l2:(E5 w).parts.length=w.parts.length:=by simp [E5]
 have l3:(E5 w).gates.length=w.gates.length:=by simp [E5]
 have l4:(E5 w).people=[]:=rfl
 have l5:(E5 w).tick=0:=rfl
 have hh:(u7 (V8 w.parts.length) [] (w.arms.zip (E5 w).arms)).1=0:=a8Y _ w.arms [] ha
 have hp:(E5 w).parts.all a1N=true:=by
  rw [List.all_eq_true]
  intro f hf
  obtain ⟨i,_,rfl⟩:=List.mem_map.1 hf
  unfold a7B
  split
  ·exact (a8s (hs _ (c7x _))).2
  ·unfold a4x a1N M8 a5w
   simp [Nm.a1H]
 rw [h,if_neg (by decide),l4,if_neg (by decide),l1,l2,l3,l5,if_neg (by simp),hh,if_neg (by decide),hp]
 rfl
theorem a4X:Rb 1048576 (Nm.ofQ 0):=⟨c7l (Nm.G5 (k:=8) (by decide)) (by decide),c7l (Nm.G5 (k:=8) (by decide)) (by decide)⟩
theorem b3Y {k:Nat} (hk:1048576<=k) {w:Wk} (hw:Wb k w) (ha:∀ a ∈ w.arms,J3 a=0) (hs:∀ s ∈ w.slots,okF s.frame=true):Stb k (E5 w):=by
 refine ⟨⟨?_,fun x hx=>?_⟩,⟨?_,fun x hx=>?_⟩,⟨c7n _,fun v hv=>by cases hv⟩,?_⟩
 ·show (w.arms.map Q7).length<=_
  rw [c7i];exact hw.arms.1
 ·obtain ⟨a,haa,rfl⟩:=List.mem_map.1 hx
  have hab:=hw.arms.2 a haa
  refine ⟨⟨?_,fun r hr=>?_⟩,?_,fun r hr=>?_⟩
  ·show (a.links.map a0N).length<=_
   rw [c7i];exact hab.2.2.1
  ·obtain ⟨l,hl,rfl⟩:=List.mem_map.1 hr
   have hlb:=hab.2.2.2 l hl
   unfold a0N K6 G9
   repeat' split
   all_goals first|exact hlb.2.1.fit (by omega)|exact hlb.2.2.1.fit (by omega)|exact a4X.mono hk
  ·show (a.links.map fun _=>Nm.ofQ 0).length<=_
   rw [c7i];exact hab.2.2.1
  ·obtain ⟨l,hl,rfl⟩:=List.mem_map.1 hr
   exact a4X.mono hk
 ·show ((List.range _).map _).length<=_
  simp;exact hw.parts.1
 ·obtain ⟨i,_,rfl⟩:=List.mem_map.1 hx
  unfold a7B
  split
  ·exact (a8s (hs _ (c7x _))).1.mono hk
  ·exact ⟨a4X.mono hk,a4X.mono hk,a4X.mono hk⟩
 ·show (List.replicate _ _).length<=_
  rw [List.length_replicate];exact hw.gates.1
theorem b9M {w:Wk} (hw:Wb 1073741824 w) (ha:∀ a ∈ w.arms,J3 a=0) (hs:∀ s ∈ w.slots,okF s.frame=true):Stb 1073741824 (E5 w):=b3Y (by decide) hw ha hs
theorem a3F (l:List Int):(∀ a ∈ (u6 l).arms,J3 a=0)/\∀ s ∈ (u6 l).slots,okF s.frame=true:=by
 obtain ⟨c1,c2,c3,c4,c5⟩:=counts l
 refine ⟨a7h (nA l) 0 (l.drop 1) (by omega),fun s hs=>?_⟩
 have h:=(a5r (nS l) 0 ((l3 l).drop 1)).1 s hs
 simp only [c7q] at h
 exact h.1.1.1
def a2q (a b:Nm.Rt):Nm.Rt:=Nm.ofQ (Nm.d9 a+Nm.d9 b)
def b0W (b v:Nm.Rt):Nm.Rt:=if Nm.q9 (E8 (Nm.d9 v)) (Nm.d9 b)<=0 then Nm.ofQ 0 else if E9 (Nm.d9 v) < 0 then a2q v b else Nm.ofQ (Nm.d9 v-Nm.d9 b)
def c5l (a:Am) (x:Ast):List Nm.Rt:=(a.links.zip x.v).map fun p=>b0W p.1.brake p.2
def c6W (a:Am) (x:Ast):List Nm.Rt:=(x.q.zip (c5l a x)).map fun p=>a2q p.1 p.2
def c6V (a:Am) (x:Ast):Ast:=⟨c6W a x,c5l a x,false,x.holds⟩
def mvQ (x:Ast) (u:List Nm.Rt):List Nm.Rt:=(x.q.zip u).map fun p=>a2q p.1 p.2
def mvA (x:Ast) (u:List Nm.Rt):Ast:=⟨mvQ x u,u,true,x.holds⟩
def c6H (x:Lk × Nm.Rt × Nm.Rt):Bool:=!(decide (0 < Nm.q9 (E8 (Nm.d9 x.2.2)) (Nm.d9 x.1.speed)) || decide (0 < Nm.q9 (Nm.d9 x.1.low) (Nm.d9 x.2.1+Nm.d9 x.2.2)) || decide (0 < Nm.q9 (Nm.d9 x.2.1+Nm.d9 x.2.2) (Nm.d9 x.1.high)))
def c6Y (a:Am) (q u:List Nm.Rt):Bool:=decide (u.length=a.links.length) && (u.all M8 && (a.links.zip (q.zip u)).all c6H)
def c6Q (a:Am) (x:Ast) (u:List Nm.Rt) (p:Bool):Ast:=if p && c6Y a x.q u then mvA x u else c6V a x
def b8l (a b:Fr):Fr:=⟨Nm.ofQ (c5Q a ⟨b.x,b.y⟩),Nm.ofQ (c4L a ⟨b.x,b.y⟩),(c3a a.half (J9 a.half a.t) b.half (J9 b.half b.t)).1,Nm.ofQ (c3a a.half (J9 a.half a.t) b.half (J9 b.half b.t)).2⟩
def c5T (q:Nm.Rt):Fr:=⟨Nm.ofQ 0,Nm.ofQ 0,false,Nm.ofQ (Nm.d9 q)⟩
def c6m (l:Lk):Fr:=⟨l.length,Nm.ofQ 0,false,Nm.ofQ 0⟩
def c6d:Fr->List (Lk × Nm.Rt)->Fr
 | e,[]=>e
 | e,(l,q)::r=>c6d (b8l (b8l e (c5T q)) (c6m l)) r
def c6E (f:Fr):Fr:=⟨Nm.ofQ (Nm.d9 (Nm.ofQ (0-Nm.d9 f.x))*a2t f.half (J9 f.half (Nm.ofQ (- J9 f.half f.t)))-Nm.d9 (Nm.ofQ (0-Nm.d9 f.y))*Z6 (J9 f.half (Nm.ofQ (- J9 f.half f.t)))),Nm.ofQ (Nm.d9 (Nm.ofQ (0-Nm.d9 f.x))*Z6 (J9 f.half (Nm.ofQ (- J9 f.half f.t)))+Nm.d9 (Nm.ofQ (0-Nm.d9 f.y))*a2t f.half (J9 f.half (Nm.ofQ (- J9 f.half f.t)))),f.half,Nm.ofQ (- J9 f.half f.t)⟩
def c6l (a:Am) (q:List Nm.Rt) (g:Fr):Fr:=b8l (c6d a.base (a.links.zip q)) (c6E g)
def c5K (w:Wk) (s:Stt) (u:List (List Nm.Rt)) (p:List Bool):List Ast:=((w.arms.zip s.arms).zip (u.zip p)).map fun z=>c6Q z.1.1 z.1.2 z.2.1 z.2.2
def c6P (w:Wk) (P:List Fr) (z:Am × Ast):List Fr:=
 if z.2.holds < 0 then P else match w.parts[z.2.holds.toNat]? with
  | some pt=>P.set z.2.holds.toNat (c6l z.1 z.2.q pt.grasp)
  | none=>P
def c6h (k:Nm.Rt) (v:Vt):Bool:=a6W v && !decide (0 < Nm.q9 (K6 (E8 (Nm.d9 v.x)) (E8 (Nm.d9 v.y))) (Nm.d9 k))
def c6T (p:Vt × Vt):Vt:=⟨a2q p.1.x p.2.x,a2q p.1.y p.2.y⟩
def c6y (w:Wk) (s:Stt) (u:List (List Nm.Rt)) (p:List Bool) (v:List Vt):Int:=
 if U1 w s ≠ 0 then U1 w s else
 if u.length ≠ w.arms.length \/ p.length ≠ w.arms.length \/ v.length ≠ s.people.length then 1 else
 if v.all (c6h w.walk)=false then 1 else
 if s.tick=2000 then 7 else 0
def c6s (w:Wk) (s:Stt) (u:List (List Nm.Rt)) (p:List Bool) (v:List Vt):Stt:=
 ⟨s.tick+1,c5K w s u p,(w.arms.zip (c5K w s u p)).foldl (c6P w) s.parts,(s.people.zip v).map c6T,s.gates⟩
theorem b4V {n:Nat}:∀ {l:List (Am × Ast)} {h:List Int},(u7 (V8 n) h l).1=0->∀ z ∈ l,a1j z.1 z.2 n=0
 | [],_,_,z,hz=>by cases hz
 | y::l,h,e,z,hz=>by
  have hy:(V8 n h y).1=0:=by
   unfold u7 at e
   split at e
   ·assumption
   ·exact e
  unfold u7 at e
  rw [if_pos hy] at e
  rcases List.mem_cons.1 hz with rfl|hz
  ·unfold V8 at hy
   split at hy
   ·exact hy
   ·exact Classical.not_not.1 (by assumption)
  ·exact b4V e z hz
structure c6N (w:Wk) (s:Stt):Prop where
 works:a0b w=0
 people:s.people.length<=4
 tick:0<=s.tick/\s.tick<=2000
 arms:s.arms.length=w.arms.length
 parts:s.parts.length=w.parts.length
 gates:s.gates.length=w.gates.length
 one:∀ z ∈ w.arms.zip s.arms,a1j z.1 z.2 w.parts.length=0
 big:1<=w.arms.length/\w.arms.length<=4/\w.parts.length<=6/\w.gates.length<=4
theorem a2v {w:Wk} {s:Stt} (h:U1 w s=0):c6N w s:=by
 unfold U1 at h
 split at h
 ·rename_i h1;exact absurd h h1
 rename_i h1
 split at h
 ·cases h
 split at h
 ·cases h
 split at h
 ·rename_i h2;exact absurd h h2
 rename_i h2 h3 h4
 have h1:=Classical.not_not.1 h1
 have hb:=h1
 unfold a0b at hb
 split at hb
 ·cases hb
 split at hb
 ·cases hb
 exact ⟨h1,by omega,by omega,by omega,by omega,by omega,b4V (Classical.not_not.1 h4),by omega⟩
structure c6A (a:Am) (x:Ast) (n:Nat):Prop where
 arm:J3 a=0
 q:x.q.length=a.links.length
 v:x.v.length=a.links.length
 holds:-1<=x.holds/\x.holds < n
theorem b0k {a:Am} {x:Ast} {n:Nat} (h:a1j a x n=0):c6A a x n:=by
 unfold a1j at h
 split at h
 ·cases h
 split at h
 ·rename_i h1;exact absurd h h1
 rename_i h1
 split at h
 ·cases h
 have h2:=Classical.not_not.1 h1
 unfold a2m at h2
 split at h2
 ·rename_i h3;exact absurd h2 h3
 rename_i h3
 split at h2
 ·cases h2
 exact ⟨Classical.not_not.1 h3,by omega,by omega,by omega⟩
theorem Z4 {a:Am} (h:J3 a=0):1<=a.links.length/\a.links.length<=3:=by
 unfold J3 at h
 split at h
 ·cases h
 split at h
 ·cases h
 split at h
 ·cases h
 ·omega
theorem c5U {a:Am} {n:Int} (h:J3 a=0) (hn:n=a.links.length):a4i a n=0:=by
 unfold a4i
 rw [if_neg (by simp [h]),if_neg (by simp [hn])]
theorem b0o {l:Lk} (h:O6 l=0):0 < E9 (Nm.d9 l.brake):=by
 unfold O6 at h
 split at h
 ·cases h
 split at h
 ·cases h
 ·omega
theorem a8l (q:Rat):(E9 q=-1/\q < 0) \/ (E9 q=0/\q=0) \/ (E9 q=1/\0 < q):=by
 have h1:=@Rat.num_nonneg q
 have h2:=@Rat.num_eq_zero q
 unfold E9
 by_cases h0:q.num=0
 ·right;left;exact ⟨if_pos h0,h2.1 h0⟩
 rw [if_neg h0]
 by_cases hn:q.num < 0
 ·left
  refine ⟨if_pos hn,?_⟩
  rw [<- Rat.not_le,<- h1];omega
 ·right;right
  refine ⟨if_neg hn,?_⟩
  have h5:0<=q:=h1.1 (by omega)
  have h6:q ≠ 0:=fun e=>h0 (h2.2 e)
  grind
theorem b7t {α:Type} {l m:List α} {i:Nat} {y:α} (hl:l.length=m.length) (hy:l[i]?=some y):(l.take i++m.drop i).set i y=l.take (i+1)++m.drop (i+1):=by
 obtain ⟨hi,rfl⟩:=c7m.1 hy
 have h1:(l.take i).length=i:=by rw [c7s];omega
 rw [List.set_append_right _ _ (by omega),h1,Nat.sub_self,List.drop_eq_getElem_cons (show i < m.length by omega),List.set_cons_zero,c7Z hi,c7P]
 rfl
theorem b7j {α:Type} {l m:List α} {i:Nat} (hl:l.length=m.length) (hi:i<=m.length):(l.take i++m.drop i).length=m.length:=by
 simp only [c7t,c7s,c7S];omega
theorem mid_end {α:Type} {l m:List α} (hl:l.length=m.length):l.take m.length++m.drop m.length=l:=by
 rw [<- hl,c7y,hl,List.drop_length,List.append_nil]
set_option maxRecDepth 10000
set_option maxHeartbeats 8000000
theorem c0y (v:Vt) (hv:Vb 17179869184 v):FZ 172 [v.c] (.v (.bool (!okV v))):=by
 refine kW Tryz.func172 (by cbv) (by rfl) fun w O hw=>?_
 obtain ⟨x,y⟩:=v
 obtain ⟨b1,b2⟩:=hv
 simp only at b1 b2
 have h1:=a1v x (b1.mono (by decide))
 have h2:=a1v y (b2.mono (by decide))
 have h3:=a4A x b1
 have h4:=a4A y b2
 unfold okV
 simp only
 generalize decide x.H9=q1 at *
 generalize decide y.H9=q2 at *
 generalize l6 x=q3 at *
 generalize l6 y=q4 at *
 simp only [j5,TT,OA,OC,MM,LL,FF,LG,FG]
 simp only [Vt.c,Vt.enc,rc,sb] at *
 (repeat first|refine uA ?_|(apply uK;focus first|omega|(intros;simp_all<;>omega))|simp (disch:=omega) only [go_sem,Nat.reduceBEq,Nat.reduceAdd]|(apply uD h1;exact tz hw;rfl)|(apply uD h2;exact tz hw;rfl)|(apply uD h3;exact tz hw;rfl)|(apply uD h4;exact tz hw;rfl))
 have e:(!(q1 && q2 && q3 && q4))=(!q1 || !q2 || !q3 || !q4):=by cases q1<;>cases q2<;>cases q3<;>cases q4<;>rfl
 (try rw [e])
 exact S.done (j3.out rfl (Imp.refl rfl) rfl)
theorem a9K (l:List Vt) (hl:Vbs 17179869184 l):FZ 140 [vts l] (.v (.bool (l.all okV))):=by
 refine kW Tryz.func140 (by cbv) (by rfl) fun w O hw=>?_
 have h:=b4X 172 (by kernel_rfl) (fun v=>!okV v) l (by have:=hl.1;omega) (fun v hv=>c0y v (hl.2 v hv))
 have e:l.all okV=!l.any fun v=>!okV v:=by rw [List.not_any_eq_all_not];simp
 rw [e]
 generalize (l.any fun v=>!okV v)=q at *
 simp only [j5,TT,OA,MM]
 simp only [vts] at *
 (repeat first|refine uA ?_|(apply uK;focus omega)|simp (disch:=omega) only [go_sem,Nat.reduceBEq]|(apply uD h;exact tz hw;rfl))
 exact S.done (j3.out rfl (Imp.refl rfl) rfl)
theorem Vbs.one {k:Nat} {v:Vt} (h:1<=k) (h1:Vb k v):Vbs k [v]:=⟨h,fun x hx=>by simp at hx;subst hx;exact h1⟩
theorem Vbs.two {k:Nat} {v u:Vt} (h:2<=k) (h1:Vb k v) (h2:Vb k u):Vbs k [v,u]:=⟨h,fun x hx=>by simp at hx;rcases hx with rfl|rfl<;>assumption⟩
theorem b5u (f:Fr) (hf:Fb 17179869184 f):FZ 141 [f.c] (.v (.bool (okF f))):=by
 refine kW Tryz.func141 (by cbv) (by rfl) fun w O hw=>?_
 obtain ⟨x,y,half,t⟩:=f
 obtain ⟨b1,b2,b3⟩:=hf
 simp only at b1 b2 b3
 have h1:=a9K [⟨x,y⟩] (Vbs.one (by decide) ⟨b1,b2⟩)
 rw [List.all_cons,List.all_nil,Bool.and_true] at h1
 have h2:=a1v t (b3.mono (by decide))
 have h3:=a4A t b3
 have h4:=a0g t b3
 unfold okF a5w
 simp only
 generalize okV ⟨x,y⟩=q1 at *
 generalize decide t.H9=q2 at *
 generalize l6 t=q3 at *
 generalize E9 (Nm.d9 t)=n at *
 simp only [j5,TT,II,OA,OC,MM,LL,FF,MG,LG,VG,FG]
 simp only [Fr.c,Fr.enc,vts,Vt.enc,rc,sb,ints,c7w,c7I] at *
 (repeat first|refine uA ?_|(apply uK;focus first|omega|(intros;simp_all<;>omega))|simp (disch:=omega) only [go_sem,Nat.reduceBEq,Nat.reduceAdd]|(apply uD h2;exact tz hw;rfl)|(apply uD h3;exact tz hw;rfl)|(apply uD h4;exact tz hw;rfl)|(apply uE h1;exact tz hw;exact rfl;focus (repeat' first|exact j4.nil|exact Imp.refl rfl|exact Imp.frz rfl rfl rfl|(refine Imp.V5 rfl rfl ?_ ?_;(focus ((try simp only [c7t]);omega));(focus first|rfl|assumption))|refine j4.cons ?_ ?_);done))
 have e:(q1 && q2 && q3 && !(half && !decide (n=0)))=(q1 && q2 && q3 && (!half || decide (n=0))):=by cases q1<;>cases q2<;>cases q3<;>cases half<;>simp
 rw [e]
 exact S.done (j3.out rfl (Imp.refl (by rfl)) rfl)
theorem b4w (l:List Vt) (hl:Vbs 1073741824 l):FZ 88 [vts l] (ints (K8 l)):=by
 refine kW Tryz.func88 (by cbv) (by rfl) fun w O hw=>?_
 have h1:=a8V l hl
 have h2:=a9K l ⟨by have:=hl.1;omega,fun v hv=>(hl.2 v hv).mono (by decide)⟩
 unfold K8
 generalize L6 l 8=e at *
 generalize l.all okV=q at *
 simp only [j5,TT,II,OA,MM]
 simp only [vts,ints] at *
 (repeat first|refine uA ?_|(apply uK;focus omega)|simp (disch:=omega) only [go_sem,Nat.reduceBEq]|(apply uD h1;exact tz hw;rfl))
 refine S.cond rfl (fun hc=>?_) (fun hc=>?_)
 ·rw [if_pos (by simpa using hc)]
  (repeat first|refine uA ?_|(apply uK;focus omega)|simp (disch:=omega) only [go_sem,Nat.reduceBEq])
  exact S.done (j3.out rfl (Imp.refl rfl) rfl)
 rw [if_neg (by simpa using hc)]
 (repeat first|refine uA ?_|(apply uK;focus omega)|simp (disch:=omega) only [go_sem,Nat.reduceBEq]|(apply uD h2;exact tz hw;rfl))
 refine S.cond rfl (fun hc=>?_) (fun hc=>?_)
 ·rw [if_neg (by simpa using hc)]
  (repeat first|refine uA ?_|(apply uK;focus omega)|simp (disch:=omega) only [go_sem])
  exact S.done (j3.out rfl (Imp.refl rfl) rfl)
 ·rw [if_pos (by simpa using hc)]
  (repeat first|refine uA ?_|(apply uK;focus omega)|simp (disch:=omega) only [go_sem])
  exact S.done (j3.out rfl (Imp.refl rfl) rfl)
end Go.Proofs.YtgpegbfnlkidjaaGreatDoor
namespace Go.Proofs.YtgpegbfnlkidjaaGreatDoor.Eng
open Go Go.RowKit
theorem j6.ofT {E:Ctx} {eff:Nat->Bool} {f:Nat} {fn:Func} {ir:H6} (ht:Tz E) (hf:E.P.funcs[f]?=some fn) (hc:F3 eff E.P fn=some ir) {rs:List Res} {args:List C} {s:C} {rs':List Res} {pk:List Nat} (hn:args.length<=ir.ntmps)
  (h:∀ w own av ν,ν.length=rs.length->Tz ⟨E.P,eff,ir.ntmps,w,own,av,ν,pk⟩->S ⟨E.P,eff,ir.ntmps,w,own,av,ν,pk⟩ (Fin E.P ir.results (b9h ⟨E.P,eff,ir.ntmps,w,own,av,ν,pk⟩ rs' s)) ⟨j5 0 args,rs⟩ [.code ir.body]):j6 E rs f args s rs' pk:=by
 intro av ν w vs hR hav hF hD
 have hR':RG av (owned rs ν) w.heap.size ν rs w:=⟨hR.len,hR.res,hR.dis,fun b hb=>⟨(hR.low b hb).1,(hR.low b hb).2.1,.inl hb⟩,hR.av,c7p _⟩
 have ht':Tz ⟨E.P,eff,ir.ntmps,w,owned rs ν,av,ν,pk⟩:=⟨ht.at hF,fun ho=>by
  rcases (hR.low _ ho).2.2 with h1|h1
  ·exact ht.2 h1
  ·have:=c2O ht.1;omega⟩
 refine (b5s (E:=⟨E.P,eff,ir.ntmps,w,owned rs ν,av,ν,pk⟩) hf hc rfl rfl hR.av rs hR' args hD hn (h w (owned rs ν) av ν hR.len ht')).mono ?_
 rintro e w' ⟨y,rfl,ν',h1,h2,h3,h4⟩
 refine ⟨y,ν',rfl,⟨h1.len,h1.res,h1.dis,fun b hb=>?_,h1.av,c7l hR.n0 h2.size⟩,⟨h2.os,h2.tape,h2.output,h2.size,h2.block,fun b hb=>(h1.low b hb).2.2,h3⟩,h4⟩
 obtain ⟨g1,g2,g3⟩:=h1.low b hb
 refine ⟨g1,g2,?_⟩
 rcases g3 with g3|g3
 ·exact (hR.low b g3).2.2
 ·exact .inr (c7l hR.n0 g3)
def Res.shut:Res->Bool
 | .gone=>false
 | .box _ cs=>C.clL cs
 | .row _ _ _=>true
 | .map _ _=>true
theorem a6d {ν ν':List Value} {w:World} {O O':Nat->Prop} {x:Value} {r:Res} (hs:r.shut=true) (hO:∀ b,O' b->O b) (h:O5 ν w O x r):O5 ν' w O' x r:=by
 cases r with
 | gone=>cases hs
 | box t cs=>
  obtain ⟨b,vs,h1,h2,h3,h4⟩:=h
  exact ⟨b,vs,h1,(FzL.keep (Keeps.sub hO) (h2.fz hs)).den ν',h3,h4⟩
 | row e sz es=>exact a6g hO h
 | map s es=>exact h
theorem c3Y {r r':Res} (hs:r.shut=true) (hs':r'.shut=true) {x:Value} {b:Nat} (h:fp r' x b):fp r x b:=by
 cases r<;>cases r'<;>first|exact False.elim h|exact h|(simp [Res.shut] at hs;done)|(simp [Res.shut] at hs';done)
def at0 (k:Nat):C->C
 | .mp 0=>.mp k
 | .bp 0 o=>.bp k o
 | .rv 0=>.rv k
 | .bnd f (.mp 0)=>.bnd f (.mp k)
 | c=>c
def okA:C->Bool
 | .mp 0=>true
 | .bp 0 _=>true
 | .rv 0=>true
 | .bnd _ (.mp 0)=>true
 | c=>c.cl
theorem c3z {ν:List Value} {w:World} {O O':Nat->Prop} {k:Nat} {x:Value} (hk:ν[k]?=some x) (hO:∀ b,O' b->O b) {c:C} {y:Value} (hc:okA c=true) (h:Den ν w O (at0 k c) y):Den [x] w O' c y:=by
 unfold okA at hc
 split at hc
 ·simp only [at0,Den] at h ⊢
  rw [hk] at h
  exact h
 ·simp only [at0,Den] at h ⊢
  rw [hk] at h
  exact h
 ·simp only [at0,Den] at h ⊢
  rw [hk] at h
  exact h
 ·simp only [at0,Den] at h ⊢
  rw [hk] at h
  exact h
 ·rename_i c0 h1 h2 h3 h4
  have e:at0 k c=c:=by
   cases c with
   | mp j=>cases j with
    | zero=>exact (h1 rfl).elim
    | succ j=>rfl
   | bp j o=>cases j with
    | zero=>exact (h2 _ rfl).elim
    | succ j=>rfl
   | rv j=>cases j with
    | zero=>exact (h3 rfl).elim
    | succ j=>rfl
   | bnd g d=>cases d with
    | mp j=>cases j with
     | zero=>exact (h4 _ rfl).elim
     | succ j=>rfl
    | _=>rfl
   | _=>rfl
  rw [e] at h
  exact (Fz.keep (Keeps.sub hO) (h.fz hc)).den _
theorem b4b {ν:List Value} {w:World} {O O':Nat->Prop} {k:Nat} {x:Value} (hk:ν[k]?=some x) (hO:∀ b,O' b->O b):∀ {cs:List C} {vs:List Value},cs.all okA=true->l8 ν w O (cs.map (at0 k)) vs->l8 [x] w O' cs vs
 | [],vs,_,h=>by simpa only [c7I,l8] using h
 | c::cs,vs,hc,h=>by
  simp only [c7w,l8,List.all_cons,c7q] at h hc ⊢
  obtain ⟨y,ys,e,h1,h2⟩:=h
  exact ⟨y,ys,e,c3z hk hO hc.1 h1,b4b hk hO hc.2 h2⟩
theorem j6.lift {E:Ctx} {rs:List Res} {k f:Nat} {args:List C} {s:C} {r r':Res} (hk:rs[k]?=some r) (h:j6 E [r] f args s [r'] []) (hs:(r.shut && r'.shut)=true) (ha:args.all okA=true) (hc:s.cl=true):j6 E rs f (args.map (at0 k)) s (rs.set k r') []:=by
 rw [c7q] at hs
 intro av ν w vs hR hav hF hD
 obtain ⟨x,hx,hok⟩:=hR.res k r hk
 have hown:∀ b,fp r x b->owned rs ν b:=fun b hb=>⟨k,r,x,hk,hx,hb⟩
 have ho1:∀ (q:Res) b,owned [q] [x] b <-> fp q x b:=fun q b=>by
  constructor
  ·rintro ⟨l,q',y,h1,h2,h3⟩
   cases l with
   | zero=>simp at h1 h2;subst h1 h2;exact h3
   | succ l=>simp at h1
  ·exact fun hb=>⟨0,q,x,rfl,rfl,hb⟩
 let av':Nat->Prop:=fun b=>OO av rs ν b/\¬ fp r x b
 have hOO:∀ b,OO av' [r] [x] b->OO av rs ν b:=fun b hb=>by
  rcases hb with hb|hb
  ·exact hb.1
  ·exact .inr (hown b ((ho1 r b).1 hb))
 have hRG:RG av' E.own0 E.w0.heap.size [x] [r] w:=by
  refine ⟨rfl,fun l q hq=>?_,fun l m q q' y y' b hne h1 h2=>?_,fun b hb=>?_,fun b hb=>?_,hR.n0⟩
  ·cases l with
   | zero=>simp at hq;subst hq;exact ⟨x,rfl,a6d hs.1 hOO hok⟩
   | succ l=>simp at hq
  ·have e1:l=0:=by have:=(c7m.1 h1).1;simp at this;exact this
   have e2:m=0:=by have:=(c7m.1 h2).1;simp at this;exact this
   omega
  ·have hb':=(ho1 r b).1 hb
   obtain ⟨g1,g2,g3⟩:=hR.low b (hown b hb')
   exact ⟨g1,fun h=>h.2 hb',g3⟩
  ·rcases hb.1 with h1|h1
   ·exact hR.av b h1
   ·exact (hR.low b h1).1
 have hav':∀ b,E.av b->av' b:=fun b hb=>⟨.inl (hav b hb),fun hf=>(hR.low b (hown b hf)).2.1 (hav b hb)⟩
 have hD':l8 [x] w (OO av' [r] [x]) args vs:=b4b hx hOO ha hD
 refine (h av' [x] w vs hRG hav' hF hD').mono ?_
 rintro e w' ⟨y,ν',rfl,h1,h2,h3⟩
 have hν:ν'=[x]:=by
  have hl:=h1.len
  have h0:=h2.nu 0 x (fun hm=>by cases hm) rfl
  match ν',hl,h0 with
  | [z],_,h0=>simp at h0;rw [h0]
 subst hν
 have hT:Turned w w' (fp r x):=⟨h2.os,h2.tape,h2.output,h2.size,fun b hb hn=>h2.block b hb fun ho=>hn ((ho1 r b).1 ho)⟩
 have hOO':∀ b,OO av (rs.set k r') ν b->OO av' [r'] [x] b:=fun b hb=>by
  rcases hb with hb|⟨l,q,z,hq,hz,hf⟩
  ·exact .inl ⟨.inl hb,fun hf=>(hR.low b (hown b hf)).2.1 hb⟩
  ·by_cases e:k=l
   ·subst e
    have hkl:=(c7m.1 hk).1
    rw [List.getElem?_set_self hkl] at hq
    rw [hx] at hz
    cases hq
    cases hz
    exact .inr ((ho1 r' b).2 hf)
   ·rw [List.getElem?_set_ne e] at hq
    exact .inl ⟨.inr ⟨l,q,z,hq,hz,hf⟩,fun hf'=>hR.dis k l r q x z b e hk hq hx hz hf' hf⟩
 have hup:=hR.upd (r':=r') hk hx hT (fun b hb=>c3Y hs.1 hs.2 hb) (fun _=>by
  obtain ⟨x',hx',hok'⟩:=h1.res 0 r' rfl
  simp at hx'
  subst hx'
  exact a6d hs.2 hOO' hok')
 exact ⟨y,ν,rfl,hup.1,hup.2,(Fz.keep (Keeps.sub hOO') (h3.fz hc)).den ν⟩
end Go.Proofs.YtgpegbfnlkidjaaGreatDoor.Eng
namespace Go.Proofs.YtgpegbfnlkidjaaGreatDoor
open Go Go.RowKit Eng
set_option maxRecDepth 10000
set_option maxHeartbeats 8000000
theorem c6x (n:Nms) (s:List UInt8):(a1o (.string (bs s)) (nmE n)).getD (.bool false)=.bool (n.contains s):=by
 rw [c3A];cases n.contains s<;>rfl
theorem b3I {E:Ctx} (hP:E.P=Tryz.prog) (n:Nms) (s:List UInt8) (hs:s.length<=1099511627776) :
  j6 E [.map true (nmE n)] 85 [.mp 0,sb s] (ints (M5 n s).1) [.map true (nmE (M5 n s).2)] []:=by
 obtain ⟨P,eff',N,w0,own0,av0,nu0,pk0⟩:=E
 simp only at hP
 subst hP
 refine j6.of (eff:=eff) Tryz.func85 (by cbv) (by exact c7z rfl) fun w own av ν hν=>?_
 have hν0:ν.length<=1:=by rw [hν];exact c7p _
 have h1:=c3Q s hs
 have hk:=c6x n s
 have hp:=c4F n s
 unfold M5
 generalize a1P s=q at *
 generalize n.contains s=c at *
 simp only [j5,TT,II,OA,OB,MM]
 simp only [sb,ints] at *
 (repeat first|refine uA ?_|(refine uK ?_ ?_;focus first|omega|(intros;simp_all<;>omega))|simp (disch:=omega) only [go_sem,Nat.reduceBEq,Nat.reduceAdd]|(refine uB h1 ?_ ?_;exact rfl))
 refine S.cond rfl (fun hc=>?_) (fun hc=>?_)
 ·rw [if_pos (by simpa using hc)]
  (repeat first|refine uA ?_|(refine uK ?_ ?_;focus first|omega|(intros;simp_all<;>omega))|simp (disch:=omega) only [go_sem])
  (refine S.done ?_;simp only [p9,go_sem,Nat.reduceBEq];(repeat (refine ⟨?_,?_⟩;focus first|trivial|omega|simp));exact j3.K9 (Imp.refl rfl) (by (repeat first|refine uA ?_|(refine ⟨?_,?_⟩;focus first|rfl|simp [slot])|rfl|simp)) (c7l hν0 (by simp)))
 rw [if_neg (by simpa using hc)]
 (repeat first|refine uA ?_|(refine uK ?_ ?_;focus first|omega|(intros;simp_all<;>omega))|simp (disch:=omega) only [go_sem,Nat.reduceBEq,hk])
 refine S.cond rfl (fun hc=>?_) (fun hc=>?_)
 ·rw [if_pos hc]
  (repeat first|refine uA ?_|(refine uK ?_ ?_;focus first|omega|(intros;simp_all<;>omega))|simp (disch:=omega) only [go_sem])
  (refine S.done ?_;simp only [p9,go_sem,Nat.reduceBEq];(repeat (refine ⟨?_,?_⟩;focus first|trivial|omega|simp));exact j3.K9 (Imp.refl rfl) (by (repeat first|refine uA ?_|(refine ⟨?_,?_⟩;focus first|rfl|simp [slot])|rfl|simp)) (c7l hν0 (by simp)))
 ·rw [if_neg (by rw [hc];decide)]
  have hp:=hp hc
  (repeat first|refine uA ?_|(refine uK ?_ ?_;focus first|omega|(intros;simp_all<;>omega))|simp (disch:=omega) only [go_sem,Nat.reduceBEq,hp])
  (refine S.done ?_;simp only [p9,go_sem,Nat.reduceBEq];(repeat (refine ⟨?_,?_⟩;focus first|trivial|omega|simp));exact j3.K9 (Imp.refl rfl) (by (repeat first|refine uA ?_|(refine ⟨?_,?_⟩;focus first|rfl|simp [slot])|rfl|simp)) (c7l hν0 (by simp)))
theorem c4V {E:Ctx} (hP:E.P=Tryz.prog) (ht0:Tz E) (n:Nms) (p:Pt) (hb:Pb 1073741824 p) :
  j6 E [.map true (nmE n)] 90 [.mp 0,p.c] (ints (a0V n p).1) [.map true (nmE (a0V n p).2)] []:=by
 obtain ⟨P,eff',N,w0,own0,av0,nu0,pk0⟩:=E
 simp only at hP
 subst hP
 refine j6.ofT (eff:=eff) ht0 Tryz.func90 (by cbv) (by exact c7z rfl) fun w own av ν hν ht=>?_
 have hν0:ν.length<=1:=by rw [hν];exact c7p _
 obtain ⟨name,shape,⟨x,y,half,t⟩⟩:=p
 obtain ⟨b0,b1,b2,b3,b4⟩:=hb
 simp only at b0 b1 b2 b3 b4
 have h1:=fun (E:Ctx) (hP:E.P=Tryz.prog)=>b3I hP n name (by omega)
 have h2:=b4w shape b1
 have h3:=b5u ⟨x,y,half,t⟩ ⟨b2.mono (by decide),b3.mono (by decide),b4.mono (by decide)⟩
 unfold a0V
 simp only
 generalize M5 n name=r at *
 obtain ⟨e1,m⟩:=r
 generalize K8 shape=e2 at *
 generalize okF ⟨x,y,half,t⟩=q at *
 simp only [j5,TT,II,OA,MM,LL,VV,FF]
 simp only [Pt.c,Pt.enc,Fr.c,Fr.enc,vts,sb,ints] at *
 (repeat first|refine uA ?_|(refine uK ?_ ?_;focus first|omega|(intros;simp_all<;>omega))|simp (disch:=omega) only [go_sem,Nat.reduceBEq,Nat.reduceAdd]|refine l9.t (j6.lift (k:=0) rfl (h1 _ rfl) rfl rfl rfl) ?_)
 refine S.cond rfl (fun hc=>?_) (fun hc=>?_)
 ·rw [if_pos (by simpa using hc)]
  (repeat first|refine uA ?_|(refine uK ?_ ?_;focus first|omega|(intros;simp_all<;>omega))|simp (disch:=omega) only [go_sem,Nat.reduceBEq])
  (refine S.done ?_;simp only [p9,go_sem,Nat.reduceBEq];(repeat (refine ⟨?_,?_⟩;focus first|trivial|omega|simp));exact j3.K9 (Imp.refl rfl) (by (repeat first|refine uA ?_|(refine ⟨?_,?_⟩;focus first|rfl|simp [slot])|rfl|simp)) (c7l hν0 (by simp)))
 rw [if_neg (by simpa using hc)]
 (repeat first|refine uA ?_|(refine uK ?_ ?_;focus first|omega|(intros;simp_all<;>omega))|simp (disch:=omega) only [go_sem,Nat.reduceBEq,Nat.reduceAdd]|(refine uD h2 ?_ ?_ ?_;exact ht;exact rfl))
 refine S.cond rfl (fun hc=>?_) (fun hc=>?_)
 ·rw [if_pos (by simpa using hc)]
  (repeat first|refine uA ?_|(refine uK ?_ ?_;focus first|omega|(intros;simp_all<;>omega))|simp (disch:=omega) only [go_sem,Nat.reduceBEq])
  (refine S.done ?_;simp only [p9,go_sem,Nat.reduceBEq];(repeat (refine ⟨?_,?_⟩;focus first|trivial|omega|simp));exact j3.K9 (Imp.refl rfl) (by (repeat first|refine uA ?_|(refine ⟨?_,?_⟩;focus first|rfl|simp [slot])|rfl|simp)) (c7l hν0 (by simp)))
 rw [if_neg (by simpa using hc)]
 (repeat first|refine uA ?_|(refine uK ?_ ?_;focus first|omega|(intros;simp_all<;>omega))|simp (disch:=omega) only [go_sem,Nat.reduceBEq,Nat.reduceAdd]|(refine uD h3 ?_ ?_ ?_;exact ht;exact rfl))
 refine S.cond rfl (fun hc=>?_) (fun hc=>?_)
 ·rw [if_neg (by simpa using hc)]
  (repeat first|refine uA ?_|(refine uK ?_ ?_;focus first|omega|(intros;simp_all<;>omega))|simp (disch:=omega) only [go_sem])
  (refine S.done ?_;simp only [p9,go_sem,Nat.reduceBEq];(repeat (refine ⟨?_,?_⟩;focus first|trivial|omega|simp));exact j3.K9 (Imp.refl rfl) (by (repeat first|refine uA ?_|(refine ⟨?_,?_⟩;focus first|rfl|simp [slot])|rfl|simp)) (c7l hν0 (by simp)))
 ·rw [if_pos (by simpa using hc)]
  (repeat first|refine uA ?_|(refine uK ?_ ?_;focus first|omega|(intros;simp_all<;>omega))|simp (disch:=omega) only [go_sem])
  (refine S.done ?_;simp only [p9,go_sem,Nat.reduceBEq];(repeat (refine ⟨?_,?_⟩;focus first|trivial|omega|simp));exact j3.K9 (Imp.refl rfl) (by (repeat first|refine uA ?_|(refine ⟨?_,?_⟩;focus first|rfl|simp [slot])|rfl|simp)) (c7l hν0 (by simp)))
theorem c6c {E:Ctx} (hP:E.P=Tryz.prog) (ht0:Tz E) (n:Nms) (s:Sl) (hb:Sb 1073741824 s) :
  j6 E [.map true (nmE n)] 92 [.mp 0,s.c] (ints (a0T n s).1) [.map true (nmE (a0T n s).2)] []:=by
 obtain ⟨P,eff',N,w0,own0,av0,nu0,pk0⟩:=E
 simp only at hP
 subst hP
 refine j6.ofT (eff:=eff) ht0 Tryz.func92 (by cbv) (by exact c7z rfl) fun w own av ν hν ht=>?_
 have hν0:ν.length<=1:=by rw [hν];exact c7p _
 obtain ⟨name,⟨x,y,half,t⟩,within⟩:=s
 obtain ⟨b0,⟨b2,b3,b4⟩,b5⟩:=hb
 simp only at b0 b2 b3 b4 b5
 have h1:=fun (E:Ctx) (hP:E.P=Tryz.prog)=>b3I hP n name (by omega)
 have h3:=b5u ⟨x,y,half,t⟩ ⟨b2.mono (by decide),b3.mono (by decide),b4.mono (by decide)⟩
 have h4:=a1v within (b5.mono (by decide))
 have h5:=a4A within (b5.mono (by decide))
 have h6:=a0g within (b5.mono (by decide))
 unfold a0T
 simp only
 generalize M5 n name=r at *
 obtain ⟨e1,m⟩:=r
 generalize okF ⟨x,y,half,t⟩=q1 at *
 generalize decide within.H9=q2 at *
 generalize l6 within=q3 at *
 generalize E9 (Nm.d9 within)=n4 at *
 simp only [j5,TT,II,OA,OC,MM,LL,VV,FF,LG,FG]
 simp only [Sl.c,Sl.enc,Fr.c,Fr.enc,rc,sb,ints] at *
 (repeat first|refine uA ?_|(refine uK ?_ ?_;focus first|omega|(intros;simp_all<;>omega))|simp (disch:=omega) only [go_sem,Nat.reduceBEq,Nat.reduceAdd]|refine l9.t (j6.lift (k:=0) rfl (h1 _ rfl) rfl rfl rfl) ?_)
 refine S.cond rfl (fun hc=>?_) (fun hc=>?_)
 ·rw [if_pos (by simpa using hc)]
  (repeat first|refine uA ?_|(refine uK ?_ ?_;focus first|omega|(intros;simp_all<;>omega))|simp (disch:=omega) only [go_sem,Nat.reduceBEq])
  (refine S.done ?_;simp only [p9,go_sem,Nat.reduceBEq];(repeat (refine ⟨?_,?_⟩;focus first|trivial|omega|simp));exact j3.K9 (Imp.refl rfl) (by (repeat first|refine uA ?_|(refine ⟨?_,?_⟩;focus first|rfl|simp [slot])|rfl|simp)) (c7l hν0 (by simp)))
 rw [if_neg (by simpa using hc)]
 (repeat first|refine uA ?_|(refine uK ?_ ?_;focus first|omega|(intros;simp_all<;>omega))|simp (disch:=omega) only [go_sem,Nat.reduceBEq,Nat.reduceAdd]|(refine uD h3 ?_ ?_ ?_;exact ht;exact rfl)|(refine uD h4 ?_ ?_ ?_;exact ht;exact rfl)|(refine uD h5 ?_ ?_ ?_;exact ht;exact rfl)|(refine uD h6 ?_ ?_ ?_;exact ht;exact rfl))
 refine S.cond rfl (fun hc=>?_) (fun hc=>?_)
 ·rw [if_neg (by simp only [c7Y,Bool.not_eq_true',c7v] at hc;simp only [c7q,c7v];rintro ⟨⟨⟨h7,h8⟩,h9⟩,h10⟩;rcases hc with ((hc|hc)|hc)|hc<;>first|(rw [hc] at h7;cases h7;done)|(rw [hc] at h8;cases h8;done)|(rw [hc] at h9;cases h9;done)|omega)]
  (repeat first|refine uA ?_|(refine uK ?_ ?_;focus first|omega|(intros;simp_all<;>omega))|simp (disch:=omega) only [go_sem])
  (refine S.done ?_;simp only [p9,go_sem,Nat.reduceBEq];(repeat (refine ⟨?_,?_⟩;focus first|trivial|omega|simp));exact j3.K9 (Imp.refl rfl) (by (repeat first|refine uA ?_|(refine ⟨?_,?_⟩;focus first|rfl|simp [slot])|rfl|simp)) (c7l hν0 (by simp)))
 ·rw [if_pos (by simp only [c7V,Bool.not_eq_false',c7H] at hc;simp only [c7q,c7v];obtain ⟨⟨⟨h7,h8⟩,h9⟩,h10⟩:=hc;exact ⟨⟨⟨h7,h8⟩,h9⟩,by omega⟩)]
  (repeat first|refine uA ?_|(refine uK ?_ ?_;focus first|omega|(intros;simp_all<;>omega))|simp (disch:=omega) only [go_sem])
  (refine S.done ?_;simp only [p9,go_sem,Nat.reduceBEq];(repeat (refine ⟨?_,?_⟩;focus first|trivial|omega|simp));exact j3.K9 (Imp.refl rfl) (by (repeat first|refine uA ?_|(refine ⟨?_,?_⟩;focus first|rfl|simp [slot])|rfl|simp)) (c7l hν0 (by simp)))
theorem c5S {E:Ctx} (hP:E.P=Tryz.prog) (ht0:Tz E) (n:Nms) (g:Gt) (hb:Gb 1073741824 g) :
  j6 E [.map true (nmE n)] 94 [.mp 0,g.c] (ints (a0R n g).1) [.map true (nmE (a0R n g).2)] []:=by
 obtain ⟨P,eff',N,w0,own0,av0,nu0,pk0⟩:=E
 simp only at hP
 subst hP
 refine j6.ofT (eff:=eff) ht0 Tryz.func94 (by cbv) (by exact c7z rfl) fun w own av ν hν ht=>?_
 have hν0:ν.length<=1:=by rw [hν];exact c7p _
 obtain ⟨name,⟨lx,ly⟩,⟨hx,hy⟩⟩:=g
 obtain ⟨b0,⟨b1,b2⟩,⟨b3,b4⟩⟩:=hb
 simp only at b0 b1 b2 b3 b4
 have h1:=fun (E:Ctx) (hP:E.P=Tryz.prog)=>b3I hP n name (by omega)
 have h3:=a9K [⟨lx,ly⟩,⟨hx,hy⟩] (Vbs.two (by decide) ⟨b1.mono (by decide),b2.mono (by decide)⟩ ⟨b3.mono (by decide),b4.mono (by decide)⟩)
 rw [b2b] at h3
 have h4:=Q9 lx hx (b1.mono (by decide)) (b3.mono (by decide))
 have h5:=Q9 ly hy (b2.mono (by decide)) (b4.mono (by decide))
 unfold a0R
 simp only
 generalize M5 n name=r at *
 obtain ⟨e1,m⟩:=r
 generalize (okV ⟨lx,ly⟩ && okV ⟨hx,hy⟩)=q1 at *
 generalize Nm.q9 (Nm.d9 lx) (Nm.d9 hx)=n1 at *
 generalize Nm.q9 (Nm.d9 ly) (Nm.d9 hy)=n2 at *
 simp only [j5,TT,II,OA,OC,MM,LL,VV,FF,LG,FG]
 simp only [Gt.c,Gt.enc,vts,Vt.enc,rc,sb,ints,c7w,c7I] at *
 (repeat first|refine uA ?_|(refine uK ?_ ?_;focus first|omega|(intros;simp_all<;>omega))|simp (disch:=omega) only [go_sem,Nat.reduceBEq,Nat.reduceAdd]|refine l9.t (j6.lift (k:=0) rfl (h1 _ rfl) rfl rfl rfl) ?_)
 refine S.cond rfl (fun hc=>?_) (fun hc=>?_)
 ·rw [if_pos (by simpa using hc)]
  (repeat first|refine uA ?_|(refine uK ?_ ?_;focus first|omega|(intros;simp_all<;>omega))|simp (disch:=omega) only [go_sem,Nat.reduceBEq])
  (refine S.done ?_;simp only [p9,go_sem,Nat.reduceBEq];(repeat (refine ⟨?_,?_⟩;focus first|trivial|omega|simp));exact j3.K9 (Imp.refl rfl) (by (repeat first|refine uA ?_|(refine ⟨?_,?_⟩;focus first|rfl|simp [slot])|rfl|simp)) (c7l hν0 (by simp)))
 rw [if_neg (by simpa using hc)]
 (repeat first|refine uA ?_|(refine uK ?_ ?_;focus first|omega|(intros;simp_all<;>omega))|simp (disch:=omega) only [go_sem,Nat.reduceBEq,Nat.reduceAdd]|(refine uD h4 ?_ ?_ ?_;exact ht;exact rfl)|(refine uD h5 ?_ ?_ ?_;exact ht;exact rfl)|(refine uE h3 ?_ ?_ ?_ ?_;exact ht;exact rfl;focus (repeat' first|exact j4.nil|exact Imp.refl rfl|exact Imp.frz rfl rfl rfl|(refine Imp.V5 rfl rfl ?_ ?_;(focus ((try simp only [c7t]);omega));(focus first|rfl|assumption))|refine j4.cons ?_ ?_);done))
 refine S.cond rfl (fun hc=>?_) (fun hc=>?_)
 ·rw [if_neg (by simp only [c7Y,Bool.not_eq_true',c7v] at hc;simp only [c7q,c7v];rintro ⟨⟨h7,h8⟩,h9⟩;rcases hc with (hc|hc)|hc<;>first|(rw [hc] at h7;cases h7;done)|omega)]
  (repeat first|refine uA ?_|(refine uK ?_ ?_;focus first|omega|(intros;simp_all<;>omega))|simp (disch:=omega) only [go_sem])
  (refine S.done ?_;simp only [p9,go_sem,Nat.reduceBEq];(repeat (refine ⟨?_,?_⟩;focus first|trivial|omega|simp));exact j3.K9 (Imp.refl rfl) (by (repeat first|refine uA ?_|(refine ⟨?_,?_⟩;focus first|rfl|simp [slot])|rfl|simp)) (c7l hν0 (by simp)))
 ·rw [if_pos (by simp only [c7V,Bool.not_eq_false',c7H] at hc;simp only [c7q,c7v];obtain ⟨⟨h7,h8⟩,h9⟩:=hc;exact ⟨⟨h7,by omega⟩,by omega⟩)]
  (repeat first|refine uA ?_|(refine uK ?_ ?_;focus first|omega|(intros;simp_all<;>omega))|simp (disch:=omega) only [go_sem])
  (refine S.done ?_;simp only [p9,go_sem,Nat.reduceBEq];(repeat (refine ⟨?_,?_⟩;focus first|trivial|omega|simp));exact j3.K9 (Imp.refl rfl) (by (repeat first|refine uA ?_|(refine ⟨?_,?_⟩;focus first|rfl|simp [slot])|rfl|simp)) (c7l hν0 (by simp)))
theorem b7U {E:Ctx} (hP:E.P=Tryz.prog) (ht0:Tz E) (n:Nms) (l:List Pt) (hn:l.length<=1073741824) (hb:∀ x ∈ l,Pb 1073741824 x) :
  j6 E [.map true (nmE n)] 89 [pts l,.bnd 90 (.mp 0)] (ints (u7 a0V n l).1) [.map true (nmE (u7 a0V n l).2)] []:=by
 obtain ⟨P,eff',N,w0,own0,av0,nu0,pk0⟩:=E
 simp only at hP
 subst hP
 refine j6.ofT (eff:=eff) ht0 Tryz.func89 (by cbv) (by exact c7z rfl) fun w own av ν hν ht=>?_
 have hν0:ν.length<=1:=by rw [hν];exact c7p _
 simp only [j5,TT,II,OA,OB,MM,LL,pts,ints]
 (repeat first|refine uA ?_|(apply uK;focus omega)|simp (disch:=omega) only [go_sem,Nat.reduceBEq,c7i])
 refine S.loop (X:=Nat × Nms) (fun x=>⟨[(1,.bnd 90 (.mp 0)),(8,pts l),(9,ints l.length),(10,ints x.1)],[.map true (nmE x.2)]⟩) (fun x=>x.1<=l.length/\u7 a0V n l=u7 a0V x.2 (l.drop x.1)) (fun x=>l.length-x.1) (0,n) ⟨c7n _,rfl⟩ (by (repeat first|refine uA ?_|(refine ⟨?_,?_⟩;focus first|rfl|trivial|(simp [slot];done))|rfl|trivial|simp|exact c7l hν0 (by simp))) ?_
 rintro ⟨i,m⟩ ⟨hi,hg⟩
 simp only [pts,ints] at hi hg ⊢
 (repeat first|refine uA ?_|(apply uK;focus omega)|simp (disch:=omega) only [go_sem,Nat.reduceBEq])
 (refine uJ rfl (fun hc=>?_) fun hc=>?_)
 ·have hi':i < l.length:=by omega
  have hgi:=c7h hi'
  generalize l[i]=x at hgi
  have hst:=a2R (f:=a0V) (s:=m) hgi
  have hnx:=a2N (f:=a0V) (s:=m) hgi
  have hs:=fun (E:Ctx) (hP:E.P=Tryz.prog) (ht:Tz E)=>c4V hP ht m x (hb x (c7k hgi))
  generalize a0V m x=r at *
  obtain ⟨e,m'⟩:=r
  simp only [Pt.c,Pt.enc,vts,sb,ints] at hs hst hnx
  (repeat first|refine uA ?_|(refine uK ?_ ?_;focus first|omega|trivial|(intros;simp_all<;>omega))|simp (disch:=omega) only [go_sem,Nat.reduceBEq,Nat.reduceAdd,Nat.reduceLeDiff,hgi,c7j,c7i,Pt.enc,vts,sb]|refine l9.t (j6.lift (k:=0) rfl (hs _ rfl ht) rfl rfl rfl) ?_)
  refine S.cond rfl (fun hc2=>?_) (fun hc2=>?_)
  ·rw [hg,hst (by simpa using hc2)]
   (repeat first|refine uA ?_|(apply uK;focus omega)|simp (disch:=omega) only [go_sem,Nat.reduceBEq])
   (refine S.done ?_;simp only [p9,go_sem,Nat.reduceBEq];exact j3.K9 (Imp.refl rfl) (by (repeat first|refine uA ?_|rfl|simp [slot])) (c7l hν0 (by simp)))
  ·have hc3:e=0:=by simpa using hc2
   (repeat first|refine uA ?_|(apply uK;focus omega)|simp (disch:=omega) only [go_sem,Nat.reduceBEq,ww])
   refine S.next (x:=(i,m)) (i+1,m') ⟨by simp only;omega,by simp only;rw [hg,hnx hc3]⟩ (by simp only;omega) (by (repeat first|refine uA ?_|(refine ⟨?_,?_⟩;focus first|rfl|trivial|(simp [slot];done))|rfl|trivial|simp|exact c7l hν0 (by simp)))
 ·rw [hg,a3R (by omega)]
  (repeat first|refine uA ?_|(apply uK;focus omega)|simp (disch:=omega) only [go_sem])
  (refine S.done ?_;simp only [p9,go_sem,Nat.reduceBEq];exact j3.K9 (Imp.refl rfl) (by (repeat first|refine uA ?_|rfl|simp [slot])) (c7l hν0 (by simp)))
theorem b8y {E:Ctx} (hP:E.P=Tryz.prog) (ht0:Tz E) (n:Nms) (l:List Sl) (hn:l.length<=1073741824) (hb:∀ x ∈ l,Sb 1073741824 x) :
  j6 E [.map true (nmE n)] 91 [sls l,.bnd 92 (.mp 0)] (ints (u7 a0T n l).1) [.map true (nmE (u7 a0T n l).2)] []:=by
 obtain ⟨P,eff',N,w0,own0,av0,nu0,pk0⟩:=E
 simp only at hP
 subst hP
 refine j6.ofT (eff:=eff) ht0 Tryz.func91 (by cbv) (by exact c7z rfl) fun w own av ν hν ht=>?_
 have hν0:ν.length<=1:=by rw [hν];exact c7p _
 simp only [j5,TT,II,OA,OB,MM,LL,sls,ints]
 (repeat first|refine uA ?_|(apply uK;focus omega)|simp (disch:=omega) only [go_sem,Nat.reduceBEq,c7i])
 refine S.loop (X:=Nat × Nms) (fun x=>⟨[(1,.bnd 92 (.mp 0)),(8,sls l),(9,ints l.length),(10,ints x.1)],[.map true (nmE x.2)]⟩) (fun x=>x.1<=l.length/\u7 a0T n l=u7 a0T x.2 (l.drop x.1)) (fun x=>l.length-x.1) (0,n) ⟨c7n _,rfl⟩ (by (repeat first|refine uA ?_|(refine ⟨?_,?_⟩;focus first|rfl|trivial|(simp [slot];done))|rfl|trivial|simp|exact c7l hν0 (by simp))) ?_
 rintro ⟨i,m⟩ ⟨hi,hg⟩
 simp only [sls,ints] at hi hg ⊢
 (repeat first|refine uA ?_|(apply uK;focus omega)|simp (disch:=omega) only [go_sem,Nat.reduceBEq])
 (refine uJ rfl (fun hc=>?_) fun hc=>?_)
 ·have hi':i < l.length:=by omega
  have hgi:=c7h hi'
  generalize l[i]=x at hgi
  have hst:=a2R (f:=a0T) (s:=m) hgi
  have hnx:=a2N (f:=a0T) (s:=m) hgi
  have hs:=fun (E:Ctx) (hP:E.P=Tryz.prog) (ht:Tz E)=>c6c hP ht m x (hb x (c7k hgi))
  generalize a0T m x=r at *
  obtain ⟨e,m'⟩:=r
  simp only [Sl.c,Sl.enc,sb,ints] at hs hst hnx
  (repeat first|refine uA ?_|(refine uK ?_ ?_;focus first|omega|trivial|(intros;simp_all<;>omega))|simp (disch:=omega) only [go_sem,Nat.reduceBEq,Nat.reduceAdd,Nat.reduceLeDiff,hgi,c7j,c7i,Sl.enc,sb]|refine l9.t (j6.lift (k:=0) rfl (hs _ rfl ht) rfl rfl rfl) ?_)
  refine S.cond rfl (fun hc2=>?_) (fun hc2=>?_)
  ·rw [hg,hst (by simpa using hc2)]
   (repeat first|refine uA ?_|(apply uK;focus omega)|simp (disch:=omega) only [go_sem,Nat.reduceBEq])
   (refine S.done ?_;simp only [p9,go_sem,Nat.reduceBEq];exact j3.K9 (Imp.refl rfl) (by (repeat first|refine uA ?_|rfl|simp [slot])) (c7l hν0 (by simp)))
  ·have hc3:e=0:=by simpa using hc2
   (repeat first|refine uA ?_|(apply uK;focus omega)|simp (disch:=omega) only [go_sem,Nat.reduceBEq,ww])
   refine S.next (x:=(i,m)) (i+1,m') ⟨by simp only;omega,by simp only;rw [hg,hnx hc3]⟩ (by simp only;omega) (by (repeat first|refine uA ?_|(refine ⟨?_,?_⟩;focus first|rfl|trivial|(simp [slot];done))|rfl|trivial|simp|exact c7l hν0 (by simp)))
 ·rw [hg,a3R (by omega)]
  (repeat first|refine uA ?_|(apply uK;focus omega)|simp (disch:=omega) only [go_sem])
  (refine S.done ?_;simp only [p9,go_sem,Nat.reduceBEq];exact j3.K9 (Imp.refl rfl) (by (repeat first|refine uA ?_|rfl|simp [slot])) (c7l hν0 (by simp)))
theorem b9l {E:Ctx} (hP:E.P=Tryz.prog) (ht0:Tz E) (n:Nms) (l:List Gt) (hn:l.length<=1073741824) (hb:∀ x ∈ l,Gb 1073741824 x) :
  j6 E [.map true (nmE n)] 93 [gts l,.bnd 94 (.mp 0)] (ints (u7 a0R n l).1) [.map true (nmE (u7 a0R n l).2)] []:=by
 obtain ⟨P,eff',N,w0,own0,av0,nu0,pk0⟩:=E
 simp only at hP
 subst hP
 refine j6.ofT (eff:=eff) ht0 Tryz.func93 (by cbv) (by exact c7z rfl) fun w own av ν hν ht=>?_
 have hν0:ν.length<=1:=by rw [hν];exact c7p _
 simp only [j5,TT,II,OA,OB,MM,LL,gts,ints]
 (repeat first|refine uA ?_|(apply uK;focus omega)|simp (disch:=omega) only [go_sem,Nat.reduceBEq,c7i])
 refine S.loop (X:=Nat × Nms) (fun x=>⟨[(1,.bnd 94 (.mp 0)),(8,gts l),(9,ints l.length),(10,ints x.1)],[.map true (nmE x.2)]⟩) (fun x=>x.1<=l.length/\u7 a0R n l=u7 a0R x.2 (l.drop x.1)) (fun x=>l.length-x.1) (0,n) ⟨c7n _,rfl⟩ (by (repeat first|refine uA ?_|(refine ⟨?_,?_⟩;focus first|rfl|trivial|(simp [slot];done))|rfl|trivial|simp|exact c7l hν0 (by simp))) ?_
 rintro ⟨i,m⟩ ⟨hi,hg⟩
 simp only [gts,ints] at hi hg ⊢
 (repeat first|refine uA ?_|(apply uK;focus omega)|simp (disch:=omega) only [go_sem,Nat.reduceBEq])
 (refine uJ rfl (fun hc=>?_) fun hc=>?_)
 ·have hi':i < l.length:=by omega
  have hgi:=c7h hi'
  generalize l[i]=x at hgi
  have hst:=a2R (f:=a0R) (s:=m) hgi
  have hnx:=a2N (f:=a0R) (s:=m) hgi
  have hs:=fun (E:Ctx) (hP:E.P=Tryz.prog) (ht:Tz E)=>c5S hP ht m x (hb x (c7k hgi))
  generalize a0R m x=r at *
  obtain ⟨e,m'⟩:=r
  simp only [Gt.c,Gt.enc,sb,ints] at hs hst hnx
  (repeat first|refine uA ?_|(refine uK ?_ ?_;focus first|omega|trivial|(intros;simp_all<;>omega))|simp (disch:=omega) only [go_sem,Nat.reduceBEq,Nat.reduceAdd,Nat.reduceLeDiff,hgi,c7j,c7i,Gt.enc,sb]|refine l9.t (j6.lift (k:=0) rfl (hs _ rfl ht) rfl rfl rfl) ?_)
  refine S.cond rfl (fun hc2=>?_) (fun hc2=>?_)
  ·rw [hg,hst (by simpa using hc2)]
   (repeat first|refine uA ?_|(apply uK;focus omega)|simp (disch:=omega) only [go_sem,Nat.reduceBEq])
   (refine S.done ?_;simp only [p9,go_sem,Nat.reduceBEq];exact j3.K9 (Imp.refl rfl) (by (repeat first|refine uA ?_|rfl|simp [slot])) (c7l hν0 (by simp)))
  ·have hc3:e=0:=by simpa using hc2
   (repeat first|refine uA ?_|(apply uK;focus omega)|simp (disch:=omega) only [go_sem,Nat.reduceBEq,ww])
   refine S.next (x:=(i,m)) (i+1,m') ⟨by simp only;omega,by simp only;rw [hg,hnx hc3]⟩ (by simp only;omega) (by (repeat first|refine uA ?_|(refine ⟨?_,?_⟩;focus first|rfl|trivial|(simp [slot];done))|rfl|trivial|simp|exact c7l hν0 (by simp)))
 ·rw [hg,a3R (by omega)]
  (repeat first|refine uA ?_|(apply uK;focus omega)|simp (disch:=omega) only [go_sem])
  (refine S.done ?_;simp only [p9,go_sem,Nat.reduceBEq];exact j3.K9 (Imp.refl rfl) (by (repeat first|refine uA ?_|rfl|simp [slot])) (c7l hν0 (by simp)))
theorem b8J (l:List (List Vt)) (hn:l.length<=1073741824) (hb:∀ x ∈ l,Vbs 1073741824 x):FZ 87 [wls l,.v (.func (.func 88) #[] #[])] (ints (I5 K8 l)):=by
 refine kW Tryz.func87 (by cbv) (by rfl) fun w O hw=>?_
 have hcal:callable Tryz.prog 88=true:=by kernel_rfl
 simp only [j5,TT,II,OA,MM,VV,wls,ints]
 (repeat first|refine uA ?_|(apply uK;focus omega)|simp (disch:=omega) only [go_sem,Nat.reduceBEq,c7i])
 refine S.loop (X:=Nat) (fun i=>⟨[(1,.v (.func (.func 88) #[] #[])),(8,wls l),(9,ints l.length),(10,ints i)],[]⟩) (fun i=>i<=l.length/\I5 K8 l=I5 K8 (l.drop i)) (fun i=>l.length-i) 0 ⟨c7n _,rfl⟩ (by (repeat first|refine uA ?_|(refine ⟨?_,?_⟩;focus first|rfl|trivial|(simp [slot];done))|rfl|trivial|simp)) ?_
 rintro i ⟨hi,hg⟩
 simp only [wls,ints] at hi hg ⊢
 (repeat first|refine uA ?_|(apply uK;focus omega)|simp (disch:=omega) only [go_sem,Nat.reduceBEq])
 (refine uJ rfl (fun hc=>?_) fun hc=>?_)
 ·have hi':i < l.length:=by omega
  have hgi:=c7h hi'
  generalize l[i]=x at hgi
  have hst:=a2f (f:=K8) hgi
  have hnx:=a2d (f:=K8) hgi
  have hs:=b4w x (hb x (c7k hgi))
  generalize K8 x=e at *
  simp only [ints] at hs
  (repeat first|refine uA ?_|(refine uK ?_ ?_;focus first|omega|trivial|(intros;simp_all<;>omega))|simp (disch:=omega) only [go_sem,Nat.reduceBEq,hgi,c7j,c7i,hcal]|(refine uD hs ?_ ?_ ?_;exact tz hw;exact rfl))
  refine S.cond rfl (fun hc2=>?_) (fun hc2=>?_)
  ·rw [hg,hst (by simpa using hc2)]
   (repeat first|refine uA ?_|(apply uK;focus omega)|simp (disch:=omega) only [go_sem,Nat.reduceBEq])
   exact S.done (j3.out rfl (Imp.refl rfl) rfl)
  ·have hc3:e=0:=by simpa using hc2
   (repeat first|refine uA ?_|(apply uK;focus omega)|simp (disch:=omega) only [go_sem,Nat.reduceBEq,ww])
   refine S.next (i+1) ⟨by omega,by rw [hg,hnx hc3]⟩ (by omega) (by (repeat first|refine uA ?_|(refine ⟨?_,?_⟩;focus first|rfl|trivial|(simp [slot];done))|rfl|trivial|simp))
 ·rw [hg,a2T (by omega)]
  (repeat first|refine uA ?_|(apply uK;focus omega)|simp (disch:=omega) only [go_sem])
  exact S.done (j3.out rfl (Imp.refl rfl) rfl)
end Go.Proofs.YtgpegbfnlkidjaaGreatDoor
namespace Go.Proofs.YtgpegbfnlkidjaaGreatDoor.Eng
open Go Go.RowKit
def Res.bdr (n:Nat):Res->Bool
 | .box _ cs=>C.bdL n cs
 | _=>true
theorem c5c {ν:List Value} {w:World} {O O':Nat->Prop} {x:Value} {r:Res} {n:Nat} (hs:r.bdr n=true) (hO:∀ b,O' b->O b) (h:O5 ν w O x r):O5 (ν.take n) w O' x r:=by
 cases r with
 | gone=>exact h
 | box t cs=>
  obtain ⟨b,vs,h1,h2,h3,h4⟩:=h
  exact ⟨b,vs,h1,l8.keep (Keeps.sub hO) (l8.takeν n hs h2),h3,h4⟩
 | row e sz es=>exact a6g hO h
 | map s es=>exact h
theorem c6i {ν ν':List Value} {w:World} {O O':Nat->Prop} {x:Value} {r:Res} (hn:Z0 [] ν ν') (hO:∀ b,O' b->O b) (h:O5 ν w O x r):O5 ν' w O' x r:=by
 cases r with
 | gone=>exact h
 | box t cs=>
  obtain ⟨b,vs,h1,h2,h3,h4⟩:=h
  exact ⟨b,vs,h1,l8.keep (Keeps.sub hO) (l8.nu hn (fun k hk=>by cases hk) h2),h3,h4⟩
 | row e sz es=>exact a6g hO h
 | map s es=>exact h
theorem Z0.take (ν:List Value) (n:Nat):Z0 [] (ν.take n) ν:=fun _ _ _ h=>a0P h
theorem c6f {ν ν':List Value} (h:Z0 [] ν ν') (hl:ν'.length=ν.length):ν'=ν:=by
 apply List.ext_getElem?
 intro i
 rcases c7D i ν.length with h1|h1
 ·have:=h i _ (fun hk=>by cases hk) (c7h h1)
  rw [this,c7h h1]
 ·rw [c7J h1,c7J (by omega)]
theorem a7S {rs ext:List Res} {ν:List Value} (hl:ν.length=(rs++ext).length) (b:Nat):owned (rs++ext) ν b <-> owned rs (ν.take rs.length) b \/ ∃ k r x,ext[k]?=some r/\ν[rs.length+k]?=some x/\fp r x b:=by
 constructor
 ·rintro ⟨k,r,x,h1,h2,h3⟩
  rcases c7D k rs.length with h|h
  ·rw [c7B h] at h1
   exact .inl ⟨k,r,x,h1,P5 h h2,h3⟩
  ·rw [c7F h] at h1
   exact .inr ⟨k-rs.length,r,x,h1,by rw [show rs.length+(k-rs.length)=k by omega];exact h2,h3⟩
 ·rintro (⟨k,r,x,h1,h2,h3⟩|⟨k,r,x,h1,h2,h3⟩)
  ·have h:=(c7m.1 h1).1
   exact ⟨k,r,x,by rw [c7B h];exact h1,a0P h2,h3⟩
  ·exact ⟨rs.length+k,r,x,by rw [c7F (by omega),show rs.length+k-rs.length=k by omega];exact h1,h2,h3⟩
theorem j6.ext {E:Ctx} {rs rs':List Res} (ex:List Res) {f:Nat} {args:List C} {s:C} (h:j6 E rs f args s rs' []) (hl:rs'.length=rs.length) (hb:rs.all (Res.bdr rs.length)=true) (ha:C.bdL rs.length args=true):j6 E (rs++ex) f args s (rs'++ex) []:=by
  intro av ν w vs hR hav hF hD
  have hlen:=hR.len
  have hl1:(ν.take rs.length).length=rs.length:=by rw [c7s,hlen,c7t];omega
  generalize hν1:ν.take rs.length=ν1 at hl1
  have hown:=fun b=>a7S hlen b
  rw [hν1] at hown
  have hx:∀ b k r x,ex[k]?=some r->ν[rs.length+k]?=some x->fp r x b->¬ owned rs ν1 b:=by
    rintro b k r x h1 h2 h3 ⟨l,q,y,g1,g2,g3⟩
    have hlt:=(c7m.1 g1).1
    rw [<- hν1] at g2
    exact hR.dis l (rs.length+k) q r y x b (by omega) (by rw [c7B hlt];exact g1) (by rw [c7F (by omega),show rs.length+k-rs.length=k by omega];exact h1) (a0P g2) h2 g3 h3
  let av':Nat->Prop:=fun b=>OO av (rs++ex) ν b/\¬ owned rs ν1 b
  have hOO:∀ b,OO av' rs ν1 b->OO av (rs++ex) ν b:=fun b hb=>by
    rcases hb with hb|hb
    · exact hb.1
    · exact .inr ((hown b).2 (.inl hb))
  have hRG:RG av' E.own0 E.w0.heap.size ν1 rs w:=by
    refine ⟨hl1,fun k r hk=>?_,fun l m q q' y y' b hne h1 h2 h3 h4=>?_,fun b hb=>?_,fun b hb=>?_,hR.n0⟩
    · have hlt:=(c7m.1 hk).1
      obtain ⟨x,hx,hok⟩:=hR.res k r (by rw [c7B hlt];exact hk)
      refine ⟨x,by rw [<- hν1];exact P5 hlt hx,?_⟩
      rw [<- hν1]
      rw [List.all_eq_true] at hb
      exact c5c (hb r (c7k hk)) (by rw [hν1];exact hOO) hok
    · have g1:=(c7m.1 h1).1
      have g2:=(c7m.1 h2).1
      rw [<- hν1] at h3 h4
      exact hR.dis l m q q' y y' b hne (by rw [c7B g1];exact h1) (by rw [c7B g2];exact h2) (a0P h3) (a0P h4)
    · obtain ⟨g1,g2,g3⟩:=hR.low b ((hown b).2 (.inl hb))
      exact ⟨g1,fun h=>h.2 hb,g3⟩
    · rcases hb.1 with h1|h1
      · exact hR.av b h1
      · exact (hR.low b h1).1
  have hnav:∀ b,av b->¬ owned rs ν1 b:=fun b hb ho=>(hR.low b ((hown b).2 (.inl ho))).2.1 hb
  have hD':l8 ν1 w (OO av' rs ν1) args vs:=by
    have:=l8.keep (Keeps.sub hOO) (l8.takeν rs.length ha hD)
    rwa [hν1] at this
  refine (h av' ν1 w vs hRG (fun b hb=>⟨.inl (hav b hb),hnav b (hav b hb)⟩) hF hD').mono ?_
  rintro e w' ⟨y,ν',rfl,h1,h2,h3⟩
  have hν':ν'=ν1:=c6f h2.nu (by rw [h1.len,hl,hl1])
  subst hν'
  have hlen':ν.length=(rs'++ex).length:=by rw [hlen,c7t,c7t,hl]
  have hν1':ν.take rs'.length=ν':=by rw [hl];exact hν1
  have hown':=fun b=>a7S hlen' b
  rw [hν1',hl] at hown'
  have hnu:Z0 [] ν' ν:=by rw [<- hν1];exact Z0.take ν _
  have hxo:∀ b k r x,ex[k]?=some r->ν[rs.length+k]?=some x->fp r x b->owned (rs++ex) ν b:=fun b k r x g1 g2 g3=>(hown b).2 (.inr ⟨k,r,x,g1,g2,g3⟩)
  have hOO':∀ b,OO av (rs'++ex) ν b->OO av' rs' ν' b:=fun b hb=>by
    rcases hb with hb|hb
    · exact .inl ⟨.inl hb,hnav b hb⟩
    · rcases (hown' b).1 hb with hb|⟨k,r,x,g1,g2,g3⟩
      · exact .inr hb
      · exact .inl ⟨.inr (hxo b k r x g1 g2 g3),hx b k r x g1 g2 g3⟩
  have hM:Mv (rs++ex) ν w [] (rs'++ex) ν w':=by
    refine ⟨h2.os,h2.tape,h2.output,h2.size,fun b hb hn=>h2.block b hb fun ho=>hn ((hown b).2 (.inl ho)),fun b hb=>?_,fun _ _ _ h=>h⟩
    rcases (hown' b).1 hb with hb|⟨k,r,x,g1,g2,g3⟩
    · rcases h2.own b hb with g|g
      · exact .inl ((hown b).2 (.inl g))
      · exact .inr g
    · exact .inl (hxo b k r x g1 g2 g3)
  refine ⟨y,ν,rfl,⟨hlen',fun k r hk=>?_,fun l m q q' z z' b hne g1 g2 g3 g4 g5=>?_,fun b hb=>?_,fun b hb=>c7L (hR.av b hb) h2.size,c7l hR.n0 h2.size⟩,hM,Den.keep (Keeps.sub hOO') (Den.nu hnu (fun k hk=>by cases hk) h3)⟩
  · rcases c7D k rs'.length with hlt|hge
    · rw [c7B hlt] at hk
      obtain ⟨x,hx',hok⟩:=h1.res k r hk
      exact ⟨x,hnu k x (fun hk=>by cases hk) hx',c6i hnu hOO' hok⟩
    · have hk':(rs++ex)[k]?=some r:=by
        rw [c7F hge] at hk
        rw [c7F (by omega),<- hl];exact hk
      obtain ⟨x,hx',hok⟩:=hR.res k r hk'
      refine ⟨x,hx',?_⟩
      have:=hok.mv (O':=OO av (rs'++ex) ν) (hM.keeps (av:=av)) hM.nu (fun b hf=>h2.block b (hR.lt hk' hx' hf) (by
        rw [c7F hge] at hk
        exact hx b (k-rs'.length) r x hk (by rw [show rs.length+(k-rs'.length)=k by omega];exact hx') hf))
      rwa [a3d] at this
  · rcases c7D l rs'.length with hl1'|hl1'<;>rcases c7D m rs'.length with hm1|hm1
    · rw [c7B hl1'] at g1
      rw [c7B hm1] at g2
      have e1:ν'[l]?=some z:=by rw [<- hν1'];exact P5 hl1' g3
      have e2:ν'[m]?=some z':=by rw [<- hν1'];exact P5 hm1 g4
      exact h1.dis l m q q' z z' b hne g1 g2 e1 e2 g5
    · rw [c7B hl1'] at g1
      rw [c7F hm1] at g2
      have e1:ν'[l]?=some z:=by rw [<- hν1'];exact P5 hl1' g3
      have g4':ν[rs.length+(m-rs'.length)]?=some z':=by rw [show rs.length+(m-rs'.length)=m by omega];exact g4
      intro hf
      rcases h2.own b ⟨l,q,z,g1,e1,g5⟩ with ho|ho
      · exact hx b _ q' z' g2 g4' hf ho
      · have:=(hR.low b (hxo b _ q' z' g2 g4' hf)).1;omega
    · rw [c7F hl1'] at g1
      rw [c7B hm1] at g2
      have e2:ν'[m]?=some z':=by rw [<- hν1'];exact P5 hm1 g4
      have g3':ν[rs.length+(l-rs'.length)]?=some z:=by rw [show rs.length+(l-rs'.length)=l by omega];exact g3
      intro hf
      rcases h2.own b ⟨m,q',z',g2,e2,hf⟩ with ho|ho
      · exact hx b _ q z g1 g3' g5 ho
      · have:=(hR.low b (hxo b _ q z g1 g3' g5)).1;omega
    · rw [c7F hl1'] at g1
      rw [c7F hm1] at g2
      exact hR.dis l m q q' z z' b hne (by rw [c7F (by omega),<- hl];exact g1) (by rw [c7F (by omega),<- hl];exact g2) g3 g4 g5
  · rcases (hown' b).1 hb with hb|⟨k,r,x,g1,g2,g3⟩
    · obtain ⟨a1,a2,a3⟩:=h1.low b hb
      exact ⟨a1,fun ha=>a2 ⟨.inl ha,hnav b ha⟩,a3⟩
    · obtain ⟨a1,a2,a3⟩:=hR.low b (hxo b k r x g1 g2 g3)
      exact ⟨c7L a1 h2.size,a2,a3⟩
end Go.Proofs.YtgpegbfnlkidjaaGreatDoor.Eng
namespace Go.Proofs.YtgpegbfnlkidjaaGreatDoor
open Go Go.RowKit Eng
set_option maxRecDepth 10000
set_option maxHeartbeats 8000000
def rsW (w:Wk) (n:Nms):List Res:=[.box 31 w.enc,.map true (nmE n),.box 154 [.mp 1]]
theorem c2b {E:Ctx} (hP:E.P=Tryz.prog) (ht0:Tz E) (w:Wk) (n:Nms) (a:Am) (hb:Ab 1073741824 a) :
  j6 E (rsW w n) 84 [a.c,.bp 2 0] (ints (a2r n a).1) (rsW w (a2r n a).2) []:=by
 obtain ⟨P,eff',N,w0,own0,av0,nu0,pk0⟩:=E
 simp only at hP
 subst hP
 refine j6.ofT (eff:=eff) ht0 Tryz.func84 (by cbv) (by exact c7z rfl) fun w' own av ν hν ht=>?_
 have hν0:ν.length<=3:=by rw [hν];exact c7p _
 have b0:=hb.1
 have h2:=b0X a hb
 have h1:=fun (E:Ctx) (hP:E.P=Tryz.prog)=>b3I hP n a.name (by omega)
 unfold a2r
 generalize M5 n a.name=r at *
 obtain ⟨e1,m⟩:=r
 generalize J3 a=e2 at *
 obtain ⟨name,⟨x,y,half,t⟩,links⟩:=a
 obtain ⟨arms,walls,parts,slots,gates,walk⟩:=w
 simp only [j5,TT,II,OA,MM,LL,VV,FF]
 simp only [Am.c,Am.enc,lks,sb,ints,rsW,Wk.enc,ams,wls,pts,sls,gts] at *
 (repeat first|refine uA ?_|(refine uK ?_ ?_;focus first|omega|(intros;simp_all<;>omega))|simp (disch:=omega) only [go_sem,Nat.reduceBEq,Nat.reduceAdd]|(refine uD h2 ?_ ?_ ?_;exact ht;exact rfl))
 refine S.cond rfl (fun hc=>?_) (fun hc=>?_)
 ·rw [if_pos (by simpa using hc)]
  (repeat first|refine uA ?_|(refine uK ?_ ?_;focus first|omega|(intros;simp_all<;>omega))|simp (disch:=omega) only [go_sem,Nat.reduceBEq])
  (refine S.done ?_;simp only [p9,go_sem,Nat.reduceBEq];(repeat (refine ⟨?_,?_⟩;focus first|trivial|omega|simp));exact j3.K9 (Imp.refl rfl) (by (repeat first|refine uA ?_|(refine ⟨?_,?_⟩;focus first|rfl|simp [slot])|rfl|simp)) (c7l hν0 (by simp)))
 rw [if_neg (by simpa using hc)]
 (repeat first|refine uA ?_|(refine uK ?_ ?_;focus first|omega|(intros;simp_all<;>omega))|simp (disch:=omega) only [go_sem,Nat.reduceBEq,Nat.reduceAdd]|refine l9.t (j6.lift (k:=1) rfl (h1 _ rfl) rfl rfl rfl) ?_)
 (refine S.done ?_;simp only [p9,go_sem,Nat.reduceBEq];(repeat (refine ⟨?_,?_⟩;focus first|trivial|omega|simp));exact j3.K9 (Imp.refl rfl) (by (repeat first|refine uA ?_|(refine ⟨?_,?_⟩;focus first|rfl|simp [slot])|rfl|simp)) (c7l hν0 (by simp)))
theorem c0e {E:Ctx} (hP:E.P=Tryz.prog) (ht0:Tz E) (w:Wk) (n:Nms) (l:List Am) (hn:l.length<=1073741824) (hb:∀ x ∈ l,Ab 1073741824 x) :
  j6 E (rsW w n) 86 [ams l,.clo 84 [.bp 2 0]] (ints (u7 a2r n l).1) (rsW w (u7 a2r n l).2) []:=by
 obtain ⟨P,eff',N,w0,own0,av0,nu0,pk0⟩:=E
 simp only at hP
 subst hP
 refine j6.ofT (eff:=eff) ht0 Tryz.func86 (by cbv) (by exact c7z rfl) fun w' own av ν hν ht=>?_
 have hν0:ν.length<=3:=by rw [hν];exact c7p _
 have hcal:callable Tryz.prog 84=true:=by kernel_rfl
 simp only [j5,TT,II,OA,OB,MM,LL,ams,ints]
 simp only [rsW,Wk.enc,ams,wls,pts,sls,gts]
 (repeat first|refine uA ?_|(refine uK ?_ ?_;focus first|omega|(intros;simp_all<;>omega))|simp (disch:=omega) only [go_sem,Nat.reduceBEq,Nat.reduceAdd,c7i])
 refine S.loop (X:=Nat × Nms) (fun x=>⟨[(1,.clo 84 [.bp 2 0]),(8,ams l),(9,ints l.length),(10,ints x.1)],rsW w x.2⟩) (fun x=>x.1<=l.length/\u7 a2r n l=u7 a2r x.2 (l.drop x.1)) (fun x=>l.length-x.1) (0,n) ⟨c7n _,rfl⟩ (by simp only [rsW,Wk.enc,ams,wls,pts,sls,gts];exact (by (repeat first|refine uA ?_|(refine ⟨?_,?_⟩;focus first|rfl|simp [slot])|rfl|simp|exact c7l hν0 (by simp)))) ?_
 rintro ⟨i,m⟩ ⟨hi,hg⟩
 simp only [ams,ints,rsW,Wk.enc,wls,pts,sls,gts] at hi hg ⊢
 (repeat first|refine uA ?_|(refine uK ?_ ?_;focus first|omega|(intros;simp_all<;>omega))|simp (disch:=omega) only [go_sem,Nat.reduceBEq])
 (refine uJ rfl (fun hc=>?_) fun hc=>?_)
 ·have hi':i < l.length:=by omega
  have hgi:=c7h hi'
  generalize l[i]=x at hgi
  have hst:=a2R (f:=a2r) (s:=m) hgi
  have hnx:=a2N (f:=a2r) (s:=m) hgi
  have hs:=fun (E:Ctx) (hP:E.P=Tryz.prog) (ht:Tz E)=>c2b hP ht w m x (hb x (c7k hgi))
  generalize a2r m x=r at *
  obtain ⟨e,m'⟩:=r
  simp only [Am.c,Am.enc,lks,sb,ints,rsW,Wk.enc,ams,wls,pts,sls,gts] at hs hst hnx
  (repeat first|refine uA ?_|(refine uK ?_ ?_;focus first|omega|(intros;simp_all<;>omega))|simp (disch:=omega) only [go_sem,Nat.reduceBEq,Nat.reduceAdd,hgi,c7j,c7i,Am.enc,lks,sb,hcal]|refine l9.t (j6.ext _ (hs _ rfl ht) rfl rfl rfl) ?_)
  refine S.cond rfl (fun hc2=>?_) (fun hc2=>?_)
  ·rw [hg,hst (by simpa using hc2)]
   (repeat first|refine uA ?_|(refine uK ?_ ?_;focus first|omega|(intros;simp_all<;>omega))|simp (disch:=omega) only [go_sem,Nat.reduceBEq])
   (refine S.done ?_;simp only [p9,go_sem,Nat.reduceBEq];(repeat (refine ⟨?_,?_⟩;focus first|trivial|omega|simp));exact j3.K9 (Imp.refl rfl) (by (repeat first|refine uA ?_|(refine ⟨?_,?_⟩;focus first|rfl|simp [slot])|rfl|simp)) (c7l hν0 (by simp)))
  ·have hc3:e=0:=by simpa using hc2
   (repeat first|refine uA ?_|(refine uK ?_ ?_;focus first|omega|(intros;simp_all<;>omega))|simp (disch:=omega) only [go_sem,Nat.reduceBEq,ww])
   refine S.next (x:=(i,m)) (i+1,m') ⟨by simp only;omega,by simp only;rw [hg,hnx hc3]⟩ (by simp only;omega) (by (repeat first|refine uA ?_|(refine ⟨?_,?_⟩;focus first|rfl|simp [slot])|rfl|simp|exact c7l hν0 (by simp)))
 ·rw [hg,a3R (by omega)]
  (repeat first|refine uA ?_|(refine uK ?_ ?_;focus first|omega|(intros;simp_all<;>omega))|simp (disch:=omega) only [go_sem])
  (refine S.done ?_;simp only [p9,go_sem,Nat.reduceBEq];(repeat (refine ⟨?_,?_⟩;focus first|trivial|omega|simp));exact j3.K9 (Imp.refl rfl) (by (repeat first|refine uA ?_|(refine ⟨?_,?_⟩;focus first|rfl|simp [slot])|rfl|simp)) (c7l hν0 (by simp)))
theorem a9P (w:Wk) (hb:Wb 1073741824 w):FZ 36 [w.c] (ints (a0b w)):=by
 refine kW b2c b1K (by rfl) fun w' O hw=>?_
 have ht:Tz ⟨Tryz.prog,eff,a3p.ntmps,w',fun _=>False,O,[],[]⟩:=tz hw
 obtain ⟨⟨n1,b1⟩,⟨n2,b2⟩,⟨n3,b3⟩,⟨n4,b4⟩,⟨n5,b5⟩,b6⟩:=hb
 have h1:=fun (E:Ctx) (hP:E.P=Tryz.prog) (ht:Tz E)=>c0e hP ht w [] w.arms n1 b1
 have h2:=b8J w.walls n2 b2
 unfold a0b a8m
 generalize u7 a2r [] w.arms=r1 at *
 obtain ⟨e1,m1⟩:=r1
 have h3:=fun (E:Ctx) (hP:E.P=Tryz.prog) (ht:Tz E)=>b7U hP ht m1 w.parts n3 b3
 simp only at h3 ⊢
 generalize u7 a0V m1 w.parts=r3 at *
 obtain ⟨e3,m3⟩:=r3
 have h4:=fun (E:Ctx) (hP:E.P=Tryz.prog) (ht:Tz E)=>b8y hP ht m3 w.slots n4 b4
 simp only at h4 ⊢
 generalize u7 a0T m3 w.slots=r4 at *
 obtain ⟨e4,m4⟩:=r4
 have h5:=fun (E:Ctx) (hP:E.P=Tryz.prog) (ht:Tz E)=>b9l hP ht m4 w.gates n5 b5
 simp only at h5 ⊢
 generalize u7 a0R m4 w.gates=r5 at *
 obtain ⟨e5,m5⟩:=r5
 generalize I5 K8 w.walls=e2 at *
 simp only
 have h6:=a1v w.walk (b6.mono (by decide))
 have h7:=a4A w.walk (b6.mono (by decide))
 have h8:=a0g w.walk (b6.mono (by decide))
 unfold b3M
 generalize decide w.walk.H9=q1 at *
 generalize l6 w.walk=q2 at *
 generalize E9 (Nm.d9 w.walk)=s8 at *
 obtain ⟨arms,walls,parts,slots,gates,walk⟩:=w
 simp only [a3p,j5,TT,II,OA,OB,OC,MM,LL,VV,FF,LG,VG,FG] at ht ⊢
 simp only [Wk.c,Wk.enc,rsW,ams,wls,pts,sls,gts,rc,sb,ints] at *
 (repeat first|refine uA ?_|(refine uK ?_ ?_;focus first|omega|(intros;simp_all<;>omega))|simp (disch:=omega) only [go_sem,Nat.reduceBEq,Nat.reduceAdd,c7i])
 refine S.cond rfl (fun hc=>?_) (fun hc=>?_)
 ·rw [if_pos (by simp only [c7Y,c7v] at hc;omega)]
  (repeat first|refine uA ?_|(refine uK ?_ ?_;focus first|omega|(intros;simp_all<;>omega))|simp (disch:=omega) only [go_sem])
  exact S.done (j3.out rfl (Imp.refl rfl) rfl)
 rw [if_neg (by simp only [c7V,c7H] at hc;omega)]
 (repeat first|refine uA ?_|(refine uK ?_ ?_;focus first|omega|(intros;simp_all<;>omega))|simp (disch:=omega) only [go_sem,Nat.reduceBEq,Nat.reduceAdd,c7i])
 refine S.cond rfl (fun hc=>?_) (fun hc=>?_)
 ·rw [if_pos (by simp only [c7v] at hc;omega)]
  (repeat first|refine uA ?_|(refine uK ?_ ?_;focus first|omega|(intros;simp_all<;>omega))|simp (disch:=omega) only [go_sem])
  exact S.done (j3.out rfl (Imp.refl rfl) rfl)
 rw [if_neg (by simp only [c7H] at hc;omega)]
 (repeat first|refine uI ?_|(refine uK ?_ ?_;focus first|omega|(intros;simp_all<;>omega))|simp (disch:=omega) only [go_sem,Nat.reduceBEq,Nat.reduceAdd])
 refine S.y9 [.box 31 [.sl 12 (arms.map Am.enc),.sl 1 (walls.map fun s=>[vts s]),.sl 12 (parts.map Pt.enc),.sl 14 (slots.map Sl.enc),.sl 13 (gates.map Gt.enc),.v (.bool walk.neg),.v (.string (bs walk.num)),.v (.string (bs walk.den))],.gone,.box 154 [.mp 1]] (by simp [Eng.H8,Eng.X0]) ?_
 (repeat first|refine uA ?_|(refine uK ?_ ?_;focus first|omega|(intros;simp_all<;>omega))|simp (disch:=omega) only [go_sem,Nat.reduceBEq,Nat.reduceAdd]|refine l9.t (h1 _ rfl ht) ?_|refine l9.t (j6.lift (k:=1) rfl (h3 _ rfl ht) rfl rfl rfl) ?_|refine l9.t (j6.lift (k:=1) rfl (h4 _ rfl ht) rfl rfl rfl) ?_|refine l9.t (j6.lift (k:=1) rfl (h5 _ rfl ht) rfl rfl rfl) ?_|(refine uD h2 ?_ ?_ ?_;exact tz hw;exact rfl))
 generalize hL:[e1,e2,e3,e4,e5]=L
 have hl5:L.length=5:=by rw [<- hL];rfl
 have e63:[[C.v (Value.int IntKind.i64 e1)],[C.v (Value.int IntKind.i64 e2)],[C.v (Value.int IntKind.i64 e3)],[C.v (Value.int IntKind.i64 e4)],[C.v (Value.int IntKind.i64 e5)]]=L.map fun e=>[C.v (Value.int IntKind.i64 e)]:=by rw [<- hL];rfl
 simp only [e63]
 refine S.loop (X:=Nat) (fun i=>⟨[(1,.bp 0 0),(63,.sl 1 (L.map fun e=>[.v (.int .i64 e)])),(64,ints 5),(65,ints i)],[.box 31 [.sl 12 (arms.map Am.enc),.sl 1 (walls.map fun s=>[vts s]),.sl 12 (parts.map Pt.enc),.sl 14 (slots.map Sl.enc),.sl 13 (gates.map Gt.enc),.v (.bool walk.neg),.v (.string (bs walk.num)),.v (.string (bs walk.den))]]⟩) (fun i=>i<=5/\I5 id L=I5 id (L.drop i)) (fun i=>5-i) 0 ⟨c7n _,rfl⟩ (by (repeat first|refine uA ?_|(refine ⟨?_,?_⟩;focus first|rfl|simp [slot])|rfl|simp)) ?_
 rintro i ⟨hi,hg⟩
 simp only [ints] at hi hg ⊢
 (repeat first|refine uA ?_|(refine uK ?_ ?_;focus first|omega|(intros;simp_all<;>omega))|simp (disch:=omega) only [go_sem,Nat.reduceBEq])
 (refine uJ rfl (fun hc=>?_) fun hc=>?_)
 ·have hi':i < L.length:=by omega
  have hgi:=c7h hi'
  generalize L[i]=x at hgi
  have hst:=a2f (f:=id) hgi
  have hnx:=a2d (f:=id) hgi
  simp only [id] at hst hnx
  (repeat first|refine uA ?_|(refine uK ?_ ?_;focus first|omega|(intros;simp_all<;>omega))|simp (disch:=omega) only [go_sem,Nat.reduceBEq,hgi,c7j,c7i,hl5])
  refine S.cond rfl (fun hc2=>?_) (fun hc2=>?_)
  ·have h0:x ≠ 0:=by simpa using hc2
   rw [hg,hst h0,if_pos h0]
   (repeat first|refine uA ?_|(refine uK ?_ ?_;focus first|omega|(intros;simp_all<;>omega))|simp (disch:=omega) only [go_sem,Nat.reduceBEq])
   exact S.done (j3.out rfl (Imp.refl rfl) rfl)
  ·have hc3:x=0:=by simpa using hc2
   (repeat first|refine uA ?_|(refine uK ?_ ?_;focus first|omega|(intros;simp_all<;>omega))|simp (disch:=omega) only [go_sem,Nat.reduceBEq,ww])
   refine S.next (i+1) ⟨by omega,by rw [hg];exact hnx hc3⟩ (by omega) (by (repeat first|refine uA ?_|(refine ⟨?_,?_⟩;focus first|rfl|simp [slot])|rfl|simp))
 ·rw [hg,a2T (by omega),if_neg (by decide)]
  (repeat first|refine uA ?_|(refine uK ?_ ?_;focus first|omega|(intros;simp_all<;>omega))|simp (disch:=omega) only [go_sem,Nat.reduceBEq,Nat.reduceAdd]|(refine uD h6 ?_ ?_ ?_;exact tz hw;exact rfl)|(refine uD h7 ?_ ?_ ?_;exact tz hw;exact rfl)|(refine uD h8 ?_ ?_ ?_;exact tz hw;exact rfl))
  refine S.cond rfl (fun hc=>?_) (fun hc=>?_)
  ·rw [if_neg (by simp only [c7Y,Bool.not_eq_true',c7v] at hc;simp only [c7q,c7v];rintro ⟨⟨g7,g8⟩,g9⟩;rcases hc with (hc|hc)|hc<;>first|(rw [hc] at g7;cases g7;done)|(rw [hc] at g8;cases g8;done)|omega)]
   (repeat first|refine uA ?_|(refine uK ?_ ?_;focus first|omega|(intros;simp_all<;>omega))|simp (disch:=omega) only [go_sem])
   exact S.done (j3.out rfl (Imp.refl rfl) rfl)
  ·rw [if_pos (by simp only [c7V,Bool.not_eq_false',c7H] at hc;simp only [c7q,c7v];obtain ⟨⟨g7,g8⟩,g9⟩:=hc;exact ⟨⟨g7,g8⟩,by omega⟩)]
   (repeat first|refine uA ?_|(refine uK ?_ ?_;focus first|omega|(intros;simp_all<;>omega))|simp (disch:=omega) only [go_sem])
   exact S.done (j3.out rfl (Imp.refl rfl) rfl)
end Go.Proofs.YtgpegbfnlkidjaaGreatDoor
namespace Go.Proofs.YtgpegbfnlkidjaaGreatDoor.Eng
open Go Go.RowKit
mutual
def C.sh (n:Nat):C->C
 | .rv k=>.rv (n+k)
 | .agg cs=>.agg (C.shL n cs)
 | .tup cs=>.tup (C.shL n cs)
 | c=>c
def C.shL (n:Nat):List C->List C
 | []=>[]
 | c::cs=>C.sh n c::C.shL n cs
end
mutual
def C.okS:C->Bool
 | .rv _=>true
 | .agg cs=>C.b4k cs
 | .tup cs=>C.b4k cs
 | c=>c.cl
def C.b4k:List C->Bool
 | []=>true
 | c::cs=>C.okS c && C.b4k cs
end
section
variable {ν ν':List Value} {w:World} {O O':Nat->Prop}
mutual
theorem c0c (hO:∀ b,O' b->O b):∀ {c:C} {y:Value},c.okS=true->Den ν' w O c y->Den (ν++ν') w O' (C.sh ν.length c) y
 | .rv k,y,_,h=>by
  simp only [C.sh,Den] at h ⊢
  exact ⟨by rw [c7F (by omega),show ν.length+k-ν.length=k by omega];exact h.1,h.2⟩
 | .agg cs,y,hc,h=>by
  simp only [C.sh,Den,C.okS] at h hc ⊢
  obtain ⟨vs,h1,h2⟩:=h
  exact ⟨vs,b2j hO hc h1,h2⟩
 | .tup cs,y,hc,h=>by
  simp only [C.sh,Den,C.okS] at h hc ⊢
  obtain ⟨vs,h1,h2⟩:=h
  exact ⟨vs,b2j hO hc h1,h2⟩
 | .v x,y,hc,h=>by simpa only [C.sh,Den] using h
 | .sl sz es,y,hc,h=>by simp only [C.sh];exact (Fz.keep (Keeps.sub hO) (h.fz hc)).den _
 | .nl,y,hc,h=>by simpa only [C.sh,Den] using h
 | .ep cs,y,hc,h=>by simp only [C.sh];exact (Fz.keep (Keeps.sub hO) (h.fz hc)).den _
 | .clo f cs,y,hc,h=>by simp only [C.sh];exact (Fz.keep (Keeps.sub hO) (h.fz hc)).den _
 | .bnd f x,y,hc,h=>by simp only [C.sh];exact (Fz.keep (Keeps.sub hO) (h.fz hc)).den _
 | .any S,y,hc,h=>by simpa only [C.sh,Den] using h
 | .bp _ _,y,hc,h=>by simp only [C.okS,C.cl] at hc;cases hc
 | .rp _ _ _ _,y,hc,h=>by simp only [C.okS,C.cl] at hc;cases hc
 | .mp _,y,hc,h=>by simp only [C.okS,C.cl] at hc;cases hc
 | .wv _ _ _ _,y,hc,h=>by simp only [C.okS,C.cl] at hc;cases hc
 | .g _ _,y,hc,h=>by simp only [C.okS,C.cl] at hc;cases hc
 | .junk,y,hc,h=>by simp only [C.okS,C.cl] at hc;cases hc
theorem b2j (hO:∀ b,O' b->O b):∀ {cs:List C} {vs:List Value},C.b4k cs=true->l8 ν' w O cs vs->l8 (ν++ν') w O' (C.shL ν.length cs) vs
 | [],vs,_,h=>by simpa only [C.shL,l8] using h
 | c::cs,vs,hc,h=>by
  simp only [C.shL,l8,C.b4k,c7q] at h hc ⊢
  obtain ⟨y,ys,e,h1,h2⟩:=h
  exact ⟨y,ys,e,c0c hO hc.1 h1,b2j hO hc.2 h2⟩
end
end
def Res.c3e:Res->Bool
 | .gone=>true
 | r=>r.shut
theorem c1E {ν ν':List Value} {w:World} {O O':Nat->Prop} {x:Value} {r:Res} (hs:r.c3e=true) (hO:∀ b,O' b->O b) (h:O5 ν w O x r):O5 ν' w O' x r:=by
 cases r with
 | gone=>trivial
 | box t cs=>exact a6d hs hO h
 | row e sz es=>exact a6d rfl hO h
 | map s es=>exact a6d rfl hO h
theorem j6.pre {E:Ctx} {rs rs':List Res} {f:Nat} {args:List C} {s:C} (h:j6 E [] f args s rs' []) (hr:rs'.all Res.c3e=true) (hs:s.okS=true) (ha:C.clL args=true):j6 E rs f args (C.sh rs.length s) (rs++rs') []:=by
  intro av ν w vs hR hav hF hD
  rw [List.all_eq_true] at hr
  let av':Nat->Prop:=OO av rs ν
  have hlt:∀ b,av' b->b < w.heap.size:=fun b hb=>by
    rcases hb with hb|hb
    · exact hR.av b hb
    · exact (hR.low b hb).1
  have ho0:∀ b,¬ owned [] [] b:=fun b ⟨k,r,x,hk,_⟩=>by simp at hk
  have hRG:RG av' E.own0 E.w0.heap.size [] [] w:=⟨rfl,fun k r hk=>by simp at hk,fun k l r r' x x' b _ hk=>by simp at hk,fun b hb=>(ho0 b hb).elim,hlt,hR.n0⟩
  have hOO:∀ b,OO av' [] [] b->OO av rs ν b:=fun b hb=>hb.elim id fun h=>(ho0 b h).elim
  refine (h av' [] w vs hRG (fun b hb=>.inl (hav b hb)) hF ((FzL.keep (Keeps.sub hOO) (hD.fz ha)).den _)).mono ?_
  rintro e w' ⟨y,ν',rfl,h1,h2,h3⟩
  have hlen:(ν++ν').length=(rs++rs').length:=by rw [c7t,c7t,hR.len,h1.len]
  have htk:(ν++ν').take rs.length=ν:=by rw [<- hR.len];simp
  have hown:=fun b=>a7S hlen b
  rw [htk] at hown
  have hnew:∀ b,(∃ k r x,rs'[k]?=some r/\(ν++ν')[rs.length+k]?=some x/\fp r x b)->owned rs' ν' b:=by
    rintro b ⟨k,r,x,g1,g2,g3⟩
    rw [<- hR.len,c7F (by omega),show ν.length+k-ν.length=k by omega] at g2
    exact ⟨k,r,x,g1,g2,g3⟩
  have hge:∀ b,owned rs' ν' b->w.heap.size<=b:=fun b hb=>(h2.own b hb).elim (fun h=>(ho0 b h).elim) id
  have hnu:Z0 [] ν (ν++ν'):=fun k x _ hx=>by rw [c7B (c7m.1 hx).1];exact hx
  have hM:Mv rs ν w [] (rs++rs') (ν++ν') w':=by
    refine ⟨h2.os,h2.tape,h2.output,h2.size,fun b hb _=>h2.block b hb (ho0 b),fun b hb=>?_,hnu⟩
    rcases (hown b).1 hb with hb|hb
    · exact .inl hb
    · exact .inr (hge b (hnew b hb))
  have hOO':∀ b,OO av (rs++rs') (ν++ν') b->OO av' rs' ν' b:=fun b hb=>by
    rcases hb with hb|hb
    · exact .inl (.inl hb)
    · rcases (hown b).1 hb with hb|hb
      · exact .inl (.inr hb)
      · exact .inr (hnew b hb)
  refine ⟨y,ν++ν',rfl,⟨hlen,fun k r hk=>?_,fun l m q q' z z' b hne g1 g2 g3 g4 g5=>?_,fun b hb=>?_,fun b hb=>c7L (hR.av b hb) h2.size,c7l hR.n0 h2.size⟩,hM,by rw [<- hR.len];exact c0c hOO' hs h3⟩
  · rcases c7D k rs.length with hlt'|hge'
    · rw [c7B hlt'] at hk
      obtain ⟨x,hx,hok⟩:=hR.res k r hk
      have:=hok.mv (hM.keeps (av:=av)) hM.nu (fun b hf=>h2.block b (hR.lt hk hx hf) (ho0 b))
      rw [a3d] at this
      exact ⟨x,hnu k x (fun h=>by cases h) hx,this⟩
    · rw [c7F hge'] at hk
      obtain ⟨x,hx,hok⟩:=h1.res _ r hk
      refine ⟨x,by rw [c7F (by rw [hR.len];exact hge'),hR.len];exact hx,c1E (hr r (c7k hk)) hOO' hok⟩
  · have old:∀ {l q z},l < rs.length->(rs++rs')[l]?=some q->(ν++ν')[l]?=some z->rs[l]?=some q/\ν[l]?=some z:=fun hl a1 a2=>by
      rw [c7B hl] at a1
      rw [c7B (by rw [hR.len];exact hl)] at a2
      exact ⟨a1,a2⟩
    have new:∀ {l q z},rs.length<=l->(rs++rs')[l]?=some q->(ν++ν')[l]?=some z->rs'[l-rs.length]?=some q/\ν'[l-rs.length]?=some z:=fun hl a1 a2=>by
      rw [c7F hl] at a1
      rw [c7F (by rw [hR.len];exact hl),hR.len] at a2
      exact ⟨a1,a2⟩
    rcases c7D l rs.length with hl1|hl1<;>rcases c7D m rs.length with hm1|hm1
    · obtain ⟨a1,a2⟩:=old hl1 g1 g3
      obtain ⟨a3,a4⟩:=old hm1 g2 g4
      exact hR.dis l m q q' z z' b hne a1 a3 a2 a4 g5
    · obtain ⟨a1,a2⟩:=old hl1 g1 g3
      obtain ⟨a3,a4⟩:=new hm1 g2 g4
      intro hf
      have:=hR.lt a1 a2 g5
      have:=hge b ⟨_,_,_,a3,a4,hf⟩
      omega
    · obtain ⟨a1,a2⟩:=new hl1 g1 g3
      obtain ⟨a3,a4⟩:=old hm1 g2 g4
      intro hf
      have:=hR.lt a3 a4 hf
      have:=hge b ⟨_,_,_,a1,a2,g5⟩
      omega
    · obtain ⟨a1,a2⟩:=new hl1 g1 g3
      obtain ⟨a3,a4⟩:=new hm1 g2 g4
      exact h1.dis _ _ q q' z z' b (by omega) a1 a3 a2 a4 g5
  · rcases (hown b).1 hb with hb|hb
    · obtain ⟨a1,a2,a3⟩:=hR.low b hb
      exact ⟨c7L a1 h2.size,a2,a3⟩
    · obtain ⟨a1,a2,a3⟩:=h1.low b (hnew b hb)
      exact ⟨a1,fun ha=>a2 (.inl ha),a3⟩
end Go.Proofs.YtgpegbfnlkidjaaGreatDoor.Eng
namespace Go.Proofs.YtgpegbfnlkidjaaGreatDoor
open Go Go.RowKit Eng
set_option maxRecDepth 100000
set_option maxHeartbeats 8000000
theorem b7E (q:Rat):Nm.ofQ (E8 q)=⟨false,Nm.enc q.num.natAbs,Nm.enc q.den⟩:=by
 unfold E8
 by_cases h:q.num < 0
 ·rw [if_pos h,b0r]
  simp [h]
 ·rw [if_neg h]
  unfold Nm.ofQ
  rw [decide_eq_false h]
theorem b8M (a:Nm.Rt) (ha:Rb 17179869184 a):FZ 49 [rc a] (rq (E8 (Nm.d9 a))):=by
 unfold rq
 rw [b7E]
 exact c0K a ha
theorem c5I {k:Nat} {p:Rat} (h:Rb k (Nm.ofQ p)):Rb k (Nm.ofQ (E8 p)):=by rw [b7E];exact h
theorem c1G (a:Nm.Rt) (ha:Rb 68719476736 a):FZ 123 [rc a] (.v (.bool (!M8 a))):=by
 refine kW Tryz.func123 (by cbv) (by rfl) fun w O hw=>?_
 have h:=a1v a ha
 unfold M8
 generalize decide a.H9=q at *
 simp only [j5,TT,OA,MM,LL]
 simp only [rc,sb] at *
 (repeat first|refine uA ?_|(apply uK;focus omega)|simp (disch:=omega) only [go_sem,Nat.reduceBEq]|(apply uD h;exact tz hw;rfl))
 exact S.done (j3.out rfl (Imp.refl rfl) rfl)
theorem a8I (l:List Nm.Rt) (hl:Rbs 68719476736 l):FZ 59 [rts l] (.v (.bool (l.all M8))):=by
 refine kW Tryz.func59 (by cbv) (by rfl) fun w O hw=>?_
 have h:=c1A 123 (by kernel_rfl) (fun a=>!M8 a) l (by have:=hl.1;omega) (fun a ha=>c1G a (hl.2 a ha))
 have e:l.all M8=!l.any fun a=>!M8 a:=by rw [List.not_any_eq_all_not];simp
 rw [e]
 generalize (l.any fun a=>!M8 a)=q at *
 simp only [j5,TT,OA,MM]
 simp only [rts] at *
 (repeat first|refine uA ?_|(apply uK;focus omega)|simp (disch:=omega) only [go_sem,Nat.reduceBEq]|(apply uD h;exact tz hw;rfl))
 exact S.done (j3.out rfl (Imp.refl rfl) rfl)
theorem c2t (f:Fr) (hf:Fb 17179869184 f):FZ 56 [f.c] (.v (.bool (a1N f))):=by
 refine kW Tryz.func56 (by cbv) (by rfl) fun w O hw=>?_
 obtain ⟨x,y,half,t⟩:=f
 obtain ⟨b1,b2,b3⟩:=hf
 simp only at b1 b2 b3
 have h1:=a8I _ (Rbs.three (by decide) (b1.mono (m:=68719476736) (by decide)) (b2.mono (m:=68719476736) (by decide)) (b3.mono (m:=68719476736) (by decide)))
 rw [b2P] at h1
 have h4:=a0g t b3
 unfold a1N a5w
 simp only
 generalize (M8 x && M8 y && M8 t)=q1 at *
 generalize E9 (Nm.d9 t)=n at *
 simp only [j5,TT,II,OA,OC,MM,LL,FF,MG,LG,VG,FG]
 simp only [Fr.c,Fr.enc,rts,rcs,rc,sb,ints,c7w,c7I] at *
 (repeat first|refine uA ?_|(apply uK;focus first|omega|(intros;simp_all<;>omega))|simp (disch:=omega) only [go_sem,Nat.reduceBEq,Nat.reduceAdd]|(apply uD h4;exact tz hw;rfl)|(apply uE h1;exact tz hw;exact rfl;focus (repeat' first|exact j4.nil|exact Imp.refl rfl|exact Imp.frz rfl rfl rfl|(refine Imp.V5 rfl rfl ?_ ?_;(focus ((try simp only [c7t]);omega));(focus first|rfl|assumption))|refine j4.cons ?_ ?_);done))
 have e:(q1 && !(half && !decide (n=0)))=(q1 && (!half || decide (n=0))):=by cases q1<;>cases half<;>simp
 rw [e]
 exact S.done (j3.out rfl (Imp.refl (by rfl)) rfl)
theorem c3x (f:Fr) (hf:Fb 17179869184 f):FZ 55 [f.c] (.v (.bool (!a1N f))):=by
 refine kW Tryz.func55 (by cbv) (by rfl) fun w O hw=>?_
 have h:=c2t f hf
 generalize a1N f=q at *
 simp only [j5,TT,OA,MM,LL]
 simp only [Fr.c,Fr.enc,sb] at *
 (repeat first|refine uA ?_|(apply uK;focus omega)|simp (disch:=omega) only [go_sem,Nat.reduceBEq]|(apply uD h;exact tz hw;rfl))
 exact S.done (j3.out rfl (Imp.refl rfl) rfl)
theorem c4a (v:Vt) (hv:Vb 68719476736 v):FZ 58 [v.c] (.v (.bool (!a6W v))):=by
 refine kW Tryz.func58 (by cbv) (by rfl) fun w O hw=>?_
 have h:=a8I _ (Rbs.two (by decide) hv.1 hv.2)
 rw [b2b] at h
 unfold a6W
 generalize (M8 v.x && M8 v.y)=q at *
 simp only [j5,TT,OA,MM,LL,FF]
 simp only [Vt.c,Vt.enc,rts,rcs,sb,c7w,c7I] at *
 (repeat first|refine uA ?_|(apply uK;focus first|omega|(intros;simp_all<;>omega))|simp (disch:=omega) only [go_sem,Nat.reduceBEq,Nat.reduceAdd]|(apply uE h;exact tz hw;exact rfl;focus (repeat' first|exact j4.nil|exact Imp.refl rfl|exact Imp.frz rfl rfl rfl|(refine Imp.V5 rfl rfl ?_ ?_;(focus ((try simp only [c7t]);omega));(focus first|rfl|assumption))|refine j4.cons ?_ ?_);done))
 exact S.done (j3.out rfl (Imp.refl rfl) rfl)
theorem c0h {a:Am} {q:List Nm.Rt} (h:a2m a q=0):q.length=a.links.length:=by
 unfold a2m at h
 split at h
 ·rename_i h1;exact absurd h h1
 ·split at h
  ·cases h
  ·rename_i h2;exact Classical.not_not.1 h2
theorem c6r (a:Am) (x:Ast) (parts:Nat) (ha:Ab 1073741824 a) (hx:Asb 1073741824 x) (hp:parts<=1073741824):FZ 53 [a.c,x.c,.v (.int .i64 (parts:Int))] (ints (a1j a x parts)):=by
 refine kW b4d b5N (by rfl) fun w O hw=>?_
 have h1:=a8I x.q ⟨by have:=hx.1.1;omega,fun r hr=>(hx.1.2 r hr).mono (by decide)⟩
 have h2:=a8I x.v ⟨by have:=hx.2.1;omega,fun r hr=>(hx.2.2 r hr).mono (by decide)⟩
 have h3:=c5Y a x.q ha hx.1
 have hln:=c0h (a:=a) (q:=x.q)
 unfold a1j
 generalize a2m a x.q=e at *
 obtain ⟨q,v,power,holds⟩:=x
 simp only at h1 h2 h3 hln ⊢
 generalize q.all M8=g1 at *
 generalize v.all M8=g2 at *
 obtain ⟨hvn,hvb⟩:=hx.2
 obtain ⟨name,⟨bx,by',half,t⟩,links⟩:=a
 obtain ⟨b0,⟨b1,b2,b3⟩,hn,hb⟩:=ha
 simp only at b0 b1 b2 b3 hn hb hln hvn hvb ⊢
 simp only [a8o,j5,TT,II,OA,OB,OC,MM,LL,VV,FF,MG,VG,FG]
 simp only [Am.c,Am.enc,Ast.c,Ast.enc,lks,rts,sb,ints] at *
 (repeat first|refine uA ?_|(refine uK ?_ ?_;focus first|omega|(intros;simp_all<;>omega))|simp (disch:=omega) only [go_sem,Nat.reduceBEq,Nat.reduceAdd]|(refine uD h1 ?_ ?_ ?_;exact tz hw;exact rfl)|(refine uD h2 ?_ ?_ ?_;exact tz hw;exact rfl))
 refine S.cond rfl (fun hc=>?_) (fun hc=>?_)
 ·rw [if_pos (by cases g1<;>cases g2<;>simp_all)]
  (repeat first|refine uA ?_|(refine uK ?_ ?_;focus first|omega|(intros;simp_all<;>omega))|simp (disch:=omega) only [go_sem])
  exact S.done (j3.out rfl (Imp.refl rfl) rfl)
 rw [if_neg (by cases g1<;>cases g2<;>simp_all)]
 (repeat first|refine uA ?_|(refine uK ?_ ?_;focus first|omega|(intros;simp_all<;>omega))|simp (disch:=omega) only [go_sem,Nat.reduceBEq,Nat.reduceAdd]|(refine uD h3 ?_ ?_ ?_;exact tz hw;exact rfl))
 refine S.cond rfl (fun hc=>?_) (fun hc=>?_)
 ·rw [if_pos (by simpa using hc)]
  (repeat first|refine uA ?_|(refine uK ?_ ?_;focus first|omega|(intros;simp_all<;>omega))|simp (disch:=omega) only [go_sem,Nat.reduceBEq])
  exact S.done (j3.out rfl (Imp.refl rfl) rfl)
 rw [if_neg (by simpa using hc)]
 have hln:=hln (by simpa using hc)
 (repeat first|refine uA ?_|(refine uK ?_ ?_;focus first|omega|(intros;simp_all<;>omega))|simp (disch:=omega) only [go_sem,Nat.reduceBEq,Nat.reduceAdd,c7i])
 refine S.cond rfl (fun hc=>?_) (fun hc=>?_)
 ·rw [if_pos (by simp only [c7Y,Bool.not_eq_true',c7v,c7H] at hc;omega)]
  (repeat first|refine uA ?_|(refine uK ?_ ?_;focus first|omega|(intros;simp_all<;>omega))|simp (disch:=omega) only [go_sem])
  exact S.done (j3.out rfl (Imp.refl rfl) rfl)
 rw [if_neg (by simp only [c7V,Bool.not_eq_false',c7v,c7H] at hc;omega)]
 have hvl:v.length=links.length:=by simp only [c7V,Bool.not_eq_false',c7v,c7H] at hc;omega
 (repeat first|refine uA ?_|(refine uK ?_ ?_;focus first|omega|(intros;simp_all<;>omega))|simp (disch:=omega) only [go_sem,Nat.reduceBEq,Nat.reduceAdd,c7i])
 refine S.loop (X:=Nat) (fun i=>⟨[(4,.bp 1 0),(46,lks links),(47,ints links.length),(48,ints i)],[.gone,.box 49 [rts q,rts v,.v (.bool power),ints holds]]⟩) (fun i=>i<=links.length/\I5 a1q (links.zip v)=I5 a1q ((links.zip v).drop i)) (fun i=>links.length-i) 0 ⟨c7n _,rfl⟩ (by (repeat first|refine uA ?_|(refine ⟨?_,?_⟩;focus first|rfl|simp [slot])|rfl|simp)) ?_
 rintro i ⟨hi,hg⟩
 simp only [lks,ints,rts]
 (repeat first|refine uA ?_|(refine uK ?_ ?_;focus first|omega|(intros;simp_all<;>omega))|simp (disch:=omega) only [go_sem,Nat.reduceBEq])
 (refine uJ rfl (fun hc=>?_) fun hc=>?_)
 ·have hi':i < links.length:=by omega
  have hgi:=c7h hi'
  have hgv:=c7h (show i < v.length by omega)
  generalize links[i]=l at hgi
  generalize v[i]'_=r at hgv
  have hz:=O1 hgi hgv
  have hst:=a2f (f:=a1q) hz
  have hnx:=a2d (f:=a1q) hz
  have bl:=hb l (c7k hgi)
  have br:=(hvb r (c7k hgv)).mono (m:=17179869184) (by decide)
  have o1:=b8M r br
  have o2:=Q9 (Nm.ofQ (E8 (Nm.d9 r))) l.speed (c5I (br.fit (by decide))) (bl.2.2.2.1.mono (by decide))
  rw [Nm.q8] at o2
  unfold a1q at hst hnx
  simp only at hst hnx
  generalize Nm.q9 (E8 (Nm.d9 r)) (Nm.d9 l.speed)=n1 at *
  unfold rq at o1
  generalize Nm.ofQ (E8 (Nm.d9 r))=ar at *
  have hvi:(i:Int) < v.length:=by omega
  simp only [rc,sb,ints] at o1 o2
  (repeat first|refine uA ?_|(refine uK ?_ ?_;focus first|omega|(intros;simp_all<;>omega))|simp (disch:=omega) only [go_sem,Nat.reduceBEq,Nat.reduceAdd,hgi,hgv,c7j,c7i,Lk.enc,rcs,vts,sb,c7o]|(refine uD o1 ?_ ?_ ?_;exact tz hw;exact rfl)|(refine uD o2 ?_ ?_ ?_;exact tz hw;exact rfl))
  refine S.cond rfl (fun hc2=>?_) (fun hc2=>?_)
  ·have hp:0 < n1:=by simpa using hc2
   rw [if_pos hp] at hst
   rw [hg,show a1q=fun x:Lk × Nm.Rt=>if 0 < Nm.q9 (E8 (Nm.d9 x.2)) (Nm.d9 x.1.speed) then 1 else 0 from rfl,hst (by decide)]
   (repeat first|refine uA ?_|(refine uK ?_ ?_;focus first|omega|(intros;simp_all<;>omega))|simp (disch:=omega) only [go_sem])
   exact S.done (j3.out rfl (Imp.refl rfl) rfl)
  ·have hp:¬ 0 < n1:=by simpa using hc2
   rw [if_neg hp] at hnx
   (repeat first|refine uA ?_|(refine uK ?_ ?_;focus first|omega|(intros;simp_all<;>omega))|simp (disch:=omega) only [go_sem,Nat.reduceBEq,ww])
   refine S.next (i+1) ⟨by omega,?_⟩ (by omega) (by (repeat first|refine uA ?_|(refine ⟨?_,?_⟩;focus first|rfl|simp [slot])|rfl|simp))
   rw [hg,show a1q=fun x:Lk × Nm.Rt=>if 0 < Nm.q9 (E8 (Nm.d9 x.2)) (Nm.d9 x.1.speed) then 1 else 0 from rfl,hnx rfl]
 ·rw [hg,a2T (by rw [List.length_zip];omega)]
  (repeat first|refine uA ?_|(refine uK ?_ ?_;focus first|omega|(intros;simp_all<;>omega))|simp (disch:=omega) only [go_sem])
  exact S.done (j3.out rfl (Imp.refl rfl) rfl)
set_option maxHeartbeats 16000000
theorem c6k (h:List Int) (n:Int):(a1o (.int .i64 n) (hdE h)).getD (.bool false)=.bool (h.contains n):=by
 rw [c3B];cases h.contains n<;>rfl
theorem b7F {α:Type} (p:α->Bool) (l:List α):l.all p=!l.any fun x=>!p x:=by rw [List.not_any_eq_all_not];simp
theorem b5g (w:Wk) (s:Stt) (hb:Wb 1073741824 w) (hs:Stb 1073741824 s):FZ 24 [w.c,s.c] (ints (U1 w s)):=by
 refine kW b1S b1I (by rfl) fun w' O hw=>?_
 have hwk:=a9P w hb
 obtain ⟨⟨n1,b1⟩,⟨n2,b2⟩,⟨n3,b3⟩,n4⟩:=hs
 have hone:=fun (a:Am) (x:Ast) (ha:a ∈ w.arms) (hx:x ∈ s.arms)=>c6r a x w.parts.length (hb.arms.2 a ha) (b1 x hx) (by have:=hb.parts.1;omega)
 have hfr:=b7V 55 (by kernel_rfl) (fun f=>!a1N f) s.parts (by omega) (fun f hf=>c3x f ⟨(b2 f hf).1.mono (by decide),(b2 f hf).2.1.mono (by decide),(b2 f hf).2.2.mono (by decide)⟩)
 have hvc:=b4X 58 (by kernel_rfl) (fun v=>!a6W v) s.people (by omega) (fun v hv=>c4a v ((b3 v hv).mono (by decide)))
 have m1:=hb.arms.1
 have m2:=hb.parts.1
 have m3:=hb.gates.1
 unfold U1
 rw [b7F a1N,b7F a6W]
 generalize a0b w=e0 at *
 generalize (s.parts.any fun f=>!a1N f)=g1 at *
 generalize (s.people.any fun v=>!a6W v)=g2 at *
 obtain ⟨arms,walls,parts,slots,gates,walk⟩:=w
 obtain ⟨tick,sarms,sparts,people,sgates⟩:=s
 simp only at *
 simp only [a6z,j5,TT,II,OA,OB,OC,MM,LL,VV,FF,MG,VG,FG]
 simp only [Wk.c,Wk.enc,Stt.c,Stt.enc,ams,wls,pts,sls,gts,P9,frs,vts,bls,sb,ints] at hwk hfr hvc ⊢
 (repeat first|refine uA ?_|(refine uK ?_ ?_;focus first|omega|(intros;simp_all<;>omega))|simp (disch:=omega) only [go_sem,Nat.reduceBEq,Nat.reduceAdd]|(refine uD hwk ?_ ?_ ?_;exact tz hw;exact rfl))
 refine S.cond rfl (fun hc=>?_) (fun hc=>?_)
 ·rw [if_pos (by simpa using hc)]
  (repeat first|refine uA ?_|(refine uK ?_ ?_;focus first|omega|(intros;simp_all<;>omega))|simp (disch:=omega) only [go_sem,Nat.reduceBEq])
  exact S.done (j3.out rfl (Imp.refl rfl) rfl)
 rw [if_neg (by simpa using hc)]
 (repeat first|refine uA ?_|(refine uK ?_ ?_;focus first|omega|(intros;simp_all<;>omega))|simp (disch:=omega) only [go_sem,Nat.reduceBEq,Nat.reduceAdd,c7i])
 refine S.cond rfl (fun hc=>?_) (fun hc=>?_)
 ·rw [if_pos (by simp only [c7v] at hc;omega)]
  (repeat first|refine uA ?_|(refine uK ?_ ?_;focus first|omega|(intros;simp_all<;>omega))|simp (disch:=omega) only [go_sem])
  exact S.done (j3.out rfl (Imp.refl rfl) rfl)
 rw [if_neg (by simp only [c7H] at hc;omega)]
 (repeat first|refine uA ?_|(refine uK ?_ ?_;focus first|omega|(intros;simp_all<;>omega))|simp (disch:=omega) only [go_sem,Nat.reduceBEq,Nat.reduceAdd,c7i])
 refine S.cond rfl (fun hc=>?_) (fun hc=>?_)
 ·rw [if_pos (by simp only [c7Y,Bool.not_eq_true',c7v,c7H] at hc;omega)]
  (repeat first|refine uA ?_|(refine uK ?_ ?_;focus first|omega|(intros;simp_all<;>omega))|simp (disch:=omega) only [go_sem])
  exact S.done (j3.out rfl (Imp.refl rfl) rfl)
 have hls:sarms.length=arms.length:=by simp only [c7V,Bool.not_eq_false',c7v,c7H] at hc;omega
 rw [if_neg (by simp only [c7V,Bool.not_eq_false',c7v,c7H] at hc;omega)]
 (repeat first|refine uA ?_|(refine uK ?_ ?_;focus first|omega|(intros;simp_all<;>omega))|simp (disch:=omega) only [go_sem,Nat.reduceBEq,Nat.reduceAdd,c7i])
 refine S.loop (X:=Nat × List Int) (fun x=>⟨[(2,.bp 0 0),(3,.bp 1 0),(6,.mp 2),(56,P9 sarms),(57,ints sarms.length),(58,ints x.1)],[.box 31 [ams arms,wls walls,pts parts,sls slots,gts gates,.v (.bool walk.neg),sb walk.num,sb walk.den],.box 37 [ints tick,P9 sarms,frs sparts,vts people,bls sgates],.map false (hdE x.2)]⟩)
  (fun x=>x.1<=sarms.length/\u7 (V8 parts.length) [] (arms.zip sarms)=u7 (V8 parts.length) x.2 ((arms.zip sarms).drop x.1)) (fun x=>sarms.length-x.1) (0,[]) ⟨c7n _,rfl⟩ (by (repeat first|refine uA ?_|(refine ⟨?_,?_⟩;focus first|rfl|simp [slot])|rfl|simp)) ?_
 rintro ⟨i,h⟩ ⟨hi,hg⟩
 simp only [ams,wls,pts,sls,gts,P9,frs,vts,bls,sb,ints] at hi hg ⊢
 (repeat first|refine uA ?_|(refine uK ?_ ?_;focus first|omega|(intros;simp_all<;>omega))|simp (disch:=omega) only [go_sem,Nat.reduceBEq])
 (refine uJ rfl (fun hc=>?_) fun hc=>?_)
 ·have hgx:=c7h (show i < sarms.length by omega)
  have hga:=c7h (show i < arms.length by omega)
  generalize sarms[i]'_=x at hgx
  generalize arms[i]'_=a at hga
  have hz:=O1 hga hgx
  have hst:=a2R (f:=V8 parts.length) (s:=h) hz
  have hnx:=a2N (f:=V8 parts.length) (s:=h) hz
  have ho:=hone a x (c7k hga) (c7k hgx)
  have hlk:=c6k h x.holds
  have hpt:=c5a h x.holds
  have hai:(i:Int) < arms.length:=by omega
  have hv:V8 parts.length h (a,x)=if a1j a x parts.length ≠ 0 then (a1j a x parts.length,h) else if (decide (0<=x.holds) && h.contains x.holds)=true then (10,h) else (0,a8D h x.holds):=rfl
  rw [hv] at hst hnx
  clear hv
  generalize a1j a x parts.length=e1 at *
  generalize h.contains x.holds=c1 at *
  simp only [Am.c,Am.enc,Ast.c,Ast.enc,lks,rts,sb,ints] at ho
  (repeat first|refine uA ?_|(refine uK ?_ ?_;focus first|omega|(intros;simp_all<;>omega))|simp (disch:=omega) only [go_sem,Nat.reduceBEq,Nat.reduceAdd,hga,hgx,c7j,c7i,Am.enc,Ast.enc,lks,rts,sb,ints,c7o]|(refine uD ho ?_ ?_ ?_;exact tz hw;exact rfl))
  refine S.cond rfl (fun hc2=>?_) (fun hc2=>?_)
  ·have h0:e1 ≠ 0:=by simpa using hc2
   rw [if_pos h0] at hst
   rw [hg,hst h0,if_pos h0]
   (repeat first|refine uA ?_|(refine uK ?_ ?_;focus first|omega|(intros;simp_all<;>omega))|simp (disch:=omega) only [go_sem,Nat.reduceBEq])
   exact S.done (j3.out rfl (Imp.refl rfl) rfl)
  have h0:e1=0:=by simpa using hc2
  rw [if_neg (by simp [h0])] at hst hnx
  (repeat first|refine uA ?_|(refine uK ?_ ?_;focus first|omega|(intros;simp_all<;>omega))|simp (disch:=omega) only [go_sem,Nat.reduceBEq,Nat.reduceAdd,hlk])
  refine S.cond rfl (fun hc3=>?_) (fun hc3=>?_)
  ·rw [if_pos hc3] at hst
   rw [hg,hst (by simp),if_pos (by simp)]
   (repeat first|refine uA ?_|(refine uK ?_ ?_;focus first|omega|(intros;simp_all<;>omega))|simp (disch:=omega) only [go_sem])
   exact S.done (j3.out rfl (Imp.refl rfl) rfl)
  ·rw [if_neg (by rw [hc3];decide)] at hnx
   (repeat first|refine uA ?_|(refine uK ?_ ?_;focus first|omega|(intros;simp_all<;>omega))|simp (disch:=omega) only [go_sem,Nat.reduceBEq,Nat.reduceAdd,ww,hpt])
   refine S.next (x:=(i,h)) (i+1,a8D h x.holds) ⟨by simp only;omega,by simp only;rw [hg,hnx rfl]⟩ (by simp only;omega) (by (repeat first|refine uA ?_|(refine ⟨?_,?_⟩;focus first|rfl|simp [slot])|rfl|simp))
 ·rw [hg,a3R (by rw [List.length_zip];omega),if_neg (by simp)]
  (repeat first|refine uA ?_|(refine uK ?_ ?_;focus first|omega|(intros;simp_all<;>omega))|simp (disch:=omega) only [go_sem,Nat.reduceBEq,Nat.reduceAdd]|(refine uD hfr ?_ ?_ ?_;exact tz hw;exact rfl)|(refine uD hvc ?_ ?_ ?_;exact tz hw;exact rfl))
  refine S.cond rfl (fun hc=>?_) (fun hc=>?_)
  ·rw [if_neg (by cases g1<;>cases g2<;>simp_all)]
   (repeat first|refine uA ?_|(refine uK ?_ ?_;focus first|omega|(intros;simp_all<;>omega))|simp (disch:=omega) only [go_sem])
   exact S.done (j3.out rfl (Imp.refl rfl) rfl)
  ·rw [if_pos (by cases g1<;>cases g2<;>simp_all)]
   (repeat first|refine uA ?_|(refine uK ?_ ?_;focus first|omega|(intros;simp_all<;>omega))|simp (disch:=omega) only [go_sem])
   exact S.done (j3.out rfl (Imp.refl rfl) rfl)
theorem a1b:Rb 8 (Nm.ofQ 0):=⟨Nm.G5 (by decide),Nm.G5 (by decide)⟩
theorem a8w:FZ 48 [.v (.int .i64 0)] (rq 0):=by
 have:=a2l 0 (by decide) (by decide)
 rwa [show ((0:Int):Rat)=0 from rfl] at this
theorem c4t:FZ 83 [] a4x.c:=by
 refine kW Tryz.func83 (by cbv) (by rfl) fun w O hw=>?_
 have h1:=a8w
 have h2:=b3R (Nm.ofQ 0) (a1b.mono (by decide))
 rw [Nm.q8] at h2
 unfold tq rq at *
 unfold a4x
 generalize Nm.ofQ 0=r at *
 simp only [j5,TT,II,OA,OB,LL]
 simp only [Fr.c,Fr.enc,rc,tc,sb] at *
 (repeat first|refine uA ?_|(apply uK;focus omega)|simp (disch:=omega) only [go_sem,Nat.reduceBEq]|(apply uD h1;exact tz hw;rfl)|(apply uD h2;exact tz hw;rfl))
 (refine S.done ?_;simp only [p9,r9,go_sem,Nat.reduceBEq,Nat.reduceAdd,Nat.reduceLeDiff];(repeat (refine ⟨?_,?_⟩;focus first|trivial|omega|simp));exact j3.out rfl (Imp.refl rfl) rfl)
open Go Eng
set_option maxHeartbeats 8000000
theorem c3O (a:Am) (q v:List Nm.Rt) (hl:Ab 1073741824 a) (ha:J3 a=0) (hq:q.length=a.links.length) (hv:v.length=a.links.length):FZ 107 [a.c,rts q,rts v] (ints 0):=by
 refine kW Tryz.func107 (by cbv) (by rfl) fun w O hw=>?_
 have h:=b0X a hl
 rw [ha] at h
 have hn:=hl.2.2.1
 obtain ⟨name,⟨x,y,half,t⟩,links⟩:=a
 simp only at hq hv hn
 simp only [j5,TT,II,OA,OC,MM,LL,VV,FF,MG,VG,FG]
 simp only [Am.c,Am.enc,lks,rts,sb,ints] at *
 (repeat first|refine uA ?_|(apply uK;focus omega)|simp (disch:=omega) only [go_sem,Nat.reduceBEq]|(apply uD h;exact tz hw;rfl))
 refine S.cond rfl (fun hc=>by simp at hc) (fun hc=>?_)
 (repeat first|refine uA ?_|(apply uK;focus first|omega|(intros;simp_all<;>omega))|simp (disch:=omega) only [go_sem,Nat.reduceBEq,Nat.reduceAdd,c7i])
 refine S.cond rfl (fun hc=>by simp only [c7Y,Bool.not_eq_true',c7H] at hc;omega) (fun hc=>?_)
 (repeat first|refine uA ?_|(apply uK;focus omega)|simp (disch:=omega) only [go_sem])
 exact S.done (j3.out rfl (Imp.refl rfl) rfl)
theorem c4e {α:Type} {l m:List α} {i:Nat} {y:α} (f:α->List C) (hl:l.length=m.length) (hy:l[i]?=some y):((l.take i++m.drop i).map f).set i (f y)=(l.take (i+1)++m.drop (i+1)).map f:=by
 rw [<- List.map_set,b7t hl hy]
theorem take_at {α:Type} {l:List α} {i:Nat} {x:α} (h:l[i]?=some x):l.take (i+1)=l.take i++[x]:=by
 obtain ⟨hi,rfl⟩:=c7m.1 h
 exact c7Z hi
def tB:Nat->Nat
 | 0=>8
 | n+1=>2*(2*(tB n+2097664)+16+8)+16
def xB:Nat->Nat
 | 0=>8
 | n+1=>xB n+2*(8+4*tB n+18)+2+2*(8+4*(2*(tB n+2097664)+16)+18)+2
def Fx (i:Nat) (f:Fr):Prop:=Rb (xB i) f.x/\Rb (xB i) f.y/\Rb (tB i) f.t
theorem b0h {a:Am} (h:J3 a=0):Fx 0 a.base/\∀ l ∈ a.links,Rb 8 l.length:=by
 have hl:=(O7 h).2
 unfold J3 at h
 split at h
 ·cases h
 split at h
 ·cases h
 split at h
 ·cases h
 rename_i h1
 have hs:(l6 a.base.x && l6 a.base.y && l6 a.base.t)=true:=by
  cases hb:(l6 a.base.x && l6 a.base.y && l6 a.base.t) with
  | true=>rfl
  | false=>exact absurd (.inr (.inl hb)) h1
 simp only [c7q] at hs
 refine ⟨⟨(X3 hs.1.1).mono (by decide),(X3 hs.1.2).mono (by decide),(X3 hs.2).mono (by decide)⟩,fun l hm=>?_⟩
 have:=hl l hm
 unfold O6 at this
 split at this
 ·cases this
 rename_i h2
 have hs2:(l6 l.length && l6 l.low && l6 l.high && l6 l.speed && l6 l.brake)=true:=by
  cases hb:(l6 l.length && l6 l.low && l6 l.high && l6 l.speed && l6 l.brake) with
  | true=>rfl
  | false=>exact absurd (.inl hb) h2
 simp only [c7q] at hs2
 exact (X3 hs2.1.1.1.1).mono (by decide)
set_option maxHeartbeats 16000000
def c5F (v:Vt) (z:Gt):Prop:=Nm.q9 (Nm.d9 v.x) (Nm.d9 z.low.x) < 0 \/ 0 < Nm.q9 (Nm.d9 v.x) (Nm.d9 z.high.x) \/ Nm.q9 (Nm.d9 v.y) (Nm.d9 z.low.y) < 0 \/ 0 < Nm.q9 (Nm.d9 v.y) (Nm.d9 z.high.y)
instance (v:Vt) (z:Gt):Decidable (c5F v z):=by unfold c5F;infer_instance
def wss (u:List (List Nm.Rt)):C:=.sl 1 (u.map fun l=>[rts l])
theorem c7a {α β γ:Type} {f:α × β->γ} {l:List α} {m:List β} {z:γ} (h:z ∈ (l.zip m).map f):∃ a ∈ l,∃ b ∈ m,z=f (a,b):=by
 obtain ⟨⟨a,b⟩,hm,rfl⟩:=List.mem_map.1 h
 exact ⟨a,(List.of_mem_zip hm).1,b,(List.of_mem_zip hm).2,rfl⟩
set_option maxHeartbeats 4000000
theorem a3V (q:Rat):(q < 0/\E8 q=-q) \/ (0<=q/\E8 q=q):=by
 unfold E8
 have h:=@Rat.num_nonneg q
 by_cases hn:q.num < 0
 ·rw [if_pos hn];left;exact ⟨by rw [<- Rat.not_le,<- h];omega,rfl⟩
 ·rw [if_neg hn];right;exact ⟨h.1 (by omega),rfl⟩
theorem b0I {b:Rat} (h:0 < E9 b):0 < b:=by
 rcases a8l b with ⟨h1,_⟩|⟨h1,_⟩|⟨_,h1⟩
 ·omega
 ·omega
 ·exact h1
def c2E (x:Lk × Nm.Rt):Int:=if Nm.q9 (Nm.d9 x.2) (Nm.d9 x.1.low) < 0 \/ 0 < Nm.q9 (Nm.d9 x.2) (Nm.d9 x.1.high) then 17 else 0
theorem c1F {a:Am} {y:Ast} {n:Nat} (ha:J3 a=0) (g1:y.q.all M8=true) (g2:y.v.all M8=true) (hq:y.q.length=a.links.length) (hv:y.v.length=a.links.length) (hh:-1<=y.holds/\y.holds < n) (hl:∀ z ∈ a.links.zip y.q,c2E z=0) (hs:∀ z ∈ a.links.zip y.v,a1q z=0):a1j a y n=0:=by
 unfold a1j
 have hf:a2m a y.q=0:=by
  unfold a2m
  rw [if_neg (by simp [ha]),if_neg (by simp [hq])]
  exact a1U hl
 rw [g1,g2,if_neg (by decide),hf,if_neg (by decide),if_neg (by omega)]
 exact a1U hs
theorem b3s (n:Nat):∀ (A:List Am) (X Y:List Ast) (h:List Int),X.map (·.holds)=Y.map (·.holds)->(∀ z ∈ A.zip Y,a1j z.1 z.2 n=0)->(u7 (V8 n) h (A.zip X)).1=0->(u7 (V8 n) h (A.zip Y)).1=0
  | [],_,_,_,_,_,_=>by simp [u7]
  | a::A,[],[],h,_,_,hx=>hx
  | a::A,[],y::Y,h,e,_,_=>by simp at e
  | a::A,x::X,[],h,e,_,_=>by simp at e
  | a::A,x::X,y::Y,h,e,ho,hx=>by
    simp only [c7w,List.cons.injEq] at e
    simp only [List.zip_cons_cons] at ho hx ⊢
    have h1:=ho (a,y) (by simp)
    unfold u7 at hx ⊢
    by_cases hx0:(V8 n h (a,x)).1=0
    · have e0:a1j a x n=0:=by
        unfold V8 at hx0
        split at hx0
        · exact hx0
        · exact Classical.not_not.1 (by assumption)
      have e2:V8 n h (a,y)=V8 n h (a,x):=by
        unfold V8
        simp only at h1 ⊢
        rw [h1,e0,e.1]
      rw [if_pos hx0] at hx
      rw [e2,if_pos hx0]
      exact b3s n A X Y _ e.2 (fun z hz=>ho z (by simp [hz])) hx
    · rw [if_neg hx0] at hx;exact absurd hx hx0
structure Calm (w:Wk) (s:Stt) (k:Nat):Prop where
 st:U1 w s=0
 people:s.people=[]
 holds:∀ x ∈ s.arms,x.holds=-1
 q:∀ x ∈ s.arms,∀ r ∈ x.q,Rb (100+1000*k) r
 v:∀ x ∈ s.arms,∀ r ∈ x.v,Rb (200+20*k) r
 tick:s.tick=k
 parts:∀ f ∈ s.parts,Fb 1048576 f
theorem c5f {w:Wk} {s:Stt} {k:Nat} (h:Calm w s k) (hk:k<=10):Stb 1048576 s:=by
 have ho:=a2v h.st
 refine ⟨⟨by have:=ho.arms;have:=ho.big;omega,fun x hx=>?_⟩,⟨by have:=ho.parts;have:=ho.big;omega,h.parts⟩,⟨by have:=ho.people;omega,fun v hv=>by rw [h.people] at hv;cases hv⟩,by have:=ho.gates;have:=ho.big;omega⟩
 obtain ⟨i,hi⟩:=List.getElem?_of_mem hx
 have hil:=(c7m.1 hi).1
 have ga:=c7h (show i < w.arms.length by have:=ho.arms;omega)
 have h1:=b0k (ho.one _ (c7k (O1 ga hi)))
 simp only at h1
 have h2:=(Z4 h1.arm).2
 have h3:=h1.q
 have h4:=h1.v
 exact ⟨⟨by omega,fun r hr=>(h.q x hx r hr).mono (by omega)⟩,by omega,fun r hr=>(h.v x hx r hr).mono (by omega)⟩
theorem a7j {l:Lk} (h:O6 l=0):Rb 3 l.low/\Rb 3 l.high/\Rb 3 l.speed/\Rb 3 l.brake:=by
 unfold O6 at h
 split at h
 ·cases h
 rename_i h2
 have hs2:(l6 l.length && l6 l.low && l6 l.high && l6 l.speed && l6 l.brake)=true:=by
  cases hb:(l6 l.length && l6 l.low && l6 l.high && l6 l.speed && l6 l.brake) with
  | true=>rfl
  | false=>exact absurd (.inl hb) h2
 simp only [c7q] at hs2
 exact ⟨X3 hs2.1.1.1.2,X3 hs2.1.1.2,X3 hs2.1.2,X3 hs2.2⟩
theorem b9m {w:Wk} (hwb:Wb 1048576 w) (hk:a0b w=0) (ha:∀ a ∈ w.arms,J3 a=0) (hs:∀ s ∈ w.slots,okF s.frame=true):Calm w (E5 w) 0:=by
 have hb:=b3Y (k:=1048576) (by decide) hwb ha hs
 refine ⟨a6E hk ha hs,rfl,fun x hx=>?_,fun x hx r hr=>?_,fun x hx r hr=>?_,rfl,hb.parts.2⟩
 ·obtain ⟨a,_,rfl⟩:=List.mem_map.1 (show x ∈ w.arms.map Q7 from hx)
  rfl
 ·obtain ⟨a,hm,rfl⟩:=List.mem_map.1 (show x ∈ w.arms.map Q7 from hx)
  obtain ⟨l,hl,rfl⟩:=List.mem_map.1 (show r ∈ a.links.map a0N from hr)
  have h3:=a7j ((O7 (ha a hm)).2 l hl)
  unfold a0N K6 G9
  repeat' split
  all_goals first|exact (h3.1.fit (by decide)).mono (by decide)|exact (h3.2.1.fit (by decide)).mono (by decide)|exact a1b.mono (by decide)
 ·obtain ⟨a,hm,rfl⟩:=List.mem_map.1 (show x ∈ w.arms.map Q7 from hx)
  obtain ⟨l,hl,rfl⟩:=List.mem_map.1 (show r ∈ a.links.map (fun _=>Nm.ofQ 0) from hr)
  exact a1b.mono (by decide)
def aQ (b v:Rat) (j:Nat):Rat:=if v-(j:Rat)*b<=0 then 0 else v-(j:Rat)*b
def sQ (b v:Rat):Nat->Rat
 | 0=>0
 | j+1=>sQ b v j+aQ b v (j+1)
theorem a4c (j:Nat):((j+1:Nat):Rat)=(j:Rat)+1:=by
 rw [Rat.natCast_add];rfl
theorem b5P (b v:Rat) (j:Nat):0<=aQ b v j:=by
 unfold aQ
 split<;>grind
theorem c5h {b v:Rat} (hv:0<=v):aQ b v 0=v:=by
 unfold aQ
 have h:((0:Nat):Rat)=0:=rfl
 rw [h]
 split<;>grind
theorem c4X {b v:Rat} (hb:0 < b) (j:Nat):aQ b v (j+1)=if aQ b v j<=b then 0 else aQ b v j-b:=by
 unfold aQ
 rw [a4c]
 generalize (j:Rat)=J
 have e:(J+1)*b=J*b+b:=by grind
 rw [e]
 generalize J*b=t
 split<;>split<;>(try split)<;>grind
theorem b4B (b v:Rat):∀ (j k:Nat),j<=k->sQ b v j<=sQ b v k
 | j,0,h=>by
  have:j=0:=by omega
  subst this
  exact Rat.le_refl
 | j,k+1,h=>by
  rcases c7D j (k+1) with h1|h1
  ·have h2:=b4B b v j k (by omega)
   have h3:=b5P b v (k+1)
   rw [sQ]
   grind
  ·have:j=k+1:=by omega
   subst this
   exact Rat.le_refl
theorem c1B (b v:Rat) (j:Nat):0<=sQ b v j:=b4B b v 0 j (c7n _)
theorem b9f {b v:Rat} (hb:0 < b) {n j:Nat} (h:v<=(n:Rat)*b) (hj:n<=j):aQ b v j=0:=by
 unfold aQ
 have h1:(n:Rat)<=(j:Rat):=by exact_mod_cast hj
 have h2:(n:Rat)*b<=(j:Rat)*b:=Rat.mul_le_mul_of_nonneg_right h1 (by grind)
 rw [if_pos (by grind)]
theorem c3b {b v:Rat} (hb:0 < b) {n:Nat} (h:v<=(n:Rat)*b):∀ j,n<=j->sQ b v j=sQ b v n
 | 0,hj=>by
  have:n=0:=by omega
  subst this
  rfl
 | j+1,hj=>by
  rcases c7D n (j+1) with h1|h1
  ·rw [sQ,c3b hb h j (by omega),b9f hb h hj]
   grind
  ·have:n=j+1:=by omega
   subst this
   rfl
theorem c6B {b v:Rat} (hb:0 < b) {n:Nat} (h:v<=(n:Rat)*b) (j:Nat):sQ b v j<=sQ b v n:=by
 rcases Nat.le_total j n with h1|h1
 ·exact b4B b v j n h1
 ·rw [c3b hb h j h1]
  exact Rat.le_refl
theorem b5T {b v:Rat} (hb:0 < b):∀ (m:Nat),(m:Rat)*b<=v->sQ b v m=(m:Rat)*v-b*((m:Rat)*((m:Rat)+1) / 2)
 | 0,_=>by
  have h:((0:Nat):Rat)=0:=rfl
  rw [h,sQ]
  grind
 | m+1,h=>by
  rw [a4c] at h ⊢
  have h1:(m:Rat)*b<=v:=by
   have e:((m:Rat)+1)*b=(m:Rat)*b+b:=by grind
   grind
  have h2:aQ b v (m+1)=v-((m:Rat)+1)*b:=by
   unfold aQ
   rw [a4c]
   split<;>grind
  rw [sQ,b5T hb m h1,h2]
  generalize (m:Rat)=M
  grind
def a5d (b v:Rat) (n:Nat):Rat:=if n < 2 then 0 else ((n-1:Nat):Rat)*v-b*((n*(n-1) / 2:Nat):Rat)
theorem c0B (n:Nat):((n*(n-1) / 2:Nat):Rat)=((n-1:Nat):Rat)*(((n-1:Nat):Rat)+1) / 2:=by
 cases n with
 | zero=>decide +kernel
 | succ m=>
  have he:2 ∣ (m+1)*m:=by
   rcases Nat.mod_two_eq_zero_or_one m with h|h
   ·exact Nat.dvd_trans (Nat.dvd_of_mod_eq_zero h) (Nat.dvd_mul_left _ _)
   ·exact Nat.dvd_trans (Nat.dvd_of_mod_eq_zero (by omega)) (Nat.dvd_mul_right _ _)
  obtain ⟨k,hk⟩:=he
  have hk2:(m+1)*(m+1-1) / 2=k:=by rw [Nat.add_sub_cancel,hk];omega
  rw [hk2,Nat.add_sub_cancel]
  have hc:((m+1:Nat):Rat)*(m:Rat)=2*(k:Rat):=by
   have:=congrArg (fun n:Nat=>(n:Rat)) hk
   simp only [Rat.natCast_mul] at this
   exact this
  rw [a4c] at hc
  grind
theorem c4S {b v:Rat} (hb:0 < b) {n:Nat} (h1:v<=(n:Rat)*b) (h2:1<=n->((n-1:Nat):Rat)*b<=v):a5d b v n=sQ b v n:=by
 unfold a5d
 split
 ·rename_i hn
  have:n=0 \/ n=1:=by omega
  rcases this with rfl|rfl
  ·rfl
  ·rw [sQ,b9f hb h1 (c7p _)]
   show (0:Rat)=0+0
   grind
 ·rename_i hn
  obtain ⟨m,rfl⟩:∃ m,n=m+1:=⟨n-1,by omega⟩
  have h3:=b5T hb m (h2 (by omega))
  have h4:=c0B (m+1)
  rw [Nat.add_sub_cancel] at h4 ⊢
  rw [h4,sQ,b9f hb h1 (c7p _),h3]
  grind
def sgQ (v:Rat):Rat:=if v < 0 then -1 else 1
theorem c5N (v:Rat):sgQ v*E8 v=v:=by
 unfold sgQ
 rcases a3V v with ⟨h,e⟩|⟨h,e⟩
 ·rw [if_pos h,e];grind
 ·rw [if_neg (by grind),e];grind
theorem abs_nonneg (v:Rat):0<=E8 v:=by
 rcases a3V v with ⟨h,e⟩|⟨h,e⟩<;>rw [e]<;>grind
structure Jnt (T V B:Rat) (j:Nat) (q v:Nm.Rt):Prop where
 v:Nm.d9 v=sgQ V*aQ B (E8 V) j
 q:Nm.d9 q=T+sgQ V*sQ B (E8 V) j
theorem Jnt.start (q u:Nm.Rt) (B:Rat):Jnt (Nm.d9 q+Nm.d9 u) (Nm.d9 u) B 0 (a2q q u) u:=by
 refine ⟨by rw [c5h (abs_nonneg _),c5N],?_⟩
 unfold a2q
 rw [Nm.q8,sQ]
 grind
theorem Jnt.next {T V B:Rat} {j:Nat} {q v b:Nm.Rt} (h:Jnt T V B j q v) (hb:Nm.d9 b=B) (h0:0 < B):Jnt T V B (j+1) (a2q q (b0W b v)) (b0W b v):=by
 have hv:Nm.d9 (b0W b v)=sgQ V*aQ B (E8 V) (j+1):=by
  have h1:=h.v
  have h2:=c4X (v:=E8 V) h0 j
  have h3:=b5P B (E8 V) j
  rw [h2]
  unfold b0W a2q
  rw [hb,h1]
  generalize aQ B (E8 V) j=a at *
  have hs:sgQ V=1 \/ sgQ V=-1:=by unfold sgQ;split<;>simp
  generalize sgQ V=s at *
  have ha:E8 (s*a)=a:=by
   rcases a3V (s*a) with ⟨e1,e2⟩|⟨e1,e2⟩<;>rcases hs with rfl|rfl<;>rw [e2]<;>grind
  rw [ha]
  have hle:Nm.q9 a B<=0 <-> a<=B:=by
   have:=a3u a B
   constructor
   ·intro h
    have:¬ B < a:=fun h4=>by have:=this.2 h4;omega
    grind
   ·intro h
    have:¬ 0 < Nm.q9 a B:=fun h4=>by have:=this.1 h4;grind
    omega
  by_cases hc:a<=B
  ·rw [if_pos (hle.2 hc),if_pos hc,Nm.q8]
   grind
  ·rw [if_neg (fun h=>hc (hle.1 h)),if_neg hc]
   have hsg:=a8l (s*a)
   split
   ·rw [Nm.q8]
    rcases hs with rfl|rfl<;>grind
   ·rw [Nm.q8]
    rcases hs with rfl|rfl<;>grind
 refine ⟨hv,?_⟩
 unfold a2q
 rw [Nm.q8,h.q,hv,sQ]
 grind
theorem Jnt.range {T V B:Rat} {j n:Nat} {q v:Nm.Rt} (h:Jnt T V B j q v) (h0:0 < B) (h1:E8 V<=(n:Rat)*B) (h2:1<=n->((n-1:Nat):Rat)*B<=E8 V) :
  (T<=Nm.d9 q/\Nm.d9 q<=T+sgQ V*a5d B (E8 V) n) \/ (T+sgQ V*a5d B (E8 V) n<=Nm.d9 q/\Nm.d9 q<=T):=by
 rw [h.q,c4S h0 h1 h2]
 have h3:=c1B B (E8 V) j
 have h4:=c6B h0 h1 j
 have hs:sgQ V=1 \/ sgQ V=-1:=by unfold sgQ;split<;>simp
 rcases hs with e|e<;>rw [e]
 ·left;grind
 ·right;grind
def I6 (B V:Rat):Int:=if ((E8 V / B).floor:Rat) < E8 V / B then (E8 V / B).floor+1 else (E8 V / B).floor
theorem a6Q {B V:Rat} (hB:0 < B):0<=I6 B V/\E8 V<=(((I6 B V).toNat:Nat):Rat)*B/\(1<=(I6 B V).toNat->(((I6 B V).toNat-1:Nat):Rat)*B<=E8 V):=by
 have hq:E8 V / B*B=E8 V:=Rat.div_mul_cancel (by grind)
 have h0:0<=E8 V / B:=by
  rw [Rat.div_def]
  exact Rat.mul_nonneg (abs_nonneg V) (Rat.le_of_lt (Rat.inv_pos.2 hB))
 unfold I6
 generalize E8 V / B=q at *
 have hf:0<=q.floor:=Rat.le_floor_iff.2 (by simpa using h0)
 have h1:=Rat.floor_le q
 have h2:=Rat.lt_floor_add_one q
 obtain ⟨f,hfe⟩:∃ f:Nat,q.floor=f:=⟨q.floor.toNat,by omega⟩
 rw [hfe] at h1 h2 ⊢
 have e1:(((f:Int)+1:Int):Rat)=(f:Rat)+1:=by rw [Rat.intCast_add];rfl
 have e2:(((f:Nat):Int):Rat)=(f:Rat):=rfl
 rw [e1] at h2
 rw [e2] at h1 ⊢
 rw [<- hq]
 split
 ·rename_i hlt
  refine ⟨by omega,?_,fun _=>?_⟩
  ·rw [show ((f:Int)+1).toNat=f+1 by omega,a4c]
   exact Rat.mul_le_mul_of_nonneg_right (by grind) (by grind)
  ·rw [show ((f:Int)+1).toNat-1=f by omega]
   exact Rat.mul_le_mul_of_nonneg_right h1 (by grind)
 ·rename_i hlt
  refine ⟨by omega,?_,fun _=>?_⟩
  ·rw [c7o]
   exact Rat.mul_le_mul_of_nonneg_right (by grind) (by grind)
  ·rw [c7o]
   have h3:((f-1:Nat):Rat)<=(f:Rat):=by exact_mod_cast Nat.sub_le f 1
   exact Rat.mul_le_mul_of_nonneg_right (by grind) (by grind)
theorem b7A (p q:Rat):G9 p q<=p/\G9 p q<=q:=by
 unfold G9
 have h:=a3u p q
 split
 ·have:¬ q < p:=fun h2=>by have:=h.2 h2;omega
  grind
 ·have:q < p:=h.1 (by omega)
  grind
theorem b7w (p q:Rat):p<=K6 p q/\q<=K6 p q:=by
 unfold K6
 have h:=a3t p q
 split
 ·have:¬ p < q:=fun h2=>by have:=h.2 h2;omega
  grind
 ·have:p < q:=h.1 (by omega)
  grind
def b8d (q u b:Nm.Rt):Rat:=Nm.d9 q+Nm.d9 u+sgQ (Nm.d9 u)*a5d (Nm.d9 b) (E8 (Nm.d9 u)) (I6 (Nm.d9 b) (Nm.d9 u)).toNat
def loQ (q u b:Nm.Rt):Rat:=G9 (G9 (Nm.d9 q+Nm.d9 u) (b8d q u b)) (Nm.d9 q)
def hiQ (q u b:Nm.Rt):Rat:=K6 (K6 (Nm.d9 q+Nm.d9 u) (b8d q u b)) (Nm.d9 q)
def c7b (q0 u b:Nm.Rt):Nat->Nm.Rt->Nm.Rt->Prop
 | 0,q,v=>q=q0/\Nm.d9 v=0
 | k+1,q,v=>Jnt (Nm.d9 q0+Nm.d9 u) (Nm.d9 u) (Nm.d9 b) k q v \/ (q=q0/\Nm.d9 v=0)
set_option maxHeartbeats 8000000
theorem c5M (n:Nat) (hb:(Nm.enc n).length<=1099511627776):A9 Tryz.prog 153 [sb (Nm.enc n)] (.tup [ints (if n < 9223372036854775808 then n else 0:Nat),ints (if n < 9223372036854775808 then 0 else 2:Nat)]):=by
 refine kS Tryz.func153 (by cbv) (by rfl) fun w O=>?_
 have o1:=a0v (Nm.enc n) (by omega)
 rw [Nm.a7d (Nm.a2H _)] at o1
 have o2:=a1R (Nm.enc n) (by omega)
 rw [Nm.H7] at o2
 have h256:(256:Nat) ^ 8=18446744073709551616:=by decide
 by_cases hl:(Nm.enc n).length<=8
 ·have hn:n < 18446744073709551616:=by rw [<- h256];exact Nm.Y5 hl
  rw [Nat.mod_eq_of_lt hn] at o2
  generalize Nm.enc n=l at *
  have d1:decide ((8:Int) < (l.length:Int))=false:=decide_eq_false (by omega)
  simp only [j5,TT,II,OA,OC,MM,MG]
  simp only [sb,ints] at *
  by_cases h63:n < 9223372036854775808
  ·rw [if_pos h63,if_pos h63]
   have d2:decide ((9223372036854775807:Int) < (n:Int))=false:=decide_eq_false (by omega)
   have w1:IntKind.i64.wrap (n:Int)=(n:Int):=Eng.wrap_i64 (by omega)
   (repeat first|refine uA ?_|(apply uK;focus omega)|simp (disch:=omega) only [go_sem,Nat.reduceBEq,F4,d1,d2]|(apply uB o1;exact rfl)|(apply uB o2;exact rfl))
   refine S.cond rfl (fun hc=>by simp at hc) (fun hc=>?_)
   (repeat first|refine uA ?_|(apply uK;focus omega)|simp (disch:=omega) only [go_sem,Nat.reduceBEq,w1]|(apply uB o2;exact rfl))
   (refine S.done ?_;simp only [p9,go_sem,Nat.reduceBEq];exact j3.out rfl (Imp.tup (by (repeat' (first|exact j4.nil|exact Imp.refl rfl|exact Imp.frz rfl rfl rfl|exact Imp.F8|refine Imp.agg ?_|refine j4.cons ?_ ?_)))) rfl)
  ·rw [if_neg h63,if_neg h63]
   have d2:decide ((9223372036854775807:Int) < (n:Int))=true:=decide_eq_true (by omega)
   (repeat first|refine uA ?_|(apply uK;focus omega)|simp (disch:=omega) only [go_sem,Nat.reduceBEq,F4,d1,d2]|(apply uB o1;exact rfl)|(apply uB o2;exact rfl))
   refine S.cond rfl (fun hc=>?_) (fun hc=>by simp at hc)
   (repeat first|refine uA ?_|(apply uK;focus omega)|simp (disch:=omega) only [go_sem])
   (refine S.done ?_;simp only [p9,go_sem,Nat.reduceBEq];exact j3.out rfl (Imp.tup (by (repeat' (first|exact j4.nil|exact Imp.refl rfl|exact Imp.frz rfl rfl rfl|exact Imp.F8|refine Imp.agg ?_|refine j4.cons ?_ ?_)))) rfl)
 ·have hn:¬ n < 9223372036854775808:=fun h=>hl (Nm.G5 (by omega))
  rw [if_neg hn,if_neg hn]
  generalize Nm.enc n=l at *
  have d1:decide ((8:Int) < (l.length:Int))=true:=decide_eq_true (by omega)
  simp only [j5,TT,II,OA,OC,MM,MG]
  simp only [sb,ints] at *
  (repeat first|refine uF o2 ?_|refine uA ?_|(apply uK;focus omega)|simp (disch:=omega) only [go_sem,Nat.reduceBEq,F4,d1]|(apply uB o1;exact rfl))
  refine S.cond rfl (fun hc=>?_) (fun hc=>by simp at hc)
  (repeat first|refine uA ?_|(apply uK;focus omega)|simp (disch:=omega) only [go_sem])
  (refine S.done ?_;simp only [p9,go_sem,Nat.reduceBEq];exact j3.out rfl (Imp.tup (by (repeat' (first|exact j4.nil|exact Imp.refl rfl|exact Imp.frz rfl rfl rfl|exact Imp.F8|refine Imp.agg ?_|refine j4.cons ?_ ?_)))) rfl)
theorem a7H {p:Rat} (h:0<=p):0<=p.floor:=Rat.le_floor_iff.2 (by simpa using h)
theorem a9e (p:Rat):p.floor=Nm.sgn (decide (p.num < 0)) (if p.num < 0/\p.num.natAbs % p.den ≠ 0 then p.num.natAbs / p.den+1 else p.num.natAbs / p.den):=by
 rw [Rat.floor_def]
 have hd:0 < p.den:=Nat.pos_of_ne_zero p.den_nz
 generalize p.den=d at *
 generalize p.num=n at *
 unfold Nm.sgn
 by_cases hn:n < 0
 ·rw [decide_eq_true hn,if_pos rfl]
  obtain ⟨m,rfl⟩:∃ m:Nat,n=-(m:Int):=⟨n.natAbs,by omega⟩
  rw [Int.natAbs_neg,Int.natAbs_natCast]
  have h1:=Nat.div_add_mod m d
  have h2:=Nat.mod_lt m hd
  have e1:((m:Int))=(d:Int)*((m / d:Nat):Int)+((m % d:Nat):Int):=by rw [<- Int.natCast_mul,<- Int.natCast_add,h1]
  by_cases hz:m % d=0
  ·rw [if_neg (by simp [hz])]
   refine ((Int.ediv_emod_unique (r:=0) (show (0:Int) < d by omega)).2 ⟨?_,by omega,by omega⟩).1
   rw [e1,hz]
   grind
  ·rw [if_pos ⟨hn,hz⟩]
   refine ((Int.ediv_emod_unique (r:=((d-m % d:Nat):Int)) (show (0:Int) < d by omega)).2 ⟨?_,by omega,by omega⟩).1
   have e2:((d-m % d:Nat):Int)=(d:Int)-((m % d:Nat):Int):=by omega
   rw [e2]
   have e3:((m / d+1:Nat):Int)=((m / d:Nat):Int)+1:=by omega
   rw [e3]
   grind
 ·rw [decide_eq_false hn,if_neg (by decide),if_neg (by simp [hn])]
  rw [Int.natCast_ediv]
  congr 1
  omega
theorem b7C (p:Rat) (hb:Rb 1073741824 (Nm.ofQ p)):FZ 152 [rq p] (rq (p.floor:Rat)):=by
 refine kW Tryz.func152 (by cbv) (by rfl) fun w O hw=>?_
 obtain ⟨h1,h2⟩:=hb
 simp only [Nm.ofQ] at h1 h2
 have o1:=b3L (Nm.enc p.num.natAbs) (Nm.enc p.den) (by omega) (by omega) (by rw [Nm.H7];exact p.den_nz)
 simp only [Nm.H7] at o1
 have hle:p.num.natAbs / p.den<=p.num.natAbs:=Nat.div_le_self _ _
 have hl1:=Nm.a2u hle
 have o0:=f_add (Nm.enc (p.num.natAbs / p.den)) [1] (by omega) (by decide)
 rw [Nm.H7,show Nm.val [1]=1 from rfl] at o0
 have hl2:=Nm.a2b (k:=1073741824) (show (Nm.enc (p.num.natAbs / p.den)).length<=1073741824 by omega) (show (Nm.enc 1).length<=1073741824 by rw [Nm.U6];decide)
 have o2:=a2U (decide (p.num < 0)) (p.num.natAbs / p.den) 1 (by decide) (by omega) (by rw [Nm.U6];decide)
 have o3:=a2U (decide (p.num < 0)) (p.num.natAbs / p.den+1) 1 (by decide) (by omega) (by rw [Nm.U6];decide)
 rw [Rat.mkRat_one,Nm.U6] at o2 o3
 have hf:=a9e p
 have hez:(Nm.enc (p.num.natAbs % p.den)=[])=(p.num.natAbs % p.den=0):=a2J _
 generalize p.floor=f at *
 by_cases hn:p.num < 0
 ·by_cases hz:p.num.natAbs % p.den=0
  ·rw [if_neg (by simp [hz])] at hf
   rw [<- hf] at o2
   have e0:decide (p.num < 0)=true:=decide_eq_true hn
   simp only [j5,TT,OA,OB,OC,MM,VV,FF,MG]
   simp only [rq,rc,sb,ints,Nm.ofQ,e0] at *
   (repeat first|refine uA ?_|(apply uK;focus first|omega|(intros;simp_all<;>omega))|simp (disch:=omega) only [go_sem,Nat.reduceBEq,Nat.reduceAdd,a0p,hz]|(apply uB o1;exact rfl))
   refine S.cond rfl (fun hc=>by first|exact absurd (a2J 0 ▸ rfl) hc|(simp [a2J] at hc)) (fun hc=>?_)
   (repeat first|refine uA ?_|(apply uK;focus first|omega|(intros;simp_all<;>omega))|simp (disch:=omega) only [go_sem,Nat.reduceBEq,Nat.reduceAdd]|(apply uD o2;exact tz hw;rfl))
   (refine S.done ?_;simp only [p9,r9,go_sem,Nat.reduceBEq,Nat.reduceAdd,Nat.reduceLeDiff];(repeat (refine ⟨?_,?_⟩;focus first|trivial|omega|simp));exact j3.out rfl (Imp.refl rfl) rfl)
  ·rw [if_pos ⟨hn,hz⟩] at hf
   rw [<- hf] at o3
   have e0:decide (p.num < 0)=true:=decide_eq_true hn
   have e1:decide (p.num.natAbs % p.den=0)=false:=decide_eq_false hz
   simp only [j5,TT,OA,OB,OC,MM,VV,FF,MG]
   simp only [rq,rc,sb,ints,Nm.ofQ,e0] at *
   (repeat first|refine uA ?_|(apply uK;focus first|omega|(intros;simp_all<;>omega))|simp (disch:=omega) only [go_sem,Nat.reduceBEq,Nat.reduceAdd,a0p,hez,e1]|(apply uB o1;exact rfl))
   refine S.cond rfl (fun hc=>?_) (fun hc=>by simp at hc)
   (repeat first|refine uA ?_|(apply uK;focus first|omega|(intros;simp_all<;>omega))|simp (disch:=omega) only [go_sem,Nat.reduceBEq,Nat.reduceAdd]|(apply uB o0;exact rfl)|(apply uD o3;exact tz hw;rfl))
   (refine S.done ?_;simp only [p9,r9,go_sem,Nat.reduceBEq,Nat.reduceAdd,Nat.reduceLeDiff];(repeat (refine ⟨?_,?_⟩;focus first|trivial|omega|simp));exact j3.out rfl (Imp.refl rfl) rfl)
 ·rw [if_neg (by simp [hn])] at hf
  rw [<- hf] at o2
  have e0:decide (p.num < 0)=false:=decide_eq_false hn
  simp only [j5,TT,OA,OB,OC,MM,VV,FF,MG]
  simp only [rq,rc,sb,ints,Nm.ofQ,e0] at *
  (repeat first|refine uA ?_|(apply uK;focus first|omega|(intros;simp_all<;>omega))|simp (disch:=omega) only [go_sem,Nat.reduceBEq,Nat.reduceAdd]|(apply uB o1;exact rfl))
  refine S.cond rfl (fun hc=>by simp at hc) (fun hc=>?_)
  (repeat first|refine uA ?_|(apply uK;focus first|omega|(intros;simp_all<;>omega))|simp (disch:=omega) only [go_sem,Nat.reduceBEq,Nat.reduceAdd]|(apply uD o2;exact tz hw;rfl))
  (refine S.done ?_;simp only [p9,r9,go_sem,Nat.reduceBEq,Nat.reduceAdd,Nat.reduceLeDiff];(repeat (refine ⟨?_,?_⟩;focus first|trivial|omega|simp));exact j3.out rfl (Imp.refl rfl) rfl)
def flI (p:Rat):Int:=if p.floor.natAbs < 9223372036854775808 then p.floor else 0
def flE (p:Rat):Int:=if p.floor.natAbs < 9223372036854775808 then 0 else 2
theorem a9x {k:Nat} {p:Rat} (h:Rb k (Nm.ofQ p)):Rb (k+1) (Nm.ofQ (p.floor:Rat)):=by
 have h0:=a4H h
 have h1:=h.1
 simp only [Nm.ofQ] at h1
 rw [a9e]
 have hle:(Nm.enc (p.num.natAbs / p.den)).length<=k:=c7l (Nm.a2u (Nat.div_le_self _ _)) h1
 have hk:(Nm.enc 1).length<=k:=by rw [Nm.U6];exact h0
 refine ⟨?_,?_⟩
 ·show (Nm.enc (Rat.num _).natAbs).length<=_
  rw [Rat.num_intCast]
  have e:∀ b n,(Nm.sgn b n).natAbs=n:=fun b n=>by unfold Nm.sgn;split<;>omega
  rw [e]
  split
  ·exact Nm.a2b hle hk
  ·omega
 ·show (Nm.enc (Rat.den _)).length<=_
  rw [Rat.den_intCast]
  omega
theorem a9C (a:Nm.Rt) (hb:Rb 1073741824 a):FZ 111 [rc a] (.tup [ints (flI (Nm.d9 a)),ints (flE (Nm.d9 a))]):=by
 refine kW Tryz.func111 (by cbv) (by rfl) fun w O hw=>?_
 have o1:=U8 a (hb.mono (by decide))
 have hb2:=hb.fit (show 1<=1073741824 by decide)
 have o2:=b7C (Nm.d9 a) hb2
 have hfb:=(a9x hb2).1
 unfold flI flE
 generalize (Nm.d9 a).floor=f at *
 have e1:Nm.ofQ (f:Rat)=⟨decide (f < 0),Nm.enc f.natAbs,Nm.enc 1⟩:=by
  unfold Nm.ofQ
  rw [Rat.num_intCast,Rat.den_intCast]
 rw [e1] at hfb
 simp only at hfb
 have o3:=c5M f.natAbs (by omega)
 unfold rq at *
 rw [e1] at o2
 generalize Nm.ofQ (Nm.d9 a)=z at *
 have e2:(if f.natAbs < 9223372036854775808 then f else 0)=if f < 0 then IntKind.i64.wrap (0-((if f.natAbs < 9223372036854775808 then f.natAbs else 0:Nat):Int)) else ((if f.natAbs < 9223372036854775808 then f.natAbs else 0:Nat):Int):=by
  by_cases h:f.natAbs < 9223372036854775808
  ·rw [if_pos h,if_pos h]
   split
   ·rw [Eng.wrap_i64 (by omega)];omega
   ·omega
  ·rw [if_neg h,if_neg h]
   split
   ·rw [Eng.wrap_i64 (by omega)];rfl
   ·rfl
 have e3:(if f.natAbs < 9223372036854775808 then (0:Int) else 2)=((if f.natAbs < 9223372036854775808 then 0 else 2:Nat):Int):=by split<;>rfl
 rw [e2,e3]
 generalize (if f.natAbs < 9223372036854775808 then f.natAbs else 0)=m at *
 generalize (if f.natAbs < 9223372036854775808 then 0 else 2)=e at *
 simp only [j5,TT,II,OA,OB,MM,LL,VV,FF]
 simp only [rc,sb,ints] at *
 (repeat first|refine uA ?_|(apply uK;focus omega)|simp (disch:=omega) only [go_sem,Nat.reduceBEq]|(apply uB o3;exact rfl)|(apply uD o1;exact tz hw;rfl)|(apply uD o2;exact tz hw;rfl))
 refine S.cond rfl (fun hc=>?_) (fun hc=>?_)
 ·rw [if_pos (by simpa using hc)]
  (repeat first|refine uA ?_|(apply uK;focus omega)|simp (disch:=omega) only [go_sem,Nat.reduceBEq])
  (refine S.done ?_;simp only [p9,go_sem,Nat.reduceBEq,Nat.reduceAdd];exact j3.out rfl (Imp.tup (by (repeat' (first|exact j4.nil|exact Imp.refl rfl|exact Imp.frz rfl rfl rfl|exact Imp.F8|refine Imp.agg ?_|refine j4.cons ?_ ?_)))) rfl)
 ·rw [if_neg (by simpa using hc)]
  (repeat first|refine uA ?_|(apply uK;focus omega)|simp (disch:=omega) only [go_sem,Nat.reduceBEq])
  (refine S.done ?_;simp only [p9,go_sem,Nat.reduceBEq,Nat.reduceAdd];exact j3.out rfl (Imp.tup (by (repeat' (first|exact j4.nil|exact Imp.refl rfl|exact Imp.frz rfl rfl rfl|exact Imp.F8|refine Imp.agg ?_|refine j4.cons ?_ ?_)))) rfl)
theorem c4c (a:Nm.Rt) (h:0<=Nm.d9 a) (hb:Rb 1048576 a) (hf:(Nm.d9 a).floor < 9223372036854775808):FZ 111 [rc a] (.tup [ints (Nm.d9 a).floor,ints 0]):=by
 have h1:=a9C a (hb.mono (by decide))
 have h2:=a7H h
 unfold flI flE at h1
 rw [if_pos (by omega),if_pos (by omega)] at h1
 exact h1
def a5X:H6:=⟨44,[.cell 4 true 3,.tmp 5],.seq (.reg [OA 2 (.box 74 (TT 0)),OA 3 (.box 29 (TT 1)),OA 4 (.alloc 29 [.bool false,.string ⟨#[]⟩,.string ⟨#[]⟩]),OA 5 (.mv (II 0))]) (.seq (.reg [LL 10 16 2,LL 11 3 3,OA 12 (.call 45 [TT 10,
 TT 11]),MM 9 12,OA 13 (.ext (TT 9) 0),OA 14 (.ext (TT 9) 1),MM 6 13,MM 7 14]) (.seq (.seq (.reg [MM 15 7,OA 16 (.bin .neq (TT 15) (II 0))]) (.cond (TT 16) (.seq (.reg [OA 17 (.build [.bool false,.string ⟨#[]⟩,.string
 ⟨#[]⟩] []),MM 18 7,OB (.store 3 (TT 4) (TT 17)),MM 5 18]) .ret) .skip)) (.seq (.seq (.reg [MM 19 6,OA 20 (.bin .lss (TT 19) (II 2))]) (.cond (TT 20) (.seq (.reg [OA 21 (.call 48 [II 0]),OB (.store 3 (TT 4) (TT 21)),OA 5
 (.mv (II 0))]) .ret) .skip)) (.seq (.y9 [.q,.q,.q,.q,.q,.q,.q,.q,.q,.q,.q,.q,.q,.q,.q,.q,.a,.e (some 8) true] [MM 22 6,OA 23 (.bin .sub (TT 22) (II 1)),OA 24 (.call 48 [TT 23]),LL 25 3 3,OA 26 (.call 49
 [TT 25]),OA 27 (.call 77 [TT 24,TT 26]),FF 28 12 2,LL 29 3 28,MM 30 6,MM 31 6,OA 32 (.bin .sub (TT 31) (II 1)),OA 33 (.bin .mul (TT 30) (TT 32)),OA 34 (.bin .quo (TT 33) (II 2)),OA 35 (.call 48 [TT 34]),OA 36 (.call
 77 [TT 29,TT 35]),OA 37 (.call 15 [TT 27,TT 36]),OA 8 (.alloc 29 [.bool false,.string ⟨#[]⟩,.string ⟨#[]⟩]),OB (.store 3 (TT 8) (TT 37))]) (.seq (.seq (.reg [LL 38 3 3,OA 39 (.call 97 [TT 38]),OA 40 (.bin .lss (TT 39)
 (II 0))]) (.cond (TT 40) (.reg [LL 41 3 8,OA 42 (.call 17 [TT 41]),OB (.store 3 (TT 8) (TT 42))]) .skip)) (.seq (.reg [LL 43 3 8,OB (.store 3 (TT 4) (TT 43)),OA 5 (.mv (II 0))]) .ret))))))⟩
theorem b6k:F3 eff Tryz.prog Tryz.f108=some a5X:=by kernel_rfl
theorem b6b:Tryz.prog.funcs[108]?=some Tryz.f108:=Tryz.func108
theorem a7Q {n:Int} (h:n.natAbs < 18446744073709551616):Rb 8 (Nm.ofQ (n:Rat)):=by
 refine ⟨Nm.G5 ?_,Nm.G5 ?_⟩
 ·rw [Rat.num_intCast,show (256:Nat) ^ 8=18446744073709551616 by decide];exact h
 ·rw [Rat.den_intCast];decide
theorem b1t {k:Nat} {p:Rat} (h:Rb k (Nm.ofQ p)):Rb k (Nm.ofQ (E8 p)):=by
 rcases a3V p with ⟨_,e⟩|⟨_,e⟩<;>rw [e]
 ·exact a1c h
 ·exact h
structure Few (l:Lk) (v:Nm.Rt):Prop where
 hb:Rb 3 l.brake
 hv:Rb 1024 v
 pos:0 < E9 (Nm.d9 l.brake)
 few:I6 (Nm.d9 l.brake) (Nm.d9 v)<=8
theorem b7o (l:Lk) (v:Nm.Rt) (h:Few l v):FZ 45 [l.c,rc v] (.tup [ints (I6 (Nm.d9 l.brake) (Nm.d9 v)),ints 0]):=by
 refine kW Tryz.func45 (by cbv) (by rfl) fun w O hw=>?_
 obtain ⟨hb,hv,h0,hle⟩:=h
 have hB:=b0I h0
 have hne:Nm.d9 l.brake ≠ 0:=by grind
 have ra:=b1t (hv.fit (by decide))
 have rd:=b0x hne ra (hb.fit (by decide))
 have o1:=a0g l.brake (hb.mono (by decide))
 have o2:=b8M v (hv.mono (by decide))
 have o3:=c0F (Nm.ofQ (E8 (Nm.d9 v))) l.brake (ra.mono (by decide)) (hb.mono (by decide))
 rw [Nm.q8] at o3
 unfold a3l a9X at o3
 rw [if_neg hne,if_neg hne] at o3
 have hq0:0<=E8 (Nm.d9 v) / Nm.d9 l.brake:=by
  rw [Rat.div_def]
  exact Rat.mul_nonneg (abs_nonneg _) (Rat.le_of_lt (Rat.inv_pos.2 hB))
 have hT:=(a6Q (V:=Nm.d9 v) hB).1
 have hTd:I6 (Nm.d9 l.brake) (Nm.d9 v)=if ((E8 (Nm.d9 v) / Nm.d9 l.brake).floor:Rat) < E8 (Nm.d9 v) / Nm.d9 l.brake then (E8 (Nm.d9 v) / Nm.d9 l.brake).floor+1 else (E8 (Nm.d9 v) / Nm.d9 l.brake).floor:=rfl
 have hf0:=a7H hq0
 generalize E8 (Nm.d9 v) / Nm.d9 l.brake=q at *
 generalize I6 (Nm.d9 l.brake) (Nm.d9 v)=T at *
 have hf8:q.floor<=8:=by split at hTd<;>omega
 have o4:=c4c (Nm.ofQ q) (by rw [Nm.q8];exact hq0) (rd.mono (by decide)) (by rw [Nm.q8];omega)
 rw [Nm.q8] at o4
 have o5:=a2l q.floor (by omega) (by omega)
 have o6:=Q9 (Nm.ofQ (q.floor:Rat)) (Nm.ofQ q) ((a7Q (by omega)).mono (by decide)) (rd.mono (by decide))
 rw [Nm.q8,Nm.q8] at o6
 have hcn:=a3t (q.floor:Rat) q
 have hTd2:T=if Nm.q9 (q.floor:Rat) q < 0 then q.floor+1 else q.floor:=by
  rw [hTd]
  by_cases hc:(q.floor:Rat) < q
  ·rw [if_pos hc,if_pos (hcn.2 hc)]
  ·rw [if_neg hc,if_neg fun h=>hc (hcn.1 h)]
 clear hcn hTd
 generalize Nm.q9 (q.floor:Rat) q=cc at *
 generalize q.floor=F at *
 unfold rq at *
 generalize Nm.ofQ (E8 (Nm.d9 v))=z1 at *
 generalize Nm.ofQ q=z2 at *
 generalize Nm.ofQ (F:Rat)=z3 at *
 generalize E9 (Nm.d9 l.brake)=sg at *
 simp only [j5,TT,II,OA,OB,OC,MM,LL,FF,MG]
 simp only [Lk.c,Lk.enc,rc,vts,sb,ints] at *
 (repeat first|refine uA ?_|(apply uK;focus first|omega|(intros;simp_all<;>omega))|simp (disch:=omega) only [go_sem,Nat.reduceBEq,Nat.reduceAdd]|(apply uD o1;exact tz hw;rfl))
 refine S.cond rfl (fun hc=>by simp at hc;omega) (fun hc=>?_)
 (repeat first|refine uA ?_|(apply uK;focus first|omega|(intros;simp_all<;>omega))|simp (disch:=omega) only [go_sem,Nat.reduceBEq,Nat.reduceAdd]|(apply uD o2;exact tz hw;rfl)|(apply uD o3;exact tz hw;rfl)|(apply uD o4;exact tz hw;rfl))
 refine S.cond rfl (fun hc=>by simp at hc;omega) (fun hc=>?_)
 (repeat first|refine uA ?_|(apply uK;focus omega)|simp (disch:=omega) only [go_sem,Nat.reduceBEq]|(apply uD o5;exact tz hw;rfl)|(apply uD o6;exact tz hw;rfl))
 refine S.cond rfl (fun hc=>?_) (fun hc=>?_)
 ·rw [if_pos (by simpa using hc)] at hTd2
  subst hTd2
  (repeat first|refine uA ?_|(apply uK;focus omega)|simp (disch:=omega) only [go_sem,Nat.reduceBEq,ww])
  refine S.cond rfl (fun hc=>by simp at hc;omega) (fun hc=>?_)
  (repeat first|refine uA ?_|(apply uK;focus omega)|simp (disch:=omega) only [go_sem,Nat.reduceBEq])
  (refine S.done ?_;simp only [p9,go_sem,Nat.reduceBEq];exact j3.out rfl (Imp.tup (by (repeat' (first|exact j4.nil|exact Imp.refl rfl|exact Imp.frz rfl rfl rfl|exact Imp.F8|refine Imp.agg ?_|refine j4.cons ?_ ?_)))) rfl)
 ·rw [if_neg (by simpa using hc)] at hTd2
  subst hTd2
  (repeat first|refine uA ?_|(apply uK;focus omega)|simp (disch:=omega) only [go_sem,Nat.reduceBEq])
  refine S.cond rfl (fun hc=>by simp at hc;omega) (fun hc=>?_)
  (repeat first|refine uA ?_|(apply uK;focus omega)|simp (disch:=omega) only [go_sem,Nat.reduceBEq])
  (refine S.done ?_;simp only [p9,go_sem,Nat.reduceBEq];exact j3.out rfl (Imp.tup (by (repeat' (first|exact j4.nil|exact Imp.refl rfl|exact Imp.frz rfl rfl rfl|exact Imp.F8|refine Imp.agg ?_|refine j4.cons ?_ ?_)))) rfl)
def a0w (l:Lk) (v:Nm.Rt):Rat:=sgQ (Nm.d9 v)*a5d (Nm.d9 l.brake) (E8 (Nm.d9 v)) (I6 (Nm.d9 l.brake) (Nm.d9 v)).toNat
theorem b4r {l:Lk} {v:Nm.Rt} (h:Few l v):Rb 2048 (Nm.ofQ (a0w l v)):=by
 obtain ⟨hb,hv,h0,hle⟩:=h
 have hs:sgQ (Nm.d9 v)=1 \/ sgQ (Nm.d9 v)=-1:=by unfold sgQ;split<;>simp
 have ra:=b1t (hv.fit (by decide))
 have rb:=hb.fit (by decide)
 have hw:Rb 2048 (Nm.ofQ (a5d (Nm.d9 l.brake) (E8 (Nm.d9 v)) (I6 (Nm.d9 l.brake) (Nm.d9 v)).toNat)):=by
  have hn:(I6 (Nm.d9 l.brake) (Nm.d9 v)).toNat<=8:=by omega
  generalize (I6 (Nm.d9 l.brake) (Nm.d9 v)).toNat=n at *
  have hm:n*(n-1)<=8*8:=Nat.mul_le_mul hn (by omega)
  have i1:Rb 8 (Nm.ofQ ((n-1:Nat):Rat)):=a7Q (n:=((n-1:Nat):Int)) (by omega)
  have i2:Rb 8 (Nm.ofQ ((n*(n-1) / 2:Nat):Rat)):=a7Q (n:=((n*(n-1) / 2:Nat):Int)) (by omega)
  unfold a5d
  split
  ·exact a1b.mono (by decide)
  ·exact (U5 (I9 i1 ra) (I9 rb i2)).mono (by decide)
 unfold a0w
 rcases hs with e|e<;>rw [e]
 ·rw [Rat.one_mul];exact hw
 ·rw [show (-1:Rat)*a5d (Nm.d9 l.brake) (E8 (Nm.d9 v)) (I6 (Nm.d9 l.brake) (Nm.d9 v)).toNat=-a5d (Nm.d9 l.brake) (E8 (Nm.d9 v)) (I6 (Nm.d9 l.brake) (Nm.d9 v)).toNat by grind]
  exact a1c hw
theorem c3u (v:Rat):E9 v < 0 <-> v < 0:=by
 have h:=a8l v
 rcases h with h|h|h<;>constructor<;>intro h2<;>first|omega|grind
theorem c6w (l:Lk) (v:Nm.Rt) (h:Few l v):FZ 108 [l.c,rc v] (.tup [rq (a0w l v),ints 0]):=by
 refine kW b6b b6k (by rfl) fun w O hw=>?_
 have o1:=b7o l v h
 obtain ⟨hb,hv,h0,hle⟩:=h
 have hT:=(a6Q (V:=Nm.d9 v) (b0I h0)).1
 have ra:=b1t (hv.fit (by decide))
 have rb:=hb.fit (by decide)
 have o2:=a8w
 have o3:=b8M v (hv.mono (by decide))
 have o4:=a0g v (hv.mono (by decide))
 have hsn:=c3u (Nm.d9 v)
 unfold a0w sgQ a5d
 obtain ⟨n,hn⟩:∃ n:Nat,I6 (Nm.d9 l.brake) (Nm.d9 v)=n:=⟨(I6 (Nm.d9 l.brake) (Nm.d9 v)).toNat,by omega⟩
 rw [hn] at hle o1 ⊢
 rw [c7o]
 clear hn
 generalize E8 (Nm.d9 v)=V at *
 generalize hBq:Nm.d9 l.brake=B at *
 by_cases h2:n < 2
 ·rw [if_pos h2,show (if Nm.d9 v < 0 then (-1:Rat) else 1)*0=0 by grind]
  unfold rq at *
  generalize Nm.ofQ 0=z at *
  simp only [a5X,j5,TT,II,OA,OB,MM,LL,FF]
  simp only [Lk.c,Lk.enc,rc,vts,sb,ints] at *
  (repeat first|refine uA ?_|(apply uK;focus first|omega|(intros;simp_all<;>omega))|simp (disch:=omega) only [go_sem,Nat.reduceBEq,Nat.reduceAdd]|(apply uD o1;exact tz hw;rfl))
  refine S.cond rfl (fun hc=>by simp at hc) (fun hc=>?_)
  (repeat first|refine uA ?_|(apply uK;focus omega)|simp (disch:=omega) only [go_sem,Nat.reduceBEq])
  refine S.cond rfl (fun hc=>?_) (fun hc=>by simp at hc;omega)
  (repeat first|refine uA ?_|(apply uK;focus omega)|simp (disch:=omega) only [go_sem,Nat.reduceBEq]|(apply uD o2;exact tz hw;rfl))
  (refine S.done ?_;simp only [p9,r9,go_sem,Nat.reduceBEq,Nat.reduceAdd,Nat.reduceLeDiff];(repeat (refine ⟨?_,?_⟩;focus first|trivial|omega|simp));exact j3.out rfl (Imp.tup (by (repeat' (first|exact j4.nil|exact Imp.refl rfl|exact Imp.frz rfl rfl rfl|exact Imp.F8|refine Imp.agg ?_|refine j4.cons ?_ ?_)))) rfl)
 rw [if_neg h2]
 have hm:n*(n-1)<=8*8:=Nat.mul_le_mul (show n<=8 by omega) (by omega)
 have hm0:(n:Int)*((n:Int)-1)=((n*(n-1):Nat):Int):=by
  rw [Int.natCast_mul];congr 1;omega
 have e1:IntKind.i64.wrap ((n:Int)-1)=((n-1:Nat):Int):=by rw [Eng.wrap_i64 (by omega)];omega
 have e2:IntKind.i64.wrap ((n:Int)*((n-1:Nat):Int))=((n*(n-1):Nat):Int):=by
  rw [<- Int.natCast_mul];exact Eng.wrap_i64 (by omega)
 have e3:IntKind.i64.wrap (((n*(n-1):Nat):Int).tdiv 2)=((n*(n-1) / 2:Nat):Int):=by
  rw [show ((n*(n-1):Nat):Int).tdiv 2=((n*(n-1) / 2:Nat):Int) from rfl];exact Eng.wrap_i64 (by omega)
 have i1:Rb 8 (Nm.ofQ ((n-1:Nat):Rat)):=a7Q (n:=((n-1:Nat):Int)) (by omega)
 have i2:Rb 8 (Nm.ofQ ((n*(n-1) / 2:Nat):Rat)):=a7Q (n:=((n*(n-1) / 2:Nat):Int)) (by omega)
 have o5:=a2l ((n-1:Nat):Int) (by omega) (by omega)
 have o6:=a2l ((n*(n-1) / 2:Nat):Int) (by omega) (by omega)
 have o7:=a1p ((n-1:Nat):Rat) V (i1.mono (by decide)) (ra.mono (by decide))
 have o8:=c0j l.brake (Nm.ofQ ((n*(n-1) / 2:Nat):Rat)) (hb.mono (by decide)) (i2.mono (by decide))
 rw [Nm.q8,hBq] at o8
 have r1:=I9 i1 ra
 have r2:=I9 rb i2
 have o9:=a8M (((n-1:Nat):Rat)*V) (B*((n*(n-1) / 2:Nat):Rat)) (r1.mono (by decide)) (r2.mono (by decide))
 have r3:=U5 r1 r2
 have o10:=a4S (Nm.ofQ (((n-1:Nat):Rat)*V-B*((n*(n-1) / 2:Nat):Rat))) (r3.mono (by decide))
 rw [Nm.q8] at o10
 rw [show (((n-1:Nat):Int):Rat)=((n-1:Nat):Rat) from rfl] at o5
 rw [show (((n*(n-1) / 2:Nat):Int):Rat)=((n*(n-1) / 2:Nat):Rat) from rfl] at o6
 have key:(if Nm.d9 v < 0 then (-1:Rat) else 1)*(((n-1:Nat):Rat)*V-B*((n*(n-1) / 2:Nat):Rat))=if E9 (Nm.d9 v) < 0 then -(((n-1:Nat):Rat)*V-B*((n*(n-1) / 2:Nat):Rat)) else ((n-1:Nat):Rat)*V-B*((n*(n-1) / 2:Nat):Rat):=by
  by_cases hv0:Nm.d9 v < 0
  ·rw [if_pos hv0,if_pos (hsn.2 hv0)];grind
  ·rw [if_neg hv0,if_neg fun h=>hv0 (hsn.1 h)];grind
 rw [key]
 clear key hsn r1 r2 r3 i1 i2 ra rb hm hm0 hv hb h0 hBq
 generalize E9 (Nm.d9 v)=sg at *
 generalize ((n-1:Nat):Rat)*V=x1 at *
 generalize B*((n*(n-1) / 2:Nat):Rat)=x2 at *
 generalize x1-x2=x3 at *
 generalize -x3=x4 at *
 generalize hk1:n-1=k1 at *
 generalize n*k1 / 2=k2 at *
 unfold rq at *
 generalize Nm.ofQ V=y1 at *
 generalize Nm.ofQ (k1:Rat)=y2 at *
 generalize Nm.ofQ (k2:Rat)=y3 at *
 generalize Nm.ofQ x1=y4 at *
 generalize Nm.ofQ x2=y5 at *
 simp only [a5X,j5,TT,II,OA,OB,MM,LL,FF]
 simp only [Lk.c,Lk.enc,rc,vts,sb,ints] at *
 (repeat first|refine uA ?_|(apply uK;focus first|omega|(intros;simp_all<;>omega))|simp (disch:=omega) only [go_sem,Nat.reduceBEq,Nat.reduceAdd]|(apply uD o1;exact tz hw;rfl))
 refine S.cond rfl (fun hc=>by simp at hc) (fun hc=>?_)
 (repeat first|refine uA ?_|(apply uK;focus omega)|simp (disch:=omega) only [go_sem,Nat.reduceBEq])
 refine S.cond rfl (fun hc=>by simp at hc;omega) (fun hc=>?_)
 (repeat first|refine uA ?_|(apply uK;focus omega)|simp (disch:=omega) only [go_sem,Nat.reduceBEq,e1,e2,e3]|(apply uD o5;exact tz hw;rfl)|(apply uD o3;exact tz hw;rfl)|(apply uD o7;exact tz hw;rfl)|(apply uD o6;exact tz hw;rfl)|(apply uD o8;exact tz hw;rfl)|(apply uD o9;exact tz hw;rfl)|(apply uD o4;exact tz hw;rfl))
 refine S.cond rfl (fun hc=>?_) (fun hc=>?_)
 ·rw [if_pos (by simpa using hc)]
  generalize Nm.ofQ x3=y6 at *
  generalize Nm.ofQ x4=y7 at *
  (repeat first|refine uA ?_|(apply uK;focus omega)|simp (disch:=omega) only [go_sem,Nat.reduceBEq]|(apply uD o10;exact tz hw;rfl))
  (refine S.done ?_;simp only [p9,r9,go_sem,Nat.reduceBEq,Nat.reduceAdd,Nat.reduceLeDiff];(repeat (refine ⟨?_,?_⟩;focus first|trivial|omega|simp));exact j3.out rfl (Imp.tup (by (repeat' (first|exact j4.nil|exact Imp.refl rfl|exact Imp.frz rfl rfl rfl|exact Imp.F8|refine Imp.agg ?_|refine j4.cons ?_ ?_)))) rfl)
 ·rw [if_neg (by simpa using hc)]
  generalize Nm.ofQ x3=y6 at *
  (repeat first|refine uA ?_|(apply uK;focus omega)|simp (disch:=omega) only [go_sem,Nat.reduceBEq])
  (refine S.done ?_;simp only [p9,r9,go_sem,Nat.reduceBEq,Nat.reduceAdd,Nat.reduceLeDiff];(repeat (refine ⟨?_,?_⟩;focus first|trivial|omega|simp));exact j3.out rfl (Imp.tup (by (repeat' (first|exact j4.nil|exact Imp.refl rfl|exact Imp.frz rfl rfl rfl|exact Imp.F8|refine Imp.agg ?_|refine j4.cons ?_ ?_)))) rfl)
def a7q:H6:=⟨64,[.tmp 6,.tmp 7],.seq (.reg [OA 3 (.box 69 (TT 0)),OA 6 (.mv (.const (.slice none 0 0))),OA 7 (.mv (II 0))]) (.seq (.seq (.reg [LL 16 12 3,MM 17 1,MM 18 2,OA 19 (.call 107 [TT 16,TT 17,TT 18]),MM 8 19]) (.seq (.reg
 [MM 20 8,OA 21 (.bin .neq (TT 20) (II 0))]) (.cond (TT 21) (.seq (.reg [MM 22 8,OA 6 (.mv (.const (.slice none 0 0))),MM 7 22]) .ret) .skip))) (.seq (.reg [OA 9 (.mv (.const (.slice none 0 0)))]) (.seq (.seq (.reg [FF 23 11
 3,VV 24 23,OA 25 (.len false (TT 24)),OA 26 (.mv (II 0))]) (.block 0 (.loop (.seq (.reg [OA 27 (.bin .lss (TT 26) (TT 25))]) (.seq (.cond (TT 27) .skip (.exit 0)) (.seq (.block 1 (.seq (.reg [MM 28 26,OA 29 (.l7 16 (TT
 24) (TT 26)),LL 30 16 29,OA 11 (.alloc 74 [.bool false,.string ⟨#[]⟩,.string ⟨#[]⟩,.bool false,.string ⟨#[]⟩,.string ⟨#[]⟩,.bool false,.string ⟨#[]⟩,.string ⟨#[]⟩,.bool false,.string ⟨#[]⟩,.string ⟨#[]⟩,.bool
 false,.string ⟨#[]⟩,.string ⟨#[]⟩,.slice none 0 0]),MM 10 28,OB (.store 16 (TT 11) (TT 30))]) (.seq (.y9 [.q,.q,.q,.q,.q,.q,.q,.q,.l,.a,.e (some 12) false,.q] [LL 32 16 11,MM 33 2,MM 34 10,OA 35 (.l7 3
 (TT 33) (TT 34)),LL 36 3 35,OA 37 (.call 108 [TT 32,TT 36]),MM 31 37,OA 38 (.ext (TT 31) 0),OA 39 (.ext (TT 31) 1),OA 12 (.alloc 29 [.bool false,.string ⟨#[]⟩,.string ⟨#[]⟩]),OB (.store 3 (TT 12) (TT 38)),MM 13 39])
 (.seq (.seq (.reg [MM 40 13,OA 41 (.bin .neq (TT 40) (II 0))]) (.cond (TT 41) (.seq (.reg [MM 42 13,OA 6 (.mv (.const (.slice none 0 0))),MM 7 42]) .ret) .skip)) (.seq (.y9 [.q,.q,.q,.q,.q,.q,.a,.e (some 14) true]
 [MM 43 1,MM 44 10,OA 45 (.l7 3 (TT 43) (TT 44)),LL 46 3 45,OA 47 (.call 48 [II 0]),OA 48 (.call 38 [TT 46,TT 47]),OA 14 (.alloc 29 [.bool false,.string ⟨#[]⟩,.string ⟨#[]⟩]),OB (.store 3 (TT 14) (TT 48))]) (.seq
 (.reg [LL 49 3 14,LL 50 3 12,OA 51 (.call 38 [TT 49,TT 50]),OA 15 (.alloc 29 [.bool false,.string ⟨#[]⟩,.string ⟨#[]⟩]),OB (.store 3 (TT 15) (TT 51))]) (.y9 [.q,.q,.q,.q,.q,.q,.q,.q,.q,.e none true,.q] [MM 52
 9,LL 53 3 14,LL 54 3 15,OA 55 (.call 18 [TT 53,TT 54]),LL 56 3 14,LL 57 3 15,OA 58 (.call 16 [TT 56,TT 57]),OA 59 (.build [.bool false,.string ⟨#[]⟩,.string ⟨#[]⟩,.bool false,.string ⟨#[]⟩,.string ⟨#[]⟩] [(0,(3,
 TT 55)),(3,(3,TT 58))]),OA 60 (.bsl 108 6 1 [.bool false,.string ⟨#[]⟩,.string ⟨#[]⟩,.bool false,.string ⟨#[]⟩,.string ⟨#[]⟩] [(0,TT 59)]),OA 61 (.app 108 6 80 (TT 52) (TT 60)),MM 9 61]))))))) (.reg [OA 62 (.bin .add
 (TT 26) (II 1)),MM 26 62]))))))) (.seq (.reg [MM 63 9,MM 6 63,OA 7 (.mv (II 0))]) .ret))))⟩
theorem b3E:F3 eff Tryz.prog Tryz.f42=some a7q:=by kernel_rfl
theorem b3F:Tryz.prog.funcs[42]?=some Tryz.f42:=Tryz.func42
structure Sn where
 lo:Nm.Rt
 hi:Nm.Rt
def Sn.enc (s:Sn):List C:=[.v (.bool s.lo.neg),sb s.lo.num,sb s.lo.den,.v (.bool s.hi.neg),sb s.hi.num,sb s.hi.den]
def Sn.c (s:Sn):C:=.agg s.enc
def snQ (p q:Rat):Sn:=⟨Nm.ofQ p,Nm.ofQ q⟩
structure Sp where
 lo:Rat
 hi:Rat
def Sp.c (s:Sp):C:=(snQ s.lo s.hi).c
def Zb (k:Nat) (s:Sp):Prop:=Rb k (Nm.ofQ s.lo)/\Rb k (Nm.ofQ s.hi)
theorem Zb.mono {k m:Nat} {s:Sp} (h:Zb k s) (hk:k<=m):Zb m s:=⟨h.1.mono hk,h.2.mono hk⟩
def J5 (s:Sp):Sp:=if Nm.q9 s.lo s.hi<=0 then s else ⟨0,0⟩
theorem a9U {k:Nat} (h:1<=k):Rb k (Nm.ofQ 0):=⟨by show (Nm.enc (Rat.num 0).natAbs).length<=k;rw [show (Rat.num 0).natAbs=0 from rfl,Nm.a0S];exact c7n _,by show (Nm.enc (Rat.den 0)).length<=k;rw [show Rat.den 0=1 from rfl,Nm.U6];exact h⟩
theorem K5 {k:Nat} {s:Sp} (h:Zb k s):Zb k (J5 s):=by
 unfold J5
 split
 ·exact h
 ·exact ⟨a9U (a4H h.1),a9U (a4H h.1)⟩
theorem b6Z {p q:Rat} (h:p<=q):J5 ⟨p,q⟩=⟨p,q⟩:=by
 unfold J5
 rw [if_pos]
 have h1:=a3u p q
 have:¬ 0 < Nm.q9 p q:=fun h2=>by have:=h1.1 h2;grind
 simp only
 omega
theorem a0J (a:Nm.Rt) (h:Rb 1073741824 a):FZ 44 [rc a] (Sp.mk (Nm.d9 a) (Nm.d9 a)).c:=by
 refine kW Tryz.func44 (by cbv) (by rfl) fun w O hw=>?_
 have o1:=a3W a a (h.mono (by decide)) (h.mono (by decide))
 rw [show G9 (Nm.d9 a) (Nm.d9 a)=Nm.d9 a by unfold G9;split<;>rfl] at o1
 unfold Sp.c snQ
 unfold rq at *
 simp only
 generalize Nm.ofQ (Nm.d9 a)=z at *
 simp only [j5,TT,OA,OB,LL]
 simp only [Sn.c,Sn.enc,rc,sb] at *
 (repeat first|refine uA ?_|(refine uK ?_ ?_;focus first|omega|(intros;simp_all<;>omega))|simp (disch:=omega) only [go_sem,Nat.reduceBEq,Nat.reduceAdd]|(refine uD o1 ?_ ?_ ?_;exact tz hw;exact rfl))
 (refine S.done ?_;simp only [p9,r9,go_sem,Nat.reduceBEq,Nat.reduceAdd,Nat.reduceLeDiff];(repeat (refine ⟨?_,?_⟩;focus first|trivial|omega|simp));exact j3.out rfl (Imp.refl rfl) rfl)
theorem c2o (s:Sp) (h:Zb 1073741824 s):FZ 151 [s.c] (.v (.bool (decide (Nm.q9 s.lo s.hi<=0)))):=by
 refine kW Tryz.func151 (by cbv) (by rfl) fun w O hw=>?_
 obtain ⟨p,q⟩:=s
 obtain ⟨hp,hq⟩:=h
 simp only at hp hq
 have o1:=a1v (Nm.ofQ p) (hp.mono (by decide))
 have o2:=a1v (Nm.ofQ q) (hq.mono (by decide))
 rw [decide_eq_true (Nm.a1H _)] at o1 o2
 have o3:=Q9 (Nm.ofQ p) (Nm.ofQ q) (hp.mono (by decide)) (hq.mono (by decide))
 rw [Nm.q8,Nm.q8] at o3
 unfold Sp.c snQ
 simp only
 generalize Nm.q9 p q=c at *
 generalize Nm.ofQ p=x at *
 generalize Nm.ofQ q=y at *
 simp only [j5,TT,II,OA,OC,MM,LL,FF,LG,FG]
 simp only [Sn.c,Sn.enc,rc,sb,ints] at *
 (repeat first|refine uA ?_|(refine uK ?_ ?_;focus first|omega|(intros;simp_all<;>omega))|simp (disch:=omega) only [go_sem,Nat.reduceBEq,Nat.reduceAdd]|(refine uD o1 ?_ ?_ ?_;exact tz hw;exact rfl)|(refine uD o2 ?_ ?_ ?_;exact tz hw;exact rfl)|(refine uD o3 ?_ ?_ ?_;exact tz hw;exact rfl))
 exact S.done (j3.out rfl (Imp.refl rfl) rfl)
theorem a0D (s:Sp) (h:Zb 1073741824 s):FZ 109 [s.c] (J5 s).c:=by
 refine kW Tryz.func109 (by cbv) (by rfl) fun w O hw=>?_
 have o1:=c2o s h
 have o2:=a8w
 have o3:=a0J (Nm.ofQ 0) (a1b.mono (by decide))
 rw [Nm.q8] at o3
 obtain ⟨p,q⟩:=s
 unfold J5
 simp only at o1 ⊢
 generalize Nm.q9 p q=c at *
 unfold Sp.c snQ at *
 unfold rq at *
 simp only at o1 o3 ⊢
 by_cases hc:c<=0
 ·rw [if_pos hc]
  rw [decide_eq_true hc] at o1
  simp only
  generalize Nm.ofQ p=x at *
  generalize Nm.ofQ q=y at *
  simp only [j5,TT,II,OA,OB,LL]
  simp only [Sn.c,Sn.enc,sb] at o1 ⊢
  (repeat first|refine uA ?_|(refine uK ?_ ?_;focus first|omega|(intros;simp_all<;>omega))|simp (disch:=omega) only [go_sem,Nat.reduceBEq,Nat.reduceAdd]|(refine uD o1 ?_ ?_ ?_;exact tz hw;exact rfl))
  refine S.cond rfl (fun hc=>by simp at hc) (fun hc=>?_)
  (repeat first|refine uA ?_|(refine uK ?_ ?_;focus first|omega|(intros;simp_all<;>omega))|simp (disch:=omega) only [go_sem,Nat.reduceBEq,Nat.reduceAdd])
  (refine S.done ?_;simp only [p9,r9,go_sem,Nat.reduceBEq,Nat.reduceAdd,Nat.reduceLeDiff];(repeat (refine ⟨?_,?_⟩;focus first|trivial|omega|simp));exact j3.out rfl (Imp.refl rfl) rfl)
 ·rw [if_neg hc]
  rw [decide_eq_false hc] at o1
  simp only
  generalize Nm.ofQ 0=z at *
  generalize Nm.ofQ p=x at *
  generalize Nm.ofQ q=y at *
  simp only [j5,TT,II,OA,OB,LL]
  simp only [Sn.c,Sn.enc,rc,sb] at o1 o2 o3 ⊢
  (repeat first|refine uA ?_|(refine uK ?_ ?_;focus first|omega|(intros;simp_all<;>omega))|simp (disch:=omega) only [go_sem,Nat.reduceBEq,Nat.reduceAdd]|(refine uD o1 ?_ ?_ ?_;exact tz hw;exact rfl))
  refine S.cond rfl (fun hc=>?_) (fun hc=>by simp at hc)
  (repeat first|refine uA ?_|(refine uK ?_ ?_;focus first|omega|(intros;simp_all<;>omega))|simp (disch:=omega) only [go_sem,Nat.reduceBEq,Nat.reduceAdd]|(refine uD o2 ?_ ?_ ?_;exact tz hw;exact rfl)|(refine uD o3 ?_ ?_ ?_;exact tz hw;exact rfl))
  (refine S.done ?_;simp only [p9,r9,go_sem,Nat.reduceBEq,Nat.reduceAdd,Nat.reduceLeDiff];(repeat (refine ⟨?_,?_⟩;focus first|trivial|omega|simp));exact j3.out rfl (Imp.refl rfl) rfl)
def U3 (a b:Sp):Sp:=⟨G9 (J5 a).lo (J5 b).lo,K6 (J5 a).hi (J5 b).hi⟩
theorem a3x (a b:Sp) (ha:Zb 1073741824 a) (hb:Zb 1073741824 b):FZ 43 [a.c,b.c] (U3 a b).c:=by
 refine kW Tryz.func43 (by cbv) (by rfl) fun w O hw=>?_
 have o1:=a0D a ha
 have o2:=a0D b hb
 have fa:=K5 ha
 have fb:=K5 hb
 unfold U3
 generalize J5 a=a2 at *
 generalize J5 b=b2 at *
 obtain ⟨p,q⟩:=a2
 obtain ⟨r,s⟩:=b2
 have o3:=a3W (Nm.ofQ p) (Nm.ofQ r) (fa.1.mono (by decide)) (fb.1.mono (by decide))
 have o4:=a6b (Nm.ofQ q) (Nm.ofQ s) (fa.2.mono (by decide)) (fb.2.mono (by decide))
 rw [Nm.q8,Nm.q8] at o3 o4
 obtain ⟨a1,a2⟩:=a
 obtain ⟨b1,b2⟩:=b
 unfold Sp.c snQ at *
 unfold rq at *
 simp only at o1 o2 o3 o4 ⊢
 generalize Nm.ofQ (G9 p r)=m1 at *
 generalize Nm.ofQ (K6 q s)=m2 at *
 generalize Nm.ofQ p=x at *
 generalize Nm.ofQ q=y at *
 generalize Nm.ofQ r=z at *
 generalize Nm.ofQ s=t at *
 generalize Nm.ofQ a1=n1 at *
 generalize Nm.ofQ a2=n2 at *
 generalize Nm.ofQ b1=n3 at *
 generalize Nm.ofQ b2=n4 at *
 simp only [j5,TT,OA,OB,LL,FF]
 simp only [Sn.c,Sn.enc,rc,sb] at o1 o2 o3 o4 ⊢
 (repeat first|refine uA ?_|(refine uK ?_ ?_;focus first|omega|(intros;simp_all<;>omega))|simp (disch:=omega) only [go_sem,Nat.reduceBEq,Nat.reduceAdd]|(refine uD o1 ?_ ?_ ?_;exact tz hw;exact rfl)|(refine uD o2 ?_ ?_ ?_;exact tz hw;exact rfl)|(refine uD o3 ?_ ?_ ?_;exact tz hw;exact rfl)|(refine uD o4 ?_ ?_ ?_;exact tz hw;exact rfl))
 (refine S.done ?_;simp only [p9,r9,go_sem,Nat.reduceBEq,Nat.reduceAdd,Nat.reduceLeDiff];(repeat (refine ⟨?_,?_⟩;focus first|trivial|omega|simp));exact j3.out rfl (Imp.refl rfl) rfl)
theorem b9R (p q r s:Rat) (h1:p<=q) (h2:r<=s) (hp:Rb 1048576 (Nm.ofQ p)) (hq:Rb 1048576 (Nm.ofQ q)) (hr:Rb 1048576 (Nm.ofQ r)) (hs:Rb 1048576 (Nm.ofQ s)):FZ 43 [(snQ p q).c,(snQ r s).c] (snQ (G9 p r) (K6 q s)).c:=by
 have h:=a3x ⟨p,q⟩ ⟨r,s⟩ ⟨hp.mono (by decide),hq.mono (by decide)⟩ ⟨hr.mono (by decide),hs.mono (by decide)⟩
 unfold U3 at h
 rw [b6Z h1,b6Z h2] at h
 exact h
def b3N (l:Lk) (t v:Nm.Rt):Sn:=snQ (G9 (Nm.d9 t) (Nm.d9 t+a0w l v)) (K6 (Nm.d9 t) (Nm.d9 t+a0w l v))
def a4N (L:List Lk) (t v:List Nm.Rt):List Sn:=(L.zip (t.zip v)).map fun z=>b3N z.1 z.2.1 z.2.2
theorem b2A {L:List Lk} {t v:List Nm.Rt} {i:Nat} {l:Lk} {x y:Nm.Rt} (h1:L[i]?=some l) (h2:t[i]?=some x) (h3:v[i]?=some y):(a4N L t v)[i]?=some (b3N l x y):=by
 unfold a4N
 rw [c7r,O1 h1 (O1 h2 h3)]
 rfl
theorem b2T {L:List Lk} {t v:List Nm.Rt} (h1:t.length=L.length) (h2:v.length=L.length):(a4N L t v).length=L.length:=by
 unfold a4N;simp only [c7i,List.length_zip];omega
theorem c4A {E:Ctx} (hP:E.P=Tryz.prog) (ht0:Tz E) (a:Am) (t v:List Nm.Rt) (hl:Ab 1073741824 a) (ha:J3 a=0) (hq:t.length=a.links.length) (hv:v.length=a.links.length) (htb:∀ r ∈ t,Rb 4096 r) (hf:∀ (i:Nat) (l:Lk) (x:Nm.Rt),a.links[i]?=some l->v[i]?=some x->Few l x) :
  j6 E [] 42 [a.c,rts t,rts v] (.tup [.rv 1,ints 0]) [.gone,.row 108 6 ((a4N a.links t v).map Sn.enc)] []:=by
 obtain ⟨P,eff',N,w0,own0,av0,nu0,pk0⟩:=E
 simp only at hP
 subst hP
 refine j6.ofT (eff:=eff) ht0 b3F b3E (by exact c7z rfl) fun w' own av ν hν ht=>?_
 have hν0:ν.length<=0:=by rw [hν];exact c7p _
 have hfit:=c3O a t v hl ha hq hv
 have hn:=hl.2.2.1
 have hsl:=b2T hq hv
 have hsg:=@b2A a.links t v
 have hz:=a8w
 generalize a4N a.links t v=SL at *
 obtain ⟨name,⟨bx,by',half,tu⟩,links⟩:=a
 simp only at hq hv hn hf hsl hsg ⊢
 simp only [a7q,j5,TT,II,OA,OB,MM,LL,VV,FF]
 simp only [Am.c,Am.enc,lks,rts,sb,ints] at hfit ⊢
 (repeat first|refine uA ?_|(refine uK ?_ ?_;focus first|omega|(intros;simp_all<;>omega))|simp (disch:=omega) only [go_sem,Nat.reduceBEq,Nat.reduceAdd]|(refine uD hfit ?_ ?_ ?_;exact ht;exact rfl))
 refine S.cond rfl (fun hc=>by simp at hc) (fun hc=>?_)
 (repeat first|refine uA ?_|(refine uK ?_ ?_;focus first|omega|(intros;simp_all<;>omega))|simp (disch:=omega) only [go_sem,Nat.reduceBEq,Nat.reduceAdd,c7i])
 refine S.loop (X:=Nat) (fun i=>⟨[(1,rts t),(2,rts v),(9,.rv 1),(24,lks links),(25,ints links.length),(26,ints i)],[.gone,.row 108 6 ((SL.take i).map Sn.enc)]⟩) (fun i=>i<=links.length) (fun i=>links.length-i) 0 (c7n _)
  (Ent.trans (Ent.pack 9 108 6 rfl) (by (repeat first|refine uA ?_|(refine ⟨?_,?_⟩;focus first|rfl|simp [slot])|rfl|simp|exact c7l hν0 (by simp)))) ?_
 intro i hi
 simp only [lks,rts,ints]
 (repeat first|refine uA ?_|(refine uK ?_ ?_;focus first|omega|(intros;simp_all<;>omega))|simp (disch:=omega) only [go_sem,Nat.reduceBEq])
 (refine uJ rfl (fun hc=>?_) fun hc=>?_)
 ·have hi':i < links.length:=by omega
  have hgl:=c7h hi'
  have hgt:=c7h (show i < t.length by omega)
  have hgv:=c7h (show i < v.length by omega)
  generalize links[i]=l at *
  generalize t[i]'_=x at *
  generalize v[i]'_=y at *
  have hgs:=hsg hgl hgt hgv
  have hap:=take_at hgs
  have htl:(SL.take i).length=i:=by rw [c7s];omega
  have hF:=hf i l y hgl hgv
  have rx:=htb x (c7k hgt)
  have rw':=b4r hF
  have r0:=rx.fit (by decide)
  have o1:=c6w l y hF
  have o2:=a7T x (Nm.ofQ 0) (rx.mono (by decide)) (a1b.mono (by decide))
  rw [Nm.q8,Rat.add_zero] at o2
  have o3:=a5s (Nm.d9 x) (a0w l y) (r0.mono (by decide)) (rw'.mono (by decide))
  have r1:=U4 r0 rw'
  have o4:=a3W (Nm.ofQ (Nm.d9 x)) (Nm.ofQ (Nm.d9 x+a0w l y)) (r0.mono (by decide)) (r1.mono (by decide))
  have o5:=a6b (Nm.ofQ (Nm.d9 x)) (Nm.ofQ (Nm.d9 x+a0w l y)) (r0.mono (by decide)) (r1.mono (by decide))
  rw [Nm.q8,Nm.q8] at o4 o5
  unfold b3N snQ at hap
  unfold rq at o1 o2 o3 o4 o5 hz
  generalize Nm.ofQ (G9 (Nm.d9 x) (Nm.d9 x+a0w l y))=m1 at *
  generalize Nm.ofQ (K6 (Nm.d9 x) (Nm.d9 x+a0w l y))=m2 at *
  generalize Nm.ofQ (Nm.d9 x+a0w l y)=z1 at *
  generalize Nm.ofQ (Nm.d9 x)=z2 at *
  generalize Nm.ofQ (a0w l y)=z3 at *
  generalize Nm.ofQ 0=z0 at *
  clear hsg hf htb hgs hF rx rw' r0 r1
  simp only [Lk.c,Lk.enc,vts,rc,sb,ints] at o1 o2 o3 o4 o5 hz
  (repeat first|refine uA ?_|(refine uK ?_ ?_;focus first|omega|(intros;simp_all<;>omega))|simp (disch:=omega) only [go_sem,Nat.reduceBEq,Nat.reduceAdd,hgl,hgv,c7j,c7i,Lk.enc,rcs,vts,sb,c7o]|(refine uD o1 ?_ ?_ ?_;exact ht;exact rfl))
  refine S.cond rfl (fun hc=>by simp at hc) (fun hc=>?_)
  (repeat first|refine uA ?_|(refine uK ?_ ?_;focus first|omega|(intros;simp_all<;>omega))|simp (disch:=omega) only [go_sem,Nat.reduceBEq,Nat.reduceAdd,ww,hgt,c7j,c7i,htl,rcs,sb,c7o]|(refine uD hz ?_ ?_ ?_;exact ht;exact rfl)|(refine uD o2 ?_ ?_ ?_;exact ht;exact rfl)|(refine uD o3 ?_ ?_ ?_;exact ht;exact rfl)|(refine uD o4 ?_ ?_ ?_;exact ht;exact rfl)|(refine uD o5 ?_ ?_ ?_;exact ht;exact rfl))
  refine S.next (i+1) (by omega) (by omega) (by simp only [hap,c7X,c7w,c7I,Sn.enc,sb];exact (by (repeat first|refine uA ?_|(refine ⟨?_,?_⟩;focus first|rfl|simp [slot])|rfl|simp|exact c7l hν0 (by simp))))
 ·have hi':i=links.length:=by omega
  subst hi'
  rw [c7C (by omega)]
  (repeat first|refine uA ?_|(refine uK ?_ ?_;focus first|omega|(intros;simp_all<;>omega))|simp (disch:=omega) only [go_sem,Nat.reduceBEq])
  (refine S.done ?_;simp only [p9,go_sem,Nat.reduceBEq];(repeat (refine ⟨?_,?_⟩;focus first|trivial|omega|simp));exact j3.K9 (Imp.tup (by (repeat' (first|exact j4.nil|exact Imp.refl rfl|exact Imp.frz rfl rfl rfl|exact Imp.F8|refine Imp.agg ?_|refine j4.cons ?_ ?_)))) (by (repeat first|refine uA ?_|(refine ⟨?_,?_⟩;focus first|rfl|simp [slot])|rfl|simp)) (c7l hν0 (by simp)))
def Y3 (a b:Sp):Sp:=⟨(J5 a).lo+(J5 b).lo,(J5 a).hi+(J5 b).hi⟩
theorem a2E {k m:Nat} {a b:Sp} (ha:Zb k a) (hb:Zb m b):Zb (k+m+1) (Y3 a b):=⟨U4 (K5 ha).1 (K5 hb).1,U4 (K5 ha).2 (K5 hb).2⟩
theorem a4E (a b:Sp) (ha:Zb 1073741824 a) (hb:Zb 1073741824 b):FZ 162 [a.c,b.c] (Y3 a b).c:=by
 refine kW Tryz.func162 (by cbv) (by rfl) fun w O hw=>?_
 have o1:=a0D a ha
 have o2:=a0D b hb
 have fa:=K5 ha
 have fb:=K5 hb
 unfold Y3
 generalize J5 a=a2 at *
 generalize J5 b=b2 at *
 obtain ⟨p,q⟩:=a2
 obtain ⟨r,s⟩:=b2
 have o3:=a5s p r (fa.1.mono (by decide)) (fb.1.mono (by decide))
 have o4:=a5s q s (fa.2.mono (by decide)) (fb.2.mono (by decide))
 obtain ⟨a1,a2⟩:=a
 obtain ⟨b1,b2⟩:=b
 unfold Sp.c snQ at *
 unfold rq at *
 simp only at o1 o2 o3 o4 ⊢
 generalize Nm.ofQ (p+r)=m1 at *
 generalize Nm.ofQ (q+s)=m2 at *
 generalize Nm.ofQ p=x at *
 generalize Nm.ofQ q=y at *
 generalize Nm.ofQ r=z at *
 generalize Nm.ofQ s=t at *
 generalize Nm.ofQ a1=n1 at *
 generalize Nm.ofQ a2=n2 at *
 generalize Nm.ofQ b1=n3 at *
 generalize Nm.ofQ b2=n4 at *
 simp only [j5,TT,OA,OB,LL,FF]
 simp only [Sn.c,Sn.enc,rc,sb] at o1 o2 o3 o4 ⊢
 (repeat first|refine uA ?_|(apply uK;focus first|omega|(intros;simp_all<;>omega))|simp (disch:=omega) only [go_sem,Nat.reduceBEq,Nat.reduceAdd]|(apply uD o1;exact tz hw;rfl)|(apply uD o2;exact tz hw;rfl)|(apply uD o3;exact tz hw;rfl)|(apply uD o4;exact tz hw;rfl))
 (refine S.done ?_;simp only [p9,r9,go_sem,Nat.reduceBEq,Nat.reduceAdd,Nat.reduceLeDiff];(repeat (refine ⟨?_,?_⟩;focus first|trivial|omega|simp));exact j3.out rfl (Imp.refl rfl) rfl)
def a3O (a b:Sp):Sp:=⟨(J5 a).lo-(J5 b).hi,(J5 a).hi-(J5 b).lo⟩
theorem a8K {k m:Nat} {a b:Sp} (ha:Zb k a) (hb:Zb m b):Zb (k+m+1) (a3O a b):=⟨U5 (K5 ha).1 (K5 hb).2,U5 (K5 ha).2 (K5 hb).1⟩
theorem b7s (a b:Sp) (ha:Zb 1073741824 a) (hb:Zb 1073741824 b):FZ 160 [a.c,b.c] (a3O a b).c:=by
 refine kW Tryz.func160 (by cbv) (by rfl) fun w O hw=>?_
 have o1:=a0D a ha
 have o2:=a0D b hb
 have fa:=K5 ha
 have fb:=K5 hb
 unfold a3O
 generalize J5 a=a2 at *
 generalize J5 b=b2 at *
 obtain ⟨p,q⟩:=a2
 obtain ⟨r,s⟩:=b2
 have o3:=a8M p s (fa.1.mono (by decide)) (fb.2.mono (by decide))
 have o4:=a8M q r (fa.2.mono (by decide)) (fb.1.mono (by decide))
 obtain ⟨a1,a2⟩:=a
 obtain ⟨b1,b2⟩:=b
 unfold Sp.c snQ at *
 unfold rq at *
 simp only at o1 o2 o3 o4 ⊢
 generalize Nm.ofQ (p-s)=m1 at *
 generalize Nm.ofQ (q-r)=m2 at *
 generalize Nm.ofQ p=x at *
 generalize Nm.ofQ q=y at *
 generalize Nm.ofQ r=z at *
 generalize Nm.ofQ s=t at *
 generalize Nm.ofQ a1=n1 at *
 generalize Nm.ofQ a2=n2 at *
 generalize Nm.ofQ b1=n3 at *
 generalize Nm.ofQ b2=n4 at *
 simp only [j5,TT,OA,OB,LL,FF]
 simp only [Sn.c,Sn.enc,rc,sb] at o1 o2 o3 o4 ⊢
 (repeat first|refine uA ?_|(apply uK;focus first|omega|(intros;simp_all<;>omega))|simp (disch:=omega) only [go_sem,Nat.reduceBEq,Nat.reduceAdd]|(apply uD o1;exact tz hw;rfl)|(apply uD o2;exact tz hw;rfl)|(apply uD o3;exact tz hw;rfl)|(apply uD o4;exact tz hw;rfl))
 (refine S.done ?_;simp only [p9,r9,go_sem,Nat.reduceBEq,Nat.reduceAdd,Nat.reduceLeDiff];(repeat (refine ⟨?_,?_⟩;focus first|trivial|omega|simp));exact j3.out rfl (Imp.refl rfl) rfl)
theorem a9y {k:Nat} {p q:Rat} (hp:Rb k (Nm.ofQ p)) (hq:Rb k (Nm.ofQ q)):Rb k (Nm.ofQ (G9 p q)):=by unfold G9;split;exact hp;exact hq
theorem a9Q {k:Nat} {p q:Rat} (hp:Rb k (Nm.ofQ p)) (hq:Rb k (Nm.ofQ q)):Rb k (Nm.ofQ (K6 p q)):=by unfold K6;split;exact hp;exact hq
def arF (q:Rat) (l:List Rat):Sp:=l.foldl (fun s a=>⟨G9 s.lo a,K6 s.hi a⟩) ⟨q,q⟩
theorem b8Y {k:Nat}:∀ (l:List Rat) (s:Sp),Zb k s->(∀ a ∈ l,Rb k (Nm.ofQ a))->Zb k (l.foldl (fun s a=>⟨G9 s.lo a,K6 s.hi a⟩) s)
 | [],s,h,_=>h
 | a::l,s,h,hl=>b8Y l _ ⟨a9y h.1 (hl a (by simp)),a9Q h.2 (hl a (by simp))⟩ fun b hb=>hl b (by simp [hb])
def arI (q:Rat) (l:List Rat) (i:Nat):Sp:=arF q (l.take i)
theorem c6v {k:Nat} {q:Rat} {l:List Rat} (hq:Rb k (Nm.ofQ q)) (hl:∀ a ∈ l,Rb k (Nm.ofQ a)) (i:Nat):Zb k (arI q l i):=b8Y _ _ ⟨hq,hq⟩ fun a ha=>hl a (List.mem_of_mem_take ha)
theorem c1y {q:Rat} {l:List Rat} {i:Nat} {a:Rat} (h:l[i]?=some a):arI q l (i+1)=⟨G9 (arI q l i).lo a,K6 (arI q l i).hi a⟩:=by
 unfold arI arF
 rw [take_at h,List.foldl_append]
 rfl
theorem b5a (q:Rat) (l:List Rat) (hq:Rb 1073741824 (Nm.ofQ q)) (hl:∀ a ∈ l,Rb 1073741824 (Nm.ofQ a)) (hn:l.length<=1000):FZ 184 [.sl 3 (rcs (Nm.ofQ q)::l.map fun a=>rcs (Nm.ofQ a))] (arF q l).c:=by
 refine kW Tryz.func184 (by cbv) (by rfl) fun w O hw=>?_
 have o1:=a0J (Nm.ofQ q) hq
 rw [Nm.q8] at o1
 have hE:arI q l l.length=arF q l:=by unfold arI;rw [c7y]
 have hB:=c6v hq hl
 have hS:=@c1y q l
 have h0:arI q l 0=⟨q,q⟩:=rfl
 rw [<- hE]
 clear hE
 generalize arI q l=F at *
 simp only [j5,TT,II,OA,OB,MM,LL,FF]
 simp only [Sp.c,snQ,Sn.c,Sn.enc,rc,rcs,sb] at o1 ⊢
 (repeat first|refine uA ?_|(apply uK;focus omega)|simp (disch:=omega) only [go_sem,Nat.reduceBEq,c7A,c7i,List.getElem?_cons_zero,Int.toNat_zero,Nat.add_sub_cancel,c7y]|(apply uD o1;exact tz hw;rfl))
 refine S.loop (X:=Nat) (fun i=>⟨[(2,.bp 0 0),(3,.bp 1 0),(11,.sl 3 (l.map fun a=>rcs (Nm.ofQ a))),(12,ints l.length),(13,ints i)],[.box 108 [.v (.bool false),sb [],sb [],.v (.bool false),sb [],sb []],.box 108 (snQ (F i).lo (F i).hi).enc]⟩) (fun i=>i<=l.length) (fun i=>l.length-i) 0 (c7n _) (by rw [h0];exact (by (repeat first|refine uA ?_|(refine ⟨?_,?_⟩;focus first|rfl|simp [slot])|rfl|simp))) ?_
 intro i hi
 simp only [rcs,sb,ints,snQ,Sn.enc]
 (repeat first|refine uA ?_|(apply uK;focus omega)|simp (disch:=omega) only [go_sem,Nat.reduceBEq])
 (refine uJ rfl (fun hc=>?_) fun hc=>?_)
 ·have hi':i < l.length:=by omega
  have hg:=c7h hi'
  generalize l[i]=a at *
  have hs:=hS hg
  have ra:=hl a (c7k hg)
  have rF:=hB i
  have o2:=a3W (Nm.ofQ (F i).lo) (Nm.ofQ a) (rF.1.mono (by decide)) (ra.mono (by decide))
  have o3:=a6b (Nm.ofQ (F i).hi) (Nm.ofQ a) (rF.2.mono (by decide)) (ra.mono (by decide))
  rw [Nm.q8,Nm.q8] at o2 o3
  clear hB hS h0 o1 rF ra
  unfold rq at o2 o3
  simp only [rc,sb] at o2 o3
  (repeat first|refine uA ?_|(apply uK;focus first|omega|(intros;simp_all<;>omega))|simp (disch:=omega) only [go_sem,Nat.reduceBEq,Nat.reduceAdd,ww,hg,c7j,c7i,c7o]|(apply uD o2;exact tz hw;rfl)|(apply uD o3;exact tz hw;rfl))
  refine S.next (i+1) (by omega) (by omega) (by rw [hs];exact (by (repeat first|refine uA ?_|(refine ⟨?_,?_⟩;focus first|rfl|simp [slot])|rfl|simp)))
 ·have hi':i=l.length:=by omega
  subst hi'
  (repeat first|refine uA ?_|(apply uK;focus omega)|simp (disch:=omega) only [go_sem,Nat.reduceBEq])
  (refine S.done ?_;simp only [p9,r9,go_sem,Nat.reduceBEq,Nat.reduceAdd,Nat.reduceLeDiff];(repeat (refine ⟨?_,?_⟩;focus first|trivial|omega|simp));exact j3.out rfl (Imp.refl rfl) rfl)
def J6 (a b:Sp):Sp:=arF ((J5 a).lo*(J5 b).lo) [(J5 a).lo*(J5 b).hi,(J5 a).hi*(J5 b).lo,(J5 a).hi*(J5 b).hi]
theorem O3 {k m:Nat} {a b:Sp} (ha:Zb k a) (hb:Zb m b):Zb (k+m) (J6 a b):=by
 have fa:=K5 ha
 have fb:=K5 hb
 refine b8Y _ _ ⟨I9 fa.1 fb.1,I9 fa.1 fb.1⟩ fun x hx=>?_
 simp only [List.mem_cons,List.not_mem_nil,or_false] at hx
 rcases hx with rfl|rfl|rfl
 ·exact I9 fa.1 fb.2
 ·exact I9 fa.2 fb.1
 ·exact I9 fa.2 fb.2
theorem a1d (a b:Sp) (ha:Zb 268435456 a) (hb:Zb 268435456 b):FZ 161 [a.c,b.c] (J6 a b).c:=by
 refine kW Tryz.func161 (by cbv) (by rfl) fun w O hw=>?_
 have o1:=a0D a (ha.mono (by decide))
 have o2:=a0D b (hb.mono (by decide))
 have fa:=K5 ha
 have fb:=K5 hb
 unfold J6
 generalize J5 a=a2 at *
 generalize J5 b=b2 at *
 obtain ⟨p,q⟩:=a2
 obtain ⟨r,s⟩:=b2
 try simp only at fa fb
 have o3:=a1p p r (fa.1.mono (by decide)) (fb.1.mono (by decide))
 have o4:=a1p p s (fa.1.mono (by decide)) (fb.2.mono (by decide))
 have o5:=a1p q r (fa.2.mono (by decide)) (fb.1.mono (by decide))
 have o6:=a1p q s (fa.2.mono (by decide)) (fb.2.mono (by decide))
 have o7:=b5a (p*r) [p*s,q*r,q*s] ((I9 fa.1 fb.1).mono (by decide)) (fun x hx=>by
  simp only [List.mem_cons,List.not_mem_nil,or_false] at hx
  rcases hx with rfl|rfl|rfl
  ·exact (I9 fa.1 fb.2).mono (by decide)
  ·exact (I9 fa.2 fb.1).mono (by decide)
  ·exact (I9 fa.2 fb.2).mono (by decide)) (by simp)
 simp only
 generalize arF (p*r) [p*s,q*r,q*s]=R at *
 obtain ⟨a1,a2⟩:=a
 obtain ⟨b1,b2⟩:=b
 obtain ⟨r1,r2⟩:=R
 unfold Sp.c snQ at *
 unfold rq at *
 simp only [c7w,c7I] at o1 o2 o7 ⊢
 generalize Nm.ofQ (p*r)=m1 at *
 generalize Nm.ofQ (p*s)=m2 at *
 generalize Nm.ofQ (q*r)=m3 at *
 generalize Nm.ofQ (q*s)=m4 at *
 generalize Nm.ofQ p=x at *
 generalize Nm.ofQ q=y at *
 generalize Nm.ofQ r=z at *
 generalize Nm.ofQ s=t at *
 generalize Nm.ofQ a1=n1 at *
 generalize Nm.ofQ a2=n2 at *
 generalize Nm.ofQ b1=n3 at *
 generalize Nm.ofQ b2=n4 at *
 generalize Nm.ofQ r1=n5 at *
 generalize Nm.ofQ r2=n6 at *
 simp only [j5,TT,OA,OB,LL,FF]
 simp only [Sn.c,Sn.enc,rc,rcs,sb] at o1 o2 o3 o4 o5 o6 o7 ⊢
 (repeat first|refine uA ?_|(apply uK;focus first|omega|(intros;simp_all<;>omega))|simp (disch:=omega) only [go_sem,Nat.reduceBEq,Nat.reduceAdd]|(apply uD o1;exact tz hw;rfl)|(apply uD o2;exact tz hw;rfl)|(apply uD o3;exact tz hw;rfl)|(apply uD o4;exact tz hw;rfl)|(apply uD o5;exact tz hw;rfl)|(apply uD o6;exact tz hw;rfl)|(apply uE o7;exact tz hw;exact rfl;focus (repeat' first|exact j4.nil|exact Imp.refl rfl|exact Imp.frz rfl rfl rfl|(refine Imp.V5 rfl rfl ?_ ?_;(focus ((try simp only [c7t]);omega));(focus first|rfl|assumption))|refine j4.cons ?_ ?_);done))
 (refine S.done ?_;simp only [p9,r9,go_sem,Nat.reduceBEq,Nat.reduceAdd,Nat.reduceLeDiff];(repeat (refine ⟨?_,?_⟩;focus first|trivial|omega|simp));exact j3.out rfl (Imp.refl rfl) rfl)
def a5t (s:Sp) (a:Rat):Bool:=decide (Nm.q9 (J5 s).lo a<=0) && decide (Nm.q9 a (J5 s).hi<=0)
theorem b6Y (s:Sp) (a:Nm.Rt) (hs:Zb 1073741824 s) (ha:Rb 1073741824 a):FZ 181 [s.c,rc a] (.v (.bool (a5t s (Nm.d9 a)))):=by
 refine kW Tryz.func181 (by cbv) (by rfl) fun w O hw=>?_
 have o1:=a0D s hs
 have fs:=K5 hs
 unfold a5t
 generalize J5 s=s2 at *
 obtain ⟨p,q⟩:=s2
 try simp only at fs
 have o2:=Q9 (Nm.ofQ p) a (fs.1.mono (by decide)) (ha.mono (by decide))
 have o3:=Q9 a (Nm.ofQ q) (ha.mono (by decide)) (fs.2.mono (by decide))
 rw [Nm.q8] at o2 o3
 obtain ⟨s1,s2⟩:=s
 unfold Sp.c snQ at *
 simp only at o1 ⊢
 generalize Nm.q9 p (Nm.d9 a)=c1 at *
 generalize Nm.q9 (Nm.d9 a) q=c2 at *
 generalize Nm.ofQ p=x at *
 generalize Nm.ofQ q=y at *
 generalize Nm.ofQ s1=n1 at *
 generalize Nm.ofQ s2=n2 at *
 simp only [j5,TT,II,OA,OB,OC,MM,LL,FF,LG,FG]
 simp only [Sn.c,Sn.enc,rc,sb,ints] at o1 o2 o3 ⊢
 (repeat first|refine uA ?_|(apply uK;focus first|omega|(intros;simp_all<;>omega))|simp (disch:=omega) only [go_sem,Nat.reduceBEq,Nat.reduceAdd]|(apply uD o1;exact tz hw;rfl)|(apply uD o2;exact tz hw;rfl)|(apply uD o3;exact tz hw;rfl))
 exact S.done (j3.out rfl (Imp.refl rfl) rfl)
def sqI (s:Sp):Sp:=arF ((J5 s).lo*(J5 s).lo) [(J5 s).hi*(J5 s).hi]
def a5R (s:Sp):Sp:=if a5t (J5 s) 0=true then ⟨0,(sqI s).hi⟩ else sqI s
theorem c3h {k:Nat} {s:Sp} (h:Zb k s):Zb (k+k) (sqI s):=by
 have fa:=K5 h
 refine b8Y _ _ ⟨I9 fa.1 fa.1,I9 fa.1 fa.1⟩ fun x hx=>?_
 rw [List.mem_singleton] at hx
 subst hx
 exact I9 fa.2 fa.2
theorem b5t {k:Nat} {s:Sp} (h:Zb k s):Zb (k+k) (a5R s):=by
 have:=c3h h
 unfold a5R
 split
 ·exact ⟨a9U (a4H this.1),this.2⟩
 ·exact this
theorem c5i (s:Sp) (hs:Zb 268435456 s):FZ 179 [s.c] (a5R s).c:=by
 refine kW Tryz.func179 (by cbv) (by rfl) fun w O hw=>?_
 have o1:=a0D s (hs.mono (by decide))
 have fs:=K5 hs
 have hsq:=c3h hs
 have o4:=a8w
 have o5:=b6Y (J5 s) (Nm.ofQ 0) (fs.mono (by decide)) (a1b.mono (by decide))
 rw [Nm.q8] at o5
 unfold a5R
 unfold sqI at *
 generalize hfs:J5 s=s2 at *
 obtain ⟨p,q⟩:=s2
 try simp only at fs hsq ⊢
 have o2:=a1p p p (fs.1.mono (by decide)) (fs.1.mono (by decide))
 have o3:=a1p q q (fs.2.mono (by decide)) (fs.2.mono (by decide))
 have o7:=b5a (p*p) [q*q] ((I9 fs.1 fs.1).mono (by decide)) (fun x hx=>by
  rw [List.mem_singleton] at hx
  subst hx
  exact (I9 fs.2 fs.2).mono (by decide)) (by simp)
 generalize arF (p*p) [q*q]=R at *
 generalize a5t ⟨p,q⟩ 0=b at *
 obtain ⟨s1,s2⟩:=s
 obtain ⟨r1,r2⟩:=R
 unfold Sp.c snQ at *
 unfold rq at *
 simp only [c7w,c7I] at o1 o5 o7 ⊢
 generalize Nm.ofQ (p*p)=m1 at *
 generalize Nm.ofQ (q*q)=m2 at *
 have hz:∀ b:Bool,(if b=true then (⟨0,r2⟩:Sp) else ⟨r1,r2⟩)=⟨if b=true then 0 else r1,r2⟩:=fun b=>by cases b<;>rfl
 rw [hz]
 simp only
 cases b
 ·simp only [c7Q,if_false]
  generalize Nm.ofQ 0=z0 at *
  generalize Nm.ofQ p=x at *
  generalize Nm.ofQ q=y at *
  generalize Nm.ofQ s1=n1 at *
  generalize Nm.ofQ s2=n2 at *
  generalize Nm.ofQ r1=n5 at *
  generalize Nm.ofQ r2=n6 at *
  simp only [j5,TT,II,OA,OB,LL,FF]
  simp only [Sn.c,Sn.enc,rc,rcs,sb] at o1 o2 o3 o4 o5 o7 ⊢
  (repeat first|refine uA ?_|(refine uK ?_ ?_;focus first|omega|(intros;simp_all<;>omega))|simp (disch:=omega) only [go_sem,Nat.reduceBEq,Nat.reduceAdd]|(refine uD o1 ?_ ?_ ?_;exact tz hw;exact rfl)|(refine uD o2 ?_ ?_ ?_;exact tz hw;exact rfl)|(refine uD o3 ?_ ?_ ?_;exact tz hw;exact rfl)|(refine uD o4 ?_ ?_ ?_;exact tz hw;exact rfl)|(refine uD o5 ?_ ?_ ?_;exact tz hw;exact rfl)|(refine uE o7 ?_ ?_ ?_ ?_;exact tz hw;exact rfl;focus (repeat' first|exact j4.nil|exact Imp.refl rfl|exact Imp.frz rfl rfl rfl|(refine Imp.V5 rfl rfl ?_ ?_;(focus ((try simp only [c7t]);omega));(focus first|rfl|assumption))|refine j4.cons ?_ ?_);done))
  refine S.cond rfl (fun hc=>by simp at hc) (fun hc=>?_)
  (repeat first|refine uA ?_|(refine uK ?_ ?_;focus first|omega|(intros;simp_all<;>omega))|simp (disch:=omega) only [go_sem,Nat.reduceBEq,Nat.reduceAdd])
  (refine S.done ?_;simp only [p9,r9,go_sem,Nat.reduceBEq,Nat.reduceAdd,Nat.reduceLeDiff];(repeat (refine ⟨?_,?_⟩;focus first|trivial|omega|simp));exact j3.out rfl (Imp.refl rfl) rfl)
 ·simp only [if_true]
  generalize Nm.ofQ 0=z0 at *
  generalize Nm.ofQ p=x at *
  generalize Nm.ofQ q=y at *
  generalize Nm.ofQ s1=n1 at *
  generalize Nm.ofQ s2=n2 at *
  generalize Nm.ofQ r1=n5 at *
  generalize Nm.ofQ r2=n6 at *
  simp only [j5,TT,II,OA,OB,LL,FF]
  simp only [Sn.c,Sn.enc,rc,rcs,sb] at o1 o2 o3 o4 o5 o7 ⊢
  (repeat first|refine uA ?_|(refine uK ?_ ?_;focus first|omega|(intros;simp_all<;>omega))|simp (disch:=omega) only [go_sem,Nat.reduceBEq,Nat.reduceAdd]|(refine uD o1 ?_ ?_ ?_;exact tz hw;exact rfl)|(refine uD o2 ?_ ?_ ?_;exact tz hw;exact rfl)|(refine uD o3 ?_ ?_ ?_;exact tz hw;exact rfl)|(refine uD o4 ?_ ?_ ?_;exact tz hw;exact rfl)|(refine uD o5 ?_ ?_ ?_;exact tz hw;exact rfl)|(refine uE o7 ?_ ?_ ?_ ?_;exact tz hw;exact rfl;focus (repeat' first|exact j4.nil|exact Imp.refl rfl|exact Imp.frz rfl rfl rfl|(refine Imp.V5 rfl rfl ?_ ?_;(focus ((try simp only [c7t]);omega));(focus first|rfl|assumption))|refine j4.cons ?_ ?_);done))
  refine S.cond rfl (fun hc=>?_) (fun hc=>by simp at hc)
  (repeat first|refine uA ?_|(refine uK ?_ ?_;focus first|omega|(intros;simp_all<;>omega))|simp (disch:=omega) only [go_sem,Nat.reduceBEq,Nat.reduceAdd]|(refine uD o4 ?_ ?_ ?_;exact tz hw;exact rfl))
  (refine S.done ?_;simp only [p9,r9,go_sem,Nat.reduceBEq,Nat.reduceAdd,Nat.reduceLeDiff];(repeat (refine ⟨?_,?_⟩;focus first|trivial|omega|simp));exact j3.out rfl (Imp.refl rfl) rfl)
def a3C (p:Rat):Rat:=mkRat (p*1000000).floor 1000000
theorem b1H:(Nm.enc 1000000).length<=3:=Nm.G5 (by decide)
theorem b9X:Nm.ofQ (1000000:Rat)=⟨false,Nm.enc 1000000,Nm.enc 1⟩:=by
 unfold Nm.ofQ
 rw [show (1000000:Rat)=((1000000:Int):Rat) from rfl,Rat.num_intCast,Rat.den_intCast]
 rfl
theorem b4M:Rb 3 (Nm.ofQ (1000000:Rat)):=by
 rw [b9X]
 exact ⟨b1H,by show (Nm.enc 1).length<=3;rw [Nm.U6];decide⟩
theorem b7u (f:Int):Nm.sgn (decide (f < 0)) f.natAbs=f:=by
 unfold Nm.sgn
 by_cases h:f < 0
 ·rw [decide_eq_true h,if_pos rfl];omega
 ·rw [decide_eq_false h,if_neg (by decide)];omega
theorem a9I (f:Int):Nm.ofQ (f:Rat)=⟨decide (f < 0),Nm.enc f.natAbs,Nm.enc 1⟩:=by
 unfold Nm.ofQ
 rw [Rat.num_intCast,Rat.den_intCast]
theorem b4v {k:Nat} {p:Rat} (h:Rb k (Nm.ofQ p)):Rb (k+4) (Nm.ofQ (a3C p)):=by
 have h2:=(a9x (I9 h b4M)).1
 rw [a9I] at h2
 unfold a3C
 rw [<- b7u (p*1000000).floor]
 have h3:=b1H
 exact a8t (k:=k+4) (by decide) (by simp only at h2;omega) (by omega) (by omega) (c7p _)
theorem c0i (p:Rat) (hp:Rb 536870912 (Nm.ofQ p)):FZ 207 [rq p,.v (.int .i64 1000000)] (rq (a3C p)):=by
 refine kW Tryz.func207 (by cbv) (by rfl) fun w O hw=>?_
 have o1:=b5R 1000000 (by decide)
 rw [show (1000000:Int).toNat=1000000 from rfl] at o1
 have o2:=a1p p 1000000 (hp.mono (by decide)) (b4M.mono (by decide))
 have h1:=I9 hp b4M
 have o3:=b7C (p*1000000) (h1.mono (by decide))
 have h2:=(a9x h1).1
 unfold a3C
 generalize p*1000000=x at *
 generalize x.floor=f at *
 have h3:=b1H
 rw [a9I] at h2
 have o4:=a2U (decide (f < 0)) f.natAbs 1000000 (by decide) (by simp only at h2;omega) (by omega)
 rw [b7u] at o4
 unfold rq at *
 rw [b9X] at o2
 rw [a9I] at o3
 rw [Nm.U6] at o2 o3
 clear h1 h2 h3 hp
 generalize Nm.enc 1000000=e at *
 generalize decide (f < 0)=s at *
 generalize Nm.enc f.natAbs=n at *
 generalize Nm.ofQ (mkRat f 1000000)=r at *
 generalize Nm.ofQ p=m1 at *
 generalize Nm.ofQ x=m2 at *
 simp only [j5,TT,II,OA,OB,MM,LL,VV,FF]
 simp only [rc,sb,ints] at *
 (repeat first|refine uA ?_|(apply uK;focus first|omega|(intros;simp_all<;>omega))|simp (disch:=omega) only [go_sem,Nat.reduceBEq,Nat.reduceAdd]|(apply uB o1;exact rfl)|(apply uD o2;exact tz hw;rfl)|(apply uD o3;exact tz hw;rfl)|(apply uD o4;exact tz hw;rfl))
 (refine S.done ?_;simp only [p9,r9,go_sem,Nat.reduceBEq,Nat.reduceAdd,Nat.reduceLeDiff];(repeat (refine ⟨?_,?_⟩;focus first|trivial|omega|simp));exact j3.out rfl (Imp.refl rfl) rfl)
def upQ (p:Rat):Rat:=- a3C (- p)
theorem c6S {k:Nat} {p:Rat} (h:Rb k (Nm.ofQ p)):Rb (k+4) (Nm.ofQ (upQ p)):=a1c (b4v (a1c h))
theorem c6L (p:Rat) (hp:Rb 268435456 (Nm.ofQ p)):FZ 208 [rq p,.v (.int .i64 1000000)] (rq (upQ p)):=by
 refine kW Tryz.func208 (by cbv) (by rfl) fun w O hw=>?_
 have o1:=a4S (Nm.ofQ p) (hp.mono (by decide))
 have h1:=a1c hp
 have o2:=c0i (-p) (h1.mono (by decide))
 have o3:=a4S (Nm.ofQ (a3C (-p))) ((b4v h1).mono (by decide))
 rw [Nm.q8] at o1 o3
 unfold upQ
 unfold rq at *
 generalize Nm.ofQ (- a3C (-p))=m1 at *
 generalize Nm.ofQ (a3C (-p))=m2 at *
 generalize Nm.ofQ (-p)=m3 at *
 generalize Nm.ofQ p=m4 at *
 simp only [j5,TT,OA,OB,MM,LL]
 simp only [rc,sb] at *
 (repeat first|refine uA ?_|(apply uK;focus first|omega|(intros;simp_all<;>omega))|simp (disch:=omega) only [go_sem,Nat.reduceBEq,Nat.reduceAdd]|(apply uD o1;exact tz hw;rfl)|(apply uD o2;exact tz hw;rfl)|(apply uD o3;exact tz hw;rfl))
 (refine S.done ?_;simp only [p9,r9,go_sem,Nat.reduceBEq,Nat.reduceAdd,Nat.reduceLeDiff];(repeat (refine ⟨?_,?_⟩;focus first|trivial|omega|simp));exact j3.out rfl (Imp.refl rfl) rfl)
def b1L (s:Sp):Sp:=⟨a3C (J5 s).lo,upQ (J5 s).hi⟩
theorem b3U {k:Nat} {s:Sp} (h:Zb k s):Zb (k+4) (b1L s):=⟨b4v (K5 h).1,c6S (K5 h).2⟩
theorem c3X (s:Sp) (hs:Zb 268435456 s):FZ 182 [s.c,.v (.int .i64 1000000)] (b1L s).c:=by
 refine kW Tryz.func182 (by cbv) (by rfl) fun w O hw=>?_
 have o1:=a0D s (hs.mono (by decide))
 have fs:=K5 hs
 unfold b1L
 generalize J5 s=t at *
 obtain ⟨p,q⟩:=t
 have o2:=c0i p (fs.1.mono (by decide))
 have o3:=c6L q (fs.2.mono (by decide))
 obtain ⟨s1,s2⟩:=s
 unfold Sp.c snQ at *
 unfold rq at *
 simp only at o1 ⊢
 generalize Nm.ofQ (a3C p)=m1 at *
 generalize Nm.ofQ (upQ q)=m2 at *
 generalize Nm.ofQ p=m3 at *
 generalize Nm.ofQ q=m4 at *
 generalize Nm.ofQ s1=m5 at *
 generalize Nm.ofQ s2=m6 at *
 simp only [j5,TT,OA,OB,MM,LL,FF]
 simp only [Sn.c,Sn.enc,rc,sb] at o1 o2 o3 ⊢
 (repeat first|refine uA ?_|(apply uK;focus first|omega|(intros;simp_all<;>omega))|simp (disch:=omega) only [go_sem,Nat.reduceBEq,Nat.reduceAdd]|(apply uD o1;exact tz hw;rfl)|(apply uD o2;exact tz hw;rfl)|(apply uD o3;exact tz hw;rfl))
 (refine S.done ?_;simp only [p9,r9,go_sem,Nat.reduceBEq,Nat.reduceAdd,Nat.reduceLeDiff];(repeat (refine ⟨?_,?_⟩;focus first|trivial|omega|simp));exact j3.out rfl (Imp.refl rfl) rfl)
def c2v:Sp:=⟨-1,1⟩
theorem b1G:Rb 8 (Nm.ofQ (-1)):=a1c R8
theorem c5P:FZ 183 [] c2v.c:=by
 refine kW Tryz.func183 (by cbv) (by rfl) fun w O hw=>?_
 have o1:=a2l 1 (by decide) (by decide)
 have o2:=a2l (-1) (by decide) (by decide)
 rw [show ((1:Int):Rat)=1 from rfl] at o1
 rw [show ((-1:Int):Rat)=-1 from rfl] at o2
 unfold Sp.c snQ c2v
 unfold rq at *
 simp only
 generalize Nm.ofQ (-1)=m1 at *
 generalize Nm.ofQ 1=m2 at *
 simp only [j5,TT,II,OA,OB]
 simp only [Sn.c,Sn.enc,rc,sb,ints] at o1 o2 ⊢
 (repeat first|refine uA ?_|(apply uK;focus omega)|simp (disch:=omega) only [go_sem,Nat.reduceBEq]|(apply uD o1;exact tz hw;rfl)|(apply uD o2;exact tz hw;rfl))
 (refine S.done ?_;simp only [p9,r9,go_sem,Nat.reduceBEq,Nat.reduceAdd,Nat.reduceLeDiff];(repeat (refine ⟨?_,?_⟩;focus first|trivial|omega|simp));exact j3.out rfl (Imp.refl rfl) rfl)
def a3v (s:Sp):Sp:=⟨K6 (b1L s).lo (-1),G9 (b1L s).hi 1⟩
theorem b1h {k:Nat} {s:Sp} (h:Zb k s):Zb (k+12) (a3v s):=⟨a9Q ((b3U h).1.mono (by omega)) (b1G.mono (by omega)),a9y ((b3U h).2.mono (by omega)) (R8.mono (by omega))⟩
theorem c2Z (s:Sp) (hs:Zb 268435456 s):FZ 159 [s.c] (a3v s).c:=by
 refine kW Tryz.func159 (by cbv) (by rfl) fun w O hw=>?_
 have o1:=c3X s hs
 have fs:=b3U hs
 have o2:=c5P
 unfold a3v
 generalize b1L s=t at *
 obtain ⟨p,q⟩:=t
 have o3:=a6b (Nm.ofQ p) (Nm.ofQ (-1)) (fs.1.mono (by decide)) (b1G.mono (by decide))
 have o4:=a3W (Nm.ofQ q) (Nm.ofQ 1) (fs.2.mono (by decide)) (R8.mono (by decide))
 rw [Nm.q8,Nm.q8] at o3 o4
 obtain ⟨s1,s2⟩:=s
 unfold c2v at o2
 unfold Sp.c snQ at *
 unfold rq at *
 simp only at o1 o2 ⊢
 generalize Nm.ofQ (K6 p (-1))=m1 at *
 generalize Nm.ofQ (G9 q 1)=m2 at *
 generalize Nm.ofQ p=m3 at *
 generalize Nm.ofQ q=m4 at *
 generalize Nm.ofQ s1=m5 at *
 generalize Nm.ofQ s2=m6 at *
 generalize Nm.ofQ (-1)=m7 at *
 generalize Nm.ofQ 1=m8 at *
 simp only [j5,TT,II,OA,OB,LL,FF]
 simp only [Sn.c,Sn.enc,rc,sb] at o1 o2 o3 o4 ⊢
 (repeat first|refine uA ?_|(apply uK;focus first|omega|(intros;simp_all<;>omega))|simp (disch:=omega) only [go_sem,Nat.reduceBEq,Nat.reduceAdd]|(apply uD o1;exact tz hw;rfl)|(apply uD o2;exact tz hw;rfl)|(apply uD o3;exact tz hw;rfl)|(apply uD o4;exact tz hw;rfl))
 (refine S.done ?_;simp only [p9,r9,go_sem,Nat.reduceBEq,Nat.reduceAdd,Nat.reduceLeDiff];(repeat (refine ⟨?_,?_⟩;focus first|trivial|omega|simp));exact j3.out rfl (Imp.refl rfl) rfl)
def a9B (a:Rat):Rat:=(1-a) / (1+a)
theorem one_add {a:Rat} (h:0<=a):1+a ≠ 0:=by
 intro e
 have h1:(0:Rat) < 1:=by decide
 grind
theorem c0D {k:Nat} {a:Rat} (h0:0<=a) (h:Rb k (Nm.ofQ a)):Rb (k+k+18) (Nm.ofQ (a9B a)):=(b0x (one_add h0) (U5 R8 h) (U4 R8 h)).mono (by omega)
theorem b9O (a:Rat) (h0:0<=a) (h:Rb 1073741824 (Nm.ofQ a)):FZ 180 [rq a] (rq (a9B a)):=by
 refine kW Tryz.func180 (by cbv) (by rfl) fun w O hw=>?_
 have o1:=a2l 1 (by decide) (by decide)
 rw [show ((1:Int):Rat)=1 from rfl] at o1
 have o2:=a8M 1 a (R8.mono (by decide)) (h.mono (by decide))
 have o3:=a5s 1 a (R8.mono (by decide)) (h.mono (by decide))
 have o4:=b7X (1-a) (1+a) ((U5 R8 h).mono (by decide)) ((U4 R8 h).mono (by decide))
 rw [show a3l (1-a) (1+a)=Nm.ofQ ((1-a) / (1+a)) by unfold a3l;rw [if_neg (one_add h0)]] at o4
 unfold a9B
 unfold rq at *
 generalize Nm.ofQ ((1-a) / (1+a))=m1 at *
 generalize Nm.ofQ (1-a)=m2 at *
 generalize Nm.ofQ (1+a)=m3 at *
 generalize Nm.ofQ a=m4 at *
 generalize Nm.ofQ 1=m5 at *
 simp only [j5,TT,II,OA,OB,MM,LL]
 simp only [rc,sb,ints] at *
 (repeat first|refine uA ?_|(apply uK;focus omega)|simp (disch:=omega) only [go_sem,Nat.reduceBEq]|(apply uD o1;exact tz hw;rfl)|(apply uD o2;exact tz hw;rfl)|(apply uD o3;exact tz hw;rfl)|(apply uD o4;exact tz hw;rfl))
 (refine S.done ?_;simp only [p9,r9,go_sem,Nat.reduceBEq,Nat.reduceAdd,Nat.reduceLeDiff];(repeat (refine ⟨?_,?_⟩;focus first|trivial|omega|simp));exact j3.out rfl (Imp.refl rfl) rfl)
theorem c0t:∀ (l:List Rat) (s:Sp),0<=s.lo->0<=s.hi->(∀ a ∈ l,0<=a)->0<=(l.foldl (fun s a=>(⟨G9 s.lo a,K6 s.hi a⟩:Sp)) s).lo/\0<=(l.foldl (fun s a=>(⟨G9 s.lo a,K6 s.hi a⟩:Sp)) s).hi
 | [],s,h1,h2,_=>⟨h1,h2⟩
 | a::l,s,h1,h2,hl=>c0t l _ (by simp only [G9];split;exact h1;exact hl a (by simp)) (by simp only [K6];split;exact h2;exact hl a (by simp)) fun b hb=>hl b (by simp [hb])
theorem c3L (s:Sp):0<=(sqI s).lo/\0<=(sqI s).hi:=c0t _ _ (sq_nonneg _) (sq_nonneg _) fun a ha=>by
 rw [List.mem_singleton] at ha
 rw [ha]
 exact sq_nonneg _
theorem a9Y (s:Sp):0<=(a5R s).lo/\0<=(a5R s).hi:=by
 have h:=c3L s
 unfold a5R
 split
 ·exact ⟨Rat.le_refl,h.2⟩
 ·exact h
def a9W (s:Sp):Sp:=⟨a9B (a5R s).hi,a9B (a5R s).lo⟩
theorem c1k {k:Nat} {s:Sp} (h:Zb k s):Zb (4*k+18) (a9W s):=⟨(c0D (a9Y s).2 (b5t h).2).mono (by omega),(c0D (a9Y s).1 (b5t h).1).mono (by omega)⟩
theorem c5n (s:Sp) (hs:Zb 268435456 s):FZ 157 [s.c] (a9W s).c:=by
 refine kW Tryz.func157 (by cbv) (by rfl) fun w O hw=>?_
 have o1:=c5i s hs
 have fs:=b5t hs
 have hp:=a9Y s
 unfold a9W
 generalize a5R s=t at *
 obtain ⟨p,q⟩:=t
 have o2:=b9O q hp.2 (fs.2.mono (by decide))
 have o3:=b9O p hp.1 (fs.1.mono (by decide))
 obtain ⟨s1,s2⟩:=s
 unfold Sp.c snQ at *
 unfold rq at *
 simp only at o1 ⊢
 generalize Nm.ofQ (a9B p)=m1 at *
 generalize Nm.ofQ (a9B q)=m2 at *
 generalize Nm.ofQ p=m3 at *
 generalize Nm.ofQ q=m4 at *
 generalize Nm.ofQ s1=m5 at *
 generalize Nm.ofQ s2=m6 at *
 simp only [j5,TT,OA,OB,MM,LL,FF]
 simp only [Sn.c,Sn.enc,rc,sb] at o1 o2 o3 ⊢
 (repeat first|refine uA ?_|(apply uK;focus omega)|simp (disch:=omega) only [go_sem,Nat.reduceBEq]|(apply uD o1;exact tz hw;rfl))
 refine ⟨rfl,?_⟩
 (repeat first|refine uA ?_|(apply uK;focus first|omega|(intros;simp_all<;>omega))|simp (disch:=omega) only [go_sem,Nat.reduceBEq,Nat.reduceAdd]|(apply uD o2;exact tz hw;rfl))
 refine ⟨rfl,?_⟩
 (repeat first|refine uA ?_|(apply uK;focus omega)|simp (disch:=omega) only [go_sem,Nat.reduceBEq]|(apply uD o3;exact tz hw;rfl))
 (refine S.done ?_;simp only [p9,r9,go_sem,Nat.reduceBEq,Nat.reduceAdd,Nat.reduceLeDiff];(repeat (refine ⟨?_,?_⟩;focus first|trivial|omega|simp));exact j3.out rfl (Imp.refl rfl) rfl)
def a5B:H6:=⟨38,[.cell 2 true 6],.seq (.reg [OA 1 (.box 108 (TT 0)),OA 2 (.alloc 108 [.bool false,.string ⟨#[]⟩,.string ⟨#[]⟩,.bool false,.string ⟨#[]⟩,.string ⟨#[]⟩])]) (.seq (.reg [LL 7 6 1,LL 8 6 1,OA 9 (.call 43 [TT 7,TT 8]),
 OB (.store 6 (TT 1) (TT 9))]) (.seq (.y9 [.q,.q,.q,.q,.q,.q,.q,.q,.q,.q,.q,.a,.e (some 3) true] [FF 10 0 1,LL 11 3 10,OA 12 (.call 137 [TT 11]),OA 13 (.call 156 [TT 12]),OA 14 (.call 44 [TT 13]),FF 15 3 1,LL
 16 3 15,OA 17 (.call 137 [TT 16]),OA 18 (.call 156 [TT 17]),OA 19 (.call 44 [TT 18]),OA 20 (.call 43 [TT 14,TT 19]),OA 3 (.alloc 108 [.bool false,.string ⟨#[]⟩,.string ⟨#[]⟩,.bool false,.string ⟨#[]⟩,.string ⟨#[]⟩]),
 OB (.store 6 (TT 3) (TT 20))]) (.seq (.seq (.reg [OA 21 (.bsl 3 1 2 [.int .i64 0] [(0,II (-1)),(1,II 1)]),OA 22 (.len false (TT 21)),OA 23 (.mv (II 0))]) (.block 0 (.loop (.seq (.reg [OA 24 (.bin .lss (TT 23) (TT 22))])
 (.seq (.cond (TT 24) .skip (.exit 0)) (.seq (.block 1 (.seq (.reg [OA 25 (.l7 1 (TT 21) (TT 23)),VV 26 25,MM 5 26]) (.seq (.reg [MM 27 5,OA 28 (.call 48 [TT 27]),OA 6 (.alloc 29 [.bool false,.string ⟨#[]⟩,.string
 ⟨#[]⟩]),OB (.store 3 (TT 6) (TT 28))]) (.seq (.reg [LL 29 6 1,LL 30 3 6,OA 31 (.call 181 [TT 29,TT 30])]) (.cond (TT 31) (.y9 [.q,.q,.q,.q,.e none true] [LL 32 6 3,LL 33 3 6,OA 34 (.call 44 [TT 33]),OA 35 (.call 43
 [TT 32,TT 34]),OB (.store 6 (TT 3) (TT 35))]) .skip))))) (.reg [OA 36 (.bin .add (TT 23) (II 1)),MM 23 36]))))))) (.seq (.reg [LL 37 6 3,OB (.store 6 (TT 2) (TT 37))]) .ret))))⟩
theorem b1l:F3 eff Tryz.prog Tryz.f158=some a5B:=by kernel_rfl
theorem b0t:Tryz.prog.funcs[158]?=some Tryz.f158:=Tryz.func158
structure Lq where
 x:Sp
 y:Sp
 c:Sp
 s:Sp
def Sp.enc (s:Sp):List C:=(snQ s.lo s.hi).enc
def Lq.enc (l:Lq):List C:=l.x.enc++l.y.enc++l.c.enc++l.s.enc
def Zl (k:Nat) (l:Lq):Prop:=Zb k l.x/\Zb k l.y/\Zb k l.c/\Zb k l.s
def ptS (a:Nm.Rt):Sp:=⟨Nm.d9 a,Nm.d9 a⟩
theorem a3G {k:Nat} {a:Nm.Rt} (h:Rb k a) (hk:1<=k):Zb k (ptS a):=⟨h.fit hk,h.fit hk⟩
def atX (l:Lq) (v:Vt):Sp:=Y3 l.x (a3O (J6 (ptS v.x) l.c) (J6 (ptS v.y) l.s))
def atY (l:Lq) (v:Vt):Sp:=Y3 l.y (Y3 (J6 (ptS v.x) l.s) (J6 (ptS v.y) l.c))
theorem c1c (l:Lq) (v:Vt) (hl:Zl 67108864 l) (h1:Rb 16777216 v.x) (h2:Rb 16777216 v.y):FZ 113 [.agg l.enc,.agg v.enc] (.tup [(atX l v).c,(atY l v).c]):=by
 refine kW Tryz.func113 (by cbv) (by rfl) fun w O hw=>?_
 obtain ⟨lx,ly,lc,ls⟩:=l
 obtain ⟨v1,v2⟩:=v
 obtain ⟨b1,b2,b3,b4⟩:=hl
 simp only at b1 b2 b3 b4 h1 h2
 have o1:=a0J v1 (h1.mono (by decide))
 have o2:=a0J v2 (h2.mono (by decide))
 have p1:=a3G h1 (by decide)
 have p2:=a3G h2 (by decide)
 have o3:=a1d (ptS v1) lc (p1.mono (by decide)) (b3.mono (by decide))
 have o4:=a1d (ptS v2) ls (p2.mono (by decide)) (b4.mono (by decide))
 have m3:=O3 p1 b3
 have m4:=O3 p2 b4
 have o5:=b7s _ _ (m3.mono (by decide)) (m4.mono (by decide))
 have m5:=a8K m3 m4
 have o6:=a4E lx _ (b1.mono (by decide)) (m5.mono (by decide))
 have o7:=a1d (ptS v1) ls (p1.mono (by decide)) (b4.mono (by decide))
 have o8:=a1d (ptS v2) lc (p2.mono (by decide)) (b3.mono (by decide))
 have m7:=O3 p1 b4
 have m8:=O3 p2 b3
 have o9:=a4E _ _ (m7.mono (by decide)) (m8.mono (by decide))
 have m9:=a2E m7 m8
 have oa:=a4E ly _ (b2.mono (by decide)) (m9.mono (by decide))
 clear m3 m4 m5 m7 m8 m9 b1 b2 b3 b4 h1 h2 p1 p2
 unfold atX atY
 simp only
 rw [show Sp.mk (Nm.d9 v1) (Nm.d9 v1)=ptS v1 from rfl] at o1
 rw [show Sp.mk (Nm.d9 v2) (Nm.d9 v2)=ptS v2 from rfl] at o2
 simp only [j5,TT,OA,OB,LL,FF]
 generalize J6 (ptS v1) lc=s1 at *
 generalize J6 (ptS v2) ls=s2 at *
 generalize a3O s1 s2=s3 at *
 generalize J6 (ptS v1) ls=s4 at *
 generalize J6 (ptS v2) lc=s5 at *
 generalize Y3 s4 s5=s6 at *
 generalize ptS v1=s7 at *
 generalize ptS v2=s8 at *
 generalize Y3 lx s3=s9 at *
 generalize Y3 ly s6=s10 at *
 simp only [Vt.enc,Lq.enc,Sp.enc,Sp.c,Sn.c,Sn.enc,snQ,rc,sb,List.cons_append,List.nil_append] at o1 o2 o3 o4 o5 o6 o7 o8 o9 oa ⊢
 (repeat first|refine uA ?_|(apply uK;focus first|omega|(intros;simp_all<;>omega))|simp (disch:=omega) only [go_sem,Nat.reduceBEq,Nat.reduceAdd]|(apply uD o1;exact tz hw;rfl)|(apply uD o2;exact tz hw;rfl)|(apply uD o3;exact tz hw;rfl)|(apply uD o4;exact tz hw;rfl)|(apply uD o5;exact tz hw;rfl)|(apply uD o6;exact tz hw;rfl)|(apply uD o7;exact tz hw;rfl)|(apply uD o8;exact tz hw;rfl)|(apply uD o9;exact tz hw;rfl)|(apply uD oa;exact tz hw;rfl))
 (refine S.done ?_;simp only [p9,r9,go_sem,Nat.reduceBEq,Nat.reduceAdd,Nat.reduceLeDiff];(repeat (refine ⟨?_,?_⟩;focus first|trivial|omega|simp));exact j3.out rfl (Imp.tup (by (repeat' (first|exact j4.nil|exact Imp.refl rfl|exact Imp.frz rfl rfl rfl|exact Imp.F8|refine Imp.agg ?_|refine j4.cons ?_ ?_)))) rfl)
theorem a3n {k:Nat} {a b:Sp} (ha:Zb k a) (hb:Zb k b):Zb k (U3 a b):=⟨a9y (K5 ha).1 (K5 hb).1,a9Q (K5 ha).2 (K5 hb).2⟩
def ptQ (q:Rat):Sp:=⟨q,q⟩
def a4Q (u s:Sp) (l:List Int):Sp:=l.foldl (fun s (n:Int)=>if a5t u (n:Rat)=true then U3 s (ptQ n) else s) s
def b8E (u:Sp):Sp:=U3 (ptQ (Z6 u.lo)) (ptQ (Z6 u.hi))
def a9v (t:Sp):Sp:=a4Q (U3 t t) (b8E (U3 t t)) [-1,1]
theorem a3X {k:Nat} {q:Rat} (h:Rb k (Nm.ofQ q)):Rb (4*k+18) (Nm.ofQ (Z6 q)):=(b0x (b1c q) (U4 h h) (U4 R8 (I9 h h))).mono (by omega)
theorem b9I {k:Nat} {u:Sp} (h:Zb k u):Zb (4*k+18) (b8E u):=a3n ⟨a3X h.1,a3X h.1⟩ ⟨a3X h.2,a3X h.2⟩
theorem b7y {k:Nat} {n:Int} (hk:8<=k) (h:n=-1 \/ n=1):Rb k (Nm.ofQ (n:Rat)):=by
 rcases h with rfl|rfl
 ·exact b1G.mono hk
 ·exact R8.mono hk
theorem b5e {k:Nat} {u:Sp} (hk:8<=k):∀ (l:List Int) (s:Sp),Zb k s->(∀ n ∈ l,n=-1 \/ n=1)->Zb k (a4Q u s l)
 | [],s,h,_=>h
 | n::l,s,h,hl=>by
  refine b5e hk l _ ?_ fun m hm=>hl m (by simp [hm])
  have:=b7y hk (hl n (by simp))
  show Zb k (if a5t u (n:Rat)=true then U3 s (ptQ n) else s)
  split
  ·exact a3n h ⟨this,this⟩
  ·exact h
theorem c0L {k:Nat} {t:Sp} (h:Zb k t):Zb (4*k+18) (a9v t):=b5e (by omega) _ _ (b9I (a3n h h)) (by simp)
theorem c0Y (u s:Sp) {l:List Int} {i:Nat} {n:Int} (h:l[i]?=some n):a4Q u s (l.take (i+1))=if a5t u (n:Rat)=true then U3 (a4Q u s (l.take i)) (ptQ n) else a4Q u s (l.take i):=by
 unfold a4Q
 rw [take_at h,List.foldl_append]
 rfl
theorem c4Q (t:Sp) (hs:Zb 16777216 t):FZ 158 [t.c] (a9v t).c:=by
 refine kW b0t b1l (by rfl) fun w O hw=>?_
 have o1:=a3x t t (hs.mono (by decide)) (hs.mono (by decide))
 have b1:=a3n hs hs
 unfold a9v
 generalize U3 t t=u at *
 have o2:=b3R (Nm.ofQ u.lo) (b1.1.mono (by decide))
 have o3:=b3R (Nm.ofQ u.hi) (b1.2.mono (by decide))
 have o4:=b5O false (Nm.ofQ u.lo) (b1.1.mono (by decide))
 have o5:=b5O false (Nm.ofQ u.hi) (b1.2.mono (by decide))
 simp only [J9,c7Q,if_false] at o4 o5
 rw [Nm.q8] at o2 o3 o4 o5
 have c1:=a3X b1.1
 have c2:=a3X b1.2
 have o6:=a0J (Nm.ofQ (Z6 u.lo)) (c1.mono (by decide))
 have o7:=a0J (Nm.ofQ (Z6 u.hi)) (c2.mono (by decide))
 rw [Nm.q8] at o6 o7
 have o8:=a3x (ptQ (Z6 u.lo)) (ptQ (Z6 u.hi)) ⟨c1.mono (by decide),c1.mono (by decide)⟩ ⟨c2.mono (by decide),c2.mono (by decide)⟩
 rw [show U3 (ptQ (Z6 u.lo)) (ptQ (Z6 u.hi))=b8E u from rfl] at o8
 have d0:=b9I b1
 generalize b8E u=s at *
 unfold ptQ at o8
 generalize Z6 u.lo=x1 at *
 generalize Z6 u.hi=x2 at *
 have hI:a4Q u s []=s:=rfl
 obtain ⟨L,hL,hn,hm⟩:∃ L:List Int,L=[-1,1]/\L.length=2/\∀ n ∈ L,n=-1 \/ n=1:=⟨_,rfl,rfl,by simp⟩
 rw [<- hL]
 simp only [a5B,j5,TT,II,OA,OB,MM,LL,VV,FF]
 simp only [Sp.c,Sn.c,Sn.enc,snQ,rq,tq,rc,tc,sb] at o1 o2 o3 o4 o5 o6 o7 o8 ⊢
 (repeat first|refine uA ?_|(refine uK ?_ ?_;focus first|omega|(intros;simp_all<;>omega))|simp (disch:=omega) only [go_sem,Nat.reduceBEq,Nat.reduceAdd]|(refine uD o1 ?_ ?_ ?_;exact tz hw;exact rfl)|(refine uD o2 ?_ ?_ ?_;exact tz hw;exact rfl)|(refine uD o3 ?_ ?_ ?_;exact tz hw;exact rfl)|(refine uD o4 ?_ ?_ ?_;exact tz hw;exact rfl)|(refine uD o5 ?_ ?_ ?_;exact tz hw;exact rfl)|(refine uD o6 ?_ ?_ ?_;exact tz hw;exact rfl)|(refine uD o7 ?_ ?_ ?_;exact tz hw;exact rfl)|(refine uD o8 ?_ ?_ ?_;exact tz hw;exact rfl))
 refine S.loop (X:=Nat) (fun i=>⟨[(1,.bp 0 0),(2,.bp 1 0),(3,.bp 2 0),(21,.rv 3),(22,ints L.length),(23,ints i)],[.box 108 u.enc,.box 108 [.v (.bool false),sb [],sb [],.v (.bool false),sb [],sb []],.box 108 (a4Q u s (L.take i)).enc,.row 3 1 (L.map fun n=>[ints n])]⟩) (fun i=>i<=L.length) (fun i=>L.length-i) 0 (c7n _) (by simp only [List.take_zero,hI,hL,Sp.enc,snQ,Sn.enc,sb];exact (by (repeat first|refine uA ?_|(refine ⟨?_,?_⟩;focus first|rfl|simp [slot])|rfl|simp))) ?_
 intro i hi
 clear o1 o2 o3 o4 o5 o6 o7 o8 hI hL
 simp only [Sp.enc,Sn.enc,snQ,sb,ints]
 (repeat first|refine uA ?_|(refine uK ?_ ?_;focus first|omega|(intros;simp_all<;>omega))|simp (disch:=omega) only [go_sem,Nat.reduceBEq])
 (refine uJ rfl (fun hc=>?_) fun hc=>?_)
 ·have hi':i < L.length:=by omega
  have hg:=c7h hi'
  generalize L[i]=n at *
  have hsu:=c0Y u s hg
  have hu:=hm n (c7k hg)
  have ru:=b7y (k:=16777216) (by decide) hu
  have o1:=a2l n (by omega) (by omega)
  have o2:=b6Y u (Nm.ofQ (n:Rat)) (b1.mono (by decide)) (ru.mono (by decide))
  have o3:=a0J (Nm.ofQ (n:Rat)) (ru.mono (by decide))
  have dI:Zb 67108882 (a4Q u s (L.take i)):=b5e (by decide) _ _ (d0.mono (by decide)) fun m h=>hm m (List.mem_of_mem_take h)
  have o4:=a3x (a4Q u s (L.take i)) (ptQ n) (dI.mono (by decide)) ⟨ru.mono (by decide),ru.mono (by decide)⟩
  rw [Nm.q8] at o2 o3
  generalize a4Q u s (L.take i)=v at *
  unfold ptQ at o4 hsu
  generalize a5t u (n:Rat)=b at *
  clear ru dI d0 b1 c1 c2 hu hm
  generalize (n:Rat)=q at *
  generalize U3 v ⟨q,q⟩=v3 at *
  simp only [Sp.c,Sn.c,Sn.enc,snQ,rq,rc,sb,ints] at o1 o2 o3 o4
  (repeat first|refine uA ?_|(refine uK ?_ ?_;focus first|omega|(intros;simp_all<;>omega))|simp (disch:=omega) only [go_sem,Nat.reduceBEq,Nat.reduceAdd,hg,c7j,c7i,c7o]|(refine uD o1 ?_ ?_ ?_;exact tz hw;exact rfl)|(refine uD o2 ?_ ?_ ?_;exact tz hw;exact rfl))
  refine S.cond rfl (fun hc=>?_) (fun hc=>?_)
  ·rw [if_pos (by simpa using hc)] at hsu
   (repeat first|refine uA ?_|(refine uK ?_ ?_;focus first|omega|(intros;simp_all<;>omega))|simp (disch:=omega) only [go_sem,Nat.reduceBEq,Nat.reduceAdd,ww]|(refine uD o3 ?_ ?_ ?_;exact tz hw;exact rfl)|(refine uD o4 ?_ ?_ ?_;exact tz hw;exact rfl))
   refine S.next (i+1) (by omega) (by omega) (by rw [hsu];exact (by (repeat first|refine uA ?_|(refine ⟨?_,?_⟩;focus first|rfl|simp [slot])|rfl|simp)))
  ·rw [if_neg (by simpa using hc)] at hsu
   (repeat first|refine uA ?_|(refine uK ?_ ?_;focus first|omega|(intros;simp_all<;>omega))|simp (disch:=omega) only [go_sem,Nat.reduceBEq,ww])
   refine S.next (i+1) (by omega) (by omega) (by rw [hsu];exact (by (repeat first|refine uA ?_|(refine ⟨?_,?_⟩;focus first|rfl|simp [slot])|rfl|simp)))
 ·have hi':i=L.length:=by omega
  subst hi'
  rw [c7y]
  (repeat first|refine uA ?_|(refine uK ?_ ?_;focus first|omega|(intros;simp_all<;>omega))|simp (disch:=omega) only [go_sem,Nat.reduceBEq,Nat.reduceAdd])
  (refine S.done ?_;simp only [p9,r9,go_sem,Nat.reduceBEq,Nat.reduceAdd,Nat.reduceLeDiff];(repeat (refine ⟨?_,?_⟩;focus first|trivial|omega|simp));exact j3.out rfl (Imp.refl rfl) rfl)
def a6y:H6:=⟨112,[.tmp 4,.tmp 5],.seq (.reg [OA 2 (.box 69 (TT 0)),OA 4 (.mv (.const (.slice none 0 0))),OA 5 (.mv (II 0))]) (.seq (.seq (.reg [LL 16 12 2,MM 17 1,OA 18 (.len false (TT 17)),OA 19 (.call 154 [TT 16,TT 18]),MM 6 19])
 (.seq (.reg [MM 20 6,OA 21 (.bin .neq (TT 20) (II 0))]) (.cond (TT 21) (.seq (.reg [MM 22 6,OA 4 (.mv (.const (.slice none 0 0))),MM 5 22]) .ret) .skip))) (.seq (.reg [FF 23 1 2,LL 24 10 23,OA 7 (.alloc 66 [.bool false,
 .string ⟨#[]⟩,.string ⟨#[]⟩,.bool false,.string ⟨#[]⟩,.string ⟨#[]⟩,.bool false,.bool false,.string ⟨#[]⟩,.string ⟨#[]⟩]),OB (.store 10 (TT 7) (TT 24))]) (.seq (.y9 [.q,.q,.q,.q,.q,.q,.q,.q,.q,.q,.q,.q,.q,
 .q,.q,.q,.q,.a,.e (some 8) true] [FF 25 0 7,FF 26 0 25,LL 27 3 26,OA 28 (.call 44 [TT 27]),FF 29 0 7,FF 30 3 29,LL 31 3 30,OA 32 (.call 44 [TT 31]),FF 33 6 7,LL 34 4 33,OA 35 (.call 155 [TT 34]),OA 36 (.call 44
 [TT 35]),FF 37 6 7,LL 38 4 37,OA 39 (.call 156 [TT 38]),OA 40 (.call 44 [TT 39]),OA 41 (.build [.bool false,.string ⟨#[]⟩,.string ⟨#[]⟩,.bool false,.string ⟨#[]⟩,.string ⟨#[]⟩,.bool false,.string ⟨#[]⟩,.string
 ⟨#[]⟩,.bool false,.string ⟨#[]⟩,.string ⟨#[]⟩,.bool false,.string ⟨#[]⟩,.string ⟨#[]⟩,.bool false,.string ⟨#[]⟩,.string ⟨#[]⟩,.bool false,.string ⟨#[]⟩,.string ⟨#[]⟩,.bool false,.string ⟨#[]⟩,.string ⟨#[]⟩] [(0,
 (6,TT 28)),(6,(6,TT 32)),(12,(6,TT 36)),(18,(6,TT 40))]),OA 8 (.alloc 190 [.bool false,.string ⟨#[]⟩,.string ⟨#[]⟩,.bool false,.string ⟨#[]⟩,.string ⟨#[]⟩,.bool false,.string ⟨#[]⟩,.string ⟨#[]⟩,.bool false,
 .string ⟨#[]⟩,.string ⟨#[]⟩,.bool false,.string ⟨#[]⟩,.string ⟨#[]⟩,.bool false,.string ⟨#[]⟩,.string ⟨#[]⟩,.bool false,.string ⟨#[]⟩,.string ⟨#[]⟩,.bool false,.string ⟨#[]⟩,.string ⟨#[]⟩]),OB (.store 24 (TT 8) (TT
 41))]) (.seq (.reg [OA 9 (.mv (.const (.slice none 0 0)))]) (.seq (.seq (.reg [FF 42 11 2,VV 43 42,OA 44 (.len false (TT 43)),OA 45 (.mv (II 0))]) (.block 0 (.loop (.seq (.reg [OA 46 (.bin .lss (TT 45) (TT 44))]) (.seq (.cond
 (TT 46) .skip (.exit 0)) (.seq (.block 1 (.seq (.reg [MM 47 45,OA 48 (.l7 16 (TT 43) (TT 45)),LL 49 16 48,OA 11 (.alloc 74 [.bool false,.string ⟨#[]⟩,.string ⟨#[]⟩,.bool false,.string ⟨#[]⟩,.string ⟨#[]⟩,.bool false,
 .string ⟨#[]⟩,.string ⟨#[]⟩,.bool false,.string ⟨#[]⟩,.string ⟨#[]⟩,.bool false,.string ⟨#[]⟩,.string ⟨#[]⟩,.slice none 0 0]),MM 10 47,OB (.store 16 (TT 11) (TT 49))]) (.seq (.y9 [.q,.q,.q,.q,.q,.q,.q,.q,.q,
 .q,.a,.a,.e (some 12) true,.e (some 13) true] [MM 50 1,MM 51 10,OA 52 (.l7 6 (TT 50) (TT 51)),LL 53 6 52,OA 54 (.call 157 [TT 53]),MM 55 1,MM 56 10,OA 57 (.l7 6 (TT 55) (TT 56)),LL 58 6 57,OA 59 (.call 158 [TT
 58]),OA 12 (.alloc 108 [.bool false,.string ⟨#[]⟩,.string ⟨#[]⟩,.bool false,.string ⟨#[]⟩,.string ⟨#[]⟩]),OA 13 (.alloc 108 [.bool false,.string ⟨#[]⟩,.string ⟨#[]⟩,.bool false,.string ⟨#[]⟩,.string ⟨#[]⟩]),OB
 (.store 6 (TT 12) (TT 54)),OB (.store 6 (TT 13) (TT 59))]) (.seq (.reg [LL 60 24 8,OA 14 (.alloc 190 [.bool false,.string ⟨#[]⟩,.string ⟨#[]⟩,.bool false,.string ⟨#[]⟩,.string ⟨#[]⟩,.bool false,.string ⟨#[]⟩,.string
 ⟨#[]⟩,.bool false,.string ⟨#[]⟩,.string ⟨#[]⟩,.bool false,.string ⟨#[]⟩,.string ⟨#[]⟩,.bool false,.string ⟨#[]⟩,.string ⟨#[]⟩,.bool false,.string ⟨#[]⟩,.string ⟨#[]⟩,.bool false,.string ⟨#[]⟩,.string ⟨#[]⟩]),OB
 (.store 24 (TT 14) (TT 60))]) (.seq (.y9 [.q,.q,.q,.q,.q,.q,.q,.q,.q,.q,.q,.e none true] [FF 61 12 8,LL 62 6 61,LL 63 6 12,OA 64 (.call 161 [TT 62,TT 63]),FF 65 18 8,LL 66 6 65,LL 67 6 13,OA 68 (.call 161
 [TT 66,TT 67]),OA 69 (.call 160 [TT 64,TT 68]),OA 70 (.call 159 [TT 69]),FF 71 12 14,OB (.store 6 (TT 71) (TT 70))]) (.seq (.y9 [.q,.q,.q,.q,.q,.q,.q,.q,.q,.q,.q,.e none true] [FF 72 18 8,LL 73 6 72,LL 74 6
 12,OA 75 (.call 161 [TT 73,TT 74]),FF 76 12 8,LL 77 6 76,LL 78 6 13,OA 79 (.call 161 [TT 77,TT 78]),OA 80 (.call 162 [TT 75,TT 79]),OA 81 (.call 159 [TT 80]),FF 82 18 14,OB (.store 6 (TT 82) (TT 81))]) (.seq (.reg
 [MM 83 9,LL 84 24 14,OA 85 (.bsl 190 24 1 [.bool false,.string ⟨#[]⟩,.string ⟨#[]⟩,.bool false,.string ⟨#[]⟩,.string ⟨#[]⟩,.bool false,.string ⟨#[]⟩,.string ⟨#[]⟩,.bool false,.string ⟨#[]⟩,.string ⟨#[]⟩,.bool
 false,.string ⟨#[]⟩,.string ⟨#[]⟩,.bool false,.string ⟨#[]⟩,.string ⟨#[]⟩,.bool false,.string ⟨#[]⟩,.string ⟨#[]⟩,.bool false,.string ⟨#[]⟩,.string ⟨#[]⟩] [(0,TT 84)]),OA 86 (.app 190 24 320 (TT 83) (TT 85)),MM 9
 86]) (.seq (.reg [FF 87 0 11,LL 88 3 87,OA 89 (.call 44 [TT 88]),OA 15 (.alloc 108 [.bool false,.string ⟨#[]⟩,.string ⟨#[]⟩,.bool false,.string ⟨#[]⟩,.string ⟨#[]⟩]),OB (.store 6 (TT 15) (TT 89))]) (.seq (.y9 [.q,.q,
 .q,.q,.q,.q,.q,.q,.e none true] [FF 90 0 14,LL 91 6 90,LL 92 6 15,FF 93 12 14,LL 94 6 93,OA 95 (.call 161 [TT 92,TT 94]),OA 96 (.call 162 [TT 91,TT 95]),FF 97 0 14,OB (.store 6 (TT 97) (TT 96))]) (.seq (.y9
 [.q,.q,.q,.q,.q,.q,.q,.q,.e none true] [FF 98 6 14,LL 99 6 98,LL 100 6 15,FF 101 18 14,LL 102 6 101,OA 103 (.call 161 [TT 100,TT 102]),OA 104 (.call 162 [TT 99,TT 103]),FF 105 6 14,OB (.store 6 (TT 105) (TT
 104))]) (.reg [LL 106 24 14,OB (.store 24 (TT 8) (TT 106))]))))))))))) (.reg [OA 107 (.bin .add (TT 45) (II 1)),MM 45 107]))))))) (.seq (.reg [MM 108 9,LL 109 24 8,OA 110 (.bsl 190 24 1 [.bool false,.string ⟨#[]⟩,.string
 ⟨#[]⟩,.bool false,.string ⟨#[]⟩,.string ⟨#[]⟩,.bool false,.string ⟨#[]⟩,.string ⟨#[]⟩,.bool false,.string ⟨#[]⟩,.string ⟨#[]⟩,.bool false,.string ⟨#[]⟩,.string ⟨#[]⟩,.bool false,.string ⟨#[]⟩,.string ⟨#[]⟩,.bool
 false,.string ⟨#[]⟩,.string ⟨#[]⟩,.bool false,.string ⟨#[]⟩,.string ⟨#[]⟩] [(0,TT 109)]),OA 111 (.app 190 24 320 (TT 108) (TT 110)),MM 4 111,OA 5 (.mv (II 0))]) .ret))))))⟩
theorem b1M:F3 eff Tryz.prog Tryz.f112=some a6y:=by kernel_rfl
theorem b1V:Tryz.prog.funcs[112]?=some Tryz.f112:=Tryz.func112
def a5C (n:Lq) (t:Sp):Lq:=⟨n.x,n.y,a3v (a3O (J6 n.c (a9W t)) (J6 n.s (a9v t))),a3v (Y3 (J6 n.s (a9W t)) (J6 n.c (a9v t)))⟩
def b8j (f:Lq) (l:Lk):Lq:=⟨Y3 f.x (J6 (ptS l.length) f.c),Y3 f.y (J6 (ptS l.length) f.s),f.c,f.s⟩
def X4:Lq->List (Lk × Sp)->List Lq
 | n,[]=>[n]
 | n,(l,t)::r=>a5C n t::X4 (b8j (a5C n t) l) r
def a2Q (b:Fr):Lq:=⟨ptS b.x,ptS b.y,ptQ (a2t b.half (J9 b.half b.t)),ptQ (Z6 (J9 b.half b.t))⟩
def SB (i:Nat):Nat:=262144*6 ^ i
theorem c2X {i:Nat} (h:i < 3):SB i<=9437184/\262144<=SB i/\SB (i+1)=6*SB i:=by
 unfold SB
 match i,h with
 | 0,_=>decide
 | 1,_=>decide
 | 2,_=>decide
theorem b7S {i:Nat} (h:i<=3):SB i<=56623104:=by
 unfold SB
 match i,h with
 | 0,_=>decide
 | 1,_=>decide
 | 2,_=>decide
 | 3,_=>decide
theorem Zl.mono {k m:Nat} {l:Lq} (h:Zl k l) (hm:k<=m):Zl m l:=⟨h.1.mono hm,h.2.1.mono hm,h.2.2.1.mono hm,h.2.2.2.mono hm⟩
theorem c6X {m c:Nat} (h:2*c+30<=m):m+c+(m+c)+1+12<=3*m:=by omega
theorem c3m {i:Nat} {n:Lq} {t:Sp} {l:Lk} (hi:i < 3) (hn:Zl (SB i) n) (ht:Zb 16384 t) (hl:Rb 8 l.length):Zl (SB (i+1)) (a5C n t)/\Zl (SB (i+1)) (b8j (a5C n t) l):=by
 obtain ⟨h1,h2,h3⟩:=c2X hi
 rw [h3]
 generalize SB i=m at *
 obtain ⟨bx,by',bc,bs'⟩:=hn
 have c1:Zb 65554 (a9W t):=(c1k ht).mono (by decide)
 have s1:Zb 65554 (a9v t):=(c0L ht).mono (by decide)
 have k1:m+65554+(m+65554)+1+12<=3*m:=c6X (c7l (by decide) h2)
 have k2:3*m<=6*m:=c7M _ (by decide)
 have c2:=(b1h (a8K (O3 bc c1) (O3 bs' s1))).mono k1
 have s2:=(b1h (a2E (O3 bs' c1) (O3 bc s1))).mono k1
 have p:=a3G hl (by decide)
 have k3:m<=6*m:=by omega
 have k4:m+(8+3*m)+1<=6*m:=by omega
 exact ⟨⟨bx.mono k3,by'.mono k3,c2.mono k2,s2.mono k2⟩,⟨(a2E bx (O3 p c2)).mono k4,(a2E by' (O3 p s2)).mono k4,c2.mono k2,s2.mono k2⟩⟩
theorem c6M {L:List Lk} {q:List Sp} {i:Nat} {l:Lk} {t:Sp} (h1:L[i]?=some l) (h2:q[i]?=some t):(L.zip q)[i]?=some (l,t):=by
 rw [List.getElem?_zip_eq_some]
 exact ⟨h1,h2⟩
theorem c2A (a:Am) (q:List Sp) (hl:Ab 1073741824 a) (ha:J3 a=0) (hql:q.length=a.links.length) (hq:∀ r ∈ q,Zb 16384 r):FZ 112 [a.c,.sl 6 (q.map Sp.enc)] (.tup [.sl 24 ((X4 (a2Q a.base) (a.links.zip q)).map Lq.enc),ints 0]):=by
 refine kW b1V b1M (by rfl) fun w O hw=>?_
 have h:=b9A a q.length hl
 rw [c5U ha (by omega)] at h
 obtain ⟨fb,lb⟩:=b0h ha
 have hn3:=(Z4 ha).2
 have hn:=hl.2.2.1
 obtain ⟨name,base,links⟩:=a
 simp only at hql fb lb hn3 hn ⊢
 have q2:=b7S (show 0<=3 by omega)
 have hcs:=c4R base.half base.t (fb.2.2.mono (by decide))
 have hs:=b5O base.half base.t (fb.2.2.mono (by decide))
 have rT:=b1Z (h:=base.half) (fb.2.2.mono (show tB 0<=64 by decide)) (by decide)
 have rC:Rb 262144 (Nm.ofQ (a2t base.half (J9 base.half base.t))):=(c0H _ rT).mono (by decide)
 have rS:Rb 262144 (Nm.ofQ (Z6 (J9 base.half base.t))):=(a3X rT).mono (by decide)
 have x1:=fb.1.mono (show xB 0<=64 by decide)
 have x2:=fb.2.1.mono (show xB 0<=64 by decide)
 have h0:Zl (SB 0) (a2Q base):=⟨(a3G x1 (by decide)).mono (by decide),(a3G x2 (by decide)).mono (by decide),⟨rC,rC⟩,⟨rS,rS⟩⟩
 have g1:=a0J base.x (x1.mono (by decide))
 have g2:=a0J base.y (x2.mono (by decide))
 have g3:=a0J (Nm.ofQ (a2t base.half (J9 base.half base.t))) (rC.mono (by decide))
 have g4:=a0J (Nm.ofQ (Z6 (J9 base.half base.t))) (rS.mono (by decide))
 rw [Nm.q8] at g3 g4
 have hB:a2Q base=⟨⟨Nm.d9 base.x,Nm.d9 base.x⟩,⟨Nm.d9 base.y,Nm.d9 base.y⟩,⟨a2t base.half (J9 base.half base.t),a2t base.half (J9 base.half base.t)⟩,⟨Z6 (J9 base.half base.t),Z6 (J9 base.half base.t)⟩⟩:=rfl
 clear rT rC rS x1 x2
 generalize a2t base.half (J9 base.half base.t)=co at *
 generalize Z6 (J9 base.half base.t)=si at *
 generalize Nm.d9 base.x=u1 at *
 generalize Nm.d9 base.y=u2 at *
 generalize a2Q base=N0 at *
 simp only [a6y,j5,TT,II,OA,OB,MM,LL,VV,FF]
 simp only [Am.c,Am.enc,lks,rq,rc,tc,Sp.c,Sn.c,Sn.enc,snQ,sb,ints] at h hcs hs g1 g2 g3 g4 ⊢
 (repeat first|refine uA ?_|(refine uK ?_ ?_;focus first|omega|(intros;simp_all<;>omega))|simp (disch:=omega) only [go_sem,Nat.reduceBEq,Nat.reduceAdd,c7i]|(refine uD h ?_ ?_ ?_;exact tz hw;exact rfl))
 refine S.cond rfl (fun hc=>by simp at hc) (fun hc=>?_)
 (repeat first|refine uA ?_|(refine uK ?_ ?_;focus first|omega|(intros;simp_all<;>omega))|simp (disch:=omega) only [go_sem,Nat.reduceBEq,Nat.reduceAdd,c7i]|(refine uD g1 ?_ ?_ ?_;exact tz hw;exact rfl)|(refine uD g2 ?_ ?_ ?_;exact tz hw;exact rfl)|(refine uD hcs ?_ ?_ ?_;exact tz hw;exact rfl)|(refine uD g3 ?_ ?_ ?_;exact tz hw;exact rfl)|(refine uD hs ?_ ?_ ?_;exact tz hw;exact rfl)|(refine uD g4 ?_ ?_ ?_;exact tz hw;exact rfl))
 refine S.loop (X:=Nat × Lq × List Lq) (fun x=>⟨[(1,.sl 6 (q.map Sp.enc)),(8,.bp 2 0),(9,.rv 3),(43,lks links),(44,ints links.length),(45,ints x.1)],[.gone,.gone,.box 190 x.2.1.enc,.row 190 24 (x.2.2.map Lq.enc)]⟩)
  (fun x=>x.1<=links.length/\x.2.2.length=x.1/\X4 N0 (links.zip q)=x.2.2++X4 x.2.1 ((links.zip q).drop x.1)/\Zl (SB x.1) x.2.1) (fun x=>links.length-x.1) (0,N0,[]) ⟨c7n _,rfl,rfl,h0⟩ (Ent.trans (Ent.pack 9 190 24 rfl) (by simp only [hB,Lq.enc,Sp.enc,Sn.enc,snQ,sb,List.cons_append,List.nil_append];exact (by (repeat first|refine uA ?_|(refine ⟨?_,?_⟩;focus first|rfl|simp [slot])|rfl|simp)))) ?_
 rintro ⟨i,n,outs⟩ ⟨hi,ho,hg,hF⟩
 clear h hcs hs g1 g2 g3 g4 hB h0
 simp only at hi ho hg hF
 simp only [lks,sb,ints,Lq.enc,Sp.enc,Sn.enc,snQ,List.cons_append,List.nil_append]
 (repeat first|refine uA ?_|(refine uK ?_ ?_;focus first|omega|(intros;simp_all<;>omega))|simp (disch:=omega) only [go_sem,Nat.reduceBEq])
 (refine uJ rfl (fun hc=>?_) fun hc=>?_)
 ·have hi':i < links.length:=by omega
  have hgl:=c7h hi'
  have hgq:=c7h (show i < q.length by omega)
  generalize links[i]=l at hgl
  generalize q[i]'_=t at hgq
  have ht:=hq t (c7k hgq)
  have hlb:=lb l (c7k hgl)
  have hF':=(c3m (l:=l) (show i < 3 by omega) hF ht hlb).2
  have hn':=hF.mono (c2X (show i < 3 by omega)).1
  rw [drop_at (c6M hgl hgq),X4] at hg
  have c1:=c5n t (ht.mono (by decide))
  have s1:=c4Q t (ht.mono (by decide))
  have bc:=c1k ht
  have bs':=c0L ht
  generalize hCS:a9W t=ct at *
  generalize hSS:a9v t=st at *
  obtain ⟨nx,ny,nc,ns⟩:=n
  obtain ⟨b1,b2,b3,b4⟩:=hn'
  simp only at b1 b2 b3 b4
  have m1:=a1d nc ct (b3.mono (by decide)) (bc.mono (by decide))
  have m2:=a1d ns st (b4.mono (by decide)) (bs'.mono (by decide))
  have v1:=O3 b3 bc
  have v2:=O3 b4 bs'
  have m3:=b7s _ _ (v1.mono (by decide)) (v2.mono (by decide))
  have v3:=a8K v1 v2
  have m4:=c2Z _ (v3.mono (by decide))
  have v4:=b1h v3
  have m5:=a1d ns ct (b4.mono (by decide)) (bc.mono (by decide))
  have m6:=a1d nc st (b3.mono (by decide)) (bs'.mono (by decide))
  have v5:=O3 b4 bc
  have v6:=O3 b3 bs'
  have m7:=a4E _ _ (v5.mono (by decide)) (v6.mono (by decide))
  have v7:=a2E v5 v6
  have m8:=c2Z _ (v7.mono (by decide))
  have v8:=b1h v7
  have p1:=a3G hlb (by decide)
  have o1:=a0J l.length (hlb.mono (by decide))
  rw [show Sp.mk (Nm.d9 l.length) (Nm.d9 l.length)=ptS l.length from rfl] at o1
  have m9:=a1d (ptS l.length) _ (p1.mono (by decide)) (v4.mono (by decide))
  have ma:=a1d (ptS l.length) _ (p1.mono (by decide)) (v8.mono (by decide))
  have v9:=O3 p1 v4
  have va:=O3 p1 v8
  have mb:=a4E nx _ (b1.mono (by decide)) (v9.mono (by decide))
  have mc:=a4E ny _ (b2.mono (by decide)) (va.mono (by decide))
  have e1:a5C ⟨nx,ny,nc,ns⟩ t=⟨nx,ny,a3v (a3O (J6 nc ct) (J6 ns st)),a3v (Y3 (J6 ns ct) (J6 nc st))⟩:=by rw [<- hCS,<- hSS];rfl
  have e2:b8j (a5C ⟨nx,ny,nc,ns⟩ t) l=⟨Y3 nx (J6 (ptS l.length) (a3v (a3O (J6 nc ct) (J6 ns st)))),Y3 ny (J6 (ptS l.length) (a3v (Y3 (J6 ns ct) (J6 nc st)))),a3v (a3O (J6 nc ct) (J6 ns st)),a3v (Y3 (J6 ns ct) (J6 nc st))⟩:=by rw [e1];rfl
  generalize b8j (a5C ⟨nx,ny,nc,ns⟩ t) l=now' at *
  generalize a5C ⟨nx,ny,nc,ns⟩ t=next' at *
  clear v1 v2 v3 v4 v5 v6 v7 v8 v9 va b1 b2 b3 b4 bc bs' hCS hSS p1 hF
  generalize J6 nc ct=w1 at *
  generalize J6 ns st=w2 at *
  generalize J6 ns ct=w3 at *
  generalize J6 nc st=w4 at *
  generalize a3O w1 w2=w5 at *
  generalize Y3 w3 w4=w6 at *
  generalize a3v w5=w7 at *
  generalize a3v w6=w8 at *
  generalize ptS l.length=w9 at *
  generalize J6 w9 w7=wa at *
  generalize J6 w9 w8=wb at *
  generalize Y3 nx wa=wc at *
  generalize Y3 ny wb=wd at *
  subst e1 e2
  have hqi:(i:Int) < q.length:=by omega
  simp only [Sp.c,Sn.c,Sn.enc,snQ,rc,sb] at c1 s1 m1 m2 m3 m4 m5 m6 m7 m8 o1 m9 ma mb mc
  (repeat first|refine uA ?_|(refine uK ?_ ?_;focus first|omega|(intros;simp_all<;>omega))|simp (disch:=omega) only [go_sem,Nat.reduceBEq,Nat.reduceAdd,ww,hgl,hgq,c7j,c7i,Lk.enc,Sp.enc,Sn.enc,snQ,vts,sb,ho,c7o]|(refine uD c1 ?_ ?_ ?_;exact tz hw;exact rfl)|(refine uD s1 ?_ ?_ ?_;exact tz hw;exact rfl)|(refine uD m1 ?_ ?_ ?_;exact tz hw;exact rfl)|(refine uD m2 ?_ ?_ ?_;exact tz hw;exact rfl)|(refine uD m3 ?_ ?_ ?_;exact tz hw;exact rfl)|(refine uD m4 ?_ ?_ ?_;exact tz hw;exact rfl)|(refine uD m5 ?_ ?_ ?_;exact tz hw;exact rfl)|(refine uD m6 ?_ ?_ ?_;exact tz hw;exact rfl)|(refine uD m7 ?_ ?_ ?_;exact tz hw;exact rfl)|(refine uD m8 ?_ ?_ ?_;exact tz hw;exact rfl)|(refine uD o1 ?_ ?_ ?_;exact tz hw;exact rfl)|(refine uD m9 ?_ ?_ ?_;exact tz hw;exact rfl)|(refine uD ma ?_ ?_ ?_;exact tz hw;exact rfl)|(refine uD mb ?_ ?_ ?_;exact tz hw;exact rfl)|(refine uD mc ?_ ?_ ?_;exact tz hw;exact rfl))
  refine S.next (x:=(i,⟨nx,ny,nc,ns⟩,outs)) (i+1,⟨wc,wd,w7,w8⟩,outs++[⟨nx,ny,w7,w8⟩]) ⟨by simp only;omega,by simp only [c7t,ho];rfl,by simp only;rw [hg,c7P];rfl,hF'⟩ (by simp only;omega) (by simp only [c7X,c7w,c7I,Lq.enc,Sp.enc,Sn.enc,snQ,sb,List.cons_append,List.nil_append];exact (by (repeat first|refine uA ?_|(refine ⟨?_,?_⟩;focus first|rfl|simp [slot])|rfl|simp)))
 ·rw [List.drop_eq_nil_of_le (by rw [List.length_zip];omega),X4] at hg
  rw [hg]
  (repeat first|refine uA ?_|(refine uK ?_ ?_;focus first|omega|(intros;simp_all<;>omega))|simp (disch:=omega) only [go_sem,Nat.reduceBEq,Nat.reduceAdd,c7i])
  simp only [c7X,c7w,c7I,Lq.enc,Sp.enc,Sn.enc,snQ,sb,List.cons_append,List.nil_append]
  (refine S.done ?_;simp only [p9,go_sem,Nat.reduceBEq];(repeat (refine ⟨?_,?_⟩;focus first|trivial|omega|simp));exact j3.out rfl (Imp.tup (by (repeat' (first|exact j4.nil|exact Imp.refl rfl|exact Imp.frz rfl rfl rfl|exact Imp.F8|refine Imp.agg ?_|refine j4.cons ?_ ?_)))) rfl)
def a8W:H6:=⟨18,[.cell 2 true 12],.seq (.reg [OA 1 (.box 190 (TT 0)),OA 2 (.alloc 82 [.bool false,.string ⟨#[]⟩,.string ⟨#[]⟩,.bool false,.string ⟨#[]⟩,.string ⟨#[]⟩,.bool false,.string ⟨#[]⟩,.string ⟨#[]⟩,.bool false,.string
 ⟨#[]⟩,.string ⟨#[]⟩])]) (.seq (.reg [FF 3 0 1,FF 4 0 3,LL 5 3 4,FF 6 6 1,FF 7 0 6,LL 8 3 7,OA 9 (.build [.bool false,.string ⟨#[]⟩,.string ⟨#[]⟩,.bool false,.string ⟨#[]⟩,.string ⟨#[]⟩] [(0,(3,TT 5)),(3,(3,TT
 8))]),FF 10 0 1,FF 11 3 10,LL 12 3 11,FF 13 6 1,FF 14 3 13,LL 15 3 14,OA 16 (.build [.bool false,.string ⟨#[]⟩,.string ⟨#[]⟩,.bool false,.string ⟨#[]⟩,.string ⟨#[]⟩] [(0,(3,TT 12)),(3,(3,TT 15))]),OA 17 (.build
 [.bool false,.string ⟨#[]⟩,.string ⟨#[]⟩,.bool false,.string ⟨#[]⟩,.string ⟨#[]⟩,.bool false,.string ⟨#[]⟩,.string ⟨#[]⟩,.bool false,.string ⟨#[]⟩,.string ⟨#[]⟩] [(0,(6,TT 9)),(6,(6,TT 16))]),OB (.store 12 (TT
 2) (TT 17))]) .ret)⟩
theorem b6U:F3 eff Tryz.prog Tryz.f114=some a8W:=by kernel_rfl
theorem b6m:Tryz.prog.funcs[114]?=some Tryz.f114:=Tryz.func114
structure Bq where
 lx:Rat
 ly:Rat
 hx:Rat
 hy:Rat
def Bq.enc (b:Bq):List C:=[.v (.bool (Nm.ofQ b.lx).neg),sb (Nm.ofQ b.lx).num,sb (Nm.ofQ b.lx).den,.v (.bool (Nm.ofQ b.ly).neg),sb (Nm.ofQ b.ly).num,sb (Nm.ofQ b.ly).den,.v (.bool (Nm.ofQ b.hx).neg),sb (Nm.ofQ b.hx).num,sb (Nm.ofQ b.hx).den,.v (.bool (Nm.ofQ b.hy).neg),sb (Nm.ofQ b.hy).num,sb (Nm.ofQ b.hy).den]
theorem a6Y:∀ (Z:List (Lk × Sp)) (n:Lq),(X4 n Z).length=Z.length+1
 | [],_=>rfl
 | (l,t)::r,n=>by rw [X4,c7A,a6Y r,c7A]
def a6k:H6:=⟨79,[.tmp 4,.tmp 5],.seq (.reg [OA 2 (.box 69 (TT 0)),OA 4 (.mv (.const (.slice none 0 0))),OA 5 (.mv (II 0))]) (.seq (.reg [LL 18 12 2,MM 19 1,OA 20 (.call 112 [TT 18,TT 19]),MM 17 20,OA 21 (.ext (TT 17) 0),OA 22 (.ext
 (TT 17) 1),MM 6 21,MM 7 22]) (.seq (.seq (.reg [MM 23 7,OA 24 (.bin .neq (TT 23) (II 0))]) (.cond (TT 24) (.seq (.reg [MM 25 7,OA 4 (.mv (.const (.slice none 0 0))),MM 5 25]) .ret) .skip)) (.seq (.reg [OA 8 (.mv (.const
 (.slice none 0 0)))]) (.seq (.seq (.reg [FF 26 11 2,VV 27 26,OA 28 (.len false (TT 27)),OA 29 (.mv (II 0))]) (.block 0 (.loop (.seq (.reg [OA 30 (.bin .lss (TT 29) (TT 28))]) (.seq (.cond (TT 30) .skip (.exit 0)) (.seq
 (.block 1 (.seq (.reg [MM 31 29,OA 32 (.l7 16 (TT 27) (TT 29)),LL 33 16 32,OA 10 (.alloc 74 [.bool false,.string ⟨#[]⟩,.string ⟨#[]⟩,.bool false,.string ⟨#[]⟩,.string ⟨#[]⟩,.bool false,.string ⟨#[]⟩,.string ⟨#[]⟩,
 .bool false,.string ⟨#[]⟩,.string ⟨#[]⟩,.bool false,.string ⟨#[]⟩,.string ⟨#[]⟩,.slice none 0 0]),MM 9 31,OB (.store 16 (TT 10) (TT 33))]) (.seq (.y9 [.q,.q,.q,.q,.q,.q,.q,.q,.q,.q,.q,.l,.a,.a,.e (some
 11) false,.e (some 12) true] [MM 35 6,MM 36 9,OA 37 (.l7 24 (TT 35) (TT 36)),LL 38 24 37,FF 39 15 10,VV 40 39,OA 41 (.l7 6 (TT 40) (II 0)),LL 42 6 41,OA 43 (.call 113 [TT 38,TT 42]),MM 34 43,OA 44 (.ext (TT 34)
 0),OA 45 (.ext (TT 34) 1),OA 11 (.alloc 108 [.bool false,.string ⟨#[]⟩,.string ⟨#[]⟩,.bool false,.string ⟨#[]⟩,.string ⟨#[]⟩]),OA 12 (.alloc 108 [.bool false,.string ⟨#[]⟩,.string ⟨#[]⟩,.bool false,.string ⟨#[]⟩,
 .string ⟨#[]⟩]),OB (.store 6 (TT 11) (TT 44)),OB (.store 6 (TT 12) (TT 45))]) (.seq (.seq (.reg [FF 46 15 10,VV 47 46,OA 48 (.a0L 6 (TT 47) (some (II 1)) none),OA 49 (.len false (TT 48)),OA 50 (.mv (II 0))]) (.block 2
 (.loop (.seq (.reg [OA 51 (.bin .lss (TT 50) (TT 49))]) (.seq (.cond (TT 51) .skip (.exit 2)) (.seq (.block 3 (.seq (.reg [OA 52 (.l7 6 (TT 48) (TT 50)),LL 53 6 52,OA 14 (.alloc 59 [.bool false,.string ⟨#[]⟩,.string
 ⟨#[]⟩,.bool false,.string ⟨#[]⟩,.string ⟨#[]⟩]),OB (.store 6 (TT 14) (TT 53))]) (.seq (.y9 [.q,.q,.q,.q,.q,.q,.q,.q,.l,.a,.a,.e (some 15) false,.e (some 16) true] [MM 55 6,MM 56 9,OA 57 (.l7 24 (TT 55) (TT
 56)),LL 58 24 57,LL 59 6 14,OA 60 (.call 113 [TT 58,TT 59]),MM 54 60,OA 61 (.ext (TT 54) 0),OA 62 (.ext (TT 54) 1),OA 15 (.alloc 108 [.bool false,.string ⟨#[]⟩,.string ⟨#[]⟩,.bool false,.string ⟨#[]⟩,.string
 ⟨#[]⟩]),OA 16 (.alloc 108 [.bool false,.string ⟨#[]⟩,.string ⟨#[]⟩,.bool false,.string ⟨#[]⟩,.string ⟨#[]⟩]),OB (.store 6 (TT 15) (TT 61)),OB (.store 6 (TT 16) (TT 62))]) (.y9 [.q,.q,.q,.q,.q,.q,.e none true,.e
 none true] [LL 63 6 11,LL 64 6 15,OA 65 (.call 43 [TT 63,TT 64]),LL 66 6 12,LL 67 6 16,OA 68 (.call 43 [TT 66,TT 67]),OB (.store 6 (TT 11) (TT 65)),OB (.store 6 (TT 12) (TT 68))])))) (.reg [OA 69 (.bin .add (TT 50) (II
 1)),MM 50 69]))))))) (.reg [MM 70 8,LL 71 6 11,LL 72 6 12,OA 73 (.build [.bool false,.string ⟨#[]⟩,.string ⟨#[]⟩,.bool false,.string ⟨#[]⟩,.string ⟨#[]⟩,.bool false,.string ⟨#[]⟩,.string ⟨#[]⟩,.bool false,.string
 ⟨#[]⟩,.string ⟨#[]⟩,.bool false,.string ⟨#[]⟩,.string ⟨#[]⟩,.bool false,.string ⟨#[]⟩,.string ⟨#[]⟩,.bool false,.string ⟨#[]⟩,.string ⟨#[]⟩,.bool false,.string ⟨#[]⟩,.string ⟨#[]⟩] [(0,(6,TT 71)),(6,(6,TT
 72))]),OA 74 (.call 114 [TT 73]),OA 75 (.bsl 82 12 1 [.bool false,.string ⟨#[]⟩,.string ⟨#[]⟩,.bool false,.string ⟨#[]⟩,.string ⟨#[]⟩,.bool false,.string ⟨#[]⟩,.string ⟨#[]⟩,.bool false,.string ⟨#[]⟩,.string ⟨#[]⟩]
 [(0,TT 74)]),OA 76 (.app 82 12 160 (TT 70) (TT 75)),MM 8 76]))))) (.reg [OA 77 (.bin .add (TT 29) (II 1)),MM 29 77]))))))) (.seq (.reg [MM 78 8,MM 4 78,OA 5 (.mv (II 0))]) .ret)))))⟩
theorem b2g:F3 eff Tryz.prog Tryz.f46=some a6k:=by kernel_rfl
theorem b1E:Tryz.prog.funcs[46]?=some Tryz.f46:=Tryz.func46
theorem c6b (x y:Sp):FZ 114 [.agg (x.enc++y.enc++[.v (.bool false),sb [],sb [],.v (.bool false),sb [],sb [],.v (.bool false),sb [],sb [],.v (.bool false),sb [],sb []])] (.agg (Bq.mk x.lo y.lo x.hi y.hi).enc):=by
 refine kW b6m b6U (by rfl) fun w O hw=>?_
 obtain ⟨x1,x2⟩:=x
 obtain ⟨y1,y2⟩:=y
 simp only [a8W,j5,TT,OA,OB,LL,FF]
 simp only [Bq.enc,Sp.enc,Sn.enc,snQ,sb,List.cons_append,List.nil_append]
 (repeat first|refine uA ?_|(refine uK ?_ ?_;focus first|omega|(intros;simp_all<;>omega))|simp (disch:=omega) only [go_sem,Nat.reduceBEq,Nat.reduceAdd])
 (refine S.done ?_;simp only [p9,r9,go_sem,Nat.reduceBEq,Nat.reduceAdd,Nat.reduceLeDiff];(repeat (refine ⟨?_,?_⟩;focus first|trivial|omega|simp));exact j3.out rfl (Imp.refl rfl) rfl)
theorem b1s {l:Lk} (h:O6 l=0):3<=l.shape.length/\l.shape.length<=8/\∀ v ∈ l.shape,Rb 8 v.x/\Rb 8 v.y:=by
 unfold O6 at h
 split at h
 ·cases h
 split at h
 ·cases h
 split at h
 ·rename_i h1;exact absurd h h1
 ·rename_i h1
  have h1:L6 l.shape 8=0:=Classical.not_not.1 h1
  unfold L6 at h1
  split at h1
  ·cases h1
  split at h1
  ·cases h1
  split at h
  ·rename_i h4
   refine ⟨by omega,by omega,fun v hv=>?_⟩
   have:=List.all_eq_true.1 h4 v hv
   simp only [c7q] at this
   exact ⟨(X3 this.1).mono (by decide),(X3 this.2).mono (by decide)⟩
  ·cases h
def ptI (f:Lq) (s:Sp × Sp) (r:List Vt):Sp × Sp:=r.foldl (fun s v=>(U3 s.1 (atX f v),U3 s.2 (atY f v))) s
def shB (f:Lq) (l:Lk):Bq:=match l.shape with
 | []=>⟨0,0,0,0⟩
 | v::r=>⟨(ptI f (atX f v,atY f v) r).1.lo,(ptI f (atX f v,atY f v) r).2.lo,(ptI f (atX f v,atY f v) r).1.hi,(ptI f (atX f v,atY f v) r).2.hi⟩
def a2D (T:List Lq) (L:List Lk):List Bq:=(L.zip T).map fun z=>shB z.2 z.1
theorem b8v {f:Lq} {v:Vt} (hf:Zl 56623104 f) (h1:Rb 8 v.x) (h2:Rb 8 v.y):Zb 173015040 (atX f v)/\Zb 173015040 (atY f v):=by
 have p1:=a3G h1 (by decide)
 have p2:=a3G h2 (by decide)
 exact ⟨(a2E hf.1 (a8K (O3 p1 hf.2.2.1) (O3 p2 hf.2.2.2))).mono (by decide),(a2E hf.2.1 (a2E (O3 p1 hf.2.2.2) (O3 p2 hf.2.2.1))).mono (by decide)⟩
theorem b8x {f:Lq} (hf:Zl 56623104 f):∀ (r:List Vt) (s:Sp × Sp),Zb 173015040 s.1/\Zb 173015040 s.2->(∀ v ∈ r,Rb 8 v.x/\Rb 8 v.y)->Zb 173015040 (ptI f s r).1/\Zb 173015040 (ptI f s r).2
 | [],_,h,_=>h
 | v::r,s,h,hr=>by
  have hv:=hr v (by simp)
  have ha:=b8v hf hv.1 hv.2
  exact b8x hf r _ ⟨a3n h.1 ha.1,a3n h.2 ha.2⟩ fun u hu=>hr u (by simp [hu])
theorem c2G (f:Lq) (s:Sp × Sp) {r:List Vt} {i:Nat} {v:Vt} (h:r[i]?=some v):ptI f s (r.take (i+1))=(U3 (ptI f s (r.take i)).1 (atX f v),U3 (ptI f s (r.take i)).2 (atY f v)):=by
 unfold ptI
 rw [take_at h,List.foldl_append]
 rfl
theorem a9M:∀ (Z:List (Lk × Sp)) (i:Nat) (n:Lq),i+Z.length<=3->Zl (SB i) n->(∀ z ∈ Z,Rb 8 z.1.length/\Zb 16384 z.2)->∀ f ∈ X4 n Z,Zl 56623104 f
 | [],i,n,hi,hn,_,f,hf=>by
  rw [X4,List.mem_singleton] at hf
  rw [hf]
  exact hn.mono (b7S (by simpa using hi))
 | (l,t)::r,i,n,hi,hn,hz,f,hf=>by
  rw [c7A] at hi
  have h1:=hz (l,t) (by simp)
  have h2:=c3m (l:=l) (show i < 3 by omega) hn h1.2 h1.1
  rw [X4,List.mem_cons] at hf
  rcases hf with rfl|hf
  ·exact h2.1.mono (b7S (by omega))
  ·exact a9M r (i+1) _ (by omega) h2.2 (fun z hzz=>hz z (by simp [hzz])) f hf
theorem b7J {a:Am} (ha:J3 a=0):Zl (SB 0) (a2Q a.base):=by
 obtain ⟨fb,_⟩:=b0h ha
 have rT:=b1Z (h:=a.base.half) (fb.2.2.mono (show tB 0<=64 by decide)) (by decide)
 have rC:Rb 262144 (Nm.ofQ (a2t a.base.half (J9 a.base.half a.base.t))):=(c0H _ rT).mono (by decide)
 have rS:Rb 262144 (Nm.ofQ (Z6 (J9 a.base.half a.base.t))):=(a3X rT).mono (by decide)
 exact ⟨(a3G (fb.1.mono (show xB 0<=64 by decide)) (by decide)).mono (by decide),(a3G (fb.2.1.mono (show xB 0<=64 by decide)) (by decide)).mono (by decide),⟨rC,rC⟩,⟨rS,rS⟩⟩
theorem b9V {E:Ctx} (hP:E.P=Tryz.prog) (ht0:Tz E) (a:Am) (q:List Sp) (hl:Ab 1073741824 a) (ha:J3 a=0) (hql:q.length=a.links.length) (hq:∀ r ∈ q,Zb 16384 r):j6 E [] 46 [a.c,.sl 6 (q.map Sp.enc)] (.tup [.rv 1,ints 0]) [.gone,.row 82 12 ((a2D (X4 (a2Q a.base) (a.links.zip q)) a.links).map Bq.enc)] []:=by
 obtain ⟨P,eff',N,w0,own0,av0,nu0,pk0⟩:=E
 simp only at hP
 subst hP
 refine j6.ofT (eff:=eff) ht0 b1E b2g (by exact c7z rfl) fun w' own av ν hν ht=>?_
 have hν0:ν.length<=0:=by rw [hν];exact c7p _
 have h:=c2A a q hl ha hql hq
 have hn:(X4 (a2Q a.base) (a.links.zip q)).length=a.links.length+1:=by rw [a6Y,List.length_zip];omega
 have hb:=a9M (a.links.zip q) 0 (a2Q a.base) (by rw [List.length_zip];have:=(Z4 ha).2;omega) (b7J ha) (fun z hz=>⟨(b0h ha).2 _ (List.of_mem_zip hz).1,hq _ (List.of_mem_zip hz).2⟩)
 have hls:=fun l hm=>b1s ((O7 ha).2 l hm)
 have hn3:=(Z4 ha).2
 generalize X4 (a2Q a.base) (a.links.zip q)=T at *
 have hRl:(a2D T a.links).length=a.links.length:=by unfold a2D;rw [c7i,List.length_zip];omega
 have hRg:∀ {i:Nat} {l:Lk} {f:Lq},a.links[i]?=some l->T[i]?=some f->(a2D T a.links)[i]?=some (shB f l):=fun h1 h2=>by
  unfold a2D
  rw [c7r,O1 h1 h2]
  rfl
 generalize a2D T a.links=R at *
 obtain ⟨name,base,links⟩:=a
 simp only at hn hn3 hRl hRg hls
 simp only [a6k,j5,TT,II,OA,OB,MM,LL,VV,FF]
 simp only [Am.c,Am.enc,lks,sb,ints] at h ⊢
 (repeat first|refine uA ?_|(refine uK ?_ ?_;focus first|omega|(intros;simp_all<;>omega))|simp (disch:=omega) only [go_sem,Nat.reduceBEq,Nat.reduceAdd]|(refine uD h ?_ ?_ ?_;exact ht;exact rfl))
 refine S.cond rfl (fun hc=>by simp at hc) (fun hc=>?_)
 (repeat first|refine uA ?_|(refine uK ?_ ?_;focus first|omega|(intros;simp_all<;>omega))|simp (disch:=omega) only [go_sem,Nat.reduceBEq,Nat.reduceAdd,c7i])
 refine S.loop (X:=Nat) (fun i=>⟨[(6,.sl 24 (T.map Lq.enc)),(8,.rv 1),(27,lks links),(28,ints links.length),(29,ints i)],[.gone,.row 82 12 ((R.take i).map Bq.enc)]⟩) (fun i=>i<=links.length) (fun i=>links.length-i) 0 (c7n _) (Ent.trans (Ent.pack 8 82 12 rfl) (by (repeat first|refine uA ?_|(refine ⟨?_,?_⟩;focus first|rfl|simp [slot])|rfl|simp|exact c7l hν0 (by simp)))) ?_
 intro i hi
 clear h
 simp only [lks,ints]
 (repeat first|refine uA ?_|(refine uK ?_ ?_;focus first|omega|(intros;simp_all<;>omega))|simp (disch:=omega) only [go_sem,Nat.reduceBEq])
 (refine uJ rfl (fun hc=>?_) fun hc=>?_)
 ·have hi':i < links.length:=by omega
  have hgl:=c7h hi'
  have hgf:=c7h (show i < T.length by omega)
  generalize links[i]=l at *
  generalize T[i]'_=f at *
  have hap:=take_at (hRg hgl hgf)
  have htl:(R.take i).length=i:=by rw [c7s];omega
  have bf:=hb f (c7k hgf)
  obtain ⟨s1,s2,s3⟩:=hls l (c7k hgl)
  unfold shB at hap
  obtain ⟨len,low,high,spd,brk,shp⟩:=l
  cases shp with
  | nil=>simp at s1
  | cons v r=>
  simp only [c7A] at s1 s2 s3 hap
  have hv:=s3 v (by simp)
  have hr:=fun u hu=>s3 u (List.mem_cons_of_mem v hu)
  have o1:=c1c f v (bf.mono (by decide)) (hv.1.mono (by decide)) (hv.2.mono (by decide))
  have b1:=b8v bf hv.1 hv.2
  have hat:=fun u hu=>c1c f u (bf.mono (by decide)) ((hr u hu).1.mono (by decide)) ((hr u hu).2.mono (by decide))
  have hab:=fun u hu=>b8v bf (hr u hu).1 (hr u hu).2
  have hpb:=fun j=>b8x bf (r.take j) (atX f v,atY f v) b1 (fun u hu=>hr u (List.mem_of_mem_take hu))
  have hps:=fun j u=>c2G f (atX f v,atY f v) (r:=r) (i:=j) (v:=u)
  have hp0:ptI f (atX f v,atY f v) (r.take 0)=(atX f v,atY f v):=rfl
  have hpe:ptI f (atX f v,atY f v) r=ptI f (atX f v,atY f v) (r.take r.length):=by rw [c7y]
  rw [hpe] at hap
  generalize hP:(fun j=>ptI f (atX f v,atY f v) (r.take j))=P
  have hPj:∀ j,ptI f (atX f v,atY f v) (r.take j)=P j:=fun j=>by rw [<- hP]
  simp only [hPj] at hpb hps hp0 hap
  clear hP hPj hpe hls hRg b1 hv hr bf s3
  simp only [Vt.enc,Lq.enc,Sp.enc,Sp.c,Sn.c,Sn.enc,snQ,sb,List.cons_append,List.nil_append] at o1
  (repeat first|refine uA ?_|(refine uK ?_ ?_;focus first|omega|(intros;simp_all<;>omega))|simp (disch:=omega) only [go_sem,Nat.reduceBEq,Nat.reduceAdd,hgl,hgf,c7j,c7i,Lk.enc,Lq.enc,Sp.enc,Sn.enc,snQ,vts,Vt.enc,sb,c7w,c7A,List.getElem?_cons_zero,List.cons_append,List.nil_append,Nat.add_sub_cancel,c7y,c7o,Int.toNat_zero]|(refine uD o1 ?_ ?_ ?_;exact ht;exact rfl))
  refine S.loop (X:=Nat) (fun j=>⟨[(6,.sl 24 (T.map Lq.enc)),(8,.rv 1),(9,ints i),(11,.bp 3 0),(12,.bp 4 0),(27,lks links),(28,ints links.length),(29,ints i),(48,vts r),(49,ints r.length),(50,ints j)],[.gone,.row 82 12 ((R.take i).map Bq.enc),.gone,.box 108 (P j).1.enc,.box 108 (P j).2.enc]⟩) (fun j=>j<=r.length) (fun j=>r.length-j) 0 (c7n _) (by rw [hp0];simp only [Sp.enc,Sn.enc,snQ,sb];exact (by (repeat first|refine uA ?_|(refine ⟨?_,?_⟩;focus first|rfl|simp [slot])|rfl|simp|exact c7l hν0 (by simp)))) ?_
  intro j hj
  clear o1 hp0
  simp only [lks,vts,ints,Sp.enc,Sn.enc,snQ,sb]
  (repeat first|refine uA ?_|(refine uK ?_ ?_;focus first|omega|(intros;simp_all<;>omega))|simp (disch:=omega) only [go_sem,Nat.reduceBEq])
  (refine uJ rfl (fun hc=>?_) fun hc=>?_)
  ·have hj':j < r.length:=by omega
   have hgu:=c7h hj'
   generalize r[j]=u at *
   have hu:=c7k hgu
   have k1:=hat u hu
   have k2:=a3x (P j).1 (atX f u) ((hpb j).1.mono (by decide)) ((hab u hu).1.mono (by decide))
   have k3:=a3x (P j).2 (atY f u) ((hpb j).2.mono (by decide)) ((hab u hu).2.mono (by decide))
   have hs:=hps j u hgu
   clear hat hab hpb hps
   generalize U3 (P j).1 (atX f u)=y1 at *
   generalize U3 (P j).2 (atY f u)=y2 at *
   generalize atX f u=y3 at *
   generalize atY f u=y4 at *
   simp only [Vt.enc,Lq.enc,Sp.enc,Sp.c,Sn.c,Sn.enc,snQ,sb,List.cons_append,List.nil_append] at k1 k2 k3
   (repeat first|refine uA ?_|(refine uK ?_ ?_;focus first|omega|(intros;simp_all<;>omega))|simp (disch:=omega) only [go_sem,Nat.reduceBEq,Nat.reduceAdd,ww,hgu,hgf,c7j,c7i,Lq.enc,Sp.enc,Sn.enc,snQ,Vt.enc,sb,c7w,c7A,List.getElem?_cons_zero,List.cons_append,List.nil_append,c7o]|(refine uD k1 ?_ ?_ ?_;exact ht;exact rfl)|(refine uD k2 ?_ ?_ ?_;exact ht;exact rfl)|(refine uD k3 ?_ ?_ ?_;exact ht;exact rfl))
   refine S.next (j+1) (by omega) (by omega) (by rw [hs];simp only [Sp.enc];exact (by (repeat first|refine uA ?_|(refine ⟨?_,?_⟩;focus first|rfl|simp [slot])|rfl|simp|exact c7l hν0 (by simp))))
  ·have hj':j=r.length:=by omega
   subst hj'
   have k:=c6b (P r.length).1 (P r.length).2
   generalize P r.length=p at *
   simp only [Bq.enc,Sp.enc,Sn.enc,snQ,sb,List.cons_append,List.nil_append] at k
   (repeat first|refine uA ?_|(refine uK ?_ ?_;focus first|omega|(intros;simp_all<;>omega))|simp (disch:=omega) only [go_sem,Nat.reduceBEq,Nat.reduceAdd,ww,htl,c7i,c7w,c7A,List.getElem?_cons_zero,List.cons_append,List.nil_append]|(refine uD k ?_ ?_ ?_;exact ht;exact rfl))
   refine S.next (i+1) (by omega) (by omega) (by simp only [hap,c7X,c7w,c7I,Bq.enc,sb];exact (by (repeat first|refine uA ?_|(refine ⟨?_,?_⟩;focus first|rfl|simp [slot])|rfl|simp|exact c7l hν0 (by simp))))
 ·have hi':i=links.length:=by omega
  subst hi'
  rw [c7C (by omega)]
  (repeat first|refine uA ?_|(refine uK ?_ ?_;focus first|omega|(intros;simp_all<;>omega))|simp (disch:=omega) only [go_sem,Nat.reduceBEq])
  (refine S.done ?_;simp only [p9,go_sem,Nat.reduceBEq];(repeat (refine ⟨?_,?_⟩;focus first|trivial|omega|simp));exact j3.K9 (Imp.tup (by (repeat' (first|exact j4.nil|exact Imp.refl rfl|exact Imp.frz rfl rfl rfl|exact Imp.F8|refine Imp.agg ?_|refine j4.cons ?_ ?_)))) (by (repeat first|refine uA ?_|(refine ⟨?_,?_⟩;focus first|rfl|simp [slot])|rfl|simp)) (c7l hν0 (by simp)))
def Bb (k:Nat) (b:Bq):Prop:=Rb k (Nm.ofQ b.lx)/\Rb k (Nm.ofQ b.ly)/\Rb k (Nm.ofQ b.hx)/\Rb k (Nm.ofQ b.hy)
def Z9 (b:Bq):List Vt:=if 0<=Nm.q9 b.lx b.hx \/ 0<=Nm.q9 b.ly b.hy then [] else [⟨Nm.ofQ b.lx,Nm.ofQ b.ly⟩,⟨Nm.ofQ b.hx,Nm.ofQ b.ly⟩,⟨Nm.ofQ b.hx,Nm.ofQ b.hy⟩,⟨Nm.ofQ b.lx,Nm.ofQ b.hy⟩]
theorem c1S (b:Bq) (hb:Bb 4294967296 b):FZ 67 [.agg b.enc] (vts (Z9 b)):=by
 refine kW Tryz.func67 (by cbv) (by rfl) fun w O hw=>?_
 obtain ⟨lx,ly,hx,hy⟩:=b
 obtain ⟨b1,b2,b3,b4⟩:=hb
 simp only at b1 b2 b3 b4
 have o1:=Q9 (Nm.ofQ lx) (Nm.ofQ hx) (b1.mono (by decide)) (b3.mono (by decide))
 have o2:=Q9 (Nm.ofQ ly) (Nm.ofQ hy) (b2.mono (by decide)) (b4.mono (by decide))
 rw [Nm.q8,Nm.q8] at o1 o2
 unfold Z9
 simp only
 generalize Nm.q9 lx hx=c1 at *
 generalize Nm.q9 ly hy=c2 at *
 simp only [j5,TT,II,OA,OC,MM,LL,FF,LG,FG]
 simp only [Bq.enc,rc,sb,ints] at o1 o2 ⊢
 (repeat first|refine uA ?_|(apply uK;focus first|omega|(intros;simp_all<;>omega))|simp (disch:=omega) only [go_sem,Nat.reduceBEq,Nat.reduceAdd]|(apply uD o1;exact tz hw;rfl)|(apply uD o2;exact tz hw;rfl))
 refine S.cond rfl (fun hc=>?_) (fun hc=>?_)
 ·rw [if_pos (by first|simpa using hc|(simp at hc;omega)|(simp only [c7Y,c7v] at hc;omega)|(revert hc;by_cases 0<=c1<;>by_cases 0<=c2<;>simp_all))]
  (repeat first|refine uA ?_|(apply uK;focus omega)|simp (disch:=omega) only [go_sem])
  exact S.done (j3.out rfl Imp.F8 rfl)
 ·rw [if_neg (by first|simpa using hc|(simp at hc;omega)|(simp only [c7Y,c7v] at hc;omega)|(revert hc;by_cases 0<=c1<;>by_cases 0<=c2<;>simp_all))]
  (repeat first|refine uA ?_|(apply uK;focus first|omega|(intros;simp_all<;>omega))|simp (disch:=omega) only [go_sem,Nat.reduceBEq,Nat.reduceAdd])
  simp only [vts,c7w,c7I,Vt.enc,sb]
  exact S.done (j3.out rfl (Imp.frz rfl rfl rfl) rfl)
def a4V:H6:=⟨65,[.tmp 6],.seq (.reg [OA 3 (.box 69 (TT 0)),OA 6 (.mv (.const (.bool false)))]) (.seq (.seq (.reg [MM 10 2,OA 11 (.len false (TT 10)),FF 12 11 3,VV 13 12,OA 14 (.len false (TT 13)),OA 15 (.bin .neq (TT 11) (TT 14))])
 (.cond (TT 15) (.seq (.reg [OA 6 (.mv (.const (.bool false)))]) .ret) .skip)) (.seq (.seq (.reg [FF 16 11 3,VV 17 16,OA 18 (.len false (TT 17)),OA 19 (.mv (II 0))]) (.block 0 (.loop (.seq (.reg [OA 20 (.bin .lss (TT 19) (TT
 18))]) (.seq (.cond (TT 20) .skip (.exit 0)) (.seq (.block 1 (.seq (.reg [MM 21 19,OA 22 (.l7 16 (TT 17) (TT 19)),LL 23 16 22,OA 8 (.alloc 74 [.bool false,.string ⟨#[]⟩,.string ⟨#[]⟩,.bool false,.string ⟨#[]⟩,.string
 ⟨#[]⟩,.bool false,.string ⟨#[]⟩,.string ⟨#[]⟩,.bool false,.string ⟨#[]⟩,.string ⟨#[]⟩,.bool false,.string ⟨#[]⟩,.string ⟨#[]⟩,.slice none 0 0]),MM 7 21,OB (.store 16 (TT 8) (TT 23))]) (.seq (.y9 [.q,.q,.q,.q,
 .q,.q,.q,.q,.q,.a,.e (some 9) true] [MM 24 1,MM 25 7,OA 26 (.l7 3 (TT 24) (TT 25)),LL 27 3 26,MM 28 2,MM 29 7,OA 30 (.l7 3 (TT 28) (TT 29)),LL 31 3 30,OA 32 (.call 38 [TT 27,TT 31]),OA 9 (.alloc 29 [.bool
 false,.string ⟨#[]⟩,.string ⟨#[]⟩]),OB (.store 3 (TT 9) (TT 32))]) (.seq (.y9 [.q,.q,.q,.q,.q,.q,.q,.q,.q,.q,.q,.q,.q,.q,.q,.q,.q,.q,.q,.q,.q,.q,.q,.q,.q,.q,.q,.q,.q,.q,.q] [MM 33 2,MM 34 7,
 OA 35 (.l7 3 (TT 33) (TT 34)),LL 36 3 35,OA 37 (.call 95 [TT 36]),OA 38 (.un .not (TT 37)),MM 39 38,MG 40 2 39 false,MG 41 7 39 false,OC 42 (.l7 3 (TT 40) (TT 41)) 39 false,LG 43 3 42 39 false,OC 44 (.call 49 [TT
 43]) 39 false,FG 45 9 8 39 false,LG 46 3 45 39 false,OC 47 (.call 39 [TT 44,TT 46]) 39 false,OC 48 (.bin .gtr (TT 47) (II 0)) 39 false,OA 49 (.pick (TT 39) (.const (.bool true)) (TT 48)),MM 50 49,LG 51 3 9 50 false,FG
 52 3 8 50 false,LG 53 3 52 50 false,OC 54 (.call 39 [TT 51,TT 53]) 50 false,OC 55 (.bin .lss (TT 54) (II 0)) 50 false,OA 56 (.pick (TT 50) (.const (.bool true)) (TT 55)),MM 57 56,LG 58 3 9 57 false,FG 59 6 8 57 false,LG
 60 3 59 57 false,OC 61 (.call 39 [TT 58,TT 60]) 57 false,OC 62 (.bin .gtr (TT 61) (II 0)) 57 false,OA 63 (.pick (TT 57) (.const (.bool true)) (TT 62))]) (.cond (TT 63) (.seq (.reg [OA 6 (.mv (.const (.bool false)))]) .ret)
 .skip))))) (.reg [OA 64 (.bin .add (TT 19) (II 1)),MM 19 64]))))))) (.seq (.reg [OA 6 (.mv (.const (.bool true)))]) .ret)))⟩
theorem a9Z:F3 eff Tryz.prog Tryz.f65=some a4V:=by kernel_rfl
theorem a9u:Tryz.prog.funcs[65]?=some Tryz.f65:=Tryz.func65
def b2o (a:Nm.Rt):Nm.Rt:=⟨false,Nm.enc (Nm.d9 a).num.natAbs,Nm.enc (Nm.d9 a).den⟩
theorem c4J {k:Nat} {a:Nm.Rt} (h:Rb k a) (hk:1<=k):Rb k (b2o a):=h.fit hk
def c2C (z:Lk × Nm.Rt × Nm.Rt):Bool:=decide z.2.2.H9 && !decide (0 < Nm.q9 (Nm.d9 (b2o z.2.2)) (Nm.d9 z.1.speed)) && !decide (Nm.q9 (Nm.d9 z.2.1+Nm.d9 z.2.2) (Nm.d9 z.1.low) < 0) && !decide (0 < Nm.q9 (Nm.d9 z.2.1+Nm.d9 z.2.2) (Nm.d9 z.1.high))
def a1w (Z:List (Lk × Nm.Rt × Nm.Rt)):Bool:=Z.all c2C
theorem c0U (a:Am) (q u:List Nm.Rt) (hl:Ab 1073741824 a) (hq:q.length=a.links.length) (hu:u.length=a.links.length) (hqb:∀ r ∈ q,Rb 1073741824 r) (hub:∀ r ∈ u,Rb 1073741824 r):FZ 65 [a.c,rts q,rts u] (.v (.bool (a1w (a.links.zip (q.zip u))))):=by
  refine kW a9u a9Z (by rfl) fun w O hw=>?_
  have hn:=hl.2.2.1
  have hlk:=hl.2.2.2
  obtain ⟨name,⟨bx,by',half,tu⟩,links⟩:=a
  simp only at hq hu hn hlk ⊢
  have hz0:a1w (links.zip (q.zip u))=a1w ((links.zip (q.zip u)).drop 0):=rfl
  generalize hB:a1w (links.zip (q.zip u))=B at *
  simp only [a4V,j5,TT,II,OA,OB,OC,MM,LL,VV,FF,MG,LG,FG]
  simp only [Am.c,Am.enc,lks,rts,sb]
  (repeat first|refine uA ?_|(refine uK ?_ ?_;focus first|omega|(intros;simp_all<;>omega))|simp (disch:=omega) only [go_sem,Nat.reduceBEq,Nat.reduceAdd,c7i])
  refine S.cond rfl (fun hc=>by simp at hc;omega) (fun hc=>?_)
  (repeat first|refine uA ?_|(refine uK ?_ ?_;focus first|omega|(intros;simp_all<;>omega))|simp (disch:=omega) only [go_sem,Nat.reduceBEq,Nat.reduceAdd,c7i])
  refine S.loop (X:=Nat) (fun i=>⟨[(1,rts q),(2,rts u),(17,lks links),(18,ints links.length),(19,ints i)],[]⟩) (fun i=>i<=links.length/\B=a1w ((links.zip (q.zip u)).drop i)) (fun i=>links.length-i) 0 ⟨c7n _,hz0⟩ (by (repeat first|refine uA ?_|(refine ⟨?_,?_⟩;focus first|rfl|simp [slot])|rfl|simp)) ?_
  rintro i ⟨hi,hb⟩
  simp only [lks,rts,ints]
  (repeat first|refine uA ?_|(refine uK ?_ ?_;focus first|omega|(intros;simp_all<;>omega))|simp (disch:=omega) only [go_sem,Nat.reduceBEq])
  (refine uJ rfl (fun hc=>?_) fun hc=>?_)
  · have hi':i < links.length:=by omega
    have hgl:=c7h hi'
    have hgq:=c7h (show i < q.length by omega)
    have hgu:=c7h (show i < u.length by omega)
    generalize links[i]=l at *
    generalize q[i]'_=x at *
    generalize u[i]'_=y at *
    have rl:=hlk l (c7k hgl)
    have rx:=hqb x (c7k hgq)
    have ry:=hub y (c7k hgu)
    have o1:=a7T x y (rx.mono (by decide)) (ry.mono (by decide))
    have r1:=U4 (rx.fit (by decide)) (ry.fit (by decide))
    have o2:=a1v y (ry.mono (by decide))
    have o3:=c0K y (ry.mono (by decide))
    have o4:=Q9 (b2o y) l.speed ((c4J ry (by decide)).mono (by decide)) (rl.2.2.2.1.mono (by decide))
    have o5:=Q9 (Nm.ofQ (Nm.d9 x+Nm.d9 y)) l.low (r1.mono (by decide)) (rl.2.1.mono (by decide))
    have o6:=Q9 (Nm.ofQ (Nm.d9 x+Nm.d9 y)) l.high (r1.mono (by decide)) (rl.2.2.1.mono (by decide))
    rw [Nm.q8] at o5 o6
    rw [show (⟨false,Nm.enc (Nm.d9 y).num.natAbs,Nm.enc (Nm.d9 y).den⟩:Nm.Rt)=b2o y from rfl] at o3
    rw [drop_at (O1 hgl (O1 hgq hgu))] at hb
    unfold a1w at hb
    rw [List.all_cons] at hb
    generalize hko:c2C (l,x,y)=ok at hb
    unfold c2C at hko
    simp only at hko
    have hqi:(i:Int) < q.length:=by omega
    have hui:(i:Int) < u.length:=by omega
    clear rl rx ry r1 hlk hqb hub hB hz0
    generalize Nm.q9 (Nm.d9 (b2o y)) (Nm.d9 l.speed)=c1 at *
    generalize Nm.q9 (Nm.d9 x+Nm.d9 y) (Nm.d9 l.low)=c2 at *
    generalize Nm.q9 (Nm.d9 x+Nm.d9 y) (Nm.d9 l.high)=c3 at *
    generalize Nm.d9 x+Nm.d9 y=s at *
    generalize decide y.H9=g at *
    generalize b2o y=ya at *
    simp only [rq,rc,sb,ints] at o1 o2 o3 o4 o5 o6
    (repeat first|refine uA ?_|(refine uK ?_ ?_;focus first|omega|(intros;simp_all<;>omega))|simp (disch:=omega) only [go_sem,Nat.reduceBEq,Nat.reduceAdd,hgl,hgq,hgu,c7j,c7i,Lk.enc,rcs,vts,sb,c7o]|(refine uD o1 ?_ ?_ ?_;exact tz hw;exact rfl)|(refine uD o2 ?_ ?_ ?_;exact tz hw;exact rfl)|(refine uD o3 ?_ ?_ ?_;exact tz hw;exact rfl)|(refine uD o4 ?_ ?_ ?_;exact tz hw;exact rfl)|(refine uD o5 ?_ ?_ ?_;exact tz hw;exact rfl)|(refine uD o6 ?_ ?_ ?_;exact tz hw;exact rfl))
    refine S.cond rfl (fun hc=>?_) (fun hc=>?_)
    · have hB0:B=false:=by
        rw [hb,<- hko]
        revert hc
        cases g<;>by_cases h1:0 < c1<;>by_cases h2:c2 < 0<;>by_cases h3:0 < c3<;>simp [h1,h2,h3]
      rw [hB0]
      (repeat first|refine uA ?_|(refine uK ?_ ?_;focus first|omega|(intros;simp_all<;>omega))|simp (disch:=omega) only [go_sem])
      exact S.done (j3.out rfl (Imp.refl rfl) rfl)
    · have hB1:B=a1w ((links.zip (q.zip u)).drop (i+1)):=by
        rw [hb,<- hko]
        revert hc
        unfold a1w
        cases g<;>by_cases h1:0 < c1<;>by_cases h2:c2 < 0<;>by_cases h3:0 < c3<;>simp [h1,h2,h3]
      (repeat first|refine uA ?_|(refine uK ?_ ?_;focus first|omega|(intros;simp_all<;>omega))|simp (disch:=omega) only [go_sem,Nat.reduceBEq,ww])
      refine S.next (x:=i) (i+1) ⟨by omega,hB1⟩ (by omega) (by (repeat first|refine uA ?_|(refine ⟨?_,?_⟩;focus first|rfl|simp [slot])|rfl|simp))
  · have hi':i=links.length:=by omega
    subst hi'
    rw [List.drop_eq_nil_of_le (by rw [List.length_zip];omega)] at hb
    rw [hb]
    (repeat first|refine uA ?_|(refine uK ?_ ?_;focus first|omega|(intros;simp_all<;>omega))|simp (disch:=omega) only [go_sem])
    exact S.done (j3.out rfl (Imp.refl rfl) rfl)
end Go.Proofs.YtgpegbfnlkidjaaGreatDoor
