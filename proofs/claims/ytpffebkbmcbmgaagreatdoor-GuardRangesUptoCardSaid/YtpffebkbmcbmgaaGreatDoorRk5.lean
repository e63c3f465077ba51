/- A part of the proof: lemmas only, with the conditions that each names. -/
import Derived.Test.YtpffebkbmcbmgaaGreatDoorProg
import Derived.KernelRfl
import Derived.Shelf.Strings.Trim
import Derived.Shelf.Small.Utf8
import Derived.Shelf.Small.Bits
import Derived.Shelf.Small.Strs
import Derived.Shelf.Small.Wraps
import Derived.Shelf.Strconv.Itoa0
import Derived.Shelf.Strings.Search1
import Derived.Shelf.Unicode.Decode
import Derived.Shelf.Strings.Runes
import Derived.Shelf.Strings.AsciiSet
import Derived.Shelf.Unicode.DecodeSlow
import Derived.Shelf.Unicode.DecodeAny
import Derived.Shelf.Unicode.DecodeLast
import Derived.Shelf.Slices.Turned
import Derived.Ground.Names2Prog
import Derived.Shelf.Slices.SearchI
import Derived.Shelf.Spec.TrailingZeros
import Derived.Shelf.SlSortCmp.NoneTotal
import Derived.Ground.SlsfProg
import Derived.Test.YtpffebkbmcbmgaaGreatDoorRk4
set_option linter.all false
namespace Go.Proofs.YtpffebkbmcbmgaaGreatDoor
open Go Go.RowKit Eng
set_option maxRecDepth 10000
set_option maxHeartbeats 8000000
def rsW (w:Wk) (n:Nms):List Res:=[.box 30 w.enc,.map true (nmE n),.box 206 [.mp 1]]
theorem c0v {E:Ctx} (hP:E.P=Tryz.prog) (ht0:Tz E) (w:Wk) (n:Nms) (a:Am) (hb:Ab 1073741824 a) :
  l8 E (rsW w n) 145 [a.c,.bp 2 0] (ints (a0y n a).1) (rsW w (a0y n a).2) []:=by
 obtain ⟨P,eff',N,w0,own0,av0,nu0,pk0⟩:=E
 simp only at hP
 subst hP
 refine l8.ofT (eff:=eff) ht0 Tryz.func145 (by cbv) (by exact c6Y rfl) fun w' own av ν hν ht=>?_
 have hν0:ν.length<=3:=by rw [hν];exact c6N _
 have b0:=hb.1
 have h2:=a4C a hb
 have h1:=fun (E:Ctx) (hP:E.P=Tryz.prog)=>b2k hP n a.name (by omega)
 unfold a0y
 generalize L6 n a.name=r at *
 obtain ⟨e1,m⟩:=r
 generalize F4 a=e2 at *
 obtain ⟨name,⟨x,y,half,t⟩,links⟩:=a
 obtain ⟨arms,walls,parts,slots,gates,walk⟩:=w
 simp only [j6]
 simp only [Am.c,Am.enc,lks,sb,ints,rsW,Wk.enc,ams,wls,pts,sls,gts] at *
 (repeat first|refine uA ?_|(refine uK ?_ ?_;focus first|omega|(intros;simp_all<;>omega))|simp (disch:=omega) only [go_sem,Nat.reduceBEq,Nat.reduceAdd,ww]|(refine uD h2 ?_ ?_ ?_;exact ht;exact rfl))
 refine S.cond rfl (fun hc=>?_) (fun hc=>?_)
 ·rw [if_pos (by simpa using hc)]
  (repeat first|refine uA ?_|(refine uK ?_ ?_;focus first|omega|(intros;simp_all<;>omega))|simp (disch:=omega) only [go_sem,Nat.reduceBEq,Nat.reduceAdd,ww])
  (refine S.done ?_;simp only [l9,p9,go_sem,Nat.reduceBEq,Nat.reduceAdd,Nat.reduceLeDiff,Int.reduceToNat,Int.reducePow];(repeat (refine ⟨?_,?_⟩;focus first|trivial|omega|simp));exact j4.M9 (Imp.refl rfl) (by (repeat first|refine uA ?_|(refine ⟨?_,?_⟩;focus first|rfl|simp [slot])|rfl|simp)) (c6L hν0 (by simp)))
 rw [if_neg (by simpa using hc)]
 (repeat first|refine uA ?_|(refine uK ?_ ?_;focus first|omega|(intros;simp_all<;>omega))|simp (disch:=omega) only [go_sem,Nat.reduceBEq,Nat.reduceAdd,ww]|refine p8.t (l8.lift (k:=1) rfl (h1 _ rfl) rfl rfl rfl) ?_)
 (refine S.done ?_;simp only [l9,p9,go_sem,Nat.reduceBEq,Nat.reduceAdd,Nat.reduceLeDiff,Int.reduceToNat,Int.reducePow];(repeat (refine ⟨?_,?_⟩;focus first|trivial|omega|simp));exact j4.M9 (Imp.refl rfl) (by (repeat first|refine uA ?_|(refine ⟨?_,?_⟩;focus first|rfl|simp [slot])|rfl|simp)) (c6L hν0 (by simp)))
theorem b7X {E:Ctx} (hP:E.P=Tryz.prog) (ht0:Tz E) (w:Wk) (n:Nms) (l:List Am) (hn:l.length<=1073741824) (hb:∀ x ∈ l,Ab 1073741824 x) :
  l8 E (rsW w n) 147 [ams l,.clo 145 [.bp 2 0]] (ints (F3 a0y n l).1) (rsW w (F3 a0y n l).2) []:=by
 obtain ⟨P,eff',N,w0,own0,av0,nu0,pk0⟩:=E
 simp only at hP
 subst hP
 refine l8.ofT (eff:=eff) ht0 Tryz.func147 (by cbv) (by exact c6Y rfl) fun w' own av ν hν ht=>?_
 have hν0:ν.length<=3:=by rw [hν];exact c6N _
 have hcal:callable Tryz.prog 145=true:=by kernel_rfl
 simp only [j6,ams,ints]
 simp only [rsW,Wk.enc,ams,wls,pts,sls,gts]
 (repeat first|refine uA ?_|(refine uK ?_ ?_;focus first|omega|(intros;simp_all<;>omega))|simp (disch:=omega) only [go_sem,Nat.reduceBEq,Nat.reduceAdd,ww,c6F])
 refine S.loop (X:=Nat × Nms) (fun x=>⟨[(1,.clo 145 [.bp 2 0]),(8,ams l),(9,ints l.length),(10,ints x.1)],rsW w x.2⟩) (fun x=>x.1<=l.length/\F3 a0y n l=F3 a0y x.2 (l.drop x.1)) (fun x=>l.length-x.1) (0,n) ⟨c6K _,rfl⟩ (by simp only [rsW,Wk.enc,ams,wls,pts,sls,gts];exact (by (repeat first|refine uA ?_|(refine ⟨?_,?_⟩;focus first|rfl|simp [slot])|rfl|simp|exact c6L hν0 (by simp)))) ?_
 rintro ⟨i,m⟩ ⟨hi,hg⟩
 simp only [ams,ints,rsW,Wk.enc,wls,pts,sls,gts] at hi hg ⊢
 (repeat first|refine uA ?_|(refine uK ?_ ?_;focus first|omega|(intros;simp_all<;>omega))|simp (disch:=omega) only [go_sem,Nat.reduceBEq,Nat.reduceAdd,ww])
 (refine uJ rfl (fun hc=>?_) fun hc=>?_)
 ·have hi':i < l.length:=by omega
  have hgi:=c6E hi'
  generalize l[i]=x at hgi
  have hst:=Z0 (f:=a0y) (s:=m) hgi
  have hnx:=Z5 (f:=a0y) (s:=m) hgi
  have hs:=fun (E:Ctx) (hP:E.P=Tryz.prog) (ht:Tz E)=>c0v hP ht w m x (hb x (c6H hgi))
  generalize a0y m x=r at *
  obtain ⟨e,m'⟩:=r
  simp only [Am.c,Am.enc,lks,sb,ints,rsW,Wk.enc,ams,wls,pts,sls,gts] at hs hst hnx
  (repeat first|refine uA ?_|(refine uK ?_ ?_;focus first|omega|(intros;simp_all<;>omega))|simp (disch:=omega) only [go_sem,Nat.reduceBEq,Nat.reduceAdd,ww,hgi,c6G,c6F,Am.enc,lks,sb,hcal]|refine p8.t (l8.ext _ (hs _ rfl ht) rfl rfl rfl) ?_)
  refine S.cond rfl (fun hc2=>?_) (fun hc2=>?_)
  ·rw [hg,hst (by simpa using hc2)]
   (repeat first|refine uA ?_|(refine uK ?_ ?_;focus first|omega|(intros;simp_all<;>omega))|simp (disch:=omega) only [go_sem,Nat.reduceBEq,Nat.reduceAdd,ww])
   (refine S.done ?_;simp only [l9,p9,go_sem,Nat.reduceBEq,Nat.reduceAdd,Nat.reduceLeDiff,Int.reduceToNat,Int.reducePow];(repeat (refine ⟨?_,?_⟩;focus first|trivial|omega|simp));exact j4.M9 (Imp.refl rfl) (by (repeat first|refine uA ?_|(refine ⟨?_,?_⟩;focus first|rfl|simp [slot])|rfl|simp)) (c6L hν0 (by simp)))
  ·have hc3:e=0:=by simpa using hc2
   (repeat first|refine uA ?_|(refine uK ?_ ?_;focus first|omega|(intros;simp_all<;>omega))|simp (disch:=omega) only [go_sem,Nat.reduceBEq,Nat.reduceAdd,ww])
   refine S.next (x:=(i,m)) (i+1,m') ⟨by simp only;omega,by simp only;rw [hg,hnx hc3]⟩ (by simp only;omega) (by (repeat first|refine uA ?_|(refine ⟨?_,?_⟩;focus first|rfl|simp [slot])|rfl|simp|exact c6L hν0 (by simp)))
 ·rw [hg,a0v (by omega)]
  (repeat first|refine uA ?_|(refine uK ?_ ?_;focus first|omega|(intros;simp_all<;>omega))|simp (disch:=omega) only [go_sem,Nat.reduceBEq,Nat.reduceAdd,ww])
  (refine S.done ?_;simp only [l9,p9,go_sem,Nat.reduceBEq,Nat.reduceAdd,Nat.reduceLeDiff,Int.reduceToNat,Int.reducePow];(repeat (refine ⟨?_,?_⟩;focus first|trivial|omega|simp));exact j4.M9 (Imp.refl rfl) (by (repeat first|refine uA ?_|(refine ⟨?_,?_⟩;focus first|rfl|simp [slot])|rfl|simp)) (c6L hν0 (by simp)))
theorem c0T (w:Wk) (hb:Wb 1073741824 w):FZ 85 [w.c] (ints (a0a w)):=by
 refine kW b0S b0w (by rfl) fun w' O hw=>?_
 have ht:Tz ⟨Tryz.prog,eff,a3s.ntmps,w',fun _=>False,O,[],[]⟩:=tz hw
 obtain ⟨⟨n1,b1⟩,⟨n2,b2⟩,⟨n3,b3⟩,⟨n4,b4⟩,⟨n5,b5⟩,b6⟩:=hb
 have h1:=fun (E:Ctx) (hP:E.P=Tryz.prog) (ht:Tz E)=>b7X hP ht w [] w.arms n1 b1
 have h2:=b6O w.walls n2 b2
 unfold a0a a6l
 generalize F3 a0y [] w.arms=r1 at *
 obtain ⟨e1,m1⟩:=r1
 have h3:=fun (E:Ctx) (hP:E.P=Tryz.prog) (ht:Tz E)=>b6L hP ht m1 w.parts n3 b3
 simp only at h3 ⊢
 generalize F3 a0o m1 w.parts=r3 at *
 obtain ⟨e3,m3⟩:=r3
 have h4:=fun (E:Ctx) (hP:E.P=Tryz.prog) (ht:Tz E)=>b6K hP ht m3 w.slots n4 b4
 simp only at h4 ⊢
 generalize F3 a0w m3 w.slots=r4 at *
 obtain ⟨e4,m4⟩:=r4
 have h5:=fun (E:Ctx) (hP:E.P=Tryz.prog) (ht:Tz E)=>b7b hP ht m4 w.gates n5 b5
 simp only at h5 ⊢
 generalize F3 a0n m4 w.gates=r5 at *
 obtain ⟨e5,m5⟩:=r5
 generalize G5 N9 w.walls=e2 at *
 simp only
 have h6:=a0q w.walk (b6.mono (by decide))
 have h7:=a2W w.walk (b6.mono (by decide))
 have h8:=O9 w.walk (b6.mono (by decide))
 unfold b2j
 generalize decide w.walk.F5=q1 at *
 generalize l6 w.walk=q2 at *
 generalize z8 (Nm.d9 w.walk)=s8 at *
 obtain ⟨arms,walls,parts,slots,gates,walk⟩:=w
 simp only [a3s,j6,TT,II,OA,OB,OC,MM,LL,VV,FF,MG,LG,VG,FG] at ht ⊢
 simp only [Wk.c,Wk.enc,rsW,ams,wls,pts,sls,gts,rc,sb,ints] at *
 (repeat first|refine uA ?_|(refine uK ?_ ?_;focus first|omega|(intros;simp_all<;>omega))|simp (disch:=omega) only [go_sem,Nat.reduceBEq,Nat.reduceAdd,ww,c6F])
 refine S.cond rfl (fun hc=>?_) (fun hc=>?_)
 ·rw [if_pos (by simp only [c7v,c6S] at hc;omega)]
  (repeat first|refine uA ?_|(refine uK ?_ ?_;focus first|omega|(intros;simp_all<;>omega))|simp (disch:=omega) only [go_sem,Nat.reduceBEq,Nat.reduceAdd,ww])
  exact S.done (j4.out rfl (Imp.refl rfl) rfl)
 rw [if_neg (by simp only [c7n,c7c] at hc;omega)]
 (repeat first|refine uA ?_|(refine uK ?_ ?_;focus first|omega|(intros;simp_all<;>omega))|simp (disch:=omega) only [go_sem,Nat.reduceBEq,Nat.reduceAdd,ww,c6F])
 refine S.cond rfl (fun hc=>?_) (fun hc=>?_)
 ·rw [if_pos (by simp only [c6S] at hc;omega)]
  (repeat first|refine uA ?_|(refine uK ?_ ?_;focus first|omega|(intros;simp_all<;>omega))|simp (disch:=omega) only [go_sem,Nat.reduceBEq,Nat.reduceAdd,ww])
  exact S.done (j4.out rfl (Imp.refl rfl) rfl)
 rw [if_neg (by simp only [c7c] at hc;omega)]
 (repeat first|refine uI ?_|(refine uK ?_ ?_;focus first|omega|(intros;simp_all<;>omega))|simp (disch:=omega) only [go_sem,Nat.reduceBEq,Nat.reduceAdd,ww])
 refine S.D6 [.box 30 [.sl 12 (arms.map Am.enc),.sl 1 (walls.map fun s=>[vts s]),.sl 12 (parts.map Pt.enc),.sl 14 (slots.map Sl.enc),.sl 13 (gates.map Gt.enc),.v (.bool walk.neg),.v (.string (bs walk.num)),.v (.string (bs walk.den))],.gone,.box 206 [.mp 1]] (by simp [Eng.F6,Eng.H6]) ?_
 (repeat first|refine uA ?_|(refine uK ?_ ?_;focus first|omega|(intros;simp_all<;>omega))|simp (disch:=omega) only [go_sem,Nat.reduceBEq,Nat.reduceAdd,ww,c6F,F6]|refine p8.t (h1 _ rfl ht) ?_|refine p8.t (l8.lift (k:=1) rfl (h3 _ rfl ht) rfl rfl rfl) ?_|refine p8.t (l8.lift (k:=1) rfl (h4 _ rfl ht) rfl rfl rfl) ?_|refine p8.t (l8.lift (k:=1) rfl (h5 _ rfl ht) rfl rfl rfl) ?_|(refine uD h2 ?_ ?_ ?_;exact tz hw;exact rfl))
 generalize hL:[e1,e2,e3,e4,e5]=L
 have hl5:L.length=5:=by rw [<- hL];rfl
 have e63:[[C.v (Value.int IntKind.i64 e1)],[C.v (Value.int IntKind.i64 e2)],[C.v (Value.int IntKind.i64 e3)],[C.v (Value.int IntKind.i64 e4)],[C.v (Value.int IntKind.i64 e5)]]=L.map fun e=>[C.v (Value.int IntKind.i64 e)]:=by rw [<- hL];rfl
 simp only [e63]
 refine S.loop (X:=Nat) (fun i=>⟨[(1,.bp 0 0),(63,.sl 1 (L.map fun e=>[.v (.int .i64 e)])),(64,ints 5),(65,ints i)],[.box 30 [.sl 12 (arms.map Am.enc),.sl 1 (walls.map fun s=>[vts s]),.sl 12 (parts.map Pt.enc),.sl 14 (slots.map Sl.enc),.sl 13 (gates.map Gt.enc),.v (.bool walk.neg),.v (.string (bs walk.num)),.v (.string (bs walk.den))]]⟩) (fun i=>i<=5/\G5 id L=G5 id (L.drop i)) (fun i=>5-i) 0 ⟨c6K _,rfl⟩ (by (repeat first|refine uA ?_|(refine ⟨?_,?_⟩;focus first|rfl|simp [slot])|rfl|simp)) ?_
 rintro i ⟨hi,hg⟩
 simp only [ints] at hi hg ⊢
 (repeat first|refine uA ?_|(refine uK ?_ ?_;focus first|omega|(intros;simp_all<;>omega))|simp (disch:=omega) only [go_sem,Nat.reduceBEq,Nat.reduceAdd,ww])
 (refine uJ rfl (fun hc=>?_) fun hc=>?_)
 ·have hi':i < L.length:=by omega
  have hgi:=c6E hi'
  generalize L[i]=x at hgi
  have hst:=a1e (f:=id) hgi
  have hnx:=a1h (f:=id) hgi
  simp only [id] at hst hnx
  (repeat first|refine uA ?_|(refine uK ?_ ?_;focus first|omega|(intros;simp_all<;>omega))|simp (disch:=omega) only [go_sem,Nat.reduceBEq,Nat.reduceAdd,ww,hgi,c6G,c6F,hl5])
  refine S.cond rfl (fun hc2=>?_) (fun hc2=>?_)
  ·have h0:x ≠ 0:=by simpa using hc2
   rw [hg,hst h0,if_pos h0]
   (repeat first|refine uA ?_|(refine uK ?_ ?_;focus first|omega|(intros;simp_all<;>omega))|simp (disch:=omega) only [go_sem,Nat.reduceBEq,Nat.reduceAdd,ww])
   exact S.done (j4.out rfl (Imp.refl rfl) rfl)
  ·have hc3:x=0:=by simpa using hc2
   (repeat first|refine uA ?_|(refine uK ?_ ?_;focus first|omega|(intros;simp_all<;>omega))|simp (disch:=omega) only [go_sem,Nat.reduceBEq,Nat.reduceAdd,ww])
   refine S.next (i+1) ⟨by omega,by rw [hg];exact hnx hc3⟩ (by omega) (by (repeat first|refine uA ?_|(refine ⟨?_,?_⟩;focus first|rfl|simp [slot])|rfl|simp))
 ·rw [hg,a1O (by omega),if_neg (by decide)]
  (repeat first|refine uA ?_|(refine uK ?_ ?_;focus first|omega|(intros;simp_all<;>omega))|simp (disch:=omega) only [go_sem,Nat.reduceBEq,Nat.reduceAdd,ww]|(refine uD h6 ?_ ?_ ?_;exact tz hw;exact rfl)|(refine uD h7 ?_ ?_ ?_;exact tz hw;exact rfl)|(refine uD h8 ?_ ?_ ?_;exact tz hw;exact rfl))
  refine S.cond rfl (fun hc=>?_) (fun hc=>?_)
  ·rw [if_neg (by simp only [c7v,Bool.not_eq_true',c6S] at hc;simp only [c6Q,c6S];rintro ⟨⟨g7,g8⟩,g9⟩;rcases hc with (hc|hc)|hc<;>first|(rw [hc] at g7;cases g7;done)|(rw [hc] at g8;cases g8;done)|omega)]
   (repeat first|refine uA ?_|(refine uK ?_ ?_;focus first|omega|(intros;simp_all<;>omega))|simp (disch:=omega) only [go_sem,Nat.reduceBEq,Nat.reduceAdd,ww])
   exact S.done (j4.out rfl (Imp.refl rfl) rfl)
  ·rw [if_pos (by simp only [c7n,Bool.not_eq_false',c7c] at hc;simp only [c6Q,c6S];obtain ⟨⟨g7,g8⟩,g9⟩:=hc;exact ⟨⟨g7,g8⟩,by omega⟩)]
   (repeat first|refine uA ?_|(refine uK ?_ ?_;focus first|omega|(intros;simp_all<;>omega))|simp (disch:=omega) only [go_sem,Nat.reduceBEq,Nat.reduceAdd,ww])
   exact S.done (j4.out rfl (Imp.refl rfl) rfl)
end Go.Proofs.YtpffebkbmcbmgaaGreatDoor
namespace Go.Proofs.YtpffebkbmcbmgaaGreatDoor.Eng
open Go Go.RowKit
mutual
def C.sh (n:Nat):C->C
 | .rv k=>.rv (n+k)
 | .agg cs=>.agg (C.shL n cs)
 | .tup cs=>.tup (C.shL n cs)
 | c=>c
def C.shL (n:Nat):List C->List C
 | []=>[]
 | c::cs=>C.sh n c::C.shL n cs
end
mutual
def C.okS:C->Bool
 | .rv _=>true
 | .agg cs=>C.b3d cs
 | .tup cs=>C.b3d cs
 | c=>c.cl
def C.b3d:List C->Bool
 | []=>true
 | c::cs=>C.okS c && C.b3d cs
end
section
variable {ν ν':List Value} {w:World} {O O':Nat->Prop}
mutual
theorem b7z (hO:∀ b,O' b->O b):∀ {c:C} {y:Value},c.okS=true->Den ν' w O c y->Den (ν++ν') w O' (C.sh ν.length c) y
 | .rv k,y,_,h=>by
  simp only [C.sh,Den] at h ⊢
  exact ⟨by rw [c6W (by omega),show ν.length+k-ν.length=k by omega];exact h.1,h.2⟩
 | .agg cs,y,hc,h=>by
  simp only [C.sh,Den,C.okS] at h hc ⊢
  obtain ⟨vs,h1,h2⟩:=h
  exact ⟨vs,b0t hO hc h1,h2⟩
 | .tup cs,y,hc,h=>by
  simp only [C.sh,Den,C.okS] at h hc ⊢
  obtain ⟨vs,h1,h2⟩:=h
  exact ⟨vs,b0t hO hc h1,h2⟩
 | .v x,y,hc,h=>by simpa only [C.sh,Den] using h
 | .sl sz es,y,hc,h=>by simp only [C.sh];exact (Fz.keep (Keeps.sub hO) (h.fz hc)).den _
 | .nl,y,hc,h=>by simpa only [C.sh,Den] using h
 | .ep cs,y,hc,h=>by simp only [C.sh];exact (Fz.keep (Keeps.sub hO) (h.fz hc)).den _
 | .clo f cs,y,hc,h=>by simp only [C.sh];exact (Fz.keep (Keeps.sub hO) (h.fz hc)).den _
 | .bnd f x,y,hc,h=>by simp only [C.sh];exact (Fz.keep (Keeps.sub hO) (h.fz hc)).den _
 | .any S,y,hc,h=>by simpa only [C.sh,Den] using h
 | .bp _ _,y,hc,h=>by simp only [C.okS,C.cl] at hc;cases hc
 | .rp _ _ _ _,y,hc,h=>by simp only [C.okS,C.cl] at hc;cases hc
 | .mp _,y,hc,h=>by simp only [C.okS,C.cl] at hc;cases hc
 | .wv _ _ _ _,y,hc,h=>by simp only [C.okS,C.cl] at hc;cases hc
 | .g _ _,y,hc,h=>by simp only [C.okS,C.cl] at hc;cases hc
 | .junk,y,hc,h=>by simp only [C.okS,C.cl] at hc;cases hc
theorem b0t (hO:∀ b,O' b->O b):∀ {cs:List C} {vs:List Value},C.b3d cs=true->l7 ν' w O cs vs->l7 (ν++ν') w O' (C.shL ν.length cs) vs
 | [],vs,_,h=>by simpa only [C.shL,l7] using h
 | c::cs,vs,hc,h=>by
  simp only [C.shL,l7,C.b3d,c6Q] at h hc ⊢
  obtain ⟨y,ys,e,h1,h2⟩:=h
  exact ⟨y,ys,e,b7z hO hc.1 h1,b0t hO hc.2 h2⟩
end
end
def Res.c1H:Res->Bool
 | .gone=>true
 | r=>r.shut
theorem c0C {ν ν':List Value} {w:World} {O O':Nat->Prop} {x:Value} {r:Res} (hs:r.c1H=true) (hO:∀ b,O' b->O b) (h:N8 ν w O x r):N8 ν' w O' x r:=by
 cases r with
 | gone=>trivial
 | box t cs=>exact a5V hs hO h
 | row e sz es=>exact a5V rfl hO h
 | map s es=>exact a5V rfl hO h
theorem l8.pre {E:Ctx} {rs rs':List Res} {f:Nat} {args:List C} {s:C} (h:l8 E [] f args s rs' []) (hr:rs'.all Res.c1H=true) (hs:s.okS=true) (ha:C.clL args=true):l8 E rs f args (C.sh rs.length s) (rs++rs') []:=by
  intro av ν w vs hR hav hF hD
  rw [List.all_eq_true] at hr
  let av':Nat->Prop:=OO av rs ν
  have hlt:∀ b,av' b->b < w.heap.size:=fun b hb=>by
    rcases hb with hb|hb
    · exact hR.av b hb
    · exact (hR.low b hb).1
  have ho0:∀ b,¬ owned [] [] b:=fun b ⟨k,r,x,hk,_⟩=>by simp at hk
  have hRG:RG av' E.own0 E.w0.heap.size [] [] w:=⟨rfl,fun k r hk=>by simp at hk,fun k l r r' x x' b _ hk=>by simp at hk,fun b hb=>(ho0 b hb).elim,hlt,hR.n0⟩
  have hOO:∀ b,OO av' [] [] b->OO av rs ν b:=fun b hb=>hb.elim id fun h=>(ho0 b h).elim
  refine (h av' [] w vs hRG (fun b hb=>.inl (hav b hb)) hF ((FzL.keep (Keeps.sub hOO) (hD.fz ha)).den _)).mono ?_
  rintro e w' ⟨y,ν',rfl,h1,h2,h3⟩
  have hlen:(ν++ν').length=(rs++rs').length:=by rw [c6M,c6M,hR.len,h1.len]
  have htk:(ν++ν').take rs.length=ν:=by rw [<- hR.len];simp
  have hown:=fun b=>a3H hlen b
  rw [htk] at hown
  have hnew:∀ b,(∃ k r x,rs'[k]?=some r/\(ν++ν')[rs.length+k]?=some x/\fp r x b)->owned rs' ν' b:=by
    rintro b ⟨k,r,x,g1,g2,g3⟩
    rw [<- hR.len,c6W (by omega),show ν.length+k-ν.length=k by omega] at g2
    exact ⟨k,r,x,g1,g2,g3⟩
  have hge:∀ b,owned rs' ν' b->w.heap.size<=b:=fun b hb=>(h2.own b hb).elim (fun h=>(ho0 b h).elim) id
  have hnu:X5 [] ν (ν++ν'):=fun k x _ hx=>by rw [c6R (c6J.1 hx).1];exact hx
  have hM:Mv rs ν w [] (rs++rs') (ν++ν') w':=by
    refine ⟨h2.os,h2.tape,h2.output,h2.size,fun b hb _=>h2.block b hb (ho0 b),fun b hb=>?_,hnu⟩
    rcases (hown b).1 hb with hb|hb
    · exact .inl hb
    · exact .inr (hge b (hnew b hb))
  have hOO':∀ b,OO av (rs++rs') (ν++ν') b->OO av' rs' ν' b:=fun b hb=>by
    rcases hb with hb|hb
    · exact .inl (.inl hb)
    · rcases (hown b).1 hb with hb|hb
      · exact .inl (.inr hb)
      · exact .inr (hnew b hb)
  refine ⟨y,ν++ν',rfl,⟨hlen,fun k r hk=>?_,fun l m q q' z z' b hne g1 g2 g3 g4 g5=>?_,fun b hb=>?_,fun b hb=>c7f (hR.av b hb) h2.size,c6L hR.n0 h2.size⟩,hM,by rw [<- hR.len];exact b7z hOO' hs h3⟩
  · rcases c7a k rs.length with hlt'|hge'
    · rw [c6R hlt'] at hk
      obtain ⟨x,hx,hok⟩:=hR.res k r hk
      have:=hok.mv (hM.keeps (av:=av)) hM.nu (fun b hf=>h2.block b (hR.lt hk hx hf) (ho0 b))
      rw [a2G] at this
      exact ⟨x,hnu k x (fun h=>by cases h) hx,this⟩
    · rw [c6W hge'] at hk
      obtain ⟨x,hx,hok⟩:=h1.res _ r hk
      refine ⟨x,by rw [c6W (by rw [hR.len];exact hge'),hR.len];exact hx,c0C (hr r (c6H hk)) hOO' hok⟩
  · have old:∀ {l q z},l < rs.length->(rs++rs')[l]?=some q->(ν++ν')[l]?=some z->rs[l]?=some q/\ν[l]?=some z:=fun hl a1 a2=>by
      rw [c6R hl] at a1
      rw [c6R (by rw [hR.len];exact hl)] at a2
      exact ⟨a1,a2⟩
    have new:∀ {l q z},rs.length<=l->(rs++rs')[l]?=some q->(ν++ν')[l]?=some z->rs'[l-rs.length]?=some q/\ν'[l-rs.length]?=some z:=fun hl a1 a2=>by
      rw [c6W hl] at a1
      rw [c6W (by rw [hR.len];exact hl),hR.len] at a2
      exact ⟨a1,a2⟩
    rcases c7a l rs.length with hl1|hl1<;>rcases c7a m rs.length with hm1|hm1
    · obtain ⟨a1,a2⟩:=old hl1 g1 g3
      obtain ⟨a3,a4⟩:=old hm1 g2 g4
      exact hR.dis l m q q' z z' b hne a1 a3 a2 a4 g5
    · obtain ⟨a1,a2⟩:=old hl1 g1 g3
      obtain ⟨a3,a4⟩:=new hm1 g2 g4
      intro hf
      have:=hR.lt a1 a2 g5
      have:=hge b ⟨_,_,_,a3,a4,hf⟩
      omega
    · obtain ⟨a1,a2⟩:=new hl1 g1 g3
      obtain ⟨a3,a4⟩:=old hm1 g2 g4
      intro hf
      have:=hR.lt a3 a4 hf
      have:=hge b ⟨_,_,_,a1,a2,g5⟩
      omega
    · obtain ⟨a1,a2⟩:=new hl1 g1 g3
      obtain ⟨a3,a4⟩:=new hm1 g2 g4
      exact h1.dis _ _ q q' z z' b (by omega) a1 a3 a2 a4 g5
  · rcases (hown b).1 hb with hb|hb
    · obtain ⟨a1,a2,a3⟩:=hR.low b hb
      exact ⟨c7f a1 h2.size,a2,a3⟩
    · obtain ⟨a1,a2,a3⟩:=h1.low b (hnew b hb)
      exact ⟨a1,fun ha=>a2 (.inl ha),a3⟩
end Go.Proofs.YtpffebkbmcbmgaaGreatDoor.Eng
namespace Go.Proofs.YtpffebkbmcbmgaaGreatDoor
open Go Go.RowKit Eng
set_option maxRecDepth 100000
set_option maxHeartbeats 8000000
theorem b5o (q:Rat):Nm.ofQ (r9 q)=⟨false,Nm.enc q.num.natAbs,Nm.enc q.den⟩:=by
 unfold r9
 by_cases h:q.num < 0
 ·rw [if_pos h,a9X]
  simp [h]
 ·rw [if_neg h]
  unfold Nm.ofQ
  rw [decide_eq_false h]
theorem a5q (a:Nm.Rt) (ha:Rb 17179869184 a):FZ 23 [rc a] (rq (r9 (Nm.d9 a))):=by
 unfold rq
 rw [b5o]
 exact b7r a ha
theorem b9h {k:Nat} {p:Rat} (h:Rb k (Nm.ofQ p)):Rb k (Nm.ofQ (r9 p)):=by rw [b5o];exact h
theorem c0g (a:Nm.Rt) (ha:Rb 68719476736 a):FZ 160 [rc a] (.v (.bool (!H8 a))):=by
 refine kW Tryz.func160 (by cbv) (by rfl) fun w O hw=>?_
 have h:=a0q a ha
 unfold H8
 generalize decide a.F5=q at *
 simp only [j6]
 simp only [rc,sb] at *
 (repeat first|refine uA ?_|(refine uK ?_ ?_;focus first|omega|(intros;simp_all<;>omega))|simp (disch:=omega) only [go_sem,Nat.reduceBEq,Nat.reduceAdd,ww]|(refine uD h ?_ ?_ ?_;exact tz hw;exact rfl))
 exact S.done (j4.out rfl (Imp.refl rfl) rfl)
theorem a7X (l:List Nm.Rt) (hl:Rbs 68719476736 l):FZ 92 [rts l] (.v (.bool (l.all H8))):=by
 refine kW Tryz.func92 (by cbv) (by rfl) fun w O hw=>?_
 have h:=b9M 160 (by kernel_rfl) (fun a=>!H8 a) l (by have:=hl.1;omega) (fun a ha=>c0g a (hl.2 a ha))
 have e:l.all H8=!l.any fun a=>!H8 a:=by rw [List.not_any_eq_all_not];simp
 rw [e]
 generalize (l.any fun a=>!H8 a)=q at *
 simp only [j6]
 simp only [rts] at *
 (repeat first|refine uA ?_|(refine uK ?_ ?_;focus first|omega|(intros;simp_all<;>omega))|simp (disch:=omega) only [go_sem,Nat.reduceBEq,Nat.reduceAdd,ww]|(refine uD h ?_ ?_ ?_;exact tz hw;exact rfl))
 exact S.done (j4.out rfl (Imp.refl rfl) rfl)
theorem c0h (f:Fr) (hf:Fb 17179869184 f):FZ 89 [f.c] (.v (.bool (a2d f))):=by
 refine kW Tryz.func89 (by cbv) (by rfl) fun w O hw=>?_
 obtain ⟨x,y,half,t⟩:=f
 obtain ⟨b1,b2,b3⟩:=hf
 simp only at b1 b2 b3
 have h1:=a7X _ (Rbs.three (by decide) (b1.mono (m:=68719476736) (by decide)) (b2.mono (m:=68719476736) (by decide)) (b3.mono (m:=68719476736) (by decide)))
 rw [a7k] at h1
 have h4:=O9 t b3
 unfold a2d a3B
 simp only
 generalize (H8 x && H8 y && H8 t)=q1 at *
 generalize z8 (Nm.d9 t)=n at *
 simp only [j6]
 simp only [Fr.c,Fr.enc,rts,rcs,rc,sb,ints,c6V,c6Z] at *
 (repeat first|refine uA ?_|(refine uK ?_ ?_;focus first|omega|(intros;simp_all<;>omega))|simp (disch:=omega) only [go_sem,Nat.reduceBEq,Nat.reduceAdd,ww]|(refine uD h4 ?_ ?_ ?_;exact tz hw;exact rfl)|(refine uE h1 ?_ ?_ ?_ ?_;exact tz hw;exact rfl;focus (repeat' first|exact j5.nil|exact Imp.refl rfl|exact Imp.frz rfl rfl rfl|(refine Imp.M8 rfl rfl ?_ ?_;(focus ((try simp only [c6M]);omega));(focus first|rfl|assumption))|refine j5.cons ?_ ?_);done))
 have e:(q1 && !(half && !decide (n=0)))=(q1 && (!half || decide (n=0))):=by cases q1<;>cases half<;>simp
 rw [e]
 exact S.done (j4.out rfl (Imp.refl (by rfl)) rfl)
theorem c2O (f:Fr) (hf:Fb 17179869184 f):FZ 88 [f.c] (.v (.bool (!a2d f))):=by
 refine kW Tryz.func88 (by cbv) (by rfl) fun w O hw=>?_
 have h:=c0h f hf
 generalize a2d f=q at *
 simp only [j6]
 simp only [Fr.c,Fr.enc,sb] at *
 (repeat first|refine uA ?_|(refine uK ?_ ?_;focus first|omega|(intros;simp_all<;>omega))|simp (disch:=omega) only [go_sem,Nat.reduceBEq,Nat.reduceAdd,ww]|(refine uD h ?_ ?_ ?_;exact tz hw;exact rfl))
 exact S.done (j4.out rfl (Imp.refl rfl) rfl)
theorem c3g (v:Vt) (hv:Vb 68719476736 v):FZ 91 [v.c] (.v (.bool (!a6o v))):=by
 refine kW Tryz.func91 (by cbv) (by rfl) fun w O hw=>?_
 have h:=a7X _ (Rbs.two (by decide) hv.1 hv.2)
 rw [a8c] at h
 unfold a6o
 generalize (H8 v.x && H8 v.y)=q at *
 simp only [j6]
 simp only [Vt.c,Vt.enc,rts,rcs,sb,c6V,c6Z] at *
 (repeat first|refine uA ?_|(refine uK ?_ ?_;focus first|omega|(intros;simp_all<;>omega))|simp (disch:=omega) only [go_sem,Nat.reduceBEq,Nat.reduceAdd,ww]|(refine uE h ?_ ?_ ?_ ?_;exact tz hw;exact rfl;focus (repeat' first|exact j5.nil|exact Imp.refl rfl|exact Imp.frz rfl rfl rfl|(refine Imp.M8 rfl rfl ?_ ?_;(focus ((try simp only [c6M]);omega));(focus first|rfl|assumption))|refine j5.cons ?_ ?_);done))
 exact S.done (j4.out rfl (Imp.refl rfl) rfl)
theorem b7N {a:Am} {q:List Nm.Rt} (h:a4e a q=0):q.length=a.links.length:=by
 unfold a4e at h
 split at h
 ·rename_i h1;exact absurd h h1
 ·split at h
  ·cases h
  ·rename_i h2;exact Classical.not_not.1 h2
theorem c5H (a:Am) (x:Ast) (parts:Nat) (ha:Ab 1073741824 a) (hx:Asb 1073741824 x) (hp:parts<=1073741824):FZ 86 [a.c,x.c,.v (.int .i64 (parts:Int))] (ints (a5I a x parts)):=by
 refine kW Tryz.func86 (by cbv) (by rfl) fun w O hw=>?_
 have h1:=a7X x.q ⟨by have:=hx.1.1;omega,fun r hr=>(hx.1.2 r hr).mono (by decide)⟩
 have h2:=a7X x.v ⟨by have:=hx.2.1;omega,fun r hr=>(hx.2.2 r hr).mono (by decide)⟩
 have h3:=c4F a x.q ha hx.1
 have hln:=b7N (a:=a) (q:=x.q)
 unfold a5I
 generalize a4e a x.q=e at *
 obtain ⟨q,v,power,holds⟩:=x
 simp only at h1 h2 h3 hln ⊢
 generalize q.all H8=g1 at *
 generalize v.all H8=g2 at *
 obtain ⟨hvn,hvb⟩:=hx.2
 obtain ⟨name,⟨bx,by',half,t⟩,links⟩:=a
 obtain ⟨b0,⟨b1,b2,b3⟩,hn,hb⟩:=ha
 simp only at b0 b1 b2 b3 hn hb hln hvn hvb ⊢
 simp only [j6]
 simp only [Am.c,Am.enc,Ast.c,Ast.enc,lks,rts,sb,ints] at *
 (repeat first|refine uA ?_|(refine uK ?_ ?_;focus first|omega|(intros;simp_all<;>omega))|simp (disch:=omega) only [go_sem,Nat.reduceBEq,Nat.reduceAdd,ww]|(refine uD h1 ?_ ?_ ?_;exact tz hw;exact rfl)|(refine uD h2 ?_ ?_ ?_;exact tz hw;exact rfl))
 refine S.cond rfl (fun hc=>?_) (fun hc=>?_)
 ·rw [if_pos (by cases g1<;>cases g2<;>simp_all)]
  (repeat first|refine uA ?_|(refine uK ?_ ?_;focus first|omega|(intros;simp_all<;>omega))|simp (disch:=omega) only [go_sem,Nat.reduceBEq,Nat.reduceAdd,ww])
  exact S.done (j4.out rfl (Imp.refl rfl) rfl)
 rw [if_neg (by cases g1<;>cases g2<;>simp_all)]
 (repeat first|refine uA ?_|(refine uK ?_ ?_;focus first|omega|(intros;simp_all<;>omega))|simp (disch:=omega) only [go_sem,Nat.reduceBEq,Nat.reduceAdd,ww]|(refine uD h3 ?_ ?_ ?_;exact tz hw;exact rfl))
 refine S.cond rfl (fun hc=>?_) (fun hc=>?_)
 ·rw [if_pos (by simpa using hc)]
  (repeat first|refine uA ?_|(refine uK ?_ ?_;focus first|omega|(intros;simp_all<;>omega))|simp (disch:=omega) only [go_sem,Nat.reduceBEq,Nat.reduceAdd,ww])
  exact S.done (j4.out rfl (Imp.refl rfl) rfl)
 rw [if_neg (by simpa using hc)]
 have hln:=hln (by simpa using hc)
 (repeat first|refine uA ?_|(refine uK ?_ ?_;focus first|omega|(intros;simp_all<;>omega))|simp (disch:=omega) only [go_sem,Nat.reduceBEq,Nat.reduceAdd,ww,c6F])
 refine S.cond rfl (fun hc=>?_) (fun hc=>?_)
 ·rw [if_pos (by simp only [c7v,Bool.not_eq_true',c6S,c7c] at hc;omega)]
  (repeat first|refine uA ?_|(refine uK ?_ ?_;focus first|omega|(intros;simp_all<;>omega))|simp (disch:=omega) only [go_sem,Nat.reduceBEq,Nat.reduceAdd,ww])
  exact S.done (j4.out rfl (Imp.refl rfl) rfl)
 rw [if_neg (by simp only [c7n,Bool.not_eq_false',c6S,c7c] at hc;omega)]
 have hvl:v.length=links.length:=by simp only [c7n,Bool.not_eq_false',c6S,c7c] at hc;omega
 (repeat first|refine uA ?_|(refine uK ?_ ?_;focus first|omega|(intros;simp_all<;>omega))|simp (disch:=omega) only [go_sem,Nat.reduceBEq,Nat.reduceAdd,ww,c6F])
 refine S.loop (X:=Nat) (fun i=>⟨[(4,.bp 1 0),(46,lks links),(47,ints links.length),(48,ints i)],[.gone,.box 149 [rts q,rts v,.v (.bool power),ints holds]]⟩) (fun i=>i<=links.length/\G5 a2a (links.zip v)=G5 a2a ((links.zip v).drop i)) (fun i=>links.length-i) 0 ⟨c6K _,rfl⟩ (by (repeat first|refine uA ?_|(refine ⟨?_,?_⟩;focus first|rfl|simp [slot])|rfl|simp)) ?_
 rintro i ⟨hi,hg⟩
 simp only [lks,ints,rts]
 (repeat first|refine uA ?_|(refine uK ?_ ?_;focus first|omega|(intros;simp_all<;>omega))|simp (disch:=omega) only [go_sem,Nat.reduceBEq,Nat.reduceAdd,ww])
 (refine uJ rfl (fun hc=>?_) fun hc=>?_)
 ·have hi':i < links.length:=by omega
  have hgi:=c6E hi'
  have hgv:=c6E (show i < v.length by omega)
  generalize links[i]=l at hgi
  generalize v[i]'_=r at hgv
  have hz:=V6 hgi hgv
  have hst:=a1e (f:=a2a) hz
  have hnx:=a1h (f:=a2a) hz
  have bl:=hb l (c6H hgi)
  have br:=(hvb r (c6H hgv)).mono (m:=17179869184) (by decide)
  have o1:=a5q r br
  have o2:=M6 (Nm.ofQ (r9 (Nm.d9 r))) l.speed (b9h (br.fit (by decide))) (bl.2.2.2.1.mono (by decide))
  rw [Nm.q8] at o2
  unfold a2a at hst hnx
  simp only at hst hnx
  generalize Nm.q9 (r9 (Nm.d9 r)) (Nm.d9 l.speed)=n1 at *
  unfold rq at o1
  generalize Nm.ofQ (r9 (Nm.d9 r))=ar at *
  have hvi:(i:Int) < v.length:=by omega
  simp only [rc,sb,ints] at o1 o2
  (repeat first|refine uA ?_|(refine uK ?_ ?_;focus first|omega|(intros;simp_all<;>omega))|simp (disch:=omega) only [go_sem,Nat.reduceBEq,Nat.reduceAdd,ww,hgi,hgv,c6G,c6F,Lk.enc,rcs,vts,sb,c6I]|(refine uD o1 ?_ ?_ ?_;exact tz hw;exact rfl)|(refine uD o2 ?_ ?_ ?_;exact tz hw;exact rfl))
  refine S.cond rfl (fun hc2=>?_) (fun hc2=>?_)
  ·have hp:0 < n1:=by simpa using hc2
   rw [if_pos hp] at hst
   rw [hg,show a2a=fun x:Lk × Nm.Rt=>if 0 < Nm.q9 (r9 (Nm.d9 x.2)) (Nm.d9 x.1.speed) then 1 else 0 from rfl,hst (by decide)]
   (repeat first|refine uA ?_|(refine uK ?_ ?_;focus first|omega|(intros;simp_all<;>omega))|simp (disch:=omega) only [go_sem,Nat.reduceBEq,Nat.reduceAdd,ww])
   exact S.done (j4.out rfl (Imp.refl rfl) rfl)
  ·have hp:¬ 0 < n1:=by simpa using hc2
   rw [if_neg hp] at hnx
   (repeat first|refine uA ?_|(refine uK ?_ ?_;focus first|omega|(intros;simp_all<;>omega))|simp (disch:=omega) only [go_sem,Nat.reduceBEq,Nat.reduceAdd,ww])
   refine S.next (i+1) ⟨by omega,?_⟩ (by omega) (by (repeat first|refine uA ?_|(refine ⟨?_,?_⟩;focus first|rfl|simp [slot])|rfl|simp))
   rw [hg,show a2a=fun x:Lk × Nm.Rt=>if 0 < Nm.q9 (r9 (Nm.d9 x.2)) (Nm.d9 x.1.speed) then 1 else 0 from rfl,hnx rfl]
 ·rw [hg,a1O (by rw [List.length_zip];omega)]
  (repeat first|refine uA ?_|(refine uK ?_ ?_;focus first|omega|(intros;simp_all<;>omega))|simp (disch:=omega) only [go_sem,Nat.reduceBEq,Nat.reduceAdd,ww])
  exact S.done (j4.out rfl (Imp.refl rfl) rfl)
set_option maxHeartbeats 16000000
theorem c5G (h:List Int) (n:Int):(a1p (.int .i64 n) (hdE h)).getD (.bool false)=.bool (h.contains n):=by
 rw [c3x];cases h.contains n<;>rfl
theorem b5G {α:Type} (p:α->Bool) (l:List α):l.all p=!l.any fun x=>!p x:=by rw [List.not_any_eq_all_not];simp
theorem c1r (w:Wk) (s:Stt) (hb:Wb 1073741824 w) (hs:Stb 1073741824 s):FZ 48 [w.c,s.c] (ints (a2U w s)):=by
 refine kW Tryz.func48 (by cbv) (by rfl) fun w' O hw=>?_
 have hwk:=c0T w hb
 obtain ⟨⟨n1,b1⟩,⟨n2,b2⟩,⟨n3,b3⟩,n4⟩:=hs
 have hone:=fun (a:Am) (x:Ast) (ha:a ∈ w.arms) (hx:x ∈ s.arms)=>c5H a x w.parts.length (hb.arms.2 a ha) (b1 x hx) (by have:=hb.parts.1;omega)
 have hfr:=b6w 88 (by kernel_rfl) (fun f=>!a2d f) s.parts (by omega) (fun f hf=>c2O f ⟨(b2 f hf).1.mono (by decide),(b2 f hf).2.1.mono (by decide),(b2 f hf).2.2.mono (by decide)⟩)
 have hvc:=b3z 91 (by kernel_rfl) (fun v=>!a6o v) s.people (by omega) (fun v hv=>c3g v ((b3 v hv).mono (by decide)))
 have m1:=hb.arms.1
 have m2:=hb.parts.1
 have m3:=hb.gates.1
 unfold a2U
 rw [b5G a2d,b5G a6o]
 generalize a0a w=e0 at *
 generalize (s.parts.any fun f=>!a2d f)=g1 at *
 generalize (s.people.any fun v=>!a6o v)=g2 at *
 obtain ⟨arms,walls,parts,slots,gates,walk⟩:=w
 obtain ⟨tick,sarms,sparts,people,sgates⟩:=s
 simp only at *
 simp only [j6]
 simp only [Wk.c,Wk.enc,Stt.c,Stt.enc,ams,wls,pts,sls,gts,a0K,frs,vts,bls,sb,ints] at hwk hfr hvc ⊢
 (repeat first|refine uA ?_|(refine uK ?_ ?_;focus first|omega|(intros;simp_all<;>omega))|simp (disch:=omega) only [go_sem,Nat.reduceBEq,Nat.reduceAdd,ww]|(refine uD hwk ?_ ?_ ?_;exact tz hw;exact rfl))
 refine S.cond rfl (fun hc=>?_) (fun hc=>?_)
 ·rw [if_pos (by simpa using hc)]
  (repeat first|refine uA ?_|(refine uK ?_ ?_;focus first|omega|(intros;simp_all<;>omega))|simp (disch:=omega) only [go_sem,Nat.reduceBEq,Nat.reduceAdd,ww])
  exact S.done (j4.out rfl (Imp.refl rfl) rfl)
 rw [if_neg (by simpa using hc)]
 (repeat first|refine uA ?_|(refine uK ?_ ?_;focus first|omega|(intros;simp_all<;>omega))|simp (disch:=omega) only [go_sem,Nat.reduceBEq,Nat.reduceAdd,ww,c6F])
 refine S.cond rfl (fun hc=>?_) (fun hc=>?_)
 ·rw [if_pos (by simp only [c6S] at hc;omega)]
  (repeat first|refine uA ?_|(refine uK ?_ ?_;focus first|omega|(intros;simp_all<;>omega))|simp (disch:=omega) only [go_sem,Nat.reduceBEq,Nat.reduceAdd,ww])
  exact S.done (j4.out rfl (Imp.refl rfl) rfl)
 rw [if_neg (by simp only [c7c] at hc;omega)]
 (repeat first|refine uA ?_|(refine uK ?_ ?_;focus first|omega|(intros;simp_all<;>omega))|simp (disch:=omega) only [go_sem,Nat.reduceBEq,Nat.reduceAdd,ww,c6F])
 refine S.cond rfl (fun hc=>?_) (fun hc=>?_)
 ·rw [if_pos (by simp only [c7v,Bool.not_eq_true',c6S,c7c] at hc;omega)]
  (repeat first|refine uA ?_|(refine uK ?_ ?_;focus first|omega|(intros;simp_all<;>omega))|simp (disch:=omega) only [go_sem,Nat.reduceBEq,Nat.reduceAdd,ww])
  exact S.done (j4.out rfl (Imp.refl rfl) rfl)
 have hls:sarms.length=arms.length:=by simp only [c7n,Bool.not_eq_false',c6S,c7c] at hc;omega
 rw [if_neg (by simp only [c7n,Bool.not_eq_false',c6S,c7c] at hc;omega)]
 (repeat first|refine uA ?_|(refine uK ?_ ?_;focus first|omega|(intros;simp_all<;>omega))|simp (disch:=omega) only [go_sem,Nat.reduceBEq,Nat.reduceAdd,ww,c6F])
 refine S.loop (X:=Nat × List Int) (fun x=>⟨[(2,.bp 0 0),(3,.bp 1 0),(6,.mp 2),(56,a0K sarms),(57,ints sarms.length),(58,ints x.1)],[.box 30 [ams arms,wls walls,pts parts,sls slots,gts gates,.v (.bool walk.neg),sb walk.num,sb walk.den],.box 63 [ints tick,a0K sarms,frs sparts,vts people,bls sgates],.map false (hdE x.2)]⟩)
  (fun x=>x.1<=sarms.length/\F3 (a2R parts.length) [] (arms.zip sarms)=F3 (a2R parts.length) x.2 ((arms.zip sarms).drop x.1)) (fun x=>sarms.length-x.1) (0,[]) ⟨c6K _,rfl⟩ (by (repeat first|refine uA ?_|(refine ⟨?_,?_⟩;focus first|rfl|simp [slot])|rfl|simp)) ?_
 rintro ⟨i,h⟩ ⟨hi,hg⟩
 simp only [ams,wls,pts,sls,gts,a0K,frs,vts,bls,sb,ints] at hi hg ⊢
 (repeat first|refine uA ?_|(refine uK ?_ ?_;focus first|omega|(intros;simp_all<;>omega))|simp (disch:=omega) only [go_sem,Nat.reduceBEq,Nat.reduceAdd,ww])
 (refine uJ rfl (fun hc=>?_) fun hc=>?_)
 ·have hgx:=c6E (show i < sarms.length by omega)
  have hga:=c6E (show i < arms.length by omega)
  generalize sarms[i]'_=x at hgx
  generalize arms[i]'_=a at hga
  have hz:=V6 hga hgx
  have hst:=Z0 (f:=a2R parts.length) (s:=h) hz
  have hnx:=Z5 (f:=a2R parts.length) (s:=h) hz
  have ho:=hone a x (c6H hga) (c6H hgx)
  have hlk:=c5G h x.holds
  have hpt:=c3J h x.holds
  have hai:(i:Int) < arms.length:=by omega
  have hv:a2R parts.length h (a,x)=if a5I a x parts.length ≠ 0 then (a5I a x parts.length,h) else if (decide (0<=x.holds) && h.contains x.holds)=true then (10,h) else (0,a7T h x.holds):=rfl
  rw [hv] at hst hnx
  clear hv
  generalize a5I a x parts.length=e1 at *
  generalize h.contains x.holds=c1 at *
  simp only [Am.c,Am.enc,Ast.c,Ast.enc,lks,rts,sb,ints] at ho
  (repeat first|refine uA ?_|(refine uK ?_ ?_;focus first|omega|(intros;simp_all<;>omega))|simp (disch:=omega) only [go_sem,Nat.reduceBEq,Nat.reduceAdd,ww,hga,hgx,c6G,c6F,Am.enc,Ast.enc,lks,rts,sb,ints,c6I]|(refine uD ho ?_ ?_ ?_;exact tz hw;exact rfl))
  refine S.cond rfl (fun hc2=>?_) (fun hc2=>?_)
  ·have h0:e1 ≠ 0:=by simpa using hc2
   rw [if_pos h0] at hst
   rw [hg,hst h0,if_pos h0]
   (repeat first|refine uA ?_|(refine uK ?_ ?_;focus first|omega|(intros;simp_all<;>omega))|simp (disch:=omega) only [go_sem,Nat.reduceBEq,Nat.reduceAdd,ww])
   exact S.done (j4.out rfl (Imp.refl rfl) rfl)
  have h0:e1=0:=by simpa using hc2
  rw [if_neg (by simp [h0])] at hst hnx
  (repeat first|refine uA ?_|(refine uK ?_ ?_;focus first|omega|(intros;simp_all<;>omega))|simp (disch:=omega) only [go_sem,Nat.reduceBEq,Nat.reduceAdd,ww,hlk])
  refine S.cond rfl (fun hc3=>?_) (fun hc3=>?_)
  ·rw [if_pos hc3] at hst
   rw [hg,hst (by simp),if_pos (by simp)]
   (repeat first|refine uA ?_|(refine uK ?_ ?_;focus first|omega|(intros;simp_all<;>omega))|simp (disch:=omega) only [go_sem,Nat.reduceBEq,Nat.reduceAdd,ww])
   exact S.done (j4.out rfl (Imp.refl rfl) rfl)
  ·rw [if_neg (by rw [hc3];decide)] at hnx
   (repeat first|refine uA ?_|(refine uK ?_ ?_;focus first|omega|(intros;simp_all<;>omega))|simp (disch:=omega) only [go_sem,Nat.reduceBEq,Nat.reduceAdd,ww,hpt])
   refine S.next (x:=(i,h)) (i+1,a7T h x.holds) ⟨by simp only;omega,by simp only;rw [hg,hnx rfl]⟩ (by simp only;omega) (by (repeat first|refine uA ?_|(refine ⟨?_,?_⟩;focus first|rfl|simp [slot])|rfl|simp))
 ·rw [hg,a0v (by rw [List.length_zip];omega),if_neg (by simp)]
  (repeat first|refine uA ?_|(refine uK ?_ ?_;focus first|omega|(intros;simp_all<;>omega))|simp (disch:=omega) only [go_sem,Nat.reduceBEq,Nat.reduceAdd,ww]|(refine uD hfr ?_ ?_ ?_;exact tz hw;exact rfl)|(refine uD hvc ?_ ?_ ?_;exact tz hw;exact rfl))
  refine S.cond rfl (fun hc=>?_) (fun hc=>?_)
  ·rw [if_neg (by cases g1<;>cases g2<;>simp_all)]
   (repeat first|refine uA ?_|(refine uK ?_ ?_;focus first|omega|(intros;simp_all<;>omega))|simp (disch:=omega) only [go_sem,Nat.reduceBEq,Nat.reduceAdd,ww])
   exact S.done (j4.out rfl (Imp.refl rfl) rfl)
  ·rw [if_pos (by cases g1<;>cases g2<;>simp_all)]
   (repeat first|refine uA ?_|(refine uK ?_ ?_;focus first|omega|(intros;simp_all<;>omega))|simp (disch:=omega) only [go_sem,Nat.reduceBEq,Nat.reduceAdd,ww])
   exact S.done (j4.out rfl (Imp.refl rfl) rfl)
theorem a0j:Rb 8 (Nm.ofQ 0):=⟨Nm.I8 (by decide),Nm.I8 (by decide)⟩
theorem a2k:FZ 21 [.v (.int .i64 0)] (rq 0):=by
 have:=a2h 0 (by decide) (by decide)
 rwa [show ((0:Int):Rat)=0 from rfl] at this
theorem c2n:FZ 84 [] a5m.c:=by
 refine kW Tryz.func84 (by cbv) (by rfl) fun w O hw=>?_
 have h1:=a2k
 have h2:=b2n (Nm.ofQ 0) (a0j.mono (by decide))
 rw [Nm.q8] at h2
 unfold tq rq at *
 unfold a5m
 generalize Nm.ofQ 0=r at *
 simp only [j6]
 simp only [Fr.c,Fr.enc,rc,tc,sb] at *
 (repeat first|refine uA ?_|(refine uK ?_ ?_;focus first|omega|(intros;simp_all<;>omega))|simp (disch:=omega) only [go_sem,Nat.reduceBEq,Nat.reduceAdd,ww]|(refine uD h1 ?_ ?_ ?_;exact tz hw;exact rfl)|(refine uD h2 ?_ ?_ ?_;exact tz hw;exact rfl))
 (refine S.done ?_;simp only [l9,p9,go_sem,Nat.reduceBEq,Nat.reduceAdd,Nat.reduceLeDiff,Int.reduceToNat,Int.reducePow];(repeat (refine ⟨?_,?_⟩;focus first|trivial|omega|simp));exact j4.out rfl (Imp.refl rfl) rfl)
open Go Eng
set_option maxHeartbeats 8000000
theorem b5S (a:Am) (q v:List Nm.Rt) (hl:Ab 1073741824 a) (ha:F4 a=0) (hq:q.length=a.links.length) (hv:v.length=a.links.length):FZ 67 [a.c,rts q,rts v] (ints 0):=by
 refine kW Tryz.func67 (by cbv) (by rfl) fun w O hw=>?_
 have h:=a4C a hl
 rw [ha] at h
 have hn:=hl.2.2.1
 obtain ⟨name,⟨x,y,half,t⟩,links⟩:=a
 simp only at hq hv hn
 simp only [j6]
 simp only [Am.c,Am.enc,lks,rts,sb,ints] at *
 (repeat first|refine uA ?_|(refine uK ?_ ?_;focus first|omega|(intros;simp_all<;>omega))|simp (disch:=omega) only [go_sem,Nat.reduceBEq,Nat.reduceAdd,ww]|(refine uD h ?_ ?_ ?_;exact tz hw;exact rfl))
 refine S.cond rfl (fun hc=>by simp at hc) (fun hc=>?_)
 (repeat first|refine uA ?_|(refine uK ?_ ?_;focus first|omega|(intros;simp_all<;>omega))|simp (disch:=omega) only [go_sem,Nat.reduceBEq,Nat.reduceAdd,ww,c6F])
 refine S.cond rfl (fun hc=>by simp only [c7v,Bool.not_eq_true',c7c] at hc;omega) (fun hc=>?_)
 (repeat first|refine uA ?_|(refine uK ?_ ?_;focus first|omega|(intros;simp_all<;>omega))|simp (disch:=omega) only [go_sem,Nat.reduceBEq,Nat.reduceAdd,ww])
 exact S.done (j4.out rfl (Imp.refl rfl) rfl)
theorem c2m {α:Type} {l m:List α} {i:Nat} {y:α} (f:α->List C) (hl:l.length=m.length) (hy:l[i]?=some y):((l.take i++m.drop i).map f).set i (f y)=(l.take (i+1)++m.drop (i+1)).map f:=by
 rw [<- List.map_set,c3k hl hy]
theorem take_at {α:Type} {l:List α} {i:Nat} {x:α} (h:l[i]?=some x):l.take (i+1)=l.take i++[x]:=by
 obtain ⟨hi,rfl⟩:=c6J.1 h
 exact c7w hi
def tB:Nat->Nat
 | 0=>8
 | n+1=>2*(2*(tB n+2097664)+16+8)+16
def xB:Nat->Nat
 | 0=>8
 | n+1=>xB n+2*(8+4*tB n+18)+2+2*(8+4*(2*(tB n+2097664)+16)+18)+2
def Fx (i:Nat) (f:Fr):Prop:=Rb (xB i) f.x/\Rb (xB i) f.y/\Rb (tB i) f.t
theorem a7c {a:Am} (h:F4 a=0):Fx 0 a.base/\∀ l ∈ a.links,Rb 8 l.length:=by
 have hl:=(Z7 h).2
 unfold F4 at h
 split at h
 ·cases h
 split at h
 ·cases h
 split at h
 ·cases h
 rename_i h1
 have hs:(l6 a.base.x && l6 a.base.y && l6 a.base.t)=true:=by
  cases hb:(l6 a.base.x && l6 a.base.y && l6 a.base.t) with
  | true=>rfl
  | false=>exact absurd (.inr (.inl hb)) h1
 simp only [c6Q] at hs
 refine ⟨⟨(a1C hs.1.1).mono (by decide),(a1C hs.1.2).mono (by decide),(a1C hs.2).mono (by decide)⟩,fun l hm=>?_⟩
 have:=hl l hm
 unfold V3 at this
 split at this
 ·cases this
 rename_i h2
 have hs2:(l6 l.length && l6 l.low && l6 l.high && l6 l.speed && l6 l.brake)=true:=by
  cases hb:(l6 l.length && l6 l.low && l6 l.high && l6 l.speed && l6 l.brake) with
  | true=>rfl
  | false=>exact absurd (.inl hb) h2
 simp only [c6Q] at hs2
 exact (a1C hs2.1.1.1.1).mono (by decide)
set_option maxHeartbeats 16000000
def c4l (v:Vt) (z:Gt):Prop:=Nm.q9 (Nm.d9 v.x) (Nm.d9 z.low.x) < 0 \/ 0 < Nm.q9 (Nm.d9 v.x) (Nm.d9 z.high.x) \/ Nm.q9 (Nm.d9 v.y) (Nm.d9 z.low.y) < 0 \/ 0 < Nm.q9 (Nm.d9 v.y) (Nm.d9 z.high.y)
instance (v:Vt) (z:Gt):Decidable (c4l v z):=by unfold c4l;infer_instance
def wss (u:List (List Nm.Rt)):C:=.sl 1 (u.map fun l=>[rts l])
theorem c4H {α β γ:Type} {f:α × β->γ} {l:List α} {m:List β} {z:γ} (h:z ∈ (l.zip m).map f):∃ a ∈ l,∃ b ∈ m,z=f (a,b):=by
 obtain ⟨⟨a,b⟩,hm,rfl⟩:=List.mem_map.1 h
 exact ⟨a,(List.of_mem_zip hm).1,b,(List.of_mem_zip hm).2,rfl⟩
set_option maxHeartbeats 4000000
theorem a5p (q:Rat):(q < 0/\r9 q=-q) \/ (0<=q/\r9 q=q):=by
 unfold r9
 have h:=@Rat.num_nonneg q
 by_cases hn:q.num < 0
 ·rw [if_pos hn];left;exact ⟨by rw [<- Rat.not_le,<- h];omega,rfl⟩
 ·rw [if_neg hn];right;exact ⟨h.1 (by omega),rfl⟩
theorem b0r {b:Rat} (h:0 < z8 b):0 < b:=by
 rcases a5v b with ⟨h1,_⟩|⟨h1,_⟩|⟨_,h1⟩
 ·omega
 ·omega
 ·exact h1
structure Calm (w:Wk) (s:Stt) (k:Nat):Prop where
 st:a2U w s=0
 people:s.people=[]
 holds:∀ x ∈ s.arms,x.holds=-1
 q:∀ x ∈ s.arms,∀ r ∈ x.q,Rb (100+1000*k) r
 v:∀ x ∈ s.arms,∀ r ∈ x.v,Rb (200+20*k) r
 tick:s.tick=k
 parts:∀ f ∈ s.parts,Fb 1048576 f
def aQ (b v:Rat) (j:Nat):Rat:=if v-(j:Rat)*b<=0 then 0 else v-(j:Rat)*b
def sQ (b v:Rat):Nat->Rat
 | 0=>0
 | j+1=>sQ b v j+aQ b v (j+1)
theorem a3N (j:Nat):((j+1:Nat):Rat)=(j:Rat)+1:=by
 rw [Rat.natCast_add];rfl
theorem b2P (b v:Rat) (j:Nat):0<=aQ b v j:=by
 unfold aQ
 split<;>grind
theorem b8r {b v:Rat} (hv:0<=v):aQ b v 0=v:=by
 unfold aQ
 have h:((0:Nat):Rat)=0:=rfl
 rw [h]
 split<;>grind
theorem c4M {b v:Rat} (hb:0 < b) (j:Nat):aQ b v (j+1)=if aQ b v j<=b then 0 else aQ b v j-b:=by
 unfold aQ
 rw [a3N]
 generalize (j:Rat)=J
 have e:(J+1)*b=J*b+b:=by grind
 rw [e]
 generalize J*b=t
 split<;>split<;>(try split)<;>grind
theorem a9w (b v:Rat):∀ (j k:Nat),j<=k->sQ b v j<=sQ b v k
 | j,0,h=>by
  have:j=0:=by omega
  subst this
  exact Rat.le_refl
 | j,k+1,h=>by
  rcases c7a j (k+1) with h1|h1
  ·have h2:=a9w b v j k (by omega)
   have h3:=b2P b v (k+1)
   rw [sQ]
   grind
  ·have:j=k+1:=by omega
   subst this
   exact Rat.le_refl
theorem b2w (b v:Rat) (j:Nat):0<=sQ b v j:=a9w b v 0 j (c6K _)
theorem b2l {b v:Rat} (hb:0 < b) {n j:Nat} (h:v<=(n:Rat)*b) (hj:n<=j):aQ b v j=0:=by
 unfold aQ
 have h1:(n:Rat)<=(j:Rat):=by exact_mod_cast hj
 have h2:(n:Rat)*b<=(j:Rat)*b:=Rat.mul_le_mul_of_nonneg_right h1 (by grind)
 rw [if_pos (by grind)]
theorem c2c {b v:Rat} (hb:0 < b) {n:Nat} (h:v<=(n:Rat)*b):∀ j,n<=j->sQ b v j=sQ b v n
 | 0,hj=>by
  have:n=0:=by omega
  subst this
  rfl
 | j+1,hj=>by
  rcases c7a n (j+1) with h1|h1
  ·rw [sQ,c2c hb h j (by omega),b2l hb h hj]
   grind
  ·have:n=j+1:=by omega
   subst this
   rfl
theorem c5w {b v:Rat} (hb:0 < b) {n:Nat} (h:v<=(n:Rat)*b) (j:Nat):sQ b v j<=sQ b v n:=by
 rcases Nat.le_total j n with h1|h1
 ·exact a9w b v j n h1
 ·rw [c2c hb h j h1]
  exact Rat.le_refl
theorem a9c {b v:Rat} (hb:0 < b):∀ (m:Nat),(m:Rat)*b<=v->sQ b v m=(m:Rat)*v-b*((m:Rat)*((m:Rat)+1) / 2)
 | 0,_=>by
  have h:((0:Nat):Rat)=0:=rfl
  rw [h,sQ]
  grind
 | m+1,h=>by
  rw [a3N] at h ⊢
  have h1:(m:Rat)*b<=v:=by
   have e:((m:Rat)+1)*b=(m:Rat)*b+b:=by grind
   grind
  have h2:aQ b v (m+1)=v-((m:Rat)+1)*b:=by
   unfold aQ
   rw [a3N]
   split<;>grind
  rw [sQ,a9c hb m h1,h2]
  generalize (m:Rat)=M
  grind
def a2p (b v:Rat) (n:Nat):Rat:=if n < 2 then 0 else ((n-1:Nat):Rat)*v-b*((n*(n-1) / 2:Nat):Rat)
theorem b1b (n:Nat):((n*(n-1) / 2:Nat):Rat)=((n-1:Nat):Rat)*(((n-1:Nat):Rat)+1) / 2:=by
 cases n with
 | zero=>decide +kernel
 | succ m=>
  have he:2 ∣ (m+1)*m:=by
   rcases Nat.mod_two_eq_zero_or_one m with h|h
   ·exact Nat.dvd_trans (Nat.dvd_of_mod_eq_zero h) (Nat.dvd_mul_left _ _)
   ·exact Nat.dvd_trans (Nat.dvd_of_mod_eq_zero (by omega)) (Nat.dvd_mul_right _ _)
  obtain ⟨k,hk⟩:=he
  have hk2:(m+1)*(m+1-1) / 2=k:=by rw [Nat.add_sub_cancel,hk];omega
  rw [hk2,Nat.add_sub_cancel]
  have hc:((m+1:Nat):Rat)*(m:Rat)=2*(k:Rat):=by
   have:=congrArg (fun n:Nat=>(n:Rat)) hk
   simp only [Rat.natCast_mul] at this
   exact this
  rw [a3N] at hc
  grind
theorem b7M {b v:Rat} (hb:0 < b) {n:Nat} (h1:v<=(n:Rat)*b) (h2:1<=n->((n-1:Nat):Rat)*b<=v):a2p b v n=sQ b v n:=by
 unfold a2p
 split
 ·rename_i hn
  have:n=0 \/ n=1:=by omega
  rcases this with rfl|rfl
  ·rfl
  ·rw [sQ,b2l hb h1 (c6N _)]
   show (0:Rat)=0+0
   grind
 ·rename_i hn
  obtain ⟨m,rfl⟩:∃ m,n=m+1:=⟨n-1,by omega⟩
  have h3:=a9c hb m (h2 (by omega))
  have h4:=b1b (m+1)
  rw [Nat.add_sub_cancel] at h4 ⊢
  rw [h4,sQ,b2l hb h1 (c6N _),h3]
  grind
def sgQ (v:Rat):Rat:=if v < 0 then -1 else 1
theorem b7d (v:Rat):sgQ v*r9 v=v:=by
 unfold sgQ
 rcases a5p v with ⟨h,e⟩|⟨h,e⟩
 ·rw [if_pos h,e];grind
 ·rw [if_neg (by grind),e];grind
theorem abs_nonneg (v:Rat):0<=r9 v:=by
 rcases a5p v with ⟨h,e⟩|⟨h,e⟩<;>rw [e]<;>grind
structure Jnt (T V B:Rat) (j:Nat) (q v:Nm.Rt):Prop where
 v:Nm.d9 v=sgQ V*aQ B (r9 V) j
 q:Nm.d9 q=T+sgQ V*sQ B (r9 V) j
theorem Jnt.start (q u:Nm.Rt) (B:Rat):Jnt (Nm.d9 q+Nm.d9 u) (Nm.d9 u) B 0 (a1k q u) u:=by
 refine ⟨by rw [b8r (abs_nonneg _),b7d],?_⟩
 unfold a1k
 rw [Nm.q8,sQ]
 grind
theorem Jnt.next {T V B:Rat} {j:Nat} {q v b:Nm.Rt} (h:Jnt T V B j q v) (hb:Nm.d9 b=B) (h0:0 < B):Jnt T V B (j+1) (a1k q (a2Q b v)) (a2Q b v):=by
 have hv:Nm.d9 (a2Q b v)=sgQ V*aQ B (r9 V) (j+1):=by
  have h1:=h.v
  have h2:=c4M (v:=r9 V) h0 j
  have h3:=b2P B (r9 V) j
  rw [h2]
  unfold a2Q a1k
  rw [hb,h1]
  generalize aQ B (r9 V) j=a at *
  have hs:sgQ V=1 \/ sgQ V=-1:=by unfold sgQ;split<;>simp
  generalize sgQ V=s at *
  have ha:r9 (s*a)=a:=by
   rcases a5p (s*a) with ⟨e1,e2⟩|⟨e1,e2⟩<;>rcases hs with rfl|rfl<;>rw [e2]<;>grind
  rw [ha]
  have hle:Nm.q9 a B<=0 <-> a<=B:=by
   have:=a1d a B
   constructor
   ·intro h
    have:¬ B < a:=fun h4=>by have:=this.2 h4;omega
    grind
   ·intro h
    have:¬ 0 < Nm.q9 a B:=fun h4=>by have:=this.1 h4;grind
    omega
  by_cases hc:a<=B
  ·rw [if_pos (hle.2 hc),if_pos hc,Nm.q8]
   grind
  ·rw [if_neg (fun h=>hc (hle.1 h)),if_neg hc]
   have hsg:=a5v (s*a)
   split
   ·rw [Nm.q8]
    rcases hs with rfl|rfl<;>grind
   ·rw [Nm.q8]
    rcases hs with rfl|rfl<;>grind
 refine ⟨hv,?_⟩
 unfold a1k
 rw [Nm.q8,h.q,hv,sQ]
 grind
theorem Jnt.range {T V B:Rat} {j n:Nat} {q v:Nm.Rt} (h:Jnt T V B j q v) (h0:0 < B) (h1:r9 V<=(n:Rat)*B) (h2:1<=n->((n-1:Nat):Rat)*B<=r9 V) :
  (T<=Nm.d9 q/\Nm.d9 q<=T+sgQ V*a2p B (r9 V) n) \/ (T+sgQ V*a2p B (r9 V) n<=Nm.d9 q/\Nm.d9 q<=T):=by
 rw [h.q,b7M h0 h1 h2]
 have h3:=b2w B (r9 V) j
 have h4:=c5w h0 h1 j
 have hs:sgQ V=1 \/ sgQ V=-1:=by unfold sgQ;split<;>simp
 rcases hs with e|e<;>rw [e]
 ·left;grind
 ·right;grind
def u7 (B V:Rat):Int:=if ((r9 V / B).floor:Rat) < r9 V / B then (r9 V / B).floor+1 else (r9 V / B).floor
theorem a4M {B V:Rat} (hB:0 < B):0<=u7 B V/\r9 V<=(((u7 B V).toNat:Nat):Rat)*B/\(1<=(u7 B V).toNat->(((u7 B V).toNat-1:Nat):Rat)*B<=r9 V):=by
 have hq:r9 V / B*B=r9 V:=Rat.div_mul_cancel (by grind)
 have h0:0<=r9 V / B:=by
  rw [Rat.div_def]
  exact Rat.mul_nonneg (abs_nonneg V) (Rat.le_of_lt (Rat.inv_pos.2 hB))
 unfold u7
 generalize r9 V / B=q at *
 have hf:0<=q.floor:=Rat.le_floor_iff.2 (by simpa using h0)
 have h1:=Rat.floor_le q
 have h2:=Rat.lt_floor_add_one q
 obtain ⟨f,hfe⟩:∃ f:Nat,q.floor=f:=⟨q.floor.toNat,by omega⟩
 rw [hfe] at h1 h2 ⊢
 have e1:(((f:Int)+1:Int):Rat)=(f:Rat)+1:=by rw [Rat.intCast_add];rfl
 have e2:(((f:Nat):Int):Rat)=(f:Rat):=rfl
 rw [e1] at h2
 rw [e2] at h1 ⊢
 rw [<- hq]
 split
 ·rename_i hlt
  refine ⟨by omega,?_,fun _=>?_⟩
  ·rw [show ((f:Int)+1).toNat=f+1 by omega,a3N]
   exact Rat.mul_le_mul_of_nonneg_right (by grind) (by grind)
  ·rw [show ((f:Int)+1).toNat-1=f by omega]
   exact Rat.mul_le_mul_of_nonneg_right h1 (by grind)
 ·rename_i hlt
  refine ⟨by omega,?_,fun _=>?_⟩
  ·rw [c6I]
   exact Rat.mul_le_mul_of_nonneg_right (by grind) (by grind)
  ·rw [c6I]
   have h3:((f-1:Nat):Rat)<=(f:Rat):=by exact_mod_cast Nat.sub_le f 1
   exact Rat.mul_le_mul_of_nonneg_right (by grind) (by grind)
theorem c2H (p q:Rat):G9 p q<=p/\G9 p q<=q:=by
 unfold G9
 have h:=a1d p q
 split
 ·have:¬ q < p:=fun h2=>by have:=h.2 h2;omega
  grind
 ·have:q < p:=h.1 (by omega)
  grind
theorem c2Y (p q:Rat):p<=G8 p q/\q<=G8 p q:=by
 unfold G8
 have h:=a1J p q
 split
 ·have:¬ p < q:=fun h2=>by have:=h.2 h2;omega
  grind
 ·have:p < q:=h.1 (by omega)
  grind
def b2Y (q u b:Nm.Rt):Rat:=Nm.d9 q+Nm.d9 u+sgQ (Nm.d9 u)*a2p (Nm.d9 b) (r9 (Nm.d9 u)) (u7 (Nm.d9 b) (Nm.d9 u)).toNat
def loQ (q u b:Nm.Rt):Rat:=G9 (G9 (Nm.d9 q+Nm.d9 u) (b2Y q u b)) (Nm.d9 q)
def hiQ (q u b:Nm.Rt):Rat:=G8 (G8 (Nm.d9 q+Nm.d9 u) (b2Y q u b)) (Nm.d9 q)
def c5W (q0 u b:Nm.Rt):Nat->Nm.Rt->Nm.Rt->Prop
 | 0,q,v=>q=q0/\Nm.d9 v=0
 | k+1,q,v=>Jnt (Nm.d9 q0+Nm.d9 u) (Nm.d9 u) (Nm.d9 b) k q v \/ (q=q0/\Nm.d9 v=0)
set_option maxHeartbeats 8000000
theorem c4f (n:Nat) (hb:(Nm.enc n).length<=1099511627776):y9 Tryz.prog 134 [sb (Nm.enc n)] (.tup [ints (if n < 9223372036854775808 then n else 0:Nat),ints (if n < 9223372036854775808 then 0 else 2:Nat)]):=by
 refine kS Tryz.func134 (by cbv) (by rfl) fun w O=>?_
 have o1:=a0r (Nm.enc n) (by omega)
 rw [Nm.a6u (Nm.a2B _)] at o1
 have o2:=a1P (Nm.enc n) (by omega)
 rw [Nm.I6] at o2
 have h256:(256:Nat) ^ 8=18446744073709551616:=by decide
 by_cases hl:(Nm.enc n).length<=8
 ·have hn:n < 18446744073709551616:=by rw [<- h256];exact Nm.Y6 hl
  rw [Nat.mod_eq_of_lt hn] at o2
  generalize Nm.enc n=l at *
  have d1:decide ((8:Int) < (l.length:Int))=false:=decide_eq_false (by omega)
  simp only [j6,TT,II,OA,OC,MM,MG]
  simp only [sb,ints] at *
  by_cases h63:n < 9223372036854775808
  ·rw [if_pos h63,if_pos h63]
   have d2:decide ((9223372036854775807:Int) < (n:Int))=false:=decide_eq_false (by omega)
   have w1:IntKind.i64.wrap (n:Int)=(n:Int):=Eng.wrap_i64 (by omega)
   (repeat first|refine uA ?_|(apply uK;focus omega)|simp (disch:=omega) only [go_sem,Nat.reduceBEq,D9,d1,d2]|(apply uB o1;exact rfl)|(apply uB o2;exact rfl))
   refine S.cond rfl (fun hc=>by simp at hc) (fun hc=>?_)
   (repeat first|refine uA ?_|(apply uK;focus omega)|simp (disch:=omega) only [go_sem,Nat.reduceBEq,w1]|(apply uB o2;exact rfl))
   (refine S.done ?_;simp only [l9,go_sem,Nat.reduceBEq];exact j4.out rfl (Imp.tup (by (repeat' (first|exact j5.nil|exact Imp.refl rfl|exact Imp.frz rfl rfl rfl|exact Imp.D8|refine Imp.agg ?_|refine j5.cons ?_ ?_)))) rfl)
  ·rw [if_neg h63,if_neg h63]
   have d2:decide ((9223372036854775807:Int) < (n:Int))=true:=decide_eq_true (by omega)
   (repeat first|refine uA ?_|(apply uK;focus omega)|simp (disch:=omega) only [go_sem,Nat.reduceBEq,D9,d1,d2]|(apply uB o1;exact rfl)|(apply uB o2;exact rfl))
   refine S.cond rfl (fun hc=>?_) (fun hc=>by simp at hc)
   (repeat first|refine uA ?_|(apply uK;focus omega)|simp (disch:=omega) only [go_sem])
   (refine S.done ?_;simp only [l9,go_sem,Nat.reduceBEq];exact j4.out rfl (Imp.tup (by (repeat' (first|exact j5.nil|exact Imp.refl rfl|exact Imp.frz rfl rfl rfl|exact Imp.D8|refine Imp.agg ?_|refine j5.cons ?_ ?_)))) rfl)
 ·have hn:¬ n < 9223372036854775808:=fun h=>hl (Nm.I8 (by omega))
  rw [if_neg hn,if_neg hn]
  generalize Nm.enc n=l at *
  have d1:decide ((8:Int) < (l.length:Int))=true:=decide_eq_true (by omega)
  simp only [j6,TT,II,OA,OC,MM,MG]
  simp only [sb,ints] at *
  (repeat first|refine uF o2 ?_|refine uA ?_|(apply uK;focus omega)|simp (disch:=omega) only [go_sem,Nat.reduceBEq,D9,d1]|(apply uB o1;exact rfl))
  refine S.cond rfl (fun hc=>?_) (fun hc=>by simp at hc)
  (repeat first|refine uA ?_|(apply uK;focus omega)|simp (disch:=omega) only [go_sem])
  (refine S.done ?_;simp only [l9,go_sem,Nat.reduceBEq];exact j4.out rfl (Imp.tup (by (repeat' (first|exact j5.nil|exact Imp.refl rfl|exact Imp.frz rfl rfl rfl|exact Imp.D8|refine Imp.agg ?_|refine j5.cons ?_ ?_)))) rfl)
theorem b2I {p:Rat} (h:0<=p):0<=p.floor:=Rat.le_floor_iff.2 (by simpa using h)
theorem a8M (p:Rat):p.floor=Nm.sgn (decide (p.num < 0)) (if p.num < 0/\p.num.natAbs % p.den ≠ 0 then p.num.natAbs / p.den+1 else p.num.natAbs / p.den):=by
 rw [Rat.floor_def]
 have hd:0 < p.den:=Nat.pos_of_ne_zero p.den_nz
 generalize p.den=d at *
 generalize p.num=n at *
 unfold Nm.sgn
 by_cases hn:n < 0
 ·rw [decide_eq_true hn,if_pos rfl]
  obtain ⟨m,rfl⟩:∃ m:Nat,n=-(m:Int):=⟨n.natAbs,by omega⟩
  rw [Int.natAbs_neg,Int.natAbs_natCast]
  have h1:=Nat.div_add_mod m d
  have h2:=Nat.mod_lt m hd
  have e1:((m:Int))=(d:Int)*((m / d:Nat):Int)+((m % d:Nat):Int):=by rw [<- Int.natCast_mul,<- Int.natCast_add,h1]
  by_cases hz:m % d=0
  ·rw [if_neg (by simp [hz])]
   refine ((Int.ediv_emod_unique (r:=0) (show (0:Int) < d by omega)).2 ⟨?_,by omega,by omega⟩).1
   rw [e1,hz]
   grind
  ·rw [if_pos ⟨hn,hz⟩]
   refine ((Int.ediv_emod_unique (r:=((d-m % d:Nat):Int)) (show (0:Int) < d by omega)).2 ⟨?_,by omega,by omega⟩).1
   have e2:((d-m % d:Nat):Int)=(d:Int)-((m % d:Nat):Int):=by omega
   rw [e2]
   have e3:((m / d+1:Nat):Int)=((m / d:Nat):Int)+1:=by omega
   rw [e3]
   grind
 ·rw [decide_eq_false hn,if_neg (by decide),if_neg (by simp [hn])]
  rw [Int.natCast_ediv]
  congr 1
  omega
theorem b5d (p:Rat) (hb:Rb 1073741824 (Nm.ofQ p)):FZ 133 [rq p] (rq (p.floor:Rat)):=by
 refine kW Tryz.func133 (by cbv) (by rfl) fun w O hw=>?_
 obtain ⟨h1,h2⟩:=hb
 simp only [Nm.ofQ] at h1 h2
 have o1:=b2q (Nm.enc p.num.natAbs) (Nm.enc p.den) (by omega) (by omega) (by rw [Nm.I6];exact p.den_nz)
 simp only [Nm.I6] at o1
 have hle:p.num.natAbs / p.den<=p.num.natAbs:=Nat.div_le_self _ _
 have hl1:=Nm.a2s hle
 have o0:=f_add (Nm.enc (p.num.natAbs / p.den)) [1] (by omega) (by decide)
 rw [Nm.I6,show Nm.val [1]=1 from rfl] at o0
 have hl2:=Nm.a1V (k:=1073741824) (show (Nm.enc (p.num.natAbs / p.den)).length<=1073741824 by omega) (show (Nm.enc 1).length<=1073741824 by rw [Nm.U2];decide)
 have o2:=a2N (decide (p.num < 0)) (p.num.natAbs / p.den) 1 (by decide) (by omega) (by rw [Nm.U2];decide)
 have o3:=a2N (decide (p.num < 0)) (p.num.natAbs / p.den+1) 1 (by decide) (by omega) (by rw [Nm.U2];decide)
 rw [Rat.mkRat_one,Nm.U2] at o2 o3
 have hf:=a8M p
 have hez:(Nm.enc (p.num.natAbs % p.den)=[])=(p.num.natAbs % p.den=0):=a2w _
 generalize p.floor=f at *
 by_cases hn:p.num < 0
 ·by_cases hz:p.num.natAbs % p.den=0
  ·rw [if_neg (by simp [hz])] at hf
   rw [<- hf] at o2
   have e0:decide (p.num < 0)=true:=decide_eq_true hn
   simp only [j6,TT,OA,OB,OC,MM,VV,FF,MG]
   simp only [rq,rc,sb,ints,Nm.ofQ,e0] at *
   (repeat first|refine uA ?_|(refine uK ?_ ?_;focus first|omega|(intros;simp_all<;>omega))|simp (disch:=omega) only [go_sem,Nat.reduceBEq,Nat.reduceAdd,Y8,hz]|(refine uB o1 ?_ ?_;exact rfl))
   refine S.cond rfl (fun hc=>by first|exact absurd (a2w 0 ▸ rfl) hc|(simp [a2w] at hc)) (fun hc=>?_)
   (repeat first|refine uA ?_|(refine uK ?_ ?_;focus first|omega|(intros;simp_all<;>omega))|simp (disch:=omega) only [go_sem,Nat.reduceBEq,Nat.reduceAdd]|(refine uD o2 ?_ ?_ ?_;exact tz hw;exact rfl))
   (refine S.done ?_;simp only [l9,p9,go_sem,Nat.reduceBEq,Nat.reduceAdd,Nat.reduceLeDiff];(repeat (refine ⟨?_,?_⟩;focus first|trivial|omega|simp));exact j4.out rfl (Imp.refl rfl) rfl)
  ·rw [if_pos ⟨hn,hz⟩] at hf
   rw [<- hf] at o3
   have e0:decide (p.num < 0)=true:=decide_eq_true hn
   have e1:decide (p.num.natAbs % p.den=0)=false:=decide_eq_false hz
   simp only [j6,TT,OA,OB,OC,MM,VV,FF,MG]
   simp only [rq,rc,sb,ints,Nm.ofQ,e0] at *
   (repeat first|refine uA ?_|(refine uK ?_ ?_;focus first|omega|(intros;simp_all<;>omega))|simp (disch:=omega) only [go_sem,Nat.reduceBEq,Nat.reduceAdd,Y8,hez,e1]|(refine uB o1 ?_ ?_;exact rfl))
   refine S.cond rfl (fun hc=>?_) (fun hc=>by simp at hc)
   (repeat first|refine uA ?_|(refine uK ?_ ?_;focus first|omega|(intros;simp_all<;>omega))|simp (disch:=omega) only [go_sem,Nat.reduceBEq,Nat.reduceAdd]|(refine uB o0 ?_ ?_;exact rfl)|(refine uD o3 ?_ ?_ ?_;exact tz hw;exact rfl))
   (refine S.done ?_;simp only [l9,p9,go_sem,Nat.reduceBEq,Nat.reduceAdd,Nat.reduceLeDiff];(repeat (refine ⟨?_,?_⟩;focus first|trivial|omega|simp));exact j4.out rfl (Imp.refl rfl) rfl)
 ·rw [if_neg (by simp [hn])] at hf
  rw [<- hf] at o2
  have e0:decide (p.num < 0)=false:=decide_eq_false hn
  simp only [j6,TT,OA,OB,OC,MM,VV,FF,MG]
  simp only [rq,rc,sb,ints,Nm.ofQ,e0] at *
  (repeat first|refine uA ?_|(refine uK ?_ ?_;focus first|omega|(intros;simp_all<;>omega))|simp (disch:=omega) only [go_sem,Nat.reduceBEq,Nat.reduceAdd]|(refine uB o1 ?_ ?_;exact rfl))
  refine S.cond rfl (fun hc=>by simp at hc) (fun hc=>?_)
  (repeat first|refine uA ?_|(refine uK ?_ ?_;focus first|omega|(intros;simp_all<;>omega))|simp (disch:=omega) only [go_sem,Nat.reduceBEq,Nat.reduceAdd]|(refine uD o2 ?_ ?_ ?_;exact tz hw;exact rfl))
  (refine S.done ?_;simp only [l9,p9,go_sem,Nat.reduceBEq,Nat.reduceAdd,Nat.reduceLeDiff];(repeat (refine ⟨?_,?_⟩;focus first|trivial|omega|simp));exact j4.out rfl (Imp.refl rfl) rfl)
def flI (p:Rat):Int:=if p.floor.natAbs < 9223372036854775808 then p.floor else 0
def flE (p:Rat):Int:=if p.floor.natAbs < 9223372036854775808 then 0 else 2
theorem a9l {k:Nat} {p:Rat} (h:Rb k (Nm.ofQ p)):Rb (k+1) (Nm.ofQ (p.floor:Rat)):=by
 have h0:=a4G h
 have h1:=h.1
 simp only [Nm.ofQ] at h1
 rw [a8M]
 have hle:(Nm.enc (p.num.natAbs / p.den)).length<=k:=c6L (Nm.a2s (Nat.div_le_self _ _)) h1
 have hk:(Nm.enc 1).length<=k:=by rw [Nm.U2];exact h0
 refine ⟨?_,?_⟩
 ·show (Nm.enc (Rat.num _).natAbs).length<=_
  rw [Rat.num_intCast]
  have e:∀ b n,(Nm.sgn b n).natAbs=n:=fun b n=>by unfold Nm.sgn;split<;>omega
  rw [e]
  split
  ·exact Nm.a1V hle hk
  ·omega
 ·show (Nm.enc (Rat.den _)).length<=_
  rw [Rat.den_intCast]
  omega
theorem a8Y (a:Nm.Rt) (hb:Rb 1073741824 a):FZ 72 [rc a] (.tup [ints (flI (Nm.d9 a)),ints (flE (Nm.d9 a))]):=by
 refine kW Tryz.func72 (by cbv) (by rfl) fun w O hw=>?_
 have o1:=U3 a (hb.mono (by decide))
 have hb2:=hb.fit (show 1<=1073741824 by decide)
 have o2:=b5d (Nm.d9 a) hb2
 have hfb:=(a9l hb2).1
 unfold flI flE
 generalize (Nm.d9 a).floor=f at *
 have e1:Nm.ofQ (f:Rat)=⟨decide (f < 0),Nm.enc f.natAbs,Nm.enc 1⟩:=by
  unfold Nm.ofQ
  rw [Rat.num_intCast,Rat.den_intCast]
 rw [e1] at hfb
 simp only at hfb
 have o3:=c4f f.natAbs (by omega)
 unfold rq at *
 rw [e1] at o2
 generalize Nm.ofQ (Nm.d9 a)=z at *
 have e2:(if f.natAbs < 9223372036854775808 then f else 0)=if f < 0 then IntKind.i64.wrap (0-((if f.natAbs < 9223372036854775808 then f.natAbs else 0:Nat):Int)) else ((if f.natAbs < 9223372036854775808 then f.natAbs else 0:Nat):Int):=by
  by_cases h:f.natAbs < 9223372036854775808
  ·rw [if_pos h,if_pos h]
   split
   ·rw [Eng.wrap_i64 (by omega)];omega
   ·omega
  ·rw [if_neg h,if_neg h]
   split
   ·rw [Eng.wrap_i64 (by omega)];rfl
   ·rfl
 have e3:(if f.natAbs < 9223372036854775808 then (0:Int) else 2)=((if f.natAbs < 9223372036854775808 then 0 else 2:Nat):Int):=by split<;>rfl
 rw [e2,e3]
 generalize (if f.natAbs < 9223372036854775808 then f.natAbs else 0)=m at *
 generalize (if f.natAbs < 9223372036854775808 then 0 else 2)=e at *
 simp only [j6,TT,II,OA,OB,MM,LL,VV,FF]
 simp only [rc,sb,ints] at *
 (repeat first|refine uA ?_|(apply uK;focus omega)|simp (disch:=omega) only [go_sem,Nat.reduceBEq]|(apply uB o3;exact rfl)|(apply uD o1;exact tz hw;rfl)|(apply uD o2;exact tz hw;rfl))
 refine S.cond rfl (fun hc=>?_) (fun hc=>?_)
 ·rw [if_pos (by simpa using hc)]
  (repeat first|refine uA ?_|(apply uK;focus omega)|simp (disch:=omega) only [go_sem,Nat.reduceBEq])
  (refine S.done ?_;simp only [l9,go_sem,Nat.reduceBEq,Nat.reduceAdd];exact j4.out rfl (Imp.tup (by (repeat' (first|exact j5.nil|exact Imp.refl rfl|exact Imp.frz rfl rfl rfl|exact Imp.D8|refine Imp.agg ?_|refine j5.cons ?_ ?_)))) rfl)
 ·rw [if_neg (by simpa using hc)]
  (repeat first|refine uA ?_|(apply uK;focus omega)|simp (disch:=omega) only [go_sem,Nat.reduceBEq])
  (refine S.done ?_;simp only [l9,go_sem,Nat.reduceBEq,Nat.reduceAdd];exact j4.out rfl (Imp.tup (by (repeat' (first|exact j5.nil|exact Imp.refl rfl|exact Imp.frz rfl rfl rfl|exact Imp.D8|refine Imp.agg ?_|refine j5.cons ?_ ?_)))) rfl)
def a6X:M4:=⟨43,[.tmp 4,.tmp 5],.seq (.reg [OA 2 (.box 95 (TT 0)),OA 3 (.box 28 (TT 1)),OA 4 (.mv (II 0)),OA 5 (.mv (II 0))]) (.seq (.seq (.reg [FF 10 12 2,LL 11 3 10,OA 12 (.call 42 [TT 11]),OA 13 (.bin .leq (TT 12) (II 0))]) (.cond
 (TT 13) (.seq (.reg [OA 4 (.mv (II 0)),OA 5 (.mv (II 1))]) .ret) .skip)) (.seq (.D6 [.q,.q,.q,.q,.q,.q,.q,.l,.a,.e (some 6) false,.q] [LL 15 3 3,OA 16 (.call 23 [TT 15]),FF 17 12 2,LL 18 3 17,OA 19 (.call 71 [TT
 16,TT 18]),MM 14 19,OA 20 (.ext (TT 14) 0),OA 21 (.ext (TT 14) 1),OA 6 (.alloc 28 [.bool false,.string ⟨#[]⟩,.string ⟨#[]⟩]),OB (.store 3 (TT 6) (TT 20)),MM 7 21]) (.seq (.reg [LL 23 3 6,OA 24 (.call 72 [TT 23]),MM 22
 24,OA 25 (.ext (TT 22) 0),OA 26 (.ext (TT 22) 1),MM 8 25,MM 9 26]) (.seq (.seq (.reg [MM 27 9,OA 28 (.bin .neq (TT 27) (II 0)),MM 29 28,MG 30 8 29 false,OC 31 (.bin .gtr (TT 30) (II 2000)) 29 false,OA 32 (.pick (TT 29)
 (.const (.bool true)) (TT 31))]) (.cond (TT 32) (.seq (.reg [OA 4 (.mv (II 0)),OA 5 (.mv (II 2))]) .ret) .skip)) (.seq (.seq (.D6 [.q,.q,.q,.q,.q] [MM 33 8,OA 34 (.call 21 [TT 33]),LL 35 3 6,OA 36 (.call 28 [TT 34,TT
 35]),OA 37 (.bin .lss (TT 36) (II 0))]) (.cond (TT 37) (.reg [MM 38 8,OA 39 (.bin .add (TT 38) (II 1)),MM 8 39]) .skip)) (.seq (.seq (.reg [MM 40 8,OA 41 (.bin .gtr (TT 40) (II 2000))]) (.cond (TT 41) (.seq (.reg [OA 4 (.mv
 (II 0)),OA 5 (.mv (II 2))]) .ret) .skip)) (.seq (.reg [MM 42 8,MM 4 42,OA 5 (.mv (II 0))]) .ret)))))))⟩
theorem b2h:I9 eff Tryz.prog Tryz.f35=some a6X:=by kernel_rfl
theorem b2a:Tryz.prog.funcs[35]?=some Tryz.f35:=Tryz.func35
def a3F:M4:=⟨44,[.cell 4 true 3,.tmp 5],.seq (.reg [OA 2 (.box 95 (TT 0)),OA 3 (.box 28 (TT 1)),OA 4 (.alloc 28 [.bool false,.string ⟨#[]⟩,.string ⟨#[]⟩]),OA 5 (.mv (II 0))]) (.seq (.reg [LL 10 16 2,LL 11 3 3,OA 12 (.call 35 [TT 10,
 TT 11]),MM 9 12,OA 13 (.ext (TT 9) 0),OA 14 (.ext (TT 9) 1),MM 6 13,MM 7 14]) (.seq (.seq (.reg [MM 15 7,OA 16 (.bin .neq (TT 15) (II 0))]) (.cond (TT 16) (.seq (.reg [OA 17 (.build [.bool false,.string ⟨#[]⟩,.string
 ⟨#[]⟩] []),MM 18 7,OB (.store 3 (TT 4) (TT 17)),MM 5 18]) .ret) .skip)) (.seq (.seq (.reg [MM 19 6,OA 20 (.bin .lss (TT 19) (II 2))]) (.cond (TT 20) (.seq (.reg [OA 21 (.call 21 [II 0]),OB (.store 3 (TT 4) (TT 21)),OA 5
 (.mv (II 0))]) .ret) .skip)) (.seq (.D6 [.q,.q,.q,.q,.q,.q,.q,.q,.q,.q,.q,.q,.q,.q,.q,.q,.a,.e (some 8) true] [MM 22 6,OA 23 (.bin .sub (TT 22) (II 1)),OA 24 (.call 21 [TT 23]),LL 25 3 3,OA 26 (.call 23
 [TT 25]),OA 27 (.call 112 [TT 24,TT 26]),FF 28 12 2,LL 29 3 28,MM 30 6,MM 31 6,OA 32 (.bin .sub (TT 31) (II 1)),OA 33 (.bin .mul (TT 30) (TT 32)),OA 34 (.bin .quo (TT 33) (II 2)),OA 35 (.call 21 [TT 34]),OA 36 (.call
 112 [TT 29,TT 35]),OA 37 (.call 24 [TT 27,TT 36]),OA 8 (.alloc 28 [.bool false,.string ⟨#[]⟩,.string ⟨#[]⟩]),OB (.store 3 (TT 8) (TT 37))]) (.seq (.seq (.reg [LL 38 3 3,OA 39 (.call 42 [TT 38]),OA 40 (.bin .lss (TT 39)
 (II 0))]) (.cond (TT 40) (.reg [LL 41 3 8,OA 42 (.call 61 [TT 41]),OB (.store 3 (TT 8) (TT 42))]) .skip)) (.seq (.reg [LL 43 3 8,OB (.store 3 (TT 4) (TT 43)),OA 5 (.mv (II 0))]) .ret))))))⟩
theorem a8E:I9 eff Tryz.prog Tryz.f68=some a3F:=by kernel_rfl
theorem a8C:Tryz.prog.funcs[68]?=some Tryz.f68:=Tryz.func68
theorem a2c {n:Int} (h:n.natAbs < 18446744073709551616):Rb 8 (Nm.ofQ (n:Rat)):=by
 refine ⟨Nm.I8 ?_,Nm.I8 ?_⟩
 ·rw [Rat.num_intCast,show (256:Nat) ^ 8=18446744073709551616 by decide];exact h
 ·rw [Rat.den_intCast];decide
theorem U4 {k:Nat} {p:Rat} (h:Rb k (Nm.ofQ p)):Rb k (Nm.ofQ (r9 p)):=by
 rcases a5p p with ⟨_,e⟩|⟨_,e⟩<;>rw [e]
 ·exact a0L h
 ·exact h
structure Few (l:Lk) (v:Nm.Rt):Prop where
 hb:Rb 3 l.brake
 hv:Rb 1024 v
 pos:0 < z8 (Nm.d9 l.brake)
 few:u7 (Nm.d9 l.brake) (Nm.d9 v)<=8
def R8 (l:Lk) (v:Nm.Rt):Rat:=sgQ (Nm.d9 v)*a2p (Nm.d9 l.brake) (r9 (Nm.d9 v)) (u7 (Nm.d9 l.brake) (Nm.d9 v)).toNat
theorem b9F (v:Rat):z8 v < 0 <-> v < 0:=by
 have h:=a5v v
 rcases h with h|h|h<;>constructor<;>intro h2<;>first|omega|grind
def a3V:M4:=⟨64,[.tmp 6,.tmp 7],.seq (.reg [OA 3 (.box 49 (TT 0)),OA 6 (.mv (.const (.slice none 0 0))),OA 7 (.mv (II 0))]) (.seq (.seq (.reg [LL 16 12 3,MM 17 1,MM 18 2,OA 19 (.call 67 [TT 16,TT 17,TT 18]),MM 8 19]) (.seq (.reg
 [MM 20 8,OA 21 (.bin .neq (TT 20) (II 0))]) (.cond (TT 21) (.seq (.reg [MM 22 8,OA 6 (.mv (.const (.slice none 0 0))),MM 7 22]) .ret) .skip))) (.seq (.reg [OA 9 (.mv (.const (.slice none 0 0)))]) (.seq (.seq (.reg [FF 23 11
 3,VV 24 23,OA 25 (.len false (TT 24)),OA 26 (.mv (II 0))]) (.block 0 (.loop (.seq (.reg [OA 27 (.bin .lss (TT 26) (TT 25))]) (.seq (.cond (TT 27) .skip (.exit 0)) (.seq (.block 1 (.seq (.reg [MM 28 26,OA 29 (.x9 16 (TT
 24) (TT 26)),LL 30 16 29,OA 11 (.alloc 95 [.bool false,.string ⟨#[]⟩,.string ⟨#[]⟩,.bool false,.string ⟨#[]⟩,.string ⟨#[]⟩,.bool false,.string ⟨#[]⟩,.string ⟨#[]⟩,.bool false,.string ⟨#[]⟩,.string ⟨#[]⟩,.bool
 false,.string ⟨#[]⟩,.string ⟨#[]⟩,.slice none 0 0]),MM 10 28,OB (.store 16 (TT 11) (TT 30))]) (.seq (.D6 [.q,.q,.q,.q,.q,.q,.q,.q,.l,.a,.e (some 12) false,.q] [LL 32 16 11,MM 33 2,MM 34 10,OA 35 (.x9 3
 (TT 33) (TT 34)),LL 36 3 35,OA 37 (.call 68 [TT 32,TT 36]),MM 31 37,OA 38 (.ext (TT 31) 0),OA 39 (.ext (TT 31) 1),OA 12 (.alloc 28 [.bool false,.string ⟨#[]⟩,.string ⟨#[]⟩]),OB (.store 3 (TT 12) (TT 38)),MM 13 39])
 (.seq (.seq (.reg [MM 40 13,OA 41 (.bin .neq (TT 40) (II 0))]) (.cond (TT 41) (.seq (.reg [MM 42 13,OA 6 (.mv (.const (.slice none 0 0))),MM 7 42]) .ret) .skip)) (.seq (.D6 [.q,.q,.q,.q,.q,.q,.a,.e (some 14) true]
 [MM 43 1,MM 44 10,OA 45 (.x9 3 (TT 43) (TT 44)),LL 46 3 45,OA 47 (.call 21 [II 0]),OA 48 (.call 22 [TT 46,TT 47]),OA 14 (.alloc 28 [.bool false,.string ⟨#[]⟩,.string ⟨#[]⟩]),OB (.store 3 (TT 14) (TT 48))]) (.seq
 (.reg [LL 49 3 14,LL 50 3 12,OA 51 (.call 22 [TT 49,TT 50]),OA 15 (.alloc 28 [.bool false,.string ⟨#[]⟩,.string ⟨#[]⟩]),OB (.store 3 (TT 15) (TT 51))]) (.D6 [.q,.q,.q,.q,.q,.q,.q,.q,.q,.e none true,.q] [MM 52
 9,LL 53 3 14,LL 54 3 15,OA 55 (.call 69 [TT 53,TT 54]),LL 56 3 14,LL 57 3 15,OA 58 (.call 25 [TT 56,TT 57]),OA 59 (.build [.bool false,.string ⟨#[]⟩,.string ⟨#[]⟩,.bool false,.string ⟨#[]⟩,.string ⟨#[]⟩] [(0,(3,
 TT 55)),(3,(3,TT 58))]),OA 60 (.bsl 89 6 1 [.bool false,.string ⟨#[]⟩,.string ⟨#[]⟩,.bool false,.string ⟨#[]⟩,.string ⟨#[]⟩] [(0,TT 59)]),OA 61 (.app 89 6 80 (TT 52) (TT 60)),MM 9 61]))))))) (.reg [OA 62 (.bin .add
 (TT 26) (II 1)),MM 26 62]))))))) (.seq (.reg [MM 63 9,MM 6 63,OA 7 (.mv (II 0))]) .ret))))⟩
theorem a6Z:I9 eff Tryz.prog Tryz.f32=some a3V:=by kernel_rfl
theorem a7a:Tryz.prog.funcs[32]?=some Tryz.f32:=Tryz.func32
def a4x:M4:=⟨20,[.cell 4 true 6],.seq (.reg [OA 2 (.box 89 (TT 0)),OA 3 (.box 89 (TT 1)),OA 4 (.alloc 89 [.bool false,.string ⟨#[]⟩,.string ⟨#[]⟩,.bool false,.string ⟨#[]⟩,.string ⟨#[]⟩])]) (.seq (.D6 [.q,.q,.q,.q,.e none true,
 .e none true] [LL 5 6 2,OA 6 (.call 70 [TT 5]),LL 7 6 3,OA 8 (.call 70 [TT 7]),OB (.store 6 (TT 2) (TT 6)),OB (.store 6 (TT 3) (TT 8))]) (.seq (.D6 [.q,.q,.q,.q,.q,.q,.q,.q,.q,.q,.q,.e none true] [FF 9 0 2,LL
 10 3 9,FF 11 0 3,LL 12 3 11,OA 13 (.call 69 [TT 10,TT 12]),FF 14 3 2,LL 15 3 14,FF 16 3 3,LL 17 3 16,OA 18 (.call 25 [TT 15,TT 17]),OA 19 (.build [.bool false,.string ⟨#[]⟩,.string ⟨#[]⟩,.bool false,.string ⟨#[]⟩,
 .string ⟨#[]⟩] [(0,(3,TT 13)),(3,(3,TT 18))]),OB (.store 6 (TT 4) (TT 19))]) .ret))⟩
theorem a7G:I9 eff Tryz.prog Tryz.f33=some a4x:=by kernel_rfl
theorem a7w:Tryz.prog.funcs[33]?=some Tryz.f33:=Tryz.func33
def a3z:M4:=⟨9,[.cell 2 true 6],.seq (.reg [OA 1 (.box 89 (TT 0)),OA 2 (.alloc 89 [.bool false,.string ⟨#[]⟩,.string ⟨#[]⟩,.bool false,.string ⟨#[]⟩,.string ⟨#[]⟩])]) (.seq (.seq (.reg [LL 3 6 1,OA 4 (.call 132 [TT 3]),OA 5 (.un
 .not (TT 4))]) (.cond (TT 5) (.seq (.reg [OA 6 (.call 21 [II 0]),OA 7 (.call 34 [TT 6]),OB (.store 6 (TT 2) (TT 7))]) .ret) .skip)) (.seq (.reg [LL 8 6 1,OB (.store 6 (TT 2) (TT 8))]) .ret))⟩
theorem a8x:I9 eff Tryz.prog Tryz.f70=some a3z:=by kernel_rfl
theorem a8t:Tryz.prog.funcs[70]?=some Tryz.f70:=Tryz.func70
def a4A:M4:=⟨19,[.tmp 2],.seq (.reg [OA 1 (.box 89 (TT 0)),OA 2 (.mv (.const (.bool false)))]) (.seq (.reg [FF 3 0 1,LL 4 3 3,OA 5 (.call 76 [TT 4]),MM 6 5,FG 7 3 1 6 true,LG 8 3 7 6 true,OC 9 (.call 76 [TT 8]) 6 true,OA 10 (.pick
 (TT 6) (TT 9) (.const (.bool false))),MM 11 10,FG 12 0 1 11 true,LG 13 3 12 11 true,FG 14 3 1 11 true,LG 15 3 14 11 true,OC 16 (.call 28 [TT 13,TT 15]) 11 true,OC 17 (.bin .leq (TT 16) (II 0)) 11 true,OA 18 (.pick (TT
 11) (TT 17) (.const (.bool false))),MM 2 18]) .ret)⟩
theorem a7e:I9 eff Tryz.prog Tryz.f132=some a4A:=by kernel_rfl
theorem a7o:Tryz.prog.funcs[132]?=some Tryz.f132:=Tryz.func132
structure Sn where
 lo:Nm.Rt
 hi:Nm.Rt
def Sn.enc (s:Sn):List C:=[.v (.bool s.lo.neg),sb s.lo.num,sb s.lo.den,.v (.bool s.hi.neg),sb s.hi.num,sb s.hi.den]
def Sn.c (s:Sn):C:=.agg s.enc
def snQ (p q:Rat):Sn:=⟨Nm.ofQ p,Nm.ofQ q⟩
structure Sp where
 lo:Rat
 hi:Rat
def Sp.c (s:Sp):C:=(snQ s.lo s.hi).c
def Zb (k:Nat) (s:Sp):Prop:=Rb k (Nm.ofQ s.lo)/\Rb k (Nm.ofQ s.hi)
theorem Zb.mono {k m:Nat} {s:Sp} (h:Zb k s) (hk:k<=m):Zb m s:=⟨h.1.mono hk,h.2.mono hk⟩
def I4 (s:Sp):Sp:=if Nm.q9 s.lo s.hi<=0 then s else ⟨0,0⟩
theorem a4L {k:Nat} (h:1<=k):Rb k (Nm.ofQ 0):=⟨by show (Nm.enc (Rat.num 0).natAbs).length<=k;rw [show (Rat.num 0).natAbs=0 from rfl,Nm.a0X];exact c6K _,by show (Nm.enc (Rat.den 0)).length<=k;rw [show Rat.den 0=1 from rfl,Nm.U2];exact h⟩
theorem J6 {k:Nat} {s:Sp} (h:Zb k s):Zb k (I4 s):=by
 unfold I4
 split
 ·exact h
 ·exact ⟨a4L (a4G h.1),a4L (a4G h.1)⟩
theorem b0H {p q:Rat} (h:p<=q):I4 ⟨p,q⟩=⟨p,q⟩:=by
 unfold I4
 rw [if_pos]
 have h1:=a1d p q
 have:¬ 0 < Nm.q9 p q:=fun h2=>by have:=h1.1 h2;grind
 simp only
 omega
theorem X7 (a:Nm.Rt) (h:Rb 1073741824 a):FZ 34 [rc a] (Sp.mk (Nm.d9 a) (Nm.d9 a)).c:=by
 refine kW Tryz.func34 (by cbv) (by rfl) fun w O hw=>?_
 have o1:=a3K a a (h.mono (by decide)) (h.mono (by decide))
 rw [show G9 (Nm.d9 a) (Nm.d9 a)=Nm.d9 a by unfold G9;split<;>rfl] at o1
 unfold Sp.c snQ
 unfold rq at *
 simp only
 generalize Nm.ofQ (Nm.d9 a)=z at *
 simp only [j6,TT,OA,OB,LL]
 simp only [Sn.c,Sn.enc,rc,sb] at *
 (repeat first|refine uA ?_|(refine uK ?_ ?_;focus first|omega|(intros;simp_all<;>omega))|simp (disch:=omega) only [go_sem,Nat.reduceBEq,Nat.reduceAdd]|(refine uD o1 ?_ ?_ ?_;exact tz hw;exact rfl))
 (refine S.done ?_;simp only [l9,p9,go_sem,Nat.reduceBEq,Nat.reduceAdd,Nat.reduceLeDiff];(repeat (refine ⟨?_,?_⟩;focus first|trivial|omega|simp));exact j4.out rfl (Imp.refl rfl) rfl)
theorem b9N (s:Sp) (h:Zb 1073741824 s):FZ 132 [s.c] (.v (.bool (decide (Nm.q9 s.lo s.hi<=0)))):=by
 refine kW a7o a7e (by rfl) fun w O hw=>?_
 obtain ⟨p,q⟩:=s
 obtain ⟨hp,hq⟩:=h
 simp only at hp hq
 have o1:=a0q (Nm.ofQ p) (hp.mono (by decide))
 have o2:=a0q (Nm.ofQ q) (hq.mono (by decide))
 rw [decide_eq_true (Nm.a3m _)] at o1 o2
 have o3:=M6 (Nm.ofQ p) (Nm.ofQ q) (hp.mono (by decide)) (hq.mono (by decide))
 rw [Nm.q8,Nm.q8] at o3
 unfold Sp.c snQ
 simp only
 generalize Nm.q9 p q=c at *
 generalize Nm.ofQ p=x at *
 generalize Nm.ofQ q=y at *
 simp only [a4A,j6,TT,II,OA,OC,MM,LL,FF,LG,FG]
 simp only [Sn.c,Sn.enc,rc,sb,ints] at *
 (repeat first|refine uA ?_|(refine uK ?_ ?_;focus first|omega|(intros;simp_all<;>omega))|simp (disch:=omega) only [go_sem,Nat.reduceBEq,Nat.reduceAdd]|(refine uD o1 ?_ ?_ ?_;exact tz hw;exact rfl)|(refine uD o2 ?_ ?_ ?_;exact tz hw;exact rfl)|(refine uD o3 ?_ ?_ ?_;exact tz hw;exact rfl))
 exact S.done (j4.out rfl (Imp.refl rfl) rfl)
theorem a0N (s:Sp) (h:Zb 1073741824 s):FZ 70 [s.c] (I4 s).c:=by
 refine kW a8t a8x (by rfl) fun w O hw=>?_
 have o1:=b9N s h
 have o2:=a2k
 have o3:=X7 (Nm.ofQ 0) (a0j.mono (by decide))
 rw [Nm.q8] at o3
 obtain ⟨p,q⟩:=s
 unfold I4
 simp only at o1 ⊢
 generalize Nm.q9 p q=c at *
 unfold Sp.c snQ at *
 unfold rq at *
 simp only at o1 o3 ⊢
 by_cases hc:c<=0
 ·rw [if_pos hc]
  rw [decide_eq_true hc] at o1
  simp only
  generalize Nm.ofQ p=x at *
  generalize Nm.ofQ q=y at *
  simp only [a3z,j6,TT,II,OA,OB,LL]
  simp only [Sn.c,Sn.enc,sb] at o1 ⊢
  (repeat first|refine uA ?_|(refine uK ?_ ?_;focus first|omega|(intros;simp_all<;>omega))|simp (disch:=omega) only [go_sem,Nat.reduceBEq,Nat.reduceAdd]|(refine uD o1 ?_ ?_ ?_;exact tz hw;exact rfl))
  refine S.cond rfl (fun hc=>by simp at hc) (fun hc=>?_)
  (repeat first|refine uA ?_|(refine uK ?_ ?_;focus first|omega|(intros;simp_all<;>omega))|simp (disch:=omega) only [go_sem,Nat.reduceBEq,Nat.reduceAdd])
  (refine S.done ?_;simp only [l9,p9,go_sem,Nat.reduceBEq,Nat.reduceAdd,Nat.reduceLeDiff];(repeat (refine ⟨?_,?_⟩;focus first|trivial|omega|simp));exact j4.out rfl (Imp.refl rfl) rfl)
 ·rw [if_neg hc]
  rw [decide_eq_false hc] at o1
  simp only
  generalize Nm.ofQ 0=z at *
  generalize Nm.ofQ p=x at *
  generalize Nm.ofQ q=y at *
  simp only [a3z,j6,TT,II,OA,OB,LL]
  simp only [Sn.c,Sn.enc,rc,sb] at o1 o2 o3 ⊢
  (repeat first|refine uA ?_|(refine uK ?_ ?_;focus first|omega|(intros;simp_all<;>omega))|simp (disch:=omega) only [go_sem,Nat.reduceBEq,Nat.reduceAdd]|(refine uD o1 ?_ ?_ ?_;exact tz hw;exact rfl))
  refine S.cond rfl (fun hc=>?_) (fun hc=>by simp at hc)
  (repeat first|refine uA ?_|(refine uK ?_ ?_;focus first|omega|(intros;simp_all<;>omega))|simp (disch:=omega) only [go_sem,Nat.reduceBEq,Nat.reduceAdd]|(refine uD o2 ?_ ?_ ?_;exact tz hw;exact rfl)|(refine uD o3 ?_ ?_ ?_;exact tz hw;exact rfl))
  (refine S.done ?_;simp only [l9,p9,go_sem,Nat.reduceBEq,Nat.reduceAdd,Nat.reduceLeDiff];(repeat (refine ⟨?_,?_⟩;focus first|trivial|omega|simp));exact j4.out rfl (Imp.refl rfl) rfl)
def P7 (a b:Sp):Sp:=⟨G9 (I4 a).lo (I4 b).lo,G8 (I4 a).hi (I4 b).hi⟩
theorem a4D (a b:Sp) (ha:Zb 1073741824 a) (hb:Zb 1073741824 b):FZ 33 [a.c,b.c] (P7 a b).c:=by
 refine kW a7w a7G (by rfl) fun w O hw=>?_
 have o1:=a0N a ha
 have o2:=a0N b hb
 have fa:=J6 ha
 have fb:=J6 hb
 unfold P7
 generalize I4 a=a2 at *
 generalize I4 b=b2 at *
 obtain ⟨p,q⟩:=a2
 obtain ⟨r,s⟩:=b2
 have o3:=a3K (Nm.ofQ p) (Nm.ofQ r) (fa.1.mono (by decide)) (fb.1.mono (by decide))
 have o4:=a4V (Nm.ofQ q) (Nm.ofQ s) (fa.2.mono (by decide)) (fb.2.mono (by decide))
 rw [Nm.q8,Nm.q8] at o3 o4
 obtain ⟨a1,a2⟩:=a
 obtain ⟨b1,b2⟩:=b
 unfold Sp.c snQ at *
 unfold rq at *
 simp only at o1 o2 o3 o4 ⊢
 generalize Nm.ofQ (G9 p r)=m1 at *
 generalize Nm.ofQ (G8 q s)=m2 at *
 generalize Nm.ofQ p=x at *
 generalize Nm.ofQ q=y at *
 generalize Nm.ofQ r=z at *
 generalize Nm.ofQ s=t at *
 generalize Nm.ofQ a1=n1 at *
 generalize Nm.ofQ a2=n2 at *
 generalize Nm.ofQ b1=n3 at *
 generalize Nm.ofQ b2=n4 at *
 simp only [a4x,j6,TT,OA,OB,LL,FF]
 simp only [Sn.c,Sn.enc,rc,sb] at o1 o2 o3 o4 ⊢
 (repeat first|refine uA ?_|(refine uK ?_ ?_;focus first|omega|(intros;simp_all<;>omega))|simp (disch:=omega) only [go_sem,Nat.reduceBEq,Nat.reduceAdd]|(refine uD o1 ?_ ?_ ?_;exact tz hw;exact rfl)|(refine uD o2 ?_ ?_ ?_;exact tz hw;exact rfl)|(refine uD o3 ?_ ?_ ?_;exact tz hw;exact rfl)|(refine uD o4 ?_ ?_ ?_;exact tz hw;exact rfl))
 (refine S.done ?_;simp only [l9,p9,go_sem,Nat.reduceBEq,Nat.reduceAdd,Nat.reduceLeDiff];(repeat (refine ⟨?_,?_⟩;focus first|trivial|omega|simp));exact j4.out rfl (Imp.refl rfl) rfl)
def a9K (l:Lk) (t v:Nm.Rt):Sn:=snQ (G9 (Nm.d9 t) (Nm.d9 t+R8 l v)) (G8 (Nm.d9 t) (Nm.d9 t+R8 l v))
def a3J (L:List Lk) (t v:List Nm.Rt):List Sn:=(L.zip (t.zip v)).map fun z=>a9K z.1 z.2.1 z.2.2
theorem a7v {L:List Lk} {t v:List Nm.Rt} {i:Nat} {l:Lk} {x y:Nm.Rt} (h1:L[i]?=some l) (h2:t[i]?=some x) (h3:v[i]?=some y):(a3J L t v)[i]?=some (a9K l x y):=by
 unfold a3J
 rw [c6P,V6 h1 (V6 h2 h3)]
 rfl
theorem a7n {L:List Lk} {t v:List Nm.Rt} (h1:t.length=L.length) (h2:v.length=L.length):(a3J L t v).length=L.length:=by
 unfold a3J;simp only [c6F,List.length_zip];omega
def a6J:M4:=⟨24,[.cell 2 true 6],.seq (.reg [OA 1 (.box 89 (TT 0)),OA 2 (.alloc 89 [.bool false,.string ⟨#[]⟩,.string ⟨#[]⟩,.bool false,.string ⟨#[]⟩,.string ⟨#[]⟩])]) (.seq (.reg [LL 4 6 1,OA 5 (.call 70 [TT 4]),OB (.store 6 (TT 1)
 (TT 5))]) (.seq (.D6 [.q,.q,.q,.q,.q,.q,.q,.q,.q,.q,.q,.q,.a,.e (some 3) true] [FF 6 0 1,LL 7 3 6,FF 8 0 1,LL 9 3 8,OA 10 (.call 112 [TT 7,TT 9]),FF 11 3 1,LL 12 3 11,FF 13 3 1,LL 14 3 13,OA 15 (.call
 112 [TT 12,TT 14]),OA 16 (.bsl 28 3 2 [.bool false,.string ⟨#[]⟩,.string ⟨#[]⟩] [(0,TT 10),(1,TT 15)]),OA 17 (.call 183 [TT 16]),OA 3 (.alloc 89 [.bool false,.string ⟨#[]⟩,.string ⟨#[]⟩,.bool false,.string ⟨#[]⟩,
 .string ⟨#[]⟩]),OB (.store 6 (TT 3) (TT 17))]) (.seq (.seq (.D6 [.q,.q,.q] [LL 18 6 1,OA 19 (.call 21 [II 0]),OA 20 (.call 180 [TT 18,TT 19])]) (.cond (TT 20) (.reg [OA 21 (.call 21 [II 0]),FF 22 0 3,OB (.store 3 (TT
 22) (TT 21))]) .skip)) (.seq (.reg [LL 23 6 3,OB (.store 6 (TT 2) (TT 23))]) .ret))))⟩
theorem b6i:I9 eff Tryz.prog Tryz.f178=some a6J:=by kernel_rfl
theorem b6D:Tryz.prog.funcs[178]?=some Tryz.f178:=Tryz.func178
def Y2 (a b:Sp):Sp:=⟨(I4 a).lo+(I4 b).lo,(I4 a).hi+(I4 b).hi⟩
theorem a2z {k m:Nat} {a b:Sp} (ha:Zb k a) (hb:Zb m b):Zb (k+m+1) (Y2 a b):=⟨K9 (J6 ha).1 (J6 hb).1,K9 (J6 ha).2 (J6 hb).2⟩
theorem a4v (a b:Sp) (ha:Zb 1073741824 a) (hb:Zb 1073741824 b):FZ 121 [a.c,b.c] (Y2 a b).c:=by
 refine kW Tryz.func121 (by cbv) (by rfl) fun w O hw=>?_
 have o1:=a0N a ha
 have o2:=a0N b hb
 have fa:=J6 ha
 have fb:=J6 hb
 unfold Y2
 generalize I4 a=a2 at *
 generalize I4 b=b2 at *
 obtain ⟨p,q⟩:=a2
 obtain ⟨r,s⟩:=b2
 have o3:=a2e p r (fa.1.mono (by decide)) (fb.1.mono (by decide))
 have o4:=a2e q s (fa.2.mono (by decide)) (fb.2.mono (by decide))
 obtain ⟨a1,a2⟩:=a
 obtain ⟨b1,b2⟩:=b
 unfold Sp.c snQ at *
 unfold rq at *
 simp only at o1 o2 o3 o4 ⊢
 generalize Nm.ofQ (p+r)=m1 at *
 generalize Nm.ofQ (q+s)=m2 at *
 generalize Nm.ofQ p=x at *
 generalize Nm.ofQ q=y at *
 generalize Nm.ofQ r=z at *
 generalize Nm.ofQ s=t at *
 generalize Nm.ofQ a1=n1 at *
 generalize Nm.ofQ a2=n2 at *
 generalize Nm.ofQ b1=n3 at *
 generalize Nm.ofQ b2=n4 at *
 simp only [j6,TT,OA,OB,LL,FF]
 simp only [Sn.c,Sn.enc,rc,sb] at o1 o2 o3 o4 ⊢
 (repeat first|refine uA ?_|(apply uK;focus first|omega|(intros;simp_all<;>omega))|simp (disch:=omega) only [go_sem,Nat.reduceBEq,Nat.reduceAdd]|(apply uD o1;exact tz hw;rfl)|(apply uD o2;exact tz hw;rfl)|(apply uD o3;exact tz hw;rfl)|(apply uD o4;exact tz hw;rfl))
 (refine S.done ?_;simp only [l9,p9,go_sem,Nat.reduceBEq,Nat.reduceAdd,Nat.reduceLeDiff];(repeat (refine ⟨?_,?_⟩;focus first|trivial|omega|simp));exact j4.out rfl (Imp.refl rfl) rfl)
def a3v (a b:Sp):Sp:=⟨(I4 a).lo-(I4 b).hi,(I4 a).hi-(I4 b).lo⟩
theorem a8d {k m:Nat} {a b:Sp} (ha:Zb k a) (hb:Zb m b):Zb (k+m+1) (a3v a b):=⟨O8 (J6 ha).1 (J6 hb).2,O8 (J6 ha).2 (J6 hb).1⟩
theorem b5O (a b:Sp) (ha:Zb 1073741824 a) (hb:Zb 1073741824 b):FZ 119 [a.c,b.c] (a3v a b).c:=by
 refine kW Tryz.func119 (by cbv) (by rfl) fun w O hw=>?_
 have o1:=a0N a ha
 have o2:=a0N b hb
 have fa:=J6 ha
 have fb:=J6 hb
 unfold a3v
 generalize I4 a=a2 at *
 generalize I4 b=b2 at *
 obtain ⟨p,q⟩:=a2
 obtain ⟨r,s⟩:=b2
 have o3:=a5C p s (fa.1.mono (by decide)) (fb.2.mono (by decide))
 have o4:=a5C q r (fa.2.mono (by decide)) (fb.1.mono (by decide))
 obtain ⟨a1,a2⟩:=a
 obtain ⟨b1,b2⟩:=b
 unfold Sp.c snQ at *
 unfold rq at *
 simp only at o1 o2 o3 o4 ⊢
 generalize Nm.ofQ (p-s)=m1 at *
 generalize Nm.ofQ (q-r)=m2 at *
 generalize Nm.ofQ p=x at *
 generalize Nm.ofQ q=y at *
 generalize Nm.ofQ r=z at *
 generalize Nm.ofQ s=t at *
 generalize Nm.ofQ a1=n1 at *
 generalize Nm.ofQ a2=n2 at *
 generalize Nm.ofQ b1=n3 at *
 generalize Nm.ofQ b2=n4 at *
 simp only [j6,TT,OA,OB,LL,FF]
 simp only [Sn.c,Sn.enc,rc,sb] at o1 o2 o3 o4 ⊢
 (repeat first|refine uA ?_|(apply uK;focus first|omega|(intros;simp_all<;>omega))|simp (disch:=omega) only [go_sem,Nat.reduceBEq,Nat.reduceAdd]|(apply uD o1;exact tz hw;rfl)|(apply uD o2;exact tz hw;rfl)|(apply uD o3;exact tz hw;rfl)|(apply uD o4;exact tz hw;rfl))
 (refine S.done ?_;simp only [l9,p9,go_sem,Nat.reduceBEq,Nat.reduceAdd,Nat.reduceLeDiff];(repeat (refine ⟨?_,?_⟩;focus first|trivial|omega|simp));exact j4.out rfl (Imp.refl rfl) rfl)
theorem a9m {k:Nat} {p q:Rat} (hp:Rb k (Nm.ofQ p)) (hq:Rb k (Nm.ofQ q)):Rb k (Nm.ofQ (G9 p q)):=by unfold G9;split;exact hp;exact hq
theorem a6K {k:Nat} {p q:Rat} (hp:Rb k (Nm.ofQ p)) (hq:Rb k (Nm.ofQ q)):Rb k (Nm.ofQ (G8 p q)):=by unfold G8;split;exact hp;exact hq
def arF (q:Rat) (l:List Rat):Sp:=l.foldl (fun s a=>⟨G9 s.lo a,G8 s.hi a⟩) ⟨q,q⟩
theorem b6x {k:Nat}:∀ (l:List Rat) (s:Sp),Zb k s->(∀ a ∈ l,Rb k (Nm.ofQ a))->Zb k (l.foldl (fun s a=>⟨G9 s.lo a,G8 s.hi a⟩) s)
 | [],s,h,_=>h
 | a::l,s,h,hl=>b6x l _ ⟨a9m h.1 (hl a (by simp)),a6K h.2 (hl a (by simp))⟩ fun b hb=>hl b (by simp [hb])
def arI (q:Rat) (l:List Rat) (i:Nat):Sp:=arF q (l.take i)
theorem c5g {k:Nat} {q:Rat} {l:List Rat} (hq:Rb k (Nm.ofQ q)) (hl:∀ a ∈ l,Rb k (Nm.ofQ a)) (i:Nat):Zb k (arI q l i):=b6x _ _ ⟨hq,hq⟩ fun a ha=>hl a (List.mem_of_mem_take ha)
theorem c0S {q:Rat} {l:List Rat} {i:Nat} {a:Rat} (h:l[i]?=some a):arI q l (i+1)=⟨G9 (arI q l i).lo a,G8 (arI q l i).hi a⟩:=by
 unfold arI arF
 rw [take_at h,List.foldl_append]
 rfl
theorem b3U (q:Rat) (l:List Rat) (hq:Rb 1073741824 (Nm.ofQ q)) (hl:∀ a ∈ l,Rb 1073741824 (Nm.ofQ a)) (hn:l.length<=1000):FZ 183 [.sl 3 (rcs (Nm.ofQ q)::l.map fun a=>rcs (Nm.ofQ a))] (arF q l).c:=by
 refine kW Tryz.func183 (by cbv) (by rfl) fun w O hw=>?_
 have o1:=X7 (Nm.ofQ q) hq
 rw [Nm.q8] at o1
 have hE:arI q l l.length=arF q l:=by unfold arI;rw [c6X]
 have hB:=c5g hq hl
 have hS:=@c0S q l
 have h0:arI q l 0=⟨q,q⟩:=rfl
 rw [<- hE]
 clear hE
 generalize arI q l=F at *
 simp only [j6,TT,II,OA,OB,MM,LL,FF]
 simp only [Sp.c,snQ,Sn.c,Sn.enc,rc,rcs,sb] at o1 ⊢
 (repeat first|refine uA ?_|(apply uK;focus omega)|simp (disch:=omega) only [go_sem,Nat.reduceBEq,c7g,c6F,List.getElem?_cons_zero,Int.toNat_zero,Nat.add_sub_cancel,c6X]|(apply uD o1;exact tz hw;rfl))
 refine S.loop (X:=Nat) (fun i=>⟨[(2,.bp 0 0),(3,.bp 1 0),(11,.sl 3 (l.map fun a=>rcs (Nm.ofQ a))),(12,ints l.length),(13,ints i)],[.box 89 [.v (.bool false),sb [],sb [],.v (.bool false),sb [],sb []],.box 89 (snQ (F i).lo (F i).hi).enc]⟩) (fun i=>i<=l.length) (fun i=>l.length-i) 0 (c6K _) (by rw [h0];exact (by (repeat first|refine uA ?_|(refine ⟨?_,?_⟩;focus first|rfl|simp [slot])|rfl|simp))) ?_
 intro i hi
 simp only [rcs,sb,ints,snQ,Sn.enc]
 (repeat first|refine uA ?_|(apply uK;focus omega)|simp (disch:=omega) only [go_sem,Nat.reduceBEq])
 (refine uJ rfl (fun hc=>?_) fun hc=>?_)
 ·have hi':i < l.length:=by omega
  have hg:=c6E hi'
  generalize l[i]=a at *
  have hs:=hS hg
  have ra:=hl a (c6H hg)
  have rF:=hB i
  have o2:=a3K (Nm.ofQ (F i).lo) (Nm.ofQ a) (rF.1.mono (by decide)) (ra.mono (by decide))
  have o3:=a4V (Nm.ofQ (F i).hi) (Nm.ofQ a) (rF.2.mono (by decide)) (ra.mono (by decide))
  rw [Nm.q8,Nm.q8] at o2 o3
  clear hB hS h0 o1 rF ra
  unfold rq at o2 o3
  simp only [rc,sb] at o2 o3
  (repeat first|refine uA ?_|(apply uK;focus first|omega|(intros;simp_all<;>omega))|simp (disch:=omega) only [go_sem,Nat.reduceBEq,Nat.reduceAdd,ww,hg,c6G,c6F,c6I]|(apply uD o2;exact tz hw;rfl)|(apply uD o3;exact tz hw;rfl))
  refine S.next (i+1) (by omega) (by omega) (by rw [hs];exact (by (repeat first|refine uA ?_|(refine ⟨?_,?_⟩;focus first|rfl|simp [slot])|rfl|simp)))
 ·have hi':i=l.length:=by omega
  subst hi'
  (repeat first|refine uA ?_|(apply uK;focus omega)|simp (disch:=omega) only [go_sem,Nat.reduceBEq])
  (refine S.done ?_;simp only [l9,p9,go_sem,Nat.reduceBEq,Nat.reduceAdd,Nat.reduceLeDiff];(repeat (refine ⟨?_,?_⟩;focus first|trivial|omega|simp));exact j4.out rfl (Imp.refl rfl) rfl)
def J2 (a b:Sp):Sp:=arF ((I4 a).lo*(I4 b).lo) [(I4 a).lo*(I4 b).hi,(I4 a).hi*(I4 b).lo,(I4 a).hi*(I4 b).hi]
theorem N7 {k m:Nat} {a b:Sp} (ha:Zb k a) (hb:Zb m b):Zb (k+m) (J2 a b):=by
 have fa:=J6 ha
 have fb:=J6 hb
 refine b6x _ _ ⟨I5 fa.1 fb.1,I5 fa.1 fb.1⟩ fun x hx=>?_
 simp only [List.mem_cons,List.not_mem_nil,or_false] at hx
 rcases hx with rfl|rfl|rfl
 ·exact I5 fa.1 fb.2
 ·exact I5 fa.2 fb.1
 ·exact I5 fa.2 fb.2
theorem a1g (a b:Sp) (ha:Zb 268435456 a) (hb:Zb 268435456 b):FZ 120 [a.c,b.c] (J2 a b).c:=by
 refine kW Tryz.func120 (by cbv) (by rfl) fun w O hw=>?_
 have o1:=a0N a (ha.mono (by decide))
 have o2:=a0N b (hb.mono (by decide))
 have fa:=J6 ha
 have fb:=J6 hb
 unfold J2
 generalize I4 a=a2 at *
 generalize I4 b=b2 at *
 obtain ⟨p,q⟩:=a2
 obtain ⟨r,s⟩:=b2
 try simp only at fa fb
 have o3:=a2f p r (fa.1.mono (by decide)) (fb.1.mono (by decide))
 have o4:=a2f p s (fa.1.mono (by decide)) (fb.2.mono (by decide))
 have o5:=a2f q r (fa.2.mono (by decide)) (fb.1.mono (by decide))
 have o6:=a2f q s (fa.2.mono (by decide)) (fb.2.mono (by decide))
 have o7:=b3U (p*r) [p*s,q*r,q*s] ((I5 fa.1 fb.1).mono (by decide)) (fun x hx=>by
  simp only [List.mem_cons,List.not_mem_nil,or_false] at hx
  rcases hx with rfl|rfl|rfl
  ·exact (I5 fa.1 fb.2).mono (by decide)
  ·exact (I5 fa.2 fb.1).mono (by decide)
  ·exact (I5 fa.2 fb.2).mono (by decide)) (by simp)
 simp only
 generalize arF (p*r) [p*s,q*r,q*s]=R at *
 obtain ⟨a1,a2⟩:=a
 obtain ⟨b1,b2⟩:=b
 obtain ⟨r1,r2⟩:=R
 unfold Sp.c snQ at *
 unfold rq at *
 simp only [c6V,c6Z] at o1 o2 o7 ⊢
 generalize Nm.ofQ (p*r)=m1 at *
 generalize Nm.ofQ (p*s)=m2 at *
 generalize Nm.ofQ (q*r)=m3 at *
 generalize Nm.ofQ (q*s)=m4 at *
 generalize Nm.ofQ p=x at *
 generalize Nm.ofQ q=y at *
 generalize Nm.ofQ r=z at *
 generalize Nm.ofQ s=t at *
 generalize Nm.ofQ a1=n1 at *
 generalize Nm.ofQ a2=n2 at *
 generalize Nm.ofQ b1=n3 at *
 generalize Nm.ofQ b2=n4 at *
 generalize Nm.ofQ r1=n5 at *
 generalize Nm.ofQ r2=n6 at *
 simp only [j6,TT,OA,OB,LL,FF]
 simp only [Sn.c,Sn.enc,rc,rcs,sb] at o1 o2 o3 o4 o5 o6 o7 ⊢
 (repeat first|refine uA ?_|(apply uK;focus first|omega|(intros;simp_all<;>omega))|simp (disch:=omega) only [go_sem,Nat.reduceBEq,Nat.reduceAdd]|(apply uD o1;exact tz hw;rfl)|(apply uD o2;exact tz hw;rfl)|(apply uD o3;exact tz hw;rfl)|(apply uD o4;exact tz hw;rfl)|(apply uD o5;exact tz hw;rfl)|(apply uD o6;exact tz hw;rfl)|(apply uE o7;exact tz hw;exact rfl;focus (repeat' first|exact j5.nil|exact Imp.refl rfl|exact Imp.frz rfl rfl rfl|(refine Imp.M8 rfl rfl ?_ ?_;(focus ((try simp only [c6M]);omega));(focus first|rfl|assumption))|refine j5.cons ?_ ?_);done))
 (refine S.done ?_;simp only [l9,p9,go_sem,Nat.reduceBEq,Nat.reduceAdd,Nat.reduceLeDiff];(repeat (refine ⟨?_,?_⟩;focus first|trivial|omega|simp));exact j4.out rfl (Imp.refl rfl) rfl)
def a5s (s:Sp) (a:Rat):Bool:=decide (Nm.q9 (I4 s).lo a<=0) && decide (Nm.q9 a (I4 s).hi<=0)
theorem b5H (s:Sp) (a:Nm.Rt) (hs:Zb 1073741824 s) (ha:Rb 1073741824 a):FZ 180 [s.c,rc a] (.v (.bool (a5s s (Nm.d9 a)))):=by
 refine kW Tryz.func180 (by cbv) (by rfl) fun w O hw=>?_
 have o1:=a0N s hs
 have fs:=J6 hs
 unfold a5s
 generalize I4 s=s2 at *
 obtain ⟨p,q⟩:=s2
 try simp only at fs
 have o2:=M6 (Nm.ofQ p) a (fs.1.mono (by decide)) (ha.mono (by decide))
 have o3:=M6 a (Nm.ofQ q) (ha.mono (by decide)) (fs.2.mono (by decide))
 rw [Nm.q8] at o2 o3
 obtain ⟨s1,s2⟩:=s
 unfold Sp.c snQ at *
 simp only at o1 ⊢
 generalize Nm.q9 p (Nm.d9 a)=c1 at *
 generalize Nm.q9 (Nm.d9 a) q=c2 at *
 generalize Nm.ofQ p=x at *
 generalize Nm.ofQ q=y at *
 generalize Nm.ofQ s1=n1 at *
 generalize Nm.ofQ s2=n2 at *
 simp only [j6,TT,II,OA,OB,OC,MM,LL,FF,LG,FG]
 simp only [Sn.c,Sn.enc,rc,sb,ints] at o1 o2 o3 ⊢
 (repeat first|refine uA ?_|(apply uK;focus first|omega|(intros;simp_all<;>omega))|simp (disch:=omega) only [go_sem,Nat.reduceBEq,Nat.reduceAdd]|(apply uD o1;exact tz hw;rfl)|(apply uD o2;exact tz hw;rfl)|(apply uD o3;exact tz hw;rfl))
 exact S.done (j4.out rfl (Imp.refl rfl) rfl)
def sqI (s:Sp):Sp:=arF ((I4 s).lo*(I4 s).lo) [(I4 s).hi*(I4 s).hi]
def a5G (s:Sp):Sp:=if a5s (I4 s) 0=true then ⟨0,(sqI s).hi⟩ else sqI s
theorem c1E {k:Nat} {s:Sp} (h:Zb k s):Zb (k+k) (sqI s):=by
 have fa:=J6 h
 refine b6x _ _ ⟨I5 fa.1 fa.1,I5 fa.1 fa.1⟩ fun x hx=>?_
 rw [List.mem_singleton] at hx
 subst hx
 exact I5 fa.2 fa.2
theorem b3x {k:Nat} {s:Sp} (h:Zb k s):Zb (k+k) (a5G s):=by
 have:=c1E h
 unfold a5G
 split
 ·exact ⟨a4L (a4G this.1),this.2⟩
 ·exact this
def a5g:M4:=⟨16,[.cell 2 true 6],.seq (.reg [OA 1 (.box 89 (TT 0)),OA 2 (.alloc 89 [.bool false,.string ⟨#[]⟩,.string ⟨#[]⟩,.bool false,.string ⟨#[]⟩,.string ⟨#[]⟩])]) (.seq (.reg [LL 5 6 1,OA 6 (.call 178 [TT 5]),OA 3 (.alloc 89
 [.bool false,.string ⟨#[]⟩,.string ⟨#[]⟩,.bool false,.string ⟨#[]⟩,.string ⟨#[]⟩]),OB (.store 6 (TT 3) (TT 6))]) (.seq (.reg [OA 4 (.mv (.func 179))]) (.seq (.D6 [.q,.q,.q,.q,.q,.q,.q,.q,.q,.e none true] [MM 7
 4,FF 8 3 3,LL 9 3 8,OA 10 (.S9 (TT 7) [TT 9]),MM 11 4,FF 12 0 3,LL 13 3 12,OA 14 (.S9 (TT 11) [TT 13]),OA 15 (.build [.bool false,.string ⟨#[]⟩,.string ⟨#[]⟩,.bool false,.string ⟨#[]⟩,.string ⟨#[]⟩] [(0,(3,
 TT 10)),(3,(3,TT 14))]),OB (.store 6 (TT 2) (TT 15))]) .ret)))⟩
theorem b0d:I9 eff Tryz.prog Tryz.f116=some a5g:=by kernel_rfl
theorem b0c:Tryz.prog.funcs[116]?=some Tryz.f116:=Tryz.func116
def a3y (p:Rat):Rat:=mkRat (p*1000000).floor 1000000
theorem b0A:(Nm.enc 1000000).length<=3:=Nm.I8 (by decide)
theorem b8t:Nm.ofQ (1000000:Rat)=⟨false,Nm.enc 1000000,Nm.enc 1⟩:=by
 unfold Nm.ofQ
 rw [show (1000000:Rat)=((1000000:Int):Rat) from rfl,Rat.num_intCast,Rat.den_intCast]
 rfl
theorem b3O:Rb 3 (Nm.ofQ (1000000:Rat)):=by
 rw [b8t]
 exact ⟨b0A,by show (Nm.enc 1).length<=3;rw [Nm.U2];decide⟩
theorem b5s (f:Int):Nm.sgn (decide (f < 0)) f.natAbs=f:=by
 unfold Nm.sgn
 by_cases h:f < 0
 ·rw [decide_eq_true h,if_pos rfl];omega
 ·rw [decide_eq_false h,if_neg (by decide)];omega
theorem a9f (f:Int):Nm.ofQ (f:Rat)=⟨decide (f < 0),Nm.enc f.natAbs,Nm.enc 1⟩:=by
 unfold Nm.ofQ
 rw [Rat.num_intCast,Rat.den_intCast]
theorem b3I {k:Nat} {p:Rat} (h:Rb k (Nm.ofQ p)):Rb (k+4) (Nm.ofQ (a3y p)):=by
 have h2:=(a9l (I5 h b3O)).1
 rw [a9f] at h2
 unfold a3y
 rw [<- b5s (p*1000000).floor]
 have h3:=b0A
 exact a7Y (k:=k+4) (by decide) (by simp only at h2;omega) (by omega) (by omega) (c6N _)
theorem b7p (p:Rat) (hp:Rb 536870912 (Nm.ofQ p)):FZ 205 [rq p,.v (.int .i64 1000000)] (rq (a3y p)):=by
 refine kW Tryz.func205 (by cbv) (by rfl) fun w O hw=>?_
 have o1:=b4g 1000000 (by decide)
 rw [show (1000000:Int).toNat=1000000 from rfl] at o1
 have o2:=a2f p 1000000 (hp.mono (by decide)) (b3O.mono (by decide))
 have h1:=I5 hp b3O
 have o3:=b5d (p*1000000) (h1.mono (by decide))
 have h2:=(a9l h1).1
 unfold a3y
 generalize p*1000000=x at *
 generalize x.floor=f at *
 have h3:=b0A
 rw [a9f] at h2
 have o4:=a2N (decide (f < 0)) f.natAbs 1000000 (by decide) (by simp only at h2;omega) (by omega)
 rw [b5s] at o4
 unfold rq at *
 rw [b8t] at o2
 rw [a9f] at o3
 rw [Nm.U2] at o2 o3
 clear h1 h2 h3 hp
 generalize Nm.enc 1000000=e at *
 generalize decide (f < 0)=s at *
 generalize Nm.enc f.natAbs=n at *
 generalize Nm.ofQ (mkRat f 1000000)=r at *
 generalize Nm.ofQ p=m1 at *
 generalize Nm.ofQ x=m2 at *
 simp only [j6,TT,II,OA,OB,MM,LL,VV,FF]
 simp only [rc,sb,ints] at *
 (repeat first|refine uA ?_|(apply uK;focus first|omega|(intros;simp_all<;>omega))|simp (disch:=omega) only [go_sem,Nat.reduceBEq,Nat.reduceAdd]|(apply uB o1;exact rfl)|(apply uD o2;exact tz hw;rfl)|(apply uD o3;exact tz hw;rfl)|(apply uD o4;exact tz hw;rfl))
 (refine S.done ?_;simp only [l9,p9,go_sem,Nat.reduceBEq,Nat.reduceAdd,Nat.reduceLeDiff];(repeat (refine ⟨?_,?_⟩;focus first|trivial|omega|simp));exact j4.out rfl (Imp.refl rfl) rfl)
def upQ (p:Rat):Rat:=- a3y (- p)
theorem c5T {k:Nat} {p:Rat} (h:Rb k (Nm.ofQ p)):Rb (k+4) (Nm.ofQ (upQ p)):=a0L (b3I (a0L h))
theorem c5X (p:Rat) (hp:Rb 268435456 (Nm.ofQ p)):FZ 206 [rq p,.v (.int .i64 1000000)] (rq (upQ p)):=by
 refine kW Tryz.func206 (by cbv) (by rfl) fun w O hw=>?_
 have o1:=a7F (Nm.ofQ p) (hp.mono (by decide))
 have h1:=a0L hp
 have o2:=b7p (-p) (h1.mono (by decide))
 have o3:=a7F (Nm.ofQ (a3y (-p))) ((b3I h1).mono (by decide))
 rw [Nm.q8] at o1 o3
 unfold upQ
 unfold rq at *
 generalize Nm.ofQ (- a3y (-p))=m1 at *
 generalize Nm.ofQ (a3y (-p))=m2 at *
 generalize Nm.ofQ (-p)=m3 at *
 generalize Nm.ofQ p=m4 at *
 simp only [j6,TT,OA,OB,MM,LL]
 simp only [rc,sb] at *
 (repeat first|refine uA ?_|(apply uK;focus first|omega|(intros;simp_all<;>omega))|simp (disch:=omega) only [go_sem,Nat.reduceBEq,Nat.reduceAdd]|(apply uD o1;exact tz hw;rfl)|(apply uD o2;exact tz hw;rfl)|(apply uD o3;exact tz hw;rfl))
 (refine S.done ?_;simp only [l9,p9,go_sem,Nat.reduceBEq,Nat.reduceAdd,Nat.reduceLeDiff];(repeat (refine ⟨?_,?_⟩;focus first|trivial|omega|simp));exact j4.out rfl (Imp.refl rfl) rfl)
def b0P (s:Sp):Sp:=⟨a3y (I4 s).lo,upQ (I4 s).hi⟩
theorem b3i {k:Nat} {s:Sp} (h:Zb k s):Zb (k+4) (b0P s):=⟨b3I (J6 h).1,c5T (J6 h).2⟩
theorem c2I (s:Sp) (hs:Zb 268435456 s):FZ 181 [s.c,.v (.int .i64 1000000)] (b0P s).c:=by
 refine kW Tryz.func181 (by cbv) (by rfl) fun w O hw=>?_
 have o1:=a0N s (hs.mono (by decide))
 have fs:=J6 hs
 unfold b0P
 generalize I4 s=t at *
 obtain ⟨p,q⟩:=t
 have o2:=b7p p (fs.1.mono (by decide))
 have o3:=c5X q (fs.2.mono (by decide))
 obtain ⟨s1,s2⟩:=s
 unfold Sp.c snQ at *
 unfold rq at *
 simp only at o1 ⊢
 generalize Nm.ofQ (a3y p)=m1 at *
 generalize Nm.ofQ (upQ q)=m2 at *
 generalize Nm.ofQ p=m3 at *
 generalize Nm.ofQ q=m4 at *
 generalize Nm.ofQ s1=m5 at *
 generalize Nm.ofQ s2=m6 at *
 simp only [j6,TT,OA,OB,MM,LL,FF]
 simp only [Sn.c,Sn.enc,rc,sb] at o1 o2 o3 ⊢
 (repeat first|refine uA ?_|(apply uK;focus first|omega|(intros;simp_all<;>omega))|simp (disch:=omega) only [go_sem,Nat.reduceBEq,Nat.reduceAdd]|(apply uD o1;exact tz hw;rfl)|(apply uD o2;exact tz hw;rfl)|(apply uD o3;exact tz hw;rfl))
 (refine S.done ?_;simp only [l9,p9,go_sem,Nat.reduceBEq,Nat.reduceAdd,Nat.reduceLeDiff];(repeat (refine ⟨?_,?_⟩;focus first|trivial|omega|simp));exact j4.out rfl (Imp.refl rfl) rfl)
def b9S:Sp:=⟨-1,1⟩
theorem b0T:Rb 8 (Nm.ofQ (-1)):=a0L R5
theorem c4T:FZ 182 [] b9S.c:=by
 refine kW Tryz.func182 (by cbv) (by rfl) fun w O hw=>?_
 have o1:=a2h 1 (by decide) (by decide)
 have o2:=a2h (-1) (by decide) (by decide)
 rw [show ((1:Int):Rat)=1 from rfl] at o1
 rw [show ((-1:Int):Rat)=-1 from rfl] at o2
 unfold Sp.c snQ b9S
 unfold rq at *
 simp only
 generalize Nm.ofQ (-1)=m1 at *
 generalize Nm.ofQ 1=m2 at *
 simp only [j6,TT,II,OA,OB]
 simp only [Sn.c,Sn.enc,rc,sb,ints] at o1 o2 ⊢
 (repeat first|refine uA ?_|(apply uK;focus omega)|simp (disch:=omega) only [go_sem,Nat.reduceBEq]|(apply uD o1;exact tz hw;rfl)|(apply uD o2;exact tz hw;rfl))
 (refine S.done ?_;simp only [l9,p9,go_sem,Nat.reduceBEq,Nat.reduceAdd,Nat.reduceLeDiff];(repeat (refine ⟨?_,?_⟩;focus first|trivial|omega|simp));exact j4.out rfl (Imp.refl rfl) rfl)
def a3t (s:Sp):Sp:=⟨G8 (b0P s).lo (-1),G9 (b0P s).hi 1⟩
theorem a9v {k:Nat} {s:Sp} (h:Zb k s):Zb (k+12) (a3t s):=⟨a6K ((b3i h).1.mono (by omega)) (b0T.mono (by omega)),a9m ((b3i h).2.mono (by omega)) (R5.mono (by omega))⟩
theorem c1V (s:Sp) (hs:Zb 268435456 s):FZ 118 [s.c] (a3t s).c:=by
 refine kW Tryz.func118 (by cbv) (by rfl) fun w O hw=>?_
 have o1:=c2I s hs
 have fs:=b3i hs
 have o2:=c4T
 unfold a3t
 generalize b0P s=t at *
 obtain ⟨p,q⟩:=t
 have o3:=a4V (Nm.ofQ p) (Nm.ofQ (-1)) (fs.1.mono (by decide)) (b0T.mono (by decide))
 have o4:=a3K (Nm.ofQ q) (Nm.ofQ 1) (fs.2.mono (by decide)) (R5.mono (by decide))
 rw [Nm.q8,Nm.q8] at o3 o4
 obtain ⟨s1,s2⟩:=s
 unfold b9S at o2
 unfold Sp.c snQ at *
 unfold rq at *
 simp only at o1 o2 ⊢
 generalize Nm.ofQ (G8 p (-1))=m1 at *
 generalize Nm.ofQ (G9 q 1)=m2 at *
 generalize Nm.ofQ p=m3 at *
 generalize Nm.ofQ q=m4 at *
 generalize Nm.ofQ s1=m5 at *
 generalize Nm.ofQ s2=m6 at *
 generalize Nm.ofQ (-1)=m7 at *
 generalize Nm.ofQ 1=m8 at *
 simp only [j6,TT,II,OA,OB,LL,FF]
 simp only [Sn.c,Sn.enc,rc,sb] at o1 o2 o3 o4 ⊢
 (repeat first|refine uA ?_|(apply uK;focus first|omega|(intros;simp_all<;>omega))|simp (disch:=omega) only [go_sem,Nat.reduceBEq,Nat.reduceAdd]|(apply uD o1;exact tz hw;rfl)|(apply uD o2;exact tz hw;rfl)|(apply uD o3;exact tz hw;rfl)|(apply uD o4;exact tz hw;rfl))
 (refine S.done ?_;simp only [l9,p9,go_sem,Nat.reduceBEq,Nat.reduceAdd,Nat.reduceLeDiff];(repeat (refine ⟨?_,?_⟩;focus first|trivial|omega|simp));exact j4.out rfl (Imp.refl rfl) rfl)
def a9i (a:Rat):Rat:=(1-a) / (1+a)
theorem one_add {a:Rat} (h:0<=a):1+a ≠ 0:=by
 intro e
 have h1:(0:Rat) < 1:=by decide
 grind
theorem b8F {k:Nat} {a:Rat} (h0:0<=a) (h:Rb k (Nm.ofQ a)):Rb (k+k+18) (Nm.ofQ (a9i a)):=(a9y (one_add h0) (O8 R5 h) (K9 R5 h)).mono (by omega)
theorem b8C (a:Rat) (h0:0<=a) (h:Rb 1073741824 (Nm.ofQ a)):FZ 179 [rq a] (rq (a9i a)):=by
 refine kW Tryz.func179 (by cbv) (by rfl) fun w O hw=>?_
 have o1:=a2h 1 (by decide) (by decide)
 rw [show ((1:Int):Rat)=1 from rfl] at o1
 have o2:=a5C 1 a (R5.mono (by decide)) (h.mono (by decide))
 have o3:=a2e 1 a (R5.mono (by decide)) (h.mono (by decide))
 have o4:=b6h (1-a) (1+a) ((O8 R5 h).mono (by decide)) ((K9 R5 h).mono (by decide))
 rw [show a3p (1-a) (1+a)=Nm.ofQ ((1-a) / (1+a)) by unfold a3p;rw [if_neg (one_add h0)]] at o4
 unfold a9i
 unfold rq at *
 generalize Nm.ofQ ((1-a) / (1+a))=m1 at *
 generalize Nm.ofQ (1-a)=m2 at *
 generalize Nm.ofQ (1+a)=m3 at *
 generalize Nm.ofQ a=m4 at *
 generalize Nm.ofQ 1=m5 at *
 simp only [j6,TT,II,OA,OB,MM,LL]
 simp only [rc,sb,ints] at *
 (repeat first|refine uA ?_|(apply uK;focus omega)|simp (disch:=omega) only [go_sem,Nat.reduceBEq]|(apply uD o1;exact tz hw;rfl)|(apply uD o2;exact tz hw;rfl)|(apply uD o3;exact tz hw;rfl)|(apply uD o4;exact tz hw;rfl))
 (refine S.done ?_;simp only [l9,p9,go_sem,Nat.reduceBEq,Nat.reduceAdd,Nat.reduceLeDiff];(repeat (refine ⟨?_,?_⟩;focus first|trivial|omega|simp));exact j4.out rfl (Imp.refl rfl) rfl)
theorem b8O:∀ (l:List Rat) (s:Sp),0<=s.lo->0<=s.hi->(∀ a ∈ l,0<=a)->0<=(l.foldl (fun s a=>(⟨G9 s.lo a,G8 s.hi a⟩:Sp)) s).lo/\0<=(l.foldl (fun s a=>(⟨G9 s.lo a,G8 s.hi a⟩:Sp)) s).hi
 | [],s,h1,h2,_=>⟨h1,h2⟩
 | a::l,s,h1,h2,hl=>b8O l _ (by simp only [G9];split;exact h1;exact hl a (by simp)) (by simp only [G8];split;exact h2;exact hl a (by simp)) fun b hb=>hl b (by simp [hb])
theorem c2L (s:Sp):0<=(sqI s).lo/\0<=(sqI s).hi:=b8O _ _ (sq_nonneg _) (sq_nonneg _) fun a ha=>by
 rw [List.mem_singleton] at ha
 rw [ha]
 exact sq_nonneg _
theorem a8S (s:Sp):0<=(a5G s).lo/\0<=(a5G s).hi:=by
 have h:=c2L s
 unfold a5G
 split
 ·exact ⟨Rat.le_refl,h.2⟩
 ·exact h
def a9g (s:Sp):Sp:=⟨a9i (a5G s).hi,a9i (a5G s).lo⟩
theorem b7A {k:Nat} {s:Sp} (h:Zb k s):Zb (4*k+18) (a9g s):=⟨(b8F (a8S s).2 (b3x h).2).mono (by omega),(b8F (a8S s).1 (b3x h).1).mono (by omega)⟩
def a5h:M4:=⟨38,[.cell 2 true 6],.seq (.reg [OA 1 (.box 89 (TT 0)),OA 2 (.alloc 89 [.bool false,.string ⟨#[]⟩,.string ⟨#[]⟩,.bool false,.string ⟨#[]⟩,.string ⟨#[]⟩])]) (.seq (.reg [LL 7 6 1,LL 8 6 1,OA 9 (.call 33 [TT 7,TT 8]),OB
 (.store 6 (TT 1) (TT 9))]) (.seq (.D6 [.q,.q,.q,.q,.q,.q,.q,.q,.q,.q,.q,.a,.e (some 3) true] [FF 10 0 1,LL 11 3 10,OA 12 (.call 144 [TT 11]),OA 13 (.call 115 [TT 12]),OA 14 (.call 34 [TT 13]),FF 15 3 1,LL 16
 3 15,OA 17 (.call 144 [TT 16]),OA 18 (.call 115 [TT 17]),OA 19 (.call 34 [TT 18]),OA 20 (.call 33 [TT 14,TT 19]),OA 3 (.alloc 89 [.bool false,.string ⟨#[]⟩,.string ⟨#[]⟩,.bool false,.string ⟨#[]⟩,.string ⟨#[]⟩]),OB
 (.store 6 (TT 3) (TT 20))]) (.seq (.seq (.reg [OA 21 (.bsl 3 1 2 [.int .i64 0] [(0,II (-1)),(1,II 1)]),OA 22 (.len false (TT 21)),OA 23 (.mv (II 0))]) (.block 0 (.loop (.seq (.reg [OA 24 (.bin .lss (TT 23) (TT 22))]) (.seq
 (.cond (TT 24) .skip (.exit 0)) (.seq (.block 1 (.seq (.reg [OA 25 (.x9 1 (TT 21) (TT 23)),VV 26 25,MM 5 26]) (.seq (.reg [MM 27 5,OA 28 (.call 21 [TT 27]),OA 6 (.alloc 28 [.bool false,.string ⟨#[]⟩,.string ⟨#[]⟩]),OB
 (.store 3 (TT 6) (TT 28))]) (.seq (.reg [LL 29 6 1,LL 30 3 6,OA 31 (.call 180 [TT 29,TT 30])]) (.cond (TT 31) (.D6 [.q,.q,.q,.q,.e none true] [LL 32 6 3,LL 33 3 6,OA 34 (.call 34 [TT 33]),OA 35 (.call 33 [TT 32,TT
 34]),OB (.store 6 (TT 3) (TT 35))]) .skip))))) (.reg [OA 36 (.bin .add (TT 23) (II 1)),MM 23 36]))))))) (.seq (.reg [LL 37 6 3,OB (.store 6 (TT 2) (TT 37))]) .ret))))⟩
theorem a9B:I9 eff Tryz.prog Tryz.f117=some a5h:=by kernel_rfl
theorem b0a:Tryz.prog.funcs[117]?=some Tryz.f117:=Tryz.func117
def a8u:M4:=⟨38,[.cell 4 true 6,.cell 5 true 6],.seq (.reg [OA 2 (.box 122 (TT 0)),OA 3 (.box 40 (TT 1)),OA 4 (.alloc 89 [.bool false,.string ⟨#[]⟩,.string ⟨#[]⟩,.bool false,.string ⟨#[]⟩,.string ⟨#[]⟩]),OA 5 (.alloc 89 [.bool
 false,.string ⟨#[]⟩,.string ⟨#[]⟩,.bool false,.string ⟨#[]⟩,.string ⟨#[]⟩])]) (.seq (.D6 [.q,.q,.q,.q,.q,.q,.a,.a,.e (some 6) true,.e (some 7) true] [FF 8 0 3,LL 9 3 8,OA 10 (.call 34 [TT 9]),FF 11 3 3,LL 12
 3 11,OA 13 (.call 34 [TT 12]),OA 6 (.alloc 89 [.bool false,.string ⟨#[]⟩,.string ⟨#[]⟩,.bool false,.string ⟨#[]⟩,.string ⟨#[]⟩]),OA 7 (.alloc 89 [.bool false,.string ⟨#[]⟩,.string ⟨#[]⟩,.bool false,.string ⟨#[]⟩,
 .string ⟨#[]⟩]),OB (.store 6 (TT 6) (TT 10)),OB (.store 6 (TT 7) (TT 13))]) (.seq (.D6 [.q,.q,.q,.q,.q,.q,.q,.q,.q,.q,.q,.q,.q,.q,.q,.q,.q,.q,.q,.q,.q,.q,.q,.q,.e none true,.e none true] [FF 14 0 2,
 LL 15 6 14,LL 16 6 6,FF 17 12 2,LL 18 6 17,OA 19 (.call 120 [TT 16,TT 18]),LL 20 6 7,FF 21 18 2,LL 22 6 21,OA 23 (.call 120 [TT 20,TT 22]),OA 24 (.call 119 [TT 19,TT 23]),OA 25 (.call 121 [TT 15,TT 24]),FF 26 6 2,
 LL 27 6 26,LL 28 6 6,FF 29 18 2,LL 30 6 29,OA 31 (.call 120 [TT 28,TT 30]),LL 32 6 7,FF 33 12 2,LL 34 6 33,OA 35 (.call 120 [TT 32,TT 34]),OA 36 (.call 121 [TT 31,TT 35]),OA 37 (.call 121 [TT 27,TT 36]),OB (.store
 6 (TT 4) (TT 25)),OB (.store 6 (TT 5) (TT 37))]) .ret))⟩
theorem b4J:I9 eff Tryz.prog Tryz.f53=some a8u:=by kernel_rfl
theorem b4v:Tryz.prog.funcs[53]?=some Tryz.f53:=Tryz.func53
structure Lq where
 x:Sp
 y:Sp
 c:Sp
 s:Sp
def Sp.enc (s:Sp):List C:=(snQ s.lo s.hi).enc
def Lq.enc (l:Lq):List C:=l.x.enc++l.y.enc++l.c.enc++l.s.enc
def Zl (k:Nat) (l:Lq):Prop:=Zb k l.x/\Zb k l.y/\Zb k l.c/\Zb k l.s
def ptS (a:Nm.Rt):Sp:=⟨Nm.d9 a,Nm.d9 a⟩
theorem a3A {k:Nat} {a:Nm.Rt} (h:Rb k a) (hk:1<=k):Zb k (ptS a):=⟨h.fit hk,h.fit hk⟩
def atX (l:Lq) (v:Vt):Sp:=Y2 l.x (a3v (J2 (ptS v.x) l.c) (J2 (ptS v.y) l.s))
def atY (l:Lq) (v:Vt):Sp:=Y2 l.y (Y2 (J2 (ptS v.x) l.s) (J2 (ptS v.y) l.c))
theorem a3h {k:Nat} {a b:Sp} (ha:Zb k a) (hb:Zb k b):Zb k (P7 a b):=⟨a9m (J6 ha).1 (J6 hb).1,a6K (J6 ha).2 (J6 hb).2⟩
def ptQ (q:Rat):Sp:=⟨q,q⟩
def a4J (u s:Sp) (l:List Int):Sp:=l.foldl (fun s (n:Int)=>if a5s u (n:Rat)=true then P7 s (ptQ n) else s) s
def b6j (u:Sp):Sp:=P7 (ptQ (Z4 u.lo)) (ptQ (Z4 u.hi))
def a9r (t:Sp):Sp:=a4J (P7 t t) (b6j (P7 t t)) [-1,1]
theorem a3O {k:Nat} {q:Rat} (h:Rb k (Nm.ofQ q)):Rb (4*k+18) (Nm.ofQ (Z4 q)):=(a9y (a9L q) (K9 h h) (K9 R5 (I5 h h))).mono (by omega)
theorem b8I {k:Nat} {u:Sp} (h:Zb k u):Zb (4*k+18) (b6j u):=a3h ⟨a3O h.1,a3O h.1⟩ ⟨a3O h.2,a3O h.2⟩
theorem b5m {k:Nat} {n:Int} (hk:8<=k) (h:n=-1 \/ n=1):Rb k (Nm.ofQ (n:Rat)):=by
 rcases h with rfl|rfl
 ·exact b0T.mono hk
 ·exact R5.mono hk
theorem b3h {k:Nat} {u:Sp} (hk:8<=k):∀ (l:List Int) (s:Sp),Zb k s->(∀ n ∈ l,n=-1 \/ n=1)->Zb k (a4J u s l)
 | [],s,h,_=>h
 | n::l,s,h,hl=>by
  refine b3h hk l _ ?_ fun m hm=>hl m (by simp [hm])
  have:=b5m hk (hl n (by simp))
  show Zb k (if a5s u (n:Rat)=true then P7 s (ptQ n) else s)
  split
  ·exact a3h h ⟨this,this⟩
  ·exact h
theorem b7x {k:Nat} {t:Sp} (h:Zb k t):Zb (4*k+18) (a9r t):=b3h (by omega) _ _ (b8I (a3h h h)) (by simp)
theorem b8U (u s:Sp) {l:List Int} {i:Nat} {n:Int} (h:l[i]?=some n):a4J u s (l.take (i+1))=if a5s u (n:Rat)=true then P7 (a4J u s (l.take i)) (ptQ n) else a4J u s (l.take i):=by
 unfold a4J
 rw [take_at h,List.foldl_append]
 rfl
def Zr (k:Nat) (s:Sn):Prop:=Rb k s.lo/\Rb k s.hi
theorem Zr.mono {k m:Nat} {s:Sn} (h:Zr k s) (hk:k<=m):Zr m s:=⟨h.1.mono hk,h.2.mono hk⟩
def F8 (s:Sn):Sp:=if H8 s.lo=true/\H8 s.hi=true then ⟨Nm.d9 s.lo,Nm.d9 s.hi⟩ else ⟨0,0⟩
theorem a4O {k:Nat} {s:Sn} (h:Zr k s) (hk:1<=k):Zb k (F8 s):=by
 unfold F8
 split
 ·exact ⟨h.1.fit hk,h.2.fit hk⟩
 ·exact ⟨a4L hk,a4L hk⟩
theorem c1p {s:Sn} (h:H8 s.lo=true/\H8 s.hi=true):s.c=(F8 s).c:=by
 unfold F8
 rw [if_pos h]
 unfold Sp.c snQ
 rw [Nm.a4B (of_decide_eq_true h.1),Nm.a4B (of_decide_eq_true h.2)]
theorem c1j {s:Sn} (h:¬ (H8 s.lo=true/\H8 s.hi=true)):F8 s=⟨0,0⟩:=if_neg h
theorem b9o (s:Sn) (hs:Zr 1073741824 s) (h:¬ (H8 s.lo=true/\H8 s.hi=true)):FZ 132 [s.c] (.v (.bool false)):=by
 refine kW a7o a7e (by rfl) fun w O hw=>?_
 obtain ⟨x,y⟩:=s
 obtain ⟨hp,hq⟩:=hs
 simp only at hp hq h
 have o1:=a0q x (hp.mono (by decide))
 have o2:=a0q y (hq.mono (by decide))
 have e:∀ a:Nm.Rt,decide a.F5=H8 a:=fun _=>rfl
 rw [e] at o1 o2
 have o3:=M6 x y (hp.mono (by decide)) (hq.mono (by decide))
 generalize Nm.q9 (Nm.d9 x) (Nm.d9 y)=c at *
 clear e
 generalize H8 x=g1 at *
 generalize H8 y=g2 at *
 simp only [a4A,j6,TT,II,OA,OC,MM,LL,FF,LG,FG]
 simp only [Sn.c,Sn.enc,rc,sb,ints] at *
 cases g1
 ·(repeat first|refine uG o1 ?_|refine uG o2 ?_|refine uG o3 ?_|refine uA ?_|(apply uK;focus first|omega|(intros;simp_all<;>omega))|simp (disch:=omega) only [go_sem,Nat.reduceBEq,Nat.reduceAdd]|(apply uD o1;exact tz hw;rfl)|(apply uD o2;exact tz hw;rfl)|(apply uD o3;exact tz hw;rfl))
  exact S.done (j4.out rfl (Imp.refl rfl) rfl)
 ·cases g2
  ·(repeat first|refine uG o1 ?_|refine uG o2 ?_|refine uG o3 ?_|refine uA ?_|(apply uK;focus first|omega|(intros;simp_all<;>omega))|simp (disch:=omega) only [go_sem,Nat.reduceBEq,Nat.reduceAdd]|(apply uD o1;exact tz hw;rfl)|(apply uD o2;exact tz hw;rfl)|(apply uD o3;exact tz hw;rfl))
   exact S.done (j4.out rfl (Imp.refl rfl) rfl)
  ·exact absurd ⟨rfl,rfl⟩ h
theorem b9T:I4 ⟨0,0⟩=⟨0,0⟩:=b0H Rat.le_refl
theorem b3B (s:Sn) (hs:Zr 1073741824 s):FZ 70 [s.c] (I4 (F8 s)).c:=by
 by_cases h:H8 s.lo=true/\H8 s.hi=true
 ·rw [c1p h]
  exact a0N _ (a4O hs (by decide))
 refine kW a8t a8x (by rfl) fun w O hw=>?_
 have o1:=b9o s hs h
 have o2:=a2k
 have o3:=X7 (Nm.ofQ 0) (a0j.mono (by decide))
 rw [Nm.q8] at o3
 rw [c1j h,b9T]
 obtain ⟨x,y⟩:=s
 unfold Sp.c snQ at *
 unfold rq at *
 simp only at o1 o3 ⊢
 generalize Nm.ofQ 0=z at *
 simp only [a3z,j6,TT,II,OA,OB,LL]
 simp only [Sn.c,Sn.enc,rc,sb] at o1 o2 o3 ⊢
 (repeat first|refine uG o1 ?_|refine uA ?_|(apply uK;focus omega)|simp (disch:=omega) only [go_sem,Nat.reduceBEq]|(apply uD o1;exact tz hw;rfl))
 refine S.cond rfl (fun hc=>?_) (fun hc=>by simp at hc)
 (repeat first|refine uG o2 ?_|refine uG o3 ?_|refine uA ?_|(apply uK;focus omega)|simp (disch:=omega) only [go_sem,Nat.reduceBEq]|(apply uD o2;exact tz hw;rfl)|(apply uD o3;exact tz hw;rfl))
 (refine S.done ?_;simp only [l9,p9,go_sem,Nat.reduceBEq,Nat.reduceAdd,Nat.reduceLeDiff];(repeat (refine ⟨?_,?_⟩;focus first|trivial|omega|simp));exact j4.out rfl (Imp.refl rfl) rfl)
theorem b9c (t:Sn) (a:Sp) (hta:F8 t=a) (ht:Zr 1073741824 t):FZ 33 [t.c,t.c] (P7 a a).c:=by
 refine kW a7w a7G (by rfl) fun w O hw=>?_
 have o1:=b3B t ht
 rw [hta] at o1
 have fa:=J6 (a4O ht (by decide))
 rw [hta] at fa
 unfold P7
 generalize I4 a=a2 at *
 obtain ⟨p,q⟩:=a2
 have o3:=a3K (Nm.ofQ p) (Nm.ofQ p) (fa.1.mono (by decide)) (fa.1.mono (by decide))
 have o4:=a4V (Nm.ofQ q) (Nm.ofQ q) (fa.2.mono (by decide)) (fa.2.mono (by decide))
 rw [Nm.q8] at o3 o4
 obtain ⟨a1,a2⟩:=t
 unfold Sp.c snQ at *
 unfold rq at *
 simp only at o1 o3 o4 ⊢
 generalize Nm.ofQ (G9 p p)=m1 at *
 generalize Nm.ofQ (G8 q q)=m2 at *
 generalize Nm.ofQ p=x at *
 generalize Nm.ofQ q=y at *
 simp only [a4x,j6,TT,OA,OB,LL,FF]
 simp only [Sn.c,Sn.enc,rc,sb] at o1 o3 o4 ⊢
 (repeat first|refine uG o1 ?_|refine uG o3 ?_|refine uG o4 ?_|refine uA ?_|(apply uK;focus first|omega|(intros;simp_all<;>omega))|simp (disch:=omega) only [go_sem,Nat.reduceBEq,Nat.reduceAdd]|(apply uD o1;exact tz hw;rfl)|(apply uD o3;exact tz hw;rfl)|(apply uD o4;exact tz hw;rfl))
 (refine S.done ?_;simp only [l9,p9,go_sem,Nat.reduceBEq,Nat.reduceAdd,Nat.reduceLeDiff];(repeat (refine ⟨?_,?_⟩;focus first|trivial|omega|simp));exact j4.out rfl (Imp.refl rfl) rfl)
theorem c2r (t:Sn) (s:Sp) (hts:F8 t=s) (ht:Zr 268435456 t):FZ 178 [t.c] (a5G s).c:=by
 refine kW b6D b6i (by rfl) fun w O hw=>?_
 have o1:=b3B t (ht.mono (by decide))
 have hs:=a4O ht (by decide)
 rw [hts] at o1 hs
 clear hts
 have fs:=J6 hs
 have hsq:=c1E hs
 have o4:=a2k
 have o5:=b5H (I4 s) (Nm.ofQ 0) (fs.mono (by decide)) (a0j.mono (by decide))
 rw [Nm.q8] at o5
 unfold a5G
 unfold sqI at *
 generalize hfs:I4 s=s2 at *
 obtain ⟨p,q⟩:=s2
 try simp only at fs hsq ⊢
 have o2:=a2f p p (fs.1.mono (by decide)) (fs.1.mono (by decide))
 have o3:=a2f q q (fs.2.mono (by decide)) (fs.2.mono (by decide))
 have o7:=b3U (p*p) [q*q] ((I5 fs.1 fs.1).mono (by decide)) (fun x hx=>by
  rw [List.mem_singleton] at hx
  subst hx
  exact (I5 fs.2 fs.2).mono (by decide)) (by simp)
 generalize arF (p*p) [q*q]=R at *
 generalize a5s ⟨p,q⟩ 0=b at *
 obtain ⟨s1,s2⟩:=t
 obtain ⟨r1,r2⟩:=R
 unfold Sp.c snQ at *
 unfold rq at *
 simp only [c6V,c6Z] at o1 o5 o7 ⊢
 generalize Nm.ofQ (p*p)=m1 at *
 generalize Nm.ofQ (q*q)=m2 at *
 have hz:∀ b:Bool,(if b=true then (⟨0,r2⟩:Sp) else ⟨r1,r2⟩)=⟨if b=true then 0 else r1,r2⟩:=fun b=>by cases b<;>rfl
 rw [hz]
 simp only
 cases b
 ·simp only [c7o,if_false]
  generalize Nm.ofQ 0=z0 at *
  generalize Nm.ofQ p=x at *
  generalize Nm.ofQ q=y at *
  generalize Nm.ofQ r1=n5 at *
  generalize Nm.ofQ r2=n6 at *
  simp only [a6J,j6,TT,II,OA,OB,LL,FF]
  simp only [Sn.c,Sn.enc,rc,rcs,sb] at o1 o2 o3 o4 o5 o7 ⊢
  (repeat first|refine uG o1 ?_|refine uG o2 ?_|refine uG o3 ?_|refine uG o4 ?_|refine uG o5 ?_|refine uG o7 ?_|refine uA ?_|(refine uK ?_ ?_;focus first|omega|(intros;simp_all<;>omega))|simp (disch:=omega) only [go_sem,Nat.reduceBEq,Nat.reduceAdd]|(refine uD o1 ?_ ?_ ?_;exact tz hw;exact rfl)|(refine uD o2 ?_ ?_ ?_;exact tz hw;exact rfl)|(refine uD o3 ?_ ?_ ?_;exact tz hw;exact rfl)|(refine uD o4 ?_ ?_ ?_;exact tz hw;exact rfl)|(refine uD o5 ?_ ?_ ?_;exact tz hw;exact rfl)|(refine uE o7 ?_ ?_ ?_ ?_;exact tz hw;exact rfl;focus (repeat' first|exact j5.nil|exact Imp.refl rfl|exact Imp.frz rfl rfl rfl|(refine Imp.M8 rfl rfl ?_ ?_;(focus ((try simp only [c6M]);omega));(focus first|rfl|assumption))|refine j5.cons ?_ ?_);done))
  refine S.cond rfl (fun hc=>by simp at hc) (fun hc=>?_)
  (repeat first|refine uA ?_|(refine uK ?_ ?_;focus first|omega|(intros;simp_all<;>omega))|simp (disch:=omega) only [go_sem,Nat.reduceBEq,Nat.reduceAdd])
  (refine S.done ?_;simp only [l9,p9,go_sem,Nat.reduceBEq,Nat.reduceAdd,Nat.reduceLeDiff];(repeat (refine ⟨?_,?_⟩;focus first|trivial|omega|simp));exact j4.out rfl (Imp.refl rfl) rfl)
 ·simp only [if_true]
  generalize Nm.ofQ 0=z0 at *
  generalize Nm.ofQ p=x at *
  generalize Nm.ofQ q=y at *
  generalize Nm.ofQ r1=n5 at *
  generalize Nm.ofQ r2=n6 at *
  simp only [a6J,j6,TT,II,OA,OB,LL,FF]
  simp only [Sn.c,Sn.enc,rc,rcs,sb] at o1 o2 o3 o4 o5 o7 ⊢
  (repeat first|refine uG o1 ?_|refine uG o2 ?_|refine uG o3 ?_|refine uG o4 ?_|refine uG o5 ?_|refine uG o7 ?_|refine uA ?_|(refine uK ?_ ?_;focus first|omega|(intros;simp_all<;>omega))|simp (disch:=omega) only [go_sem,Nat.reduceBEq,Nat.reduceAdd]|(refine uD o1 ?_ ?_ ?_;exact tz hw;exact rfl)|(refine uD o2 ?_ ?_ ?_;exact tz hw;exact rfl)|(refine uD o3 ?_ ?_ ?_;exact tz hw;exact rfl)|(refine uD o4 ?_ ?_ ?_;exact tz hw;exact rfl)|(refine uD o5 ?_ ?_ ?_;exact tz hw;exact rfl)|(refine uE o7 ?_ ?_ ?_ ?_;exact tz hw;exact rfl;focus (repeat' first|exact j5.nil|exact Imp.refl rfl|exact Imp.frz rfl rfl rfl|(refine Imp.M8 rfl rfl ?_ ?_;(focus ((try simp only [c6M]);omega));(focus first|rfl|assumption))|refine j5.cons ?_ ?_);done))
  refine S.cond rfl (fun hc=>?_) (fun hc=>by simp at hc)
  (repeat first|refine uG o4 ?_|refine uA ?_|(refine uK ?_ ?_;focus first|omega|(intros;simp_all<;>omega))|simp (disch:=omega) only [go_sem,Nat.reduceBEq,Nat.reduceAdd]|(refine uD o4 ?_ ?_ ?_;exact tz hw;exact rfl))
  (refine S.done ?_;simp only [l9,p9,go_sem,Nat.reduceBEq,Nat.reduceAdd,Nat.reduceLeDiff];(repeat (refine ⟨?_,?_⟩;focus first|trivial|omega|simp));exact j4.out rfl (Imp.refl rfl) rfl)
theorem c3V (r:Sn) (s:Sp) (hrs:F8 r=s) (hr:Zr 268435456 r):FZ 116 [r.c] (a9g s).c:=by
 refine kW b0c b0d (by rfl) fun w O hw=>?_
 have o1:=c2r r s hrs hr
 have hs:=a4O hr (by decide)
 rw [hrs] at hs
 have fs:=b3x hs
 have hp:=a8S s
 unfold a9g
 generalize a5G s=t at *
 obtain ⟨p,q⟩:=t
 have o2:=b8C q hp.2 (fs.2.mono (by decide))
 have o3:=b8C p hp.1 (fs.1.mono (by decide))
 obtain ⟨s1,s2⟩:=r
 unfold Sp.c snQ at *
 unfold rq at *
 simp only at o1 ⊢
 generalize Nm.ofQ (a9i p)=m1 at *
 generalize Nm.ofQ (a9i q)=m2 at *
 generalize Nm.ofQ p=m3 at *
 generalize Nm.ofQ q=m4 at *
 simp only [a5g,j6,TT,OA,OB,MM,LL,FF]
 simp only [Sn.c,Sn.enc,rc,sb] at o1 o2 o3 ⊢
 (repeat first|refine uG o1 ?_|refine uA ?_|(apply uK;focus omega)|simp (disch:=omega) only [go_sem,Nat.reduceBEq]|(apply uD o1;exact tz hw;rfl))
 refine ⟨rfl,?_⟩
 (repeat first|refine uG o2 ?_|refine uA ?_|(apply uK;focus first|omega|(intros;simp_all<;>omega))|simp (disch:=omega) only [go_sem,Nat.reduceBEq,Nat.reduceAdd]|(apply uD o2;exact tz hw;rfl))
 refine ⟨rfl,?_⟩
 (repeat first|refine uG o3 ?_|refine uA ?_|(apply uK;focus omega)|simp (disch:=omega) only [go_sem,Nat.reduceBEq]|(apply uD o3;exact tz hw;rfl))
 (refine S.done ?_;simp only [l9,p9,go_sem,Nat.reduceBEq,Nat.reduceAdd,Nat.reduceLeDiff];(repeat (refine ⟨?_,?_⟩;focus first|trivial|omega|simp));exact j4.out rfl (Imp.refl rfl) rfl)
theorem c5d (r:Sn) (t:Sp) (hrt:F8 r=t) (hr:Zr 16777216 r):FZ 117 [r.c] (a9r t).c:=by
 refine kW b0a a9B (by rfl) fun w O hw=>?_
 have o1:=b9c r t hrt (hr.mono (by decide))
 have hs:=a4O hr (by decide)
 rw [hrt] at hs
 have b1:=a3h hs hs
 unfold a9r
 generalize P7 t t=u at *
 have o2:=b2n (Nm.ofQ u.lo) (b1.1.mono (by decide))
 have o3:=b2n (Nm.ofQ u.hi) (b1.2.mono (by decide))
 have o4:=b2R false (Nm.ofQ u.lo) (b1.1.mono (by decide))
 have o5:=b2R false (Nm.ofQ u.hi) (b1.2.mono (by decide))
 simp only [J7,c7o,if_false] at o4 o5
 rw [Nm.q8] at o2 o3 o4 o5
 have c1:=a3O b1.1
 have c2:=a3O b1.2
 have o6:=X7 (Nm.ofQ (Z4 u.lo)) (c1.mono (by decide))
 have o7:=X7 (Nm.ofQ (Z4 u.hi)) (c2.mono (by decide))
 rw [Nm.q8] at o6 o7
 have o8:=a4D (ptQ (Z4 u.lo)) (ptQ (Z4 u.hi)) ⟨c1.mono (by decide),c1.mono (by decide)⟩ ⟨c2.mono (by decide),c2.mono (by decide)⟩
 rw [show P7 (ptQ (Z4 u.lo)) (ptQ (Z4 u.hi))=b6j u from rfl] at o8
 have d0:=b8I b1
 generalize b6j u=s at *
 unfold ptQ at o8
 generalize Z4 u.lo=x1 at *
 generalize Z4 u.hi=x2 at *
 have hI:a4J u s []=s:=rfl
 obtain ⟨L,hL,hn,hm⟩:∃ L:List Int,L=[-1,1]/\L.length=2/\∀ n ∈ L,n=-1 \/ n=1:=⟨_,rfl,rfl,by simp⟩
 rw [<- hL]
 simp only [a5h,j6,TT,II,OA,OB,MM,LL,VV,FF]
 simp only [Sp.c,Sn.c,Sn.enc,snQ,rq,tq,rc,tc,sb] at o1 o2 o3 o4 o5 o6 o7 o8 ⊢
 (repeat first|refine uG o1 ?_|refine uG o2 ?_|refine uG o3 ?_|refine uG o4 ?_|refine uG o5 ?_|refine uG o6 ?_|refine uG o7 ?_|refine uG o8 ?_|refine uA ?_|(refine uK ?_ ?_;focus first|omega|(intros;simp_all<;>omega))|simp (disch:=omega) only [go_sem,Nat.reduceBEq,Nat.reduceAdd]|(refine uD o1 ?_ ?_ ?_;exact tz hw;exact rfl)|(refine uD o2 ?_ ?_ ?_;exact tz hw;exact rfl)|(refine uD o3 ?_ ?_ ?_;exact tz hw;exact rfl)|(refine uD o4 ?_ ?_ ?_;exact tz hw;exact rfl)|(refine uD o5 ?_ ?_ ?_;exact tz hw;exact rfl)|(refine uD o6 ?_ ?_ ?_;exact tz hw;exact rfl)|(refine uD o7 ?_ ?_ ?_;exact tz hw;exact rfl)|(refine uD o8 ?_ ?_ ?_;exact tz hw;exact rfl))
 refine S.loop (X:=Nat) (fun i=>⟨[(1,.bp 0 0),(2,.bp 1 0),(3,.bp 2 0),(21,.rv 3),(22,ints L.length),(23,ints i)],[.box 89 u.enc,.box 89 [.v (.bool false),sb [],sb [],.v (.bool false),sb [],sb []],.box 89 (a4J u s (L.take i)).enc,.row 3 1 (L.map fun n=>[ints n])]⟩) (fun i=>i<=L.length) (fun i=>L.length-i) 0 (c6K _) (by simp only [List.take_zero,hI,hL,Sp.enc,snQ,Sn.enc,sb];exact (by (repeat first|refine uA ?_|(refine ⟨?_,?_⟩;focus first|rfl|simp [slot])|rfl|simp))) ?_
 intro i hi
 clear o1 o2 o3 o4 o5 o6 o7 o8 hI hL
 simp only [Sp.enc,Sn.enc,snQ,sb,ints]
 (repeat first|refine uA ?_|(refine uK ?_ ?_;focus first|omega|(intros;simp_all<;>omega))|simp (disch:=omega) only [go_sem,Nat.reduceBEq])
 (refine uJ rfl (fun hc=>?_) fun hc=>?_)
 ·have hi':i < L.length:=by omega
  have hg:=c6E hi'
  generalize L[i]=n at *
  have hsu:=b8U u s hg
  have hu:=hm n (c6H hg)
  have ru:=b5m (k:=16777216) (by decide) hu
  have o1:=a2h n (by omega) (by omega)
  have o2:=b5H u (Nm.ofQ (n:Rat)) (b1.mono (by decide)) (ru.mono (by decide))
  have o3:=X7 (Nm.ofQ (n:Rat)) (ru.mono (by decide))
  have dI:Zb 67108882 (a4J u s (L.take i)):=b3h (by decide) _ _ (d0.mono (by decide)) fun m h=>hm m (List.mem_of_mem_take h)
  have o4:=a4D (a4J u s (L.take i)) (ptQ n) (dI.mono (by decide)) ⟨ru.mono (by decide),ru.mono (by decide)⟩
  rw [Nm.q8] at o2 o3
  generalize a4J u s (L.take i)=v at *
  unfold ptQ at o4 hsu
  generalize a5s u (n:Rat)=b at *
  clear ru dI d0 b1 c1 c2 hu hm
  generalize (n:Rat)=q at *
  generalize P7 v ⟨q,q⟩=v3 at *
  simp only [Sp.c,Sn.c,Sn.enc,snQ,rq,rc,sb,ints] at o1 o2 o3 o4
  (repeat first|refine uG o1 ?_|refine uG o2 ?_|refine uA ?_|(refine uK ?_ ?_;focus first|omega|(intros;simp_all<;>omega))|simp (disch:=omega) only [go_sem,Nat.reduceBEq,Nat.reduceAdd,hg,c6G,c6F,c6I]|(refine uD o1 ?_ ?_ ?_;exact tz hw;exact rfl)|(refine uD o2 ?_ ?_ ?_;exact tz hw;exact rfl))
  refine S.cond rfl (fun hc=>?_) (fun hc=>?_)
  ·rw [if_pos (by simpa using hc)] at hsu
   (repeat first|refine uG o3 ?_|refine uG o4 ?_|refine uA ?_|(refine uK ?_ ?_;focus first|omega|(intros;simp_all<;>omega))|simp (disch:=omega) only [go_sem,Nat.reduceBEq,Nat.reduceAdd,ww]|(refine uD o3 ?_ ?_ ?_;exact tz hw;exact rfl)|(refine uD o4 ?_ ?_ ?_;exact tz hw;exact rfl))
   refine S.next (i+1) (by omega) (by omega) (by rw [hsu];exact (by (repeat first|refine uA ?_|(refine ⟨?_,?_⟩;focus first|rfl|simp [slot])|rfl|simp)))
  ·rw [if_neg (by simpa using hc)] at hsu
   (repeat first|refine uA ?_|(refine uK ?_ ?_;focus first|omega|(intros;simp_all<;>omega))|simp (disch:=omega) only [go_sem,Nat.reduceBEq,ww])
   refine S.next (i+1) (by omega) (by omega) (by rw [hsu];exact (by (repeat first|refine uA ?_|(refine ⟨?_,?_⟩;focus first|rfl|simp [slot])|rfl|simp)))
 ·have hi':i=L.length:=by omega
  subst hi'
  rw [c6X]
  (repeat first|refine uA ?_|(refine uK ?_ ?_;focus first|omega|(intros;simp_all<;>omega))|simp (disch:=omega) only [go_sem,Nat.reduceBEq,Nat.reduceAdd])
  (refine S.done ?_;simp only [l9,p9,go_sem,Nat.reduceBEq,Nat.reduceAdd,Nat.reduceLeDiff];(repeat (refine ⟨?_,?_⟩;focus first|trivial|omega|simp));exact j4.out rfl (Imp.refl rfl) rfl)
def a3i:M4:=⟨112,[.tmp 4,.tmp 5],.seq (.reg [OA 2 (.box 49 (TT 0)),OA 4 (.mv (.const (.slice none 0 0))),OA 5 (.mv (II 0))]) (.seq (.seq (.reg [LL 16 12 2,MM 17 1,OA 18 (.len false (TT 17)),OA 19 (.call 113 [TT 16,TT 18]),MM 6 19])
 (.seq (.reg [MM 20 6,OA 21 (.bin .neq (TT 20) (II 0))]) (.cond (TT 21) (.seq (.reg [MM 22 6,OA 4 (.mv (.const (.slice none 0 0))),MM 5 22]) .ret) .skip))) (.seq (.reg [FF 23 1 2,LL 24 10 23,OA 7 (.alloc 46 [.bool false,
 .string ⟨#[]⟩,.string ⟨#[]⟩,.bool false,.string ⟨#[]⟩,.string ⟨#[]⟩,.bool false,.bool false,.string ⟨#[]⟩,.string ⟨#[]⟩]),OB (.store 10 (TT 7) (TT 24))]) (.seq (.D6 [.q,.q,.q,.q,.q,.q,.q,.q,.q,.q,.q,.q,.q,
 .q,.q,.q,.q,.a,.e (some 8) true] [FF 25 0 7,FF 26 0 25,LL 27 3 26,OA 28 (.call 34 [TT 27]),FF 29 0 7,FF 30 3 29,LL 31 3 30,OA 32 (.call 34 [TT 31]),FF 33 6 7,LL 34 4 33,OA 35 (.call 114 [TT 34]),OA 36 (.call 34
 [TT 35]),FF 37 6 7,LL 38 4 37,OA 39 (.call 115 [TT 38]),OA 40 (.call 34 [TT 39]),OA 41 (.build [.bool false,.string ⟨#[]⟩,.string ⟨#[]⟩,.bool false,.string ⟨#[]⟩,.string ⟨#[]⟩,.bool false,.string ⟨#[]⟩,.string
 ⟨#[]⟩,.bool false,.string ⟨#[]⟩,.string ⟨#[]⟩,.bool false,.string ⟨#[]⟩,.string ⟨#[]⟩,.bool false,.string ⟨#[]⟩,.string ⟨#[]⟩,.bool false,.string ⟨#[]⟩,.string ⟨#[]⟩,.bool false,.string ⟨#[]⟩,.string ⟨#[]⟩] [(0,
 (6,TT 28)),(6,(6,TT 32)),(12,(6,TT 36)),(18,(6,TT 40))]),OA 8 (.alloc 122 [.bool false,.string ⟨#[]⟩,.string ⟨#[]⟩,.bool false,.string ⟨#[]⟩,.string ⟨#[]⟩,.bool false,.string ⟨#[]⟩,.string ⟨#[]⟩,.bool false,
 .string ⟨#[]⟩,.string ⟨#[]⟩,.bool false,.string ⟨#[]⟩,.string ⟨#[]⟩,.bool false,.string ⟨#[]⟩,.string ⟨#[]⟩,.bool false,.string ⟨#[]⟩,.string ⟨#[]⟩,.bool false,.string ⟨#[]⟩,.string ⟨#[]⟩]),OB (.store 24 (TT 8) (TT
 41))]) (.seq (.reg [OA 9 (.mv (.const (.slice none 0 0)))]) (.seq (.seq (.reg [FF 42 11 2,VV 43 42,OA 44 (.len false (TT 43)),OA 45 (.mv (II 0))]) (.block 0 (.loop (.seq (.reg [OA 46 (.bin .lss (TT 45) (TT 44))]) (.seq (.cond
 (TT 46) .skip (.exit 0)) (.seq (.block 1 (.seq (.reg [MM 47 45,OA 48 (.x9 16 (TT 43) (TT 45)),LL 49 16 48,OA 11 (.alloc 95 [.bool false,.string ⟨#[]⟩,.string ⟨#[]⟩,.bool false,.string ⟨#[]⟩,.string ⟨#[]⟩,.bool false,
 .string ⟨#[]⟩,.string ⟨#[]⟩,.bool false,.string ⟨#[]⟩,.string ⟨#[]⟩,.bool false,.string ⟨#[]⟩,.string ⟨#[]⟩,.slice none 0 0]),MM 10 47,OB (.store 16 (TT 11) (TT 49))]) (.seq (.D6 [.q,.q,.q,.q,.q,.q,.q,.q,.q,
 .q,.a,.a,.e (some 12) true,.e (some 13) true] [MM 50 1,MM 51 10,OA 52 (.x9 6 (TT 50) (TT 51)),LL 53 6 52,OA 54 (.call 116 [TT 53]),MM 55 1,MM 56 10,OA 57 (.x9 6 (TT 55) (TT 56)),LL 58 6 57,OA 59 (.call 117 [TT
 58]),OA 12 (.alloc 89 [.bool false,.string ⟨#[]⟩,.string ⟨#[]⟩,.bool false,.string ⟨#[]⟩,.string ⟨#[]⟩]),OA 13 (.alloc 89 [.bool false,.string ⟨#[]⟩,.string ⟨#[]⟩,.bool false,.string ⟨#[]⟩,.string ⟨#[]⟩]),OB (.store
 6 (TT 12) (TT 54)),OB (.store 6 (TT 13) (TT 59))]) (.seq (.reg [LL 60 24 8,OA 14 (.alloc 122 [.bool false,.string ⟨#[]⟩,.string ⟨#[]⟩,.bool false,.string ⟨#[]⟩,.string ⟨#[]⟩,.bool false,.string ⟨#[]⟩,.string ⟨#[]⟩,
 .bool false,.string ⟨#[]⟩,.string ⟨#[]⟩,.bool false,.string ⟨#[]⟩,.string ⟨#[]⟩,.bool false,.string ⟨#[]⟩,.string ⟨#[]⟩,.bool false,.string ⟨#[]⟩,.string ⟨#[]⟩,.bool false,.string ⟨#[]⟩,.string ⟨#[]⟩]),OB (.store
 24 (TT 14) (TT 60))]) (.seq (.D6 [.q,.q,.q,.q,.q,.q,.q,.q,.q,.q,.q,.e none true] [FF 61 12 8,LL 62 6 61,LL 63 6 12,OA 64 (.call 120 [TT 62,TT 63]),FF 65 18 8,LL 66 6 65,LL 67 6 13,OA 68 (.call 120 [TT 66,TT
 67]),OA 69 (.call 119 [TT 64,TT 68]),OA 70 (.call 118 [TT 69]),FF 71 12 14,OB (.store 6 (TT 71) (TT 70))]) (.seq (.D6 [.q,.q,.q,.q,.q,.q,.q,.q,.q,.q,.q,.e none true] [FF 72 18 8,LL 73 6 72,LL 74 6 12,OA 75
 (.call 120 [TT 73,TT 74]),FF 76 12 8,LL 77 6 76,LL 78 6 13,OA 79 (.call 120 [TT 77,TT 78]),OA 80 (.call 121 [TT 75,TT 79]),OA 81 (.call 118 [TT 80]),FF 82 18 14,OB (.store 6 (TT 82) (TT 81))]) (.seq (.reg [MM 83 9,LL
 84 24 14,OA 85 (.bsl 122 24 1 [.bool false,.string ⟨#[]⟩,.string ⟨#[]⟩,.bool false,.string ⟨#[]⟩,.string ⟨#[]⟩,.bool false,.string ⟨#[]⟩,.string ⟨#[]⟩,.bool false,.string ⟨#[]⟩,.string ⟨#[]⟩,.bool false,.string
 ⟨#[]⟩,.string ⟨#[]⟩,.bool false,.string ⟨#[]⟩,.string ⟨#[]⟩,.bool false,.string ⟨#[]⟩,.string ⟨#[]⟩,.bool false,.string ⟨#[]⟩,.string ⟨#[]⟩] [(0,TT 84)]),OA 86 (.app 122 24 320 (TT 83) (TT 85)),MM 9 86]) (.seq (.reg
 [FF 87 0 11,LL 88 3 87,OA 89 (.call 34 [TT 88]),OA 15 (.alloc 89 [.bool false,.string ⟨#[]⟩,.string ⟨#[]⟩,.bool false,.string ⟨#[]⟩,.string ⟨#[]⟩]),OB (.store 6 (TT 15) (TT 89))]) (.seq (.D6 [.q,.q,.q,.q,.q,.q,
 .q,.q,.e none true] [FF 90 0 14,LL 91 6 90,LL 92 6 15,FF 93 12 14,LL 94 6 93,OA 95 (.call 120 [TT 92,TT 94]),OA 96 (.call 121 [TT 91,TT 95]),FF 97 0 14,OB (.store 6 (TT 97) (TT 96))]) (.seq (.D6 [.q,.q,.q,.q,
 .q,.q,.q,.q,.e none true] [FF 98 6 14,LL 99 6 98,LL 100 6 15,FF 101 18 14,LL 102 6 101,OA 103 (.call 120 [TT 100,TT 102]),OA 104 (.call 121 [TT 99,TT 103]),FF 105 6 14,OB (.store 6 (TT 105) (TT 104))]) (.reg [LL
 106 24 14,OB (.store 24 (TT 8) (TT 106))]))))))))))) (.reg [OA 107 (.bin .add (TT 45) (II 1)),MM 45 107]))))))) (.seq (.reg [MM 108 9,LL 109 24 8,OA 110 (.bsl 122 24 1 [.bool false,.string ⟨#[]⟩,.string ⟨#[]⟩,.bool false,
 .string ⟨#[]⟩,.string ⟨#[]⟩,.bool false,.string ⟨#[]⟩,.string ⟨#[]⟩,.bool false,.string ⟨#[]⟩,.string ⟨#[]⟩,.bool false,.string ⟨#[]⟩,.string ⟨#[]⟩,.bool false,.string ⟨#[]⟩,.string ⟨#[]⟩,.bool false,.string
 ⟨#[]⟩,.string ⟨#[]⟩,.bool false,.string ⟨#[]⟩,.string ⟨#[]⟩] [(0,TT 109)]),OA 111 (.app 122 24 320 (TT 108) (TT 110)),MM 4 111,OA 5 (.mv (II 0))]) .ret))))))⟩
theorem a6h:I9 eff Tryz.prog Tryz.f52=some a3i:=by kernel_rfl
theorem a5U:Tryz.prog.funcs[52]?=some Tryz.f52:=Tryz.func52
def a5x (n:Lq) (t:Sp):Lq:=⟨n.x,n.y,a3t (a3v (J2 n.c (a9g t)) (J2 n.s (a9r t))),a3t (Y2 (J2 n.s (a9g t)) (J2 n.c (a9r t)))⟩
def b6J (f:Lq) (l:Lk):Lq:=⟨Y2 f.x (J2 (ptS l.length) f.c),Y2 f.y (J2 (ptS l.length) f.s),f.c,f.s⟩
def P5:Lq->List (Lk × Sp)->List Lq
 | n,[]=>[n]
 | n,(l,t)::r=>a5x n t::P5 (b6J (a5x n t) l) r
def a0J (b:Fr):Lq:=⟨ptS b.x,ptS b.y,ptQ (a2u b.half (J7 b.half b.t)),ptQ (Z4 (J7 b.half b.t))⟩
def SB (i:Nat):Nat:=262144*6 ^ i
theorem Zl.mono {k m:Nat} {l:Lq} (h:Zl k l) (hm:k<=m):Zl m l:=⟨h.1.mono hm,h.2.1.mono hm,h.2.2.1.mono hm,h.2.2.2.mono hm⟩
theorem c6d {L:List Lk} {q:List Sp} {i:Nat} {l:Lk} {t:Sp} (h1:L[i]?=some l) (h2:q[i]?=some t):(L.zip q)[i]?=some (l,t):=by
 rw [List.getElem?_zip_eq_some]
 exact ⟨h1,h2⟩
def a5Q:M4:=⟨18,[.cell 2 true 12],.seq (.reg [OA 1 (.box 122 (TT 0)),OA 2 (.alloc 42 [.bool false,.string ⟨#[]⟩,.string ⟨#[]⟩,.bool false,.string ⟨#[]⟩,.string ⟨#[]⟩,.bool false,.string ⟨#[]⟩,.string ⟨#[]⟩,.bool false,.string
 ⟨#[]⟩,.string ⟨#[]⟩])]) (.seq (.reg [FF 3 0 1,FF 4 0 3,LL 5 3 4,FF 6 6 1,FF 7 0 6,LL 8 3 7,OA 9 (.build [.bool false,.string ⟨#[]⟩,.string ⟨#[]⟩,.bool false,.string ⟨#[]⟩,.string ⟨#[]⟩] [(0,(3,TT 5)),(3,(3,TT
 8))]),FF 10 0 1,FF 11 3 10,LL 12 3 11,FF 13 6 1,FF 14 3 13,LL 15 3 14,OA 16 (.build [.bool false,.string ⟨#[]⟩,.string ⟨#[]⟩,.bool false,.string ⟨#[]⟩,.string ⟨#[]⟩] [(0,(3,TT 12)),(3,(3,TT 15))]),OA 17 (.build
 [.bool false,.string ⟨#[]⟩,.string ⟨#[]⟩,.bool false,.string ⟨#[]⟩,.string ⟨#[]⟩,.bool false,.string ⟨#[]⟩,.string ⟨#[]⟩,.bool false,.string ⟨#[]⟩,.string ⟨#[]⟩] [(0,(6,TT 9)),(6,(6,TT 16))]),OB (.store 12 (TT
 2) (TT 17))]) .ret)⟩
theorem a8I:I9 eff Tryz.prog Tryz.f54=some a5Q:=by kernel_rfl
theorem a8A:Tryz.prog.funcs[54]?=some Tryz.f54:=Tryz.func54
def a6W:M4:=⟨31,[.tmp 4,.tmp 5],.seq (.reg [OA 2 (.box 49 (TT 0)),OA 4 (.mv (.const (.slice none 0 0))),OA 5 (.mv (II 0))]) (.seq (.reg [LL 12 12 2,MM 13 1,OA 14 (.call 52 [TT 12,TT 13]),MM 11 14,OA 15 (.ext (TT 11) 0),OA 16 (.ext
 (TT 11) 1),MM 6 15,MM 7 16]) (.seq (.reg [OA 8 (.mv (.const (.slice none 0 0)))]) (.seq (.seq (.reg [MM 17 6,OA 18 (.len false (TT 17)),OA 19 (.mv (II 0))]) (.block 0 (.loop (.seq (.reg [OA 20 (.bin .lss (TT 19) (TT 18))])
 (.seq (.cond (TT 20) .skip (.exit 0)) (.seq (.block 1 (.seq (.reg [OA 21 (.x9 24 (TT 17) (TT 19)),LL 22 24 21,OA 10 (.alloc 122 [.bool false,.string ⟨#[]⟩,.string ⟨#[]⟩,.bool false,.string ⟨#[]⟩,.string ⟨#[]⟩,.bool
 false,.string ⟨#[]⟩,.string ⟨#[]⟩,.bool false,.string ⟨#[]⟩,.string ⟨#[]⟩,.bool false,.string ⟨#[]⟩,.string ⟨#[]⟩,.bool false,.string ⟨#[]⟩,.string ⟨#[]⟩,.bool false,.string ⟨#[]⟩,.string ⟨#[]⟩,.bool false,
 .string ⟨#[]⟩,.string ⟨#[]⟩]),OB (.store 24 (TT 10) (TT 22))]) (.reg [MM 23 8,LL 24 24 10,OA 25 (.call 54 [TT 24]),OA 26 (.bsl 42 12 1 [.bool false,.string ⟨#[]⟩,.string ⟨#[]⟩,.bool false,.string ⟨#[]⟩,.string ⟨#[]⟩,
 .bool false,.string ⟨#[]⟩,.string ⟨#[]⟩,.bool false,.string ⟨#[]⟩,.string ⟨#[]⟩] [(0,TT 25)]),OA 27 (.app 42 12 160 (TT 23) (TT 26)),MM 8 27]))) (.reg [OA 28 (.bin .add (TT 19) (II 1)),MM 19 28]))))))) (.seq (.reg [MM
 29 8,MM 30 7,MM 4 29,MM 5 30]) .ret))))⟩
theorem b1U:I9 eff Tryz.prog Tryz.f20=some a6W:=by kernel_rfl
theorem b2d:Tryz.prog.funcs[20]?=some Tryz.f20:=Tryz.func20
structure Bq where
 lx:Rat
 ly:Rat
 hx:Rat
 hy:Rat
def Bq.enc (b:Bq):List C:=[.v (.bool (Nm.ofQ b.lx).neg),sb (Nm.ofQ b.lx).num,sb (Nm.ofQ b.lx).den,.v (.bool (Nm.ofQ b.ly).neg),sb (Nm.ofQ b.ly).num,sb (Nm.ofQ b.ly).den,.v (.bool (Nm.ofQ b.hx).neg),sb (Nm.ofQ b.hx).num,sb (Nm.ofQ b.hx).den,.v (.bool (Nm.ofQ b.hy).neg),sb (Nm.ofQ b.hy).num,sb (Nm.ofQ b.hy).den]
def b0G (l:Lq):Bq:=⟨l.x.lo,l.y.lo,l.x.hi,l.y.hi⟩
theorem c5o (l:Lq):FZ 54 [.agg l.enc] (.agg (b0G l).enc):=by
 refine kW a8A a8I (by rfl) fun w O hw=>?_
 obtain ⟨⟨x1,x2⟩,⟨y1,y2⟩,⟨c1,c2⟩,⟨s1,s2⟩⟩:=l
 simp only [a5Q,j6,TT,II,OA,OB,OC,MM,LL,VV,FF,MG,LG,VG,FG]
 simp only [b0G,Bq.enc,Lq.enc,Sp.enc,Sn.enc,snQ,sb,List.cons_append,List.nil_append]
 (repeat first|refine uA ?_|(refine uK ?_ ?_;focus first|omega|(intros;simp_all<;>omega))|simp (disch:=omega) only [go_sem,Nat.reduceBEq,Nat.reduceAdd,ww])
 (refine S.done ?_;simp only [l9,p9,go_sem,Nat.reduceBEq,Nat.reduceAdd,Nat.reduceLeDiff,Int.reduceToNat,Int.reducePow];(repeat (refine ⟨?_,?_⟩;focus first|trivial|omega|simp));exact j4.out rfl (Imp.refl rfl) rfl)
theorem a2V:∀ (Z:List (Lk × Sp)) (n:Lq),(P5 n Z).length=Z.length+1
 | [],_=>rfl
 | (l,t)::r,n=>by rw [P5,c7g,a2V r,c7g]
def a1X (a:Am) (q:List Sp):List Bq:=(P5 (a0J a.base) (a.links.zip q)).map b0G
def a2Z:M4:=⟨79,[.tmp 4,.tmp 5],.seq (.reg [OA 2 (.box 49 (TT 0)),OA 4 (.mv (.const (.slice none 0 0))),OA 5 (.mv (II 0))]) (.seq (.reg [LL 18 12 2,MM 19 1,OA 20 (.call 52 [TT 18,TT 19]),MM 17 20,OA 21 (.ext (TT 17) 0),OA 22 (.ext
 (TT 17) 1),MM 6 21,MM 7 22]) (.seq (.seq (.reg [MM 23 7,OA 24 (.bin .neq (TT 23) (II 0))]) (.cond (TT 24) (.seq (.reg [MM 25 7,OA 4 (.mv (.const (.slice none 0 0))),MM 5 25]) .ret) .skip)) (.seq (.reg [OA 8 (.mv (.const
 (.slice none 0 0)))]) (.seq (.seq (.reg [FF 26 11 2,VV 27 26,OA 28 (.len false (TT 27)),OA 29 (.mv (II 0))]) (.block 0 (.loop (.seq (.reg [OA 30 (.bin .lss (TT 29) (TT 28))]) (.seq (.cond (TT 30) .skip (.exit 0)) (.seq
 (.block 1 (.seq (.reg [MM 31 29,OA 32 (.x9 16 (TT 27) (TT 29)),LL 33 16 32,OA 10 (.alloc 95 [.bool false,.string ⟨#[]⟩,.string ⟨#[]⟩,.bool false,.string ⟨#[]⟩,.string ⟨#[]⟩,.bool false,.string ⟨#[]⟩,.string ⟨#[]⟩,
 .bool false,.string ⟨#[]⟩,.string ⟨#[]⟩,.bool false,.string ⟨#[]⟩,.string ⟨#[]⟩,.slice none 0 0]),MM 9 31,OB (.store 16 (TT 10) (TT 33))]) (.seq (.D6 [.q,.q,.q,.q,.q,.q,.q,.q,.q,.q,.q,.l,.a,.a,.e (some
 11) false,.e (some 12) true] [MM 35 6,MM 36 9,OA 37 (.x9 24 (TT 35) (TT 36)),LL 38 24 37,FF 39 15 10,VV 40 39,OA 41 (.x9 6 (TT 40) (II 0)),LL 42 6 41,OA 43 (.call 53 [TT 38,TT 42]),MM 34 43,OA 44 (.ext (TT 34)
 0),OA 45 (.ext (TT 34) 1),OA 11 (.alloc 89 [.bool false,.string ⟨#[]⟩,.string ⟨#[]⟩,.bool false,.string ⟨#[]⟩,.string ⟨#[]⟩]),OA 12 (.alloc 89 [.bool false,.string ⟨#[]⟩,.string ⟨#[]⟩,.bool false,.string ⟨#[]⟩,
 .string ⟨#[]⟩]),OB (.store 6 (TT 11) (TT 44)),OB (.store 6 (TT 12) (TT 45))]) (.seq (.seq (.reg [FF 46 15 10,VV 47 46,OA 48 (.a3W 6 (TT 47) (some (II 1)) none),OA 49 (.len false (TT 48)),OA 50 (.mv (II 0))]) (.block 2
 (.loop (.seq (.reg [OA 51 (.bin .lss (TT 50) (TT 49))]) (.seq (.cond (TT 51) .skip (.exit 2)) (.seq (.block 3 (.seq (.reg [OA 52 (.x9 6 (TT 48) (TT 50)),LL 53 6 52,OA 14 (.alloc 40 [.bool false,.string ⟨#[]⟩,.string
 ⟨#[]⟩,.bool false,.string ⟨#[]⟩,.string ⟨#[]⟩]),OB (.store 6 (TT 14) (TT 53))]) (.seq (.D6 [.q,.q,.q,.q,.q,.q,.q,.q,.l,.a,.a,.e (some 15) false,.e (some 16) true] [MM 55 6,MM 56 9,OA 57 (.x9 24 (TT 55) (TT
 56)),LL 58 24 57,LL 59 6 14,OA 60 (.call 53 [TT 58,TT 59]),MM 54 60,OA 61 (.ext (TT 54) 0),OA 62 (.ext (TT 54) 1),OA 15 (.alloc 89 [.bool false,.string ⟨#[]⟩,.string ⟨#[]⟩,.bool false,.string ⟨#[]⟩,.string ⟨#[]⟩]),
 OA 16 (.alloc 89 [.bool false,.string ⟨#[]⟩,.string ⟨#[]⟩,.bool false,.string ⟨#[]⟩,.string ⟨#[]⟩]),OB (.store 6 (TT 15) (TT 61)),OB (.store 6 (TT 16) (TT 62))]) (.D6 [.q,.q,.q,.q,.q,.q,.e none true,.e none true]
 [LL 63 6 11,LL 64 6 15,OA 65 (.call 33 [TT 63,TT 64]),LL 66 6 12,LL 67 6 16,OA 68 (.call 33 [TT 66,TT 67]),OB (.store 6 (TT 11) (TT 65)),OB (.store 6 (TT 12) (TT 68))])))) (.reg [OA 69 (.bin .add (TT 50) (II 1)),MM 50
 69]))))))) (.reg [MM 70 8,LL 71 6 11,LL 72 6 12,OA 73 (.build [.bool false,.string ⟨#[]⟩,.string ⟨#[]⟩,.bool false,.string ⟨#[]⟩,.string ⟨#[]⟩,.bool false,.string ⟨#[]⟩,.string ⟨#[]⟩,.bool false,.string ⟨#[]⟩,
 .string ⟨#[]⟩,.bool false,.string ⟨#[]⟩,.string ⟨#[]⟩,.bool false,.string ⟨#[]⟩,.string ⟨#[]⟩,.bool false,.string ⟨#[]⟩,.string ⟨#[]⟩,.bool false,.string ⟨#[]⟩,.string ⟨#[]⟩] [(0,(6,TT 71)),(6,(6,TT 72))]),OA
 74 (.call 54 [TT 73]),OA 75 (.bsl 42 12 1 [.bool false,.string ⟨#[]⟩,.string ⟨#[]⟩,.bool false,.string ⟨#[]⟩,.string ⟨#[]⟩,.bool false,.string ⟨#[]⟩,.string ⟨#[]⟩,.bool false,.string ⟨#[]⟩,.string ⟨#[]⟩] [(0,TT
 74)]),OA 76 (.app 42 12 160 (TT 70) (TT 75)),MM 8 76]))))) (.reg [OA 77 (.bin .add (TT 29) (II 1)),MM 29 77]))))))) (.seq (.reg [MM 78 8,MM 4 78,OA 5 (.mv (II 0))]) .ret)))))⟩
theorem a6i:I9 eff Tryz.prog Tryz.f19=some a2Z:=by kernel_rfl
theorem a5W:Tryz.prog.funcs[19]?=some Tryz.f19:=Tryz.func19
theorem c4N (x y:Sp):FZ 54 [.agg (x.enc++y.enc++[.v (.bool false),sb [],sb [],.v (.bool false),sb [],sb [],.v (.bool false),sb [],sb [],.v (.bool false),sb [],sb []])] (.agg (Bq.mk x.lo y.lo x.hi y.hi).enc):=by
 refine kW a8A a8I (by rfl) fun w O hw=>?_
 obtain ⟨x1,x2⟩:=x
 obtain ⟨y1,y2⟩:=y
 simp only [a5Q,j6,TT,II,OA,OB,OC,MM,LL,VV,FF,MG,LG,VG,FG]
 simp only [Bq.enc,Sp.enc,Sn.enc,snQ,sb,List.cons_append,List.nil_append]
 (repeat first|refine uA ?_|(refine uK ?_ ?_;focus first|omega|(intros;simp_all<;>omega))|simp (disch:=omega) only [go_sem,Nat.reduceBEq,Nat.reduceAdd,ww])
 (refine S.done ?_;simp only [l9,p9,go_sem,Nat.reduceBEq,Nat.reduceAdd,Nat.reduceLeDiff,Int.reduceToNat,Int.reducePow];(repeat (refine ⟨?_,?_⟩;focus first|trivial|omega|simp));exact j4.out rfl (Imp.refl rfl) rfl)
theorem b0n {l:Lk} (h:V3 l=0):3<=l.shape.length/\l.shape.length<=8/\∀ v ∈ l.shape,Rb 8 v.x/\Rb 8 v.y:=by
 unfold V3 at h
 split at h
 ·cases h
 split at h
 ·cases h
 split at h
 ·rename_i h1;exact absurd h h1
 ·rename_i h1
  have h1:U9 l.shape 8=0:=Classical.not_not.1 h1
  unfold U9 at h1
  split at h1
  ·cases h1
  split at h1
  ·cases h1
  split at h
  ·rename_i h4
   refine ⟨by omega,by omega,fun v hv=>?_⟩
   have:=List.all_eq_true.1 h4 v hv
   simp only [c6Q] at this
   exact ⟨(a1C this.1).mono (by decide),(a1C this.2).mono (by decide)⟩
  ·cases h
def ptI (f:Lq) (s:Sp × Sp) (r:List Vt):Sp × Sp:=r.foldl (fun s v=>(P7 s.1 (atX f v),P7 s.2 (atY f v))) s
def shB (f:Lq) (l:Lk):Bq:=match l.shape with
 | []=>⟨0,0,0,0⟩
 | v::r=>⟨(ptI f (atX f v,atY f v) r).1.lo,(ptI f (atX f v,atY f v) r).2.lo,(ptI f (atX f v,atY f v) r).1.hi,(ptI f (atX f v,atY f v) r).2.hi⟩
def a2v (T:List Lq) (L:List Lk):List Bq:=(L.zip T).map fun z=>shB z.2 z.1
theorem c1v (f:Lq) (s:Sp × Sp) {r:List Vt} {i:Nat} {v:Vt} (h:r[i]?=some v):ptI f s (r.take (i+1))=(P7 (ptI f s (r.take i)).1 (atX f v),P7 (ptI f s (r.take i)).2 (atY f v)):=by
 unfold ptI
 rw [take_at h,List.foldl_append]
 rfl
theorem c2A {a:Am} (ha:F4 a=0):Zl (SB 0) (a0J a.base):=by
 obtain ⟨fb,_⟩:=a7c ha
 have rT:=b0v (h:=a.base.half) (fb.2.2.mono (show tB 0<=64 by decide)) (by decide)
 have rC:Rb 262144 (Nm.ofQ (a2u a.base.half (J7 a.base.half a.base.t))):=(b8c _ rT).mono (by decide)
 have rS:Rb 262144 (Nm.ofQ (Z4 (J7 a.base.half a.base.t))):=(a3O rT).mono (by decide)
 exact ⟨(a3A (fb.1.mono (show xB 0<=64 by decide)) (by decide)).mono (by decide),(a3A (fb.2.1.mono (show xB 0<=64 by decide)) (by decide)).mono (by decide),⟨rC,rC⟩,⟨rS,rS⟩⟩
set_option maxHeartbeats 16000000
def SC:Nat->Nat
 | 0=>262144
 | 1=>9000000
 | 2=>27000000
 | _=>63000000
def SX:Nat->Nat
 | 0=>262144
 | 1=>9300000
 | 2=>36400000
 | _=>99500000
def Zm (i:Nat) (l:Lq):Prop:=Zb (SX i) l.x/\Zb (SX i) l.y/\Zb (SC i) l.c/\Zb (SC i) l.s
theorem b6n:∀ {i:Nat},i<=3->SX i<=134217728/\SC i<=134217728
 | 0,_=>by decide
 | 1,_=>by decide
 | 2,_=>by decide
 | 3,_=>by decide
theorem Zm.zl {i:Nat} {l:Lq} (h:Zm i l) (hi:i<=3):Zl 134217728 l:=⟨h.1.mono (b6n hi).1,h.2.1.mono (b6n hi).1,h.2.2.1.mono (b6n hi).2,h.2.2.2.mono (b6n hi).2⟩
theorem Zm.lt {i:Nat} {l:Lq} (h:Zm i l) (hi:i < 3):Zb 36400000 l.x/\Zb 36400000 l.y/\Zb 27000000 l.c/\Zb 27000000 l.s:=by
 rcases (show i=0 \/ i=1 \/ i=2 by omega) with rfl|rfl|rfl
 ·exact ⟨h.1.mono (by decide),h.2.1.mono (by decide),h.2.2.1.mono (by decide),h.2.2.2.mono (by decide)⟩
 ·exact ⟨h.1.mono (by decide),h.2.1.mono (by decide),h.2.2.1.mono (by decide),h.2.2.2.mono (by decide)⟩
 ·exact h
theorem c1L {i:Nat} {n:Lq} {t:Sp} {l:Lk} (hi:i < 3) (hn:Zm i n) (ht:Zb 1048576 t) (hl:Rb 8 l.length):Zl 134217728 (a5x n t)/\Zm (i+1) (b6J (a5x n t) l):=by
 obtain ⟨bx,by',bc,bs'⟩:=hn
 have c1:Zb 4194322 (a9g t):=(b7A ht).mono (by decide)
 have s1:Zb 4194322 (a9r t):=(b7x ht).mono (by decide)
 have c2:=a9v (a8d (N7 bc c1) (N7 bs' s1))
 have s2:=a9v (a2z (N7 bs' c1) (N7 bc s1))
 have p:=a3A hl (by decide)
 have x2:=a2z bx (N7 p c2)
 have y2:=a2z by' (N7 p s2)
 rcases (show i=0 \/ i=1 \/ i=2 by omega) with rfl|rfl|rfl
 ·exact ⟨⟨bx.mono (by decide),by'.mono (by decide),c2.mono (by decide),s2.mono (by decide)⟩,⟨x2.mono (by decide),y2.mono (by decide),c2.mono (by decide),s2.mono (by decide)⟩⟩
 ·exact ⟨⟨bx.mono (by decide),by'.mono (by decide),c2.mono (by decide),s2.mono (by decide)⟩,⟨x2.mono (by decide),y2.mono (by decide),c2.mono (by decide),s2.mono (by decide)⟩⟩
 ·exact ⟨⟨bx.mono (by decide),by'.mono (by decide),c2.mono (by decide),s2.mono (by decide)⟩,⟨x2.mono (by decide),y2.mono (by decide),c2.mono (by decide),s2.mono (by decide)⟩⟩
theorem a6p:∀ (Z:List (Lk × Sp)) (i:Nat) (n:Lq),i+Z.length<=3->Zm i n->(∀ z ∈ Z,Rb 8 z.1.length/\Zb 1048576 z.2)->∀ f ∈ P5 n Z,Zl 134217728 f
 | [],i,n,hi,hn,_,f,hf=>by
  rw [P5,List.mem_singleton] at hf
  rw [hf]
  exact hn.zl (by simpa using hi)
 | (l,t)::r,i,n,hi,hn,hz,f,hf=>by
  rw [c7g] at hi
  have h1:=hz (l,t) (by simp)
  have h2:=c1L (l:=l) (show i < 3 by omega) hn h1.2 h1.1
  rw [P5,List.mem_cons] at hf
  rcases hf with rfl|hf
  ·exact h2.1
  ·exact a6p r (i+1) _ (by omega) h2.2 (fun z hzz=>hz z (by simp [hzz])) f hf
theorem b0z {a:Am} (ha:F4 a=0):Zm 0 (a0J a.base):=by
 have h:=c2A ha
 exact ⟨h.1,h.2.1,h.2.2.1,h.2.2.2⟩
theorem b3J {q:List Sn} (hq:∀ r ∈ q,Zr 1048576 r):∀ t ∈ q.map F8,Zb 1048576 t:=fun t ht=>by
 obtain ⟨r,hr,rfl⟩:=List.mem_map.1 ht
 exact a4O (hq r hr) (by decide)
theorem b1E (a:Am) (q:List Sn) (hl:Ab 1073741824 a) (ha:F4 a=0) (hql:q.length=a.links.length) (hq:∀ r ∈ q,Zr 1048576 r):FZ 52 [a.c,.sl 6 (q.map Sn.enc)] (.tup [.sl 24 ((P5 (a0J a.base) (a.links.zip (q.map F8))).map Lq.enc),ints 0]):=by
 refine kW a5U a6h (by rfl) fun w O hw=>?_
 have h:=b3t a q.length hl
 rw [c5a ha (by omega)] at h
 obtain ⟨fb,lb⟩:=a7c ha
 have hn3:=(U1 ha).2
 have hn:=hl.2.2.1
 obtain ⟨name,base,links⟩:=a
 simp only at hql fb lb hn3 hn ⊢
 have hcs:=c4X base.half base.t (fb.2.2.mono (by decide))
 have hs:=b2R base.half base.t (fb.2.2.mono (by decide))
 have rT:=b0v (h:=base.half) (fb.2.2.mono (show tB 0<=64 by decide)) (by decide)
 have rC:Rb 262144 (Nm.ofQ (a2u base.half (J7 base.half base.t))):=(b8c _ rT).mono (by decide)
 have rS:Rb 262144 (Nm.ofQ (Z4 (J7 base.half base.t))):=(a3O rT).mono (by decide)
 have x1:=fb.1.mono (show xB 0<=64 by decide)
 have x2:=fb.2.1.mono (show xB 0<=64 by decide)
 have h0:Zm 0 (a0J base):=⟨(a3A x1 (by decide)).mono (by decide),(a3A x2 (by decide)).mono (by decide),⟨rC.mono (by decide),rC.mono (by decide)⟩,⟨rS.mono (by decide),rS.mono (by decide)⟩⟩
 have g1:=X7 base.x (x1.mono (by decide))
 have g2:=X7 base.y (x2.mono (by decide))
 have g3:=X7 (Nm.ofQ (a2u base.half (J7 base.half base.t))) (rC.mono (by decide))
 have g4:=X7 (Nm.ofQ (Z4 (J7 base.half base.t))) (rS.mono (by decide))
 rw [Nm.q8] at g3 g4
 have hB:a0J base=⟨⟨Nm.d9 base.x,Nm.d9 base.x⟩,⟨Nm.d9 base.y,Nm.d9 base.y⟩,⟨a2u base.half (J7 base.half base.t),a2u base.half (J7 base.half base.t)⟩,⟨Z4 (J7 base.half base.t),Z4 (J7 base.half base.t)⟩⟩:=rfl
 clear rT rC rS x1 x2
 generalize a2u base.half (J7 base.half base.t)=co at *
 generalize Z4 (J7 base.half base.t)=si at *
 generalize Nm.d9 base.x=u1 at *
 generalize Nm.d9 base.y=u2 at *
 generalize a0J base=N0 at *
 simp only [a3i,j6,TT,II,OA,OB,MM,LL,VV,FF]
 simp only [Am.c,Am.enc,lks,rq,rc,tc,Sp.c,Sn.c,Sn.enc,snQ,sb,ints] at h hcs hs g1 g2 g3 g4 ⊢
 (repeat first|refine uA ?_|(refine uK ?_ ?_;focus first|omega|(intros;simp_all<;>omega))|simp (disch:=omega) only [go_sem,Nat.reduceBEq,Nat.reduceAdd,c6F]|(refine uD h ?_ ?_ ?_;exact tz hw;exact rfl))
 refine S.cond rfl (fun hc=>by simp at hc) (fun hc=>?_)
 (repeat first|refine uA ?_|(refine uK ?_ ?_;focus first|omega|(intros;simp_all<;>omega))|simp (disch:=omega) only [go_sem,Nat.reduceBEq,Nat.reduceAdd,c6F]|(refine uD g1 ?_ ?_ ?_;exact tz hw;exact rfl)|(refine uD g2 ?_ ?_ ?_;exact tz hw;exact rfl)|(refine uD hcs ?_ ?_ ?_;exact tz hw;exact rfl)|(refine uD g3 ?_ ?_ ?_;exact tz hw;exact rfl)|(refine uD hs ?_ ?_ ?_;exact tz hw;exact rfl)|(refine uD g4 ?_ ?_ ?_;exact tz hw;exact rfl))
 refine S.loop (X:=Nat × Lq × List Lq) (fun x=>⟨[(1,.sl 6 (q.map Sn.enc)),(8,.bp 2 0),(9,.rv 3),(43,lks links),(44,ints links.length),(45,ints x.1)],[.gone,.gone,.box 122 x.2.1.enc,.row 122 24 (x.2.2.map Lq.enc)]⟩)
  (fun x=>x.1<=links.length/\x.2.2.length=x.1/\P5 N0 (links.zip (q.map F8))=x.2.2++P5 x.2.1 ((links.zip (q.map F8)).drop x.1)/\Zm x.1 x.2.1) (fun x=>links.length-x.1) (0,N0,[]) ⟨c6K _,rfl,rfl,h0⟩ (Ent.trans (Ent.pack 9 122 24 rfl) (by simp only [hB,Lq.enc,Sp.enc,Sn.enc,snQ,sb,List.cons_append,List.nil_append];exact (by (repeat first|refine uA ?_|(refine ⟨?_,?_⟩;focus first|rfl|simp [slot])|rfl|simp)))) ?_
 rintro ⟨i,n,outs⟩ ⟨hi,ho,hg,hF⟩
 clear h hcs hs g1 g2 g3 g4 hB h0
 simp only at hi ho hg hF
 simp only [lks,sb,ints,Lq.enc,Sp.enc,Sn.enc,snQ,List.cons_append,List.nil_append]
 (repeat first|refine uA ?_|(refine uK ?_ ?_;focus first|omega|(intros;simp_all<;>omega))|simp (disch:=omega) only [go_sem,Nat.reduceBEq])
 (refine uJ rfl (fun hc=>?_) fun hc=>?_)
 ·have hi':i < links.length:=by omega
  have hgl:=c6E hi'
  have hgq:=c6E (show i < q.length by omega)
  generalize links[i]=l at hgl
  generalize q[i]'_=t at hgq
  have ht:=hq t (c6H hgq)
  have hlb:=lb l (c6H hgl)
  have hcan:=a4O ht (by decide)
  have hF':=(c1L (l:=l) (show i < 3 by omega) hF hcan hlb).2
  have hn':=hF.lt (show i < 3 by omega)
  have hgc:(q.map F8)[i]?=some (F8 t):=by rw [c6P,hgq];rfl
  rw [drop_at (c6d hgl hgc),P5] at hg
  have c1:=c3V t (F8 t) rfl (ht.mono (by decide))
  have s1:=c5d t (F8 t) rfl (ht.mono (by decide))
  have bc:=b7A hcan
  have bs':=b7x hcan
  obtain ⟨t0,ht0⟩:∃ t0,F8 t=t0:=⟨_,rfl⟩
  rw [ht0] at c1 s1 bc bs' hF' hg hcan
  generalize hCS:a9g t0=ct at *
  generalize hSS:a9r t0=st at *
  obtain ⟨nx,ny,nc,ns⟩:=n
  obtain ⟨b1,b2,b3,b4⟩:=hn'
  simp only at b1 b2 b3 b4
  have m1:=a1g nc ct (b3.mono (by decide)) (bc.mono (by decide))
  have m2:=a1g ns st (b4.mono (by decide)) (bs'.mono (by decide))
  have v1:=N7 b3 bc
  have v2:=N7 b4 bs'
  have m3:=b5O _ _ (v1.mono (by decide)) (v2.mono (by decide))
  have v3:=a8d v1 v2
  have m4:=c1V _ (v3.mono (by decide))
  have v4:=a9v v3
  have m5:=a1g ns ct (b4.mono (by decide)) (bc.mono (by decide))
  have m6:=a1g nc st (b3.mono (by decide)) (bs'.mono (by decide))
  have v5:=N7 b4 bc
  have v6:=N7 b3 bs'
  have m7:=a4v _ _ (v5.mono (by decide)) (v6.mono (by decide))
  have v7:=a2z v5 v6
  have m8:=c1V _ (v7.mono (by decide))
  have v8:=a9v v7
  have p1:=a3A hlb (by decide)
  have o1:=X7 l.length (hlb.mono (by decide))
  rw [show Sp.mk (Nm.d9 l.length) (Nm.d9 l.length)=ptS l.length from rfl] at o1
  have m9:=a1g (ptS l.length) _ (p1.mono (by decide)) (v4.mono (by decide))
  have ma:=a1g (ptS l.length) _ (p1.mono (by decide)) (v8.mono (by decide))
  have v9:=N7 p1 v4
  have va:=N7 p1 v8
  have mb:=a4v nx _ (b1.mono (by decide)) (v9.mono (by decide))
  have mc:=a4v ny _ (b2.mono (by decide)) (va.mono (by decide))
  have e1:a5x ⟨nx,ny,nc,ns⟩ t0=⟨nx,ny,a3t (a3v (J2 nc ct) (J2 ns st)),a3t (Y2 (J2 ns ct) (J2 nc st))⟩:=by rw [<- hCS,<- hSS];rfl
  have e2:b6J (a5x ⟨nx,ny,nc,ns⟩ t0) l=⟨Y2 nx (J2 (ptS l.length) (a3t (a3v (J2 nc ct) (J2 ns st)))),Y2 ny (J2 (ptS l.length) (a3t (Y2 (J2 ns ct) (J2 nc st)))),a3t (a3v (J2 nc ct) (J2 ns st)),a3t (Y2 (J2 ns ct) (J2 nc st))⟩:=by rw [e1];rfl
  generalize b6J (a5x ⟨nx,ny,nc,ns⟩ t0) l=now' at *
  generalize a5x ⟨nx,ny,nc,ns⟩ t0=next' at *
  clear v1 v2 v3 v4 v5 v6 v7 v8 v9 va b1 b2 b3 b4 bc bs' hCS hSS p1 hF hgc ht0 hcan
  generalize J2 nc ct=w1 at *
  generalize J2 ns st=w2 at *
  generalize J2 ns ct=w3 at *
  generalize J2 nc st=w4 at *
  generalize a3v w1 w2=w5 at *
  generalize Y2 w3 w4=w6 at *
  generalize a3t w5=w7 at *
  generalize a3t w6=w8 at *
  generalize ptS l.length=w9 at *
  generalize J2 w9 w7=wa at *
  generalize J2 w9 w8=wb at *
  generalize Y2 nx wa=wc at *
  generalize Y2 ny wb=wd at *
  subst e1 e2
  have hqi:(i:Int) < q.length:=by omega
  simp only [Sp.c,Sn.c,Sn.enc,snQ,rc,sb] at c1 s1 m1 m2 m3 m4 m5 m6 m7 m8 o1 m9 ma mb mc
  (repeat first|refine uA ?_|(refine uK ?_ ?_;focus first|omega|(intros;simp_all<;>omega))|simp (disch:=omega) only [go_sem,Nat.reduceBEq,Nat.reduceAdd,ww,hgl,hgq,c6G,c6F,Lk.enc,Sn.enc,vts,sb,ho,c6I]|(refine uD c1 ?_ ?_ ?_;exact tz hw;exact rfl)|(refine uD s1 ?_ ?_ ?_;exact tz hw;exact rfl)|(refine uD m1 ?_ ?_ ?_;exact tz hw;exact rfl)|(refine uD m2 ?_ ?_ ?_;exact tz hw;exact rfl)|(refine uD m3 ?_ ?_ ?_;exact tz hw;exact rfl)|(refine uD m4 ?_ ?_ ?_;exact tz hw;exact rfl)|(refine uD m5 ?_ ?_ ?_;exact tz hw;exact rfl)|(refine uD m6 ?_ ?_ ?_;exact tz hw;exact rfl)|(refine uD m7 ?_ ?_ ?_;exact tz hw;exact rfl)|(refine uD m8 ?_ ?_ ?_;exact tz hw;exact rfl)|(refine uD o1 ?_ ?_ ?_;exact tz hw;exact rfl)|(refine uD m9 ?_ ?_ ?_;exact tz hw;exact rfl)|(refine uD ma ?_ ?_ ?_;exact tz hw;exact rfl)|(refine uD mb ?_ ?_ ?_;exact tz hw;exact rfl)|(refine uD mc ?_ ?_ ?_;exact tz hw;exact rfl))
  refine S.next (x:=(i,⟨nx,ny,nc,ns⟩,outs)) (i+1,⟨wc,wd,w7,w8⟩,outs++[⟨nx,ny,w7,w8⟩]) ⟨by simp only;omega,by simp only [c6M,ho];rfl,by simp only;rw [hg,c7u];rfl,hF'⟩ (by simp only;omega) (by simp only [c7t,c6V,c6Z,Lq.enc,Sp.enc,Sn.enc,snQ,sb,List.cons_append,List.nil_append];exact (by (repeat first|refine uA ?_|(refine ⟨?_,?_⟩;focus first|rfl|simp [slot])|rfl|simp)))
 ·rw [List.drop_eq_nil_of_le (by rw [List.length_zip,c6F];omega),P5] at hg
  rw [hg]
  (repeat first|refine uA ?_|(refine uK ?_ ?_;focus first|omega|(intros;simp_all<;>omega))|simp (disch:=omega) only [go_sem,Nat.reduceBEq,Nat.reduceAdd,c6F])
  simp only [c7t,c6V,c6Z,Lq.enc,Sp.enc,Sn.enc,snQ,sb,List.cons_append,List.nil_append]
  (refine S.done ?_;simp only [l9,go_sem,Nat.reduceBEq];(repeat (refine ⟨?_,?_⟩;focus first|trivial|omega|simp));exact j4.out rfl (Imp.tup (by (repeat' (first|exact j5.nil|exact Imp.refl rfl|exact Imp.frz rfl rfl rfl|exact Imp.D8|refine Imp.agg ?_|refine j5.cons ?_ ?_)))) rfl)
theorem b5j (l:Lq) (v:Vt) (hl:Zl 134217728 l) (h1:Rb 16777216 v.x) (h2:Rb 16777216 v.y):FZ 53 [.agg l.enc,.agg v.enc] (.tup [(atX l v).c,(atY l v).c]):=by
 refine kW b4v b4J (by rfl) fun w O hw=>?_
 obtain ⟨lx,ly,lc,ls⟩:=l
 obtain ⟨v1,v2⟩:=v
 obtain ⟨b1,b2,b3,b4⟩:=hl
 simp only at b1 b2 b3 b4 h1 h2
 have o1:=X7 v1 (h1.mono (by decide))
 have o2:=X7 v2 (h2.mono (by decide))
 have p1:=a3A h1 (by decide)
 have p2:=a3A h2 (by decide)
 have o3:=a1g (ptS v1) lc (p1.mono (by decide)) (b3.mono (by decide))
 have o4:=a1g (ptS v2) ls (p2.mono (by decide)) (b4.mono (by decide))
 have m3:=N7 p1 b3
 have m4:=N7 p2 b4
 have o5:=b5O _ _ (m3.mono (by decide)) (m4.mono (by decide))
 have m5:=a8d m3 m4
 have o6:=a4v lx _ (b1.mono (by decide)) (m5.mono (by decide))
 have o7:=a1g (ptS v1) ls (p1.mono (by decide)) (b4.mono (by decide))
 have o8:=a1g (ptS v2) lc (p2.mono (by decide)) (b3.mono (by decide))
 have m7:=N7 p1 b4
 have m8:=N7 p2 b3
 have o9:=a4v _ _ (m7.mono (by decide)) (m8.mono (by decide))
 have m9:=a2z m7 m8
 have oa:=a4v ly _ (b2.mono (by decide)) (m9.mono (by decide))
 clear m3 m4 m5 m7 m8 m9 b1 b2 b3 b4 h1 h2 p1 p2
 unfold atX atY
 simp only
 rw [show Sp.mk (Nm.d9 v1) (Nm.d9 v1)=ptS v1 from rfl] at o1
 rw [show Sp.mk (Nm.d9 v2) (Nm.d9 v2)=ptS v2 from rfl] at o2
 simp only [a8u,j6,TT,OA,OB,LL,FF]
 generalize J2 (ptS v1) lc=s1 at *
 generalize J2 (ptS v2) ls=s2 at *
 generalize a3v s1 s2=s3 at *
 generalize J2 (ptS v1) ls=s4 at *
 generalize J2 (ptS v2) lc=s5 at *
 generalize Y2 s4 s5=s6 at *
 generalize ptS v1=s7 at *
 generalize ptS v2=s8 at *
 generalize Y2 lx s3=s9 at *
 generalize Y2 ly s6=s10 at *
 simp only [Vt.enc,Lq.enc,Sp.enc,Sp.c,Sn.c,Sn.enc,snQ,rc,sb,List.cons_append,List.nil_append] at o1 o2 o3 o4 o5 o6 o7 o8 o9 oa ⊢
 (repeat first|refine uA ?_|(refine uK ?_ ?_;focus first|omega|(intros;simp_all<;>omega))|simp (disch:=omega) only [go_sem,Nat.reduceBEq,Nat.reduceAdd]|(refine uD o1 ?_ ?_ ?_;exact tz hw;exact rfl)|(refine uD o2 ?_ ?_ ?_;exact tz hw;exact rfl)|(refine uD o3 ?_ ?_ ?_;exact tz hw;exact rfl)|(refine uD o4 ?_ ?_ ?_;exact tz hw;exact rfl)|(refine uD o5 ?_ ?_ ?_;exact tz hw;exact rfl)|(refine uD o6 ?_ ?_ ?_;exact tz hw;exact rfl)|(refine uD o7 ?_ ?_ ?_;exact tz hw;exact rfl)|(refine uD o8 ?_ ?_ ?_;exact tz hw;exact rfl)|(refine uD o9 ?_ ?_ ?_;exact tz hw;exact rfl)|(refine uD oa ?_ ?_ ?_;exact tz hw;exact rfl))
 (refine S.done ?_;simp only [l9,p9,go_sem,Nat.reduceBEq,Nat.reduceAdd,Nat.reduceLeDiff];(repeat (refine ⟨?_,?_⟩;focus first|trivial|omega|simp));exact j4.out rfl (Imp.tup (by (repeat' (first|exact j5.nil|exact Imp.refl rfl|exact Imp.frz rfl rfl rfl|exact Imp.D8|refine Imp.agg ?_|refine j5.cons ?_ ?_)))) rfl)
theorem b2r {f:Lq} {v:Vt} (hf:Zl 134217728 f) (h1:Rb 8 v.x) (h2:Rb 8 v.y):Zb 402700000 (atX f v)/\Zb 402700000 (atY f v):=by
 have p1:=a3A h1 (by decide)
 have p2:=a3A h2 (by decide)
 exact ⟨(a2z hf.1 (a8d (N7 p1 hf.2.2.1) (N7 p2 hf.2.2.2))).mono (by decide),(a2z hf.2.1 (a2z (N7 p1 hf.2.2.2) (N7 p2 hf.2.2.1))).mono (by decide)⟩
theorem b3V {f:Lq} (hf:Zl 134217728 f):∀ (r:List Vt) (s:Sp × Sp),Zb 402700000 s.1/\Zb 402700000 s.2->(∀ v ∈ r,Rb 8 v.x/\Rb 8 v.y)->Zb 402700000 (ptI f s r).1/\Zb 402700000 (ptI f s r).2
 | [],_,h,_=>h
 | v::r,s,h,hr=>by
  have hv:=hr v (by simp)
  have ha:=b2r hf hv.1 hv.2
  exact b3V hf r _ ⟨a3h h.1 ha.1,a3h h.2 ha.2⟩ fun u hu=>hr u (by simp [hu])
theorem b1J (a:Am) (q:List Sn) (hl:Ab 1073741824 a) (ha:F4 a=0) (hql:q.length=a.links.length) (hq:∀ r ∈ q,Zr 1048576 r):FZ 20 [a.c,.sl 6 (q.map Sn.enc)] (.tup [.sl 12 ((a1X a (q.map F8)).map Bq.enc),ints 0]):=by
 refine kW b2d b1U (by rfl) fun w O hw=>?_
 have h:=b1E a q hl ha hql hq
 have hn:(P5 (a0J a.base) (a.links.zip (q.map F8))).length<=1000:=by rw [a2V,List.length_zip,c6F];have:=(U1 ha).2;omega
 unfold a1X
 generalize P5 (a0J a.base) (a.links.zip (q.map F8))=T at *
 obtain ⟨name,base,links⟩:=a
 simp only [a6W,j6,TT,II,OA,OB,MM,LL]
 simp only [Am.c,Am.enc,lks,sb,ints] at h ⊢
 (repeat first|refine uA ?_|(refine uK ?_ ?_;focus first|omega|(intros;simp_all<;>omega))|simp (disch:=omega) only [go_sem,Nat.reduceBEq,Nat.reduceAdd]|(refine uD h ?_ ?_ ?_;exact tz hw;exact rfl))
 refine S.loop (X:=Nat) (fun i=>⟨[(7,ints 0),(8,.rv 1),(17,.sl 24 (T.map Lq.enc)),(18,ints T.length),(19,ints i)],[.gone,.row 42 12 (((T.take i).map b0G).map Bq.enc)]⟩) (fun i=>i<=T.length) (fun i=>T.length-i) 0 (c6K _) (Ent.trans (Ent.pack 8 42 12 rfl) (by (repeat first|refine uA ?_|(refine ⟨?_,?_⟩;focus first|rfl|simp [slot])|rfl|simp))) ?_
 intro i hi
 clear h
 simp only [ints]
 (repeat first|refine uA ?_|(refine uK ?_ ?_;focus first|omega|(intros;simp_all<;>omega))|simp (disch:=omega) only [go_sem,Nat.reduceBEq])
 (refine uJ rfl (fun hc=>?_) fun hc=>?_)
 ·have hi':i < T.length:=by omega
  have hg:=c6E hi'
  generalize T[i]=l at *
  have hap:=take_at hg
  have htl:(T.take i).length=i:=by rw [c6O];omega
  have o1:=c5o l
  obtain ⟨⟨x1,x2⟩,⟨y1,y2⟩,⟨c1,c2⟩,⟨s1,s2⟩⟩:=l
  simp only [b0G,Bq.enc,Lq.enc,Sp.enc,Sn.enc,snQ,sb,List.cons_append,List.nil_append] at o1
  (repeat first|refine uA ?_|(refine uK ?_ ?_;focus first|omega|(intros;simp_all<;>omega))|simp (disch:=omega) only [go_sem,Nat.reduceBEq,Nat.reduceAdd,ww,hg,c6G,c6F,htl,Lq.enc,Sp.enc,Sn.enc,snQ,sb,List.cons_append,List.nil_append,c6I]|(refine uD o1 ?_ ?_ ?_;exact tz hw;exact rfl))
  refine S.next (i+1) (by omega) (by omega) (by simp only [hap,c7t,c6V,c6Z,b0G,Bq.enc,sb];exact (by (repeat first|refine uA ?_|(refine ⟨?_,?_⟩;focus first|rfl|simp [slot])|rfl|simp)))
 ·have hi':i=T.length:=by omega
  subst hi'
  rw [c6X]
  (repeat first|refine uA ?_|(refine uK ?_ ?_;focus first|omega|(intros;simp_all<;>omega))|simp (disch:=omega) only [go_sem,Nat.reduceBEq])
  (refine S.done ?_;simp only [l9,go_sem,Nat.reduceBEq];(repeat (refine ⟨?_,?_⟩;focus first|trivial|omega|simp));exact j4.out rfl (Imp.tup (by (repeat' (first|exact j5.nil|exact Imp.refl rfl|exact Imp.frz rfl rfl rfl|exact Imp.D8|refine Imp.agg ?_|refine j5.cons ?_ ?_)))) rfl)
theorem a4o {E:Ctx} (hP:E.P=Tryz.prog) (ht0:Tz E) (a:Am) (q:List Sn) (hl:Ab 1073741824 a) (ha:F4 a=0) (hql:q.length=a.links.length) (hq:∀ r ∈ q,Zr 1048576 r):l8 E [] 19 [a.c,.sl 6 (q.map Sn.enc)] (.tup [.rv 1,ints 0]) [.gone,.row 42 12 ((a2v (P5 (a0J a.base) (a.links.zip (q.map F8))) a.links).map Bq.enc)] []:=by
 obtain ⟨P,eff',N,w0,own0,av0,nu0,pk0⟩:=E
 simp only at hP
 subst hP
 refine l8.ofT (eff:=eff) ht0 a5W a6i (by exact c6Y rfl) fun w' own av ν hν ht=>?_
 have hν0:ν.length<=0:=by rw [hν];exact c6N _
 have h:=b1E a q hl ha hql hq
 have hn:(P5 (a0J a.base) (a.links.zip (q.map F8))).length=a.links.length+1:=by rw [a2V,List.length_zip,c6F];omega
 have hb:=a6p (a.links.zip (q.map F8)) 0 (a0J a.base) (by rw [List.length_zip];have:=(U1 ha).2;omega) (b0z ha) (fun z hz=>⟨(a7c ha).2 _ (List.of_mem_zip hz).1,b3J hq _ (List.of_mem_zip hz).2⟩)
 have hls:=fun l hm=>b0n ((Z7 ha).2 l hm)
 have hn3:=(U1 ha).2
 generalize P5 (a0J a.base) (a.links.zip (q.map F8))=T at *
 have hRl:(a2v T a.links).length=a.links.length:=by unfold a2v;rw [c6F,List.length_zip];omega
 have hRg:∀ {i:Nat} {l:Lk} {f:Lq},a.links[i]?=some l->T[i]?=some f->(a2v T a.links)[i]?=some (shB f l):=fun h1 h2=>by
  unfold a2v
  rw [c6P,V6 h1 h2]
  rfl
 generalize a2v T a.links=R at *
 obtain ⟨name,base,links⟩:=a
 simp only at hn hn3 hRl hRg hls
 simp only [a2Z,j6,TT,II,OA,OB,MM,LL,VV,FF]
 simp only [Am.c,Am.enc,lks,sb,ints] at h ⊢
 (repeat first|refine uA ?_|(refine uK ?_ ?_;focus first|omega|(intros;simp_all<;>omega))|simp (disch:=omega) only [go_sem,Nat.reduceBEq,Nat.reduceAdd]|(refine uD h ?_ ?_ ?_;exact ht;exact rfl))
 refine S.cond rfl (fun hc=>by simp at hc) (fun hc=>?_)
 (repeat first|refine uA ?_|(refine uK ?_ ?_;focus first|omega|(intros;simp_all<;>omega))|simp (disch:=omega) only [go_sem,Nat.reduceBEq,Nat.reduceAdd,c6F])
 refine S.loop (X:=Nat) (fun i=>⟨[(6,.sl 24 (T.map Lq.enc)),(8,.rv 1),(27,lks links),(28,ints links.length),(29,ints i)],[.gone,.row 42 12 ((R.take i).map Bq.enc)]⟩) (fun i=>i<=links.length) (fun i=>links.length-i) 0 (c6K _) (Ent.trans (Ent.pack 8 42 12 rfl) (by (repeat first|refine uA ?_|(refine ⟨?_,?_⟩;focus first|rfl|simp [slot])|rfl|simp|exact c6L hν0 (by simp)))) ?_
 intro i hi
 clear h
 simp only [lks,ints]
 (repeat first|refine uA ?_|(refine uK ?_ ?_;focus first|omega|(intros;simp_all<;>omega))|simp (disch:=omega) only [go_sem,Nat.reduceBEq])
 (refine uJ rfl (fun hc=>?_) fun hc=>?_)
 ·have hi':i < links.length:=by omega
  have hgl:=c6E hi'
  have hgf:=c6E (show i < T.length by omega)
  generalize links[i]=l at *
  generalize T[i]'_=f at *
  have hap:=take_at (hRg hgl hgf)
  have htl:(R.take i).length=i:=by rw [c6O];omega
  have bf:=hb f (c6H hgf)
  obtain ⟨s1,s2,s3⟩:=hls l (c6H hgl)
  unfold shB at hap
  obtain ⟨len,low,high,spd,brk,shp⟩:=l
  cases shp with
  | nil=>simp at s1
  | cons v r=>
  simp only [c7g] at s1 s2 s3 hap
  have hv:=s3 v (by simp)
  have hr:=fun u hu=>s3 u (List.mem_cons_of_mem v hu)
  have o1:=b5j f v (bf.mono (by decide)) (hv.1.mono (by decide)) (hv.2.mono (by decide))
  have b1:=b2r bf hv.1 hv.2
  have hat:=fun u hu=>b5j f u (bf.mono (by decide)) ((hr u hu).1.mono (by decide)) ((hr u hu).2.mono (by decide))
  have hab:=fun u hu=>b2r bf (hr u hu).1 (hr u hu).2
  have hpb:=fun j=>b3V bf (r.take j) (atX f v,atY f v) b1 (fun u hu=>hr u (List.mem_of_mem_take hu))
  have hps:=fun j u=>c1v f (atX f v,atY f v) (r:=r) (i:=j) (v:=u)
  have hp0:ptI f (atX f v,atY f v) (r.take 0)=(atX f v,atY f v):=rfl
  have hpe:ptI f (atX f v,atY f v) r=ptI f (atX f v,atY f v) (r.take r.length):=by rw [c6X]
  rw [hpe] at hap
  generalize hP:(fun j=>ptI f (atX f v,atY f v) (r.take j))=P
  have hPj:∀ j,ptI f (atX f v,atY f v) (r.take j)=P j:=fun j=>by rw [<- hP]
  simp only [hPj] at hpb hps hp0 hap
  clear hP hPj hpe hls hRg b1 hv hr bf s3
  simp only [Vt.enc,Lq.enc,Sp.enc,Sp.c,Sn.c,Sn.enc,snQ,sb,List.cons_append,List.nil_append] at o1
  (repeat first|refine uA ?_|(refine uK ?_ ?_;focus first|omega|(intros;simp_all<;>omega))|simp (disch:=omega) only [go_sem,Nat.reduceBEq,Nat.reduceAdd,hgl,hgf,c6G,c6F,Lk.enc,Lq.enc,Sp.enc,Sn.enc,snQ,vts,Vt.enc,sb,c6V,c7g,List.getElem?_cons_zero,List.cons_append,List.nil_append,Nat.add_sub_cancel,c6X,c6I,Int.toNat_zero]|(refine uD o1 ?_ ?_ ?_;exact ht;exact rfl))
  refine S.loop (X:=Nat) (fun j=>⟨[(6,.sl 24 (T.map Lq.enc)),(8,.rv 1),(9,ints i),(11,.bp 3 0),(12,.bp 4 0),(27,lks links),(28,ints links.length),(29,ints i),(48,vts r),(49,ints r.length),(50,ints j)],[.gone,.row 42 12 ((R.take i).map Bq.enc),.gone,.box 89 (P j).1.enc,.box 89 (P j).2.enc]⟩) (fun j=>j<=r.length) (fun j=>r.length-j) 0 (c6K _) (by rw [hp0];simp only [Sp.enc,Sn.enc,snQ,sb];exact (by (repeat first|refine uA ?_|(refine ⟨?_,?_⟩;focus first|rfl|simp [slot])|rfl|simp|exact c6L hν0 (by simp)))) ?_
  intro j hj
  clear o1 hp0
  simp only [lks,vts,ints,Sp.enc,Sn.enc,snQ,sb]
  (repeat first|refine uA ?_|(refine uK ?_ ?_;focus first|omega|(intros;simp_all<;>omega))|simp (disch:=omega) only [go_sem,Nat.reduceBEq])
  (refine uJ rfl (fun hc=>?_) fun hc=>?_)
  ·have hj':j < r.length:=by omega
   have hgu:=c6E hj'
   generalize r[j]=u at *
   have hu:=c6H hgu
   have k1:=hat u hu
   have k2:=a4D (P j).1 (atX f u) ((hpb j).1.mono (by decide)) ((hab u hu).1.mono (by decide))
   have k3:=a4D (P j).2 (atY f u) ((hpb j).2.mono (by decide)) ((hab u hu).2.mono (by decide))
   have hs:=hps j u hgu
   clear hat hab hpb hps
   generalize P7 (P j).1 (atX f u)=y1 at *
   generalize P7 (P j).2 (atY f u)=y2 at *
   generalize atX f u=y3 at *
   generalize atY f u=y4 at *
   simp only [Vt.enc,Lq.enc,Sp.enc,Sp.c,Sn.c,Sn.enc,snQ,sb,List.cons_append,List.nil_append] at k1 k2 k3
   (repeat first|refine uA ?_|(refine uK ?_ ?_;focus first|omega|(intros;simp_all<;>omega))|simp (disch:=omega) only [go_sem,Nat.reduceBEq,Nat.reduceAdd,ww,hgu,hgf,c6G,c6F,Lq.enc,Sp.enc,Sn.enc,snQ,Vt.enc,sb,c6V,c7g,List.getElem?_cons_zero,List.cons_append,List.nil_append,c6I]|(refine uD k1 ?_ ?_ ?_;exact ht;exact rfl)|(refine uD k2 ?_ ?_ ?_;exact ht;exact rfl)|(refine uD k3 ?_ ?_ ?_;exact ht;exact rfl))
   refine S.next (j+1) (by omega) (by omega) (by rw [hs];simp only [Sp.enc];exact (by (repeat first|refine uA ?_|(refine ⟨?_,?_⟩;focus first|rfl|simp [slot])|rfl|simp|exact c6L hν0 (by simp))))
  ·have hj':j=r.length:=by omega
   subst hj'
   have k:=c4N (P r.length).1 (P r.length).2
   generalize P r.length=p at *
   simp only [Bq.enc,Sp.enc,Sn.enc,snQ,sb,List.cons_append,List.nil_append] at k
   (repeat first|refine uA ?_|(refine uK ?_ ?_;focus first|omega|(intros;simp_all<;>omega))|simp (disch:=omega) only [go_sem,Nat.reduceBEq,Nat.reduceAdd,ww,htl,c6F,c6V,c7g,List.getElem?_cons_zero,List.cons_append,List.nil_append]|(refine uD k ?_ ?_ ?_;exact ht;exact rfl))
   refine S.next (i+1) (by omega) (by omega) (by simp only [hap,c7t,c6V,c6Z,Bq.enc,sb];exact (by (repeat first|refine uA ?_|(refine ⟨?_,?_⟩;focus first|rfl|simp [slot])|rfl|simp|exact c6L hν0 (by simp))))
 ·have hi':i=links.length:=by omega
  subst hi'
  rw [c7b (by omega)]
  (repeat first|refine uA ?_|(refine uK ?_ ?_;focus first|omega|(intros;simp_all<;>omega))|simp (disch:=omega) only [go_sem,Nat.reduceBEq])
  (refine S.done ?_;simp only [l9,go_sem,Nat.reduceBEq];(repeat (refine ⟨?_,?_⟩;focus first|trivial|omega|simp));exact j4.M9 (Imp.tup (by (repeat' (first|exact j5.nil|exact Imp.refl rfl|exact Imp.frz rfl rfl rfl|exact Imp.D8|refine Imp.agg ?_|refine j5.cons ?_ ?_)))) (by (repeat first|refine uA ?_|(refine ⟨?_,?_⟩;focus first|rfl|simp [slot])|rfl|simp)) (c6L hν0 (by simp)))
theorem b8M (a:Am) (q:List Sn) (hl:Ab 1073741824 a) (hqn:q.length<=1000000000) (he:P8 a q.length ≠ 0):FZ 52 [a.c,.sl 6 (q.map Sn.enc)] (.tup [.v (.slice none 0 0),ints (P8 a q.length)]):=by
 refine kW a5U a6h (by rfl) fun w O hw=>?_
 have h:=b3t a q.length hl
 generalize P8 a q.length=e at *
 obtain ⟨name,⟨bx,by',half,tu⟩,links⟩:=a
 simp only [a3i,j6,TT,II,OA,OB,MM,LL,VV,FF]
 simp only [Am.c,Am.enc,lks,sb,ints] at h ⊢
 (repeat first|refine uA ?_|(refine uK ?_ ?_;focus first|omega|(intros;simp_all<;>omega))|simp (disch:=omega) only [go_sem,Nat.reduceBEq,Nat.reduceAdd,c6F]|(refine uD h ?_ ?_ ?_;exact tz hw;exact rfl))
 refine S.cond rfl (fun hc=>?_) (fun hc=>by simp at hc;omega)
 (repeat first|refine uA ?_|(refine uK ?_ ?_;focus first|omega|(intros;simp_all<;>omega))|simp (disch:=omega) only [go_sem,Nat.reduceBEq])
 (refine S.done ?_;simp only [l9,go_sem,Nat.reduceBEq];(repeat (refine ⟨?_,?_⟩;focus first|trivial|omega|simp));exact j4.out rfl (Imp.tup (by (repeat' (first|exact j5.nil|exact Imp.refl rfl|exact Imp.frz rfl rfl rfl|exact Imp.D8|refine Imp.agg ?_|refine j5.cons ?_ ?_)))) rfl)
theorem a9E (a:Am) (q:List Sn) (hl:Ab 1073741824 a) (hqn:q.length<=1000000000) (he:P8 a q.length ≠ 0):FZ 19 [a.c,.sl 6 (q.map Sn.enc)] (.tup [.v (.slice none 0 0),ints (P8 a q.length)]):=by
 refine kW a5W a6i (by rfl) fun w O hw=>?_
 have h:=b8M a q hl hqn he
 generalize P8 a q.length=e at *
 obtain ⟨name,⟨bx,by',half,tu⟩,links⟩:=a
 simp only [a2Z,j6,TT,II,OA,OB,MM,LL,VV,FF]
 simp only [Am.c,Am.enc,lks,sb,ints] at h ⊢
 (repeat first|refine uA ?_|(refine uK ?_ ?_;focus first|omega|(intros;simp_all<;>omega))|simp (disch:=omega) only [go_sem,Nat.reduceBEq,Nat.reduceAdd]|(refine uD h ?_ ?_ ?_;exact tz hw;exact rfl))
 refine S.cond rfl (fun hc=>?_) (fun hc=>by simp at hc;omega)
 (repeat first|refine uA ?_|(refine uK ?_ ?_;focus first|omega|(intros;simp_all<;>omega))|simp (disch:=omega) only [go_sem,Nat.reduceBEq])
 (refine S.done ?_;simp only [l9,go_sem,Nat.reduceBEq];(repeat (refine ⟨?_,?_⟩;focus first|trivial|omega|simp));exact j4.out rfl (Imp.tup (by (repeat' (first|exact j5.nil|exact Imp.refl rfl|exact Imp.frz rfl rfl rfl|exact Imp.D8|refine Imp.agg ?_|refine j5.cons ?_ ?_)))) rfl)
def a6Y:M4:=⟨28,[.cell 4 true 12],.seq (.reg [OA 2 (.box 42 (TT 0)),OA 3 (.box 28 (TT 1)),OA 4 (.alloc 42 [.bool false,.string ⟨#[]⟩,.string ⟨#[]⟩,.bool false,.string ⟨#[]⟩,.string ⟨#[]⟩,.bool false,.string ⟨#[]⟩,.string ⟨#[]⟩,
 .bool false,.string ⟨#[]⟩,.string ⟨#[]⟩])]) (.seq (.D6 [.q,.q,.q,.q,.q,.q,.q,.q,.q,.q,.q,.q,.q,.q,.q,.q,.q,.q,.q,.q,.q,.q,.q,.e none true] [FF 5 0 2,FF 6 0 5,LL 7 3 6,LL 8 3 3,OA 9 (.call 24 [TT 7,
 TT 8]),FF 10 0 2,FF 11 3 10,LL 12 3 11,LL 13 3 3,OA 14 (.call 24 [TT 12,TT 13]),OA 15 (.build [.bool false,.string ⟨#[]⟩,.string ⟨#[]⟩,.bool false,.string ⟨#[]⟩,.string ⟨#[]⟩] [(0,(3,TT 9)),(3,(3,TT 14))]),FF
 16 6 2,FF 17 0 16,LL 18 3 17,LL 19 3 3,OA 20 (.call 22 [TT 18,TT 19]),FF 21 6 2,FF 22 3 21,LL 23 3 22,LL 24 3 3,OA 25 (.call 22 [TT 23,TT 24]),OA 26 (.build [.bool false,.string ⟨#[]⟩,.string ⟨#[]⟩,.bool false,
 .string ⟨#[]⟩,.string ⟨#[]⟩] [(0,(3,TT 20)),(3,(3,TT 25))]),OA 27 (.build [.bool false,.string ⟨#[]⟩,.string ⟨#[]⟩,.bool false,.string ⟨#[]⟩,.string ⟨#[]⟩,.bool false,.string ⟨#[]⟩,.string ⟨#[]⟩,.bool false,
 .string ⟨#[]⟩,.string ⟨#[]⟩] [(0,(6,TT 15)),(6,(6,TT 26))]),OB (.store 12 (TT 4) (TT 27))]) .ret)⟩
theorem b2e:I9 eff Tryz.prog Tryz.f26=some a6Y:=by kernel_rfl
theorem b1X:Tryz.prog.funcs[26]?=some Tryz.f26:=Tryz.func26
set_option maxHeartbeats 8000000
def Bb (k:Nat) (b:Bq):Prop:=Rb k (Nm.ofQ b.lx)/\Rb k (Nm.ofQ b.ly)/\Rb k (Nm.ofQ b.hx)/\Rb k (Nm.ofQ b.hy)
def a4n (b:Bq) (r:Rat):Bq:=⟨b.lx-r,b.ly-r,b.hx+r,b.hy+r⟩
theorem c5e (b:Bq) (r:Rat) (hb:Bb 1073741824 b) (hr:Rb 1073741824 (Nm.ofQ r)):FZ 26 [.agg b.enc,rq r] (.agg (a4n b r).enc):=by
 refine kW b1X b2e (by rfl) fun w O hw=>?_
 obtain ⟨lx,ly,hx,hy⟩:=b
 obtain ⟨b1,b2,b3,b4⟩:=hb
 simp only at b1 b2 b3 b4
 have o1:=a5C lx r (b1.mono (by decide)) (hr.mono (by decide))
 have o2:=a5C ly r (b2.mono (by decide)) (hr.mono (by decide))
 have o3:=a2e hx r (b3.mono (by decide)) (hr.mono (by decide))
 have o4:=a2e hy r (b4.mono (by decide)) (hr.mono (by decide))
 unfold a4n
 simp only
 generalize lx-r=x1 at *
 generalize ly-r=x2 at *
 generalize hx+r=x3 at *
 generalize hy+r=x4 at *
 simp only [a6Y,j6,TT,II,OA,OB,OC,MM,LL,VV,FF,MG,LG,VG,FG]
 simp only [Bq.enc,rq,rc,sb] at o1 o2 o3 o4 ⊢
 (repeat first|refine uA ?_|(refine uK ?_ ?_;focus first|omega|(intros;simp_all<;>omega))|simp (disch:=omega) only [go_sem,Nat.reduceBEq,Nat.reduceAdd,ww]|(refine uD o1 ?_ ?_ ?_;exact tz hw;exact rfl)|(refine uD o2 ?_ ?_ ?_;exact tz hw;exact rfl)|(refine uD o3 ?_ ?_ ?_;exact tz hw;exact rfl)|(refine uD o4 ?_ ?_ ?_;exact tz hw;exact rfl))
 (refine S.done ?_;simp only [l9,p9,go_sem,Nat.reduceBEq,Nat.reduceAdd,Nat.reduceLeDiff,Int.reduceToNat,Int.reducePow];(repeat (refine ⟨?_,?_⟩;focus first|trivial|omega|simp));exact j4.out rfl (Imp.refl rfl) rfl)
def b0F (a:Nm.Rt):Nm.Rt:=⟨false,Nm.enc (Nm.d9 a).num.natAbs,Nm.enc (Nm.d9 a).den⟩
theorem c4r {k:Nat} {a:Nm.Rt} (h:Rb k a) (hk:1<=k):Rb k (b0F a):=h.fit hk
def c1c (z:Lk × Nm.Rt × Nm.Rt):Bool:=decide z.2.2.F5 && !decide (0 < Nm.q9 (Nm.d9 (b0F z.2.2)) (Nm.d9 z.1.speed)) && !decide (Nm.q9 (Nm.d9 z.2.1+Nm.d9 z.2.2) (Nm.d9 z.1.low) < 0) && !decide (0 < Nm.q9 (Nm.d9 z.2.1+Nm.d9 z.2.2) (Nm.d9 z.1.high))
def a1W (Z:List (Lk × Nm.Rt × Nm.Rt)):Bool:=Z.all c1c
theorem b7k (a:Am) (q u:List Nm.Rt) (hl:Ab 1073741824 a) (hq:q.length=a.links.length) (hu:u.length=a.links.length) (hqb:∀ r ∈ q,Rb 1073741824 r) (hub:∀ r ∈ u,Rb 1073741824 r):FZ 99 [a.c,rts q,rts u] (.v (.bool (a1W (a.links.zip (q.zip u))))):=by
  refine kW Tryz.func99 (by cbv) (by rfl) fun w O hw=>?_
  have hn:=hl.2.2.1
  have hlk:=hl.2.2.2
  obtain ⟨name,⟨bx,by',half,tu⟩,links⟩:=a
  simp only at hq hu hn hlk ⊢
  have hz0:a1W (links.zip (q.zip u))=a1W ((links.zip (q.zip u)).drop 0):=rfl
  generalize hB:a1W (links.zip (q.zip u))=B at *
  simp only [j6]
  simp only [Am.c,Am.enc,lks,rts,sb,ints]
  (repeat first|refine uA ?_|(refine uK ?_ ?_;focus first|omega|(intros;simp_all<;>omega))|simp (disch:=omega) only [go_sem,Nat.reduceBEq,Nat.reduceAdd,ww,c6F])
  refine S.cond rfl (fun hc=>by simp at hc;omega) (fun hc=>?_)
  (repeat first|refine uA ?_|(refine uK ?_ ?_;focus first|omega|(intros;simp_all<;>omega))|simp (disch:=omega) only [go_sem,Nat.reduceBEq,Nat.reduceAdd,ww,c6F])
  refine S.loop (X:=Nat) (fun i=>⟨[(1,rts q),(2,rts u),(17,lks links),(18,ints links.length),(19,ints i)],[]⟩) (fun i=>i<=links.length/\B=a1W ((links.zip (q.zip u)).drop i)) (fun i=>links.length-i) 0 ⟨c6K _,hz0⟩ (by (repeat first|refine uA ?_|(refine ⟨?_,?_⟩;focus first|rfl|simp [slot])|rfl|simp)) ?_
  rintro i ⟨hi,hb⟩
  simp only [lks,rts,ints]
  (repeat first|refine uA ?_|(refine uK ?_ ?_;focus first|omega|(intros;simp_all<;>omega))|simp (disch:=omega) only [go_sem,Nat.reduceBEq,Nat.reduceAdd,ww])
  (refine uJ rfl (fun hc=>?_) fun hc=>?_)
  · have hi':i < links.length:=by omega
    have hgl:=c6E hi'
    have hgq:=c6E (show i < q.length by omega)
    have hgu:=c6E (show i < u.length by omega)
    generalize links[i]=l at *
    generalize q[i]'_=x at *
    generalize u[i]'_=y at *
    have rl:=hlk l (c6H hgl)
    have rx:=hqb x (c6H hgq)
    have ry:=hub y (c6H hgu)
    have o1:=a0O x y (rx.mono (by decide)) (ry.mono (by decide))
    have r1:=K9 (rx.fit (by decide)) (ry.fit (by decide))
    have o2:=a0q y (ry.mono (by decide))
    have o3:=b7r y (ry.mono (by decide))
    have o4:=M6 (b0F y) l.speed ((c4r ry (by decide)).mono (by decide)) (rl.2.2.2.1.mono (by decide))
    have o5:=M6 (Nm.ofQ (Nm.d9 x+Nm.d9 y)) l.low (r1.mono (by decide)) (rl.2.1.mono (by decide))
    have o6:=M6 (Nm.ofQ (Nm.d9 x+Nm.d9 y)) l.high (r1.mono (by decide)) (rl.2.2.1.mono (by decide))
    rw [Nm.q8] at o5 o6
    rw [show (⟨false,Nm.enc (Nm.d9 y).num.natAbs,Nm.enc (Nm.d9 y).den⟩:Nm.Rt)=b0F y from rfl] at o3
    rw [drop_at (V6 hgl (V6 hgq hgu))] at hb
    unfold a1W at hb
    rw [List.all_cons] at hb
    generalize hko:c1c (l,x,y)=ok at hb
    unfold c1c at hko
    simp only at hko
    have hqi:(i:Int) < q.length:=by omega
    have hui:(i:Int) < u.length:=by omega
    clear rl rx ry r1 hlk hqb hub hB hz0
    generalize Nm.q9 (Nm.d9 (b0F y)) (Nm.d9 l.speed)=c1 at *
    generalize Nm.q9 (Nm.d9 x+Nm.d9 y) (Nm.d9 l.low)=c2 at *
    generalize Nm.q9 (Nm.d9 x+Nm.d9 y) (Nm.d9 l.high)=c3 at *
    generalize Nm.d9 x+Nm.d9 y=s at *
    generalize decide y.F5=g at *
    generalize b0F y=ya at *
    simp only [rq,rc,sb,ints] at o1 o2 o3 o4 o5 o6
    (repeat first|refine uA ?_|(refine uK ?_ ?_;focus first|omega|(intros;simp_all<;>omega))|simp (disch:=omega) only [go_sem,Nat.reduceBEq,Nat.reduceAdd,ww,hgl,hgq,hgu,c6G,c6F,Lk.enc,rcs,vts,sb,c6I]|(refine uD o1 ?_ ?_ ?_;exact tz hw;exact rfl)|(refine uD o2 ?_ ?_ ?_;exact tz hw;exact rfl)|(refine uD o3 ?_ ?_ ?_;exact tz hw;exact rfl)|(refine uD o4 ?_ ?_ ?_;exact tz hw;exact rfl)|(refine uD o5 ?_ ?_ ?_;exact tz hw;exact rfl)|(refine uD o6 ?_ ?_ ?_;exact tz hw;exact rfl))
    refine S.cond rfl (fun hc=>?_) (fun hc=>?_)
    · have hB0:B=false:=by
        rw [hb,<- hko]
        revert hc
        cases g<;>by_cases h1:0 < c1<;>by_cases h2:c2 < 0<;>by_cases h3:0 < c3<;>simp [h1,h2,h3]
      rw [hB0]
      (repeat first|refine uA ?_|(refine uK ?_ ?_;focus first|omega|(intros;simp_all<;>omega))|simp (disch:=omega) only [go_sem,Nat.reduceBEq,Nat.reduceAdd,ww])
      exact S.done (j4.out rfl (Imp.refl rfl) rfl)
    · have hB1:B=a1W ((links.zip (q.zip u)).drop (i+1)):=by
        rw [hb,<- hko]
        revert hc
        unfold a1W
        cases g<;>by_cases h1:0 < c1<;>by_cases h2:c2 < 0<;>by_cases h3:0 < c3<;>simp [h1,h2,h3]
      (repeat first|refine uA ?_|(refine uK ?_ ?_;focus first|omega|(intros;simp_all<;>omega))|simp (disch:=omega) only [go_sem,Nat.reduceBEq,Nat.reduceAdd,ww])
      refine S.next (x:=i) (i+1) ⟨by omega,hB1⟩ (by omega) (by (repeat first|refine uA ?_|(refine ⟨?_,?_⟩;focus first|rfl|simp [slot])|rfl|simp))
  · have hi':i=links.length:=by omega
    subst hi'
    rw [List.drop_eq_nil_of_le (by rw [List.length_zip];omega)] at hb
    rw [hb]
    (repeat first|refine uA ?_|(refine uK ?_ ?_;focus first|omega|(intros;simp_all<;>omega))|simp (disch:=omega) only [go_sem,Nat.reduceBEq,Nat.reduceAdd,ww])
    exact S.done (j4.out rfl (Imp.refl rfl) rfl)
abbrev Cl:=Int × Int
def b4b (a b:Int):Int:=if a < b then -1 else if b < a then 1 else 0
def a1o (a b:Cl):Int:=if b4b a.2 b.2=0 then b4b a.1 b.1 else b4b a.2 b.2
def ltC (a b:Cl):Bool:=decide (a1o a b < 0)
theorem c3u {a b:Cl}:a1o a b < 0 <-> a.2 < b.2 \/ (a.2=b.2/\a.1 < b.1):=by
 obtain ⟨a1,a2⟩:=a
 obtain ⟨b1,b2⟩:=b
 simp only [a1o,b4b]
 split<;>(try split)<;>(try split)<;>(try split)<;>omega
theorem b5v {a b:Cl}:a1o a b=0 <-> a=b:=by
 obtain ⟨a1,a2⟩:=a
 obtain ⟨b1,b2⟩:=b
 rw [Prod.mk.injEq]
 simp only [a1o,b4b]
 split<;>(try split)<;>(try split)<;>(try split)<;>omega
theorem b0y {a b:Cl}:ltC a b=true <-> a.2 < b.2 \/ (a.2=b.2/\a.1 < b.1):=by
 unfold ltC;rw [decide_eq_true_iff,c3u]
theorem a7O {a b:Cl}:ltC a b=false <-> ¬ (a.2 < b.2 \/ (a.2=b.2/\a.1 < b.1)):=by
 rw [<- b0y,Bool.not_eq_true]
theorem a6P (a:Cl):ltC a a=false:=by rw [a7O];omega
theorem a5n {a b c:Cl} (h:ltC a b=true) (k:ltC b c=true):ltC a c=true:=by rw [b0y] at *;omega
theorem a9P {a b c:Cl} (h:ltC a b=false) (k:ltC b c=false):ltC a c=false:=by rw [a7O] at *;omega
theorem b1r {a b:Cl} (h:ltC a b=false) (k:ltC b a=false):a=b:=by
 rw [a7O] at *
 exact Prod.ext (by omega) (by omega)
theorem c4g {a b c:Cl} (h:ltC b a=false) (k:ltC b c=true):ltC a c=true:=by rw [a7O] at h;rw [b0y] at *;omega
def Up (l:List Cl):Prop:=l.Pairwise fun a b=>ltC a b=true
theorem Up.sub {l m:List Cl} (h:Up l) (s:m.Sublist l):Up m:=h.sublist s
theorem Up.get {l:List Cl} (h:Up l) {i j:Nat} {x y:Cl} (hij:i < j) (hi:l[i]?=some x) (hj:l[j]?=some y):ltC x y=true:=by
 obtain ⟨a,rfl⟩:=c6J.1 hi
 obtain ⟨b,rfl⟩:=c6J.1 hj
 exact List.pairwise_iff_getElem.1 h i j a b hij
def dd (l:List Cl):Nat->List Cl
 | 0=>[]
 | r+1=>if 0 < r/\l[r-1]?=l[r]? then dd l r else dd l r++(l[r]?).toList
theorem b4f {l:List Cl} {r:Nat} {x y:Cl} (hr:0 < r) (hx:l[r]?=some x) (hy:l[r-1]?=some y) (h:x=y):dd l (r+1)=dd l r:=by
 show (if 0 < r/\l[r-1]?=l[r]? then dd l r else dd l r++(l[r]?).toList)=_
 rw [if_pos ⟨hr,by rw [hx,hy,h]⟩]
theorem b8v {l:List Cl} {r:Nat} {x y:Cl} (hx:l[r]?=some x) (hy:l[r-1]?=some y) (h:x ≠ y):dd l (r+1)=dd l r++[x]:=by
 show (if 0 < r/\l[r-1]?=l[r]? then dd l r else dd l r++(l[r]?).toList)=_
 rw [if_neg (fun k=>h (by have:=k.2;rw [hx,hy] at this;injection this with this;exact this.symm)),hx]
 rfl
theorem c3U {l:List Cl} {x:Cl} (hx:l[0]?=some x):dd l 1=[x]:=by
 show (if 0 < 0/\l[0-1]?=l[0]? then dd l 0 else dd l 0++(l[0]?).toList)=_
 rw [if_neg (fun k=>absurd k.1 (Nat.lt_irrefl _)),hx]
 rfl
theorem b3G {l:List Cl}:∀ r:Nat,r<=l.length->(∀ j,0 < j->j < r->l[j]? ≠ l[j-1]?)->dd l r=l.take r
 | 0,_,_=>by simp [dd]
 | r+1,hr,h=>by
  have ih:=b3G r (by omega) fun j h0 h1=>h j h0 (by omega)
  have hx:=c6E (show r < l.length by omega)
  generalize l[r]'_=x at hx
  show (if 0 < r/\l[r-1]?=l[r]? then dd l r else dd l r++(l[r]?).toList)=_
  rw [if_neg (fun k=>h r k.1 (by omega) k.2.symm),ih,List.take_add_one]
theorem a7V {l:List Cl} (hs:l.Pairwise fun a b=>ltC b a=false):∀ r:Nat,r<=l.length->Up (dd l r)/\(∀ x,x ∈ dd l r <-> x ∈ l.take r)/\(dd l r).length<=r
 | 0,_=>⟨List.Pairwise.nil,by simp [dd],c6N _⟩
 | r+1,hr=>by
  obtain ⟨h1,h2,h3⟩:=a7V hs r (by omega)
  have hx:=c6E (show r < l.length by omega)
  generalize l[r]'_=x at hx
  have ht:l.take (r+1)=l.take r++[x]:=by rw [List.take_add_one,hx];rfl
  rw [ht]
  rcases c7d r with h0|h0
  ·subst h0
   rw [c3U hx]
   exact ⟨List.pairwise_singleton _ _,by simp,by simp⟩
  ·have hy:=c6E (show r-1 < l.length by omega)
   generalize l[r-1]'_=y at hy
   have hyt:y ∈ l.take r:=c6H (i:=r-1) (by rw [List.getElem?_take,if_pos (by omega)];exact hy)
   by_cases hxy:x=y
   ·rw [b4f h0 hx hy hxy]
    subst hxy
    refine ⟨h1,fun z=>?_,by omega⟩
    rw [h2,List.mem_append,List.mem_singleton]
    exact ⟨.inl,fun h=>h.elim id fun e=>e ▸ hyt⟩
   ·rw [b8v hx hy hxy]
    have pw:=List.pairwise_iff_getElem.1 hs
    have get:∀ {i j:Nat} {a b:Cl},i < j->l[i]?=some a->l[j]?=some b->ltC b a=false:=fun {i j a b} hij hi hj=>by
     obtain ⟨p,rfl⟩:=c6J.1 hi
     obtain ⟨q,rfl⟩:=c6J.1 hj
     exact pw i j p q hij
    have hyx:ltC y x=true:=by
     have h:=get (show r-1 < r by omega) hy hx
     cases hc:ltC y x with
     | true=>rfl
     | false=>exact absurd (b1r h hc) hxy
    refine ⟨List.pairwise_append.2 ⟨h1,List.pairwise_singleton _ _,fun z hz w hw=>?_⟩,fun z=>?_,by rw [c6M];simp;omega⟩
    ·rw [List.mem_singleton] at hw
     subst hw
     rw [h2] at hz
     obtain ⟨j,hj⟩:=List.mem_iff_getElem?.1 hz
     rw [List.getElem?_take] at hj
     split at hj
     ·rcases c7a j (r-1) with h|h
      ·exact c4g (get h hj hy) hyx
      ·have:j=r-1:=by omega
       subst this
       rw [hy] at hj
       injection hj with hj
       rw [<- hj]
       exact hyx
     ·cases hj
    ·rw [List.mem_append,List.mem_append,h2]
def leC (a b:Cl):Bool:=!ltC b a
def O5 (l:List Cl):List Cl:=dd (l.mergeSort leC) (l.mergeSort leC).length
theorem a9h (l:List Cl):(l.mergeSort leC).Pairwise fun a b=>ltC b a=false:=by
 have h:=List.pairwise_mergeSort (le:=leC) (fun a b c h1 h2=>by
  unfold leC at *
  rw [Bool.not_eq_true'] at *
  exact a9P h2 h1) (fun a b=>by
  unfold leC
  cases h:ltC b a with
  | false=>rfl
  | true=>
   cases k:ltC a b with
   | false=>rfl
   | true=>exact absurd (a5n h k) (by rw [a6P];decide)) l
 exact h.imp fun {a b} k=>by unfold leC at k;rwa [Bool.not_eq_true'] at k
theorem b3H (l:List Cl):Up (O5 l):=(a7V (a9h l) _ (c6N _)).1
theorem a5w (l:List Cl):(O5 l).length<=l.length:=by
 have:=(a7V (a9h l) _ (c6N _)).2.2
 rw [List.length_mergeSort] at this
 unfold O5
 rwa [List.length_mergeSort]
def a1j (l:List Cl) (c:Cl):Bool:=l.contains c
def a2C (a b:List Cl):Bool:=a.all fun c=>a1j (O5 b) c
def a2M (a b:List Cl):List Cl:=(O5 a).filter fun c=>a1j (O5 b) c
theorem b6P {l:List Cl} (hu:Up l) {t:Cl} {i:Nat} (h1:∀ k x,k < i->l[k]?=some x->ltC x t=true) (h2:∀ k x,i<=k->l[k]?=some x->ltC x t=false) :
  a1j l t=match l[i]? with|some x=>decide (a1o x t=0)|none=>false:=by
 unfold a1j
 have mem:l.contains t=true->l[i]?=some t:=fun h=>by
  obtain ⟨m,hm⟩:=List.mem_iff_getElem?.1 (List.contains_iff_mem.1 h)
  rcases Nat.lt_trichotomy m i with k|k|k
  ·have:=h1 m t k hm
   rw [a6P] at this
   cases this
  ·rw [<- k];exact hm
  ·have hi:=c6E (show i < l.length by have:=(c6J.1 hm).1;omega)
   have a:=hu.get k hi hm
   rw [h2 i _ (c6N _) hi] at a
   cases a
 cases h:l.contains t with
 | true=>rw [mem h];simp [b5v]
 | false=>
  cases hi:l[i]? with
  | none=>rfl
  | some x=>
   simp only
   refine (decide_eq_false fun e=>?_).symm
   rw [b5v] at e
   subst e
   rw [List.contains_iff_mem.2 (c6H hi)] at h
   cases h
end Go.Proofs.YtpffebkbmcbmgaaGreatDoor
namespace Go.Proofs
open Go.Shelf
def Tryz.a4b:Go.Shelf.Ren:=⟨fun|6=>163|15=>201|14=>200|28=>230|29=>231|20=>222|21=>223|22=>224|23=>225|24=>226|25=>227|26=>228|27=>229|46=>239|47=>240|48=>241|49=>242|50=>243|57=>245|n=>n,fun|22=>112|24=>157|25=>159|3=>3|39=>189|0=>0|53=>188|55=>183|4=>4|46=>268|45=>267|50=>223|5=>5|9=>9|66=>283|70=>287|76=>290|77=>291|n=>n,fun|n=>n⟩
theorem Tryz.b1o:Go.Proofs.SlLaysF0.n6 Tryz.prog Tryz.a4b:={
 mixed:=by kernel_rfl
 f6:=⟨Tryz.f163.name,by decide,Tryz.func163.trans (congrArg some (by kernel_rfl))⟩
 f14:=⟨Tryz.f200.name,by decide,Tryz.func200.trans (congrArg some (by kernel_rfl))⟩
 f15:=Tryz.func201.trans (congrArg some (by kernel_rfl))
 f20:=⟨Tryz.f222.name,by decide,Tryz.func222.trans (congrArg some (by kernel_rfl))⟩
 f21:=⟨Tryz.f223.name,by decide,Tryz.func223.trans (congrArg some (by kernel_rfl))⟩
 f22:=⟨Tryz.f224.name,by decide,Tryz.func224.trans (congrArg some (by kernel_rfl))⟩
 f23:=⟨Tryz.f225.name,by decide,Tryz.func225.trans (congrArg some (by kernel_rfl))⟩
 f24:=⟨Tryz.f226.name,by decide,Tryz.func226.trans (congrArg some (by kernel_rfl))⟩
 f25:=⟨Tryz.f227.name,by decide,Tryz.func227.trans (congrArg some (by kernel_rfl))⟩
 f26:=⟨Tryz.f228.name,by decide,Tryz.func228.trans (congrArg some (by kernel_rfl))⟩
 f27:=⟨Tryz.f229.name,by decide,Tryz.func229.trans (congrArg some (by kernel_rfl))⟩
 f28:=Tryz.func230.trans (congrArg some (by kernel_rfl))
 f29:=Tryz.func231.trans (congrArg some (by kernel_rfl))
 f46:=⟨Tryz.f239.name,by decide,Tryz.func239.trans (congrArg some (by kernel_rfl))⟩
 f47:=Tryz.func240.trans (congrArg some (by kernel_rfl))
 f48:=Tryz.func241.trans (congrArg some (by kernel_rfl))
 f49:=⟨Tryz.f242.name,by decide,Tryz.func242.trans (congrArg some (by kernel_rfl))⟩
 f50:=⟨Tryz.f243.name,by decide,Tryz.func243.trans (congrArg some (by kernel_rfl))⟩
 f57:=⟨Tryz.f245.name,by decide,Tryz.func245.trans (congrArg some (by kernel_rfl))⟩
 t0:=Tryz.underlying0
 a0:=Tryz.isAgg0
 z0:=Tryz.sizeOf0
 v0:=Tryz.zeroValue0
 t3:=Tryz.underlying3
 a3:=Tryz.isAgg3
 z3:=Tryz.sizeOf3
 v3:=Tryz.zeroValue3
 t4:=Tryz.underlying4
 a4:=Tryz.isAgg4
 z4:=Tryz.sizeOf4
 v4:=Tryz.zeroValue4
 t5:=Tryz.underlying5
 a5:=Tryz.isAgg5
 z5:=Tryz.sizeOf5
 v5:=Tryz.zeroValue5
 t9:=Tryz.underlying9
 a9:=Tryz.isAgg9
 z9:=Tryz.sizeOf9
 v9:=Tryz.zeroValue9
 t22:=Tryz.underlying112
 a22:=Tryz.isAgg112
 z22:=Tryz.sizeOf112
 v22:=Tryz.zeroValue112
 t25:=Tryz.underlying159
 a25:=Tryz.isAgg159
 z25:=Tryz.sizeOf159
 v25:=Tryz.zeroValue159
 t39:=Tryz.underlying189
 a39:=Tryz.isAgg189
 z39:=Tryz.sizeOf189
 v39:=Tryz.zeroValue189
 t45:=Tryz.underlying267
 a45:=Tryz.isAgg267
 z45:=Tryz.sizeOf267
 v45:=Tryz.zeroValue267
 t46:=Tryz.underlying268
 a46:=Tryz.isAgg268
 z46:=Tryz.sizeOf268
 v46:=Tryz.zeroValue268
 t50:=Tryz.underlying223
 a50:=Tryz.isAgg223
 z50:=Tryz.sizeOf223
 v50:=Tryz.zeroValue223
 t53:=Tryz.underlying188
 a53:=Tryz.isAgg188
 z53:=Tryz.sizeOf188
 v53:=Tryz.zeroValue188
 t55:=Tryz.underlying183
 a55:=Tryz.isAgg183
 z55:=Tryz.sizeOf183
 v55:=Tryz.zeroValue183
 t66:=Tryz.underlying283
 a66:=Tryz.isAgg283
 z66:=Tryz.sizeOf283
 v66:=Tryz.zeroValue283
 t70:=Tryz.underlying287
 a70:=Tryz.isAgg287
 z70:=Tryz.sizeOf287
 v70:=Tryz.zeroValue287
 t76:=Tryz.underlying290
 a76:=Tryz.isAgg290
 z76:=Tryz.sizeOf290
 v76:=Tryz.zeroValue290
 t77:=Tryz.underlying291
 a77:=Tryz.isAgg291
 z77:=Tryz.sizeOf291
 v77:=Tryz.zeroValue291 }
def Tryz.b4F:Go.Shelf.Ren:=⟨fun|122=>161|215=>198|n=>n,fun|3=>3|4=>4|n=>n,fun|n=>n⟩
theorem Tryz.c3I:Go.Proofs.Lays.n122 Tryz.prog Tryz.b4F:={
 mixed:=by kernel_rfl
 f122:=Tryz.func161.trans (congrArg some (by kernel_rfl))
 f215:=Tryz.func198.trans (congrArg some (by kernel_rfl))
 t3:=Tryz.underlying3
 a3:=Tryz.isAgg3
 z3:=Tryz.sizeOf3
 v3:=Tryz.zeroValue3
 t4:=Tryz.underlying4
 a4:=Tryz.isAgg4
 z4:=Tryz.sizeOf4
 v4:=Tryz.zeroValue4 }
open Go.RowKit in
theorem Tryz.cmp_Compare_int (x y:Int) (w:World) :
  Calls Tryz.prog 161 #[.int .i64 x,.int .i64 y] w fun e w'=>e=.returned (.int .i64 (Lib.compareInt x y))/\w'=w:=Any.cmp_Compare_int Tryz.c3I x y w
end Go.Proofs
namespace Go.Proofs.YtpffebkbmcbmgaaGreatDoor
open Go Go.RowKit Go.Lib Go.Sort Eng
set_option maxRecDepth 100000
set_option maxHeartbeats 4000000
def ce (p:Cl):List C:=[.v (.int .i64 p.1),.v (.int .i64 p.2)]
def cls (l:List Cl):C:=.sl 2 (l.map ce)
def cv (p:Cl):List Value:=[.int .i64 p.1,.int .i64 p.2]
theorem c3Z {l:List Cl}:∀ q ∈ l.map ce,q.length=2:=fun q hq=>by
 obtain ⟨p,_,rfl⟩:=List.mem_map.1 hq
 rfl
theorem b3Q {l:List Cl}:∀ q ∈ l.map cv,q.length=2:=fun q hq=>by
 obtain ⟨p,_,rfl⟩:=List.mem_map.1 hq
 rfl
theorem b6g:∀ l:List Cl,(l.map ce).flatten=((l.map cv).flatten).map C.v
 | []=>rfl
 | p::l=>by
  rw [c6V,List.flatten_cons,b6g l,c6V,List.flatten_cons,c7t]
  rfl
theorem c1F {w:World} {O:Nat->Prop}:∀ (xs vs:List Value),FzL w O (xs.map C.v) vs->vs=xs
 | [],vs,h=>by simpa only [c6Z,FzL] using h
 | x::xs,vs,h=>by
  simp only [c6V,FzL,Fz] at h
  obtain ⟨y,ys,rfl,rfl,h⟩:=h
  rw [c1F xs ys h]
theorem flat_get {α:Type} {es:List (List α)} {sz k i:Nat} {q:List α} (hl:∀ q ∈ es,q.length=sz) (hq:es[k]?=some q) (hi:i < sz):es.flatten[k*sz+i]?=q[i]?:=by
 rw [<- a2l hl hq,List.getElem?_take,if_pos hi,c7q]
theorem b5E (l:List Cl):(flatK cv 2 l.toArray).toList=(l.map cv).flatten:=by
 apply List.ext_getElem?
 intro j
 have hlen:(l.map cv).flatten.length=l.length*2:=by rw [O1 (sz:=2) b3Q,c6F]
 rcases c7a j (l.length*2) with h|h
 ·have hk:j / 2 < l.length:=by omega
  have e1:(l.map cv)[j / 2]?=some (cv l[j / 2]):=by rw [c6P,c6E hk];rfl
  have e2:=flat_get (i:=j % 2) b3Q e1 (by omega)
  rw [show j / 2*2+j % 2=j by omega] at e2
  rw [e2]
  simp only [flatK,Array.getElem?_toList,Array.getElem?_map,Array.getElem?_range,List.size_toArray]
  rw [if_pos h,c6G,getElem!_pos l.toArray (j / 2) (by simpa using hk)]
  have e3:(cv l[j / 2])[j % 2]?=some ((cv l[j / 2])[j % 2]!):=by
   rcases (show j % 2=0 \/ j % 2=1 by omega) with h|h<;>rw [h]<;>rfl
  rw [e3]
  rfl
 ·rw [c7i (by simpa using h),c7i (by omega)]
theorem b5r (x1 x2 y1 y2:Int) (W:World):Calls Tryz.prog 94 #[.agg #[.int .i64 x1,.int .i64 x2],.agg #[.int .i64 y1,.int .i64 y2]] W fun e w'=>e=.returned (.int .i64 (a1o (x1,x2) (y1,y2)))/\∃ q os',w'=grow (W.drewN q) os':=by
 have he:a1o (x1,x2) (y1,y2)=if Lib.compareInt x2 y2=0 then Lib.compareInt x1 y1 else Lib.compareInt x2 y2:=rfl
 rw [he]
 have h:=fun a b W'=>Tryz.cmp_Compare_int a b W'
 clear he
 generalize Lib.compareInt=cf at *
 go_enter Tryz.func94,Tryz.ntmps94
 go_wp2_with (go_at_call 161;refine (h _ _ _).mono ?_;rintro e w' ⟨rfl,rfl⟩)
 all_goals (go_ret;exact ⟨by simp_all,0,_,by rw [alloc_eq_grow,alloc_eq_grow,grow_grow];rfl⟩)
theorem b5h (a b:Cl):y9 Tryz.prog 94 [.agg (ce a),.agg (ce b)] (ints (a1o a b)):=by
 intro O w vs hO hA
 simp only [FzL,ce,Fz] at hA
 obtain ⟨y,ys,rfl,⟨us,⟨z,zs,rfl,rfl,z2,zs2,rfl,rfl,rfl⟩,rfl⟩,y2,ys2,rfl,⟨us,⟨z,zs,rfl,rfl,z2,zs2,rfl,rfl,rfl⟩,rfl⟩,rfl⟩:=hA
 refine (b5r a.1 a.2 b.1 b.2 w).mono ?_
 rintro e w' ⟨rfl,q,os,rfl⟩
 refine ⟨_,rfl,⟨rfl,rfl,rfl,?_,fun k hk=>?_⟩,by simp only [ints,Fz]⟩
 ·show w.heap.size<=(w.heap++os).size
  simp
 ·show (w.heap++os)[k]?=w.heap[k]?
  rw [Array.getElem?_append_left hk]
theorem c4P {E:Ctx} (hP:E.P=Tryz.prog) (es:List Cl) (hn:es.length < 4611686018427387904) :
    l8 E [.row 157 2 (es.map ce)] 163 [.rv 0,.v (.func (.func 94) #[] #[])] (.v (.tuple #[])) [.row 157 2 ((es.mergeSort leC).map ce)] []:=by
  obtain ⟨P,eff',N,w0,own0,av0,nu0,pk0⟩:=E
  simp only at hP
  subst hP
  intro av ν w vs hR hav hF hD
  simp only [l7,Den] at hD
  obtain ⟨x,ys,rfl,⟨hx,_⟩,y2,ys2,rfl,rfl,rfl⟩:=hD
  obtain ⟨hl,vs,hFz,hone,hrow⟩:=hR.get (k:=0) rfl hx
  have hν:ν=[x]:=by
    have hlen:=hR.len
    match ν,hlen,hx with
    | [z],_,h=>simp at h;rw [h]
  subst hν
  have hvs:vs=(es.map cv).flatten:=c1F _ _ (by rw [<- b6g];exact hFz)
  rw [c6F] at hrow
  have fin:∀ w',RG av own0 w0.heap.size [x] ([Res.row 157 2 (es.map ce)].set 0 (.row 157 2 ((es.mergeSort leC).map ce))) w'/\Mv [Res.row 157 2 (es.map ce)] [x] w [] ([Res.row 157 2 (es.map ce)].set 0 (.row 157 2 ((es.mergeSort leC).map ce))) [x] w' ->
      ∃ ν',RG av own0 w0.heap.size ν' [.row 157 2 ((es.mergeSort leC).map ce)] w'/\Mv [.row 157 2 (es.map ce)] [x] w [] [.row 157 2 ((es.mergeSort leC).map ce)] ν' w'/\Den ν' w' (OO av [.row 157 2 ((es.mergeSort leC).map ce)] ν') (.v (.tuple #[])) (.tuple #[]):=
    fun w' h=>⟨[x],h.1,h.2,by simp only [Den]⟩
  rcases hrow.2 with ⟨h0,A,rfl⟩|⟨g,cap,cur,rfl,hc0,hg,hnc,hcm,hcs,htake⟩
  · have he:es=[]:=c7h h0
    subst he
    have h:=AnyF.slices_SortFunc_none (P:=Tryz.prog) (ρ:=Tryz.a4b) { Tryz.b1o with } A 0 (.func (.func 94) #[] #[]) w
    refine h.mono ?_
    rintro e w' ⟨rfl,rfl⟩
    refine (fin _ ?_).elim fun ν' h=>⟨_,ν',rfl,h⟩
    rw [show ([]:List Cl).mergeSort leC=[] by simp,set_self rfl]
    exact ⟨hR,Mv.of_below (Below.refl _ _)⟩
  · have hgl:g < w.heap.size:=(Array.getElem?_eq_some_iff.1 hg).1
    have hcz:es.length*2<=cur.size:=by rw [hcs];exact c7j _ hnc
    have hH:HoldsK cv 2 w g 0 es.toArray:=by
      intro j hj
      rw [size_flatK,List.size_toArray] at hj
      have e1:(flatK cv 2 es.toArray)[j]! = cur[j]'(by omega):=by
        have h1:(flatK cv 2 es.toArray).toList[j]?=cur.toList[j]?:=by
          rw [b5E,<- hvs,<- htake,List.getElem?_take,if_pos hj]
        rw [Array.getElem?_toList,Array.getElem?_toList,Array.getElem?_eq_getElem (show j < cur.size by omega),Array.getElem?_eq_getElem (show j < (flatK cv 2 es.toArray).size by rw [size_flatK,List.size_toArray];exact hj)] at h1
        injection h1 with h1
        rw [getElem!_pos _ _ (by rw [size_flatK,List.size_toArray];exact hj),h1]
      rw [e1]
      have hj2:j < cur.size:=by omega
      constructor
      · simp [World.cell?,hg,hj2]
      · simp [World.frozen?,hg]
    have hcmp:CmpLays Tryz.prog 94 #[] cv 2 a1o g 0 es.toArray.size w:=fun _ _ _ _ a b=>b5r a.1 a.2 b.1 b.2 _
    have eg:∀ args w,(callFunc 94 args).run Tryz.prog w=.ok (.enter 94 args) w:=enters_of Tryz.func94 (by kernel_rfl) rfl
    have hswo:SWO (ltOf a1o):=⟨a6P,fun _ _ _ h k=>a5n h k,fun _ _ _ h k=>a9P h k⟩
    have h:=AnyQ.slices_SortFunc_total (P:=Tryz.prog) (ρ:=Tryz.a4b) Tryz.b1o 2 Tryz.isAgg157 Tryz.sizeOf157 cv (fun _=>rfl) (fun a v hv=>by simp [cv] at hv;rcases hv with rfl|rfl<;>rfl) a1o hswo 94 #[] g 0 cap es.toArray w eg hcmp hH hgl (by simpa using hn) (fun _ _ h k=>b1r h k)
    have hsz:es.toArray.size=es.length:=by simp
    rw [hsz] at h
    refine Calls.mono h ?_
    rintro e w' ⟨rfl,n,os,rfl⟩
    refine (fin _ ?_).elim fun ν' h=>⟨_,ν',rfl,h⟩
    have hms:(List.mergeSort es.toArray.toList fun x y=>!(ltOf a1o) y x)=es.mergeSort leC:=rfl
    rw [hms]
    generalize hM:es.mergeSort leC=M
    have hml:M.length=es.length:=by rw [<- hM,List.length_mergeSort]
    have hheap:∀ k,k < w.heap.size->(sortWorldK cv 2 w g 0 n M.toArray os).heap[k]?=if g=k then some (.cells (putCells id 0 (flatK cv 2 M.toArray) cur) 157 (0,0)) else w.heap[k]?:=fun k hk=>by
      show ((w.heap.modify g (onCells (putCells id 0 (flatK cv 2 M.toArray))))++os)[k]?=_
      rw [Array.getElem?_append_left (by simpa using hk),Array.getElem?_modify]
      split
      · rename_i e
        subst e
        rw [hg]
        rfl
      · rfl
    refine hR.upd (r':=.row 157 2 (M.map ce)) rfl rfl ⟨rfl,rfl,rfl,?_,fun b hb hn=>?_⟩ (fun b hb=>hb) fun hkp=>?_
    · show w.heap.size<=((w.heap.modify g _)++os).size
      simp
    · rw [hheap b hb,if_neg fun e=>hn (by simp only [fp,D5];rw [if_neg (by omega),e])]
    · refine ⟨c3Z,(M.map cv).flatten,by rw [b6g];exact FzL.vs _,fun u hu=>?_,?_⟩
      · obtain ⟨q,hq,hu⟩:=List.mem_flatten.1 hu
        obtain ⟨p,_,rfl⟩:=List.mem_map.1 hq
        simp [cv] at hu
        rcases hu with rfl|rfl<;>rfl
      · rw [c6F,hml]
        refine ⟨by rw [O1 (sz:=2) b3Q,c6F,hml],.inr ⟨g,cap,_,rfl,hc0,by rw [hheap g hgl,if_pos rfl],hnc,hcm,by simpa [putCells] using hcs,?_⟩⟩
        rw [<- b5E]
        apply List.ext_getElem?
        intro j
        rw [List.getElem?_take]
        split
        · rename_i hj
          have hj':j < (flatK cv 2 M.toArray).size:=by rw [size_flatK,List.size_toArray,hml];exact hj
          have hj2:j < cur.size:=by omega
          simp only [Array.getElem?_toList,putCells,Array.getElem?_mapIdx]
          rw [Array.getElem?_eq_getElem hj2,c6G,if_pos ⟨c6K _,by omega⟩,Array.getElem?_eq_getElem hj',Nat.sub_zero,getElem!_pos (flatK cv 2 M.toArray) j hj']
          rfl
        · rename_i hj
          rw [c7i]
          rw [Array.length_toList,size_flatK,List.size_toArray,hml]
          omega
open Go Eng
open Go Go.RowKit Eng
set_option maxHeartbeats 8000000
theorem l8.vg {E:Ctx} {rs rs2 rs':List Res} {f:Nat} {args args':List C} {s:C} {pk:List Nat} (h:l8 E rs2 f args' s rs' pk) (hi:j5 rs rs2 args args') (hrs:E5 rs rs2 rs2 rs) (hlen:rs2.length=rs.length):l8 E rs f args s rs' pk:=by
 intro av ν w vs hR hav hF hD
 have hk:=a1z hrs
 have hD':=hi.den hR (Cut.of hR hk) hD
 have et:ν.take rs2.length=ν:=by rw [hlen,<- hR.len];exact c6X
 rw [et] at hD'
 have hR2:=hR.weak hrs
 rw [et] at hR2
 refine (h av ν w vs hR2 hav hF hD').mono ?_
 rintro e w' ⟨y,ν',rfl,h1,h2,h3⟩
 exact ⟨y,ν',rfl,h1,⟨h2.os,h2.tape,h2.output,h2.size,fun b hb hn=>h2.block b hb (fun ho=>hn (a2F hk ho)),fun b hb=>(h2.own b hb).imp (a2F hk) id,h2.nu⟩,h3⟩
theorem c2p (n:Nat) (hn:n<=1000000000):FNew Tryz.prog 199 [.v (.slice none 0 0),ints n] 157 2 []:=by
 refine FNew.of (eff:=eff) Tryz.func199 (by cbv) (by exact c6Y rfl) fun w O=>?_
 simp only [j6,ints]
 (repeat first|refine uA ?_|(refine uK ?_ ?_;focus first|omega|(intros;simp_all<;>omega))|simp (disch:=omega) only [go_sem,Nat.reduceBEq,Nat.reduceAdd,ww])
 (refine uJ rfl (fun hc=>?_) fun hc=>?_)
 ·omega
 (repeat first|refine uA ?_|(refine uK ?_ ?_;focus first|omega|(intros;simp_all<;>omega))|simp (disch:=omega) only [go_sem,Nat.reduceBEq,Nat.reduceAdd,ww])
 (refine uJ rfl (fun hc=>?_) fun hc=>?_)
 ·(repeat first|refine uA ?_|(refine uK ?_ ?_;focus first|omega|(intros;simp_all<;>omega))|simp (disch:=omega) only [go_sem,Nat.reduceBEq,Nat.reduceAdd,ww])
  refine S.weaken (Ent.shrink 4 0 rfl rfl (c6K _) ⟨.inr (c6K _),trivial⟩) ?_
  exact S.done (j4.new rfl rfl rfl)
 ·(repeat first|refine uA ?_|(refine uK ?_ ?_;focus first|omega|(intros;simp_all<;>omega))|simp (disch:=omega) only [go_sem,Nat.reduceBEq,Nat.reduceAdd,ww])
  refine S.weaken (Ent.pack 4 157 2 rfl) ?_
  exact S.done (j4.new rfl rfl rfl)
def X9 (ls:List (List Cl)):C:=.sl 1 (ls.map fun l=>[cls l])
theorem b1v {ls:List (List Cl)} {i:Nat} {l:List Cl} (h:ls[i]?=some l):(ls.take (i+1)).flatten=(ls.take i).flatten++l:=by
 rw [List.take_add_one,h,List.flatten_append]
 simp
def a2q (ls:List (List Cl)) (i:Nat):Nat:=((ls.take i).flatten).length
theorem b8D (ls:List (List Cl)):a2q ls 0=0:=by simp [a2q]
theorem b7e {ls:List (List Cl)} {i:Nat} {l:List Cl} (h:ls[i]?=some l):a2q ls (i+1)=a2q ls i+l.length:=by unfold a2q;rw [b1v h,c6M]
theorem c0j (ls:List (List Cl)) (hl:ls.length<=1000) (hn:∀ i,a2q ls i<=1000000000):FNew Tryz.prog 162 [X9 ls] 157 2 (ls.flatten.map ce):=by
 refine FNew.of (eff:=eff) Tryz.func162 (by cbv) (by exact c6Y rfl) fun w O=>?_
 have hg:=c2p ls.flatten.length (by have:=hn ls.length;unfold a2q at this;rwa [c6X] at this)
 simp only [j6,X9]
 (repeat first|refine uA ?_|(refine uK ?_ ?_;focus first|omega|(intros;simp_all<;>omega))|simp (disch:=omega) only [go_sem,Nat.reduceBEq,Nat.reduceAdd,ww,c6F])
 refine S.loop (X:=Nat) (fun i=>⟨[(0,X9 ls),(3,ints (a2q ls i:Nat)),(9,X9 ls),(10,ints ls.length),(11,ints i)],[]⟩) (fun i=>i<=ls.length) (fun i=>ls.length-i) 0 (c6K _) (by simp only [b8D];exact (by (repeat first|refine uA ?_|(refine ⟨?_,?_⟩;focus first|rfl|simp [slot])|rfl|simp))) ?_
 ·intro i hi
  simp only [X9,ints]
  (repeat first|refine uA ?_|(refine uK ?_ ?_;focus first|omega|(intros;simp_all<;>omega))|simp (disch:=omega) only [go_sem,Nat.reduceBEq,Nat.reduceAdd,ww,c6F])
  (refine uJ rfl (fun hc=>?_) fun hc=>?_)
  ·have hi':i < ls.length:=by omega
   have hgl:=c6E hi'
   generalize ls[i]=l at hgl
   have hs:=b7e hgl
   have h1:=hn (i+1)
   generalize e1:a2q ls (i+1)=n1 at *
   generalize a2q ls i=n0 at *
   have hsi:(n0:Int)+(l.length:Int)=(n1:Int):=by omega
   (repeat first|refine uA ?_|(refine uK ?_ ?_;focus first|omega|(intros;simp_all<;>omega))|simp (disch:=omega) only [go_sem,Nat.reduceBEq,Nat.reduceAdd,ww,c6F,c6P,hgl,c6G,c6I,cls,hsi])
   (refine uJ rfl (fun hc=>?_) fun hc=>?_)
   ·omega
   (repeat first|refine uA ?_|(refine uK ?_ ?_;focus first|omega|(intros;simp_all<;>omega))|simp (disch:=omega) only [go_sem,Nat.reduceBEq,Nat.reduceAdd,ww])
   refine S.next (i+1) (by omega) (by omega) (by simp only [e1];exact (by (repeat first|refine uA ?_|(refine ⟨?_,?_⟩;focus first|rfl|simp [slot])|rfl|simp)))
  ·have hi':i=ls.length:=by omega
   subst hi'
   rw [show a2q ls ls.length=ls.flatten.length by unfold a2q;rw [c6X]]
   generalize hm:ls.flatten.length=m at hg
   (repeat first|refine uA ?_|(refine uK ?_ ?_;focus first|omega|(intros;simp_all<;>omega))|simp (disch:=omega) only [go_sem,Nat.reduceBEq,Nat.reduceAdd,ww,c6F]|refine p8.t (FNew.t hg rfl) ?_)
   refine S.loop (X:=Nat) (fun i=>⟨[(6,.rv 0),(25,X9 ls),(26,ints ls.length),(27,ints i)],[.row 157 2 (((ls.take i).flatten).map ce)]⟩) (fun i=>i<=ls.length) (fun i=>ls.length-i) 0 (c6K _) (by simp only [List.take_zero,List.flatten_nil,c6Z];exact (by (repeat first|refine uA ?_|(refine ⟨?_,?_⟩;focus first|rfl|simp [slot])|rfl|simp))) ?_
   intro i hi
   clear hg
   simp only [X9,ints]
   (repeat first|refine uA ?_|(refine uK ?_ ?_;focus first|omega|(intros;simp_all<;>omega))|simp (disch:=omega) only [go_sem,Nat.reduceBEq,Nat.reduceAdd,ww,c6F])
   (refine uJ rfl (fun hc=>?_) fun hc=>?_)
   ·have hi':i < ls.length:=by omega
    have hgl:=c6E hi'
    generalize ls[i]=l at hgl
    have hs:=b1v hgl
    have h1:=hn (i+1)
    have h0:=hn i
    unfold a2q at h1 h0
    rw [hs,c6M] at h1
    generalize e1:(ls.take (i+1)).flatten=n1 at *
    generalize (ls.take i).flatten=n0 at *
    (repeat first|refine uA ?_|(refine uK ?_ ?_;focus first|omega|(intros;simp_all<;>omega))|simp (disch:=omega) only [go_sem,Nat.reduceBEq,Nat.reduceAdd,ww,c6F,c6P,hgl,c6G,c6I,cls])
    refine S.next (i+1) (by omega) (by omega) (by simp only [e1,hs,c7t];exact (by (repeat first|refine uA ?_|(refine ⟨?_,?_⟩;focus first|rfl|simp [slot])|rfl|simp)))
   ·have hi':i=ls.length:=by omega
    subst hi'
    rw [c6X]
    (repeat first|refine uA ?_|(refine uK ?_ ?_;focus first|omega|(intros;simp_all<;>omega))|simp (disch:=omega) only [go_sem,Nat.reduceBEq,Nat.reduceAdd,ww])
    exact S.done (j4.new rfl rfl rfl)
theorem b9t {E:Ctx} (hP:E.P=Tryz.prog) (l:List Cl) (hn:l.length<=1000000000) :
    l8 E [.row 157 2 (l.map ce)] 164 [.rv 0] (.wv 0 2 0 (dd l l.length).length) [.row 157 2 ((dd l l.length++List.replicate (l.length-(dd l l.length).length) (0,0)).map ce)] []:=by
  obtain ⟨P,eff',N,w0,own0,av0,nu0,pk0⟩:=E
  simp only at hP
  subst hP
  refine l8.of (eff:=eff) Tryz.func164 (by cbv) (by exact c6Y rfl) fun w own av ν hν=>?_
  have hν0:ν.length<=1:=by rw [hν];exact c6N _
  have hall:(∀ j,0 < j->j < l.length->l[j]? ≠ l[j-1]?)->dd l l.length=l:=fun h=>by rw [b3G l.length (c6N _) h,c6X]
  have same:(∀ j,0 < j->j < l.length->l[j]? ≠ l[j-1]?)->(dd l l.length).length=l.length/\(dd l l.length++List.replicate (l.length-(dd l l.length).length) (0,0)).map ce=l.map ce:=fun h=>by
    rw [hall h]
    simp
  clear hall
  simp only [j6]
  (repeat first|refine uA ?_|(refine uK ?_ ?_;focus first|omega|(intros;simp_all<;>omega))|simp (disch:=omega) only [go_sem,Nat.reduceBEq,Nat.reduceAdd,ww,c6F])
  (refine uJ rfl (fun hc=>?_) fun hc=>?_)
  · obtain ⟨h1,h2⟩:=same fun j h0 h1=>by omega
    rw [h2,h1]
    (repeat first|refine uA ?_|(refine uK ?_ ?_;focus first|omega|(intros;simp_all<;>omega))|simp (disch:=omega) only [go_sem,Nat.reduceBEq,Nat.reduceAdd,ww])
    exact S.done (j4.M9 (Imp.win rfl (by rw [c6F]) Nat.zero_lt_one) (by (repeat first|refine uA ?_|(refine ⟨?_,?_⟩;focus first|rfl|simp [slot])|rfl|simp)) hν0)
  (repeat first|refine uA ?_|(refine uK ?_ ?_;focus first|omega|(intros;simp_all<;>omega))|simp (disch:=omega) only [go_sem,Nat.reduceBEq,Nat.reduceAdd,ww])
  refine S.loop (X:=Nat) (fun k=>⟨[(0,.rv 0),(3,ints k)],[.row 157 2 (l.map ce)]⟩) (fun k=>(1<=k/\k<=l.length)/\∀ j,0 < j->j < k->l[j]? ≠ l[j-1]?) (fun k=>l.length-k) 1 ⟨⟨c6N _,by omega⟩,fun j h0 h1=>by omega⟩ (by (repeat first|refine uA ?_|(refine ⟨?_,?_⟩;focus first|rfl|simp [slot])|rfl|simp|exact c6L hν0 (by simp))) ?_
  rintro k ⟨⟨hk1,hk2⟩,hm⟩
  simp only [ints]
  (repeat first|refine uA ?_|(refine uK ?_ ?_;focus first|omega|(intros;simp_all<;>omega))|simp (disch:=omega) only [go_sem,Nat.reduceBEq,Nat.reduceAdd,ww,c6F])
  (refine uJ rfl (fun hc=>?_) fun hc=>?_)
  · have hk:k < l.length:=by omega
    have hgx:=c6E hk
    have hgy:=c6E (show k-1 < l.length by omega)
    generalize l[k]'_=x at hgx
    generalize l[k-1]'_=y at hgy
    have hkn:((k:Int)-1).toNat=k-1:=by omega
    (repeat first|refine uA ?_|(refine uK ?_ ?_;focus first|omega|(intros;simp_all<;>omega))|simp (disch:=omega) only [go_sem,Nat.reduceBEq,Nat.reduceAdd,ww,c6F,c6P,hgx,hgy,hkn,c6G,c6I,ce])
    refine S.cond rfl (fun hc=>?_) (fun hc=>?_)
    · have hxy:x=y:=by
        simp only [c6Q,c6S] at hc
        exact Prod.ext hc.1 (by first|exact hc.2.1|exact hc.2)
      have hd0:dd l (k+1)=l.take k:=by rw [b4f (by omega) hgx hgy hxy,b3G k (by omega) hm]
      clear same hm
      (repeat first|refine uA ?_|(refine uK ?_ ?_;focus first|omega|(intros;simp_all<;>omega))|simp (disch:=omega) only [go_sem,Nat.reduceBEq,Nat.reduceAdd,ww,c6F,c6I])
      refine S.loop (X:=Nat × List Cl) (fun p=>⟨[(0,.rv 0),(3,ints ((dd l (k+p.1)).length:Nat)),(4,.wv 0 2 k (l.length-k)),(5,ints p.1)],[.row 157 2 (p.2.map ce)]⟩)
        (fun p=>(1<=p.1/\k+p.1<=l.length)/\p.2.length=l.length/\p.2.take (dd l (k+p.1)).length=dd l (k+p.1)/\(dd l (k+p.1)).length+1<=k+p.1/\∀ j,k+p.1-1<=j->p.2[j]?=l[j]?) (fun p=>l.length-p.1) (1,l)
        ⟨⟨c6N _,by simp only;omega⟩,rfl,by simp only [hd0,c6O];rw [Nat.min_eq_left (by omega)],by simp only [hd0,c6O];omega,fun _ _=>rfl⟩ (by simp only [hd0,c6O,Nat.min_eq_left hk2];exact (by (repeat first|refine uA ?_|(refine ⟨?_,?_⟩;focus first|rfl|simp [slot])|rfl|simp|exact c6L hν0 (by simp)))) ?_
      rintro ⟨r,es⟩ ⟨⟨hr1,hr2⟩,hel,het,hew,hej⟩
      simp only at hr1 hr2 hel het hew hej
      simp only [ints]
      (repeat first|refine uA ?_|(refine uK ?_ ?_;focus first|omega|(intros;simp_all<;>omega))|simp (disch:=omega) only [go_sem,Nat.reduceBEq,Nat.reduceAdd,ww,c6F])
      (refine uJ rfl (fun hc=>?_) fun hc=>?_)
      · have hr:k+r < l.length:=by omega
        have gx:=c6E hr
        have gy:=c6E (show k+r-1 < l.length by omega)
        generalize l[k+r]'_=u at gx
        generalize l[k+r-1]'_=v at gy
        have ex:=(hej (k+r) (by omega)).trans gx
        have ey:=(hej (k+r-1) (c6N _)).trans gy
        have hrn:((r:Int)-1).toNat=r-1:=by omega
        have hkr:k+(r-1)=k+r-1:=by omega
        (repeat first|refine uA ?_|(refine uK ?_ ?_;focus first|omega|(intros;simp_all<;>omega))|simp (disch:=omega) only [go_sem,Nat.reduceBEq,Nat.reduceAdd,ww,c6F,c6P,hel,ex,ey,hrn,hkr,c6G,c6I,ce])
        refine S.cond rfl (fun hc=>?_) (fun hc=>?_)
        · have huv:u ≠ v:=fun e=>by
            subst e
            simp at hc
          have hdn:=b8v gx gy huv
          rw [show k+r+1=k+(r+1) by omega] at hdn
          have hdl:(dd l (k+(r+1))).length=(dd l (k+r)).length+1:=by rw [hdn,c6M];rfl
          generalize hm:(dd l (k+r)).length=m at *
          have hmg:=c6E (show m < es.length by omega)
          generalize es[m]'_=z at hmg
          have hset:(es.map ce).set m [C.v (.int .i64 u.1),C.v (.int .i64 u.2)]=(es.set m u).map ce:=by rw [List.map_set];rfl
          have hnt:(es.set m u).take (m+1)=dd l (k+(r+1)):=by
            rw [hdn,List.take_add_one,List.getElem?_set_self (by omega),List.take_set_of_le (c6N _),het]
            rfl
          have hnj:∀ j,k+(r+1)-1<=j->(es.set m u)[j]?=l[j]?:=fun j hj=>by
            rw [List.getElem?_set_ne (by omega)]
            exact hej j (by omega)
          have hnl:(es.set m u).length=l.length:=by rw [c7r,hel]
          generalize es.set m u=es' at *
          (repeat first|refine uA ?_|(refine uK ?_ ?_;focus first|omega|(intros;simp_all<;>omega))|simp (disch:=omega) only [go_sem,Nat.reduceBEq,Nat.reduceAdd,ww,c6F,c6P,hel,ex,hmg,c6G,c6I,ce,List.take_zero,List.drop_zero,List.drop_succ_cons,List.nil_append,List.append_nil,hset])
          refine S.next (m:=fun p:Nat × List Cl=>l.length-p.1) (x:=(r,es)) (r+1,es') ⟨⟨by simp only;omega,by simp only;omega⟩,hnl,by simp only [hdl];exact hnt,by simp only [hdl];omega,hnj⟩ (by simp only;omega) (by simp only [hdl];exact (by (repeat first|refine uA ?_|(refine ⟨?_,?_⟩;focus first|rfl|simp [slot])|rfl|simp|exact c6L hν0 (by simp))))
        · have huv:u=v:=by
            simp at hc
            exact Prod.ext hc.1 hc.2
          have hdn:=b4f (by omega) gx gy huv
          rw [show k+r+1=k+(r+1) by omega] at hdn
          (repeat first|refine uA ?_|(refine uK ?_ ?_;focus first|omega|(intros;simp_all<;>omega))|simp (disch:=omega) only [go_sem,Nat.reduceBEq,Nat.reduceAdd,ww])
          refine S.next (m:=fun p:Nat × List Cl=>l.length-p.1) (x:=(r,es)) (r+1,es) ⟨⟨by simp only;omega,by simp only;omega⟩,hel,by simp only [hdn];exact het,by simp only [hdn];omega,fun j hj=>hej j (by omega)⟩ (by simp only;omega) (by simp only [hdn];exact (by (repeat first|refine uA ?_|(refine ⟨?_,?_⟩;focus first|rfl|simp [slot])|rfl|simp|exact c6L hν0 (by simp))))
      · have hrr:k+r=l.length:=by omega
        rw [hrr] at het hew ⊢
        clear hej hd0
        generalize hm:(dd l l.length).length=m at *
        generalize dd l l.length=d at *
        have hz:(es.map ce).take m++List.replicate (l.length-m) [C.v (.int .i64 0),.v (.int .i64 0)]=(d++List.replicate (l.length-m) (0,0)).map ce:=by
          rw [c7t,List.map_replicate,<- List.map_take,het]
          rfl
        generalize (d++List.replicate (l.length-m) (0,0)).map ce=R at *
        have hRl:R.length=l.length:=by rw [<- hz];simp;omega
        have hz2:=hz
        rw [<- List.map_take] at hz2
        (repeat first|refine uA ?_|(refine uK ?_ ?_;focus first|omega|(intros;simp_all<;>omega))|simp (disch:=omega) only [go_sem,Nat.reduceBEq,Nat.reduceAdd,ww,c6F,hel,c6I,hz,hz2,hRl])
        exact S.done (j4.M9 (Imp.refl rfl) (E5.cons (RI.row _ _ _ _ (by first|exact hz|exact hz2|rfl)) E5.nil) hν0)
    · have hxy:x ≠ y:=fun e=>by
        subst e
        simp at hc
      (repeat first|refine uA ?_|(refine uK ?_ ?_;focus first|omega|(intros;simp_all<;>omega))|simp (disch:=omega) only [go_sem,Nat.reduceBEq,Nat.reduceAdd,ww])
      refine S.next (k+1) ⟨⟨by omega,by omega⟩,fun j h0 h1=>?_⟩ (by omega) (by (repeat first|refine uA ?_|(refine ⟨?_,?_⟩;focus first|rfl|simp [slot])|rfl|simp|exact c6L hν0 (by simp)))
      rcases c7a j k with h|h
      · exact hm j h0 h
      · have:j=k:=by omega
        subst this
        rw [hgx,hgy]
        exact fun e=>hxy (Option.some.inj e)
  · have hk:k=l.length:=by omega
    subst hk
    obtain ⟨h1,h2⟩:=same hm
    rw [h2,h1]
    (repeat first|refine uA ?_|(refine uK ?_ ?_;focus first|omega|(intros;simp_all<;>omega))|simp (disch:=omega) only [go_sem,Nat.reduceBEq,Nat.reduceAdd,ww])
    exact S.done (j4.M9 (Imp.win rfl (by rw [c6F]) Nat.zero_lt_one) (by (repeat first|refine uA ?_|(refine ⟨?_,?_⟩;focus first|rfl|simp [slot])|rfl|simp)) hν0)
theorem c3G {ls:List (List Cl)} {i:Nat}:a2q ls i<=ls.flatten.length:=by
 unfold a2q
 have h:ls.flatten=(ls.take i).flatten++(ls.drop i).flatten:=by rw [<- List.flatten_append,List.take_append_drop]
 rw [h,c6M]
 omega
theorem a8Q (ls:List (List Cl)) (hl:ls.length<=1000) (hn:ls.flatten.length<=1000000000):FNew Tryz.prog 95 [X9 ls] 157 2 ((O5 ls.flatten).map ce):=by
 refine FNew.of (eff:=eff) Tryz.func95 (by cbv) (by exact c6Y rfl) fun w O=>?_
 have h1:=c0j ls hl (fun i=>c6L c3G hn)
 have h2:=fun (E:Ctx) (hP:E.P=Tryz.prog)=>c4P (E:=E) hP ls.flatten (by omega)
 have h3:=fun (E:Ctx) (hP:E.P=Tryz.prog)=>b9t (E:=E) hP (ls.flatten.mergeSort leC) (by rw [List.length_mergeSort];exact hn)
 have hd:=(a7V (a9h ls.flatten) _ (c6N _)).2.2
 have hs:O5 ls.flatten=dd (ls.flatten.mergeSort leC) (ls.flatten.mergeSort leC).length:=rfl
 rw [hs]
 generalize dd (ls.flatten.mergeSort leC) (ls.flatten.mergeSort leC).length=d at *
 generalize hm:(ls.flatten.mergeSort leC).length-d.length=m at *
 generalize ls.flatten.mergeSort leC=M at *
 generalize ls.flatten=F at *
 simp only [j6,X9] at h1 ⊢
 (repeat first|refine uA ?_|(refine uK ?_ ?_;focus first|omega|(intros;simp_all<;>omega))|simp (disch:=omega) only [go_sem,Nat.reduceBEq,Nat.reduceAdd,ww]|refine p8.t (FNew.t h1 rfl) ?_|refine p8.t (h2 _ rfl) ?_|refine p8.t (h3 _ rfl) ?_)
 refine S.weaken (Ent.shrink 2 0 rfl rfl (by simp) ⟨.inr (c6K _),trivial⟩) ?_
 exact S.done (j4.new rfl rfl (by simp [a0Q,Res.A8]))
theorem Imp.c4Y {rs rs':List Res} {c:C}:Imp rs rs' c (.any fun _=>True):=fun _ _ _ _ _ _ _ _ _=>by simp only [Den]
theorem b7F (l:List Cl) (t:Cl) (hu:Up l) (hn:l.length<=1000000000):y9 Tryz.prog 166 [cls l,.agg (ce t),.v (.func (.func 94) #[] #[])] (.tup [.any fun _=>True,.v (.bool (a1j l t))]):=by
 refine kS Tryz.func166 (by cbv) (by rfl) fun w O=>?_
 have ho:=fun a=>b5h a t
 have hcal:callable Tryz.prog 94=true:=by kernel_rfl
 simp only [j6,cls,ce] at ho ⊢
 (repeat first|refine uA ?_|(refine uK ?_ ?_;focus first|omega|(intros;simp_all<;>omega))|simp (disch:=omega) only [go_sem,Nat.reduceBEq,Nat.reduceAdd,ww,c6F])
 refine S.loop (X:=Nat × Nat) (fun p=>⟨[(0,cls l),(2,.v (.func (.func 94) #[] #[])),(4,.bp 0 0),(8,ints l.length),(9,ints p.1),(10,ints p.2)],[.box 157 (ce t)]⟩)
  (fun p=>(p.1<=p.2/\p.2<=l.length)/\(∀ k x,k < p.1->l[k]?=some x->ltC x t=true)/\(∀ k x,p.2<=k->l[k]?=some x->ltC x t=false)) (fun p=>p.2-p.1) (0,l.length)
  ⟨⟨c6K _,c6N _⟩,fun _ _ h=>absurd h (Nat.not_lt_zero _),fun k x h hx=>by have:=(c6J.1 hx).1;simp only at h;omega⟩ (by (repeat first|refine uA ?_|(refine ⟨?_,?_⟩;focus first|rfl|simp [slot])|rfl|simp)) ?_
 rintro ⟨i,j⟩ ⟨⟨h1,h2⟩,h3,h4⟩
 simp only at h1 h2 h3 h4
 simp only [cls,ce,ints]
 (repeat first|refine uA ?_|(refine uK ?_ ?_;focus first|omega|(intros;simp_all<;>omega))|simp (disch:=omega) only [go_sem,Nat.reduceBEq,Nat.reduceAdd,ww])
 (refine uJ rfl (fun hc=>?_) fun hc=>?_)
 ·obtain ⟨h,hh⟩:∃ h:Nat,h=(i+j) / 2:=⟨_,rfl⟩
  have hlt:h < l.length:=by omega
  have hg:=c6E hlt
  generalize l[h]=x at hg
  have hsh:((i:Int)+(j:Int)).fdiv (2 ^ 1)=(h:Int):=by
   rw [Int.fdiv_eq_ediv_of_nonneg _ (by decide)]
   omega
  have hox:=ho x
  have hlx:ltC x t=decide (a1o x t < 0):=rfl
  generalize a1o x t=c at hox hlx
  (repeat first|refine uA ?_|(refine uK ?_ ?_;focus first|omega|(intros;simp_all<;>omega))|simp (disch:=omega) only [go_sem,Nat.reduceBEq,Nat.reduceAdd,ww,hsh,hg,hcal,c6F,c6P,c6G,c6I,ce]|(refine uB hox ?_ ?_;exact rfl))
  refine S.cond rfl (fun hc2=>?_) (fun hc2=>?_)
  ·rw [hc2] at hlx
   (repeat first|refine uA ?_|(refine uK ?_ ?_;focus first|omega|(intros;simp_all<;>omega))|simp (disch:=omega) only [go_sem,Nat.reduceBEq,Nat.reduceAdd,ww])
   refine S.next (m:=fun p:Nat × Nat=>p.2-p.1) (x:=(i,j)) (h+1,j) ⟨⟨by simp only;omega,h2⟩,fun k y hk hy=>?_,h4⟩ (by simp only;omega) (by (repeat first|refine uA ?_|(refine ⟨?_,?_⟩;focus first|rfl|simp [slot])|rfl|simp))
   rcases c7a k h with hk'|hk'
   ·exact a5n (hu.get hk' hy hg) hlx
   ·have:k=h:=by simp only at hk;omega
    subst this
    rw [hg] at hy
    injection hy with hy
    rw [<- hy]
    exact hlx
  ·rw [hc2] at hlx
   (repeat first|refine uA ?_|(refine uK ?_ ?_;focus first|omega|(intros;simp_all<;>omega))|simp (disch:=omega) only [go_sem,Nat.reduceBEq,Nat.reduceAdd,ww])
   refine S.next (m:=fun p:Nat × Nat=>p.2-p.1) (x:=(i,j)) (i,h) ⟨⟨by simp only;omega,by simp only;omega⟩,h3,fun k y hk hy=>?_⟩ (by simp only;omega) (by (repeat first|refine uA ?_|(refine ⟨?_,?_⟩;focus first|rfl|simp [slot])|rfl|simp))
   rcases c7a h k with hk'|hk'
   ·cases hy2:ltC y t with
    | false=>rfl
    | true=>rw [a5n (hu.get hk' hg hy) hy2] at hlx;cases hlx
   ·have:k=h:=by simp only at hk;omega
    subst this
    rw [hg] at hy
    injection hy with hy
    rw [<- hy]
    exact hlx
 ·have hij:j=i:=by omega
  subst hij
  have hf:=b6P hu h3 h4
  rw [hf]
  clear h3 h4 hf
  rcases c7a j l.length with hlt|hge
  ·have hg:=c6E hlt
   generalize l[j]=x at hg
   have hox:=ho x
   rw [hg]
   simp only
   generalize a1o x t=c at hox
   have hjl:decide ((j:Int) < (l.length:Int))=true:=decide_eq_true (by omega)
   (repeat first|refine uA ?_|(refine uK ?_ ?_;focus first|omega|(intros;simp_all<;>omega))|simp (disch:=omega) only [go_sem,Nat.reduceBEq,Nat.reduceAdd,ww,hg,hcal,c6F,c6P,c6G,c6I,ce,hjl]|(refine uB hox ?_ ?_;exact rfl))
   refine S.done ?_
   simp only [l9,p9,go_sem,Nat.reduceBEq,Nat.reduceAdd,Nat.reduceLeDiff,Int.reduceToNat,Int.reducePow]
   exact j4.out rfl (Imp.tup (j5.cons Imp.c4Y (j5.cons (Imp.eq (by simp) rfl) j5.nil))) rfl
  ·rw [c7i hge]
   have hgn:l[j]?=none:=c7i hge
   have hjl:decide ((j:Int) < (l.length:Int))=false:=decide_eq_false (by omega)
   (repeat first|refine uA ?_|(refine uK ?_ ?_;focus first|omega|(intros;simp_all<;>omega))|simp (disch:=omega) only [go_sem,Nat.reduceBEq,Nat.reduceAdd,ww,c6F,hjl,hgn,c6P,Option.map_none,hcal,c6I])
   refine a0s.mk (r:=.v (.int .i64 0)) (fun hp=>by cases hp) ?_
   (repeat first|refine uA ?_|(refine uK ?_ ?_;focus first|omega|(intros;simp_all<;>omega))|simp (disch:=omega) only [go_sem,Nat.reduceBEq,Nat.reduceAdd,ww,hjl])
   refine S.done ?_
   simp only [l9,p9,go_sem,Nat.reduceBEq,Nat.reduceAdd,Nat.reduceLeDiff,Int.reduceToNat,Int.reducePow]
   exact j4.out rfl (Imp.tup (j5.cons Imp.c4Y (j5.cons (Imp.eq (by simp) rfl) j5.nil))) rfl
theorem c1U (l:List Cl) (t:Cl) (hu:Up l) (hn:l.length<=1000000000):y9 Tryz.prog 98 [cls l,.agg (ce t)] (.v (.bool (a1j l t))):=by
 refine kS Tryz.func98 (by cbv) (by rfl) fun w O=>?_
 have h:=b7F l t hu hn
 generalize a1j l t=b at *
 simp only [j6,cls,ce] at h ⊢
 (repeat first|refine uA ?_|(refine uK ?_ ?_;focus first|omega|(intros;simp_all<;>omega))|simp (disch:=omega) only [go_sem,Nat.reduceBEq,Nat.reduceAdd,ww]|(refine uB h ?_ ?_;exact rfl))
 exact S.done (j4.out rfl (Imp.refl rfl) rfl)
theorem b8u (l:List Cl) (t:Cl) (hu:Up l) (hn:l.length<=1000000000):y9 Tryz.prog 169 [.agg (ce t),.ep [cls l]] (.v (.bool (!a1j l t))):=by
 refine kS Tryz.func169 (by cbv) (by rfl) fun w O=>?_
 have h:=c1U l t hu hn
 generalize a1j l t=b at *
 simp only [j6,cls,ce] at h ⊢
 (repeat first|refine uA ?_|(refine uK ?_ ?_;focus first|omega|(intros;simp_all<;>omega))|simp (disch:=omega) only [go_sem,Nat.reduceBEq,Nat.reduceAdd,ww]|(refine uB h ?_ ?_;exact rfl))
 exact S.done (j4.out rfl (Imp.refl rfl) rfl)
theorem c3C (l:List Cl) (t:Cl) (hu:Up l) (hn:l.length<=1000000000):y9 Tryz.prog 97 [.agg (ce t),.ep [cls l]] (.v (.bool (!a1j l t))):=by
 refine kS Tryz.func97 (by cbv) (by rfl) fun w O=>?_
 have h:=c1U l t hu hn
 generalize a1j l t=b at *
 simp only [j6,cls,ce] at h ⊢
 (repeat first|refine uA ?_|(refine uK ?_ ?_;focus first|omega|(intros;simp_all<;>omega))|simp (disch:=omega) only [go_sem,Nat.reduceBEq,Nat.reduceAdd,ww]|(refine uB h ?_ ?_;exact rfl))
 exact S.done (j4.out rfl (Imp.refl rfl) rfl)
theorem b7Z (g:Nat) (hcal:callable Tryz.prog g=true) (X:C) (p:Cl->Bool) (l:List Cl) (hn:l.length<=1000000000) (hX:C.cl X=true) (hg:∀ x:Cl,y9 Tryz.prog g [.agg (ce x),.ep [X]] (.v (.bool (p x)))) :
  y9 Tryz.prog 165 [cls l,.clo g [.ep [X]]] (ints (a1U p l)):=by
 refine kS Tryz.func165 (by cbv) (by rfl) fun w O=>?_
 simp only [j6,cls,ints]
 (repeat first|refine uA ?_|(refine uK ?_ ?_;focus first|omega|(intros;simp_all<;>omega))|simp (disch:=omega) only [go_sem,Nat.reduceBEq,Nat.reduceAdd,ww,c6F])
 refine S.loop (X:=Nat) (fun i=>⟨[(0,cls l),(1,.clo g [.ep [X]]),(7,ints l.length),(8,ints i)],[]⟩) (fun i=>i<=l.length/\∀ j,j < i->∀ x,l[j]?=some x->p x=false) (fun i=>l.length-i) 0 ⟨c6K _,fun _ h=>absurd h (Nat.not_lt_zero _)⟩ (by (repeat first|refine uA ?_|(refine ⟨?_,?_⟩;focus first|rfl|simp [slot])|rfl|simp)) ?_
 rintro i ⟨hi,hm⟩
 simp only [cls,ints]
 (repeat first|refine uA ?_|(refine uK ?_ ?_;focus first|omega|(intros;simp_all<;>omega))|simp (disch:=omega) only [go_sem,Nat.reduceBEq,Nat.reduceAdd,ww])
 (refine uJ rfl (fun hc=>?_) fun hc=>?_)
 ·have hi':i < l.length:=by omega
  have hgi:=c6E hi'
  generalize l[i]=x at hgi
  have hs:=hg x
  simp only [ce] at hs
  generalize hpx:p x=b at hs
  (repeat first|refine uA ?_|(refine uK ?_ ?_;focus first|omega|(intros;simp_all<;>omega))|simp (disch:=omega) only [go_sem,Nat.reduceBEq,Nat.reduceAdd,ww,hgi,c6G,c6F,c6P,ce,c6I,hcal]|(refine uB hs ?_ ?_;exact rfl))
  refine S.cond rfl (fun hc2=>?_) (fun hc2=>?_)
  ·rw [a3k (p:=p) hgi (hpx.trans hc2) hm]
   (repeat first|refine uA ?_|(refine uK ?_ ?_;focus first|omega|(intros;simp_all<;>omega))|simp (disch:=omega) only [go_sem,Nat.reduceBEq,Nat.reduceAdd,ww])
   exact S.done (j4.out rfl (Imp.refl rfl) rfl)
  ·(repeat first|refine uA ?_|(refine uK ?_ ?_;focus first|omega|(intros;simp_all<;>omega))|simp (disch:=omega) only [go_sem,Nat.reduceBEq,Nat.reduceAdd,ww])
   refine S.next (i+1) ⟨by omega,fun j hj y hy=>?_⟩ (by omega) (by (repeat first|refine uA ?_|(refine ⟨?_,?_⟩;focus first|rfl|simp [slot])|rfl|simp))
   rcases c7a j i with h1|h1
   ·exact hm j h1 y hy
   ·have:j=i:=by omega
    subst this
    rw [hgi] at hy
    cases hy
    exact hpx.trans hc2
 ·have hi':i=l.length:=by omega
  subst hi'
  rw [a2x hm]
  (repeat first|refine uA ?_|(refine uK ?_ ?_;focus first|omega|(intros;simp_all<;>omega))|simp (disch:=omega) only [go_sem,Nat.reduceBEq,Nat.reduceAdd,ww])
  exact S.done (j4.out rfl (Imp.refl rfl) rfl)
theorem c2V (g:Nat) (hcal:callable Tryz.prog g=true) (X:C) (p:Cl->Bool) (l:List Cl) (hn:l.length<=1000000000) (hX:C.cl X=true) (hg:∀ x:Cl,y9 Tryz.prog g [.agg (ce x),.ep [X]] (.v (.bool (p x)))) :
  y9 Tryz.prog 168 [cls l,.clo g [.ep [X]]] (.v (.bool (l.any p))):=by
 refine kS Tryz.func168 (by cbv) (by rfl) fun w O=>?_
 have h:=b7Z g hcal X p l hn hX hg
 rw [<- a5c]
 generalize a1U p l=n at *
 simp only [j6]
 simp only [cls,ints] at *
 (repeat first|refine uA ?_|(refine uK ?_ ?_;focus first|omega|(intros;simp_all<;>omega))|simp (disch:=omega) only [go_sem,Nat.reduceBEq,Nat.reduceAdd,ww]|(refine uB h ?_ ?_;exact rfl))
 exact S.done (j4.out rfl (Imp.refl rfl) rfl)
theorem c1d (a b:List Cl) (ha:a.length<=100000000) (hb:b.length<=100000000):y9 Tryz.prog 101 [cls a,cls b] (.v (.bool (a2C a b))):=by
 refine kS Tryz.func101 (by cbv) (by rfl) fun w O=>?_
 have h:=(a8Q [b] (by show 1<=1000;decide) (by simp;omega)).spec
 rw [show [b].flatten=b by simp] at h
 have hB:=a5w b
 have hu:=b3H b
 have h2:=c2V 169 (by kernel_rfl) (cls (O5 b)) (fun t=>!a1j (O5 b) t) a (by omega) rfl (fun x=>b8u (O5 b) x hu (by omega))
 have he:a2C a b=!(a.any fun t=>!a1j (O5 b) t):=by unfold a2C;rw [List.not_any_eq_all_not];simp
 rw [he]
 generalize (a.any fun t=>!a1j (O5 b) t)=r at *
 generalize O5 b=B at *
 simp only [j6,TT,OA,OB,MM,VV,cls]
 simp only [X9,c6V,c6Z,cls] at h h2
 (repeat first|refine uA ?_|(apply uK;focus first|omega|(intros;simp_all<;>omega))|simp (disch:=omega) only [go_sem,Nat.reduceBEq,Nat.reduceAdd])
 refine p8.b6y [.sl 1 [[cls b]]] [.box 112 [cls b],.gone] h (j5.cons (Imp.frz rfl rfl rfl) j5.nil) rfl (E5.cons (RI.box _ _ _ (j5.refl rfl)) (E5.cons (RI.gone _) E5.nil)) rfl ?_
 (repeat first|refine uA ?_|(apply uK;focus omega)|simp (disch:=omega) only [go_sem,Nat.reduceBEq]|(apply uC h2;exact rfl;focus (repeat' first|exact j5.nil|exact Imp.refl rfl|exact Imp.D8|exact Imp.fbx rfl rfl (j5.refl rfl) rfl rfl|refine Imp.clo ?_|exact Imp.frz rfl rfl rfl|(refine Imp.M8 rfl rfl ?_ ?_;(focus ((try simp only [c6M]);omega));(focus first|rfl|assumption))|refine Imp.agg ?_|refine j5.cons ?_ ?_);done))
 exact S.done (j4.out rfl (Imp.refl rfl) rfl)
theorem b1L {α:Type} (p:α->Bool):∀ l:List α,(∀ (j:Nat) (x:α),j < l.length->l[j]?=some x->p x=false) \/ ∃ (i:Nat) (x:α),l[i]?=some x/\p x=true/\∀ j,j < i->∀ x,l[j]?=some x->p x=false
 | []=>.inl fun j x h=>by simp at h
 | a::l=>by
  cases ha:p a with
  | true=>exact .inr ⟨0,a,rfl,ha,fun j h=>absurd h (Nat.not_lt_zero _)⟩
  | false=>
   rcases b1L p l with h|⟨i,x,hx,hp,h⟩
   ·refine .inl fun j x hj hx=>?_
    cases j with
    | zero=>simp at hx;subst hx;exact ha
    | succ j=>exact h j x (by simpa using hj) (by simpa using hx)
   ·refine .inr ⟨i+1,x,by simpa using hx,hp,fun j hj y hy=>?_⟩
    cases j with
    | zero=>simp at hy;subst hy;exact ha
    | succ j=>exact h j (by omega) y (by simpa using hy)
theorem b2D {p:Cl->Bool} {l:List Cl} (i:Nat) (h:∀ j,j < i->∀ x,l[j]?=some x->p x=false):(l.take i).filter (fun x=>!p x)=l.take i:=by
 rw [List.filter_eq_self]
 intro x hx
 obtain ⟨j,hj⟩:=List.mem_iff_getElem?.1 hx
 rw [List.getElem?_take] at hj
 split at hj
 ·rw [h j (by assumption) x hj];rfl
 ·cases hj
theorem b1x {p:Cl->Bool} {l:List Cl} {i:Nat} {x:Cl} (h:l[i]?=some x):(l.take (i+1)).filter (fun x=>!p x)=(l.take i).filter (fun x=>!p x)++(if p x=true then [] else [x]):=by
 rw [List.take_add_one,h,List.filter_append]
 cases hp:p x<;>simp [hp]
theorem c0f {E:Ctx} (hP:E.P=Tryz.prog) (g:Nat) (hcal:callable Tryz.prog g=true) (B:List Cl) (p:Cl->Bool) (l:List Cl) (hn:l.length<=1000000000) (hg:∀ x:Cl,y9 Tryz.prog g [.agg (ce x),.ep [cls B]] (.v (.bool (p x)))) :
  l8 E [.gone,.gone,.gone,.row 157 2 (l.map ce)] 96 [.rv 3,.clo g [.ep [cls B]]] (.wv 3 2 0 (l.filter fun x=>!p x).length) [.gone,.gone,.gone,.row 157 2 (((l.filter fun x=>!p x)++List.replicate (l.length-(l.filter fun x=>!p x).length) (0,0)).map ce)] []:=by
 obtain ⟨P,eff',N,w0,own0,av0,nu0,pk0⟩:=E
 simp only at hP
 subst hP
 refine l8.of (eff:=eff) Tryz.func96 (by cbv) (by exact c6Y rfl) fun w own av ν hν=>?_
 have hν0:ν.length<=4:=by rw [hν];exact c6N _
 have hI:=b7Z g hcal (cls B) p l hn rfl hg
 simp only [j6,TT,II,OA,OB,MM,LL]
 rcases b1L p l with hnone|⟨i,x0,hx0,hp0,hfirst⟩
 ·rw [a2x (fun j hj x hx=>hnone j x hj hx)] at hI
  have hF:l.filter (fun x=>!p x)=l:=by
   have:=b2D (p:=p) (l:=l) l.length (fun j hj x hx=>hnone j x hj hx)
   rwa [c6X] at this
  rw [hF]
  simp only [cls,ints,Nat.sub_self,List.replicate_zero,List.append_nil] at hI ⊢
  (repeat first|refine uA ?_|(apply uK;focus first|omega|(intros;simp_all<;>omega))|simp (disch:=omega) only [go_sem,Nat.reduceBEq,Nat.reduceAdd]|(apply uC hI;exact rfl;focus (repeat' first|exact j5.nil|exact Imp.refl rfl|exact Imp.D8|exact Imp.fbx rfl rfl (j5.refl rfl) rfl rfl|refine Imp.clo ?_|exact Imp.frz rfl rfl rfl|(refine Imp.M8 rfl rfl ?_ ?_;(focus ((try simp only [c6M]);omega));(focus first|rfl|assumption))|refine Imp.agg ?_|refine j5.cons ?_ ?_);done))
  (refine uJ rfl (fun hc=>?_) fun hc=>?_)
  ·(repeat first|refine uA ?_|(apply uK;focus omega)|simp (disch:=omega) only [go_sem,Nat.reduceBEq])
   exact S.done (j4.M9 (Imp.win rfl (by rw [c6F]) (by show 3 < 4;decide)) (by (repeat first|refine uA ?_|rfl|simp [slot])) hν0)
  ·first|omega|exact (hc rfl).elim|(simp at hc;done)
 ·rw [a3k (p:=p) hx0 hp0 hfirst] at hI
  have hil:=(c6J.1 hx0).1
  simp only [cls,ints] at hI ⊢
  (repeat first|refine uA ?_|(apply uK;focus first|omega|(intros;simp_all<;>omega))|simp (disch:=omega) only [go_sem,Nat.reduceBEq,Nat.reduceAdd]|(apply uC hI;exact rfl;focus (repeat' first|exact j5.nil|exact Imp.refl rfl|exact Imp.D8|exact Imp.fbx rfl rfl (j5.refl rfl) rfl rfl|refine Imp.clo ?_|exact Imp.frz rfl rfl rfl|(refine Imp.M8 rfl rfl ?_ ?_;(focus ((try simp only [c6M]);omega));(focus first|rfl|assumption))|refine Imp.agg ?_|refine j5.cons ?_ ?_);done))
  (refine uJ rfl (fun hc=>?_) fun hc=>?_)
  ·omega
  have hs0:(l.take (i+1)).filter (fun x=>!p x)=l.take i:=by rw [b1x hx0,if_pos hp0,List.append_nil,b2D i hfirst]
  (repeat first|refine uA ?_|(apply uK;focus omega)|simp (disch:=omega) only [go_sem,Nat.reduceBEq,ww])
  refine S.loop (X:=Nat × List Cl) (fun q=>⟨[(0,.rv 3),(1,.clo g [.ep [cls B]]),(5,ints (((l.take q.1).filter fun x=>!p x).length:Nat)),(6,ints q.1)],[.gone,.gone,.gone,.row 157 2 (q.2.map ce)]⟩)
   (fun q=>(1<=q.1/\q.1<=l.length)/\q.2.length=l.length/\q.2.take ((l.take q.1).filter fun x=>!p x).length=(l.take q.1).filter (fun x=>!p x)/\((l.take q.1).filter fun x=>!p x).length+1<=q.1/\∀ j,q.1<=j->q.2[j]?=l[j]?) (fun q=>l.length-q.1) (i+1,l)
   ⟨⟨by simp only;omega,hil⟩,rfl,by simp only [hs0,c6O];rw [Nat.min_eq_left (by omega)],by simp only [hs0,c6O];omega,fun _ _=>rfl⟩ (by simp only [hs0,c6O,Nat.min_eq_left (Nat.le_of_lt hil),cls];exact (by (repeat first|refine uA ?_|(refine ⟨?_,?_⟩;focus first|rfl|simp [slot])|rfl|simp|exact c6L hν0 (by simp)))) ?_
  clear hI hs0 hfirst hx0
  rintro ⟨r,es⟩ ⟨⟨hr1,hr2⟩,hel,het,hew,hej⟩
  simp only at hr1 hr2 hel het hew hej
  simp only [ints,cls]
  (repeat first|refine uA ?_|(apply uK;focus omega)|simp (disch:=omega) only [go_sem,Nat.reduceBEq,c6F])
  (refine uJ rfl (fun hc=>?_) fun hc=>?_)
  ·have hr:r < l.length:=by omega
   have gx:=c6E hr
   generalize l[r]=u at gx
   have ex:=(hej r (c6N _)).trans gx
   have hfs:=b1x (p:=p) gx
   have hgu:=hg u
   simp only [cls,ce] at hgu
   generalize p u=b at *
   (repeat first|refine uA ?_|(apply uK;focus omega)|simp (disch:=omega) only [go_sem,Nat.reduceBEq,c6F,c6P,hel,ex,c6G,c6I,ce,hcal]|(apply uB hgu;exact rfl))
   refine S.cond rfl (fun hc=>?_) (fun hc=>?_)
   ·have hb:b=false:=by simpa using hc
    rw [hb,if_neg (by decide)] at hfs
    have hdl:((l.take (r+1)).filter fun x=>!p x).length=((l.take r).filter fun x=>!p x).length+1:=by rw [hfs,c6M];rfl
    generalize hm:((l.take r).filter fun x=>!p x).length=m at *
    have hmg:=c6E (show m < es.length by omega)
    generalize es[m]'_=z at hmg
    have hset:(es.map ce).set m [C.v (.int .i64 u.1),C.v (.int .i64 u.2)]=(es.set m u).map ce:=by rw [List.map_set];rfl
    have hnt:(es.set m u).take (m+1)=(l.take (r+1)).filter fun x=>!p x:=by
     rw [hfs,List.take_add_one,List.getElem?_set_self (by omega),List.take_set_of_le (c6N _),het]
     rfl
    have hnj:∀ j,r+1<=j->(es.set m u)[j]?=l[j]?:=fun j hj=>by
     rw [List.getElem?_set_ne (by omega)]
     exact hej j (by omega)
    have hnl:(es.set m u).length=l.length:=by rw [c7r,hel]
    generalize es.set m u=es' at *
    (repeat first|refine uA ?_|(apply uK;focus omega)|simp (disch:=omega) only [go_sem,Nat.reduceBEq,ww,c6F,c6P,hel,hmg,c6G,c6I,ce,List.take_zero,List.drop_zero,List.drop_succ_cons,List.nil_append,List.append_nil,hset])
    refine S.next (m:=fun q:Nat × List Cl=>l.length-q.1) (x:=(r,es)) (r+1,es') ⟨⟨by simp only;omega,hr⟩,hnl,by simp only [hdl];exact hnt,by simp only [hdl];omega,hnj⟩ (by simp only;omega) (by simp only [hdl];exact (by (repeat first|refine uA ?_|(refine ⟨?_,?_⟩;focus first|rfl|simp [slot])|rfl|simp|exact c6L hν0 (by simp))))
   ·have hb:b=true:=by simpa using hc
    rw [hb,if_pos rfl,List.append_nil] at hfs
    (repeat first|refine uA ?_|(apply uK;focus omega)|simp (disch:=omega) only [go_sem,Nat.reduceBEq,ww])
    refine S.next (m:=fun q:Nat × List Cl=>l.length-q.1) (x:=(r,es)) (r+1,es) ⟨⟨by simp only;omega,hr⟩,hel,by simp only [hfs];exact het,by simp only [hfs];omega,fun j hj=>hej j (by omega)⟩ (by simp only;omega) (by simp only [hfs];exact (by (repeat first|refine uA ?_|(refine ⟨?_,?_⟩;focus first|rfl|simp [slot])|rfl|simp|exact c6L hν0 (by simp))))
  ·have hrr:r=l.length:=by omega
   subst hrr
   rw [c6X] at het hew ⊢
   clear hej hil hp0
   generalize hm:(l.filter fun x=>!p x).length=m at *
   generalize (l.filter fun x=>!p x)=d at *
   have hz:(es.map ce).take m++List.replicate (l.length-m) [C.v (.int .i64 0),.v (.int .i64 0)]=(d++List.replicate (l.length-m) (0,0)).map ce:=by
    rw [c7t,List.map_replicate,<- List.map_take,het]
    rfl
   generalize (d++List.replicate (l.length-m) (0,0)).map ce=R at *
   have hRl:R.length=l.length:=by rw [<- hz];simp;omega
   have hz2:=hz
   rw [<- List.map_take] at hz2
   (repeat first|refine uA ?_|(apply uK;focus omega)|simp (disch:=omega) only [go_sem,Nat.reduceBEq,c6F,hel,c6I,hz2,hRl])
   exact S.done (j4.M9 (Imp.refl rfl) (E5.cons (RI.gone _) (E5.cons (RI.gone _) (E5.cons (RI.gone _) (E5.cons (RI.row _ _ _ _ (by first|exact hz|exact hz2|rfl)) E5.nil)))) hν0)
theorem c4u (a b:List Cl) (ha:a.length<=100000000) (hb:b.length<=100000000):y9 Tryz.prog 50 [cls a,cls b] (cls (a2M a b)):=by
 refine kS Tryz.func50 (by cbv) (by rfl) fun w O=>?_
 have h:=(a8Q [b] (by show 1<=1000;decide) (by simp;omega)).spec
 have h':=a8Q [a] (by show 1<=1000;decide) (by simp;omega)
 rw [show [b].flatten=b by simp] at h
 rw [show [a].flatten=a by simp] at h'
 have hB:=a5w b
 have hA:=a5w a
 have hu:=b3H b
 have h2:=fun (E:Ctx) (hP:E.P=Tryz.prog)=>c0f (E:=E) hP 97 (by kernel_rfl) (O5 b) (fun t=>!a1j (O5 b) t) (O5 a) (by omega) (fun x=>c3C (O5 b) x hu (by omega))
 have he:a2M a b=(O5 a).filter fun t=>!(!a1j (O5 b) t):=by unfold a2M;simp
 rw [he]
 have hf:=List.length_filter_le (fun t=>!(!a1j (O5 b) t)) (O5 a)
 generalize ((O5 a).filter fun t=>!(!a1j (O5 b) t))=F at *
 generalize hm:(O5 a).length-F.length=m at *
 generalize O5 b=B at *
 generalize O5 a=A at *
 simp only [j6,TT,OA,OB,MM,VV,cls]
 simp only [X9,c6V,c6Z,cls] at h h' h2
 (repeat first|refine uA ?_|(apply uK;focus first|omega|(intros;simp_all<;>omega))|simp (disch:=omega) only [go_sem,Nat.reduceBEq,Nat.reduceAdd])
 refine p8.b6y [.sl 1 [[cls b]]] [.box 112 [cls b],.gone] h (j5.cons (Imp.frz rfl rfl rfl) j5.nil) rfl (E5.cons (RI.box _ _ _ (j5.refl rfl)) (E5.cons (RI.gone _) E5.nil)) rfl ?_
 (repeat first|refine uA ?_|(apply uK;focus omega)|simp (disch:=omega) only [go_sem,Nat.reduceBEq])
 refine p8.t (l8.vg (rs2:=[.box 112 [cls B],.gone,.gone]) (FNew.t h' rfl) (j5.cons (Imp.frz rfl rfl rfl) j5.nil) (E5.cons (RI.box _ _ _ (j5.refl rfl)) (E5.cons (RI.gone _) (E5.cons (RI.gone _) E5.nil))) rfl) ?_
 (repeat first|refine uA ?_|(apply uK;focus omega)|simp (disch:=omega) only [go_sem,Nat.reduceBEq])
 refine p8.t (l8.vg (h2 _ rfl) (j5.cons (Imp.refl rfl) (j5.cons (Imp.clo (j5.cons (Imp.fbx rfl rfl (j5.refl rfl) rfl rfl) j5.nil)) j5.nil)) (E5.cons (RI.gone _) (E5.cons (RI.gone _) (E5.cons (RI.gone _) (E5.cons (RI.row _ _ _ _ rfl) E5.nil)))) rfl) ?_
 (repeat first|refine uA ?_|(apply uK;focus omega)|simp (disch:=omega) only [go_sem,Nat.reduceBEq])
 exact S.done (j4.out rfl (Imp.M8 rfl rfl (by simp) (by simp)) rfl)
open Go
def onB (n:Int):Bool:=decide (-64<=n) && decide (n < 64)
theorem b5e {n:Int}:onB n=true <-> -64<=n/\n < 64:=by unfold onB;rw [c6Q,decide_eq_true_iff,decide_eq_true_iff]
def K7 (lo:Rat):Int:=-flI (-lo)-1
def a0Y (lo hi:Rat):Bool:=decide (flE hi=0) && decide (flE (-lo)=0) && onB (K7 lo) && onB (flI hi)
def ofE (b:Bq):Int:=if 0 < Nm.q9 b.lx b.hx \/ 0 < Nm.q9 b.ly b.hy then 1 else if (a0Y b.lx b.hx && a0Y b.ly b.hy)=false then 17 else if 400 < (flI b.hx-K7 b.lx+1)*(flI b.hy-K7 b.ly+1) then 2 else 0
def a3c (x0 y:Int) (n:Nat):List Cl:=(List.range n).map fun k:Nat=>(x0+(k:Int),y)
def a4H (x0 y0:Int) (m n:Nat):List Cl:=(List.range n).flatMap fun k:Nat=>a3c x0 (y0+(k:Int)) m
theorem b9s (x0 y:Int) (n:Nat):a3c x0 y (n+1)=a3c x0 y n++[(x0+(n:Int),y)]:=by simp [a3c,List.range_succ]
theorem b1N (x0 y0:Int) (m n:Nat):a4H x0 y0 m (n+1)=a4H x0 y0 m n++a3c x0 (y0+(n:Int)) m:=by simp [a4H,List.range_succ]
theorem b3m (x0 y:Int) (n:Nat):(a3c x0 y n).length=n:=by simp [a3c]
theorem a9k (x0 y0:Int) (m:Nat):∀ n,(a4H x0 y0 m n).length=n*m
 | 0=>by simp [a4H]
 | n+1=>by rw [b1N,c6M,a9k x0 y0 m n,b3m,Nat.succ_mul]
def wid (a b:Int):Nat:=(b+1-a).toNat
def ofC (b:Bq):List Cl:=if ofE b=0 then a4H (K7 b.lx) (K7 b.ly) (wid (K7 b.lx) (flI b.hx)) (wid (K7 b.ly) (flI b.hy)) else []
theorem b8b {b:Bq} (h:ofE b=0):(onB (K7 b.lx)=true/\onB (flI b.hx)=true)/\(onB (K7 b.ly)=true/\onB (flI b.hy)=true):=by
 unfold ofE at h
 split at h
 ·cases h
 ·split at h
  ·cases h
  ·rename_i _ h2
   rw [Bool.not_eq_false,c6Q] at h2
   unfold a0Y at h2
   simp only [c6Q] at h2
   exact ⟨⟨h2.1.1.2,h2.1.2⟩,⟨h2.2.1.2,h2.2.2⟩⟩
theorem c3h (b:Bq):(ofC b).length<=16384:=by
 unfold ofC
 split
 ·rename_i h0
  obtain ⟨⟨a1,a2⟩,a3,a4⟩:=b8b h0
  rw [a9k]
  rw [b5e] at *
  have h1:wid (K7 b.lx) (flI b.hx)<=128:=by unfold wid;omega
  have h2:wid (K7 b.ly) (flI b.hy)<=128:=by unfold wid;omega
  exact c6L (Nat.mul_le_mul h2 h1) (by decide)
 ·exact c6K _
def b6z (l:List Cl):Prop:=l.length<=400/\(∀ c ∈ l,onB c.1=true/\onB c.2=true)/\Up l
def a3S (ls:List (List Cl)):Bool:=(List.range ls.length).any fun i=>(ls.take i).any fun m=>decide (0 < (a2M (ls.getD i []) m).length)
end Go.Proofs.YtpffebkbmcbmgaaGreatDoor
