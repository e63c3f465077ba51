/- A part of the proof: lemmas only, with the conditions that each names. -/
import Derived.Test.YtpffebkbmcbmgaaGreatDoorProg
import Derived.KernelRfl
import Derived.Test.YtpffebkbmcbmgaaGreatDoorRows
import Derived.Carry
import Derived.ChangeArms
import Derived.ChangeSame
import Derived.Deep.Slices
import Derived.WalkKit
import Derived.ProofKit
import Derived.OpenShut
import Derived.JoinedCond
import Derived.Test.YtpffebkbmcbmgaaGreatDoorCards
import Derived.Test.YtpffebkbmcbmgaaGreatDoorTie
import Derived.Deep.DeepHandedRow
import Derived.Deep.DeepWitnessRowRef
import Derived.Lib.LaidTab
import Derived.LaidMore
import Derived.Lay
import Derived.Test.YtpffebkbmcbmgaaGreatDoorRk6
set_option linter.all false
namespace Go.Proofs.YtpffebkbmcbmgaaGreatDoor
open Go Go.RowKit Eng
set_option maxRecDepth 100000
set_option maxHeartbeats 16000000
def a1S (Z:List (Lk × Nm.Rt)):Bool:=Z.all fun z=>decide (u7 (Nm.d9 z.1.brake) (Nm.d9 z.2)<=2000)
theorem c2R {Z:List (Lk × Nm.Rt)} {i:Nat} {z:Lk × Nm.Rt} (h:Z[i]?=some z) (hn:¬ u7 (Nm.d9 z.1.brake) (Nm.d9 z.2)<=2000):a1S Z=false:=by
 unfold a1S
 rw [List.all_eq_false]
 exact ⟨z,c6H h,by simpa using hn⟩
theorem c0E {Z:List (Lk × Nm.Rt)} (h:∀ (j:Nat) (z:Lk × Nm.Rt),j < Z.length->Z[j]?=some z->u7 (Nm.d9 z.1.brake) (Nm.d9 z.2)<=2000):a1S Z=true:=by
 unfold a1S
 rw [List.all_eq_true]
 intro z hz
 obtain ⟨j,hj⟩:=List.mem_iff_getElem?.1 hz
 exact decide_eq_true (h j z (c6J.1 hj).1 hj)
theorem sign_zero (q:Rat):z8 q=0 <-> q=0:=by
 have h:=a5v q
 rcases h with h|h|h<;>constructor<;>intro h2<;>first|omega|grind
theorem b5n {l:Lk} (h:V3 l=0):Rb 3 l.brake:=by
 unfold V3 at h
 split at h
 ·cases h
 rename_i h2
 have hs2:(l6 l.length && l6 l.low && l6 l.high && l6 l.speed && l6 l.brake)=true:=by
  cases hb:(l6 l.length && l6 l.low && l6 l.high && l6 l.speed && l6 l.brake) with
  | true=>rfl
  | false=>exact absurd (.inl hb) h2
 simp only [c6Q] at hs2
 exact a1C hs2.2
theorem b6B (a:Am) (q u:List Nm.Rt) (hl:Ab 1073741824 a) (ha:F4 a=0) (hq:q.length=a.links.length) (hv:u.length=a.links.length) (hqb:∀ r ∈ q,Rb 1048576 r) (hub:∀ r ∈ u,Rb 1048576 r) :
    FZ 11 [a.c,rts q,rts u] (if a1S (a.links.zip u)=true then .tup [.sl 6 ((Q9 a.links q u).map Sn.enc),ints (O6 (a.links.zip u)+1),.v (.bool true)] else .tup [.v (.slice none 0 0),ints 0,.v (.bool false)]):=by
  refine kW a8k a8o (by rfl) fun w O hw=>?_
  have hn:=hl.2.2.1
  have hbr:∀ l ∈ a.links,Rb 3 l.brake/\0 < z8 (Nm.d9 l.brake):=fun l hm=>⟨b5n ((Z7 ha).2 l hm),a9G ((Z7 ha).2 l hm)⟩
  have hrl:=a5D (L:=a.links) hq hv
  have hrg:=@b1F a.links q u
  have htk:=@a8s (a.links.zip u)
  have hzl:(a.links.zip u).length=a.links.length:=by rw [List.length_zip];omega
  have hzg:=fun (i:Nat) (l:Lk) (x:Nm.Rt) (h1:a.links[i]?=some l) (h2:u[i]?=some x)=>V6 h1 h2
  have ht0:O6 ((a.links.zip u).take 0)=0:=rfl
  have hte:(a.links.zip u).take a.links.length=a.links.zip u:=c7b (by omega)
  have hzero:=a2k
  generalize Q9 a.links q u=RL at *
  generalize a.links.zip u=Z at *
  obtain ⟨name,⟨bx,by',half,tu⟩,links⟩:=a
  simp only at hq hv hn hrl hrg hzl hzg hte hbr ⊢
  simp only [a4c,j6,TT,II,OA,OB,MM,LL,VV,FF]
  simp only [Am.c,Am.enc,lks,rts,sb,ints]
  (repeat first|refine uA ?_|(apply uK;focus omega)|simp (disch:=omega) only [go_sem,Nat.reduceBEq,c6F])
  refine S.loop (X:=Nat) (fun i=>⟨[(1,rts q),(2,rts u),(9,.rv 1),(10,ints (O6 (Z.take i))),(18,lks links),(19,ints links.length),(20,ints i)],[.gone,.row 89 6 ((RL.take i).map Sn.enc)]⟩)
    (fun i=>i<=links.length/\0<=O6 (Z.take i)/\O6 (Z.take i)<=2000/\∀ (j:Nat) (z:Lk × Nm.Rt),j < i->Z[j]?=some z->u7 (Nm.d9 z.1.brake) (Nm.d9 z.2)<=2000) (fun i=>links.length-i) 0 ⟨c6K _,by rw [ht0];decide,by rw [ht0];decide,fun _ _ h=>absurd h (Nat.not_lt_zero _)⟩
    (Ent.trans (Ent.pack 9 89 6 rfl) (by rw [ht0];exact (by (repeat first|refine uA ?_|(refine ⟨?_,?_⟩;focus first|rfl|simp [slot])|rfl|simp)))) ?_
  rintro i ⟨hi,hm0,hm1,hm⟩
  simp only [lks,rts,ints]
  (repeat first|refine uA ?_|(apply uK;focus omega)|simp (disch:=omega) only [go_sem,Nat.reduceBEq])
  (refine uJ rfl (fun hc=>?_) fun hc=>?_)
  · have hi':i < links.length:=by omega
    have hgl:=c6E hi'
    have hgq:=c6E (show i < q.length by omega)
    have hgu:=c6E (show i < u.length by omega)
    generalize links[i]=l at hgl
    generalize q[i]'_=x at hgq
    generalize u[i]'_=y at hgu
    have hgr:=hrg hgl hgq hgu
    have hgz:=hzg i l y hgl hgu
    have hsn:=htk hgz
    obtain ⟨lb,lp⟩:=hbr l (c6H hgl)
    have xb:=hqb x (c6H hgq)
    have yb:=hub y (c6H hgu)
    have hap:=take_at hgr
    have htl:(RL.take i).length=i:=by rw [c6O];omega
    have nf:=fun hN=>c2R (Z:=Z) hgz hN
    have hmn:=fun (hN:u7 (Nm.d9 l.brake) (Nm.d9 y)<=2000)=>show ∀ (j:Nat) (z:Lk × Nm.Rt),j < i+1->Z[j]?=some z->u7 (Nm.d9 z.1.brake) (Nm.d9 z.2)<=2000 from fun j z hj hz=>by
      rcases c7a j i with h1|h1
      · exact hm j z h1 hz
      · have:j=i:=by omega
        subst this
        rw [hgz] at hz
        cases hz
        exact hN
    have hB:=b0r lp
    have fx:=xb.fit (by decide)
    have fy:=yb.fit (by decide)
    have fb:=lb.fit (by decide)
    have hT:=K9 fx fy
    have o1:=a0O x y (xb.mono (by decide)) (yb.mono (by decide))
    have o2:=a0O y (Nm.ofQ 0) (yb.mono (by decide)) (a0j.mono (by decide))
    rw [Nm.q8,Rat.add_zero] at o2
    have o3:=X7 x (xb.mono (by decide))
    have o4:=X7 (Nm.ofQ (Nm.d9 x+Nm.d9 y)) (hT.mono (by decide))
    rw [Nm.q8] at o4
    have o5:=a7r (Nm.d9 x) (Nm.d9 x) (Nm.d9 x+Nm.d9 y) (Nm.d9 x+Nm.d9 y) Rat.le_refl Rat.le_refl (fx.mono (by decide)) (fx.mono (by decide)) (hT.mono (by decide)) (hT.mono (by decide))
    have e0:=b8e (Nm.d9 l.brake) (Nm.d9 x) (Nm.d9 x+Nm.d9 y) (Nm.d9 y)
    have p0:=b2F (Nm.d9 l.brake) (Nm.d9 x+Nm.d9 y) (Nm.d9 y)
    have v0:=c0p (Nm.d9 l.brake) (Nm.d9 y)
    have hvn:=fun n=>c0Z (V:=Nm.d9 y) (b:=l.brake) rfl hB n
    have hpn:=fun n=>c0i (Nm.d9 l.brake) (Nm.d9 x+Nm.d9 y) (Nm.d9 y) n
    have hsn':=fun n=>b8A (Nm.d9 l.brake) (Nm.d9 x) (Nm.d9 x+Nm.d9 y) (Nm.d9 y) n
    have hsl:=fun n=>c3A (Nm.d9 l.brake) (Nm.d9 x) (Nm.d9 x+Nm.d9 y) (Nm.d9 y) n
    have hvd:=fun n=>b9P (B:=Nm.d9 l.brake) (V:=Nm.d9 y) n
    have hmin:=fun n h=>b1D (B:=Nm.d9 l.brake) (V:=Nm.d9 y) hB (n:=n) h
    have htok:=a4M (V:=Nm.d9 y) hB
    have hend:=b9G (q:=x) (u:=y) (b:=l.brake) hB
    have bv:=fun n h=>c4b (n:=n) fb fy h
    have bp:=fun n h k=>b5w (n:=n) hB fb fy hT h k
    have bs':=fun n h k=>c2B (n:=n) hB fb fy hT fx h k
    unfold b0e at hap
    rw [<- hend] at hap
    have hT0:=htok.1
    simp only at hsn nf
    generalize Nm.d9 x+Nm.d9 y=T at *
    have hN0:u7 (Nm.d9 l.brake) (Nm.d9 y)=((u7 (Nm.d9 l.brake) (Nm.d9 y)).toNat:Int):=by omega
    generalize (u7 (Nm.d9 l.brake) (Nm.d9 y)).toNat=N at *
    rw [hN0] at hsn nf hmn hmin
    have hNle:r9 (Nm.d9 y)<=(N:Rat)*Nm.d9 l.brake:=htok.2.1
    generalize hS:a2J (Nm.d9 l.brake) (Nm.d9 x) T (Nm.d9 y)=Sx at *
    generalize hP:a0F (Nm.d9 l.brake) T (Nm.d9 y)=Px at *
    generalize hV:a4W (Nm.d9 l.brake) (Nm.d9 y)=Vx at *
    clear hgz hgr hend htok hN0 hS hP hV hrg htk hzg hm
    obtain ⟨len,low,high,spd,brk,shp⟩:=l
    simp only at *
    unfold rq at o1 o2 hzero
    simp only [Sp.c,Sn.c,Sn.enc,snQ,rc,sb] at o1 o2 o3 o4 o5 hzero
    (repeat first|refine uI ?_|(apply uK;focus omega)|simp (disch:=omega) only [go_sem,Nat.reduceBEq,hgl,c6G,c6F,c6P,Lk.enc,vts,sb,c6I])
    refine S.D6 [.gone] (by simp [Eng.F6]) ?_
    (repeat first|refine uI ?_|(apply uK;focus omega)|simp (disch:=omega) only [go_sem,Nat.reduceBEq,hgq,hgu,c6G,c6F,c6P,rcs,sb,c6I]|(apply uD o1;exact tz hw;rfl)|(apply uD hzero;exact tz hw;rfl)|(apply uD o2;exact tz hw;rfl))
    refine S.D6 [.gone,.gone,.gone,.box 28 [.v (.bool (Nm.ofQ T).neg),.v (.string (bs (Nm.ofQ T).num)),.v (.string (bs (Nm.ofQ T).den))]] (by simp [Eng.F6,Eng.H6]) ?_
    (repeat first|refine uA ?_|(apply uK;focus omega)|simp (disch:=omega) only [go_sem,Nat.reduceBEq,Eng.H6,hgq,c6G,c6F,c6P,rcs,sb,c6I]|(apply uD o3;exact tz hw;rfl)|(apply uD o4;exact tz hw;rfl)|(apply uD o5;exact tz hw;rfl))
    refine S.loop (X:=Nat) (fun n=>⟨[(1,rts q),(2,rts u),(9,.rv 1),(10,ints (O6 (Z.take i))),(12,.bp 2 0),(13,.bp 3 0),(14,.bp 4 0),(15,ints n),(16,.bp 5 0),(18,lks links),(19,ints links.length),(20,ints i)],[.gone,.row 89 6 ((RL.take i).map Sn.enc),.box 95 (Lk.mk len low high spd brk shp).enc,.box 28 (rcs (Nm.ofQ (Px n))),.box 28 (rcs (Nm.ofQ (Vx n))),.box 89 (snQ (Sx n).lo (Sx n).hi).enc]⟩)
      (fun n=>n<=N/\n<=2000) (fun n=>N-n) 0 ⟨c6K _,c6K _⟩ (by rw [p0,v0,e0];simp only [lks,rts,vts,Lk.enc,rcs,Sn.enc,snQ,sb,ints];exact (by (repeat first|refine uA ?_|(refine ⟨?_,?_⟩;focus first|rfl|simp [slot])|rfl|simp))) ?_
    rintro n ⟨hn1,hn2⟩
    clear o1 o2 o3 o4 o5 e0 p0 v0
    simp only [lks,rts,vts,Lk.enc,rcs,Sn.enc,snQ,sb,ints]
    have vb:=bv n hn2
    have o6:=O9 (Nm.ofQ (Vx n)) (vb.mono (by decide))
    rw [Nm.q8] at o6
    have hz0:=sign_zero (Vx n)
    have hd0:=hvd n
    simp only [rc,sb,ints] at o6
    generalize z8 (Vx n)=sg at *
    (repeat first|refine uA ?_|(apply uK;focus omega)|simp (disch:=omega) only [go_sem,Nat.reduceBEq]|(apply uD o6;exact tz hw;rfl))
    refine S.cond rfl (fun hc=>?_) (fun hc=>?_)
    · have hnN:n < N:=by
        rcases c7a n N with h|h
        · exact h
        · have:n=N:=by omega
          subst this
          have:=hz0.2 (hd0.2 hNle)
          simp [this] at hc
      clear o6
      (repeat first|refine uA ?_|(apply uK;focus omega)|simp (disch:=omega) only [go_sem,Nat.reduceBEq])
      refine S.cond rfl (fun hc=>?_) (fun hc=>?_)
      · have hf:a1S Z=false:=nf (by simp at hc;omega)
        rw [if_neg (by rw [hf];decide)]
        (repeat first|refine uA ?_|(apply uK;focus omega)|simp (disch:=omega) only [go_sem])
        (refine S.done ?_;simp only [l9,go_sem,Nat.reduceBEq];exact j4.out rfl (Imp.tup (by (repeat' (first|exact j5.nil|exact Imp.refl rfl|exact Imp.frz rfl rfl rfl|exact Imp.D8|refine Imp.agg ?_|refine j5.cons ?_ ?_)))) rfl)
      have hn3:n < 2000:=by simp at hc;omega
      have pb:=bp n hn2 hn1
      have pb':=bp (n+1) (by omega) (by omega)
      have vb':=bv (n+1) (by omega)
      have zb:=bs' n hn2 hn1
      have o7:=b7L brk (Nm.ofQ (Vx n)) (lb.mono (by decide)) (vb.mono (by decide))
      rw [hvn n] at o7
      have o8:=a0O (Nm.ofQ (Px n)) (Nm.ofQ (Vx (n+1))) (pb.mono (by decide)) (vb'.mono (by decide))
      rw [Nm.q8,Nm.q8,hpn n] at o8
      have o9:=X7 (Nm.ofQ (Px (n+1))) (pb'.mono (by decide))
      rw [Nm.q8] at o9
      have oa:=a7r (Sx n).lo (Sx n).hi (Px (n+1)) (Px (n+1)) (hsl n) Rat.le_refl (zb.1.mono (by decide)) (zb.2.mono (by decide)) (pb'.mono (by decide)) (pb'.mono (by decide))
      rw [show G9 (Sx n).lo (Px (n+1))=(Sx (n+1)).lo by rw [<- hsn' n],show G8 (Sx n).hi (Px (n+1))=(Sx (n+1)).hi by rw [<- hsn' n]] at oa
      clear pb pb' vb vb' zb hvn hpn hsn' hsl hvd hmin bv bp bs' hap hz0 hd0
      unfold rq at o8
      generalize hs1:(Sx (n+1)).lo=s1 at *
      generalize hs2:(Sx (n+1)).hi=s2 at *
      simp only [Sp.c,Sn.c,Sn.enc,snQ,rc,sb] at o7 o8 o9 oa
      (repeat first|refine uA ?_|(apply uK;focus omega)|simp (disch:=omega) only [go_sem,Nat.reduceBEq,ww]|(apply uD o7;exact tz hw;rfl)|(apply uD o8;exact tz hw;rfl)|(apply uD o9;exact tz hw;rfl)|(apply uD oa;exact tz hw;rfl))
      refine S.next (x:=n) (n+1) ⟨by omega,by omega⟩ (by omega) (by simp only [hs1,hs2];exact (by (repeat first|refine uA ?_|(refine ⟨?_,?_⟩;focus first|rfl|simp [slot])|rfl|simp)))
    · have hv0:Vx n=0:=hz0.1 (by simpa using hc)
      have hnN:n=N:=by have:=hmin n (hd0.1 hv0);omega
      subst hnN
      clear o6 hvn hpn hsn' hsl hvd hmin bv bp bs' hz0 hd0
      (repeat first|refine uA ?_|(apply uK;focus first|omega|(intros;simp_all<;>omega))|simp (disch:=omega) only [go_sem,Nat.reduceBEq,Nat.reduceAdd,ww,htl,c6F])
      refine S.next (x:=i) (i+1) ⟨by omega,by rw [hsn];split<;>omega,by rw [hsn];split<;>omega,hmn (by omega)⟩ (by omega) (by simp only [hap,hsn,c7t,c6V,c6Z,Sn.enc,snQ,sb];exact (by (repeat first|refine uA ?_|(refine ⟨?_,?_⟩;focus first|rfl|simp [slot])|rfl|simp)))
  have hi':i=links.length:=by omega
  subst hi'
  rw [hte] at hm0 hm1 ⊢
  have hf:a1S Z=true:=c0E fun j z hj hz=>hm j z (by omega) hz
  rw [if_pos hf,c7b (by omega)]
  clear hm hf hrg htk hzg hbr
  generalize O6 Z=tz at *
  (repeat first|refine uA ?_|(apply uK;focus omega)|simp (disch:=omega) only [go_sem,Nat.reduceBEq,ww])
  (refine S.done ?_;simp only [l9,go_sem,Nat.reduceBEq];exact j4.out rfl (Imp.tup (by (repeat' (first|exact j5.nil|exact Imp.refl rfl|exact Imp.frz rfl rfl rfl|exact Imp.D8|refine Imp.agg ?_|refine j5.cons ?_ ?_)))) rfl)
open Go Eng
def c5I:List Nat:=[29]
def b6S (f:Nat):Bool:=c5I.contains f
def W9:M4:=⟨98,[.tmp 8,.tmp 9],.seq (.reg [OA 4 (.box 30 (TT 0)),OA 8 (.mv (.const (.slice none 0 0))),OA 9 (.mv (II 0))]) (.seq (.reg [FF 19 0 4,VV 20 19,MM 21 1,OA 22 (.x9 12 (TT 20) (TT 21)),LL 23 12 22,MM 24 3,OA 25 (.call
 19 [TT 23,TT 24]),MM 18 25,OA 26 (.ext (TT 18) 0),OA 27 (.ext (TT 18) 1),MM 10 26,MM 11 27]) (.seq (.seq (.reg [MM 28 11,OA 29 (.bin .neq (TT 28) (II 0))]) (.cond (TT 29) (.seq (.reg [MM 30 11,OA 8 (.mv (.const (.slice
 none 0 0))),MM 9 30]) .ret) .skip)) (.seq (.seq (.reg [MM 31 2,OA 32 (.bin .lss (TT 31) (II 0))]) (.cond (TT 32) (.seq (.reg [MM 33 10,MM 8 33,OA 9 (.mv (II 0))]) .ret) .skip)) (.seq (.reg [FF 35 0 4,VV 36 35,MM 37 1,OA
 38 (.x9 12 (TT 36) (TT 37)),LL 39 12 38,MM 40 3,OA 41 (.call 20 [TT 39,TT 40]),MM 34 41,OA 42 (.ext (TT 34) 0),OA 43 (.ext (TT 34) 1),MM 12 42,MM 11 43]) (.seq (.seq (.reg [MM 44 11,OA 45 (.bin .neq (TT 44) (II 0)),
 MM 46 45,MG 47 12 46 false,OC 48 (.len false (TT 47)) 46 false,OC 49 (.bin .eql (TT 48) (II 0)) 46 false,OA 50 (.pick (TT 46) (.const (.bool true)) (TT 49))]) (.cond (TT 50) (.seq (.reg [MM 51 11,OA 8 (.mv (.const (.slice
 none 0 0))),MM 9 51]) .ret) .skip)) (.seq (.reg [OA 52 (.call 21 [II 0]),OA 13 (.alloc 28 [.bool false,.string ⟨#[]⟩,.string ⟨#[]⟩]),OB (.store 3 (TT 13) (TT 52))]) (.seq (.seq (.reg [FF 53 2 4,VV 54 53,MM 55 2,OA 56
 (.x9 12 (TT 54) (TT 55)),FF 57 1 56,VV 58 57,OA 59 (.len false (TT 58)),OA 60 (.mv (II 0))]) (.block 0 (.loop (.seq (.reg [OA 61 (.bin .lss (TT 60) (TT 59))]) (.seq (.cond (TT 61) .skip (.exit 0)) (.seq (.block 1 (.seq
 (.reg [OA 62 (.x9 6 (TT 58) (TT 60)),LL 63 6 62,OA 15 (.alloc 40 [.bool false,.string ⟨#[]⟩,.string ⟨#[]⟩,.bool false,.string ⟨#[]⟩,.string ⟨#[]⟩]),OB (.store 6 (TT 15) (TT 63))]) (.seq (.D6 [.q,.q,.q,.q,.q,.q,
 .q,.q,.q,.a,.e (some 16) true] [LL 64 6 15,FF 65 2 4,VV 66 65,MM 67 2,OA 68 (.x9 12 (TT 66) (TT 67)),FF 69 2 68,FF 70 0 69,LL 71 6 70,OA 72 (.call 27 [TT 64,TT 71]),OA 16 (.alloc 40 [.bool false,.string ⟨#[]⟩,
 .string ⟨#[]⟩,.bool false,.string ⟨#[]⟩,.string ⟨#[]⟩]),OB (.store 6 (TT 16) (TT 72))]) (.seq (.D6 [.q,.q,.q,.q,.q,.q,.q,.a,.e (some 17) true] [FF 73 0 16,LL 74 3 73,OA 75 (.call 23 [TT 74]),FF 76 3 16,LL 77 3
 76,OA 78 (.call 23 [TT 77]),OA 79 (.call 22 [TT 75,TT 78]),OA 17 (.alloc 28 [.bool false,.string ⟨#[]⟩,.string ⟨#[]⟩]),OB (.store 3 (TT 17) (TT 79))]) (.seq (.reg [LL 80 3 17,LL 81 3 13,OA 82 (.call 28 [TT 80,TT 81]),
 OA 83 (.bin .gtr (TT 82) (II 0))]) (.cond (TT 83) (.reg [LL 84 3 17,OB (.store 3 (TT 13) (TT 84))]) .skip)))))) (.reg [OA 85 (.bin .add (TT 60) (II 1)),MM 60 85]))))))) (.seq (.D6 [.q,.e none false,.l,.l,.l,.l,.l,.l,
 .l,.q,.q,.e none true,.q,.q] [MM 86 10,OA 87 (.call 29 [TT 86]),MM 88 12,MM 89 12,OA 90 (.len false (TT 89)),OA 91 (.bin .sub (TT 90) (II 1)),OA 92 (.x9 12 (TT 88) (TT 91)),LL 93 12 92,LL 94 3 13,OA 95 (.call 30
 [TT 93,TT 94]),OA 96 (.bsl 42 12 1 [.bool false,.string ⟨#[]⟩,.string ⟨#[]⟩,.bool false,.string ⟨#[]⟩,.string ⟨#[]⟩,.bool false,.string ⟨#[]⟩,.string ⟨#[]⟩,.bool false,.string ⟨#[]⟩,.string ⟨#[]⟩] [(0,TT 95)]),OA
 97 (.app 42 12 160 (TT 87) (TT 96)),MM 8 97,OA 9 (.mv (II 0))]) .ret))))))))⟩
theorem a0D:I9 b6S Tryz.prog Tryz.f6=some W9:=by kernel_rfl
theorem a0E:Tryz.prog.funcs[6]?=some Tryz.f6:=Tryz.func6
theorem c0k (es:List (List C)) (hn:es.length<=1073741824):FNew Tryz.prog 29 [.sl 12 es] 42 12 es:=by
 refine FNew.of (eff:=eff) Tryz.func29 (by cbv) (by exact c6Y rfl) fun w O=>?_
 simp only [j6,TT,OA,MM]
 (repeat first|refine uA ?_|(apply uK;focus omega)|simp (disch:=omega) only [go_sem,Nat.reduceBEq])
 refine S.split 4 (Sx:=fun y=>∃ b,y=.bool b/\(es ≠ []->b=false)) rfl fun y hy=>?_
 obtain ⟨b,rfl,hb⟩:=hy
 refine S.cond rfl (fun hc=>?_) (fun hc=>?_)
 ·have he:es=[]:=Classical.byContradiction fun h=>by rw [hb h] at hc;cases hc
  subst he
  (repeat first|refine uA ?_|(apply uK;focus omega)|simp (disch:=omega) only [go_sem])
  refine S.weaken (Ent.pack 2 42 12 rfl) ?_
  exact S.done (j4.new rfl rfl rfl)
 ·(repeat first|refine uA ?_|(apply uK;focus omega)|simp (disch:=omega) only [go_sem,Nat.reduceBEq])
  exact S.done (j4.new rfl rfl rfl)
theorem c3S (b:Bq) (r:Rat) (hb:Bb 1073741824 b) (hr:Rb 1073741824 (Nm.ofQ r)):FZ 30 [.agg b.enc,rq r] (.agg (a4n b r).enc):=by
 refine kW Tryz.func30 (by cbv) (by rfl) fun w O hw=>?_
 obtain ⟨lx,ly,hx,hy⟩:=b
 obtain ⟨b1,b2,b3,b4⟩:=hb
 simp only at b1 b2 b3 b4
 have o1:=a9V (Nm.ofQ lx) (Nm.ofQ ly) (Nm.ofQ r) (Nm.ofQ r) (b1.mono (by decide)) (b2.mono (by decide)) (hr.mono (by decide)) (hr.mono (by decide))
 have o2:=c4p (Nm.ofQ hx) (Nm.ofQ hy) (Nm.ofQ r) (Nm.ofQ r) (b3.mono (by decide)) (b4.mono (by decide)) (hr.mono (by decide)) (hr.mono (by decide))
 simp only [Nm.q8] at o1 o2
 unfold a4n
 simp only
 generalize lx-r=x1 at *
 generalize ly-r=x2 at *
 generalize hx+r=x3 at *
 generalize hy+r=x4 at *
 simp only [j6,TT,OA,OB,LL,FF]
 simp only [Bq.enc,vc,vq,rq,rc,sb] at o1 o2 ⊢
 (repeat first|refine uI ?_|(refine uK ?_ ?_;focus first|omega|(intros;simp_all<;>omega))|simp (disch:=omega) only [go_sem,Nat.reduceBEq,Nat.reduceAdd])
 refine S.D6 [.box 42 [.v (.bool (Nm.ofQ lx).neg),.v (.string (bs (Nm.ofQ lx).num)),.v (.string (bs (Nm.ofQ lx).den)),.v (.bool (Nm.ofQ ly).neg),.v (.string (bs (Nm.ofQ ly).num)),.v (.string (bs (Nm.ofQ ly).den)),.v (.bool (Nm.ofQ hx).neg),.v (.string (bs (Nm.ofQ hx).num)),.v (.string (bs (Nm.ofQ hx).den)),.v (.bool (Nm.ofQ hy).neg),.v (.string (bs (Nm.ofQ hy).num)),.v (.string (bs (Nm.ofQ hy).den))],.gone,.gone,.box 40 [.v (.bool (Nm.ofQ r).neg),.v (.string (bs (Nm.ofQ r).num)),.v (.string (bs (Nm.ofQ r).den)),.v (.bool (Nm.ofQ r).neg),.v (.string (bs (Nm.ofQ r).num)),.v (.string (bs (Nm.ofQ r).den))]] (by simp [Eng.F6,Eng.H6]) ?_
 (repeat first|refine uA ?_|(refine uK ?_ ?_;focus first|omega|(intros;simp_all<;>omega))|simp (disch:=omega) only [go_sem,Nat.reduceBEq,Nat.reduceAdd,Eng.H6]|(refine uD o1 ?_ ?_ ?_;exact tz hw;exact rfl)|(refine uD o2 ?_ ?_ ?_;exact tz hw;exact rfl))
 (refine S.done ?_;simp only [l9,p9,go_sem,Nat.reduceBEq,Nat.reduceAdd,Nat.reduceLeDiff];(repeat (refine ⟨?_,?_⟩;focus first|trivial|omega|simp));exact j4.out rfl (Imp.refl rfl) rfl)
theorem c1u (p q:Rat):G8 p q=if 0 < Nm.q9 q p then q else p:=by
 rw [a9Q]
 have h:=a1d q p
 by_cases hc:p < q
 ·rw [if_pos (by grind),if_pos (h.2 hc)]
 ·rw [if_neg (mt h.1 hc)]
  split
  ·grind
  ·rfl
theorem b9g (w:Wk) (n:Nat) (holds:Int) (a:Am) (q:List Sn) (hwb:Wb 1073741824 w) (ga:w.arms[n]?=some a) (hqn:q.length<=1000000000) (he:P8 a q.length ≠ 0) :
  FZ 6 [w.c,ints n,ints holds,.sl 6 (q.map Sn.enc)] (.tup [.v (.slice none 0 0),ints (P8 a q.length)]):=by
 refine X8.of (eff:=b6S) a0E a0D (by exact c6Y rfl) fun w' O hw=>?_
 have h:=a9E a q (hwb.arms.2 a (c6H ga)) hqn he
 have hn:=(c6J.1 ga).1
 have n1:=hwb.arms.1
 generalize P8 a q.length=e at *
 obtain ⟨arms,walls,parts,slots,gates,walk⟩:=w
 obtain ⟨name,⟨bx,by',half,tu⟩,links⟩:=a
 simp only at ga hn n1
 have e5:decide (e=0)=false:=decide_eq_false he
 simp only [W9,j6,TT,II,OA,OB,OC,MM,LL,VV,FF,MG]
 simp only [Wk.c,Wk.enc,Am.c,Am.enc,ams,wls,pts,sls,gts,lks,sb,ints] at h ⊢
 (repeat first|refine uA ?_|(apply uK;focus first|omega|(intros;simp_all<;>omega))|simp (disch:=omega) only [go_sem,Nat.reduceBEq,Nat.reduceAdd,c6F,c6P,ga,c6G,c6I,Am.enc,lks,sb,e5]|(apply uD h;exact tz hw;rfl))
 refine S.cond rfl (fun hc=>?_) (fun hc=>by simp at hc)
 (repeat first|refine uA ?_|(apply uK;focus omega)|simp (disch:=omega) only [go_sem,Nat.reduceBEq])
 (refine S.done ?_;simp only [l9,go_sem,Nat.reduceBEq];exact j4.out rfl (Imp.tup (by (repeat' (first|exact j5.nil|exact Imp.refl rfl|exact Imp.frz rfl rfl rfl|exact Imp.D8|refine Imp.agg ?_|refine j5.cons ?_ ?_)))) rfl)
theorem b7n (w:Wk) (n:Nat) (a:Am) (q:List Sn) (hwb:Wb 1073741824 w) (ga:w.arms[n]?=some a) (ha:F4 a=0) (hql:q.length=a.links.length) (hq:∀ r ∈ q,Zr 1048576 r) :
  FZ 6 [w.c,ints n,ints (-1),.sl 6 (q.map Sn.enc)] (.tup [.sl 12 ((a0U a (q.map F8)).map Bq.enc),ints 0]):=by
 refine X8.of (eff:=b6S) a0E a0D (by exact c6Y rfl) fun w' O hw=>?_
 have hl:=hwb.arms.2 a (c6H ga)
 have h:=fun (E:Ctx) (hP:E.P=Tryz.prog) (ht:Tz E)=>a4o hP ht a q hl ha hql hq
 have hn:=(c6J.1 ga).1
 have n1:=hwb.arms.1
 change ∀ E:Ctx,E.P=Tryz.prog->Tz E->l8 E [] 19 [a.c,.sl 6 (q.map Sn.enc)] (.tup [.rv 1,ints 0]) [.gone,.row 42 12 ((a0U a (q.map F8)).map Bq.enc)] [] at h
 generalize a0U a (q.map F8)=R at *
 obtain ⟨arms,walls,parts,slots,gates,walk⟩:=w
 obtain ⟨name,⟨bx,by',half,tu⟩,links⟩:=a
 simp only at ga hn n1
 simp only [W9,j6,TT,II,OA,OB,OC,MM,LL,VV,FF,MG]
 simp only [Wk.c,Wk.enc,Am.c,Am.enc,ams,wls,pts,sls,gts,lks,sb,ints] at h ⊢
 (repeat first|refine uA ?_|(apply uK;focus first|omega|(intros;simp_all<;>omega))|simp (disch:=omega) only [go_sem,Nat.reduceBEq,Nat.reduceAdd,C.sh,C.shL,c7g,List.length_nil,c6F,c6P,ga,c6G,c6I,Am.enc,lks,sb]|refine p8.t (l8.pre (h _ rfl ⟨hw,id⟩) rfl rfl rfl) ?_)
 refine S.cond rfl (fun hc=>by simp at hc) (fun hc=>?_)
 (repeat first|refine uA ?_|(apply uK;focus omega)|simp (disch:=omega) only [go_sem,Nat.reduceBEq])
 refine S.cond rfl (fun hc=>?_) (fun hc=>by simp at hc)
 (repeat first|refine uA ?_|(apply uK;focus omega)|simp (disch:=omega) only [go_sem,Nat.reduceBEq])
 (refine S.done ?_;simp only [l9,go_sem,Nat.reduceBEq];exact j4.out rfl (Imp.tup (by (repeat' (first|exact j5.nil|exact Imp.refl rfl|exact Imp.frz rfl rfl rfl|exact Imp.D8|refine Imp.agg ?_|refine j5.cons ?_ ?_)))) rfl)
theorem b7f (w:Wk) (n k:Nat) (a:Am) (p:Pt) (q:List Sn) (hwb:Wb 1048576 w) (ga:w.arms[n]?=some a) (gp:w.parts[k]?=some p) (ha:F4 a=0) (hql:q.length=a.links.length) (hq:∀ r ∈ q,Zr 1048576 r) :
  FZ 6 [w.c,ints n,ints k,.sl 6 (q.map Sn.enc)] (.tup [.sl 12 ((a0U a (q.map F8)++[a4n (a7E a (q.map F8)) (a1m p.grasp p.shape)]).map Bq.enc),ints 0]):=by
 refine X8.of (eff:=b6S) a0E a0D (by exact c6Y rfl) fun w' O hw=>?_
 have hl:=(hwb.mono (show 1048576<=1073741824 by decide)).arms.2 a (c6H ga)
 have h:=fun (E:Ctx) (hP:E.P=Tryz.prog) (ht:Tz E)=>a4o hP ht a q hl ha hql hq
 have hn:=(c6J.1 ga).1
 have hk:=(c6J.1 gp).1
 have n1:=hwb.arms.1
 have n2:=hwb.parts.1
 obtain ⟨pn,ps,pg⟩:=hwb.parts.2 p (c6H gp)
 have hf:=b1J a q hl ha hql hq
 obtain ⟨ht1,ht2⟩:=b0W (a:=a) (Q:=q.map F8) (by rw [c6F];exact hql)
 have htb:=b7J ha hql hq
 have hal:=(U1 ha).2
 have hRl:=a6y (a:=a) (q:=q.map F8) (by rw [c6F];exact hql)
 have hz:=a2k
 change ∀ E:Ctx,E.P=Tryz.prog->Tz E->l8 E [] 19 [a.c,.sl 6 (q.map Sn.enc)] (.tup [.rv 1,ints 0]) [.gone,.row 42 12 ((a0U a (q.map F8)).map Bq.enc)] [] at h
 generalize a0U a (q.map F8)=R at *
 generalize a1X a (q.map F8)=T at *
 generalize a7E a (q.map F8)=tip at *
 obtain ⟨arms,walls,parts,slots,gates,walk⟩:=w
 obtain ⟨name,⟨bx,by',half,tu⟩,links⟩:=a
 obtain ⟨pname,shp,⟨gx,gy,gh,gt⟩⟩:=p
 simp only at ga gp hn hk n1 n2 ht1 ht2 hal hRl pn ps pg ⊢
 have hsl:shp.length<=1048576:=ps.1
 have hfb:=fun i=>b2M (g:=⟨gx,gy,gh,gt⟩) pg.1 pg.2.1 (shp.take i) 0 (fun v hv=>ps.2 v (List.mem_of_mem_take hv)) (a0j.mono (by decide))
 change ∀ i,Rb 4194400 (Nm.ofQ (a1m ⟨gx,gy,gh,gt⟩ (shp.take i))) at hfb
 have hfn:=fun (i:Nat) (c:Vt) (h:shp[i]?=some c)=>b1z ⟨gx,gy,gh,gt⟩ h
 have hf0:a1m ⟨gx,gy,gh,gt⟩ (shp.take 0)=0:=rfl
 have hfe:a1m ⟨gx,gy,gh,gt⟩ shp=a1m ⟨gx,gy,gh,gt⟩ (shp.take shp.length):=by rw [c6X]
 rw [hfe]
 generalize hF:(fun i=>a1m ⟨gx,gy,gh,gt⟩ (shp.take i))=F
 have hFi:∀ i,a1m ⟨gx,gy,gh,gt⟩ (shp.take i)=F i:=fun i=>by rw [<- hF]
 simp only [hFi] at hfb hfn hf0 ⊢
 clear hF hFi hfe
 have e5:decide ((k:Int) < 0)=false:=decide_eq_false (by omega)
 have e6:decide ((T.length:Int)=0)=false:=decide_eq_false (by omega)
 simp only [W9,j6,TT,II,OA,OB,OC,MM,LL,VV,FF,MG]
 simp only [Wk.c,Wk.enc,Am.c,Am.enc,ams,wls,pts,sls,gts,lks,sb,ints] at h hf ⊢
 (repeat first|refine uA ?_|(refine uK ?_ ?_;focus first|omega|(intros;simp_all<;>omega))|simp (disch:=omega) only [go_sem,Nat.reduceBEq,Nat.reduceAdd,C.sh,C.shL,c7g,List.length_nil,c6F,c6P,ga,c6G,c6I,Am.enc,lks,sb]|refine p8.t (l8.pre (h _ rfl ⟨hw,id⟩) rfl rfl rfl) ?_)
 refine S.cond rfl (fun hc=>by simp at hc) (fun hc=>?_)
 (repeat first|refine uA ?_|(refine uK ?_ ?_;focus first|omega|(intros;simp_all<;>omega))|simp (disch:=omega) only [go_sem,Nat.reduceBEq])
 refine S.cond rfl (fun hc=>by simp [e5] at hc) (fun hc=>?_)
 (repeat first|refine uA ?_|(refine uK ?_ ?_;focus first|omega|(intros;simp_all<;>omega))|simp (disch:=omega) only [go_sem,Nat.reduceBEq,Nat.reduceAdd,c6F,c6P,ga,c6G,c6I,Am.enc,lks,sb,e6]|(refine uD hf ?_ ?_ ?_;exact tz hw;exact rfl))
 refine S.cond rfl (fun hc=>by simp [e6] at hc) (fun hc=>?_)
 unfold rq at hz
 simp only [rc,sb] at hz
 (repeat first|refine uA ?_|(refine uK ?_ ?_;focus first|omega|(intros;simp_all<;>omega))|simp (disch:=omega) only [go_sem,Nat.reduceBEq,Nat.reduceAdd,c6F,c6P,gp,c6G,c6I,Pt.enc,vts,sb]|(refine uD hz ?_ ?_ ?_;exact tz hw;exact rfl))
 refine S.loop (X:=Nat) (fun i=>⟨[(2,ints k),(4,.bp 0 0),(10,.rv 2),(12,.sl 12 (T.map Bq.enc)),(13,.bp 3 0),(58,vts shp),(59,ints shp.length),(60,ints i)],[.box 30 [ams arms,wls walls,pts parts,sls slots,gts gates,.v (.bool walk.neg),sb walk.num,sb walk.den],.gone,.row 42 12 (R.map Bq.enc),.box 28 (rcs (Nm.ofQ (F i)))]⟩) (fun i=>i<=shp.length) (fun i=>shp.length-i) 0 (c6K _) (by rw [hf0];simp only [ams,wls,pts,sls,gts,vts,rcs,sb,ints];exact (by (repeat first|refine uA ?_|(refine ⟨?_,?_⟩;focus first|rfl|simp [slot])|rfl|simp))) ?_
 intro i hi
 clear h hf hz hf0
 simp only [ams,wls,pts,sls,gts,vts,rcs,sb,ints]
 (repeat first|refine uA ?_|(refine uK ?_ ?_;focus first|omega|(intros;simp_all<;>omega))|simp (disch:=omega) only [go_sem,Nat.reduceBEq])
 (refine uJ rfl (fun hc=>?_) fun hc=>?_)
 ·have hi':i < shp.length:=by omega
  have hg:=c6E hi'
  generalize shp[i]=c at hg
  have hc2:=ps.2 c (c6H hg)
  have hn2:=hfn i c hg
  have hb:=hfb i
  have b1:=O8 (hc2.1.fit (by decide)) (pg.1.fit (by decide))
  have b2:=O8 (hc2.2.fit (by decide)) (pg.2.1.fit (by decide))
  have b3:=K9 (U4 b1) (U4 b2)
  have o1:=a9V c.x c.y gx gy (hc2.1.mono (by decide)) (hc2.2.mono (by decide)) (pg.1.mono (by decide)) (pg.2.1.mono (by decide))
  have o3:=a5q (Nm.ofQ (Nm.d9 c.x-Nm.d9 gx)) (b1.mono (by decide))
  have o4:=a5q (Nm.ofQ (Nm.d9 c.y-Nm.d9 gy)) (b2.mono (by decide))
  rw [Nm.q8] at o3 o4
  have o5:=a2e (r9 (Nm.d9 c.x-Nm.d9 gx)) (r9 (Nm.d9 c.y-Nm.d9 gy)) ((U4 b1).mono (by decide)) ((U4 b2).mono (by decide))
  have o6:=M6 (Nm.ofQ (r9 (Nm.d9 c.x-Nm.d9 gx)+r9 (Nm.d9 c.y-Nm.d9 gy))) (Nm.ofQ (F i)) (b3.mono (by decide)) (hb.mono (by decide))
  rw [Nm.q8,Nm.q8] at o6
  rw [c1u] at hn2
  clear hb b1 b2 b3 hc2 hfn hfb
  generalize Nm.d9 c.x-Nm.d9 gx=d1 at *
  generalize Nm.d9 c.y-Nm.d9 gy=d2 at *
  generalize r9 d1+r9 d2=d5 at *
  generalize r9 d1=d3 at *
  generalize r9 d2=d4 at *
  generalize hF0:F i=f0 at *
  generalize hF1:F (i+1)=f1 at *
  generalize Nm.q9 d5 f0=cc at *
  obtain ⟨cx,cy⟩:=c
  simp only [vc,vq,rq,rc,sb,ints] at o1 o3 o4 o5 o6
  (repeat first|refine uI ?_|(refine uK ?_ ?_;focus first|omega|(intros;simp_all<;>omega))|simp (disch:=omega) only [go_sem,Nat.reduceBEq,Nat.reduceAdd,hg,c6G,c6F,c6P,Vt.enc,sb,c6I])
  refine S.D6 [.box 30 [.sl 12 (arms.map Am.enc),.sl 1 (walls.map fun s=>[.sl 6 (s.map Vt.enc)]),.sl 12 (parts.map Pt.enc),.sl 14 (slots.map Sl.enc),.sl 13 (gates.map Gt.enc),.v (.bool walk.neg),.v (.string (bs walk.num)),.v (.string (bs walk.den))],.gone,.gone,.gone,.box 40 [.v (.bool cx.neg),.v (.string (bs cx.num)),.v (.string (bs cx.den)),.v (.bool cy.neg),.v (.string (bs cy.num)),.v (.string (bs cy.den))]] (by simp [Eng.F6,Eng.H6]) ?_
  (repeat first|refine uI ?_|(refine uK ?_ ?_;focus first|omega|(intros;simp_all<;>omega))|simp (disch:=omega) only [go_sem,Nat.reduceBEq,Nat.reduceAdd,Eng.H6,c6F,c6P,gp,c6G,c6I,Pt.enc,vts,sb]|(refine uD o1 ?_ ?_ ?_;exact tz hw;exact rfl))
  refine S.D6 [.gone,.gone,.gone,.gone,.gone,.box 40 [.v (.bool (Nm.ofQ d1).neg),.v (.string (bs (Nm.ofQ d1).num)),.v (.string (bs (Nm.ofQ d1).den)),.v (.bool (Nm.ofQ d2).neg),.v (.string (bs (Nm.ofQ d2).num)),.v (.string (bs (Nm.ofQ d2).den))]] (by simp [Eng.F6,Eng.H6]) ?_
  (repeat first|refine uA ?_|(refine uK ?_ ?_;focus first|omega|(intros;simp_all<;>omega))|simp (disch:=omega) only [go_sem,Nat.reduceBEq,Nat.reduceAdd,Eng.H6]|(refine uD o3 ?_ ?_ ?_;exact tz hw;exact rfl)|(refine uD o4 ?_ ?_ ?_;exact tz hw;exact rfl)|(refine uD o5 ?_ ?_ ?_;exact tz hw;exact rfl)|(refine uD o6 ?_ ?_ ?_;exact tz hw;exact rfl))
  refine S.cond rfl (fun hc=>?_) (fun hc=>?_)
  ·rw [if_pos (by simpa using hc)] at hn2
   (repeat first|refine uA ?_|(refine uK ?_ ?_;focus first|omega|(intros;simp_all<;>omega))|simp (disch:=omega) only [go_sem,Nat.reduceBEq,Nat.reduceAdd,ww])
   refine S.next (i+1) (by omega) (by omega) (by rw [hF1,hn2];exact (by (repeat first|refine uA ?_|(refine ⟨?_,?_⟩;focus first|rfl|simp [slot])|rfl|simp)))
  ·rw [if_neg (by simpa using hc)] at hn2
   (repeat first|refine uA ?_|(refine uK ?_ ?_;focus first|omega|(intros;simp_all<;>omega))|simp (disch:=omega) only [go_sem,Nat.reduceBEq,ww])
   refine S.next (i+1) (by omega) (by omega) (by rw [hF1,hn2];exact (by (repeat first|refine uA ?_|(refine ⟨?_,?_⟩;focus first|rfl|simp [slot])|rfl|simp)))
 have hi':i=shp.length:=by omega
 subst hi'
 have o7:=c3S tip (F shp.length) ⟨htb.1.mono (by decide),htb.2.1.mono (by decide),htb.2.2.1.mono (by decide),htb.2.2.2.mono (by decide)⟩ ((hfb _).mono (by decide))
 have c1:=c0k (R.map Bq.enc) (by rw [c6F];omega)
 clear hfb hfn
 generalize F shp.length=f0 at *
 generalize a4n tip f0=gb at *
 have e7:((T.length:Int)-1).toNat=links.length:=by omega
 have e8:(0:Int)<=(T.length:Int)-1/\(T.length:Int)-1 < T.length:=by omega
 obtain ⟨tx,ty,tx2,ty2⟩:=tip
 obtain ⟨g1,g2,g3,g4⟩:=gb
 simp only [Bq.enc,rq,rc,sb] at o7
 refine S.weaken (st':=⟨[(10,.sl 12 (R.map Bq.enc)),(12,.sl 12 (T.map Bq.enc)),(13,.bp 3 0)],[.gone,.gone,.gone,.box 28 [.v (.bool (Nm.ofQ f0).neg),.v (.string (bs (Nm.ofQ f0).num)),.v (.string (bs (Nm.ofQ f0).den))]]⟩) ?_ ?_
 ·exact Ent.mk _ _ (Q6.cons (Imp.frz rfl rfl rfl) (Q6.cons (Imp.refl rfl) (Q6.cons (Imp.refl rfl) Q6.nil))) (E5.cons (RI.gone _) (E5.cons (RI.gone _) (E5.cons (RI.gone _) (E5.cons (RI.box _ _ _ (j5.refl rfl)) E5.nil)))) (c6K _)
 (repeat first|refine uI ?_|(refine uK ?_ ?_;focus first|omega|(intros;simp_all<;>omega))|simp (disch:=omega) only [go_sem,Nat.reduceBEq,Nat.reduceAdd,ww])
 refine S.D6 [.gone,.gone,.gone,.box 28 [.v (.bool (Nm.ofQ f0).neg),.v (.string (bs (Nm.ofQ f0).num)),.v (.string (bs (Nm.ofQ f0).den))]] (by simp [Eng.F6,Eng.H6]) ?_
 (repeat first|refine uA ?_|(refine uK ?_ ?_;focus first|omega|(intros;simp_all<;>omega))|simp (disch:=omega) only [go_sem,Nat.reduceBEq,Nat.reduceAdd,ww,Eng.H6,c6F,c6P,ht1,e7,c6G,Bq.enc,sb]|refine p8.t (FNew.t c1 rfl) ?_|(refine uD o7 ?_ ?_ ?_;exact tz hw;exact rfl))
 simp only [c7t,c6V,c6Z,Bq.enc,sb]
 (refine S.done ?_;simp only [l9,go_sem,Nat.reduceBEq];(repeat (refine ⟨?_,?_⟩;focus first|trivial|omega|simp));exact j4.out rfl (Imp.tup (by (repeat' (first|exact j5.nil|exact Imp.refl rfl|exact Imp.frz rfl rfl rfl|exact Imp.D8|refine Imp.agg ?_|refine j5.cons ?_ ?_)))) rfl)
theorem c4d (a b c d e v:Int):(if G5 id [a,b,c,d,e] ≠ 0 then G5 id [a,b,c,d,e] else v)=if a ≠ 0 then a else if b ≠ 0 then b else if c ≠ 0 then c else if d ≠ 0 then d else if e ≠ 0 then e else v:=by
 simp only [G5,id]
 by_cases ha:a=0<;>by_cases hb:b=0<;>by_cases hc:c=0<;>by_cases hd:d=0<;>by_cases he:e=0<;>simp [ha,hb,hc,hd,he]
theorem b5J {k:Nat} {a:Nm.Rt} (h:1<=k) (h1:Rb k a):Rbs k [a]:=⟨h,fun x hx=>by simp at hx;subst hx;exact h1⟩
theorem c0K {k:Nat} {a b c d:Nm.Rt} (h:4<=k) (h1:Rb k a) (h2:Rb k b) (h3:Rb k c) (h4:Rb k d):Rbs k [a,b,c,d]:=⟨h,fun x hx=>by simp at hx;rcases hx with rfl|rfl|rfl|rfl<;>assumption⟩
theorem walk_eq (a:Nm.Rt):b2j a=if ([a].all l6=false \/ z8 (Nm.d9 a)=-1) then 1 else 0:=by
 have h1:(decide a.F5 && l6 a)=[a].all l6:=by rw [<- Z6];simp
 have h2:=b9e (Nm.d9 a)
 unfold b2j
 rw [h1]
 generalize [a].all l6=q
 have:=b3Y (Nm.d9 a)
 cases q
 ·simp
 ·by_cases h:0<=z8 (Nm.d9 a)
  ·rw [if_pos (by simpa using h),if_neg (by simp;omega)]
  ·rw [if_neg (by simpa using h),if_pos (by right;omega)]
theorem c3l (s:Sl):(okF s.frame && decide s.within.F5 && l6 s.within && decide (0 < z8 (Nm.d9 s.within)))=!(!okF s.frame || !([s.within].all l6) || decide (z8 (Nm.d9 s.within) < 1)):=by
 have h1:(okF s.frame && decide s.within.F5 && l6 s.within)=(okF s.frame && [s.within].all l6):=by
  rw [Bool.and_assoc,<- Z6];simp
 rw [h1,sign_one]
 cases okF s.frame<;>cases [s.within].all l6<;>cases decide (0 < z8 (Nm.d9 s.within))<;>rfl
theorem c3D (g:Gt):(okV g.low && okV g.high && decide (Nm.q9 (Nm.d9 g.low.x) (Nm.d9 g.high.x)<=0) && decide (Nm.q9 (Nm.d9 g.low.y) (Nm.d9 g.high.y)<=0))=!(!([g.low.x,g.low.y,g.high.x,g.high.y].all l6) || decide (Nm.q9 (Nm.d9 g.low.x) (Nm.d9 g.high.x)=1) || decide (Nm.q9 (Nm.d9 g.low.y) (Nm.d9 g.high.y)=1)):=by
 have h1:(okV g.low && okV g.high)=[g.low.x,g.low.y,g.high.x,g.high.y].all l6:=by
  rw [b3P,b3P];simp [Bool.and_assoc]
 rw [h1,b5a,b5a]
 cases [g.low.x,g.low.y,g.high.x,g.high.y].all l6<;>cases decide (Nm.q9 (Nm.d9 g.low.x) (Nm.d9 g.high.x)<=0)<;>cases decide (Nm.q9 (Nm.d9 g.low.y) (Nm.d9 g.high.y)<=0)<;>rfl
theorem c2X (n:Nms) (a:Am):a0y n a=if F4 a ≠ 0 then (F4 a,n) else L6 n a.name:=rfl
theorem c0D (n:Nms) (p:Pt):a0o n p=if (L6 n p.name).1 ≠ 0 then L6 n p.name else if N9 p.shape ≠ 0 then (N9 p.shape,(L6 n p.name).2) else (if okF p.grasp then 0 else 1,(L6 n p.name).2):=rfl
theorem b9Z (n:Nms) (s:Sl):a0w n s=if (L6 n s.name).1 ≠ 0 then L6 n s.name else (if okF s.frame && decide s.within.F5 && l6 s.within && decide (0 < z8 (Nm.d9 s.within)) then 0 else 1,(L6 n s.name).2):=rfl
theorem c1k (n:Nms) (g:Gt):a0n n g=if (L6 n g.name).1 ≠ 0 then L6 n g.name else (if okV g.low && okV g.high && decide (Nm.q9 (Nm.d9 g.low.x) (Nm.d9 g.high.x)<=0) && decide (Nm.q9 (Nm.d9 g.low.y) (Nm.d9 g.high.y)<=0) then 0 else 1,(L6 n g.name).2):=rfl
theorem b9I (w:Wk) (hb:Wb 1073741824 w):FZ 9 [w.c] (ints (a0a w)):=by
 refine kW Tryz.func9 (by cbv) (by rfl) fun w' O hw=>?_
 have hcal:callable Tryz.prog 36=true:=by kernel_rfl
 obtain ⟨⟨n1,b1⟩,⟨n2,b2⟩,⟨n3,b3⟩,⟨n4,b4⟩,⟨n5,b5⟩,b6⟩:=hb
 have hnm:=fun (E:Ctx) (hP:E.P=Tryz.prog) (n:Nms) (s:List UInt8) (hs:s.length<=1099511627776) (hn:n.length<=1000000)=>c3F hP w n s hs hn
 have h6:=a4F _ (b5J (by decide) (b6.mono (m:=17179869184) (by decide)))
 have h7:=O9 w.walk (b6.mono (by decide))
 unfold a0a a6l
 generalize hr1:F3 a0y [] w.arms=r1
 obtain ⟨e1,m1⟩:=r1
 simp only
 generalize hr3:F3 a0o m1 w.parts=r3
 obtain ⟨e3,m3⟩:=r3
 simp only
 generalize hr4:F3 a0w m3 w.slots=r4
 obtain ⟨e4,m4⟩:=r4
 simp only
 generalize hr5:F3 a0n m4 w.gates=r5
 obtain ⟨e5,m5⟩:=r5
 simp only
 generalize hr2:G5 N9 w.walls=e2
 rw [c4d,walk_eq]
 generalize [w.walk].all l6=q6 at *
 generalize z8 (Nm.d9 w.walk)=s7 at *
 obtain ⟨arms,walls,parts,slots,gates,walk⟩:=w
 simp only at n1 n2 n3 n4 n5 b1 b2 b3 b4 b5 hr1 hr2 hr3 hr4 hr5 ⊢
 simp only [j6,TT,II,OA,OB,OC,MM,LL,VV,FF,LG,VG,FG]
 simp only [Wk.c,Wk.enc,rsR,ams,wls,pts,sls,gts,rts,rcs,rc,sb,ints,c6V,c6Z] at hnm h6 h7 ⊢
 (repeat first|refine uA ?_|(refine uK ?_ ?_;focus first|omega|(intros;simp_all<;>omega))|simp (disch:=omega) only [go_sem,Nat.reduceBEq,Nat.reduceAdd,c6F])
 refine S.cond rfl (fun hc=>?_) (fun hc=>?_)
 ·rw [if_pos (by simp only [c7v,c6S] at hc;omega)]
  (repeat first|refine uA ?_|(refine uK ?_ ?_;focus first|omega|(intros;simp_all<;>omega))|simp (disch:=omega) only [go_sem])
  exact S.done (j4.out rfl (Imp.refl rfl) rfl)
 rw [if_neg (by simp only [c7n,c7c] at hc;omega)]
 simp only [c7n,c7c] at hc
 (repeat first|refine uA ?_|(refine uK ?_ ?_;focus first|omega|(intros;simp_all<;>omega))|simp (disch:=omega) only [go_sem,Nat.reduceBEq,Nat.reduceAdd,c6F])
 refine S.cond rfl (fun hc=>?_) (fun hc=>?_)
 ·rw [if_pos (by simp only [c6S] at hc;omega)]
  (repeat first|refine uA ?_|(refine uK ?_ ?_;focus first|omega|(intros;simp_all<;>omega))|simp (disch:=omega) only [go_sem])
  exact S.done (j4.out rfl (Imp.refl rfl) rfl)
 rw [if_neg (by simp only [c7c] at hc;omega)]
 (repeat first|refine uA ?_|(refine uK ?_ ?_;focus first|omega|(intros;simp_all<;>omega))|simp (disch:=omega) only [go_sem,Nat.reduceBEq,Nat.reduceAdd,c6F])
 refine S.loop (X:=Nat × Nms) (fun x=>⟨[(1,.bp 0 0),(4,.clo 36 [.bp 1 0]),(58,ams arms),(59,ints arms.length),(60,ints x.1)],[.box 30 [ams arms,wls walls,pts parts,sls slots,gts gates,.v (.bool walk.neg),sb walk.num,sb walk.den],.box 96 [.rv 2],.row 9 1 (nmR x.2)]⟩)
  (fun x=>x.1<=arms.length/\x.2.length<=x.1/\(e1,m1)=F3 a0y x.2 (arms.drop x.1)) (fun x=>arms.length-x.1) (0,[]) ⟨c6K _,c6N _,hr1.symm⟩ (Ent.trans (Ent.a6C 1 0 9 1 rfl rfl rfl) (by (repeat first|refine uA ?_|(refine ⟨?_,?_⟩;focus first|rfl|simp [slot])|rfl|simp))) ?_
 rintro ⟨i,m⟩ ⟨hi,hml,hg⟩
 simp only [ams,wls,pts,sls,gts,sb,ints] at hi hml hg ⊢
 (repeat first|refine uA ?_|(refine uK ?_ ?_;focus first|omega|(intros;simp_all<;>omega))|simp (disch:=omega) only [go_sem,Nat.reduceBEq])
 (refine uJ rfl (fun hc=>?_) fun hc=>?_)
 ·have hgi:=c6E (show i < arms.length by omega)
  generalize arms[i]'(_)=x at hgi
  have hx:=b1 x (c6H hgi)
  have hst:=Z0 (f:=a0y) (s:=m) hgi
  have hnx:=Z5 (f:=a0y) (s:=m) hgi
  have o1:=a4C x hx
  have o2:=fun (E:Ctx) (hP:E.P=Tryz.prog)=>hnm E hP m x.name (by have:=hx.1;omega) (by omega)
  have hal:=a6x m x.name
  rw [c2X] at hst hnx
  generalize F4 x=a1 at *
  generalize L6 m x.name=r at *
  obtain ⟨a2,m'⟩:=r
  simp only [Am.c,Am.enc,lks,sb] at o1 o2 hal hst hnx
  (repeat first|refine uG o1 ?_|refine uA ?_|(refine uK ?_ ?_;focus first|omega|(intros;simp_all<;>omega))|simp (disch:=omega) only [go_sem,Nat.reduceBEq,Nat.reduceAdd,hgi,c6G,c6F,Am.enc,lks,sb,c6I]|(refine uD o1 ?_ ?_ ?_;exact tz hw;exact rfl))
  refine S.cond rfl (fun hc2=>?_) (fun hc2=>?_)
  ·have h0:a1 ≠ 0:=by simpa using hc2
   rw [if_pos h0] at hst
   rw [hst h0] at hg
   injection hg with g1 g2
   rw [if_pos (by rw [g1];exact h0),g1]
   (repeat first|refine uA ?_|(refine uK ?_ ?_;focus first|omega|(intros;simp_all<;>omega))|simp (disch:=omega) only [go_sem,Nat.reduceBEq])
   exact S.done (j4.out rfl (Imp.refl rfl) rfl)
  have h0:¬ a1 ≠ 0:=by simpa using hc2
  rw [if_neg h0] at hst hnx
  simp only at hst hnx
  (repeat first|refine uA ?_|(refine uK ?_ ?_;focus first|omega|(intros;simp_all<;>omega))|simp (disch:=omega) only [go_sem,Nat.reduceBEq,Nat.reduceAdd,hcal,c6V,c6Z]|refine p8.t (l8.b6Q _ (o2 _ rfl) rfl rfl rfl) ?_)
  refine S.cond rfl (fun hc3=>?_) (fun hc3=>?_)
  ·have h1:a2 ≠ 0:=by simpa using hc3
   rw [hst h1] at hg
   injection hg with g1 g2
   rw [if_pos (by rw [g1];exact h1),g1]
   (repeat first|refine uA ?_|(refine uK ?_ ?_;focus first|omega|(intros;simp_all<;>omega))|simp (disch:=omega) only [go_sem,Nat.reduceBEq])
   exact S.done (j4.out rfl (Imp.refl rfl) rfl)
  ·have h1:a2=0:=by simpa using hc3
   (repeat first|refine uA ?_|(refine uK ?_ ?_;focus first|omega|(intros;simp_all<;>omega))|simp (disch:=omega) only [go_sem,Nat.reduceBEq,ww])
   refine S.next (x:=(i,m)) (i+1,m') ⟨by simp only;omega,by simp only;omega,by simp only;rw [hg];exact hnx h1⟩ (by simp only;omega) (by (repeat first|refine uA ?_|(refine ⟨?_,?_⟩;focus first|rfl|simp [slot])|rfl|simp))
 rw [a0v (by omega)] at hg
 injection hg with g1 g2
 subst g1 g2
 rw [if_neg (show ¬ (0:Int) ≠ 0 by simp)]
 have hm1:m1.length<=4:=by omega
 clear hr1 b1 hml hi
 (repeat first|refine uA ?_|(refine uK ?_ ?_;focus first|omega|(intros;simp_all<;>omega))|simp (disch:=omega) only [go_sem,Nat.reduceBEq,Nat.reduceAdd,c6F])
 refine S.loop (X:=Nat) (fun i=>⟨[(1,.bp 0 0),(4,.clo 36 [.bp 1 0]),(78,wls walls),(79,ints walls.length),(80,ints i)],[.box 30 [ams arms,wls walls,pts parts,sls slots,gts gates,.v (.bool walk.neg),sb walk.num,sb walk.den],.box 96 [.rv 2],.row 9 1 (nmR m1)]⟩)
  (fun i=>i<=walls.length/\e2=G5 N9 (walls.drop i)) (fun i=>walls.length-i) 0 ⟨c6K _,hr2.symm⟩ (by (repeat first|refine uA ?_|(refine ⟨?_,?_⟩;focus first|rfl|simp [slot])|rfl|simp)) ?_
 rintro j ⟨hj,hg⟩
 simp only [ams,wls,pts,sls,gts,sb,ints] at hj hg ⊢
 (repeat first|refine uA ?_|(refine uK ?_ ?_;focus first|omega|(intros;simp_all<;>omega))|simp (disch:=omega) only [go_sem,Nat.reduceBEq])
 (refine uJ rfl (fun hc=>?_) fun hc=>?_)
 ·have hgi:=c6E (show j < walls.length by omega)
  generalize walls[j]'(_)=x at hgi
  have hx:=b2 x (c6H hgi)
  have hst:=a1e (f:=N9) hgi
  have hnx:=a1h (f:=N9) hgi
  have o1:=b2u x hx
  generalize N9 x=a1 at *
  simp only [vts] at o1
  (repeat first|refine uG o1 ?_|refine uA ?_|(refine uK ?_ ?_;focus first|omega|(intros;simp_all<;>omega))|simp (disch:=omega) only [go_sem,Nat.reduceBEq,hgi,c6G,c6F,vts,c6I]|(refine uD o1 ?_ ?_ ?_;exact tz hw;exact rfl))
  refine S.cond rfl (fun hc2=>?_) (fun hc2=>?_)
  ·have h0:a1 ≠ 0:=by simpa using hc2
   rw [hst h0] at hg
   rw [if_pos (by rw [hg];exact h0),hg]
   (repeat first|refine uA ?_|(refine uK ?_ ?_;focus first|omega|(intros;simp_all<;>omega))|simp (disch:=omega) only [go_sem,Nat.reduceBEq])
   exact S.done (j4.out rfl (Imp.refl rfl) rfl)
  ·have h0:a1=0:=by simpa using hc2
   (repeat first|refine uA ?_|(refine uK ?_ ?_;focus first|omega|(intros;simp_all<;>omega))|simp (disch:=omega) only [go_sem,Nat.reduceBEq,ww])
   refine S.next (j+1) ⟨by omega,by rw [hg];exact hnx h0⟩ (by omega) (by (repeat first|refine uA ?_|(refine ⟨?_,?_⟩;focus first|rfl|simp [slot])|rfl|simp))
 rw [a1O (by omega)] at hg
 subst hg
 rw [if_neg (show ¬ (0:Int) ≠ 0 by simp)]
 clear hr2 b2 hj
 (repeat first|refine uA ?_|(refine uK ?_ ?_;focus first|omega|(intros;simp_all<;>omega))|simp (disch:=omega) only [go_sem,Nat.reduceBEq,Nat.reduceAdd,c6F])
 refine S.loop (X:=Nat × Nms) (fun x=>⟨[(1,.bp 0 0),(4,.clo 36 [.bp 1 0]),(91,pts parts),(92,ints parts.length),(93,ints x.1)],[.box 30 [ams arms,wls walls,pts parts,sls slots,gts gates,.v (.bool walk.neg),sb walk.num,sb walk.den],.box 96 [.rv 2],.row 9 1 (nmR x.2)]⟩)
  (fun x=>x.1<=parts.length/\x.2.length<=4+x.1/\(e3,m3)=F3 a0o x.2 (parts.drop x.1)) (fun x=>parts.length-x.1) (0,m1) ⟨c6K _,hm1,hr3.symm⟩ (by (repeat first|refine uA ?_|(refine ⟨?_,?_⟩;focus first|rfl|simp [slot])|rfl|simp)) ?_
 rintro ⟨k,m⟩ ⟨hk,hml,hg⟩
 simp only [ams,wls,pts,sls,gts,sb,ints] at hk hml hg ⊢
 (repeat first|refine uA ?_|(refine uK ?_ ?_;focus first|omega|(intros;simp_all<;>omega))|simp (disch:=omega) only [go_sem,Nat.reduceBEq])
 (refine uJ rfl (fun hc=>?_) fun hc=>?_)
 ·have hgi:=c6E (show k < parts.length by omega)
  generalize parts[k]'(_)=x at hgi
  have hx:=b3 x (c6H hgi)
  have hst:=Z0 (f:=a0o) (s:=m) hgi
  have hnx:=Z5 (f:=a0o) (s:=m) hgi
  have o1:=b2u x.shape hx.2.1
  have o3:=b2y x.grasp ⟨hx.2.2.1.mono (by decide),hx.2.2.2.1.mono (by decide),hx.2.2.2.2.mono (by decide)⟩
  have o2:=fun (E:Ctx) (hP:E.P=Tryz.prog)=>hnm E hP m x.name (by have:=hx.1;omega) (by omega)
  have hal:=a6x m x.name
  rw [c0D] at hst hnx
  generalize N9 x.shape=a1 at *
  generalize okF x.grasp=q at *
  generalize L6 m x.name=r at *
  obtain ⟨a2,m'⟩:=r
  obtain ⟨xn,xs,⟨gx,gy,gh,gt⟩⟩:=x
  simp only [Fr.c,Fr.enc,vts,sb] at o1 o2 o3 hal hst hnx
  (repeat first|refine uA ?_|(refine uK ?_ ?_;focus first|omega|(intros;simp_all<;>omega))|simp (disch:=omega) only [go_sem,Nat.reduceBEq,Nat.reduceAdd,hgi,c6G,c6F,Pt.enc,vts,sb,c6I,hcal,c6V,c6Z]|refine p8.t (l8.b6Q _ (o2 _ rfl) rfl rfl rfl) ?_)
  refine S.cond rfl (fun hc2=>?_) (fun hc2=>?_)
  ·have h0:a2 ≠ 0:=by simpa using hc2
   rw [if_pos h0] at hst
   rw [hst h0] at hg
   injection hg with g1 g2
   rw [if_pos (by rw [g1];exact h0),g1]
   (repeat first|refine uA ?_|(refine uK ?_ ?_;focus first|omega|(intros;simp_all<;>omega))|simp (disch:=omega) only [go_sem,Nat.reduceBEq])
   exact S.done (j4.out rfl (Imp.refl rfl) rfl)
  have h0:¬ a2 ≠ 0:=by simpa using hc2
  rw [if_neg h0] at hst hnx
  (repeat first|refine uG o1 ?_|refine uA ?_|(refine uK ?_ ?_;focus first|omega|(intros;simp_all<;>omega))|simp (disch:=omega) only [go_sem,Nat.reduceBEq,Nat.reduceAdd]|(refine uD o1 ?_ ?_ ?_;exact tz hw;exact rfl))
  refine S.cond rfl (fun hc3=>?_) (fun hc3=>?_)
  ·have h1:a1 ≠ 0:=by simpa using hc3
   rw [if_pos h1] at hst
   rw [hst h1] at hg
   injection hg with g1 g2
   rw [if_pos (by rw [g1];exact h1),g1]
   (repeat first|refine uA ?_|(refine uK ?_ ?_;focus first|omega|(intros;simp_all<;>omega))|simp (disch:=omega) only [go_sem,Nat.reduceBEq])
   exact S.done (j4.out rfl (Imp.refl rfl) rfl)
  have h1:¬ a1 ≠ 0:=by simpa using hc3
  rw [if_neg h1] at hst hnx
  (repeat first|refine uG o3 ?_|refine uA ?_|(refine uK ?_ ?_;focus first|omega|(intros;simp_all<;>omega))|simp (disch:=omega) only [go_sem,Nat.reduceBEq,Nat.reduceAdd]|(refine uD o3 ?_ ?_ ?_;exact tz hw;exact rfl))
  refine S.cond rfl (fun hc4=>?_) (fun hc4=>?_)
  ·have h2:¬ q=true:=by simpa using hc4
   rw [if_neg h2] at hst
   rw [hst (show (1:Int) ≠ 0 by decide)] at hg
   injection hg with g1 g2
   rw [if_pos (by rw [g1];decide),g1]
   (repeat first|refine uA ?_|(refine uK ?_ ?_;focus first|omega|(intros;simp_all<;>omega))|simp (disch:=omega) only [go_sem])
   exact S.done (j4.out rfl (Imp.refl rfl) rfl)
  ·have h2:q=true:=by simpa using hc4
   rw [if_pos h2] at hnx
   (repeat first|refine uA ?_|(refine uK ?_ ?_;focus first|omega|(intros;simp_all<;>omega))|simp (disch:=omega) only [go_sem,Nat.reduceBEq,ww])
   refine S.next (x:=(k,m)) (k+1,m') ⟨by simp only;omega,by simp only;omega,by simp only;rw [hg];exact hnx rfl⟩ (by simp only;omega) (by (repeat first|refine uA ?_|(refine ⟨?_,?_⟩;focus first|rfl|simp [slot])|rfl|simp))
 rw [a0v (by omega)] at hg
 injection hg with g1 g2
 subst g1 g2
 rw [if_neg (show ¬ (0:Int) ≠ 0 by simp)]
 have hm3:m3.length<=10:=by omega
 clear hr3 b3 hml hk hm1
 (repeat first|refine uA ?_|(refine uK ?_ ?_;focus first|omega|(intros;simp_all<;>omega))|simp (disch:=omega) only [go_sem,Nat.reduceBEq,Nat.reduceAdd,c6F])
 refine S.loop (X:=Nat × Nms) (fun x=>⟨[(1,.bp 0 0),(4,.clo 36 [.bp 1 0]),(116,sls slots),(117,ints slots.length),(118,ints x.1)],[.box 30 [ams arms,wls walls,pts parts,sls slots,gts gates,.v (.bool walk.neg),sb walk.num,sb walk.den],.box 96 [.rv 2],.row 9 1 (nmR x.2)]⟩)
  (fun x=>x.1<=slots.length/\x.2.length<=10+x.1/\(e4,m4)=F3 a0w x.2 (slots.drop x.1)) (fun x=>slots.length-x.1) (0,m3) ⟨c6K _,hm3,hr4.symm⟩ (by (repeat first|refine uA ?_|(refine ⟨?_,?_⟩;focus first|rfl|simp [slot])|rfl|simp)) ?_
 rintro ⟨k,m⟩ ⟨hk,hml,hg⟩
 simp only [ams,wls,pts,sls,gts,sb,ints] at hk hml hg ⊢
 (repeat first|refine uA ?_|(refine uK ?_ ?_;focus first|omega|(intros;simp_all<;>omega))|simp (disch:=omega) only [go_sem,Nat.reduceBEq])
 (refine uJ rfl (fun hc=>?_) fun hc=>?_)
 ·have hgi:=c6E (show k < slots.length by omega)
  generalize slots[k]'(_)=x at hgi
  have hx:=b4 x (c6H hgi)
  have hst:=Z0 (f:=a0w) (s:=m) hgi
  have hnx:=Z5 (f:=a0w) (s:=m) hgi
  have o1:=b2y x.frame ⟨hx.2.1.1.mono (by decide),hx.2.1.2.1.mono (by decide),hx.2.1.2.2.mono (by decide)⟩
  have o3:=a4F _ (b5J (by decide) (hx.2.2.mono (m:=17179869184) (by decide)))
  have o4:=O9 x.within (hx.2.2.mono (by decide))
  have o2:=fun (E:Ctx) (hP:E.P=Tryz.prog)=>hnm E hP m x.name (by have:=hx.1;omega) (by omega)
  have hal:=a6x m x.name
  rw [b9Z] at hst hnx
  rw [c3l] at hst hnx
  generalize okF x.frame=q1 at *
  generalize [x.within].all l6=q2 at *
  generalize z8 (Nm.d9 x.within)=s3 at *
  generalize L6 m x.name=r at *
  obtain ⟨a2,m'⟩:=r
  obtain ⟨xn,⟨gx,gy,gh,gt⟩,wi⟩:=x
  simp only [Fr.c,Fr.enc,rts,rcs,rc,sb,ints,c6V,c6Z] at o1 o2 o3 o4 hal hst hnx
  (repeat first|refine uA ?_|(refine uK ?_ ?_;focus first|omega|(intros;simp_all<;>omega))|simp (disch:=omega) only [go_sem,Nat.reduceBEq,Nat.reduceAdd,hgi,c6G,c6F,Sl.enc,sb,c6I,hcal,c6V,c6Z]|refine p8.t (l8.b6Q _ (o2 _ rfl) rfl rfl rfl) ?_)
  refine S.cond rfl (fun hc2=>?_) (fun hc2=>?_)
  ·have h0:a2 ≠ 0:=by simpa using hc2
   rw [if_pos h0] at hst
   rw [hst h0] at hg
   injection hg with g1 g2
   rw [if_pos (by rw [g1];exact h0),g1]
   (repeat first|refine uA ?_|(refine uK ?_ ?_;focus first|omega|(intros;simp_all<;>omega))|simp (disch:=omega) only [go_sem,Nat.reduceBEq])
   exact S.done (j4.out rfl (Imp.refl rfl) rfl)
  have h0:¬ a2 ≠ 0:=by simpa using hc2
  rw [if_neg h0] at hst hnx
  cases q1
  ·(repeat first|refine uG o1 ?_|refine uG o4 ?_|refine uG o3 ?_|refine uA ?_|(refine uK ?_ ?_;focus first|omega|(intros;simp_all<;>omega))|simp (disch:=omega) only [go_sem,Nat.reduceBEq,Nat.reduceAdd]|(refine uD o1 ?_ ?_ ?_;exact tz hw;exact rfl)|(refine uD o4 ?_ ?_ ?_;exact tz hw;exact rfl)|(refine uE o3 ?_ ?_ ?_ ?_;exact tz hw;exact rfl;focus (repeat' first|exact j5.nil|exact Imp.refl rfl|exact Imp.frz rfl rfl rfl|(refine Imp.M8 rfl rfl ?_ ?_;(focus ((try simp only [c6M]);omega));(focus first|rfl|assumption))|refine j5.cons ?_ ?_);done))
   refine S.cond rfl (fun hc3=>?_) (fun hc3=>by simp at hc3)
   rw [if_neg (by simp)] at hst
   rw [hst (show (1:Int) ≠ 0 by decide)] at hg
   injection hg with g1 g2
   rw [if_pos (by rw [g1];decide),g1]
   (repeat first|refine uA ?_|(refine uK ?_ ?_;focus first|omega|(intros;simp_all<;>omega))|simp (disch:=omega) only [go_sem])
   exact S.done (j4.out rfl (Imp.refl rfl) rfl)
  (repeat first|refine uG o1 ?_|refine uG o4 ?_|refine uG o3 ?_|refine uA ?_|(refine uK ?_ ?_;focus first|omega|(intros;simp_all<;>omega))|simp (disch:=omega) only [go_sem,Nat.reduceBEq,Nat.reduceAdd]|(refine uD o1 ?_ ?_ ?_;exact tz hw;exact rfl)|(refine uD o4 ?_ ?_ ?_;exact tz hw;exact rfl)|(refine uE o3 ?_ ?_ ?_ ?_;exact tz hw;exact rfl;focus (repeat' first|exact j5.nil|exact Imp.refl rfl|exact Imp.frz rfl rfl rfl|(refine Imp.M8 rfl rfl ?_ ?_;(focus ((try simp only [c6M]);omega));(focus first|rfl|assumption))|refine j5.cons ?_ ?_);done))
  refine S.cond rfl (fun hc3=>?_) (fun hc3=>?_)
  ·rw [if_neg (by simp;simp at hc3;rcases hc3 with h|h<;>simp [h])] at hst
   rw [hst (show (1:Int) ≠ 0 by decide)] at hg
   injection hg with g1 g2
   rw [if_pos (by rw [g1];decide),g1]
   (repeat first|refine uA ?_|(refine uK ?_ ?_;focus first|omega|(intros;simp_all<;>omega))|simp (disch:=omega) only [go_sem])
   exact S.done (j4.out rfl (Imp.refl rfl) rfl)
  ·rw [if_pos (by simpa using hc3)] at hnx
   (repeat first|refine uA ?_|(refine uK ?_ ?_;focus first|omega|(intros;simp_all<;>omega))|simp (disch:=omega) only [go_sem,Nat.reduceBEq,ww])
   refine S.next (x:=(k,m)) (k+1,m') ⟨by simp only;omega,by simp only;omega,by simp only;rw [hg];exact hnx rfl⟩ (by simp only;omega) (by (repeat first|refine uA ?_|(refine ⟨?_,?_⟩;focus first|rfl|simp [slot])|rfl|simp))
 rw [a0v (by omega)] at hg
 injection hg with g1 g2
 subst g1 g2
 rw [if_neg (show ¬ (0:Int) ≠ 0 by simp)]
 have hm4:m4.length<=18:=by omega
 clear hr4 b4 hml hk hm3
 (repeat first|refine uA ?_|(refine uK ?_ ?_;focus first|omega|(intros;simp_all<;>omega))|simp (disch:=omega) only [go_sem,Nat.reduceBEq,Nat.reduceAdd,c6F])
 refine S.loop (X:=Nat × Nms) (fun x=>⟨[(1,.bp 0 0),(4,.clo 36 [.bp 1 0]),(148,gts gates),(149,ints gates.length),(150,ints x.1)],[.box 30 [ams arms,wls walls,pts parts,sls slots,gts gates,.v (.bool walk.neg),sb walk.num,sb walk.den],.box 96 [.rv 2],.row 9 1 (nmR x.2)]⟩)
  (fun x=>x.1<=gates.length/\x.2.length<=18+x.1/\(e5,m5)=F3 a0n x.2 (gates.drop x.1)) (fun x=>gates.length-x.1) (0,m4) ⟨c6K _,hm4,hr5.symm⟩ (by (repeat first|refine uA ?_|(refine ⟨?_,?_⟩;focus first|rfl|simp [slot])|rfl|simp)) ?_
 rintro ⟨k,m⟩ ⟨hk,hml,hg⟩
 simp only [ams,wls,pts,sls,gts,sb,ints] at hk hml hg ⊢
 (repeat first|refine uA ?_|(refine uK ?_ ?_;focus first|omega|(intros;simp_all<;>omega))|simp (disch:=omega) only [go_sem,Nat.reduceBEq])
 (refine uJ rfl (fun hc=>?_) fun hc=>?_)
 ·have hgi:=c6E (show k < gates.length by omega)
  generalize gates[k]'(_)=x at hgi
  obtain ⟨hx0,⟨hx1,hx2⟩,hx3,hx4⟩:=b5 x (c6H hgi)
  have hst:=Z0 (f:=a0n) (s:=m) hgi
  have hnx:=Z5 (f:=a0n) (s:=m) hgi
  have o3:=a4F _ (c0K (by decide) (hx1.mono (m:=17179869184) (by decide)) (hx2.mono (m:=17179869184) (by decide)) (hx3.mono (m:=17179869184) (by decide)) (hx4.mono (m:=17179869184) (by decide)))
  have o4:=M6 x.low.x x.high.x (hx1.mono (by decide)) (hx3.mono (by decide))
  have o5:=M6 x.low.y x.high.y (hx2.mono (by decide)) (hx4.mono (by decide))
  have o2:=fun (E:Ctx) (hP:E.P=Tryz.prog)=>hnm E hP m x.name (by omega) (by omega)
  have hal:=a6x m x.name
  rw [c1k] at hst hnx
  rw [c3D] at hst hnx
  generalize [x.low.x,x.low.y,x.high.x,x.high.y].all l6=q2 at *
  generalize Nm.q9 (Nm.d9 x.low.x) (Nm.d9 x.high.x)=s3 at *
  generalize Nm.q9 (Nm.d9 x.low.y) (Nm.d9 x.high.y)=s4 at *
  generalize L6 m x.name=r at *
  obtain ⟨a2,m'⟩:=r
  obtain ⟨xn,⟨lx,ly⟩,⟨ux,uy⟩⟩:=x
  simp only [rts,rcs,rc,sb,ints,c6V,c6Z] at o2 o3 o4 o5 hal hst hnx
  (repeat first|refine uA ?_|(refine uK ?_ ?_;focus first|omega|(intros;simp_all<;>omega))|simp (disch:=omega) only [go_sem,Nat.reduceBEq,Nat.reduceAdd,hgi,c6G,c6F,Gt.enc,sb,c6I,hcal,c6V,c6Z]|refine p8.t (l8.b6Q _ (o2 _ rfl) rfl rfl rfl) ?_)
  refine S.cond rfl (fun hc2=>?_) (fun hc2=>?_)
  ·have h0:a2 ≠ 0:=by simpa using hc2
   rw [if_pos h0] at hst
   rw [hst h0] at hg
   injection hg with g1 g2
   rw [if_pos (by rw [g1];exact h0),g1]
   (repeat first|refine uA ?_|(refine uK ?_ ?_;focus first|omega|(intros;simp_all<;>omega))|simp (disch:=omega) only [go_sem,Nat.reduceBEq])
   exact S.done (j4.out rfl (Imp.refl rfl) rfl)
  have h0:¬ a2 ≠ 0:=by simpa using hc2
  rw [if_neg h0] at hst hnx
  (repeat first|refine uI ?_|(refine uK ?_ ?_;focus first|omega|(intros;simp_all<;>omega))|simp (disch:=omega) only [go_sem,Nat.reduceBEq,Nat.reduceAdd,ww])
  refine S.D6 [.gone,.gone,.gone,.box 107 [.v (.string (bs xn)),.v (.bool lx.neg),.v (.string (bs lx.num)),.v (.string (bs lx.den)),.v (.bool ly.neg),.v (.string (bs ly.num)),.v (.string (bs ly.den)),.v (.bool ux.neg),.v (.string (bs ux.num)),.v (.string (bs ux.den)),.v (.bool uy.neg),.v (.string (bs uy.num)),.v (.string (bs uy.den))]] (by simp [Eng.F6,Eng.H6]) ?_
  (repeat first|refine uG o4 ?_|refine uG o5 ?_|refine uG o3 ?_|refine uA ?_|(refine uK ?_ ?_;focus first|omega|(intros;simp_all<;>omega))|simp (disch:=omega) only [go_sem,Nat.reduceBEq,Nat.reduceAdd]|(refine uD o4 ?_ ?_ ?_;exact tz hw;exact rfl)|(refine uD o5 ?_ ?_ ?_;exact tz hw;exact rfl)|(refine uE o3 ?_ ?_ ?_ ?_;exact tz hw;exact rfl;focus (repeat' first|exact j5.nil|exact Imp.refl rfl|exact Imp.frz rfl rfl rfl|(refine Imp.M8 rfl rfl ?_ ?_;(focus ((try simp only [c6M,F6]);omega));(focus first|rfl|assumption))|refine j5.cons ?_ ?_);done))
  refine S.cond rfl (fun hc3=>?_) (fun hc3=>?_)
  ·rw [if_neg (by rw [hc3];decide)] at hst
   rw [hst (show (1:Int) ≠ 0 by decide)] at hg
   injection hg with g1 g2
   rw [if_pos (by rw [g1];decide),g1]
   (repeat first|refine uA ?_|(refine uK ?_ ?_;focus first|omega|(intros;simp_all<;>omega))|simp (disch:=omega) only [go_sem])
   exact S.done (j4.out rfl (Imp.refl rfl) rfl)
  ·rw [if_pos (by rw [hc3];rfl)] at hnx
   (repeat first|refine uA ?_|(refine uK ?_ ?_;focus first|omega|(intros;simp_all<;>omega))|simp (disch:=omega) only [go_sem,Nat.reduceBEq,ww])
   refine S.next (x:=(k,m)) (k+1,m') ⟨by simp only;omega,by simp only;omega,by simp only;rw [hg];exact hnx rfl⟩ (by simp only;omega) (by (repeat first|refine uA ?_|(refine ⟨?_,?_⟩;focus first|rfl|simp [slot])|rfl|simp))
 rw [a0v (by omega)] at hg
 injection hg with g1 g2
 subst g1
 rw [if_neg (show ¬ (0:Int) ≠ 0 by simp)]
 (repeat first|refine uG h7 ?_|refine uG h6 ?_|refine uA ?_|(refine uK ?_ ?_;focus first|omega|(intros;simp_all<;>omega))|simp (disch:=omega) only [go_sem,Nat.reduceBEq,Nat.reduceAdd]|(refine uD h7 ?_ ?_ ?_;exact tz hw;exact rfl)|(refine uE h6 ?_ ?_ ?_ ?_;exact tz hw;exact rfl;focus (repeat' first|exact j5.nil|exact Imp.refl rfl|exact Imp.frz rfl rfl rfl|(refine Imp.M8 rfl rfl ?_ ?_;(focus ((try simp only [c6M]);omega));(focus first|rfl|assumption))|refine j5.cons ?_ ?_);done))
 refine S.cond rfl (fun hc=>?_) (fun hc=>?_)
 ·rw [if_pos (by simpa using hc)]
  (repeat first|refine uA ?_|(refine uK ?_ ?_;focus first|omega|(intros;simp_all<;>omega))|simp (disch:=omega) only [go_sem])
  exact S.done (j4.out rfl (Imp.refl rfl) rfl)
 ·rw [if_neg (by simpa using hc)]
  (repeat first|refine uA ?_|(refine uK ?_ ?_;focus first|omega|(intros;simp_all<;>omega))|simp (disch:=omega) only [go_sem])
  exact S.done (j4.out rfl (Imp.refl rfl) rfl)
def a0f:M4:=⟨161,[.tmp 12],.seq (.reg [OA 6 (.box 30 (TT 0)),OA 12 (.mv (.const (.bool false)))]) (.seq (.seq (.reg [OA 23 (.call 4 []),OA 24 (.un .not (TT 23))]) (.cond (TT 24) (.seq (.reg [OA 12 (.mv (.const (.bool false)))]) .ret)
 .skip)) (.seq (.reg [LL 26 8 6,MM 27 1,MM 28 2,MM 29 5,OA 30 (.call 5 [TT 26,TT 27,TT 28,TT 29]),MM 25 30,OA 31 (.ext (TT 25) 0),OA 32 (.ext (TT 25) 1),MM 13 31,MM 14 32]) (.seq (.seq (.reg [MM 33 1,OA 34 (.bin .lss
 (TT 33) (II 0)),MM 35 34,MG 36 1 35 false,FG 37 0 6 35 false,VG 38 37 35 false,OC 39 (.len false (TT 38)) 35 false,OC 40 (.bin .geq (TT 36) (TT 39)) 35 false,OA 41 (.pick (TT 35) (.const (.bool true)) (TT 40)),MM 42 41,
 MG 43 2 42 false,OC 44 (.bin .lss (TT 43) (II (-1))) 42 false,OA 45 (.pick (TT 42) (.const (.bool true)) (TT 44)),MM 46 45,MG 47 2 46 false,FG 48 2 6 46 false,VG 49 48 46 false,OC 50 (.len false (TT 49)) 46 false,OC 51
 (.bin .geq (TT 47) (TT 50)) 46 false,OA 52 (.pick (TT 46) (.const (.bool true)) (TT 51))]) (.cond (TT 52) (.seq (.reg [MM 53 14,OA 54 (.bin .eql (TT 53) (II 1)),MM 55 54,MG 56 13 55 true,OC 57 (.len false (TT 56)) 55 true,
 OC 58 (.bin .eql (TT 57) (II 0)) 55 true,OA 59 (.pick (TT 55) (TT 58) (.const (.bool false))),MM 12 59]) .ret) .skip)) (.seq (.reg [LL 61 8 6,MM 62 1,MM 63 2,MM 64 5,OA 65 (.call 6 [TT 61,TT 62,TT 63,TT 64]),MM 60 65,
 OA 66 (.ext (TT 60) 0),OA 67 (.ext (TT 60) 1),MM 15 66,MM 16 67]) (.seq (.seq (.reg [MM 68 14,MM 69 16,OA 70 (.bin .neq (TT 68) (TT 69)),MM 71 70,MG 72 13 71 false,MG 73 15 71 false,OC 74 (.call 7 [TT 72,TT 73]) 71
 false,OC 75 (.un .not (TT 74)) 71 false,OA 76 (.pick (TT 71) (.const (.bool true)) (TT 75))]) (.cond (TT 76) (.seq (.reg [OA 12 (.mv (.const (.bool false)))]) .ret) .skip)) (.seq (.reg [FF 77 0 6,VV 78 77,MM 79 1,OA 80
 (.x9 12 (TT 78) (TT 79)),LL 81 12 80,OA 17 (.alloc 49 [.string ⟨#[]⟩,.bool false,.string ⟨#[]⟩,.string ⟨#[]⟩,.bool false,.string ⟨#[]⟩,.string ⟨#[]⟩,.bool false,.bool false,.string ⟨#[]⟩,.string ⟨#[]⟩,.slice none
 0 0]),OB (.store 12 (TT 17) (TT 81))]) (.seq (.reg [LL 83 12 17,MM 84 3,MM 85 4,OA 86 (.call 8 [TT 83,TT 84,TT 85]),MM 82 86,OA 87 (.ext (TT 82) 0),OA 88 (.ext (TT 82) 1),OA 89 (.ext (TT 82) 2),MM 18 87,MM 19 88,MM
 14 89]) (.seq (.seq (.D6 [.q,.q,.q,.q,.q,.q] [LL 90 12 17,OA 91 (.bsl 49 12 1 [.string ⟨#[]⟩,.bool false,.string ⟨#[]⟩,.string ⟨#[]⟩,.bool false,.string ⟨#[]⟩,.string ⟨#[]⟩,.bool false,.bool false,.string ⟨#[]⟩,
 .string ⟨#[]⟩,.slice none 0 0] [(0,TT 90)]),OA 92 (.call 10 [II 0,II 1]),OA 93 (.build [.slice none 0 0,.slice none 0 0,.slice none 0 0,.slice none 0 0,.slice none 0 0,.bool false,.string ⟨#[]⟩,.string ⟨#[]⟩] [(0,
 (1,TT 91)),(5,(3,TT 92))]),OA 94 (.call 9 [TT 93]),OA 95 (.bin .neq (TT 94) (II 0))]) (.cond (TT 95) (.seq (.reg [MM 96 18,OA 97 (.len false (TT 96)),OA 98 (.bin .eql (TT 97) (II 0)),MM 99 98,MG 100 14 99 false,OC 101
 (.bin .eql (TT 100) (II 0)) 99 false,OA 102 (.pick (TT 99) (.const (.bool true)) (TT 101)),MM 12 102]) .ret) .skip)) (.seq (.seq (.reg [MM 103 3,OA 104 (.len false (TT 103)),FF 105 11 17,VV 106 105,OA 107 (.len false (TT
 106)),OA 108 (.bin .neq (TT 104) (TT 107)),MM 109 108,MG 110 4 109 false,OC 111 (.len false (TT 110)) 109 false,FG 112 11 17 109 false,VG 113 112 109 false,OC 114 (.len false (TT 113)) 109 false,OC 115 (.bin .neq (TT
 111) (TT 114)) 109 false,OA 116 (.pick (TT 109) (.const (.bool true)) (TT 115))]) (.cond (TT 116) (.seq (.reg [MM 117 14,OA 118 (.bin .eql (TT 117) (II 1)),MM 119 118,MG 120 18 119 true,OC 121 (.len false (TT 120)) 119
 true,OC 122 (.bin .eql (TT 121) (II 0)) 119 true,OA 123 (.pick (TT 119) (TT 122) (.const (.bool false))),MM 124 123,MG 125 19 124 true,OC 126 (.bin .eql (TT 125) (II 0)) 124 true,OA 127 (.pick (TT 124) (TT 126) (.const
 (.bool false))),MM 12 127]) .ret) .skip)) (.seq (.reg [LL 129 12 17,MM 130 3,MM 131 4,OA 132 (.call 11 [TT 129,TT 130,TT 131]),MM 128 132,OA 133 (.ext (TT 128) 0),OA 134 (.ext (TT 128) 1),OA 135 (.ext (TT 128) 2),MM
 20 133,MM 21 134,MM 22 135]) (.seq (.seq (.reg [MM 136 22,OA 137 (.un .not (TT 136))]) (.cond (TT 137) (.seq (.reg [MM 138 14,OA 139 (.bin .eql (TT 138) (II 2)),MM 140 139,MG 141 18 140 true,OC 142 (.len false (TT 141))
 140 true,OC 143 (.bin .eql (TT 142) (II 0)) 140 true,OA 144 (.pick (TT 140) (TT 143) (.const (.bool false))),MM 145 144,MG 146 19 145 true,OC 147 (.bin .eql (TT 146) (II 0)) 145 true,OA 148 (.pick (TT 145) (TT 147) (.const
 (.bool false))),MM 12 148]) .ret) .skip)) (.seq (.reg [MM 149 14,OA 150 (.bin .eql (TT 149) (II 0)),MM 151 150,MG 152 18 151 true,MG 153 20 151 true,OC 154 (.call 12 [TT 152,TT 153]) 151 true,OA 155 (.pick (TT 151) (TT
 154) (.const (.bool false))),MM 156 155,MG 157 19 156 true,MG 158 21 156 true,OC 159 (.bin .eql (TT 157) (TT 158)) 156 true,OA 160 (.pick (TT 156) (TT 159) (.const (.bool false))),MM 12 160]) .ret))))))))))))⟩
theorem a5e:I9 eff Tryz.prog Tryz.f3=some a0f:=by kernel_rfl
theorem a5f:Tryz.prog.funcs[3]?=some Tryz.f3:=Tryz.func3
theorem c4y {f:Nat} {args:List C} {s s':C} {rs':List Res} (h:∀ E:Ctx,E.P=Tryz.prog->Tz E->l8 E [] f args s rs' []) (hi:Imp rs' [] s s') (hc:s'.cl=true):FZ f args s':=by
 intro O w vs hw hO hA
 have ho0:∀ b,¬ owned [] [] b:=fun b ⟨k,r,x,hk,_⟩=>by simp at hk
 have hRG:RG O (fun _=>False) w.heap.size [] [] w:=⟨rfl,fun k r hk=>by simp at hk,fun k l r r' x x' b _ hk=>by simp at hk,fun b hb=>(ho0 b hb).elim,hO,c6N _⟩
 have hsub:∀ b,OO O [] [] b->O b:=fun b hb=>hb.elim id fun h=>(ho0 b h).elim
 refine (h ⟨Tryz.prog,fun _=>false,0,w,fun _=>False,O,[],[]⟩ rfl ⟨hw,id⟩ O [] w vs hRG (fun b hb=>hb) ⟨rfl,rfl,rfl,c6N _,fun _ _ _=>rfl⟩ ((FzL.keep (Keeps.sub hsub) hA).den [])).mono ?_
 rintro e w' ⟨y,ν',rfl,h1,h2,h3⟩
 have hC:Cut O rs' [] ν':=Cut.of h1 (by simp [R4])
 have h4:=hi O (fun _=>False) w.heap.size ν' w' y h1 hC h3
 exact ⟨y,rfl,⟨h2.os,h2.tape,h2.output,h2.size,fun b hb=>h2.block b hb (ho0 b)⟩,Fz.keep (Keeps.sub fun b hb=>.inl hb) (Den.fz hc h4)⟩
theorem FZ.imp {f:Nat} {args:List C} {r s:C} (h:FZ f args r) (hb:(C.bdL 0 args && C.clL args)=true) (hi:Imp [] [] r s) (hc:s.cl=true):FZ f args s:=by
 refine c4y (rs':=[]) (fun E hP ht=>?_) hi hc
 rw [c6Q] at hb
 intro av ν w vs hR hav hF hD
 refine (Q0.c1I (p:=true) ht (fun _=>by rw [hP];exact h) (fun _=>j5.refl (rs':=[]) hb.1) (fun _=>hb.2) rfl av ν w vs hR hav hF hD).mono ?_
 rintro e w' ⟨y,rfl,h1,h2⟩
 exact ⟨y,ν,rfl,hR.below h1,Mv.of_below h1,h2⟩
theorem a9p {a:Am} {n:Nat} (h:P8 a n=0):F4 a=0/\n=a.links.length:=by
 unfold P8 at h
 split at h
 ·contradiction
 ·split at h
  ·cases h
  ·rename_i h1 h2
   exact ⟨Classical.not_not.1 h1,by have:=Classical.not_not.1 h2;omega⟩
def gbL (w:Wk) (a:Am) (holds:Int) (q:List Sn):List Bq:=if P8 a q.length ≠ 0 then [] else if holds < 0 then a0U a (q.map F8) else match w.parts[holds.toNat]? with
 | some p=>a0U a (q.map F8)++[a4n (a7E a (q.map F8)) (a1m p.grasp p.shape)]
 | none=>[]
theorem c2o {w:Wk} {a:Am} {holds:Int} {q:List Sn}:(gbL w a holds q).length<=4:=by
 unfold gbL
 split
 ·exact c6K _
 ·rename_i he
  obtain ⟨h1,h2⟩:=a9p (Classical.not_not.1 he)
  have hl:=a6y (a:=a) (q:=q.map F8) (by rw [c6F];exact h2)
  have h3:=(U1 h1).2
  split
  ·omega
  ·split
   ·rw [c6M,List.length_singleton];omega
   ·exact c6K _
theorem c6k (w:Wk) (n:Nat) (holds:Int) (a:Am) (q:List Sn) (hwb:Wb 1048576 w) (ga:w.arms[n]?=some a) (h1:-1<=holds) (h2:holds < w.parts.length) (hqn:q.length<=1000000000) (hq:∀ r ∈ q,Zr 1048576 r) :
  FZ 5 [w.c,ints n,ints holds,.sl 6 (q.map Sn.enc)] (.tup [bqs (gbL w a holds q),ints (P8 a q.length)]):=by
 unfold gbL
 by_cases he:P8 a q.length=0
 ·obtain ⟨ha,hl⟩:=a9p he
  rw [if_neg (by simp [he]),he]
  by_cases hh:holds < 0
  ·rw [if_pos hh]
   obtain rfl:holds=-1:=by omega
   exact b1l w n a q (hwb.mono (by decide)) ga ha hl hq
  ·rw [if_neg hh]
   obtain ⟨k,rfl⟩:∃ k:Nat,holds=k:=⟨holds.toNat,by omega⟩
   have gp:=c6E (show k < w.parts.length by omega)
   rw [c6I,gp]
   exact b9v w n k a _ q hwb ga gp ha hl hq
 ·rw [if_pos he]
  exact (b7m w n holds a q (hwb.mono (by decide)) ga h1 h2 hqn he).imp rfl (Imp.tup (j5.cons Imp.D8 (j5.cons (Imp.refl rfl) j5.nil))) rfl
theorem c5R (w:Wk) (n:Nat) (holds:Int) (a:Am) (q:List Sn) (hwb:Wb 1048576 w) (ga:w.arms[n]?=some a) (h1:-1<=holds) (h2:holds < w.parts.length) (hqn:q.length<=1000000000) (hq:∀ r ∈ q,Zr 1048576 r) :
  FZ 6 [w.c,ints n,ints holds,.sl 6 (q.map Sn.enc)] (.tup [bqs (gbL w a holds q),ints (P8 a q.length)]):=by
 unfold gbL
 by_cases he:P8 a q.length=0
 ·obtain ⟨ha,hl⟩:=a9p he
  rw [if_neg (by simp [he]),he]
  by_cases hh:holds < 0
  ·rw [if_pos hh]
   obtain rfl:holds=-1:=by omega
   exact b7n w n a q (hwb.mono (by decide)) ga ha hl hq
  ·rw [if_neg hh]
   obtain ⟨k,rfl⟩:∃ k:Nat,holds=k:=⟨holds.toNat,by omega⟩
   have gp:=c6E (show k < w.parts.length by omega)
   rw [c6I,gp]
   exact b7f w n k a _ q hwb ga gp ha hl hq
 ·rw [if_pos he]
  exact (b9g w n holds a q (hwb.mono (by decide)) ga hqn he).imp rfl (Imp.tup (j5.cons Imp.D8 (j5.cons (Imp.refl rfl) j5.nil))) rfl
theorem b8Y {L:List Lk} {u:List Nm.Rt} (hl:u.length=L.length) (h:a1S (L.zip u)=false):∃ k,k < L.length/\(∀ (l:Lk) (x:Nm.Rt),L[k]?=some l->u[k]?=some x->¬ u7 (Nm.d9 l.brake) (Nm.d9 x)<=2000)/\∀ (i:Nat) (l:Lk) (x:Nm.Rt),i < k->L[i]?=some l->u[i]?=some x->u7 (Nm.d9 l.brake) (Nm.d9 x)<=2000:=by
  induction L generalizing u with
  | nil=>simp [a1S] at h
  | cons l L ih=>
    cases u with
    | nil=>simp at hl
    | cons x u=>
      by_cases hx:u7 (Nm.d9 l.brake) (Nm.d9 x)<=2000
      · have h2:a1S (L.zip u)=false:=by
          unfold a1S at h ⊢
          simpa [hx] using h
        obtain ⟨k,h3,h4,h5⟩:=ih (by simpa using hl) h2
        refine ⟨k+1,by simpa using h3,fun l' x' g1 g2=>h4 l' x' (by simpa using g1) (by simpa using g2),fun i l' x' hi g1 g2=>?_⟩
        cases i with
        | zero=>
          simp only [List.getElem?_cons_zero,Option.some.injEq] at g1 g2
          subst g1 g2
          exact hx
        | succ i=>exact h5 i l' x' (by omega) (by simpa using g1) (by simpa using g2)
      · exact ⟨0,by simp,fun l' x' g1 g2=>by
          simp only [List.getElem?_cons_zero,Option.some.injEq] at g1 g2
          subst g1 g2
          exact hx,fun i l' x' hi=>absurd hi (Nat.not_lt_zero _)⟩
theorem c5Z (a:Am) (q u:List Nm.Rt) (hl:Ab 1073741824 a) (hqn:q.length<=1000000000) (hun:u.length<=1000000000) (hqb:∀ r ∈ q,Rb 1048576 r) (hub:∀ r ∈ u,Rb 1048576 r) :
    ∃ (S:List Sn) (T e:Int),FZ 8 [a.c,rts q,rts u] (.tup [sns S,ints T,ints e]) /\
      ((S=[]/\T=0/\e ≠ 0/\(F4 a=0->e=1)/\(F4 a=0->¬ (q.length=a.links.length/\u.length=a.links.length))) \/
       (F4 a=0/\q.length=a.links.length/\u.length=a.links.length/\a1S (a.links.zip u)=true/\S=Q9 a.links q u/\T=O6 (a.links.zip u)+1/\e=0) \/
       (F4 a=0/\q.length=a.links.length/\u.length=a.links.length/\a1S (a.links.zip u)=false/\S=[]/\T=0/\e=2)):=by
  by_cases hb:F4 a ≠ 0 \/ q.length ≠ a.links.length \/ u.length ≠ a.links.length
  · refine ⟨[],0,_,(c0Y a q u hl hqn hun hb).imp rfl (Imp.tup (j5.cons Imp.D8 (j5.cons (Imp.refl rfl) (j5.cons (Imp.refl rfl) j5.nil)))) rfl,.inl ⟨rfl,rfl,?_,fun h=>by rw [if_neg (by simp [h])],fun h h2=>?_⟩⟩
    · split
      · assumption
      · decide
    · rcases hb with hb|hb|hb
      · exact hb h
      · exact hb h2.1
      · exact hb h2.2
  have ha:F4 a=0:=Classical.byContradiction fun h=>hb (.inl h)
  have hq:q.length=a.links.length:=Classical.byContradiction fun h=>hb (.inr (.inl h))
  have hu:u.length=a.links.length:=Classical.byContradiction fun h=>hb (.inr (.inr h))
  have hJ:∀ (i:Nat) (l:Lk) (x:Nm.Rt),a.links[i]?=some l->u[i]?=some x->Jo l x:=fun i l x g1 g2=>by
    have h:=(Z7 ha).2 l (c6H g1)
    exact ⟨b5n h,hub x (c6H g2),a9G h⟩
  cases hf:a1S (a.links.zip u) with
  | true=>
    refine ⟨Q9 a.links q u,_,0,b3L a q u hl ha hq hu hqb fun i l x g1 g2=>⟨hJ i l x g1 g2,?_⟩,.inr (.inl ⟨ha,hq,hu,rfl,rfl,rfl,rfl⟩)⟩
    unfold a1S at hf
    rw [List.all_eq_true] at hf
    have h:=hf (l,x) (c6H (V6 g1 g2))
    simp only [c6S] at h
    exact h
  | false=>
    obtain ⟨k,h1,h2,h3⟩:=b8Y hu hf
    exact ⟨[],0,2,(c1s a q u k hl ha hq hu hqb hJ h1 h2 h3).imp rfl (Imp.tup (j5.cons Imp.D8 (j5.cons (Imp.refl rfl) (j5.cons (Imp.refl rfl) j5.nil)))) rfl,.inr (.inr ⟨ha,hq,hu,rfl,rfl,rfl,rfl⟩)⟩
theorem b4C (a:List Sn) (hn:a.length<=1000000000):y9 Tryz.prog 12 [sns a,sns a] (.v (.bool true)):=by
 refine kS Tryz.func12 (by cbv) (by rfl) fun w O=>?_
 have h:=b6c a (by omega)
 simp only [j6,TT,OA,MM]
 simp only [sns] at h ⊢
 (repeat first|refine uA ?_|(apply uK;focus first|omega|(intros;simp_all<;>omega))|simp (disch:=omega) only [go_sem,Nat.reduceBEq,Nat.reduceAdd]|(apply uB h;exact rfl))
 exact S.done (j4.out rfl (Imp.refl rfl) rfl)
def b7c (a:Am):Wk:=⟨[a],[],[],[],[],Q 0 1⟩
theorem c4V {a:Am} (h:Ab 1073741824 a):Wb 1073741824 (b7c a):=⟨⟨by show 1<=1073741824;decide,fun x hx=>by rw [List.mem_singleton.1 hx];exact h⟩,⟨c6K _,fun x hx=>by cases hx⟩,⟨c6K _,fun x hx=>by cases hx⟩,⟨c6K _,fun x hx=>by cases hx⟩,⟨c6K _,fun x hx=>by cases hx⟩,b6m.mono (by decide)⟩
theorem b1W (w:Wk) (n holds:Int) (q u:List Nm.Rt) (l:List Sn) (hwb:Wb 1048576 w) (hqn:q.length<=1000000000) (hun:u.length<=1000000000) (hln:l.length<=1000000000) (hqb:∀ r ∈ q,Rb 1048576 r) (hub:∀ r ∈ u,Rb 1048576 r) (hlb:∀ r ∈ l,Zr 1048576 r) :
    FZ 3 [w.c,ints n,ints holds,rts q,rts u,sns l] (.v (.bool true)):=by
  refine kW a5f a5e (by rfl) fun w' O hw=>?_
  have h0:=b2U
  have n1:=hwb.arms.1
  have n2:=hwb.parts.1
  by_cases hr:n < 0 \/ (w.arms.length:Int)<=n \/ holds < -1 \/ (w.parts.length:Int)<=holds
  · have h1:=b9q w n holds l (hwb.mono (by decide)) hr
    obtain ⟨arms,walls,parts,slots,gates,walk⟩:=w
    simp only at hr n1 n2
    simp only [a0f,j6,TT,II,OA,OB,OC,MM,LL,VV,FF,MG,VG,FG]
    simp only [Wk.c,Wk.enc,ams,wls,pts,sls,gts,rts,sns,sb,ints] at h1 ⊢
    (repeat first|refine uA ?_|(refine uK ?_ ?_;focus first|omega|(intros;simp_all<;>omega))|simp (disch:=omega) only [go_sem,Nat.reduceBEq,Nat.reduceAdd]|(refine uD h0 ?_ ?_ ?_;exact tz hw;exact rfl))
    refine S.cond rfl (fun hc=>by simp at hc) (fun hc=>?_)
    (repeat first|refine uA ?_|(refine uK ?_ ?_;focus first|omega|(intros;simp_all<;>omega))|simp (disch:=omega) only [go_sem,Nat.reduceBEq,Nat.reduceAdd,c6F]|(refine uD h1 ?_ ?_ ?_;exact tz hw;exact rfl))
    refine S.cond rfl (fun hc=>?_) (fun hc=>?_)
    · (repeat first|refine uA ?_|(refine uK ?_ ?_;focus first|omega|(intros;simp_all<;>omega))|simp (disch:=omega) only [go_sem,Nat.reduceBEq,decide_true])
      exact S.done (j4.out rfl (Imp.refl rfl) rfl)
    · exfalso
      clear h0 h1 hqb hub hlb hwb hw
      by_cases k1:n < 0<;>by_cases k2:(arms.length:Int)<=n<;>by_cases k3:holds < -1<;>by_cases k4:(parts.length:Int)<=holds<;>simp_all<;>omega
  obtain ⟨k,rfl⟩:∃ k:Nat,n=k:=⟨n.toNat,by omega⟩
  have hkn:k < w.arms.length:=by omega
  have ga:=c6E hkn
  generalize w.arms[k]=a at ga
  have hl:=(hwb.mono (show 1048576<=1073741824 by decide)).arms.2 a (c6H ga)
  have hb1:=c6k w k holds a l hwb ga (by omega) (by omega) hln hlb
  have hb2:=c5R w k holds a l hwb ga (by omega) (by omega) hln hlb
  have hL:=@c2o w a holds l
  generalize gbL w a holds l=L at *
  generalize P8 a l.length=eB at *
  have h3:=b8R L (by omega)
  obtain ⟨sL,T,e,hR,hcs⟩:=c5Z a q u hl hqn hun hqb hub
  have h4:=a2I 0 1 (by decide) (by decide)
  have h5:=b9I (b7c a) (c4V hl)
  have hA:a0a (b7c a)=0->F4 a=0:=fun h=>a8h h a (List.mem_singleton.2 rfl)
  have hrr:=fun (ha:F4 a=0) (hq:q.length=a.links.length) (hv:u.length=a.links.length)=>b6B a q u hl ha hq hv hqb hub
  have hrl:=fun (hq:q.length=a.links.length) (hv:u.length=a.links.length)=>a5D (L:=a.links) hq hv
  have hn3:F4 a=0->a.links.length<=3:=fun h=>(U1 h).2
  unfold b7c at h5 hA
  generalize Q9 a.links q u=RL at *
  generalize O6 (a.links.zip u)=tl at *
  generalize a1S (a.links.zip u)=fw at *
  generalize a0a ⟨[a],[],[],[],[],Q 0 1⟩=wk at *
  generalize F4 a=eA at *
  generalize Q 0 1=q1 at *
  clear hqb hub hlb hl hwb
  obtain ⟨arms,walls,parts,slots,gates,walk⟩:=w
  obtain ⟨name,⟨bx,by',half,tu⟩,links⟩:=a
  simp only at hr n1 n2 hkn ga hcs hrr hrl hn3 hL
  have e1:decide ((k:Int) < 0)=false:=decide_eq_false (by omega)
  have e2:decide ((arms.length:Int)<=(k:Int))=false:=decide_eq_false (by omega)
  have e3:decide (holds < -1)=false:=decide_eq_false (by omega)
  have e4:decide ((parts.length:Int)<=holds)=false:=decide_eq_false (by omega)
  simp only [a0f,j6,TT,II,OA,OB,OC,MM,LL,VV,FF,MG,VG,FG]
  simp only [Wk.c,Wk.enc,Am.c,Am.enc,ams,wls,pts,sls,gts,lks,rts,sns,bqs,rc,sb,ints,c6V,c6Z] at hb1 hb2 h3 hR h4 h5 hrr ⊢
  (repeat first|refine uA ?_|(refine uK ?_ ?_;focus first|omega|(intros;simp_all<;>omega))|simp (disch:=omega) only [go_sem,Nat.reduceBEq,Nat.reduceAdd]|(refine uD h0 ?_ ?_ ?_;exact tz hw;exact rfl))
  refine S.cond rfl (fun hc=>by simp at hc) (fun hc=>?_)
  (repeat first|refine uA ?_|(refine uK ?_ ?_;focus first|omega|(intros;simp_all<;>omega))|simp (disch:=omega) only [go_sem,Nat.reduceBEq,Nat.reduceAdd,c6F,e1,e2,e3,e4]|(refine uD hb1 ?_ ?_ ?_;exact tz hw;exact rfl))
  refine S.cond rfl (fun hc=>by simp at hc) (fun hc=>?_)
  (repeat first|refine uA ?_|(refine uK ?_ ?_;focus first|omega|(intros;simp_all<;>omega))|simp (disch:=omega) only [go_sem,Nat.reduceBEq,Nat.reduceAdd,decide_true]|(refine uB h3 ?_ ?_;exact rfl)|(refine uD hb2 ?_ ?_ ?_;exact tz hw;exact rfl))
  refine S.cond rfl (fun hc=>by simp at hc) (fun hc=>?_)
  clear h0 hb1 hb2 h3
  (repeat first|refine uA ?_|(refine uK ?_ ?_;focus first|omega|(intros;simp_all<;>omega))|simp (disch:=omega) only [go_sem,Nat.reduceBEq,Nat.reduceAdd,c6F,c6P,ga,c6G,c6I,Am.enc,lks,sb]|(refine uD hR ?_ ?_ ?_;exact tz hw;exact rfl))
  clear hR
  (repeat first|refine uA ?_|(refine uK ?_ ?_;focus first|omega|(intros;simp_all<;>omega))|simp (disch:=omega) only [go_sem,Nat.reduceBEq,Nat.reduceAdd]|(refine uB h4 ?_ ?_;exact rfl)|(refine uE h5 ?_ ?_ ?_ ?_;exact tz hw;exact rfl;focus (repeat' first|exact j5.nil|exact Imp.refl rfl|exact Imp.D8|exact Imp.fbx rfl rfl (j5.refl rfl) rfl rfl|refine Imp.clo ?_|exact Imp.frz rfl rfl rfl|(refine Imp.M8 rfl rfl ?_ ?_;(focus ((try simp only [c6M]);omega));(focus first|rfl|assumption))|refine Imp.agg ?_|refine j5.cons ?_ ?_);done))
  refine S.cond rfl (fun hc=>?_) (fun hc=>?_)
  · have hs:sL.length=0 \/ e=0:=by
      rcases hcs with h|h|h
      · exact .inl (by rw [h.1];rfl)
      · exact .inr h.2.2.2.2.2.2
      · exact .inl (by rw [h.2.2.2.2.1];rfl)
    clear hrr h5 hcs
    (repeat first|refine uA ?_|(refine uK ?_ ?_;focus first|omega|(intros;simp_all<;>omega))|simp (disch:=omega) only [go_sem,Nat.reduceBEq,c6F])
    refine S.done ?_
    simp only [l9,go_sem,Nat.reduceBEq]
    refine j4.out rfl (Imp.eq ?_ rfl) rfl
    rcases hs with h|h
    · simp [a7b,h]
    · by_cases h0:sL.length=0<;>simp [a7b,h,h0]
  have ha:=hA (by simpa using hc)
  clear h5 h4
  (repeat first|refine uA ?_|(refine uK ?_ ?_;focus first|omega|(intros;simp_all<;>omega))|simp (disch:=omega) only [go_sem,Nat.reduceBEq,Nat.reduceAdd,c6F])
  refine S.cond rfl (fun hc=>?_) (fun hc=>?_)
  · rcases hcs with ⟨rfl,rfl,h1,h2,h3⟩|⟨_,h1,h2,_⟩|⟨_,h1,h2,_⟩
    · obtain rfl:=h2 ha
      clear hrr
      (repeat first|refine uA ?_|(refine uK ?_ ?_;focus first|omega|(intros;simp_all<;>omega))|simp (disch:=omega) only [go_sem,Nat.reduceBEq,decide_true,List.length_nil,c6Z,Int.natCast_zero])
      exact S.done (j4.out rfl (Imp.refl rfl) rfl)
    · exfalso
      simp [h1,h2] at hc
    · exfalso
      simp [h1,h2] at hc
  rcases hcs with ⟨_,_,_,_,h⟩|⟨_,h1,h2,hf,rfl,rfl,rfl⟩|⟨_,h1,h2,hf,rfl,rfl,rfl⟩
  · exfalso
    have h:=h ha
    by_cases k1:q.length=links.length<;>by_cases k2:u.length=links.length<;>simp [k1,k2] at hc h<;>omega
  · have h6:=hrr ha h1 h2
    rw [if_pos hf] at h6
    have h7:=b4C sL (by have:=hrl h1 h2;have:=hn3 ha;omega)
    clear hrr
    simp only [sns] at h6 h7
    (repeat first|refine uA ?_|(refine uK ?_ ?_;focus first|omega|(intros;simp_all<;>omega))|simp (disch:=omega) only [go_sem,Nat.reduceBEq,Nat.reduceAdd]|(refine uD h6 ?_ ?_ ?_;exact tz hw;exact rfl))
    refine S.cond rfl (fun hc=>by simp at hc) (fun hc=>?_)
    (repeat first|refine uA ?_|(refine uK ?_ ?_;focus first|omega|(intros;simp_all<;>omega))|simp (disch:=omega) only [go_sem,Nat.reduceBEq,decide_true]|(refine uB h7 ?_ ?_;exact rfl))
    exact S.done (j4.out rfl (Imp.refl rfl) rfl)
  · have h6:=hrr ha h1 h2
    rw [if_neg (by rw [hf];decide)] at h6
    clear hrr
    (repeat first|refine uA ?_|(refine uK ?_ ?_;focus first|omega|(intros;simp_all<;>omega))|simp (disch:=omega) only [go_sem,Nat.reduceBEq,Nat.reduceAdd]|(refine uD h6 ?_ ?_ ?_;exact tz hw;exact rfl))
    refine S.cond rfl (fun hc=>?_) (fun hc=>by simp at hc)
    (repeat first|refine uA ?_|(refine uK ?_ ?_;focus first|omega|(intros;simp_all<;>omega))|simp (disch:=omega) only [go_sem,Nat.reduceBEq,decide_true,List.length_nil,Int.natCast_zero])
    exact S.done (j4.out rfl (Imp.refl rfl) rfl)
open Go Go.RowKit Go.ChangeShapes Go.WideShapes Eng
theorem c0O {H:Type} {l:List (DataW H)} (hk:Rows.uptoSmall H l=true):Rows.uptoBulkAll l<=1048576:=of_decide_eq_true hk
theorem c1t {H:Type} (l r:List (DataW H)):Rows.uptoBulkAll (l++r)=Rows.uptoBulkAll l+Rows.uptoBulkAll r:=by
 induction l with
 | nil=>simp [Rows.uptoBulkAll]
 | cons x l ih=>simp only [List.cons_append,Rows.uptoBulkAll,ih];omega
def noB:Nat->Prop:=fun _=>False
section
variable {H:Type} {enc:TypeId × Value->H} {P:Program} {W:World}
def Opens (enc:TypeId × Value->H) (P:Program) (W:World) (t:TypeId) {α:Type} (tc:α->List C) (ok:α->Prop) (ms:α->Nat):Prop:=
 ∀ (fuel:Nat) (cs:List Value) (x:DataW H × List MemPlace),DataW.trod enc P W 0 (fun _=>true) true fuel t cs=some x->∃ a:α,FzL W noB (tc a) cs/\(∀ u ∈ cs,u.oneCell'=true)/\ok a/\ms a<=Rows.uptoBulk x.1
def I64 (n:Int):Prop:=-9223372036854775808<=n/\n<=9223372036854775807
theorem b6s {t:TypeId} (ht:P.underlying t=some .bool):Opens enc P W t (fun b:Bool=>[.v (.bool b)]) (fun _=>True) fun _=>1:=by
 intro fuel cs x h
 obtain ⟨b,rfl,rfl⟩:=DataW.trod_bool ht h
 exact ⟨b,by simp [FzL,Fz],by simp [Value.oneCell'],trivial,by simp [Rows.uptoBulk]⟩
theorem b7w {t:TypeId} (ht:P.underlying t=some .string):Opens enc P W t (fun s:ByteArray=>[.v (.string s)]) (fun s=>s.size<=9223372036854775807) fun s=>s.size+1:=by
 intro fuel cs x h
 obtain ⟨s,rfl,rfl,hw⟩:=DataW.trod_string ht h
 refine ⟨s,by simp [FzL,Fz],by simp [Value.oneCell'],hw,?_⟩
 have:s.data.toList.length=s.size:=by cases s;simp [ByteArray.size]
 simp only [Rows.uptoBulk,this]
 omega
theorem Opens.imp {t:TypeId} {α β:Type} {tc:α->List C} {ok:α->Prop} {ms:α->Nat} {tc':β->List C} {ok':β->Prop} {ms':β->Nat} (h:Opens enc P W t tc ok ms)
  (f:∀ a,ok a->∃ b,tc a=tc' b/\ok' b/\ms' b<=ms a):Opens enc P W t tc' ok' ms':=by
 intro fuel cs x hx
 obtain ⟨a,h0,h01,h1,h2⟩:=h fuel cs x hx
 obtain ⟨b,h3,h4,h5⟩:=f a h1
 exact ⟨b,by rw [<- h3];exact h0,h01,h4,c6L h5 h2⟩
theorem b7D {w:World} {O:Nat->Prop} {q:List C} {vs:List Value} {ad:Addr} {j:Nat} (hF:FzL w O q vs) (h1:∀ u ∈ vs,u.oneCell'=true) (hc:∀ i v,vs[i]?=some v->w.cell? (ad.add (j+i))=some v):FzA w O q ad j:=FzA.of hF h1 hc
theorem X3 {t e:TypeId} {α:Type} {tc:α->List C} {ok:α->Prop} {ms:α->Nat} {sz:Nat} (ht:P.underlying t=some (.slice e)) (hc:P.cellsOf e=sz) (hsz:0 < sz) (hlen:∀ a,(tc a).length=sz)
  (he:Opens enc P W e tc ok ms):Opens enc P W t (fun xs:List α=>[.sl sz (xs.map tc)]) (fun xs=>∀ a ∈ xs,ok a) fun xs=>1+(xs.map ms).sum:=by
 intro fuel cs x h
 rcases Deep.open_slice ht h with ⟨rfl,rfl⟩|⟨a,len,cap,m,n,D,Pl,rfl,_,hl,hm,hmm,rfl,hx⟩
 ·refine ⟨[],?_,by simp [Value.oneCell'],(fun a ha=>by cases ha),by simp [Rows.uptoBulk]⟩
  simp only [FzL,Fz]
  exact ⟨_,_,rfl,⟨none,0,rfl,c6N _,c6K _,fun h=>by simp at h⟩,rfl⟩
 ·have hlm:len<=m:=by rw [hmm];split<;>omega
  have key:∀ i,i < len->∃ (y:α) (vs:List Value),W.cells? 0 (a.add (i*sz)) sz=some vs/\FzL W noB (tc y) vs/\(∀ u ∈ vs,u.oneCell'=true)/\ok y/\ms y<=Rows.uptoBulk (D i):=by
   intro i hi
   obtain ⟨cs',h1,h2⟩:=hx i (by omega)
   obtain ⟨y,h31,h32,h3,h4⟩:=he _ _ _ h2
   rw [hc] at h1
   exact ⟨y,cs',h1,h31,h32,h3,h4⟩
  have build:∀ k,k<=len->∃ xs:List α,xs.length=k/\(∀ i y,xs[i]?=some y->∃ vs,W.cells? 0 (a.add (i*sz)) sz=some vs/\FzL W noB (tc y) vs/\(∀ u ∈ vs,u.oneCell'=true)/\ok y)/\(xs.map ms).sum<=Rows.uptoBulkAll ((List.range k).map D):=by
   intro k
   induction k with
   | zero=>intro _;exact ⟨[],rfl,(fun i y h=>by simp at h),by simp⟩
   | succ k ih=>
    intro hk
    obtain ⟨xs,h1,h2,h3⟩:=ih (by omega)
    obtain ⟨y,vs,h4,h41,h42,h5,h6⟩:=key k (by omega)
    refine ⟨xs++[y],by simp [h1],fun i z hz=>?_,?_⟩
    ·rcases c7a i xs.length with hlt|hge
     ·rw [c6R hlt] at hz
      exact h2 i z hz
     ·rw [c6W hge] at hz
      have:i-xs.length=0:=by
       rcases c7d (i-xs.length) with h0|h0
       ·exact h0
       ·obtain ⟨d,hd⟩:∃ d,i-xs.length=d+1:=⟨i-xs.length-1,by omega⟩
        rw [hd] at hz;simp at hz
      rw [this] at hz
      simp at hz
      subst hz
      have:i=k:=by omega
      subst this
      exact ⟨vs,h4,h41,h42,h5⟩
    ·rw [c7t,List.sum_append,List.range_succ,c7t,c1t]
     simp only [c6V,c6Z,List.sum_cons,List.sum_nil,Rows.uptoBulkAll]
     omega
  obtain ⟨xs,h1,h2,h3⟩:=build len (c6N _)
  have hcell:∀ (i:Nat) (y:α),xs[i]?=some y->(tc y).length=sz/\FzA W noB (tc y) a (i*sz):=by
   intro i y hy
   obtain ⟨vs,h4,h41,h42,_⟩:=h2 i y hy
   obtain ⟨_,h5,h6⟩:=World.cells?_some h4
   refine ⟨hlen _,b7D h41 h42 fun j v hv=>?_⟩
   have hj:j < sz:=by
    have:=(c6J.1 hv).1
    rwa [h5] at this
   have h7:=h6 j hj
   rw [hv,Deep.add_add] at h7
   exact h7
  refine ⟨xs,?_,by simp [Value.oneCell'],fun y hy=>?_,?_⟩
  ·simp only [FzL]
   refine ⟨_,_,rfl,?_,rfl⟩
   simp only [Fz]
   refine ⟨some a,cap,by simp [h1],by simp;omega,hm,fun h0=>⟨a,rfl,?_,(fun h=>h),FzE.of fun k q hq=>?_⟩⟩
   ·have hi:0 < xs.length:=by simpa using h0
    obtain ⟨hq1,hq2⟩:=hcell 0 xs[0] (c6E hi)
    have h9:0 < (tc xs[0]).length:=by omega
    match htc:tc xs[0],h9,hq2 with
    | c::cs,_,hq2=>
     simp only [FzA] at hq2
     obtain ⟨⟨v,hv,_⟩,_⟩:=hq2
     have h10:=block_lt_of_cell hv
     rwa [add_block] at h10
   ·rw [c6P] at hq
    obtain ⟨y,hy,rfl⟩:=Option.map_eq_some_iff.1 hq
    rw [c7l];exact hcell k y hy
  ·obtain ⟨i,hi⟩:=List.mem_iff_getElem?.1 hy
   exact (h2 i y hi).choose_spec.2.2.2
  ·simp only [Rows.uptoBulk]
   omega
def V4 (P:Program):List Field->Nat->Option Nat
 | [],n=>some n
 | f::fs,n=>if f.offset=n then V4 P fs (n+P.cellsOf f.type) else none
def Parts (enc:TypeId × Value->H) (P:Program) (W:World) (n:Nat):List TypeId->List (List Value)->List (DataW H × List MemPlace)->Prop
 | [],cs,ys=>cs=[]/\ys=[]
 | f::fs,cs,ys=>∃ c cr y yr,cs=c::cr/\ys=y::yr/\DataW.trod enc P W 0 (fun _=>true) true n f c=some y/\Parts enc P W n fs cr yr
theorem b4r {t:TypeId} {fs:Array Field} {fuel:Nat} {cs:List Value} {x:DataW H × List MemPlace} (hu:P.underlying t=some (.struct fs)) (hc:V4 P fs.toList 0=some (P.cellsOf t)) (h:DataW.trod enc P W 0 (fun _=>true) true fuel t cs=some x) :
    ∃ (n:Nat) (ps:List (List Value)) (ys:List (DataW H × List MemPlace)),cs=ps.flatten/\x=(.agg (ys.map (·.1)),ys.flatMap (·.2))/\Parts enc P W n (fs.toList.map (·.type)) ps ys:=by
  obtain ⟨xs,n,rfl,rfl,hlen,hxl,hf⟩:=DataW.trod_struct hu h
  have gen:∀ (l:List Field) (off tot:Nat) (zs:List (DataW H × List MemPlace)),V4 P l off=some tot->zs.length=l.length->(∀ (i:Nat) (f:Field),l[i]?=some f->DataW.trod enc P W 0 (fun _=>true) true n f.type ((cs.drop f.offset).take (P.cellsOf f.type))=zs[i]?) ->
      off<=tot/\∃ ps,(cs.drop off).take (tot-off)=ps.flatten/\Parts enc P W n (l.map (·.type)) ps zs:=by
    intro l
    induction l with
    | nil=>
      intro off tot zs hc hl _
      simp only [V4,Option.some.injEq] at hc
      subst hc
      have:zs=[]:=List.length_eq_zero_iff.1 hl
      subst this
      exact ⟨c6N _,[],by simp,rfl,rfl⟩
    | cons f l ih=>
      intro off tot zs hc hl hf
      simp only [V4] at hc
      split at hc
      · rename_i ho
        cases zs with
        | nil=>simp at hl
        | cons z zs=>
          obtain ⟨h1,ps,h2,h3⟩:=ih _ tot zs hc (by simpa using hl) fun i g hg=>by have:=hf (i+1) g (by simpa using hg);simpa using this
          have h0:=hf 0 f rfl
          rw [ho] at h0
          refine ⟨by omega,((cs.drop off).take (P.cellsOf f.type))::ps,?_,_,_,_,_,rfl,rfl,h0,h3⟩
          rw [List.flatten_cons,<- h2,<- List.drop_drop]
          have e:tot-off=P.cellsOf f.type+(tot-(off+P.cellsOf f.type)):=by omega
          rw [e,List.take_add]
      · cases hc
  obtain ⟨_,ps,h2,h3⟩:=gen fs.toList 0 _ xs hc (by simpa using hxl) fun i f hi=>hf i f (by simpa using hi)
  refine ⟨n,ps,xs,?_,rfl,h3⟩
  rw [<- h2,Nat.sub_zero,List.drop_zero,<- hlen,c6X]
theorem FzL.app {w:World} {O:Nat->Prop}:∀ {cs ds:List C} {vs us:List Value},FzL w O cs vs->FzL w O ds us->FzL w O (cs++ds) (vs++us)
 | [],ds,vs,us,h,k=>by simp only [FzL] at h;subst h;simpa using k
 | c::cs,ds,vs,us,h,k=>by
  simp only [FzL] at h
  obtain ⟨y,ys,rfl,h1,h2⟩:=h
  exact ⟨y,ys++us,rfl,h1,FzL.app h2 k⟩
def b0o (enc:TypeId × Value->H) (P:Program) (W:World) (ts:List TypeId) {α:Type} (tc:α->List C) (ok:α->Prop) (ms:α->Nat):Prop:=
 ∀ (n:Nat) (ps:List (List Value)) (ys:List (DataW H × List MemPlace)),Parts enc P W n ts ps ys->∃ a:α,FzL W noB (tc a) ps.flatten/\(∀ u ∈ ps.flatten,u.oneCell'=true)/\ok a/\ms a<=Rows.uptoBulkAll (ys.map (·.1))
theorem Q5:b0o enc P W [] (fun _:Unit=>[]) (fun _=>True) fun _=>0:=by
 rintro n ps ys ⟨rfl,rfl⟩
 exact ⟨(),by simp [FzL],by simp,trivial,c6K _⟩
theorem u6 {t:TypeId} {ts:List TypeId} {α β:Type} {tc:α->List C} {ok:α->Prop} {ms:α->Nat} {tc':β->List C} {ok':β->Prop} {ms':β->Nat} (h:Opens enc P W t tc ok ms) (h':b0o enc P W ts tc' ok' ms') :
  b0o enc P W (t::ts) (fun p:α × β=>tc p.1++tc' p.2) (fun p=>ok p.1/\ok' p.2) fun p=>ms p.1+ms' p.2:=by
 rintro n ps ys ⟨c,cr,y,yr,rfl,rfl,h1,h2⟩
 obtain ⟨a,a1,a2,a3,a4⟩:=h _ _ _ h1
 obtain ⟨b,b1,b2,b3,b4⟩:=h' _ _ _ h2
 refine ⟨(a,b),by rw [List.flatten_cons];exact FzL.app a1 b1,fun u hu=>?_,⟨a3,b3⟩,?_⟩
 ·rw [List.flatten_cons] at hu
  rcases List.mem_append.1 hu with hu|hu
  ·exact a2 u hu
  ·exact b2 u hu
 ·simp only [c6V,Rows.uptoBulkAll]
  omega
theorem K8 {t:TypeId} {fs:Array Field} {ts:List TypeId} {α:Type} {tc:α->List C} {ok:α->Prop} {ms:α->Nat} (hu:P.underlying t=some (.struct fs)) (hts:fs.toList.map (·.type)=ts) (hc:V4 P fs.toList 0=some (P.cellsOf t)) (h:b0o enc P W ts tc ok ms) :
  Opens enc P W t tc ok fun a=>ms a+1:=by
 intro fuel cs x hx
 obtain ⟨n,ps,ys,rfl,rfl,hp⟩:=b4r hu hc hx
 rw [hts] at hp
 obtain ⟨a,a1,a2,a3,a4⟩:=h _ _ _ hp
 exact ⟨a,a1,a2,a3,by simp only [Rows.uptoBulk];omega⟩
theorem c0z {f:Func} {s:ChangeSpec} {apart fresh handsOn again:Bool} {W':World} {args:Array Value} {ds gs:List (DataW H)} {before:List MemPlace} {tb:TypeId} (hl:laidOutB P=true) (hpar:∀ t ∈ f.params.toList,P.readableRec t=true/\t < P.types.size)
  (hrt:f.resultTypes=#[tb]) (htb:P.underlying tb=some .bool) (hv:s.vars=[]) (hfn:s.fn H (ds++gs)={ results:=[.lit (.bool true)],args:=ds }) (hW:DataW.Whole enc P f.params.toList s.vars apart W args.toList ds gs before) (hb:Below W.heap.size W W') :
  s.post enc P f apart fresh handsOn again W args (.bool true) W':=by
 have hlt:∀ p ∈ before,p.block < W.heap.size:=fun p hp=>hW.lt p hp
 obtain ⟨p,q,hA,hV,hps,hz,hn⟩:=id hW
 rw [hv] at hV
 obtain ⟨rfl,rfl⟩:=trodVars_none hV
 rw [List.append_nil] at hps
 subst hps
 have all:∀ (sp:Nat->Bool) (ts:List TypeId) (vs:List Value) (es:List (DataW H)) (pl:List MemPlace),(∀ t ∈ ts,P.readableRec t=true/\t < P.types.size)->(∀ x ∈ pl,x.block < W.heap.size/\sp x.block=true)->DataW.TrodAll enc P W 0 (fun _=>true) true ts vs es pl->DataW.TrodAll enc P W' 0 sp true ts vs es pl:=by
  intro sp ts
  induction ts with
  | nil=>
   intro vs es pl _ _ h
   cases vs<;>cases es<;>simp only [DataW.TrodAll] at h ⊢<;>exact h
  | cons t ts ih=>
   intro vs es pl hts hpl h
   cases vs<;>cases es<;>simp only [DataW.TrodAll] at h ⊢
   obtain ⟨p1,p2,h1,h2,rfl⟩:=h
   refine ⟨p1,p2,?_,ih _ _ _ (fun t ht=>hts t (List.mem_cons_of_mem _ ht)) (fun x hx=>hpl x (List.mem_append_right _ hx)) h2,rfl⟩
   exact WideElems.Trod_stays hl (hts t (List.mem_cons_self ..)).1 (hts t (List.mem_cons_self ..)).2 h1 (fun x hx=>hb.same (hpl x (List.mem_append_left _ hx)).1) fun x hx=>(hpl x (List.mem_append_left _ hx)).2
 have hres:∀ (b:Nat) (sp:Nat->Bool) (hd:Bool),DataW.TrodAll enc P W' b sp hd f.resultTypes.toList ((Value.bool true).resultList f.resultTypes.size) (s.fn H (ds++[])).results []:=by
  intro b sp hd
  rw [hrt,hfn]
  exact trodAll_cons_mk (shut_bool htb true) trodAll_mk0
 have hargs:∀ sp:Nat->Bool,(∀ p' ∈ before,sp p'.block=true)->DataW.TrodAll enc P W' 0 sp true f.params.toList args.toList (s.fn H (ds++[])).args before:=fun sp hsp=>by
  rw [hfn]
  exact all sp _ _ _ _ hpar (fun x hx=>⟨hlt x hx,hsp x hx⟩) hA
 have hvars:∀ sp:Nat->Bool,DataW.TrodVars enc P W' sp s.vars (s.fn H (ds++[])).vars []:=fun sp=>by rw [hv,hfn];rfl
 have hold:∀ p' ∈ before,(fun b=>decide (b < W.heap.size)) p'.block=true:=fun p' hp=>by simpa using hlt p' hp
 refine ⟨ds,[],before,[],before,[],hW,hres _ _ _,hargs _ hold,hvars _,World.keptBut_mono (fun p' hp=>⟨hp,?_⟩) (hb.frame (· ∈ before)),fun _=>⟨ok_one hrt rfl (okWide_bool_mk htb _),_,_,([]++before)++[],⟨[]++before,[],trodAll_append (hargs _ (fun _ _=>rfl)) (hres _ _ _),hvars _,rfl,?_,?_⟩,?_⟩⟩
 ·exact Or.inr (by simpa using hp)
 ·intro b off hp
  have hin:MemPlace.cell b off ∈ before:=by simpa using hp
  rw [hb.frozen (hlt _ hin)]
  exact hz b off hin
 ·intro ha
  have:=hn ha
  simpa using this
 ·intro p' hp _
  simpa using hp
end
open Go Go.RowKit Go.ChangeShapes Go.WideShapes Go.ChangeAt Eng
set_option maxRecDepth 10000
theorem c0t:ownKnob Tryz.prog.godebug=none:=by kernel_rfl
theorem c0U:laidOutB Tryz.prog=true:=by kernel_rfl
theorem gDb:Tryz.prog.globalNamed "math/bits.deBruijn64tab" = some 3:=by kernel_rfl
theorem c2S:(Tryz.prog.globals[3]?).map (·.type)=some 289:=by kernel_rfl
theorem c0r:Tryz.prog.cellsOf 289=64:=by kernel_rfl
theorem c2q:Tryz.prog.cellsOf 5=1:=by kernel_rfl
theorem c0X:Tryz.prog.underlying 289=some (.array 64 5):=by kernel_rfl
theorem c3L:Tryz.prog.underlying 5=some (.int .u8):=by kernel_rfl
theorem c3q:(Rows.laid_math_bits_deBruijn64tab:DataW Unit)=Lib.tabData .u8 (Lib.deBruijn64tab.map fun n:Nat=>(n:Int)):=by rfl
theorem c5p {W:World} {rest:List (String × DataW Unit)} (h:laidMet Tryz.prog (("math/bits.deBruijn64tab",Rows.laid_math_bits_deBruijn64tab)::rest) W):Wz W:=by
 rw [c3q] at h
 have ht:=Lib.tabIs_of_head gDb c2S c0X c3L c2q c0r h
 intro j hj
 have:=ht.cell gDb j (by rw [c6F];exact hj)
 rw [this]
 congr 2
 rw [c6T,c6T,c6P,c6E hj]
 rfl
section
variable {H:Type} {enc:TypeId × Value->H} {W:World}
end
noncomputable def laidWorld (os:Os):World:=World.doorLaid Tryz.prog 400 os
theorem b5g {α:Type} {f:α->Nat}:∀ {l:List α} {x:α},x ∈ l->f x<=(l.map f).sum
 | y::l,x,h=>by
  rw [c6V,List.sum_cons]
  rcases List.mem_cons.1 h with rfl|h
  ·omega
  ·have:=b5g (f:=f) h;omega
theorem b5c {α:Type} {f:α->Nat} (hf:∀ x,1<=f x):∀ (l:List α),l.length<=(l.map f).sum
 | []=>c6N _
 | y::l=>by
  have h1:=hf y
  have h2:=b5c hf l
  rw [c6V,List.sum_cons,c7g];omega
def rtM (a:Nm.Rt):Nat:=3+a.num.length+a.den.length
def vtM (v:Vt):Nat:=rtM v.x+rtM v.y
def frM (f:Fr):Nat:=rtM f.x+rtM f.y+rtM f.t
def lsM {α:Type} (f:α->Nat) (l:List α):Nat:=1+(l.map f).sum
def lkM (l:Lk):Nat:=rtM l.length+rtM l.low+rtM l.high+rtM l.speed+rtM l.brake+lsM vtM l.shape
def amM (a:Am):Nat:=a.name.length+frM a.base+lsM lkM a.links
def ptM (p:Pt):Nat:=p.name.length+lsM vtM p.shape+frM p.grasp
def slM (s:Sl):Nat:=s.name.length+frM s.frame+rtM s.within
def gtM (g:Gt):Nat:=g.name.length+vtM g.low+vtM g.high
def wkM (w:Wk):Nat:=lsM amM w.arms+lsM (lsM vtM) w.walls+lsM ptM w.parts+lsM slM w.slots+lsM gtM w.gates+rtM w.walk
theorem a2n {a:Nm.Rt} {k:Nat} (h:rtM a<=k):Rb k a:=by unfold rtM at h;exact ⟨by omega,by omega⟩
theorem c0m {a:Vt} {k:Nat} (h:vtM a<=k):Vb k a:=by unfold vtM at h;exact ⟨a2n (by omega),a2n (by omega)⟩
theorem c0c {a:Fr} {k:Nat} (h:frM a<=k):Fb k a:=by unfold frM at h;exact ⟨a2n (by omega),a2n (by omega),a2n (by omega)⟩
theorem a4N {α:Type} {f:α->Nat} {l:List α} {k:Nat} (hf:∀ x,1<=f x) (h:lsM f l<=k):l.length<=k/\∀ x ∈ l,f x<=k:=by
 unfold lsM at h
 have:=b5c hf l
 exact ⟨by omega,fun x hx=>by have:=b5g (f:=f) hx;omega⟩
theorem a4r (a:Nm.Rt):1<=rtM a:=by unfold rtM;omega
theorem b5F (a:Vt):1<=vtM a:=by have:=a4r a.x;unfold vtM;omega
theorem b0U (a:Fr):1<=frM a:=by have:=a4r a.x;unfold frM;omega
theorem c2T {α:Type} (f:α->Nat) (l:List α):1<=lsM f l:=by unfold lsM;omega
theorem c2i (a:Lk):1<=lkM a:=by have:=a4r a.length;unfold lkM;omega
theorem c3i (a:Am):1<=amM a:=by have:=b0U a.base;unfold amM;omega
theorem c3o (a:Pt):1<=ptM a:=by have:=b0U a.grasp;unfold ptM;omega
theorem c2D (a:Sl):1<=slM a:=by have:=b0U a.frame;unfold slM;omega
theorem c3f (a:Gt):1<=gtM a:=by have:=b5F a.low;unfold gtM;omega
theorem b6N {l:List Vt} {k:Nat} (h:lsM vtM l<=k):Vbs k l:=by
 obtain ⟨h1,h2⟩:=a4N b5F h
 exact ⟨h1,fun x hx=>c0m (h2 x hx)⟩
theorem c5V {w:Wk} {k:Nat} (h:wkM w<=k):Wb k w:=by
 unfold wkM at h
 obtain ⟨a1,a2⟩:=a4N c3i (show lsM amM w.arms<=k by omega)
 obtain ⟨b1,b2⟩:=a4N (c2T vtM) (show lsM (lsM vtM) w.walls<=k by omega)
 obtain ⟨c1,c2⟩:=a4N c3o (show lsM ptM w.parts<=k by omega)
 obtain ⟨d1,d2⟩:=a4N c2D (show lsM slM w.slots<=k by omega)
 obtain ⟨e1,e2⟩:=a4N c3f (show lsM gtM w.gates<=k by omega)
 refine ⟨⟨a1,fun x hx=>?_⟩,⟨b1,fun x hx=>b6N (b2 x hx)⟩,⟨c1,fun x hx=>?_⟩,⟨d1,fun x hx=>?_⟩,⟨e1,fun x hx=>?_⟩,a2n (by omega)⟩
 ·have:=a2 x hx
  unfold amM at this
  obtain ⟨f1,f2⟩:=a4N c2i (show lsM lkM x.links<=k by omega)
  refine ⟨by omega,c0c (by omega),f1,fun l hl=>?_⟩
  have:=f2 l hl
  unfold lkM at this
  exact ⟨a2n (by omega),a2n (by omega),a2n (by omega),a2n (by omega),a2n (by omega),b6N (by omega)⟩
 ·have:=c2 x hx
  unfold ptM at this
  exact ⟨by omega,b6N (by omega),c0c (by omega)⟩
 ·have:=d2 x hx
  unfold slM at this
  exact ⟨by omega,c0c (by omega),a2n (by omega)⟩
 ·have:=e2 x hx
  unfold gtM at this
  exact ⟨by omega,c0m (by omega),c0m (by omega)⟩
section
variable {H:Type} {enc:TypeId × Value->H} {W:World}
theorem o_b:Opens enc Tryz.prog W 4 (fun b:Bool=>[.v (.bool b)]) (fun _=>True) fun _=>1:=b6s Tryz.underlying4
theorem o_s:Opens enc Tryz.prog W 9 (fun l:List UInt8=>[sb l]) (fun _=>True) fun l=>l.length+1:=
 (b7w Tryz.underlying9).imp fun s _=>⟨s.data.toList,by simp only [sb,c2Z],trivial,by have h:s.data.toList.length=s.size:=(by cases s;simp [ByteArray.size]);omega⟩
theorem b9b:∃ fs,Tryz.prog.underlying 28=some (.struct fs)/\fs.toList.map (·.type)=[4,9,9]/\V4 Tryz.prog fs.toList 0=some (Tryz.prog.cellsOf 28):=⟨_,Tryz.underlying28,rfl,by kernel_rfl⟩
theorem c0e:Tryz.prog.cellsOf 28=3:=by kernel_rfl
theorem a3r:Opens enc Tryz.prog W 28 rcs (fun _=>True) rtM:=by
 obtain ⟨fs,h1,h2,h3⟩:=b9b
 refine (K8 h1 h2 h3 (u6 o_b (u6 o_s (u6 o_s Q5)))).imp ?_
 rintro ⟨a,b,c,_⟩ hok
 exact ⟨⟨a,b,c⟩,rfl,trivial,by simp only [rtM];omega⟩
theorem b9r:∃ fs,Tryz.prog.underlying 40=some (.struct fs)/\fs.toList.map (·.type)=[28,28]/\V4 Tryz.prog fs.toList 0=some (Tryz.prog.cellsOf 40):=⟨_,Tryz.underlying40,rfl,by kernel_rfl⟩
theorem c0s:Tryz.prog.cellsOf 40=6:=by kernel_rfl
theorem b5Y:Opens enc Tryz.prog W 40 Vt.enc (fun _=>True) vtM:=by
 obtain ⟨fs,h1,h2,h3⟩:=b9r
 refine (K8 h1 h2 h3 (u6 a3r (u6 a3r Q5))).imp ?_
 rintro ⟨a,b,_⟩ hok
 exact ⟨⟨a,b⟩,rfl,trivial,by simp only [vtM];omega⟩
theorem b9z:∃ fs,Tryz.prog.underlying 44=some (.struct fs)/\fs.toList.map (·.type)=[4,28]/\V4 Tryz.prog fs.toList 0=some (Tryz.prog.cellsOf 44):=⟨_,Tryz.underlying44,rfl,by kernel_rfl⟩
theorem c6h:Opens enc Tryz.prog W 44 (fun p:Bool × Nm.Rt=>.v (.bool p.1)::rcs p.2) (fun _=>True) fun p=>rtM p.2:=by
 obtain ⟨fs,h1,h2,h3⟩:=b9z
 refine (K8 h1 h2 h3 (u6 o_b (u6 a3r Q5))).imp ?_
 rintro ⟨a,b,_⟩ hok
 exact ⟨⟨a,b⟩,rfl,trivial,by simp only;omega⟩
theorem b8E:∃ fs,Tryz.prog.underlying 46=some (.struct fs)/\fs.toList.map (·.type)=[40,44]/\V4 Tryz.prog fs.toList 0=some (Tryz.prog.cellsOf 46):=⟨_,Tryz.underlying46,rfl,by kernel_rfl⟩
theorem c0n:Opens enc Tryz.prog W 46 Fr.enc (fun _=>True) frM:=by
 obtain ⟨fs,h1,h2,h3⟩:=b8E
 refine (K8 h1 h2 h3 (u6 b5Y (u6 c6h Q5))).imp ?_
 rintro ⟨⟨x,y⟩,⟨h,t⟩,_⟩ hok
 exact ⟨⟨x,y,h,t⟩,rfl,trivial,by simp only [frM,vtM];omega⟩
theorem b6T:Opens enc Tryz.prog W 60 (fun l=>[vts l]) (fun _=>True) (lsM vtM):=
 (X3 Tryz.underlying60 c0s (by decide) (fun _=>rfl) b5Y).imp fun l hl=>⟨l,rfl,trivial,c6N _⟩
theorem b7Q:Tryz.prog.cellsOf 60=1:=by kernel_rfl
theorem b9j:∃ fs,Tryz.prog.underlying 95=some (.struct fs)/\fs.toList.map (·.type)=[28,28,28,28,28,60]/\V4 Tryz.prog fs.toList 0=some (Tryz.prog.cellsOf 95):=⟨_,Tryz.underlying95,rfl,by kernel_rfl⟩
theorem b9H:Tryz.prog.cellsOf 95=16:=by kernel_rfl
theorem c6g:Opens enc Tryz.prog W 95 Lk.enc (fun _=>True) lkM:=by
 obtain ⟨fs,h1,h2,h3⟩:=b9j
 refine (K8 h1 h2 h3 (u6 a3r (u6 a3r (u6 a3r (u6 a3r (u6 a3r (u6 b6T Q5))))))).imp ?_
 rintro ⟨a,b,c,d,e,f,_⟩ hok
 exact ⟨⟨a,b,c,d,e,f⟩,rfl,trivial,by simp only [lkM];omega⟩
theorem c5f:Opens enc Tryz.prog W 47 (fun l=>[lks l]) (fun _=>True) (lsM lkM):=
 (X3 Tryz.underlying47 b9H (by decide) (fun _=>rfl) c6g).imp fun l hl=>⟨l,rfl,trivial,c6N _⟩
theorem b9k:∃ fs,Tryz.prog.underlying 49=some (.struct fs)/\fs.toList.map (·.type)=[9,46,47]/\V4 Tryz.prog fs.toList 0=some (Tryz.prog.cellsOf 49):=⟨_,Tryz.underlying49,rfl,by kernel_rfl⟩
theorem c0A:Tryz.prog.cellsOf 49=12:=by kernel_rfl
theorem c6t:Opens enc Tryz.prog W 49 Am.enc (fun _=>True) amM:=by
 obtain ⟨fs,h1,h2,h3⟩:=b9k
 refine (K8 h1 h2 h3 (u6 o_s (u6 c0n (u6 c5f Q5)))).imp ?_
 rintro ⟨a,b,c,_⟩ hok
 exact ⟨⟨a,b,c⟩,rfl,trivial,by simp only [amM];omega⟩
theorem c5q:Opens enc Tryz.prog W 22 (fun l=>[ams l]) (fun _=>True) (lsM amM):=
 (X3 Tryz.underlying22 c0A (by decide) (fun _=>rfl) c6t).imp fun l hl=>⟨l,rfl,trivial,c6N _⟩
theorem c5P:Opens enc Tryz.prog W 23 (fun l=>[wls l]) (fun _=>True) (lsM (lsM vtM)):=
 (X3 Tryz.underlying23 b7Q (by decide) (fun _=>rfl) b6T).imp fun l hl=>⟨l,rfl,trivial,c6N _⟩
theorem b7o:∃ fs,Tryz.prog.underlying 77=some (.struct fs)/\fs.toList.map (·.type)=[9,60,46]/\V4 Tryz.prog fs.toList 0=some (Tryz.prog.cellsOf 77):=⟨_,Tryz.underlying77,rfl,by kernel_rfl⟩
theorem b9E:Tryz.prog.cellsOf 77=12:=by kernel_rfl
theorem c6c:Opens enc Tryz.prog W 77 Pt.enc (fun _=>True) ptM:=by
 obtain ⟨fs,h1,h2,h3⟩:=b7o
 refine (K8 h1 h2 h3 (u6 o_s (u6 b6T (u6 c0n Q5)))).imp ?_
 rintro ⟨a,b,c,_⟩ hok
 exact ⟨⟨a,b,c⟩,rfl,trivial,by simp only [ptM];omega⟩
theorem c5N:Opens enc Tryz.prog W 24 (fun l=>[pts l]) (fun _=>True) (lsM ptM):=
 (X3 Tryz.underlying24 b9E (by decide) (fun _=>rfl) c6c).imp fun l hl=>⟨l,rfl,trivial,c6N _⟩
theorem b7C:∃ fs,Tryz.prog.underlying 103=some (.struct fs)/\fs.toList.map (·.type)=[9,46,28]/\V4 Tryz.prog fs.toList 0=some (Tryz.prog.cellsOf 103):=⟨_,Tryz.underlying103,rfl,by kernel_rfl⟩
theorem c1h:Tryz.prog.cellsOf 103=14:=by kernel_rfl
theorem c5S:Opens enc Tryz.prog W 103 Sl.enc (fun _=>True) slM:=by
 obtain ⟨fs,h1,h2,h3⟩:=b7C
 refine (K8 h1 h2 h3 (u6 o_s (u6 c0n (u6 a3r Q5)))).imp ?_
 rintro ⟨a,b,c,_⟩ hok
 exact ⟨⟨a,b,c⟩,rfl,trivial,by simp only [slM];omega⟩
theorem c5E:Opens enc Tryz.prog W 25 (fun l=>[sls l]) (fun _=>True) (lsM slM):=
 (X3 Tryz.underlying25 c1h (by decide) (fun _=>rfl) c5S).imp fun l hl=>⟨l,rfl,trivial,c6N _⟩
theorem b8p:∃ fs,Tryz.prog.underlying 42=some (.struct fs)/\fs.toList.map (·.type)=[40,40]/\V4 Tryz.prog fs.toList 0=some (Tryz.prog.cellsOf 42):=⟨_,Tryz.underlying42,rfl,by kernel_rfl⟩
theorem c5Y:Opens enc Tryz.prog W 42 (fun p:Vt × Vt=>p.1.enc++p.2.enc) (fun _=>True) fun p=>vtM p.1+vtM p.2:=by
 obtain ⟨fs,h1,h2,h3⟩:=b8p
 refine (K8 h1 h2 h3 (u6 b5Y (u6 b5Y Q5))).imp ?_
 rintro ⟨a,b,_⟩ hok
 exact ⟨⟨a,b⟩,rfl,trivial,by simp only;omega⟩
theorem b8j:∃ fs,Tryz.prog.underlying 107=some (.struct fs)/\fs.toList.map (·.type)=[9,42]/\V4 Tryz.prog fs.toList 0=some (Tryz.prog.cellsOf 107):=⟨_,Tryz.underlying107,rfl,by kernel_rfl⟩
theorem c0y:Tryz.prog.cellsOf 107=13:=by kernel_rfl
theorem c6x:Opens enc Tryz.prog W 107 Gt.enc (fun _=>True) gtM:=by
 obtain ⟨fs,h1,h2,h3⟩:=b8j
 refine (K8 h1 h2 h3 (u6 o_s (u6 c5Y Q5))).imp ?_
 rintro ⟨a,⟨b,c⟩,_⟩ hok
 exact ⟨⟨a,b,c⟩,rfl,trivial,by simp only [gtM];omega⟩
theorem c5r:Opens enc Tryz.prog W 26 (fun l=>[gts l]) (fun _=>True) (lsM gtM):=
 (X3 Tryz.underlying26 c0y (by decide) (fun _=>rfl) c6x).imp fun l hl=>⟨l,rfl,trivial,c6N _⟩
theorem b7u:∃ fs,Tryz.prog.underlying 30=some (.struct fs)/\fs.toList.map (·.type)=[22,23,24,25,26,28]/\V4 Tryz.prog fs.toList 0=some (Tryz.prog.cellsOf 30):=⟨_,Tryz.underlying30,rfl,by kernel_rfl⟩
theorem c6q:Opens enc Tryz.prog W 30 Wk.enc (fun _=>True) wkM:=by
 obtain ⟨fs,h1,h2,h3⟩:=b7u
 refine (K8 h1 h2 h3 (u6 c5q (u6 c5P (u6 c5N (u6 c5E (u6 c5r (u6 a3r Q5))))))).imp ?_
 rintro ⟨a,b,c,d,e,f,_⟩ hok
 exact ⟨⟨a,b,c,d,e,f⟩,rfl,trivial,by simp only [wkM];omega⟩
theorem c1J:Opens enc Tryz.prog W 31 (fun l=>[rts l]) (fun _=>True) (lsM rtM):=
 (X3 Tryz.underlying31 c0e (by decide) (fun _=>rfl) a3r).imp fun l hl=>⟨l,rfl,trivial,c6N _⟩
end
noncomputable def laidWorldU (os:Os):World:=World.laidAll Tryz.prog os Rows.guardRangesUptoRow.laid
theorem b8k (os:Os) (args:Array Value):laidMet Tryz.prog Rows.guardRangesUptoRow.laid ((laidWorldU os).forCall (fun _ _=>0) ⟨#[],args,[]⟩).memory:=
 laidMet_laidAll args (by kernel_rfl) (by kernel_rfl)
theorem b4I {H:Type} {enc:TypeId × Value->H} {C:Checked} {os:Os} {f:FuncId} {fn:Func} {s:OpenSpec} {conds:List PathCond} {apart:Bool} {laid:List (String × DataW Unit)} (modest:Bool) (w0:World) (args:Array Value) (hos:w0.os=os)
  (hv:(w0.forCall (fun _ _=>0) ⟨#[],args,[]⟩).variablesZipB C.prog=true)
  (hr:((w0.forCall (fun _ _=>0) ⟨#[],args,[]⟩).heap.toList.drop C.prog.globals.size).take ((begin C.prog (fun _ _=>0) default).world.heap.size-C.prog.globals.size) =
   (begin C.prog (fun _ _=>0) default).world.heap.toList.drop C.prog.globals.size)
  (hok:Input.okWideB C.prog (w0.forCall (fun _ _=>0) ⟨#[],args,[]⟩) f ⟨#[],args,[]⟩=true)
  (hrow:s.preRow enc C.prog fn conds apart laid (w0.forCall (fun _ _=>0) ⟨#[],args,[]⟩).memory args) :
  ∃ (w:World) (tape:Tape) (i:Input),w.os=os/\(w.forCall tape i).Shaped C.prog/\i.vars=[]/\Input.okWide C.prog (w.forCall tape i) .any w.heap.size f i /\
   s.preRow enc C.prog fn conds apart laid (w.forCall tape i).memory i.args/\({ modest:=modest }:Assume).holds C.prog (lone (Frame.enter C.prog f i.args .normal) [] (w.forCall tape i)):=
 ⟨w0,fun _ _=>0,⟨#[],args,[]⟩,hos,World.shaped_of_ZipB hv hr,(Input.okWide_of_okWideB (base:=0) hok).1,(Input.okWide_of_okWideB hok).2,hrow,by
  simp only [Assume.holds]
  exact ⟨by simp,by simp,fun _=>Modest.zero,by simp,by simp⟩⟩
def snM (s:Sn):Nat:=rtM s.lo+rtM s.hi
theorem b4Y (s:Sn):1<=snM s:=by have:=a4r s.lo;unfold snM;omega
theorem b2o {q:List Nm.Rt} {k:Nat} (h:lsM rtM q<=k):q.length<=k/\∀ r ∈ q,Rb k r:=⟨(a4N a4r h).1,fun r hr=>a2n ((a4N a4r h).2 r hr)⟩
theorem c2b {q:List Sn} {k:Nat} (h:lsM snM q<=k):q.length<=k/\∀ r ∈ q,Zr k r:=⟨(a4N b4Y h).1,fun r hr=>by
 have:=(a4N b4Y h).2 r hr
 unfold snM at this
 exact ⟨a2n (by omega),a2n (by omega)⟩⟩
section
variable {H:Type} {enc:TypeId × Value->H} {W:World}
theorem b9u:∃ fs,Tryz.prog.underlying 89=some (.struct fs)/\fs.toList.map (·.type)=[28,28]/\V4 Tryz.prog fs.toList 0=some (Tryz.prog.cellsOf 89):=⟨_,Tryz.underlying89,rfl,by kernel_rfl⟩
theorem b9Q:Tryz.prog.cellsOf 89=6:=by kernel_rfl
theorem c6p:Opens enc Tryz.prog W 89 Sn.enc (fun _=>True) snM:=by
 obtain ⟨fs,h1,h2,h3⟩:=b9u
 refine (K8 h1 h2 h3 (u6 a3r (u6 a3r Q5))).imp ?_
 rintro ⟨a,b,_⟩ hok
 exact ⟨⟨a,b⟩,rfl,trivial,by simp only [snM];omega⟩
theorem c5k:Opens enc Tryz.prog W 32 (fun l=>[sns l]) (fun _=>True) (lsM snM):=
 (X3 Tryz.underlying32 b9Q (by decide) (fun _=>rfl) c6p).imp fun l hl=>⟨l,rfl,trivial,c6N _⟩
end
theorem b0g (os:Os) (args:Array Value):laidMet Tryz.prog Rows.guardRangesUptoRow.laid ((laidWorldU os).forCall (fun _ _=>0) ⟨#[],args,[]⟩).memory:=
 b8k os args
theorem a6G (H:Type) (enc:TypeId × Value->H) (W:World) (base:Nat) (args:Array Value) (ds gs:List (DataW H)) (before:List MemPlace)
  (hval:∀ (j:Nat) t v,Tryz.f3.params[j]?=some t->args[j]?=some v->Value.okWide Tryz.prog W .any base t v)
  (hW:DataW.Whole enc Tryz.prog Tryz.f3.params.toList Rows.guardRangesSpec.vars false W args.toList ds gs before) (hk:Rows.uptoSmall H (ds++gs)=true) (hL:laidMetH Tryz.prog Rows.guardRangesUptoRow.laid W) (hS:W.ShapedOpen Tryz.prog) :
  Calls Tryz.prog 3 args W fun e W'=>∃ v,e=.returned v/\Rows.guardRangesSpec.post enc Tryz.prog Tryz.f3 false true false false W args v W':=by
 have hW':=hW
 obtain ⟨p,q,hA0,hV,rfl,hfz,hnd⟩:=hW
 have hA:DataW.TrodAll enc Tryz.prog W 0 (fun _=>true) true Tryz.f3.params.toList args.toList ds p:=hA0
 rw [Tryz.params3] at hA hval
 obtain ⟨v0,vs0,d0,ds0,p0,q0,hargs,rfl,rfl,h0,r0⟩:=trodAll_cons hA
 obtain ⟨v1,vs1,d1,ds1,p1,q1,rfl,rfl,rfl,h1,r1⟩:=trodAll_cons r0
 obtain ⟨v2,vs2,d2,ds2,p2,q2,rfl,rfl,rfl,h2,r2⟩:=trodAll_cons r1
 obtain ⟨v3,vs3,d3,ds3,p3,q3,rfl,rfl,rfl,h3,r3⟩:=trodAll_cons r2
 obtain ⟨v4,vs4,d4,ds4,p4,q4,rfl,rfl,rfl,h4,r4⟩:=trodAll_cons r3
 obtain ⟨v5,vs5,d5,ds5,p5,q5,rfl,rfl,rfl,h5,r5⟩:=trodAll_cons r4
 obtain ⟨rfl,rfl,rfl⟩:=trodAll_nil r5
 obtain rfl:args=#[v0,v1,v2,v3,v4,v5]:=by cases args;simp_all
 obtain ⟨rfl,rfl⟩:=trodVars_none hV
 have hb:=c0O hk
 obtain ⟨cs0,rfl,_⟩:=okWide_struct Tryz.underlying30 (hval 0 30 v0 rfl rfl)
 obtain ⟨m0,h0⟩:=h0
 obtain ⟨w,e0,_,k0,b0⟩:=c6q _ _ _ h0
 have b0:wkM w<=Rows.uptoBulk d0:=b0
 have e0:FzL W noB w.enc cs0.toList:=e0
 have g0:Fz W noB w.c (.agg cs0):=by simp only [Wk.c,Fz];exact ⟨_,e0,by simp⟩
 obtain ⟨n,rfl,rfl,rfl,w1⟩:=open_int Tryz.underlying3 (hval 1 3 v1 rfl rfl) h1
 have hn:I64 n:=by simpa [Lit.wf,IntKind.min,IntKind.max,IntKind.signed,IntKind.bits,I64] using w1
 obtain ⟨holds,rfl,rfl,rfl,w2⟩:=open_int Tryz.underlying3 (hval 2 3 v2 rfl rfl) h2
 have hholds:I64 holds:=by simpa [Lit.wf,IntKind.min,IntKind.max,IntKind.signed,IntKind.bits,I64] using w2
 obtain ⟨A3,n3,c3,rfl⟩:=okWide_slice Tryz.underlying31 (hval 3 31 v3 rfl rfl)
 obtain ⟨m3,h3⟩:=h3
 obtain ⟨q,e3,_,k3,b3⟩:=c1J _ _ _ h3
 have b3:lsM rtM q<=Rows.uptoBulk d3:=b3
 have e3:FzL W noB [rts q] [.slice A3 n3 c3]:=e3
 simp only [FzL] at e3
 obtain ⟨y3,ys3,f3,g3,rfl⟩:=e3
 injection f3 with f3 _
 subst f3
 obtain ⟨A4,n4,c4,rfl⟩:=okWide_slice Tryz.underlying31 (hval 4 31 v4 rfl rfl)
 obtain ⟨m4,h4⟩:=h4
 obtain ⟨u,e4,_,k4,b4⟩:=c1J _ _ _ h4
 have b4:lsM rtM u<=Rows.uptoBulk d4:=b4
 have e4:FzL W noB [rts u] [.slice A4 n4 c4]:=e4
 simp only [FzL] at e4
 obtain ⟨y4,ys4,f4,g4,rfl⟩:=e4
 injection f4 with f4 _
 subst f4
 obtain ⟨A5,n5,c5,rfl⟩:=okWide_slice Tryz.underlying32 (hval 5 32 v5 rfl rfl)
 obtain ⟨m5,h5⟩:=h5
 obtain ⟨l,e5,_,k5,b5⟩:=c5k _ _ _ h5
 have b5:lsM snM l<=Rows.uptoBulk d5:=b5
 have e5:FzL W noB [sns l] [.slice A5 n5 c5]:=e5
 simp only [FzL] at e5
 obtain ⟨y5,ys5,f5,g5,rfl⟩:=e5
 injection f5 with f5 _
 subst f5
 simp only [List.append_nil,List.cons_append,List.nil_append,Rows.uptoBulkAll] at hb
 have hF:FzL W noB [w.c,ints n,ints holds,rts q,rts u,sns l] [.agg cs0,.int .i64 n,.int .i64 holds,.slice A3 n3 c3,.slice A4 n4 c4,.slice A5 n5 c5]:=by
  simp only [FzL]
  exact ⟨_,_,rfl,g0,⟨_,_,rfl,by simp only [ints,Fz],⟨_,_,rfl,by simp only [ints,Fz],⟨_,_,rfl,g3,⟨_,_,rfl,g4,⟨_,_,rfl,g5,rfl⟩⟩⟩⟩⟩⟩
 refine (b1W w n holds q u l (c5V (k:=1048576) (by omega)) (c6L (b2o (k:=1048576) (by omega)).1 (by decide)) (c6L (b2o (k:=1048576) (by omega)).1 (by decide)) (c6L (c2b (k:=1048576) (by omega)).1 (by decide)) (b2o (by omega)).2 (b2o (by omega)).2 (c2b (by omega)).2 noB W _ (c5p hL) (fun _ h=>h.elim) hF).mono fun e W' ⟨y,he,hbl,hy⟩=>?_
 subst he
 simp only [Fz] at hy
 subst hy
 refine ⟨_,rfl,c0z c0U (by
  intro t ht
  rw [Tryz.params3] at ht
  simp only [List.mem_cons,List.not_mem_nil,or_false] at ht
  rcases ht with rfl|rfl|rfl|rfl|rfl|rfl
  ·exact ⟨by kernel_rfl,of_decide_eq_true (by kernel_rfl)⟩
  ·exact ⟨by kernel_rfl,of_decide_eq_true (by kernel_rfl)⟩
  ·exact ⟨by kernel_rfl,of_decide_eq_true (by kernel_rfl)⟩
  ·exact ⟨by kernel_rfl,of_decide_eq_true (by kernel_rfl)⟩
  ·exact ⟨by kernel_rfl,of_decide_eq_true (by kernel_rfl)⟩
  ·exact ⟨by kernel_rfl,of_decide_eq_true (by kernel_rfl)⟩) (tb:=4) rfl Tryz.underlying4 rfl rfl hW' hbl⟩
theorem a8l (os:Os) {H:Type} (enc:TypeId × Value->H):∃ places,DataW.whole enc Tryz.prog ((laidWorldU os).forCall (fun _ _=>0) ⟨#[],#[.agg #[.slice none 0 0,.slice none 0 0,.slice none 0 0,.slice none 0 0,.slice none 0 0,.bool false,.string ⟨#[]⟩,.string ⟨#[]⟩],.int .i64 0,.int .i64 0,.slice none 0 0,.slice none 0 0,.slice none 0 0],[]⟩).memory Tryz.f3.params.toList Rows.guardRangesSpec.vars false (#[.agg #[.slice none 0 0,.slice none 0 0,.slice none 0 0,.slice none 0 0,.slice none 0 0,.bool false,.string ⟨#[]⟩,.string ⟨#[]⟩],.int .i64 0,.int .i64 0,.slice none 0 0,.slice none 0 0,.slice none 0 0]:Array Value).toList 8=some ([.agg [.nil,.nil,.nil,.nil,.nil,.agg [.lit (.bool false),.lit (.string []),.lit (.string [])]],.lit (.int .i64 0),.lit (.int .i64 0),.nil,.nil,.nil],[],places):=
 ⟨[],by kernel_rfl⟩
set_option maxRecDepth 100000 in
theorem a7l (os:Os) (started:os.Started) (H:Type) (enc:TypeId × Value->H) (F:Stop.Interp) :
  ReturnsInHanded {} Tryz.checked os 3 .any ((Rows.OpenSpec.upto Rows.guardRangesSpec).preRow enc Tryz.prog Tryz.f3 Rows.guardRangesUptoRow.domain false Rows.guardRangesUptoRow.laid) (((Rows.OpenSpec.upto Rows.guardRangesSpec).at F).post enc Tryz.prog Tryz.f3 false true false false):=by
 obtain ⟨places,hx⟩:=a8l os enc
 refine returnsInHanded_of_row (C:=Tryz.checked) (s:=Rows.OpenSpec.upto Rows.guardRangesSpec) c0t started (by kernel_rfl) Tryz.func3
  (b4I (enc:=enc) (C:=Tryz.checked) false (laidWorldU os) #[.agg #[.slice none 0 0,.slice none 0 0,.slice none 0 0,.slice none 0 0,.slice none 0 0,.bool false,.string ⟨#[]⟩,.string ⟨#[]⟩],.int .i64 0,.int .i64 0,.slice none 0 0,.slice none 0 0,.slice none 0 0] rfl (by kernel_rfl) (by kernel_rfl) (by kernel_rfl)
   (OpenSpec.preRow_of_cond 8 hx (by kernel_rfl) (fun k hk=>by cases hk;kernel_rfl) (by kernel_rfl) (b0g os _))) ?_
 intro W base args ds gs before hval hW _ hcond _ hL hS _
 exact a6G H enc W base args ds gs before hval hW (hcond _ rfl) hL hS
theorem c6e {a b:Bool} (h:a=true) (k:b=true):(a && b)=true:=by rw [h,k];rfl
set_option maxHeartbeats 40000000 in
theorem a7y:joinedFacts Tryz.pinned.checked.prog 3 Tryz.f3 (Rows.OpenSpec.upto Rows.guardRangesSpec).bare Rows.guardRangesUptoRow=true:=by
 unfold joinedFacts
 repeat' (with_reducible refine c6e ?_ ?_)
 all_goals (as_aux_lemma=>kernel_rfl)
end Go.Proofs.YtpffebkbmcbmgaaGreatDoor
