/- A part of the proof: lemmas only, with the conditions that each names. -/
import Derived.Test.YtgpegbfnlkidjaaGreatDoorProg
import Derived.KernelRfl
import Derived.Test.YtgpegbfnlkidjaaGreatDoorRows
import Derived.Carry
import Derived.ChangeArms
import Derived.ChangeSame
import Derived.Deep.Slices
import Derived.WalkKit
import Derived.ProofKit
import Derived.OpenShut
import Derived.JoinedCond
import Derived.Test.YtgpegbfnlkidjaaGreatDoorCards
import Derived.Test.YtgpegbfnlkidjaaGreatDoorTie
import Derived.Deep.DeepHandedRow
import Derived.Deep.DeepWitnessRowRef
import Derived.Lib.LaidTab
import Derived.LaidMore
import Derived.Test.YtgpegbfnlkidjaaGreatDoorNk6
set_option linter.all false
namespace Go.Proofs.YtgpegbfnlkidjaaGreatDoor
open Go Go.RowKit Eng
set_option maxRecDepth 100000
set_option maxHeartbeats 4000000
def a6F (x:Lk):Prop:=0<=Nm.d9 x.speed/\Nm.d9 x.speed<=8*Nm.d9 x.brake
theorem b8g (l:List Int):a6F (b3B l):=by
 have h1:=l9 (l.drop 3) (n:=8) (by decide)
 have h2:=A8 (l.drop 3) (n:=8) (by decide)
 have h3:=l9 (l.drop 4) (n:=20) (by decide)
 have h4:=A8 (l.drop 4) (n:=20) (by decide)
 show 0<=Nm.d9 (Q 1 (4+nx (l.drop 3) 8))/\Nm.d9 (Q 1 (4+nx (l.drop 3) 8))<=8*Nm.d9 (Q 1 (10+nx (l.drop 4) 20))
 rw [Nm.p9,Nm.p9]
 generalize nx (l.drop 3) 8=s at *
 generalize nx (l.drop 4) 20=b at *
 have hs:0<=mkRat 1 (4+s).toNat/\mkRat 1 (4+s).toNat<=mkRat 1 4:=by
  have:s=0 \/ s=1 \/ s=2 \/ s=3 \/ s=4 \/ s=5 \/ s=6 \/ s=7:=by omega
  rcases this with rfl|rfl|rfl|rfl|rfl|rfl|rfl|rfl<;>decide +kernel
 have hb:mkRat 1 32<=mkRat 1 (10+b).toNat:=by
  have:b=0 \/ b=1 \/ b=2 \/ b=3 \/ b=4 \/ b=5 \/ b=6 \/ b=7 \/ b=8 \/ b=9 \/ b=10 \/ b=11 \/ b=12 \/ b=13 \/ b=14 \/ b=15 \/ b=16 \/ b=17 \/ b=18 \/ b=19:=by omega
  rcases this with rfl|rfl|rfl|rfl|rfl|rfl|rfl|rfl|rfl|rfl|rfl|rfl|rfl|rfl|rfl|rfl|rfl|rfl|rfl|rfl<;>decide +kernel
 have e:mkRat 1 4=8*mkRat 1 32:=by decide +kernel
 refine ⟨hs.1,?_⟩
 grind
theorem a9b:∀ (n:Nat) (l:List Int),∀ x ∈ a1z n l,a6F x
 | 0,_,x,h=>by cases h
 | n+1,l,x,h=>by
  rw [a1z] at h
  rcases List.mem_cons.1 h with rfl|h
  ·exact b8g l
  ·exact a9b n _ x h
theorem b0F:∀ (k n:Nat) (l:List Int),∀ a ∈ a1m k n l,∀ x ∈ a.links,a6F x
 | 0,_,_,a,h=>by cases h
 | k+1,n,l,a,h=>by
  rw [a1m] at h
  rcases List.mem_cons.1 h with rfl|h
  ·exact a9b _ _
  ·exact b0F k _ _ a h
theorem c1G {x:Lk} {c q:Nm.Rt} (h:0<=Nm.d9 x.speed):E5 (Nm.d9 (a4y x c q))<=Nm.d9 x.speed:=by
 unfold a4y
 rw [Nm.p9]
 generalize Nm.d9 x.speed=s at *
 generalize Nm.d9 c-Nm.d9 q=d at *
 have h1:=(b6Q (-s) (G7 s d)).1
 have h2:G9 (-s) (G7 s d)<=s:=by
  have:=b6y s d
  unfold G9
  split
  ·grind
  ·exact this.1
 rcases a4c (G9 (-s) (G7 s d)) with ⟨_,e⟩|⟨_,e⟩<;>rw [e]<;>grind
theorem c0S {B V:Rat} (hB:0 < B) (h:E5 V<=8*B):I5 B V<=8:=by
 have hq:E5 V / B<=8:=by
  have e:E5 V / B*B=E5 V:=Rat.div_mul_cancel (by grind)
  rcases (Rat.le_total:E5 V / B<=8 \/ 8<=E5 V / B) with h1|h1
  ·exact h1
  ·have h2:8*B<=E5 V / B*B:=Rat.mul_le_mul_of_nonneg_right h1 (by grind)
   have h3:E5 V / B*B=8*B:=by grind
   have h4:(E5 V / B-8)*B=0:=by grind
   rcases Rat.mul_eq_zero.1 h4 with h5|h5<;>grind
 unfold I5
 generalize E5 V / B=q at *
 have h1:=Rat.floor_le q
 have h8:(q.floor:Rat)<=((8:Int):Rat):=Rat.le_trans h1 hq
 have h9:q.floor<=8:=Rat.intCast_le_intCast.1 h8
 split
 ·rename_i h2
  have h10:(q.floor:Rat) < ((8:Int):Rat):=by
   have:q<=((8:Int):Rat):=hq
   grind
  have h11:q.floor < 8:=Rat.intCast_lt_intCast.1 h10
  omega
 ·exact h9
theorem b7S {L:List Lk} {c q:List Nm.Rt} (hq:∀ x ∈ L,a6F x) (hb:∀ x ∈ L,0 < E9 (Nm.d9 x.brake)):∀ z ∈ L.zip (a2L L c q),0<=I5 (Nm.d9 z.1.brake) (Nm.d9 z.2)/\I5 (Nm.d9 z.1.brake) (Nm.d9 z.2)<=8:=fun z hz=>by
 obtain ⟨i,hi⟩:=List.getElem?_of_mem hz
 rw [List.getElem?_zip_eq_some] at hi
 obtain ⟨e1,e2⟩:=hi
 have m:=c6W e1
 unfold a2L at e2
 rw [c7f,Option.map_eq_some_iff] at e2
 obtain ⟨⟨y,c',q'⟩,e3,e4⟩:=e2
 rw [List.getElem?_zip_eq_some] at e3
 have e5:=e3.1
 rw [e1] at e5
 injection e5 with e5
 obtain ⟨h1,h2⟩:=hq _ m
 have hB:=b0m (hb _ m)
 have h3:=c1G (c:=c') (q:=q') h1
 rw [<- e4]
 subst e5
 refine ⟨(a6N hB).1,c0S hB ?_⟩
 simp only at h3 ⊢
 grind
theorem b7r {z:List (Lk × Nm.Rt)} (h:∀ x ∈ z,I5 (Nm.d9 x.1.brake) (Nm.d9 x.2)<=8):Q7 z<=8:=by
 unfold Q7
 have key:∀ (z:List (Lk × Nm.Rt)) (m:Int),m<=8->(∀ x ∈ z,I5 (Nm.d9 x.1.brake) (Nm.d9 x.2)<=8)->z.foldl (fun m z=>max m (I5 (Nm.d9 z.1.brake) (Nm.d9 z.2))) m<=8:=by
  intro z
  induction z with
  | nil=>intro m hm _;exact hm
  | cons x z ih=>
   intro m hm hx
   rw [List.foldl_cons]
   have:=hx x (by simp)
   exact ih _ (by omega) fun y hy=>hx y (by simp [hy])
 exact key z 0 (by decide) h
structure GInv (w:Wk) (a:Am) (q0 u0:List Nm.Rt) (i:Nat) (s:Stt):Prop where
 big:Stb 1048576 s
 people:s.people=[]
 tick:s.tick=i
 len:s.arms.length=w.arms.length
 two:P7 w s=0 \/ P7 w s=17
 calm:P7 w s=0->Calm w s i
 run:∃ y,s.arms[0]?=some y/\Run a q0 u0 i y
theorem c0w {a:Am} {c q:List Nm.Rt} (ha:J2 a=0) (hq:∀ x ∈ a.links,a6F x) (hb:∀ r ∈ a2L a.links c q,Rb 150 r) (i:Nat) (l:Lk) (x:Nm.Rt) (h1:a.links[i]?=some l) (h2:(a2L a.links c q)[i]?=some x):Few l x:=by
 have hl:=(O8 ha).2
 have hm:=hl l (c6W h1)
 exact ⟨(a6R hm).2.2.2,(hb x (c6W h2)).mono (by decide),b0S hm,(b7S hq (fun x hx=>b0S (hl x hx)) _ (c6W (N7 h1 h2))).2⟩
open Go Eng
def a3h:N9:=⟨74,[.tmp 6],.seq (.reg [OA 3 (.box 31 (TT 0)),OA 4 (.box 37 (TT 1)),OA 6 (.mv (.const (.slice none 0 0)))]) (.seq (.reg [OA 7 (.mv (.const (.slice none 0 0)))]) (.seq (.seq (.reg [FF 14 0 3,VV 15 14,OA 16 (.len false (TT
 15)),OA 17 (.mv (II 0))]) (.block 0 (.loop (.seq (.reg [OA 18 (.bin .lss (TT 17) (TT 16))]) (.seq (.cond (TT 18) .skip (.exit 0)) (.seq (.block 1 (.seq (.reg [MM 19 17,OA 20 (.q8 12 (TT 15) (TT 17)),LL 21 12 20,OA 9
 (.alloc 69 [.string ⟨#[]⟩,.bool false,.string ⟨#[]⟩,.string ⟨#[]⟩,.bool false,.string ⟨#[]⟩,.string ⟨#[]⟩,.bool false,.bool false,.string ⟨#[]⟩,.string ⟨#[]⟩,.slice none 0 0]),MM 8 19,OB (.store 12 (TT 9) (TT 21))])
 (.seq (.reg [OA 10 (.mv (.const (.slice none 0 0)))]) (.seq (.seq (.E8 [.q,.q,.q,.q,.q,.q,.q,.q,.q,.q,.q] [LL 22 12 9,MM 23 2,MM 24 2,OA 25 (.len false (TT 24)),MM 26 8,OA 27 (.bin .mul (II 3) (TT 26)),OA 28
 (.min (TT 25) (TT 27)),OA 29 (.a2u 1 (TT 23) (some (TT 28)) none),OA 30 (.call 14 [TT 22,TT 29]),OA 31 (.len false (TT 30)),OA 32 (.mv (II 0))]) (.block 2 (.loop (.seq (.reg [OA 33 (.bin .lss (TT 32) (TT 31))]) (.seq
 (.cond (TT 33) .skip (.exit 2)) (.seq (.block 3 (.seq (.reg [MM 34 32,OA 35 (.q8 3 (TT 30) (TT 32)),LL 36 3 35,OA 12 (.alloc 29 [.bool false,.string ⟨#[]⟩,.string ⟨#[]⟩]),MM 11 34,OB (.store 3 (TT 12) (TT 36))]) (.seq
 (.E8 [.q,.q,.q,.q,.q,.q,.q,.q,.q,.q,.q,.a,.e (some 13) true] [LL 37 3 12,FF 38 1 4,VV 39 38,MM 40 8,OA 41 (.q8 4 (TT 39) (TT 40)),FF 42 0 41,VV 43 42,MM 44 11,OA 45 (.q8 3 (TT 43) (TT 44)),LL 46 3
 45,OA 47 (.call 15 [TT 37,TT 46]),OA 13 (.alloc 29 [.bool false,.string ⟨#[]⟩,.string ⟨#[]⟩]),OB (.store 3 (TT 13) (TT 47))]) (.E8 [.q,.q,.q,.q,.q,.q,.q,.q,.q,.q,.q,.q,.q,.q,.q,.q,.q,.q,.e none true,
 .q] [MM 48 10,FF 49 11 9,VV 50 49,MM 51 11,OA 52 (.q8 16 (TT 50) (TT 51)),FF 53 9 52,LL 54 3 53,OA 55 (.call 17 [TT 54]),FF 56 11 9,VV 57 56,MM 58 11,OA 59 (.q8 16 (TT 57) (TT 58)),FF 60 9 59,LL 61 3 60,LL 62
 3 13,OA 63 (.call 18 [TT 61,TT 62]),OA 64 (.call 16 [TT 55,TT 63]),OA 65 (.bsl 29 3 1 [.bool false,.string ⟨#[]⟩,.string ⟨#[]⟩] [(0,TT 64)]),OA 66 (.app 29 3 40 (TT 48) (TT 65)),MM 10 66])))) (.reg [OA 67 (.bin .add
 (TT 32) (II 1)),MM 32 67]))))))) (.reg [MM 68 7,MM 69 10,OA 70 (.bsl 47 1 1 [.slice none 0 0] [(0,TT 69)]),OA 71 (.app 47 1 24 (TT 68) (TT 70)),MM 7 71]))))) (.reg [OA 72 (.bin .add (TT 17) (II 1)),MM 17 72]))))))) (.seq
 (.reg [MM 73 7,MM 6 73]) .ret)))⟩
theorem a7w:J5 eff Tryz.prog Tryz.f6=some a3h:=by kernel_rfl
theorem a7x:Tryz.prog.funcs[6]?=some Tryz.f6:=Tryz.func6
set_option maxHeartbeats 16000000
theorem c0W (w:Wk) (s:Stt) (to:List Int) (k:Nat) (h:b8v w s k) (hk:k<=10) (hn:to.length<=1048576):FZ 6 [w.c,s.c,u6 to] (wss (a1U (w.arms.zip s.arms) to w.arms.length)):=by
 refine kW a7x a7w (by rfl) fun w' O hw=>?_
 have hok:=a2x h.st
 have hone:=hok.one
 have hla:=hok.arms
 have hbig:=hok.big.2.1
 have hq:=h.q
 have hwl:=fun (i:Nat) (a:Am) (ha:w.arms[i]?=some a)=>b9v (to:=to) h ha
 obtain ⟨arms,walls,parts,slots,gates,walk⟩:=w
 obtain ⟨tick,sarms,sparts,people,sgates⟩:=s
 simp only at hone hla hbig hq hwl ⊢
 generalize hz:arms.zip sarms=z at *
 simp only [a3h,j5,TT,II,OA,OB,MM,LL,VV,FF]
 simp only [Wk.c,Wk.enc,Stt.c,Stt.enc,ams,wls,pts,sls,gts,K7,frs,vts,bls,wss,u6,sb,ints]
 (repeat first|refine uA ?_|(refine uK ?_ ?_;focus first|omega|(intros;simp_all<;>omega))|simp (disch:=omega) only [go_sem,Nat.reduceBEq,Nat.reduceAdd,c6U])
 refine S.loop (X:=Nat) (fun i=>⟨[(2,u6 to),(4,.bp 1 0),(7,.rv 2),(15,ams arms),(16,ints arms.length),(17,ints i)],[.gone,.box 37 [ints tick,K7 sarms,frs sparts,vts people,bls sgates],.row 47 1 ((a1U z to i).map fun l=>[rts l])]⟩) (fun i=>i<=arms.length) (fun i=>arms.length-i) 0 (c6Z _)
  (Ent.trans (Ent.pack 7 47 1 rfl) (by (repeat first|refine uA ?_|(refine ⟨?_,?_⟩;focus first|rfl|simp [slot])|rfl|simp))) ?_
 intro i hi
 simp only [ams,u6,K7,frs,vts,bls,ints]
 (repeat first|refine uA ?_|(refine uK ?_ ?_;focus first|omega|(intros;simp_all<;>omega))|simp (disch:=omega) only [go_sem,Nat.reduceBEq])
 (refine uJ rfl (fun hc=>?_) fun hc=>?_)
 ·have hi':i < arms.length:=by omega
  have hga:=c6T hi'
  have hgx:=c6T (show i < sarms.length by omega)
  have hsn:=b8A z to i
  have hsl:=b2O z to i
  have hzi:z[i]?=some (arms[i],sarms[i]):=by have h9:=N7 hga hgx;rw [hz] at h9;exact h9
  have ho:=b0L (hone _ (c6W hzi))
  have hwi:a2U z to i=a2L arms[i].links (O6 arms[i].links (to.drop (3*i))) sarms[i].q:=by unfold a2U;rw [hzi]
  have hwl:=hwl i _ hga
  have hqx:=hq _ (c6W hgx)
  generalize arms[i]=a at *
  generalize sarms[i]=x at *
  simp only at ho
  have hlk:=(O8 ho.arm).2
  have h3:=(Z0 ho.arm).2
  have hxq:=ho.q
  have hcl:=a1E a.links (to.drop (3*i))
  have hcr:=a5g a.links (to.drop (3*i)) hlk
  have hC:=b8S a (to.drop (3*i)) ho.arm
  generalize O6 a.links (to.drop (3*i))=c at *
  have hxl:x.q.length<=3:=by omega
  have hdl:(to.drop (3*i)).length<=1048576:=by rw [c7E];omega
  generalize a1U z to i=W0 at *
  generalize a2U z to i=WI at *
  have hmn:(if 3*(i:Int) < (to.length:Int) then 3*(i:Int) else (to.length:Int))=((min to.length (3*i):Nat):Int):=by split<;>omega
  have hdm:(to.drop (min to.length (3*i))).take (to.length-min to.length (3*i))=to.drop (3*i):=by
   rw [b5E,c7o (by rw [c7E];omega)]
  have hml:min to.length (3*i)<=to.length:=Nat.min_le_left _ _
  generalize min to.length (3*i)=mm at *
  generalize to.drop (3*i)=td at *
  simp only [Am.c,Am.enc,lks,rts,u6,sb] at hC
  (repeat first|refine uA ?_|(refine uK ?_ ?_;focus first|omega|(intros;simp_all<;>omega))|simp (disch:=omega) only [go_sem,Nat.reduceBEq,Nat.reduceAdd,ww,hga,c6V,c6U,Am.enc,lks,sb,hmn,hdm,c7a]|(refine uB hC ?_ ?_;exact rfl))
  refine S.loop (X:=Nat) (fun j=>⟨[(2,u6 to),(4,.bp 1 0),(7,.rv 2),(8,ints i),(9,.bp 3 0),(10,.rv 4),(15,ams arms),(16,ints arms.length),(17,ints i),(30,rts c),(31,ints c.length),(32,ints j)],[.gone,.box 37 [ints tick,K7 sarms,frs sparts,vts people,bls sgates],.row 47 1 (W0.map fun l=>[rts l]),.box 69 [sb a.name,.v (.bool a.base.x.neg),sb a.base.x.num,sb a.base.x.den,.v (.bool a.base.y.neg),sb a.base.y.num,sb a.base.y.den,.v (.bool a.base.half),.v (.bool a.base.t.neg),sb a.base.t.num,sb a.base.t.den,lks a.links],.row 29 3 ((WI.take j).map rcs)]⟩) (fun j=>j<=c.length) (fun j=>c.length-j) 0 (c6Z _)
   (Ent.trans (Ent.pack 10 29 3 rfl) (by (repeat first|refine uA ?_|(refine ⟨?_,?_⟩;focus first|rfl|simp [slot])|rfl|simp))) ?_
  intro j hj
  simp only [ams,u6,K7,frs,vts,bls,rts,lks,sb,ints]
  (repeat first|refine uA ?_|(refine uK ?_ ?_;focus first|omega|(intros;simp_all<;>omega))|simp (disch:=omega) only [go_sem,Nat.reduceBEq])
  (refine uJ rfl (fun hc=>?_) fun hc=>?_)
  ·have hj':j < c.length:=by omega
   have hgc:=c6T hj'
   have hgl:=c6T (show j < a.links.length by omega)
   have hgq:=c6T (show j < x.q.length by omega)
   have hgw:WI[j]?=some (a4y a.links[j] c[j] x.q[j]):=by have h9:=b9F hgl hgc hgq;rw [<- hwi] at h9;exact h9
   have hap:=take_at hgw
   have hwtl:(WI.take j).length=j:=by rw [c7d];omega
   have rc1:=hcr _ (c6W hgc)
   have rq1:=hqx _ (c6W hgq)
   have rl1:=(a6R (hlk _ (c6W hgl))).2.2.1
   generalize c[j]=cj at *
   generalize a.links[j]=lj at *
   generalize x.q[j]=qj at *
   have o1:=a6x cj qj (rc1.mono (by decide)) (rq1.mono (by omega))
   have rd:=(R4 (rc1.fit (by decide)) (rq1.fit (by omega)))
   have o2:=a5q lj.speed (rl1.mono (by decide))
   have o3:=a4f lj.speed (Nm.ofQ (Nm.d9 cj-Nm.d9 qj)) (rl1.mono (by decide)) (rd.mono (by omega))
   rw [Nm.p9] at o3
   have rm:Rb 1048576 (Nm.ofQ (G7 (Nm.d9 lj.speed) (Nm.d9 cj-Nm.d9 qj))):=by
    unfold G7
    split
    ·exact (rl1.fit (by decide)).mono (by decide)
    ·exact rd.mono (by omega)
   have rn:=b4m rl1 (by decide)
   have o4:=a3Y (Nm.ofQ (-(Nm.d9 lj.speed))) (Nm.ofQ (G7 (Nm.d9 lj.speed) (Nm.d9 cj-Nm.d9 qj))) (rn.mono (by decide)) (rm.mono (by decide))
   rw [Nm.p9,Nm.p9] at o4
   have hwr:a4y lj cj qj=Nm.ofQ (G9 (-(Nm.d9 lj.speed)) (G7 (Nm.d9 lj.speed) (Nm.d9 cj-Nm.d9 qj))):=rfl
   unfold rq at o1 o2 o3 o4
   rw [<- hwr] at o4
   clear hwr
   generalize a4y lj cj qj=z1 at *
   generalize Nm.ofQ (G7 (Nm.d9 lj.speed) (Nm.d9 cj-Nm.d9 qj))=z2 at *
   generalize Nm.ofQ (-(Nm.d9 lj.speed))=z3 at *
   generalize Nm.ofQ (Nm.d9 cj-Nm.d9 qj)=z4 at *
   simp only [rc,sb] at o1 o2 o3 o4
   (repeat first|refine uA ?_|(refine uK ?_ ?_;focus first|omega|(intros;simp_all<;>omega))|simp (disch:=omega) only [go_sem,Nat.reduceBEq,Nat.reduceAdd,ww,hgc,hgl,hgq,hgx,c6V,c6U,hwtl,rcs,Lk.enc,Ast.enc,rts,vts,sb,ints,c7a]|(refine uD o1 ?_ ?_ ?_;exact tz hw;exact rfl)|(refine uD o2 ?_ ?_ ?_;exact tz hw;exact rfl)|(refine uD o3 ?_ ?_ ?_;exact tz hw;exact rfl)|(refine uD o4 ?_ ?_ ?_;exact tz hw;exact rfl))
   refine S.next (j+1) (by omega) (by omega) (by simp only [hap,c7G,c7i,c7q,rcs,sb];exact (by (repeat first|refine uA ?_|(refine ⟨?_,?_⟩;focus first|rfl|simp [slot])|rfl|simp)))
  ·have hj':j=c.length:=by omega
   subst hj'
   have hwt:WI.take c.length=WI:=c7o (by omega)
   rw [hwt]
   refine S.exit rfl ?_
   refine S.weaken (st':=⟨[(2,u6 to),(4,.bp 1 0),(7,.rv 2),(10,.sl 3 (WI.map rcs)),(15,ams arms),(16,ints arms.length),(17,ints i)],[.gone,.box 37 [ints tick,K7 sarms,frs sparts,vts people,bls sgates],.row 47 1 (W0.map fun l=>[rts l])]⟩) (Ent.mk _ _ (by (repeat' (first|exact P6.nil|exact Imp.junk|exact Imp.refl rfl|exact Imp.frz rfl rfl rfl|exact Imp.eq (by simp [slot];done) rfl|refine P6.cons ?_ ?_))) (by (repeat' (first|exact D7.nil|exact RI.gone _|exact RI.row _ _ _ _ rfl|exact RI.map _ _ _ rfl|exact RI.box _ _ _ (j4.refl rfl)|(refine RI.box _ _ _ ?_;(repeat' (first|exact j4.nil|exact Imp.refl rfl|exact Imp.frz rfl rfl rfl|exact Imp.F5|refine j4.cons ?_ ?_)))|refine D7.cons ?_ ?_))) (c6Z _)) ?_
   simp only [ams,u6,K7,frs,vts,bls,ints,rts]
   (repeat first|refine uA ?_|(refine uK ?_ ?_;focus first|omega|(intros;simp_all<;>omega))|simp (disch:=omega) only [go_sem,Nat.reduceBEq,Nat.reduceAdd,ww,c6U,hsl])
   refine S.next (i+1) (by omega) (by omega) (by simp only [hsn,c7G,c7i,c7q];exact (by (repeat first|refine uA ?_|(refine ⟨?_,?_⟩;focus first|rfl|simp [slot])|rfl|simp)))
 have hi':i=arms.length:=by omega
 subst hi'
 (repeat first|refine uA ?_|(refine uK ?_ ?_;focus first|omega|(intros;simp_all<;>omega))|simp (disch:=omega) only [go_sem,Nat.reduceBEq])
 exact S.done (j3.out rfl (Imp.frz rfl rfl rfl) rfl)
open Go
abbrev Zt:=Am × Ast × List Nm.Rt
def bsZ (z:Zt):List Bq:=Y8 z.1 (I9 z.1.links z.2.1.q z.2.2)
structure OkZ (z:Zt):Prop where
 arm:J2 z.1=0
 holds:z.2.1.holds=-1
 ql:z.2.1.q.length=z.1.links.length
 ul:z.2.2.length=z.1.links.length
 qb:∀ r ∈ z.2.1.q,Rb 1024 r
 few:∀ (i:Nat) (l:Lk) (y:Nm.Rt),z.1.links[i]?=some l->z.2.2[i]?=some y->Few l y
 t0:0<=Q7 (z.1.links.zip z.2.2)
 t8:Q7 (z.1.links.zip z.2.2)<=1000
def rZ (J:Zt->List Cl->Int) (Z:List Zt) (ls:List (List Cl)):List Int:=(Z.zip ls).map fun p=>J p.1 p.2
def aZ (Z:List Zt):List (List Cl):=Z.map fun z=>L9 (bsZ z)
theorem b1R {J:Zt->List Cl->Int} {Z:List Zt} {ls:List (List Cl)} {i:Nat} {r:Int} (h:(rZ J Z ls)[i]?=some r):∃ z l,Z[i]?=some z/\ls[i]?=some l/\r=J z l:=by
 unfold rZ at h
 rw [c7f] at h
 cases hz:(Z.zip ls)[i]? with
 | none=>rw [hz] at h;cases h
 | some p=>
  rw [hz] at h
  injection h with h
  rw [List.getElem?_zip_eq_some] at hz
  exact ⟨p.1,p.2,hz.1,hz.2,h.symm⟩
theorem b9l {J:Zt->List Cl->Int} {Z:List Zt} {ls:List (List Cl)} (h:ls.length=Z.length):(rZ J Z ls).length=Z.length:=by
 unfold rZ;simp [h]
theorem c4B {Z:List Zt} {i:Nat} {z:Zt} (h:Z[i]?=some z):(aZ Z)[i]?=some (L9 (bsZ z)):=by unfold aZ;rw [c7f,h];rfl
theorem b4k (Z:List Zt):(aZ Z).length=Z.length:=by simp [aZ]
theorem c3v {Z:List Zt} (h:∀ z ∈ Z,cellsE (bsZ z)=0):∀ l ∈ aZ Z,a8F l:=fun l hl=>by
 obtain ⟨z,hz,rfl⟩:=List.mem_map.1 hl
 exact b5O (h z hz)
def zZ (w:Wk) (L:List Ast) (U:List (List Nm.Rt)):List Zt:=w.arms.zip (L.zip U)
theorem c5B {w:Wk} {L:List Ast} {U:List (List Nm.Rt)} (h1:L.length=w.arms.length) (h2:U.length=w.arms.length):(zZ w L U).length=w.arms.length:=by
 unfold zZ;simp [h1,h2]
theorem c5Q {raw pose to:List Int}:∀ z ∈ zZ (u7 raw) (Y6 (u7 raw) pose) (a1U ((u7 raw).arms.zip (Y6 (u7 raw) pose)) to (u7 raw).arms.length),OkZ z:=fun z hz=>by
  obtain ⟨ha,hs⟩:=a3N raw
  have hC0:=b0g pose (a9H raw) (a7j raw) ha hs
  have hqk:∀ a ∈ (u7 raw).arms,∀ x ∈ a.links,a6F x:=b0F _ _ _
  obtain ⟨i,hi⟩:=List.mem_iff_getElem?.1 hz
  unfold zZ at hi
  rw [List.getElem?_zip_eq_some] at hi
  obtain ⟨h1,h2⟩:=hi
  rw [List.getElem?_zip_eq_some] at h2
  obtain ⟨h2,h3⟩:=h2
  have hiN:=(c6Y.1 h1).1
  unfold a1U at h3
  rw [c7f,List.getElem?_range hiN] at h3
  have hu:z.2.2=a2U ((u7 raw).arms.zip (Y6 (u7 raw) pose)) to i:=(Option.some.inj h3).symm
  have hrb:∀ r ∈ z.2.2,Rb 150 r:=fun r hr=>by
    rw [hu] at hr
    exact (c1y hC0.c4P hr).mono (by decide)
  have hw:z.2.2=a2L z.1.links (O6 z.1.links (to.drop (3*i))) z.2.1.q:=by
    rw [hu]
    unfold a2U
    rw [N7 h1 h2]
  have hx:=a3V (to:=pose) h1
  rw [hx] at h2
  have hxe:a7f z.1 (pose.drop (3*i)) (-1)=z.2.1:=Option.some.inj h2
  have haa:=ha _ (c6W h1)
  have hql:z.2.1.q.length=z.1.links.length:=by rw [<- hxe];exact a1E _ _
  have hul:z.2.2.length=z.1.links.length:=by rw [hw];exact b2Z (a1E _ _) hql
  have hf:∀ (i:Nat) (l:Lk) (y:Nm.Rt),z.1.links[i]?=some l->z.2.2[i]?=some y->Few l y:=fun j l y hl hy=>by
    refine c0w (c:=O6 z.1.links (to.drop (3*i))) (q:=z.2.1.q) haa (hqk _ (c6W h1)) (fun r hr=>hrb r (by rw [hw];exact hr)) j l y hl (by rw [<- hw];exact hy)
  refine ⟨haa,by rw [<- hxe];rfl,hql,hul,fun r hr=>?_,hf,a7r _,Int.le_trans ?_ (show (8:Int)<=1000 by decide)⟩
  · rw [<- hxe] at hr
    exact (a5g _ _ (O8 haa).2 r hr).mono (by decide)
  · exact b7r fun p hp=>by
      obtain ⟨j,hj⟩:=List.mem_iff_getElem?.1 hp
      rw [List.getElem?_zip_eq_some] at hj
      exact (hf j _ _ hj.1 hj.2).few
set_option maxHeartbeats 32000000
theorem j6.c5H {f:Nat} {args:List C} {s s':C} {rs':List Res} (h:∀ E:Ctx,E.P=Tryz.prog->Tz E->j6 E [] f args s rs' []) (hi:Imp rs' [] s s') (hc:s'.cl=true):FZ f args s':=by
 intro O w vs hw hO hA
 have ho0:∀ b,¬ owned [] [] b:=fun b ⟨k,r,x,hk,_⟩=>by simp at hk
 have hRG:RG O (fun _=>False) w.heap.size [] [] w:=⟨rfl,fun k r hk=>by simp at hk,fun k l r r' x x' b _ hk=>by simp at hk,fun b hb=>(ho0 b hb).elim,hO,c7b _⟩
 have hsub:∀ b,OO O [] [] b->O b:=fun b hb=>hb.elim id fun h=>(ho0 b h).elim
 refine (h ⟨Tryz.prog,fun _=>false,0,w,fun _=>False,O,[],[]⟩ rfl ⟨hw,id⟩ O [] w vs hRG (fun b hb=>hb) ⟨rfl,rfl,rfl,c7b _,fun _ _ _=>rfl⟩ ((FzL.keep (Keeps.sub hsub) hA).den [])).mono ?_
 rintro e w' ⟨y,ν',rfl,h1,h2,h3⟩
 have hC:Cut O rs' [] ν':=Cut.of h1 (by simp [R7])
 have h4:=hi O (fun _=>False) w.heap.size ν' w' y h1 hC h3
 exact ⟨y,rfl,⟨h2.os,h2.tape,h2.output,h2.size,fun b hb=>h2.block b hb (ho0 b)⟩,Fz.keep (Keeps.sub fun b hb=>.inl hb) (Den.fz hc h4)⟩
theorem c3o (raw pose:List Int) (hp:pose.length<=1048576):FZ 5 [u6 raw,u6 pose] (.tup [(u7 raw).c,(Stt.mk 0 (Y6 (u7 raw) pose) (D8 (u7 raw)).parts [] (D8 (u7 raw)).gates).c,.v (.bool true)]):=by
 refine j6.c5H (fun E hP ht=>c3c hP ht raw pose hp) ?_ rfl
 exact Imp.tup (j4.cons (Imp.refl rfl) (j4.cons (Imp.agg (j4.cons (Imp.refl rfl) (j4.cons (Imp.frz rfl rfl rfl) (j4.cons (Imp.frz rfl rfl rfl) (j4.cons Imp.F5 (j4.cons (Imp.frz rfl rfl rfl) j4.nil)))))) (j4.cons (Imp.refl rfl) j4.nil)))
theorem c1E {α:Type} {l:List α} {i:Nat} {x:α} (h:l[i]?=some x):l.take (i+1)=l.take i++[x]:=by rw [List.take_add_one,h];rfl
def a4s (walk:Nm.Rt) (t:Int) (g:Gt):Bq:=a8E ⟨Nm.d9 g.low.x,Nm.d9 g.low.y,Nm.d9 g.high.x,Nm.d9 g.high.y⟩ (Nm.d9 walk*(t:Rat))
def a7N (bs:List Bq) (walk:Nm.Rt) (t:Int) (G:List Gt) (O:List Bool):Bool:=(G.zip O).any fun z=>z.2 && a0S bs (a4s walk t z.1)
def b0h (bs:List Bq) (w:Wk) (t:Int) (lease:List Cl) (ps:List (Rat × Rat)) (O:List Bool):Int:=
 if a8j bs lease=true then 3 else if b0d bs w.walls=true then 4 else if (ps.any fun p=>a0S bs (a0Z p.1 p.2 w.walk t))=true then 5 else if a7N bs w.walk t w.gates O=true then 6 else 0
def a2d (w:Wk) (a:Am) (q u:List Nm.Rt) (lease:List Cl) (ps:List (Rat × Rat)) (O:List Bool):Int:=
 if a0D (a.links.zip (q.zip u))=false then 1 else if a8t a.links (I9 a.links q u)=true then 2 else b0h (Y8 a (I9 a.links q u)) w (Q7 (a.links.zip u)+1) lease ps O
theorem c3R (w:Wk) (s:Stt) (n:Nat) (a:Am) (x:Ast) (lease:List Cl) (u:List Nm.Rt) (ps:List (Rat × Rat)) (hwb:Wb 1048576 w) (ga:w.arms[n]?=some a) (gx:s.arms[n]?=some x) (ha:J2 a=0) (hh:x.holds=-1)
  (hxl:x.q.length=a.links.length) (hul:u.length=a.links.length) (hqb:∀ r ∈ x.q,Rb 1024 r) (hf:∀ (i:Nat) (l:Lk) (y:Nm.Rt),a.links[i]?=some l->u[i]?=some y->Few l y)
  (t0:0<=Q7 (a.links.zip u)) (t8:Q7 (a.links.zip u)<=1000) (hle:lease.length<=1000000) (hps:s.people=ps.map pvt) (hpb:∀ p ∈ ps,Vb 1048576 (pvt p)) (hpn:ps.length<=1000) (hgn:s.gates.length=w.gates.length) (hw1:w.arms.length<=1000) (hw2:w.parts.length<=1000) :
  FZ 27 [w.c,s.c,ints n,cls lease,rts u] (ints (a2d w a x.q u lease ps s.gates)):=by
 refine kW b1T b2g (by rfl) fun w' O hw=>?_
 have hn:=(c6Y.1 ga).1
 have hns:=(c6Y.1 gx).1
 have hl:Ab 1073741824 a:=(O8 ha).1.mono (by decide)
 have hub:∀ r ∈ u,Rb 1024 r:=fun r hr=>by
  obtain ⟨i,hi⟩:=List.mem_iff_getElem?.1 hr
  have hi':=(c6Y.1 hi).1
  exact (hf i _ r (c6T (by omega)) hi).hv
 have h0:=b9Q a x.q u hl hxl hul (fun r hr=>(hqb r hr).mono (by decide)) (fun r hr=>(hub r hr).mono (by decide))
 have h1:=b6F a x.q u hl ha hxl hul hqb hf
 rw [b2U] at h1
 have hql:=b1c (L:=a.links) hxl hul
 have hqz:=b5l hqb hf
 have h2:=b3F w n a (I9 a.links x.q u) hw1 hw2 ga hl ha hql hqz
 have hbl:=b4L hql
 have hbb:=c0o ha hql hqz
 have hl3:=(Z0 ha).2
 have hlk:=hl.2.2.2
 have hJ:a2d w a x.q u lease ps s.gates=if a0D (a.links.zip (x.q.zip u))=false then 1 else if a8t a.links (I9 a.links x.q u)=true then 2 else b0h (Y8 a (I9 a.links x.q u)) w (Q7 (a.links.zip u)+1) lease ps s.gates:=rfl
 generalize a2d w a x.q u lease ps s.gates=J at *
 generalize Y8 a (I9 a.links x.q u)=bs at *
 generalize I9 a.links x.q u=Q at *
 generalize a0D (a.links.zip (x.q.zip u))=al at *
 obtain ⟨t,ht⟩:∃ t,t=Q7 (a.links.zip u)+1:=⟨_,rfl⟩
 rw [<- ht] at h1 hJ
 have tb:0<=t/\t<=1001:=by omega
 have hb30:∀ b ∈ bs,Bb 1000000000 b:=fun b hb=>⟨(hbb b hb).1.mono (by decide),(hbb b hb).2.1.mono (by decide),(hbb b hb).2.2.1.mono (by decide),(hbb b hb).2.2.2.mono (by decide)⟩
 have hb32:∀ b ∈ bs,Bb 4294967296 b:=fun b hb=>⟨(hbb b hb).1.mono (by decide),(hbb b hb).2.1.mono (by decide),(hbb b hb).2.2.1.mono (by decide),(hbb b hb).2.2.2.mono (by decide)⟩
 have hsq:∀ b ∈ bs,Vbs 268435456 (Z7 b):=fun b hb=>by
  have h:=hbb b hb
  unfold Z7
  split
  ·exact ⟨c6Z _,fun v hv=>by cases hv⟩
  ·refine ⟨by show 4<=268435456;decide,fun v hv=>?_⟩
   simp only [List.mem_cons,List.not_mem_nil,or_false] at hv
   rcases hv with rfl|rfl|rfl|rfl
   ·exact ⟨h.1.mono (by decide),h.2.1.mono (by decide)⟩
   ·exact ⟨h.2.2.1.mono (by decide),h.2.1.mono (by decide)⟩
   ·exact ⟨h.2.2.1.mono (by decide),h.2.2.2.mono (by decide)⟩
   ·exact ⟨h.1.mono (by decide),h.2.2.2.mono (by decide)⟩
 have hgb:=hwb.gates.2
 have hgc:=hwb.gates.1
 have hwl:=hwb.walls
 have hwk:=hwb.walk
 have h5:=c4S 75 (by kernel_rfl) [.clo 71 [.ep [bqs bs]]] w.enc [ints t] (fun v=>a0S bs (a0Z (Nm.d9 v.x) (Nm.d9 v.y) w.walk t)) s.people (by rw [hps,c6U];omega) (fun v hv=>by
  rw [hps] at hv
  obtain ⟨p,hp,rfl⟩:=List.mem_map.1 hv
  have:=c0X w bs p t (by omega) hb32 hwk (hpb p hp) tb.1 (by omega)
  unfold pvt
  simp only [Nm.p9]
  exact this)
 have hpe:(s.people.any fun v=>a0S bs (a0Z (Nm.d9 v.x) (Nm.d9 v.y) w.walk t))=ps.any fun p=>a0S bs (a0Z p.1 p.2 w.walk t):=by
  rw [hps,List.any_map]
  congr 1
  funext p
  show a0S bs (a0Z (Nm.d9 (Nm.ofQ p.1)) (Nm.d9 (Nm.ofQ p.2)) w.walk t)=_
  rw [Nm.p9,Nm.p9]
 rw [hpe] at h5
 unfold b0h at hJ
 generalize (ps.any fun p=>a0S bs (a0Z p.1 p.2 w.walk t))=pb at *
 have hcal:callable Tryz.prog 71=true:=by kernel_rfl
 have ht1:Rb 8 (Nm.ofQ (t:Rat)):=by
  rw [a3z]
  exact ⟨Nm.F3 (by omega),by show (Nm.enc 1).length<=8;rw [Nm.Q5];decide⟩
 have o7:=a1l t (by omega) (by omega)
 have hrn:∀ a b:Nat,a<=b->a<=b:=fun _ _ h=>h
 clear hf hqb hub hwb hpb hps hpe ht t0 t8 hl hrn
 have enc:=fun (l:List Lk)=>l
 clear enc
 simp only [a6m,j5,TT,II,OA,OB,OC,MM,LL,VV,FF,MG,LG,VG,FG]
 simp only [Wk.c,Wk.enc,Stt.c,Stt.enc,Am.c,Am.enc,ams,wls,pts,sls,gts,lks,K7,frs,bls,rts,vts,cls,bqs,sb,ints] at h0 h1 h2 h5 ⊢
 (repeat first|refine uI ?_|(refine uK ?_ ?_;focus first|omega|(intros;simp_all<;>omega))|simp (disch:=omega) only [go_sem,Nat.reduceBEq,Nat.reduceAdd])
 refine S.E8 [.gone,.box 37 [.v (.int .i64 s.tick),.sl 4 (s.arms.map Ast.enc),.sl 10 (s.parts.map Fr.enc),.sl 6 (s.people.map Vt.enc),.sl 1 (s.gates.map fun b=>[.v (.bool b)])]] (by simp [Eng.H6,Eng.U6]) ?_
 (repeat first|refine uA ?_|(refine uK ?_ ?_;focus first|omega|(intros;simp_all<;>omega))|simp (disch:=omega) only [go_sem,Nat.reduceBEq,Nat.reduceAdd,Eng.U6,c6U,c7f,ga,gx,c6V,c7a,Am.enc,Ast.enc,lks,rts,sb,ints,hh]|(refine uD h0 ?_ ?_ ?_;exact tz hw;exact rfl))
 refine S.cond rfl (fun hc=>?_) (fun hc=>?_)
 ·rw [if_pos (by simpa using hc)] at hJ
  rw [hJ]
  (repeat first|refine uA ?_|(refine uK ?_ ?_;focus first|omega|(intros;simp_all<;>omega))|simp (disch:=omega) only [go_sem])
  exact S.done (j3.out rfl (Imp.refl rfl) rfl)
 rw [if_neg (by simpa using hc)] at hJ
 (repeat first|refine uA ?_|(refine uK ?_ ?_;focus first|omega|(intros;simp_all<;>omega))|simp (disch:=omega) only [go_sem,Nat.reduceBEq,Nat.reduceAdd]|(refine uD h1 ?_ ?_ ?_;exact tz hw;exact rfl))
 refine S.cond rfl (fun hc=>by simp at hc) (fun hc=>?_)
 clear h0 h1
 (repeat first|refine uA ?_|(refine uK ?_ ?_;focus first|omega|(intros;simp_all<;>omega))|simp (disch:=omega) only [go_sem,Nat.reduceBEq,Nat.reduceAdd,c6U])
 refine S.loop (X:=Nat) (fun i=>⟨[(2,ints n),(3,cls lease),(5,.bp 0 0),(6,.bp 1 0),(11,.bp 2 0),(12,.bp 3 0),(13,.sl 6 (Q.map Sp.enc)),(14,.bp 4 0),(57,lks a.links),(58,ints a.links.length),(59,ints i)],[.box 31 w.enc,.box 37 s.enc,.box 69 a.enc,.box 49 x.enc,.box 3 [ints t]]⟩)
  (fun i=>i<=a.links.length/\∀ (j:Nat) (z:Lk × Sp),j < i->(a.links.zip Q)[j]?=some z->(decide (Nm.q9 z.2.lo (Nm.d9 z.1.low) < 0) || decide (0 < Nm.q9 z.2.hi (Nm.d9 z.1.high)))=false) (fun i=>a.links.length-i) 0 ⟨c6Z _,fun _ _ h=>absurd h (Nat.not_lt_zero _)⟩ (by simp only [Wk.enc,Stt.enc,Am.enc,Ast.enc,ams,wls,pts,sls,gts,lks,K7,frs,bls,rts,vts,cls,sb,ints,hh];exact (by (repeat first|refine uA ?_|(refine ⟨?_,?_⟩;focus first|rfl|simp [slot])|rfl|simp))) ?_
 rintro i ⟨hi,hm⟩
 simp only [Wk.enc,Stt.enc,Am.enc,Ast.enc,ams,wls,pts,sls,gts,lks,K7,frs,bls,rts,vts,cls,sb,ints,hh]
 (repeat first|refine uA ?_|(refine uK ?_ ?_;focus first|omega|(intros;simp_all<;>omega))|simp (disch:=omega) only [go_sem,Nat.reduceBEq])
 (refine uJ rfl (fun hc=>?_) fun hc=>?_)
 ·have hi':i < a.links.length:=by omega
  have hgl:=c6T hi'
  have hgq:=c6T (show i < Q.length by omega)
  generalize a.links[i]=l at hgl
  generalize Q[i]'_=z at hgq
  have rl:=hlk l (c6W hgl)
  have rz:=hqz z (c6W hgq)
  have o1:=K8 (Nm.ofQ z.lo) l.low (rz.1.mono (by decide)) (rl.2.1.mono (by decide))
  have o2:=K8 (Nm.ofQ z.hi) l.high (rz.2.mono (by decide)) (rl.2.2.1.mono (by decide))
  rw [Nm.p9] at o1 o2
  have hz:=N7 hgl hgq
  have hit:=fun hp=>a6t (p:=fun z:Lk × Sp=>decide (Nm.q9 z.2.lo (Nm.d9 z.1.low) < 0) || decide (0 < Nm.q9 z.2.hi (Nm.d9 z.1.high))) hz hp
  have nxt:=fun hp=>a2z (p:=fun z:Lk × Sp=>decide (Nm.q9 z.2.lo (Nm.d9 z.1.low) < 0) || decide (0 < Nm.q9 z.2.hi (Nm.d9 z.1.high))) hz hp hm
  simp only at hit nxt
  clear rl rz
  generalize Nm.q9 z.lo (Nm.d9 l.low)=c1 at *
  generalize Nm.q9 z.hi (Nm.d9 l.high)=c2 at *
  simp only [rc,sb,ints] at o1 o2
  (repeat first|refine uA ?_|(refine uK ?_ ?_;focus first|omega|(intros;simp_all<;>omega))|simp (disch:=omega) only [go_sem,Nat.reduceBEq,Nat.reduceAdd,hgl,hgq,c6V,c6U,c7f,Lk.enc,Sp.enc,Sn.enc,snQ,vts,sb,c7a]|(refine uD o1 ?_ ?_ ?_;exact tz hw;exact rfl)|(refine uD o2 ?_ ?_ ?_;exact tz hw;exact rfl))
  refine S.cond rfl (fun hc=>?_) (fun hc=>?_)
  ·have hL:a8t a.links Q=true:=hit (by revert hc;by_cases k1:c1 < 0<;>by_cases k2:0 < c2<;>simp [k1,k2])
   rw [if_pos hL] at hJ
   rw [hJ]
   (repeat first|refine uA ?_|(refine uK ?_ ?_;focus first|omega|(intros;simp_all<;>omega))|simp (disch:=omega) only [go_sem])
   exact S.done (j3.out rfl (Imp.refl rfl) rfl)
  ·have hp:=nxt (by revert hc;by_cases k1:c1 < 0<;>by_cases k2:0 < c2<;>simp [k1,k2])
   (repeat first|refine uA ?_|(refine uK ?_ ?_;focus first|omega|(intros;simp_all<;>omega))|simp (disch:=omega) only [go_sem,Nat.reduceBEq,ww])
   refine S.next (x:=i) (i+1) ⟨by omega,hp⟩ (by omega) (by (repeat first|refine uA ?_|(refine ⟨?_,?_⟩;focus first|rfl|simp [slot])|rfl|simp))
 have hi':i=a.links.length:=by omega
 subst hi'
 have hL:a8t a.links Q=false:=a4U fun j z hj hz=>hm j z (by rw [List.length_zip] at hj;omega) hz
 rw [if_neg (by rw [hL];decide)] at hJ
 clear hm hL
 (repeat first|refine uA ?_|(refine uK ?_ ?_;focus first|omega|(intros;simp_all<;>omega))|simp (disch:=omega) only [go_sem,Nat.reduceBEq,Nat.reduceAdd]|(refine uD h2 ?_ ?_ ?_;exact tz hw;exact rfl))
 refine S.cond rfl (fun hc=>by simp at hc) (fun hc=>?_)
 clear h2
 (repeat first|refine uA ?_|(refine uK ?_ ?_;focus first|omega|(intros;simp_all<;>omega))|simp (disch:=omega) only [go_sem,Nat.reduceBEq,c6U])
 clear hi hlk hqz hql
 refine S.loop (X:=Nat) (fun i=>⟨[(3,cls lease),(5,.bp 0 0),(6,.bp 1 0),(14,.bp 4 0),(18,.bp 5 0),(96,.sl 12 (bs.map Bq.enc)),(97,ints bs.length),(98,ints i)],[.box 31 w.enc,.box 37 s.enc,.gone,.gone,.box 3 [ints t],.box 78 [.sl 12 (bs.map Bq.enc)]]⟩)
  (fun i=>i<=bs.length/\∀ (j:Nat) (b:Bq),j < i->bs[j]?=some b->(!decide (ofE b=0) || !a2F (ofC b) lease)=false) (fun i=>bs.length-i) 0 ⟨c6Z _,fun _ _ h=>absurd h (Nat.not_lt_zero _)⟩ (by simp only [Wk.enc,Stt.enc,ams,wls,pts,sls,gts,K7,frs,bls,vts,cls,sb,ints];exact (by (repeat first|refine uA ?_|(refine ⟨?_,?_⟩;focus first|rfl|simp [slot])|rfl|simp))) ?_
 rintro i ⟨hi,hm⟩
 simp only [Wk.enc,Stt.enc,ams,wls,pts,sls,gts,K7,frs,bls,vts,cls,sb,ints]
 (repeat first|refine uA ?_|(refine uK ?_ ?_;focus first|omega|(intros;simp_all<;>omega))|simp (disch:=omega) only [go_sem,Nat.reduceBEq])
 (refine uJ rfl (fun hc=>?_) fun hc=>?_)
 ·have hi':i < bs.length:=by omega
  have hg:=c6T hi'
  generalize bs[i]=b at hg
  have hbm:=c6W hg
  have o1:=c4s b (hb30 b hbm)
  have o2:=c1R (ofC b) lease (c6X (b1M b) (by decide)) (by omega)
  have hit:=fun hp=>a6t (p:=fun b=>!decide (ofE b=0) || !a2F (ofC b) lease) hg hp
  have nxt:=fun hp=>a2z (p:=fun b=>!decide (ofE b=0) || !a2F (ofC b) lease) hg hp hm
  generalize a2F (ofC b) lease=wi at *
  generalize ofC b=D at *
  generalize ofE b=e at *
  simp only [Bq.enc,cls,sb,ints] at o1 o2
  (repeat first|refine uA ?_|(refine uK ?_ ?_;focus first|omega|(intros;simp_all<;>omega))|simp (disch:=omega) only [go_sem,Nat.reduceBEq,Nat.reduceAdd,hg,c6V,c6U,c7f,Bq.enc,sb,c7a]|(refine uB o2 ?_ ?_;exact rfl)|(refine uD o1 ?_ ?_ ?_;exact tz hw;exact rfl))
  refine S.cond rfl (fun hc=>?_) (fun hc=>?_)
  ·have hL:a8j bs lease=true:=hit (by revert hc;by_cases k1:e=0<;>cases wi<;>simp [k1])
   rw [if_pos hL] at hJ
   rw [hJ]
   (repeat first|refine uA ?_|(refine uK ?_ ?_;focus first|omega|(intros;simp_all<;>omega))|simp (disch:=omega) only [go_sem])
   exact S.done (j3.out rfl (Imp.refl rfl) rfl)
  ·have hp:=nxt (by revert hc;by_cases k1:e=0<;>cases wi<;>simp [k1])
   (repeat first|refine uA ?_|(refine uK ?_ ?_;focus first|omega|(intros;simp_all<;>omega))|simp (disch:=omega) only [go_sem,Nat.reduceBEq,ww])
   refine S.next (x:=i) (i+1) ⟨by omega,hp⟩ (by omega) (by (repeat first|refine uA ?_|(refine ⟨?_,?_⟩;focus first|rfl|simp [slot])|rfl|simp))
 have hi':i=bs.length:=by omega
 subst hi'
 have hL:a8j bs lease=false:=a4U fun j z hj hz=>hm j z hj hz
 rw [if_neg (by rw [hL];decide)] at hJ
 clear hm hL hi
 (repeat first|refine uA ?_|(refine uK ?_ ?_;focus first|omega|(intros;simp_all<;>omega))|simp (disch:=omega) only [go_sem,Nat.reduceBEq,c6U])
 refine S.loop (X:=Nat) (fun i=>⟨[(5,.bp 0 0),(6,.bp 1 0),(14,.bp 4 0),(18,.bp 5 0),(116,.sl 12 (bs.map Bq.enc)),(117,ints bs.length),(118,ints i)],[.box 31 w.enc,.box 37 s.enc,.gone,.gone,.box 3 [ints t],.box 78 [.sl 12 (bs.map Bq.enc)]]⟩)
  (fun i=>i<=bs.length/\∀ (j:Nat) (b:Bq),j < i->bs[j]?=some b->(w.walls.any fun l=>a8s (Z7 b) l)=false) (fun i=>bs.length-i) 0 ⟨c6Z _,fun _ _ h=>absurd h (Nat.not_lt_zero _)⟩ (by simp only [Wk.enc,Stt.enc,ams,wls,pts,sls,gts,K7,frs,bls,vts,sb,ints];exact (by (repeat first|refine uA ?_|(refine ⟨?_,?_⟩;focus first|rfl|simp [slot])|rfl|simp))) ?_
 rintro i ⟨hi,hm⟩
 simp only [Wk.enc,Stt.enc,ams,wls,pts,sls,gts,K7,frs,bls,vts,sb,ints]
 (repeat first|refine uA ?_|(refine uK ?_ ?_;focus first|omega|(intros;simp_all<;>omega))|simp (disch:=omega) only [go_sem,Nat.reduceBEq])
 (refine uJ rfl (fun hc=>?_) fun hc=>?_)
 ·have hi':i < bs.length:=by omega
  have hg:=c6T hi'
  generalize bs[i]=b at hg
  have hbm:=c6W hg
  have o1:=c1n b (hb32 b hbm)
  have o2:=c4l 69 (by kernel_rfl) [vts (Z7 b)] (fun l=>a8s (Z7 b) l) w.walls (by have:=hwl.1;omega) (fun l hl=>c1s (Z7 b) l (hsq b hbm) ⟨c6X (hwl.2 l hl).1 (by decide),fun v hv=>((hwl.2 l hl).2 v hv).mono (by decide)⟩)
  have hit:=fun hp=>a6t (p:=fun b=>w.walls.any fun l=>a8s (Z7 b) l) hg hp
  have nxt:=fun hp=>a2z (p:=fun b=>w.walls.any fun l=>a8s (Z7 b) l) hg hp hm
  generalize (w.walls.any fun l=>a8s (Z7 b) l)=wi at *
  generalize Z7 b=D at *
  simp only [Bq.enc,wls,vts,sb] at o1 o2
  (repeat first|refine uA ?_|(refine uK ?_ ?_;focus first|omega|(intros;simp_all<;>omega))|simp (disch:=omega) only [go_sem,Nat.reduceBEq,Nat.reduceAdd,hg,c6V,c6U,c7f,Bq.enc,sb,c7a]|(refine uD o1 ?_ ?_ ?_;exact tz hw;exact rfl)|(refine uE o2 ?_ ?_ ?_ ?_;exact tz hw;exact rfl;focus (repeat' first|exact j4.nil|exact Imp.refl rfl|exact Imp.F5|exact Imp.fbx rfl rfl (j4.refl rfl) rfl rfl|refine Imp.clo ?_|exact Imp.frz rfl rfl rfl|(refine Imp.U3 rfl rfl ?_ ?_;(focus ((try simp only [c7e,hg,c6V,c6U,c7f,Bq.enc,sb,c7a]);omega));(focus first|rfl|assumption))|refine Imp.agg ?_|refine j4.cons ?_ ?_);done))
  refine S.cond rfl (fun hc=>?_) (fun hc=>?_)
  ·have hL:b0d bs w.walls=true:=hit hc
   rw [if_pos hL] at hJ
   rw [hJ]
   (repeat first|refine uA ?_|(refine uK ?_ ?_;focus first|omega|(intros;simp_all<;>omega))|simp (disch:=omega) only [go_sem])
   exact S.done (j3.out rfl (Imp.refl rfl) rfl)
  ·have hp:=nxt hc
   (repeat first|refine uA ?_|(refine uK ?_ ?_;focus first|omega|(intros;simp_all<;>omega))|simp (disch:=omega) only [go_sem,Nat.reduceBEq,ww])
   refine S.next (x:=i) (i+1) ⟨by omega,hp⟩ (by omega) (by (repeat first|refine uA ?_|(refine ⟨?_,?_⟩;focus first|rfl|simp [slot])|rfl|simp))
 have hi':i=bs.length:=by omega
 subst hi'
 have hL:b0d bs w.walls=false:=a4U fun j z hj hz=>hm j z hj hz
 rw [if_neg (by rw [hL];decide)] at hJ
 clear hm hL hi
 (repeat first|refine uA ?_|(refine uK ?_ ?_;focus first|omega|(intros;simp_all<;>omega))|simp (disch:=omega) only [go_sem,Nat.reduceBEq,Nat.reduceAdd])
 refine uE h5 ?_ ?_ ?_ ?_
 ·exact tz hw
 ·exact rfl
 ·exact j4.cons (Imp.refl rfl) (j4.cons (Imp.clo (j4.cons (Imp.fbx rfl rfl (j4.cons (Imp.clo (j4.cons (Imp.fbx rfl rfl (j4.refl rfl) rfl rfl) j4.nil)) j4.nil) rfl rfl) (j4.cons (Imp.fbx rfl rfl (j4.refl rfl) rfl rfl) (j4.cons (Imp.fbx rfl rfl (j4.refl rfl) rfl rfl) j4.nil)))) j4.nil)
 clear h5
 (repeat first|refine uA ?_|(refine uK ?_ ?_;focus first|omega|(intros;simp_all<;>omega))|simp (disch:=omega) only [go_sem])
 refine S.cond rfl (fun hc=>?_) (fun hc=>?_)
 ·rw [if_pos hc] at hJ
  rw [hJ]
  (repeat first|refine uA ?_|(refine uK ?_ ?_;focus first|omega|(intros;simp_all<;>omega))|simp (disch:=omega) only [go_sem])
  exact S.done (j3.out rfl (Imp.refl rfl) rfl)
 rw [if_neg (by rw [hc];decide)] at hJ
 (repeat first|refine uA ?_|(refine uK ?_ ?_;focus first|omega|(intros;simp_all<;>omega))|simp (disch:=omega) only [go_sem,Nat.reduceBEq,Nat.reduceAdd,c6U])
 refine S.loop (X:=Nat) (fun i=>⟨[(5,.bp 0 0),(6,.bp 1 0),(14,.bp 4 0),(26,.bp 6 0),(135,gts w.gates),(136,ints w.gates.length),(137,ints i)],[.box 31 w.enc,.box 37 s.enc,.gone,.gone,.box 3 [ints t],.box 78 [.sl 12 (bs.map Bq.enc)],.box 140 [.clo 71 [.bp 5 0]]]⟩)
  (fun i=>i<=w.gates.length/\∀ (j:Nat) (z:Gt × Bool),j < i->(w.gates.zip s.gates)[j]?=some z->(z.2 && a0S bs (a4s w.walk t z.1))=false) (fun i=>w.gates.length-i) 0 ⟨c6Z _,fun _ _ h=>absurd h (Nat.not_lt_zero _)⟩ (by simp only [Wk.enc,Stt.enc,ams,wls,pts,sls,gts,K7,frs,bls,vts,sb,ints];exact (by (repeat first|refine uA ?_|(refine ⟨?_,?_⟩;focus first|rfl|simp [slot])|rfl|simp))) ?_
 rintro i ⟨hi,hm⟩
 simp only [Wk.enc,Stt.enc,ams,wls,pts,sls,gts,K7,frs,bls,vts,sb,ints]
 (repeat first|refine uA ?_|(refine uK ?_ ?_;focus first|omega|(intros;simp_all<;>omega))|simp (disch:=omega) only [go_sem,Nat.reduceBEq])
 (refine uJ rfl (fun hc=>?_) fun hc=>?_)
 ·have hi':i < w.gates.length:=by omega
  have hg:=c6T hi'
  have hgo:=c6T (show i < s.gates.length by omega)
  generalize w.gates[i]=g at hg
  generalize s.gates[i]'_=o at hgo
  have hz:=N7 hg hgo
  have gb:=hgb g (c6W hg)
  have r8:=H7 (hwk.fit (by decide)) ht1
  have o8:=b5v w.walk (Nm.ofQ (t:Rat)) (hwk.mono (by decide)) (ht1.mono (by decide))
  rw [Nm.p9] at o8
  have o9:=c3W g.low.x g.low.y g.high.x g.high.y (Nm.d9 w.walk*(t:Rat)) (gb.2.1.1.mono (by decide)) (gb.2.1.2.mono (by decide)) (gb.2.2.1.mono (by decide)) (gb.2.2.2.mono (by decide)) (r8.mono (by decide))
  have hGb:Bb 4294967296 (a4s w.walk t g):=by
   have:=b6R (b:=⟨Nm.d9 g.low.x,Nm.d9 g.low.y,Nm.d9 g.high.x,Nm.d9 g.high.y⟩) (r:=Nm.d9 w.walk*(t:Rat)) ⟨gb.2.1.1.fit (by decide),gb.2.1.2.fit (by decide),gb.2.2.1.fit (by decide),gb.2.2.2.fit (by decide)⟩ r8
   exact ⟨this.1.mono (by decide),this.2.1.mono (by decide),this.2.2.1.mono (by decide),this.2.2.2.mono (by decide)⟩
  change FZ 50 _ (.agg (a4s w.walk t g).enc) at o9
  have o10:=b4G bs (a4s w.walk t g) (by omega) hGb hb32
  have hit:=fun hp=>a6t (p:=fun z:Gt × Bool=>z.2 && a0S bs (a4s w.walk t z.1)) hz hp
  have nxt:=fun hp=>a2z (p:=fun z:Gt × Bool=>z.2 && a0S bs (a4s w.walk t z.1)) hz hp hm
  simp only at hit nxt
  clear r8 hGb gb
  generalize a0S bs (a4s w.walk t g)=nb at *
  generalize a4s w.walk t g=G at *
  generalize Nm.d9 w.walk*(t:Rat)=wt at *
  generalize (t:Rat)=tq at *
  simp only [Bq.enc,bqs,rq,rc,sb,ints] at o7 o8 o9 o10
  (repeat first|refine uA ?_|(refine uK ?_ ?_;focus first|omega|(intros;simp_all<;>omega))|simp (disch:=omega) only [go_sem,Nat.reduceBEq,Nat.reduceAdd,hg,hgo,hcal,c6V,c6U,c7f,Gt.enc,sb,c7a,hgn]|(refine uD o7 ?_ ?_ ?_;exact tz hw;exact rfl)|(refine uD o8 ?_ ?_ ?_;exact tz hw;exact rfl)|(refine uD o9 ?_ ?_ ?_;exact tz hw;exact rfl)|(refine uE o10 ?_ ?_ ?_ ?_;exact tz hw;exact rfl;focus (repeat' first|exact j4.nil|exact Imp.refl rfl|exact Imp.F5|exact Imp.fbx rfl rfl (j4.refl rfl) rfl rfl|refine Imp.clo ?_|exact Imp.frz rfl rfl rfl|(refine Imp.U3 rfl rfl ?_ ?_;(focus ((try simp only [c7e,hg,hgo,hcal,c6V,c6U,c7f,Gt.enc,Vt.enc,Bq.enc,sb,c7a,hgn]);omega));(focus first|rfl|assumption))|refine Imp.agg ?_|refine j4.cons ?_ ?_);done))
  refine S.cond rfl (fun hc=>?_) (fun hc=>?_)
  ·have hL:a7N bs w.walk t w.gates s.gates=true:=hit (by revert hc;cases o<;>cases nb<;>simp)
   rw [if_pos hL] at hJ
   rw [hJ]
   (repeat first|refine uA ?_|(refine uK ?_ ?_;focus first|omega|(intros;simp_all<;>omega))|simp (disch:=omega) only [go_sem])
   exact S.done (j3.out rfl (Imp.refl rfl) rfl)
  ·have hp:=nxt (by revert hc;cases o<;>cases nb<;>simp)
   (repeat first|refine uA ?_|(refine uK ?_ ?_;focus first|omega|(intros;simp_all<;>omega))|simp (disch:=omega) only [go_sem,Nat.reduceBEq,ww])
   refine S.next (x:=i) (i+1) ⟨by omega,hp⟩ (by omega) (by (repeat first|refine uA ?_|(refine ⟨?_,?_⟩;focus first|rfl|simp [slot])|rfl|simp))
 ·have hi':i=w.gates.length:=by omega
  subst hi'
  have hL:a7N bs w.walk t w.gates s.gates=false:=a4U fun j z hj hz=>hm j z (by rw [List.length_zip] at hj;omega) hz
  rw [if_neg (by rw [hL];decide)] at hJ
  rw [hJ]
  (repeat first|refine uA ?_|(refine uK ?_ ?_;focus first|omega|(intros;simp_all<;>omega))|simp (disch:=omega) only [go_sem])
  exact S.done (j3.out rfl (Imp.refl rfl) rfl)
set_option maxHeartbeats 16000000
def a1V (k:Int):Int:=if k=5 then 8 else k+1
theorem a9E {k:Int} (h0:0<=k) (h1:k < 6):1<=a1V k/\a1V k<=8:=by unfold a1V;split<;>omega
theorem c4h (k:Int) (h0:0<=k) (h1:k < 6):([[C.v (.int .i64 1)],[C.v (.int .i64 2)],[C.v (.int .i64 3)],[C.v (.int .i64 4)],[C.v (.int .i64 5)],[C.v (.int .i64 8)]]:List (List C))[k.toNat]?=some [C.v (.int .i64 (a1V k))]:=by
 have:k=0 \/ k=1 \/ k=2 \/ k=3 \/ k=4 \/ k=5:=by omega
 rcases this with rfl|rfl|rfl|rfl|rfl|rfl<;>rfl
def a9S (x:Int):Int:=x.tdiv 6 % (16*a1V (x % 6)+1)-8*a1V (x % 6)
def a9V (x:Int):Rat:=mkRat (a9S x) (a1V (x % 6)).toNat
theorem b4b (x:Int):-64<=a9S x/\a9S x<=64:=by
 unfold a9S
 have h:=a9E (k:=x % 6) (Int.emod_nonneg _ (by decide)) (Int.emod_lt_of_pos _ (by decide))
 generalize a1V (x % 6)=d at *
 have h1:=Int.emod_nonneg (x.tdiv 6) (show 16*d+1 ≠ 0 by omega)
 have h2:=Int.emod_lt_of_pos (x.tdiv 6) (show 0 < 16*d+1 by omega)
 omega
theorem b6C (x:Int):Rb 3 (Nm.ofQ (a9V x)):=by
 have h:=a9E (k:=x % 6) (Int.emod_nonneg _ (by decide)) (Int.emod_lt_of_pos _ (by decide))
 have h2:=b4b x
 exact U9 (R9 _ _ (by omega) (by omega))
theorem b9M (x:Int) (h:0<=x/\x < 1048576):y9 Tryz.prog 32 [ints x] (rc (Nm.ofQ (a9V x))):=by
 refine kS b0s b0H (by rfl) fun w O=>?_
 have o1:=a9R x 6 (by decide)
 have r1:=Int.emod_nonneg x (show (6:Int) ≠ 0 by decide)
 have r2:=Int.emod_lt_of_pos x (show (0:Int) < 6 by decide)
 have hd:=c4h (x % 6) r1 r2
 have hr:=a9E r1 r2
 have hn:=b4b x
 have ht:0<=x.tdiv 6/\x.tdiv 6<=x:=⟨Int.tdiv_nonneg h.1 (by decide),Int.tdiv_le_self _ h.1⟩
 have o2:=a9R (x.tdiv 6) (16*a1V (x % 6)+1) (by omega)
 have o3:=a1j (a9S x) (a1V (x % 6)) (by omega) (by omega)
 unfold a9V
 unfold Q at o3
 have hne:a9S x=x.tdiv 6 % (16*a1V (x % 6)+1)-8*a1V (x % 6):=rfl
 have h1:=Int.emod_nonneg (x.tdiv 6) (show 16*a1V (x % 6)+1 ≠ 0 by omega)
 have h2:=Int.emod_lt_of_pos (x.tdiv 6) (show 0 < 16*a1V (x % 6)+1 by omega)
 generalize mkRat (a9S x) (a1V (x % 6)).toNat=v at *
 rw [hne] at o3
 clear hne hn
 generalize a1V (x % 6)=d at *
 generalize x % 6=k at *
 generalize x.tdiv 6 % (16*d+1)=m at *
 generalize hq:x.tdiv 6=y at *
 simp only [a5C,j5,TT,II,OA,OB,MM,VV]
 generalize Nm.ofQ v=v at *
 simp only [rc,sb,ints] at *
 (repeat first|refine uA ?_|(apply uK;focus omega)|simp (disch:=omega) only [go_sem,Nat.reduceBEq,ww,hd,hq]|(apply uB o1;exact rfl)|(apply uB o2;exact rfl)|(apply uB o3;exact rfl))
 (refine S.done ?_;simp only [p8,r9,go_sem,Nat.reduceBEq,Nat.reduceAdd,Nat.reduceLeDiff];(repeat (refine ⟨?_,?_⟩;focus first|trivial|omega|simp));exact j3.out rfl (Imp.refl rfl) rfl)
def ptG (l:List Int):Rat × Rat:=(a9V (nx l 1048576),a9V (nx (l.drop 1) 1048576))
theorem c4Y (l:List Int):y9 Tryz.prog 12 [u6 l] (pvt (ptG l)).c:=by
 refine kS b1h b1d (by rfl) fun w O=>?_
 have n1:=fun (E:Ctx) (hP:E.P=Tryz.prog)=>G8 hP l 1048576 (by decide)
 have n2:=fun (E:Ctx) (hP:E.P=Tryz.prog)=>G8 hP (l.drop 1) 1048576 (by decide)
 have o1:=b9M (nx l 1048576) ⟨l9 l (by decide),A8 l (by decide)⟩
 have o2:=b9M (nx (l.drop 1) 1048576) ⟨l9 (l.drop 1) (by decide),A8 (l.drop 1) (by decide)⟩
 unfold pvt ptG
 simp only
 generalize Nm.ofQ (a9V (nx l 1048576))=q1 at *
 generalize Nm.ofQ (a9V (nx (l.drop 1) 1048576))=q2 at *
 generalize nx l 1048576=x1 at *
 generalize nx (l.drop 1) 1048576=x2 at *
 simp only [a5r,j5,TT,II,OA,OB,MM]
 simp only [Vt.c,Vt.enc,rc,u6,sb,ints] at *
 (repeat first|refine uA ?_|(apply uK;focus omega)|simp (disch:=omega) only [go_sem,Nat.reduceBEq]|refine l8.t (j6.lift (k:=1) rfl (n1 _ rfl) rfl rfl rfl) ?_|refine l8.t (j6.lift (k:=1) rfl (n2 _ rfl) rfl rfl rfl) ?_|(apply uB o1;exact rfl)|(apply uB o2;exact rfl))
 (refine S.done ?_;simp only [p8,r9,go_sem,Nat.reduceBEq,Nat.reduceAdd,Nat.reduceLeDiff];(repeat (refine ⟨?_,?_⟩;focus first|trivial|omega|simp));exact j3.out rfl (Imp.refl rfl) rfl)
theorem c1K (l:List Int):a3e (pvt (ptG l))=true:=by
 unfold a3e M4 pvt
 rw [decide_eq_true (Nm.a0E _),decide_eq_true (Nm.a0E _)]
 rfl
theorem c5W (l:List Int):Vb 1048576 (pvt (ptG l)):=⟨(b6C _).mono (by decide),(b6C _).mono (by decide)⟩
theorem b0E {bs:List Bq} {walk:Nm.Rt} {t:Int} {G:List Gt} {O:List Bool} (h:∀ o ∈ O,o=false):a7N bs walk t G O=false:=by
 unfold a7N
 rw [List.any_eq_false]
 rintro ⟨g,o⟩ hz
 have:=h o (List.of_mem_zip hz).2
 simp [this]
theorem b7C {w:Wk} {a:Am} {q u:List Nm.Rt} {lease:List Cl} {O:List Bool} (h:∀ o ∈ O,o=false):a2d w a q u lease [] O ≠ 5/\a2d w a q u lease [] O ≠ 6:=by
 unfold a2d b0h
 rw [b0E h]
 by_cases c1:a0D (a.links.zip (q.zip u))=false
 ·rw [if_pos c1];decide
 rw [if_neg c1]
 by_cases c2:a8t a.links (I9 a.links q u)=true
 ·rw [if_pos c2];decide
 rw [if_neg c2]
 by_cases c3:a8j (Y8 a (I9 a.links q u)) lease=true
 ·rw [if_pos c3];decide
 rw [if_neg c3]
 by_cases c4:b0d (Y8 a (I9 a.links q u)) w.walls=true
 ·rw [if_pos c4];decide
 rw [if_neg c4]
 simp
theorem b8I {w:Wk} {a:Am} {q u:List Nm.Rt} {lease:List Cl} {ps:List (Rat × Rat)} {O O':List Bool} (h:∀ o ∈ O,o=false) (hz:a2d w a q u lease ps O'=0):a2d w a q u lease [] O=0:=by
 unfold a2d b0h at hz ⊢
 rw [b0E h]
 by_cases c1:a0D (a.links.zip (q.zip u))=false
 ·rw [if_pos c1] at hz;exact absurd hz (by decide)
 rw [if_neg c1] at hz ⊢
 by_cases c2:a8t a.links (I9 a.links q u)=true
 ·rw [if_pos c2] at hz;exact absurd hz (by decide)
 rw [if_neg c2] at hz ⊢
 by_cases c3:a8j (Y8 a (I9 a.links q u)) lease=true
 ·rw [if_pos c3] at hz;exact absurd hz (by decide)
 rw [if_neg c3] at hz ⊢
 by_cases c4:b0d (Y8 a (I9 a.links q u)) w.walls=true
 ·rw [if_pos c4] at hz;exact absurd hz (by decide)
 rw [if_neg c4]
 simp
def jP (w:Wk) (ps:List (Rat × Rat)) (O:List Bool) (z:Zt) (lease:List Cl):Int:=a2d w z.1 z.2.1.q z.2.2 lease ps O
theorem c0x {w:Wk} {Z:List Zt} {ls:List (List Cl)} {ps:List (Rat × Rat)} {O O':List Bool} (h:∀ o ∈ O,o=false) (i:Nat) (r r':Int) (h1:(rZ (jP w [] O) Z ls)[i]?=some r) (h2:(rZ (jP w ps O') Z ls)[i]?=some r'):(r'=0->r=0)/\r ≠ 5/\r ≠ 6:=by
 obtain ⟨z,l,hz,hl,rfl⟩:=b1R h1
 obtain ⟨z',l',hz',hl',rfl⟩:=b1R h2
 rw [hz] at hz'
 rw [hl] at hl'
 cases hz'
 cases hl'
 exact ⟨fun h3=>b8I h h3,b7C h⟩
theorem b7T {w:Wk} {s:Stt} {ps:List Vt} {gs:List Bool} (h:P7 w s=0) (hp:ps.length<=4) (hg:ps.all a3e=true) (hl:gs.length=s.gates.length):P7 w ⟨s.tick,s.arms,s.parts,ps,gs⟩=0:=by
 unfold P7 at h ⊢
 simp only [hl]
 split at h
 ·contradiction
 split at h
 ·exact absurd h (by decide)
 split at h
 ·exact absurd h (by decide)
 split at h
 ·contradiction
 split at h
 ·rename_i c1 c2 c3 c4 c5
  rw [if_neg c1,if_neg (by omega),if_neg c3,if_neg c4,hg]
  simp only [c7c] at c5
  rw [c5.1]
  rfl
 ·exact absurd h (by decide)
def a1w:N9:=⟨171,[.tmp 10],.seq (.reg [OA 10 (.mv (.const (.bool false)))]) (.seq (.reg [MM 29 0,MM 30 1,OA 31 (.call 5 [TT 29,TT 30]),MM 28 31,OA 32 (.ext (TT 28) 0),OA 33 (.ext (TT 28) 1),OA 34 (.ext (TT 28) 2),OA 11 (.alloc 31
 [.slice none 0 0,.slice none 0 0,.slice none 0 0,.slice none 0 0,.slice none 0 0,.bool false,.string ⟨#[]⟩,.string ⟨#[]⟩]),OA 12 (.alloc 37 [.int .i64 0,.slice none 0 0,.slice none 0 0,.slice none 0 0,.slice none 0
 0]),OB (.store 8 (TT 11) (TT 32)),OB (.store 5 (TT 12) (TT 33)),MM 13 34]) (.seq (.seq (.reg [MM 35 13,OA 36 (.un .not (TT 35))]) (.cond (TT 36) (.seq (.reg [OA 10 (.mv (.const (.bool false)))]) .ret) .skip)) (.seq (.reg [LL
 37 8 11,LL 38 5 12,MM 39 2,OA 40 (.call 6 [TT 37,TT 38,TT 39]),MM 14 40]) (.seq (.reg [OA 15 (.mv (.const (.slice none 0 0)))]) (.seq (.seq (.reg [FF 41 0 11,VV 42 41,OA 43 (.len false (TT 42)),OA 44 (.mv (II 0))])
 (.block 0 (.loop (.seq (.reg [OA 45 (.bin .lss (TT 44) (TT 43))]) (.seq (.cond (TT 45) .skip (.exit 0)) (.seq (.block 1 (.seq (.reg [MM 46 44,MM 16 46]) (.seq (.E8 [.q,.q,.q,.q,.q,.q,.q,.q,.q,.q,.q,.q,.q,.q,.q,
 .q,.q] [LL 48 8 11,MM 49 16,FF 50 1 12,VV 51 50,MM 52 16,OA 53 (.q8 4 (TT 51) (TT 52)),LL 54 4 53,MM 55 14,MM 56 16,OA 57 (.q8 1 (TT 55) (TT 56)),VV 58 57,OA 59 (.call 7 [TT 48,TT 49,TT 54,TT 58]),MM 47 59,
 OA 60 (.ext (TT 47) 0),OA 61 (.ext (TT 47) 1),MM 17 60,MM 18 61]) (.seq (.seq (.reg [MM 62 18,OA 63 (.bin .neq (TT 62) (II 0))]) (.cond (TT 63) (.seq (.reg [OA 10 (.mv (.const (.bool true)))]) .ret) .skip)) (.reg [MM 64 15,
 MM 65 17,OA 66 (.bsl 43 1 1 [.slice none 0 0] [(0,TT 65)]),OA 67 (.app 43 1 24 (TT 64) (TT 66)),MM 15 67]))))) (.reg [OA 68 (.bin .add (TT 44) (II 1)),MM 44 68]))))))) (.seq (.reg [LL 69 5 12,OA 70 (.call 11 [TT 69]),OA
 19 (.alloc 37 [.int .i64 0,.slice none 0 0,.slice none 0 0,.slice none 0 0,.slice none 0 0]),OB (.store 5 (TT 19) (TT 70))]) (.seq (.reg [MM 71 3,OA 72 (.call 12 [TT 71]),OA 73 (.bsl 59 6 1 [.bool false,.string ⟨#[]⟩,
 .string ⟨#[]⟩,.bool false,.string ⟨#[]⟩,.string ⟨#[]⟩] [(0,TT 72)]),FF 74 3 19,OB (.store 1 (TT 74) (TT 73))]) (.seq (.seq (.reg [FF 75 4 19,VV 76 75,OA 77 (.len false (TT 76)),OA 78 (.mv (II 0))]) (.block 2 (.loop
 (.seq (.reg [OA 79 (.bin .lss (TT 78) (TT 77))]) (.seq (.cond (TT 79) .skip (.exit 2)) (.seq (.block 3 (.seq (.reg [MM 80 78,MM 20 80]) (.reg [FF 81 4 19,VV 82 81,MM 83 20,MM 84 4,OA 85 (.len false (TT 84)),OA 86 (.bin
 .gtr (TT 85) (II 0)),OA 87 (.q8 1 (TT 82) (TT 83)),OB (.store 1 (TT 87) (TT 86))]))) (.reg [OA 88 (.bin .add (TT 78) (II 1)),MM 78 88]))))))) (.seq (.reg [LL 90 8 11,LL 91 5 12,MM 92 15,MM 93 14,OA 94 (.call 10 [TT 90,
 TT 91,TT 92,TT 93]),MM 89 94,OA 95 (.ext (TT 89) 0),OA 96 (.ext (TT 89) 1),OA 97 (.ext (TT 89) 2),MM 21 95,MM 22 96,MM 23 97]) (.seq (.reg [LL 99 8 11,LL 100 5 19,MM 101 15,MM 102 14,OA 103 (.call 10 [TT 99,TT 100,
 TT 101,TT 102]),MM 98 103,OA 104 (.ext (TT 98) 0),OA 105 (.ext (TT 98) 1),OA 106 (.ext (TT 98) 2),MM 24 104,MM 25 105,MM 26 106]) (.seq (.seq (.reg [MM 107 23,OA 108 (.bin .eql (TT 107) (II 10))]) (.cond (TT 108) (.seq
 (.reg [MM 109 26,MM 110 23,OA 111 (.bin .eql (TT 109) (TT 110)),MM 10 111]) .ret) .skip)) (.seq (.seq (.reg [MM 112 23,OA 113 (.bin .neq (TT 112) (II 0)),MM 114 113,MG 115 26 114 false,OC 116 (.bin .neq (TT 115) (II 0))
 114 false,OA 117 (.pick (TT 114) (.const (.bool true)) (TT 116)),MM 118 117,MG 119 21 118 false,OC 120 (.len false (TT 119)) 118 false,FG 121 0 11 118 false,VG 122 121 118 false,OC 123 (.len false (TT 122)) 118 false,OC
 124 (.bin .neq (TT 120) (TT 123)) 118 false,OA 125 (.pick (TT 118) (.const (.bool true)) (TT 124)),MM 126 125,MG 127 24 126 false,OC 128 (.len false (TT 127)) 126 false,MG 129 21 126 false,OC 130 (.len false (TT 129)) 126
 false,OC 131 (.bin .neq (TT 128) (TT 130)) 126 false,OA 132 (.pick (TT 126) (.const (.bool true)) (TT 131)),MM 133 132,MG 134 22 133 false,OC 135 (.len false (TT 134)) 133 false,MG 136 21 133 false,OC 137 (.len false (TT
 136)) 133 false,OC 138 (.bin .neq (TT 135) (TT 137)) 133 false,OA 139 (.pick (TT 133) (.const (.bool true)) (TT 138))]) (.cond (TT 139) (.seq (.reg [OA 10 (.mv (.const (.bool false)))]) .ret) .skip)) (.seq (.seq (.reg [MM 140
 21,OA 141 (.len false (TT 140)),OA 142 (.mv (II 0))]) (.block 4 (.loop (.seq (.reg [OA 143 (.bin .lss (TT 142) (TT 141))]) (.seq (.cond (TT 143) .skip (.exit 4)) (.seq (.block 5 (.seq (.reg [MM 144 142,MM 27 144]) (.seq (.reg
 [MM 145 24,MM 146 27,OA 147 (.q8 1 (TT 145) (TT 146)),VV 148 147,MM 149 148,MG 150 21 149 true,MG 151 27 149 true,OC 152 (.q8 1 (TT 150) (TT 151)) 149 true,VG 153 152 149 true,OC 154 (.un .not (TT 153)) 149 true,
 OA 155 (.pick (TT 149) (TT 154) (.const (.bool false))),MM 156 155,MG 157 22 156 false,MG 158 27 156 false,OC 159 (.q8 1 (TT 157) (TT 158)) 156 false,VG 160 159 156 false,OC 161 (.bin .eql (TT 160) (II 5)) 156 false,OA
 162 (.pick (TT 156) (.const (.bool true)) (TT 161)),MM 163 162,MG 164 22 163 false,MG 165 27 163 false,OC 166 (.q8 1 (TT 164) (TT 165)) 163 false,VG 167 166 163 false,OC 168 (.bin .eql (TT 167) (II 6)) 163 false,OA 169
 (.pick (TT 163) (.const (.bool true)) (TT 168))]) (.cond (TT 169) (.seq (.reg [OA 10 (.mv (.const (.bool false)))]) .ret) .skip)))) (.reg [OA 170 (.bin .add (TT 142) (II 1)),MM 142 170]))))))) (.seq (.reg [OA 10 (.mv (.const
 (.bool true)))]) .ret))))))))))))))⟩
theorem a4M:J5 eff Tryz.prog Tryz.f4=some a1w:=by kernel_rfl
theorem a4S:Tryz.prog.funcs[4]?=some Tryz.f4:=Tryz.func4
set_option maxHeartbeats 32000000
theorem c3q {d:Bool} {g:List Bool} {i:Nat} (h:i < g.length):(List.replicate i d++g.drop i).set i d=List.replicate (i+1) d++g.drop (i+1):=by
 rw [List.set_append_right _ _ (by simp),List.length_replicate,Nat.sub_self,List.drop_eq_getElem_cons h,List.set_cons_zero,List.replicate_succ',c7A]
 rfl
theorem b4V {d:Bool} {g:List Bool} {i:Nat} (h:i<=g.length):(List.replicate i d++g.drop i).length=g.length:=by simp;omega
theorem b3m (raw pose to at' door:List Int) (hp:pose.length<=1048576) (hn:to.length<=1048576) (hdn:door.length<=1048576):FZ 4 [u6 raw,u6 pose,u6 to,u6 at',u6 door] (.v (.bool true)):=by
  refine kW a4S a4M (by rfl) fun w' O hw=>?_
  have hk:=a7j raw
  obtain ⟨ha,hs⟩:=a3N raw
  have hwb:=a9H raw
  have hps:=c3o raw pose hp
  have hC0:=b0g pose hwb hk ha hs
  have hSb:Stb 1073741824 _:=(c4z hC0 (by decide)).mono (by decide)
  have hZ:=@c5Q raw pose to
  have hgf:∀ o ∈ (D8 (u7 raw)).gates,o=false:=fun o ho=>c7t (show o ∈ List.replicate _ false from ho)
  have hpl:=a5A (u7 raw) pose
  have hv:=c4Y at'
  have hvg:=c1K at'
  have hvb:=c5W at'
  generalize ptG at'=pt at *
  generalize Y6 (u7 raw) pose=L at *
  generalize (D8 (u7 raw)).parts=P0 at *
  generalize (D8 (u7 raw)).gates=g0 at *
  generalize u7 raw=w at *
  have hwi:=c0W w ⟨0,L,P0,[],g0⟩ to 0 hC0.c4P (by decide) hn
  have hok:=a2x hC0.st
  have hnA:w.arms.length<=4:=hok.big.2.1
  have hnP:w.parts.length<=6:=hok.big.2.2.1
  have hgn:g0.length=w.gates.length:=hok.gates
  have hUl:=b2O (w.arms.zip L) to w.arms.length
  simp only at hwi
  generalize a1U (w.arms.zip L) to w.arms.length=U at *
  have hZl:=c5B (w:=w) hpl hUl
  have hZg:∀ {i:Nat} {z:Zt},(zZ w L U)[i]?=some z->w.arms[i]?=some z.1/\L[i]?=some z.2.1/\U[i]?=some z.2.2:=fun {i z} h=>by
    unfold zZ at h
    rw [List.getElem?_zip_eq_some] at h
    obtain ⟨h1,h2⟩:=h
    rw [List.getElem?_zip_eq_some] at h2
    exact ⟨h1,h2.1,h2.2⟩
  generalize zZ w L U=Z at *
  have hCl:∀ (i:Nat) (z:Zt),Z[i]?=some z->FZ 7 [w.c,ints i,z.2.1.c,rts z.2.2] (.tup [cls (a6v (bsZ z)),ints (cellsE (bsZ z))]):=fun i z h=>by
    have o:=hZ z (c6W h)
    exact c3S w i z.1 z.2.1 z.2.2 (by omega) (by omega) (hZg h).1 ((O8 o.arm).1.mono (by decide)) o.arm o.holds o.ql o.ul o.qb o.few
  have hJ:∀ (ps:List (Rat × Rat)) (gs:List Bool) (ls:List (List Cl)),ps.length<=1->(∀ p ∈ ps,Vb 1048576 (pvt p)/\a3e (pvt p)=true)->gs.length=g0.length->ls.length=w.arms.length->(∀ l ∈ ls,a8F l) ->
      FZ 10 [w.c,(Stt.mk 0 L P0 (ps.map pvt) gs).c,U5 ls,wss U] (.tup [powC (if a1r ls=true then [] else rZ (jP w ps gs) Z ls),u6 (if a1r ls=true then [] else rZ (jP w ps gs) Z ls),ints (if a1r ls=true then 10 else 0)]):=fun ps gs ls hpn hpg hgl hl hg=>by
    have hst:P7 w ⟨0,L,P0,ps.map pvt,gs⟩=0:=b7T hC0.st (by rw [c6U];omega) (List.all_eq_true.2 fun v hv=>by
      obtain ⟨p,hp,rfl⟩:=List.mem_map.1 hv
      exact (hpg p hp).2) hgl
    have hsb:Stb 1073741824 ⟨0,L,P0,ps.map pvt,gs⟩:=⟨hSb.arms,hSb.parts,⟨by rw [c6U];omega,fun v hv=>by
      obtain ⟨p,hp,rfl⟩:=List.mem_map.1 hv
      exact ⟨(hpg p hp).1.1.mono (by decide),(hpg p hp).1.2.mono (by decide)⟩⟩,by have:=hSb.gates;simp only at this ⊢;omega⟩
    refine c3K w ⟨0,L,P0,ps.map pvt,gs⟩ ls U (rZ (jP w ps gs) Z ls) (hwb.mono (by decide)) hsb hst hl hUl (by rw [b9l (by omega),hZl]) (by omega) hg fun n l u r h1 h2 h3=>?_
    obtain ⟨z,l',hz,hl',rfl⟩:=b1R h3
    rw [h1] at hl'
    cases hl'
    obtain ⟨g1,g2,g3⟩:=hZg hz
    rw [h2] at g3
    cases g3
    have o:=hZ z (c6W hz)
    exact c3R w ⟨0,L,P0,ps.map pvt,gs⟩ n z.1 z.2.1 l z.2.2 ps hwb g1 g2 o.arm o.holds o.ql o.ul o.qb o.few o.t0 o.t8 (c6X (hg l (c6W h1)).1 (by decide)) rfl (fun p hp=>(hpg p hp).1) (by omega) (by simp only;omega) (by omega) (by omega)
  have hgb:g0.length<=1048576:=by have:=hwb.gates.1;omega
  clear hk ha hs hC0 hok hwb
  have hRl:∀ (ps:List (Rat × Rat)) (gs:List Bool) (ls:List (List Cl)),ls.length=w.arms.length->(rZ (jP w ps gs) Z ls).length=w.arms.length:=fun ps gs ls h=>by rw [b9l (by omega),hZl]
  have hcp:=fun (E:Ctx) (hP:E.P=Tryz.prog)=>c5z hP ⟨0,L,P0,[],g0⟩ hSb
  clear hSb
  simp only [a1w,j5,TT,II,OA,OB,OC,MM,LL,VV,FF,MG,VG,FG]
  simp only [Wk.c,Wk.enc,Stt.c,Stt.enc,Ast.c,Ast.enc,Vt.c,Vt.enc,ams,wls,pts,sls,gts,K7,frs,bls,vts,cls,wss,rts,u6,sb,ints,c7q] at hps hwi hCl hv hcp ⊢
  (repeat first|refine uA ?_|(refine uK ?_ ?_;focus first|omega|(intros;simp_all<;>omega))|simp (disch:=omega) only [go_sem,Nat.reduceBEq,Nat.reduceAdd]|(refine uD hps ?_ ?_ ?_;exact tz hw;exact rfl))
  refine S.cond rfl (fun hc=>by simp at hc) (fun hc=>?_)
  (repeat first|refine uA ?_|(refine uK ?_ ?_;focus first|omega|(intros;simp_all<;>omega))|simp (disch:=omega) only [go_sem,Nat.reduceBEq,Nat.reduceAdd,c6U]|(refine uD hwi ?_ ?_ ?_;exact tz hw;exact rfl))
  refine S.loop (X:=Nat) (fun i=>⟨[(3,u6 at'),(4,u6 door),(11,.bp 0 0),(12,.bp 1 0),(14,wss U),(15,.rv 2),(43,ints w.arms.length),(44,ints i)],[.box 31 w.enc,.box 37 (Stt.mk 0 L P0 [] g0).enc,.row 43 1 (((aZ Z).take i).map fun l=>[cls l])]⟩)
    (fun i=>i<=w.arms.length/\∀ (j:Nat) (z:Zt),j < i->Z[j]?=some z->cellsE (bsZ z)=0) (fun i=>w.arms.length-i) 0 ⟨c6Z _,fun _ _ h=>absurd h (Nat.not_lt_zero _)⟩ (Ent.trans (Ent.pack 15 43 1 rfl) (by simp only [Wk.enc,Stt.enc,ams,wls,pts,sls,gts,K7,frs,bls,vts,cls,wss,rts,u6,sb,ints,List.take_zero,c7q];exact (by (repeat first|refine uA ?_|(refine ⟨?_,?_⟩;focus first|rfl|simp [slot])|rfl|simp)))) ?_
  rintro i ⟨hi,hm⟩
  clear hps hwi
  simp only [Wk.enc,Stt.enc,ams,wls,pts,sls,gts,K7,frs,bls,vts,cls,wss,rts,u6,sb,ints,c7q]
  (repeat first|refine uA ?_|(refine uK ?_ ?_;focus first|omega|(intros;simp_all<;>omega))|simp (disch:=omega) only [go_sem,Nat.reduceBEq])
  (refine uJ rfl (fun hc=>?_) fun hc=>?_)
  · have hi':i < w.arms.length:=by omega
    have hgz:=c6T (show i < Z.length by omega)
    generalize Z[i]'_=z at hgz
    obtain ⟨g1,g2,g3⟩:=hZg hgz
    have o1:=hCl i z hgz
    have hap:=c1E (c4B hgz)
    have hil:(i:Int) < L.length:=by omega
    have hiu:(i:Int) < U.length:=by omega
    have htl:((aZ Z).take i).length=i:=by rw [c7d,b4k];omega
    have hR:cellsE (bsZ z)=0->a6v (bsZ z)=L9 (bsZ z):=fun h=>by unfold a6v;rw [if_pos h]
    have nxt:=fun h:cellsE (bsZ z)=0=>a2z (p:=fun z:Zt=>!decide (cellsE (bsZ z)=0)) hgz (by simp [h]) (fun j y hj hy=>by simp [hm j y hj hy])
    generalize L9 (bsZ z)=D at *
    generalize a6v (bsZ z)=D' at *
    generalize cellsE (bsZ z)=e at *
    clear hCl hJ hcp hv
    (repeat first|refine uA ?_|(refine uK ?_ ?_;focus first|omega|(intros;simp_all<;>omega))|simp (disch:=omega) only [go_sem,Nat.reduceBEq,Nat.reduceAdd,c6U,c7f,g2,g3,c6V,c7a,Ast.enc,rts,ints,hil,hiu]|(refine uD o1 ?_ ?_ ?_;exact tz hw;exact rfl))
    (refine uJ rfl (fun hc=>?_) fun hc=>?_)
    · (repeat first|refine uA ?_|(refine uK ?_ ?_;focus first|omega|(intros;simp_all<;>omega))|simp (disch:=omega) only [go_sem])
      exact S.done (j3.out rfl (Imp.refl rfl) rfl)
    · have he:e=0:=by omega
      have hD:=hR he
      subst hD
      have hp:=nxt he
      (repeat first|refine uA ?_|(refine uK ?_ ?_;focus first|omega|(intros;simp_all<;>omega))|simp (disch:=omega) only [go_sem,Nat.reduceBEq,Nat.reduceAdd,ww,htl,c6U])
      refine S.next (x:=i) (i+1) ⟨by omega,fun j y hj hy=>by simpa using hp j y hj hy⟩ (by omega) (by simp only [hap,c7G,c7i,c7q];exact (by (repeat first|refine uA ?_|(refine ⟨?_,?_⟩;focus first|rfl|simp [slot])|rfl|simp)))
  have hi':i=w.arms.length:=by omega
  subst hi'
  have hE:∀ z ∈ Z,cellsE (bsZ z)=0:=fun z hz=>by
    obtain ⟨j,hj⟩:=List.mem_iff_getElem?.1 hz
    exact hm j z (by have:=(c6Y.1 hj).1;omega) hj
  rw [c7o (by rw [b4k];omega)]
  have hAl:(aZ Z).length=w.arms.length:=by rw [b4k,hZl]
  have hAg:=c3v hE
  generalize aZ Z=A at *
  clear hCl hm hi hZg hZ
  (repeat first|refine uA ?_|(refine uK ?_ ?_;focus first|omega|(intros;simp_all<;>omega))|simp (disch:=omega) only [go_sem,Nat.reduceBEq,Nat.reduceAdd,C.sh,C.shL,c7m,List.length_nil,c6U]|refine l8.t (j6.pre (hcp _ rfl) rfl rfl rfl) ?_|(refine uB hv ?_ ?_;exact rfl))
  refine S.loop (X:=Nat) (fun i=>⟨[(4,u6 door),(11,.bp 0 0),(12,.bp 1 0),(14,wss U),(15,.rv 2),(19,.bp 7 0),(77,ints g0.length),(78,ints i)],[.box 31 w.enc,.box 37 (Stt.mk 0 L P0 [] g0).enc,.row 43 1 (A.map fun l=>[cls l]),.gone,.gone,.gone,.row 4 1 ((List.replicate i (decide (0 < door.length))++g0.drop i).map fun b=>[.v (.bool b)]),.box 37 [ints 0,K7 L,frs P0,.rv 8,.rv 6],.row 59 6 [(pvt pt).enc]]⟩)
    (fun i=>i<=g0.length) (fun i=>g0.length-i) 0 (c6Z _) (by simp only [Wk.enc,Stt.enc,Vt.enc,ams,wls,pts,sls,gts,K7,frs,bls,vts,cls,wss,rts,u6,sb,ints,c7q,List.replicate_zero,List.nil_append,List.drop_zero];exact (by (repeat first|refine uA ?_|(refine ⟨?_,?_⟩;focus first|rfl|simp [slot])|rfl|simp))) ?_
  intro i hi
  simp only [Wk.enc,Stt.enc,ams,wls,pts,sls,gts,K7,frs,bls,vts,cls,wss,rts,u6,sb,ints,c7q]
  (repeat first|refine uA ?_|(refine uK ?_ ?_;focus first|omega|(intros;simp_all<;>omega))|simp (disch:=omega) only [go_sem,Nat.reduceBEq])
  (refine uJ rfl (fun hc=>?_) fun hc=>?_)
  · have hi':i < g0.length:=by omega
    have hml:=b4V (d:=decide (0 < door.length)) hi
    have hms:=c3q (d:=decide (0 < door.length)) hi'
    have hdl:decide (0 < (door.length:Int))=decide (0 < door.length):=decide_eq_decide.2 (by omega)
    have hse:((List.replicate i (decide (0 < door.length))++g0.drop i).map fun b=>[C.v (.bool b)]).set i [C.v (.bool (decide (0 < door.length)))]=(List.replicate (i+1) (decide (0 < door.length))++g0.drop (i+1)).map fun b=>[C.v (.bool b)]:=by rw [<- hms,List.map_set]
    obtain ⟨b0,hgg⟩:∃ b,(List.replicate i (decide (0 < door.length))++g0.drop i)[i]?=some b:=⟨_,c6T (show i < (List.replicate i (decide (0 < door.length))++g0.drop i).length by omega)⟩
    clear hms
    generalize decide (0 < door.length)=d at *
    generalize List.replicate i d++g0.drop i=M at *
    generalize hM2:List.replicate (i+1) d++g0.drop (i+1)=M' at *
    (repeat first|refine uA ?_|(refine uK ?_ ?_;focus first|omega|(intros;simp_all<;>omega))|simp (disch:=omega) only [go_sem,Nat.reduceBEq,Nat.reduceAdd,ww,c6U,hml,hdl,hse,hgg,c6V,c7a])
    refine S.next (i+1) (by omega) (by omega) (by simp only [hM2];exact (by (repeat first|refine uA ?_|(refine ⟨?_,?_⟩;focus first|rfl|simp [slot])|rfl|simp)))
  have hi':i=g0.length:=by omega
  subst hi'
  have hgs:=b4V (d:=decide (0 < door.length)) (c7b g0.length)
  generalize List.replicate g0.length (decide (0 < door.length))++g0.drop g0.length=gs at *
  have hJA:=hJ [] g0 A (c6Z _) (fun _ h=>absurd h List.not_mem_nil) rfl hAl hAg
  have hJX:=hJ [pt] gs A (c7b _) (fun p h=>by rw [List.mem_singleton.1 h];exact ⟨hvb,hvg⟩) hgs hAl hAg
  have hRA:=hRl [] g0 A hAl
  have hRX:=hRl [pt] gs A hAl
  have key:=fun i r r'=>c0x (w:=w) (Z:=Z) (ls:=A) (ps:=[pt]) (O':=gs) hgf i r r'
  clear hJ hRl
  generalize rZ (jP w [] g0) Z A=R at *
  generalize rZ (jP w [pt] gs) Z A=R' at *
  generalize a1r A=K at *
  refine S.weaken (st':=⟨[(11,.bp 0 0),(12,.bp 1 0),(14,wss U),(15,U5 A),(19,.bp 7 0)],[.box 31 w.enc,.box 37 (Stt.mk 0 L P0 [] g0).enc,.gone,.gone,.gone,.gone,.gone,.box 37 [ints 0,K7 L,frs P0,vts [pvt pt],bls gs],.gone]⟩) ?_ ?_
  · exact Ent.mk _ _ (P6.cons (Imp.refl rfl) (P6.cons (Imp.refl rfl) (P6.cons (Imp.refl rfl) (P6.cons (Imp.frz rfl rfl rfl) (P6.cons (Imp.refl rfl) P6.nil))))) (D7.cons (RI.box _ _ _ (j4.refl rfl)) (D7.cons (RI.box _ _ _ (j4.refl rfl)) (D7.cons (RI.gone _) (D7.cons (RI.gone _) (D7.cons (RI.gone _) (D7.cons (RI.gone _) (D7.cons (RI.gone _) (D7.cons (RI.box _ _ _ (j4.cons (Imp.refl rfl) (j4.cons (Imp.refl rfl) (j4.cons (Imp.refl rfl) (j4.cons (Imp.frz rfl rfl rfl) (j4.cons (Imp.frz rfl rfl rfl) j4.nil)))))) (D7.cons (RI.gone _) D7.nil))))))))) (c6Z _)
  simp only [Wk.c,Wk.enc,Stt.c,Stt.enc,Vt.enc,ams,wls,pts,sls,gts,K7,frs,bls,vts,U5,cls,wss,rts,u6,powC,sb,ints,c7i,c7q] at hJA hJX ⊢
  cases K with
  | true=>
    simp only [if_true,c7q] at hJA hJX
    (repeat first|refine uA ?_|(refine uK ?_ ?_;focus first|omega|(intros;simp_all<;>omega))|simp (disch:=omega) only [go_sem,Nat.reduceBEq,Nat.reduceAdd]|(refine uD hJA ?_ ?_ ?_;exact tz hw;exact rfl)|(refine uD hJX ?_ ?_ ?_;exact tz hw;exact rfl))
    refine S.cond rfl (fun hc=>?_) (fun hc=>by simp at hc)
    (repeat first|refine uA ?_|(refine uK ?_ ?_;focus first|omega|(intros;simp_all<;>omega))|simp (disch:=omega) only [go_sem,Nat.reduceBEq])
    exact S.done (j3.out rfl (Imp.refl rfl) rfl)
  | false=>
    simp only [c7C,if_false] at hJA hJX
    (repeat first|refine uA ?_|(refine uK ?_ ?_;focus first|omega|(intros;simp_all<;>omega))|simp (disch:=omega) only [go_sem,Nat.reduceBEq,Nat.reduceAdd]|(refine uD hJA ?_ ?_ ?_;exact tz hw;exact rfl)|(refine uD hJX ?_ ?_ ?_;exact tz hw;exact rfl))
    refine S.cond rfl (fun hc=>by simp at hc) (fun hc=>?_)
    (repeat first|refine uA ?_|(refine uK ?_ ?_;focus first|omega|(intros;simp_all<;>omega))|simp (disch:=omega) only [go_sem,Nat.reduceBEq,Nat.reduceAdd,c6U,hRA,hRX])
    refine S.cond rfl (fun hc=>by simp at hc) (fun hc=>?_)
    (repeat first|refine uA ?_|(refine uK ?_ ?_;focus first|omega|(intros;simp_all<;>omega))|simp (disch:=omega) only [go_sem,Nat.reduceBEq,c6U,hRA])
    refine S.loop (X:=Nat) (fun i=>⟨[(21,powC R),(22,u6 R),(24,powC R'),(141,ints w.arms.length),(142,ints i)],[]⟩) (fun i=>i<=w.arms.length) (fun i=>w.arms.length-i) 0 (c6Z _) (by simp only [powC,u6,ints];exact (by (repeat first|refine uA ?_|(refine ⟨?_,?_⟩;focus first|rfl|simp [slot])|rfl|simp))) ?_
    intro i hi
    simp only [powC,u6,ints]
    (repeat first|refine uA ?_|(refine uK ?_ ?_;focus first|omega|(intros;simp_all<;>omega))|simp (disch:=omega) only [go_sem,Nat.reduceBEq])
    (refine uJ rfl (fun hc=>?_) fun hc=>?_)
    · have hi':i < w.arms.length:=by omega
      have hgr:=c6T (show i < R.length by omega)
      have hgq:=c6T (show i < R'.length by omega)
      generalize R[i]'_=r at hgr
      generalize R'[i]'_=r' at hgq
      obtain ⟨h1,h2,h3⟩:=key i r r' hgr hgq
      have hir:(i:Int) < R.length:=by omega
      have hiq:(i:Int) < R'.length:=by omega
      clear hJA hJX
      (repeat first|refine uA ?_|(refine uK ?_ ?_;focus first|omega|(intros;simp_all<;>omega))|simp (disch:=omega) only [go_sem,Nat.reduceBEq,c6U,c7f,hgr,hgq,c6V,c7a,hir,hiq])
      refine S.cond rfl (fun hc=>?_) (fun hc=>?_)
      · exfalso
        revert hc
        by_cases k1:r'=0<;>by_cases k2:r=0<;>simp_all
      · (repeat first|refine uA ?_|(refine uK ?_ ?_;focus first|omega|(intros;simp_all<;>omega))|simp (disch:=omega) only [go_sem,Nat.reduceBEq,ww])
        refine S.next (i+1) (by omega) (by omega) (by (repeat first|refine uA ?_|(refine ⟨?_,?_⟩;focus first|rfl|simp [slot])|rfl|simp))
    · (repeat first|refine uA ?_|(refine uK ?_ ?_;focus first|omega|(intros;simp_all<;>omega))|simp (disch:=omega) only [go_sem])
      exact S.done (j3.out rfl (Imp.refl rfl) rfl)
open Go Go.RowKit Go.ChangeShapes Go.WideShapes Eng
theorem c2m {H:Type} {l:List (DataW H)} (hk:Rows.uptoSmall H l=true):Rows.uptoBulkAll l<=1048576:=of_decide_eq_true hk
theorem c1h {H:Type} (l r:List (DataW H)):Rows.uptoBulkAll (l++r)=Rows.uptoBulkAll l+Rows.uptoBulkAll r:=by
 induction l with
 | nil=>simp [Rows.uptoBulkAll]
 | cons x l ih=>simp only [List.cons_append,Rows.uptoBulkAll,ih];omega
def noB:Nat->Prop:=fun _=>False
section
variable {H:Type} {enc:TypeId × Value->H} {P:Program} {W:World}
def Opens (enc:TypeId × Value->H) (P:Program) (W:World) (t:TypeId) {α:Type} (tc:α->List C) (ok:α->Prop) (ms:α->Nat):Prop:=
 ∀ (fuel:Nat) (cs:List Value) (x:DataW H × List MemPlace),DataW.trod enc P W 0 (fun _=>true) true fuel t cs=some x->∃ a:α,FzL W noB (tc a) cs/\(∀ u ∈ cs,u.oneCell'=true)/\ok a/\ms a<=Rows.uptoBulk x.1
def I64 (n:Int):Prop:=-9223372036854775808<=n/\n<=9223372036854775807
theorem b9A {t:TypeId} (ht:P.underlying t=some (.int .i64)):Opens enc P W t (fun n:Int=>[.v (.int .i64 n)]) I64 fun _=>1:=by
 intro fuel cs x h
 obtain ⟨n,rfl,rfl,hw⟩:=DataW.trod_int ht h
 refine ⟨n,by simp [FzL,Fz],by simp [Value.oneCell'],?_,by simp [Rows.uptoBulk]⟩
 simpa [Lit.wf,IntKind.min,IntKind.max,IntKind.signed,IntKind.bits,I64] using hw
theorem Opens.imp {t:TypeId} {α β:Type} {tc:α->List C} {ok:α->Prop} {ms:α->Nat} {tc':β->List C} {ok':β->Prop} {ms':β->Nat} (h:Opens enc P W t tc ok ms)
  (f:∀ a,ok a->∃ b,tc a=tc' b/\ok' b/\ms' b<=ms a):Opens enc P W t tc' ok' ms':=by
 intro fuel cs x hx
 obtain ⟨a,h0,h01,h1,h2⟩:=h fuel cs x hx
 obtain ⟨b,h3,h4,h5⟩:=f a h1
 exact ⟨b,by rw [<- h3];exact h0,h01,h4,c6X h5 h2⟩
theorem b8U {w:World} {O:Nat->Prop} {q:List C} {vs:List Value} {ad:Addr} {j:Nat} (hF:FzL w O q vs) (h1:∀ u ∈ vs,u.oneCell'=true) (hc:∀ i v,vs[i]?=some v->w.cell? (ad.add (j+i))=some v):FzA w O q ad j:=FzA.of hF h1 hc
theorem b5I {t e:TypeId} {α:Type} {tc:α->List C} {ok:α->Prop} {ms:α->Nat} {sz:Nat} (ht:P.underlying t=some (.slice e)) (hc:P.cellsOf e=sz) (hsz:0 < sz) (hlen:∀ a,(tc a).length=sz)
  (he:Opens enc P W e tc ok ms):Opens enc P W t (fun xs:List α=>[.sl sz (xs.map tc)]) (fun xs=>∀ a ∈ xs,ok a) fun xs=>1+(xs.map ms).sum:=by
 intro fuel cs x h
 rcases Deep.open_slice ht h with ⟨rfl,rfl⟩|⟨a,len,cap,m,n,D,Pl,rfl,_,hl,hm,hmm,rfl,hx⟩
 ·refine ⟨[],?_,by simp [Value.oneCell'],(fun a ha=>by cases ha),by simp [Rows.uptoBulk]⟩
  simp only [FzL,Fz]
  exact ⟨_,_,rfl,⟨none,0,rfl,c7b _,c6Z _,fun h=>by simp at h⟩,rfl⟩
 ·have hlm:len<=m:=by rw [hmm];split<;>omega
  have key:∀ i,i < len->∃ (y:α) (vs:List Value),W.cells? 0 (a.add (i*sz)) sz=some vs/\FzL W noB (tc y) vs/\(∀ u ∈ vs,u.oneCell'=true)/\ok y/\ms y<=Rows.uptoBulk (D i):=by
   intro i hi
   obtain ⟨cs',h1,h2⟩:=hx i (by omega)
   obtain ⟨y,h31,h32,h3,h4⟩:=he _ _ _ h2
   rw [hc] at h1
   exact ⟨y,cs',h1,h31,h32,h3,h4⟩
  have build:∀ k,k<=len->∃ xs:List α,xs.length=k/\(∀ i y,xs[i]?=some y->∃ vs,W.cells? 0 (a.add (i*sz)) sz=some vs/\FzL W noB (tc y) vs/\(∀ u ∈ vs,u.oneCell'=true)/\ok y)/\(xs.map ms).sum<=Rows.uptoBulkAll ((List.range k).map D):=by
   intro k
   induction k with
   | zero=>intro _;exact ⟨[],rfl,(fun i y h=>by simp at h),by simp⟩
   | succ k ih=>
    intro hk
    obtain ⟨xs,h1,h2,h3⟩:=ih (by omega)
    obtain ⟨y,vs,h4,h41,h42,h5,h6⟩:=key k (by omega)
    refine ⟨xs++[y],by simp [h1],fun i z hz=>?_,?_⟩
    ·rcases c7p i xs.length with hlt|hge
     ·rw [c7n hlt] at hz
      exact h2 i z hz
     ·rw [c7r hge] at hz
      have:i-xs.length=0:=by
       rcases c7s (i-xs.length) with h0|h0
       ·exact h0
       ·obtain ⟨d,hd⟩:∃ d,i-xs.length=d+1:=⟨i-xs.length-1,by omega⟩
        rw [hd] at hz;simp at hz
      rw [this] at hz
      simp at hz
      subst hz
      have:i=k:=by omega
      subst this
      exact ⟨vs,h4,h41,h42,h5⟩
    ·rw [c7G,List.sum_append,List.range_succ,c7G,c1h]
     simp only [c7i,c7q,List.sum_cons,List.sum_nil,Rows.uptoBulkAll]
     omega
  obtain ⟨xs,h1,h2,h3⟩:=build len (c7b _)
  have hcell:∀ (i:Nat) (y:α),xs[i]?=some y->(tc y).length=sz/\FzA W noB (tc y) a (i*sz):=by
   intro i y hy
   obtain ⟨vs,h4,h41,h42,_⟩:=h2 i y hy
   obtain ⟨_,h5,h6⟩:=World.cells?_some h4
   refine ⟨hlen _,b8U h41 h42 fun j v hv=>?_⟩
   have hj:j < sz:=by
    have:=(c6Y.1 hv).1
    rwa [h5] at this
   have h7:=h6 j hj
   rw [hv,Deep.add_add] at h7
   exact h7
  refine ⟨xs,?_,by simp [Value.oneCell'],fun y hy=>?_,?_⟩
  ·simp only [FzL]
   refine ⟨_,_,rfl,?_,rfl⟩
   simp only [Fz]
   refine ⟨some a,cap,by simp [h1],by simp;omega,hm,fun h0=>⟨a,rfl,?_,(fun h=>h),FzE.of fun k q hq=>?_⟩⟩
   ·have hi:0 < xs.length:=by simpa using h0
    obtain ⟨hq1,hq2⟩:=hcell 0 xs[0] (c6T hi)
    have h9:0 < (tc xs[0]).length:=by omega
    match htc:tc xs[0],h9,hq2 with
    | c::cs,_,hq2=>
     simp only [FzA] at hq2
     obtain ⟨⟨v,hv,_⟩,_⟩:=hq2
     have h10:=block_lt_of_cell hv
     rwa [add_block] at h10
   ·rw [c7f] at hq
    obtain ⟨y,hy,rfl⟩:=Option.map_eq_some_iff.1 hq
    rw [c7D];exact hcell k y hy
  ·obtain ⟨i,hi⟩:=List.mem_iff_getElem?.1 hy
   exact (h2 i y hi).choose_spec.2.2.2
  ·simp only [Rows.uptoBulk]
   omega
theorem FzL.app {w:World} {O:Nat->Prop}:∀ {cs ds:List C} {vs us:List Value},FzL w O cs vs->FzL w O ds us->FzL w O (cs++ds) (vs++us)
 | [],ds,vs,us,h,k=>by simp only [FzL] at h;subst h;simpa using k
 | c::cs,ds,vs,us,h,k=>by
  simp only [FzL] at h
  obtain ⟨y,ys,rfl,h1,h2⟩:=h
  exact ⟨y,ys++us,rfl,h1,FzL.app h2 k⟩
theorem c2e {f:Func} {s:ChangeSpec} {apart fresh handsOn again:Bool} {W':World} {args:Array Value} {ds gs:List (DataW H)} {before:List MemPlace} {tb:TypeId} (hl:laidOutB P=true) (hpar:∀ t ∈ f.params.toList,P.readableRec t=true/\t < P.types.size)
  (hrt:f.resultTypes=#[tb]) (htb:P.underlying tb=some .bool) (hv:s.vars=[]) (hfn:s.fn H (ds++gs)={ results:=[.lit (.bool true)],args:=ds }) (hW:DataW.Whole enc P f.params.toList s.vars apart W args.toList ds gs before) (hb:Below W.heap.size W W') :
  s.post enc P f apart fresh handsOn again W args (.bool true) W':=by
 have hlt:∀ p ∈ before,p.block < W.heap.size:=fun p hp=>hW.lt p hp
 obtain ⟨p,q,hA,hV,hps,hz,hn⟩:=id hW
 rw [hv] at hV
 obtain ⟨rfl,rfl⟩:=trodVars_none hV
 rw [List.append_nil] at hps
 subst hps
 have all:∀ (sp:Nat->Bool) (ts:List TypeId) (vs:List Value) (es:List (DataW H)) (pl:List MemPlace),(∀ t ∈ ts,P.readableRec t=true/\t < P.types.size)->(∀ x ∈ pl,x.block < W.heap.size/\sp x.block=true)->DataW.TrodAll enc P W 0 (fun _=>true) true ts vs es pl->DataW.TrodAll enc P W' 0 sp true ts vs es pl:=by
  intro sp ts
  induction ts with
  | nil=>
   intro vs es pl _ _ h
   cases vs<;>cases es<;>simp only [DataW.TrodAll] at h ⊢<;>exact h
  | cons t ts ih=>
   intro vs es pl hts hpl h
   cases vs<;>cases es<;>simp only [DataW.TrodAll] at h ⊢
   obtain ⟨p1,p2,h1,h2,rfl⟩:=h
   refine ⟨p1,p2,?_,ih _ _ _ (fun t ht=>hts t (List.mem_cons_of_mem _ ht)) (fun x hx=>hpl x (List.mem_append_right _ hx)) h2,rfl⟩
   exact WideElems.Trod_stays hl (hts t (List.mem_cons_self ..)).1 (hts t (List.mem_cons_self ..)).2 h1 (fun x hx=>hb.same (hpl x (List.mem_append_left _ hx)).1) fun x hx=>(hpl x (List.mem_append_left _ hx)).2
 have hres:∀ (b:Nat) (sp:Nat->Bool) (hd:Bool),DataW.TrodAll enc P W' b sp hd f.resultTypes.toList ((Value.bool true).resultList f.resultTypes.size) (s.fn H (ds++[])).results []:=by
  intro b sp hd
  rw [hrt,hfn]
  exact trodAll_cons_mk (shut_bool htb true) trodAll_mk0
 have hargs:∀ sp:Nat->Bool,(∀ p' ∈ before,sp p'.block=true)->DataW.TrodAll enc P W' 0 sp true f.params.toList args.toList (s.fn H (ds++[])).args before:=fun sp hsp=>by
  rw [hfn]
  exact all sp _ _ _ _ hpar (fun x hx=>⟨hlt x hx,hsp x hx⟩) hA
 have hvars:∀ sp:Nat->Bool,DataW.TrodVars enc P W' sp s.vars (s.fn H (ds++[])).vars []:=fun sp=>by rw [hv,hfn];rfl
 have hold:∀ p' ∈ before,(fun b=>decide (b < W.heap.size)) p'.block=true:=fun p' hp=>by simpa using hlt p' hp
 refine ⟨ds,[],before,[],before,[],hW,hres _ _ _,hargs _ hold,hvars _,World.keptBut_mono (fun p' hp=>⟨hp,?_⟩) (hb.frame (· ∈ before)),fun _=>⟨ok_one hrt rfl (okWide_bool_mk htb _),_,_,([]++before)++[],⟨[]++before,[],trodAll_append (hargs _ (fun _ _=>rfl)) (hres _ _ _),hvars _,rfl,?_,?_⟩,?_⟩⟩
 ·exact Or.inr (by simpa using hp)
 ·intro b off hp
  have hin:MemPlace.cell b off ∈ before:=by simpa using hp
  rw [hb.frozen (hlt _ hin)]
  exact hz b off hin
 ·intro ha
  have:=hn ha
  simpa using this
 ·intro p' hp _
  simpa using hp
end
open Go Go.RowKit Go.ChangeShapes Go.WideShapes Go.ChangeAt Eng
set_option maxRecDepth 10000
theorem c1m:ownKnob Tryz.prog.godebug=none:=by kernel_rfl
theorem c2j:laidOutB Tryz.prog=true:=by kernel_rfl
theorem gDb:Tryz.prog.globalNamed "math/bits.deBruijn64tab" = some 1:=by kernel_rfl
theorem c3M:(Tryz.prog.globals[1]?).map (·.type)=some 276:=by kernel_rfl
theorem c1N:Tryz.prog.cellsOf 276=64:=by kernel_rfl
theorem c2X:Tryz.prog.cellsOf 5=1:=by kernel_rfl
theorem c1p:Tryz.prog.underlying 276=some (.array 64 5):=by kernel_rfl
theorem c5h:Tryz.prog.underlying 5=some (.int .u8):=by kernel_rfl
theorem c3U:(Rows.laid_math_bits_deBruijn64tab:DataW Unit)=Lib.tabData .u8 (Lib.deBruijn64tab.map fun n:Nat=>(n:Int)):=by rfl
theorem c6b {W:World} {rest:List (String × DataW Unit)} (h:laidMet Tryz.prog (("math/bits.deBruijn64tab",Rows.laid_math_bits_deBruijn64tab)::rest) W):Wz W:=by
 rw [c3U] at h
 have ht:=Lib.tabIs_of_head gDb c3M c1p c5h c2X c1N h
 intro j hj
 have:=ht.cell gDb j (by rw [c6U];exact hj)
 rw [this]
 congr 2
 rw [c7g,c7g,c7f,c6T hj]
 rfl
section
variable {H:Type} {enc:TypeId × Value->H} {W:World}
theorem b4l {α:Type}:∀ l:List α,l.length=(l.map fun _=>1).sum
 | []=>rfl
 | x::l=>by simp only [c7m,c7i,List.sum_cons,<- b4l l];omega
theorem b8P:Tryz.prog.cellsOf 3=1:=by kernel_rfl
theorem a8c:Opens enc Tryz.prog W 22 (fun l:List Int=>[.sl 1 (l.map fun n=>[.v (.int .i64 n)])]) (fun l=>∀ x ∈ l,I64 x) fun l=>1+l.length:=
 (b5I Tryz.underlying22 b8P (by decide) (fun _=>rfl) (b9A Tryz.underlying3)).imp fun f hf=>⟨f,rfl,hf,by rw [<- b4l];exact c7b _⟩
end
noncomputable def laidWorld (os:Os):World:=World.doorLaid Tryz.prog 400 os
theorem b0r (os:Os) (args:Array Value):laidMet Tryz.prog Rows.guardNobodyUptoRow.laid ((laidWorld os).forCall (fun _ _=>0) ⟨#[],args,[]⟩).memory:=
 laidMet_of_run' 8 (by kernel_rfl) (by kernel_rfl)
theorem a6I (H:Type) (enc:TypeId × Value->H) (W:World) (base:Nat) (args:Array Value) (ds gs:List (DataW H)) (before:List MemPlace)
  (hval:∀ (j:Nat) t v,Tryz.f4.params[j]?=some t->args[j]?=some v->Value.okWide Tryz.prog W .any base t v)
  (hW:DataW.Whole enc Tryz.prog Tryz.f4.params.toList Rows.guardNobodySpec.vars false W args.toList ds gs before) (hk:Rows.uptoSmall H (ds++gs)=true) (hL:laidMetH Tryz.prog Rows.guardNobodyUptoRow.laid W) (hS:W.ShapedOpen Tryz.prog) :
  Calls Tryz.prog 4 args W fun e W'=>∃ v,e=.returned v/\Rows.guardNobodySpec.post enc Tryz.prog Tryz.f4 false true false false W args v W':=by
 have hW':=hW
 obtain ⟨p,q,hA0,hV,rfl,hfz,hnd⟩:=hW
 have hA:DataW.TrodAll enc Tryz.prog W 0 (fun _=>true) true Tryz.f4.params.toList args.toList ds p:=hA0
 rw [Tryz.params4] at hA hval
 obtain ⟨v0,vs0,d0,ds0,p0,q0,hargs,rfl,rfl,h0,r0⟩:=trodAll_cons hA
 obtain ⟨v1,vs1,d1,ds1,p1,q1,rfl,rfl,rfl,h1,r1⟩:=trodAll_cons r0
 obtain ⟨v2,vs2,d2,ds2,p2,q2,rfl,rfl,rfl,h2,r2⟩:=trodAll_cons r1
 obtain ⟨v3,vs3,d3,ds3,p3,q3,rfl,rfl,rfl,h3,r3⟩:=trodAll_cons r2
 obtain ⟨v4,vs4,d4,ds4,p4,q4,rfl,rfl,rfl,h4,r4⟩:=trodAll_cons r3
 obtain ⟨rfl,rfl,rfl⟩:=trodAll_nil r4
 obtain rfl:args=#[v0,v1,v2,v3,v4]:=by cases args;simp_all
 obtain ⟨rfl,rfl⟩:=trodVars_none hV
 have hb:=c2m hk
 obtain ⟨A0,n0,c0,rfl⟩:=okWide_slice Tryz.underlying22 (hval 0 22 v0 rfl rfl)
 obtain ⟨m0,h0⟩:=h0
 obtain ⟨raw,e0,_,k0,b0⟩:=a8c _ _ _ h0
 have b0:1+raw.length<=Rows.uptoBulk d0:=b0
 have e0:FzL W noB [u6 raw] [.slice A0 n0 c0]:=e0
 simp only [FzL] at e0
 obtain ⟨y0,ys0,f0,g0,rfl⟩:=e0
 injection f0 with f0 _
 subst f0
 obtain ⟨A1,n1,c1,rfl⟩:=okWide_slice Tryz.underlying22 (hval 1 22 v1 rfl rfl)
 obtain ⟨m1,h1⟩:=h1
 obtain ⟨pose,e1,_,k1,b1⟩:=a8c _ _ _ h1
 have b1:1+pose.length<=Rows.uptoBulk d1:=b1
 have e1:FzL W noB [u6 pose] [.slice A1 n1 c1]:=e1
 simp only [FzL] at e1
 obtain ⟨y1,ys1,f1,g1,rfl⟩:=e1
 injection f1 with f1 _
 subst f1
 obtain ⟨A2,n2,c2,rfl⟩:=okWide_slice Tryz.underlying22 (hval 2 22 v2 rfl rfl)
 obtain ⟨m2,h2⟩:=h2
 obtain ⟨to,e2,_,k2,b2⟩:=a8c _ _ _ h2
 have b2:1+to.length<=Rows.uptoBulk d2:=b2
 have e2:FzL W noB [u6 to] [.slice A2 n2 c2]:=e2
 simp only [FzL] at e2
 obtain ⟨y2,ys2,f2,g2,rfl⟩:=e2
 injection f2 with f2 _
 subst f2
 obtain ⟨A3,n3,c3,rfl⟩:=okWide_slice Tryz.underlying22 (hval 3 22 v3 rfl rfl)
 obtain ⟨m3,h3⟩:=h3
 obtain ⟨near,e3,_,k3,b3⟩:=a8c _ _ _ h3
 have b3:1+near.length<=Rows.uptoBulk d3:=b3
 have e3:FzL W noB [u6 near] [.slice A3 n3 c3]:=e3
 simp only [FzL] at e3
 obtain ⟨y3,ys3,f3,g3,rfl⟩:=e3
 injection f3 with f3 _
 subst f3
 obtain ⟨A4,n4,c4,rfl⟩:=okWide_slice Tryz.underlying22 (hval 4 22 v4 rfl rfl)
 obtain ⟨m4,h4⟩:=h4
 obtain ⟨door,e4,_,k4,b4⟩:=a8c _ _ _ h4
 have b4:1+door.length<=Rows.uptoBulk d4:=b4
 have e4:FzL W noB [u6 door] [.slice A4 n4 c4]:=e4
 simp only [FzL] at e4
 obtain ⟨y4,ys4,f4,g4,rfl⟩:=e4
 injection f4 with f4 _
 subst f4
 simp only [List.append_nil,List.cons_append,List.nil_append,Rows.uptoBulkAll] at hb
 have hF:FzL W noB [u6 raw,u6 pose,u6 to,u6 near,u6 door] [.slice A0 n0 c0,.slice A1 n1 c1,.slice A2 n2 c2,.slice A3 n3 c3,.slice A4 n4 c4]:=by
  simp only [FzL]
  exact ⟨_,_,rfl,g0,⟨_,_,rfl,g1,⟨_,_,rfl,g2,⟨_,_,rfl,g3,⟨_,_,rfl,g4,rfl⟩⟩⟩⟩⟩
 refine (b3m raw pose to near door (by omega) (by omega) (by omega) noB W _ (c6b hL) (fun _ h=>h.elim) hF).mono fun e W' ⟨y,he,hbl,hy⟩=>?_
 subst he
 simp only [Fz] at hy
 subst hy
 refine ⟨_,rfl,c2e c2j (by
  intro t ht
  rw [Tryz.params4] at ht
  simp only [List.mem_cons,List.not_mem_nil,or_false] at ht
  rcases ht with rfl|rfl|rfl|rfl|rfl
  ·exact ⟨by kernel_rfl,of_decide_eq_true (by kernel_rfl)⟩
  ·exact ⟨by kernel_rfl,of_decide_eq_true (by kernel_rfl)⟩
  ·exact ⟨by kernel_rfl,of_decide_eq_true (by kernel_rfl)⟩
  ·exact ⟨by kernel_rfl,of_decide_eq_true (by kernel_rfl)⟩
  ·exact ⟨by kernel_rfl,of_decide_eq_true (by kernel_rfl)⟩) (tb:=4) rfl Tryz.underlying4 rfl rfl hW' hbl⟩
theorem a8U (os:Os) {H:Type} (enc:TypeId × Value->H):∃ places,DataW.whole enc Tryz.prog ((laidWorld os).forCall (fun _ _=>0) ⟨#[],#[.slice none 0 0,.slice none 0 0,.slice none 0 0,.slice none 0 0,.slice none 0 0],[]⟩).memory Tryz.f4.params.toList Rows.guardNobodySpec.vars false (#[.slice none 0 0,.slice none 0 0,.slice none 0 0,.slice none 0 0,.slice none 0 0]:Array Value).toList 8=some ([.nil,.nil,.nil,.nil,.nil],[],places):=
 ⟨[],by kernel_rfl⟩
set_option maxRecDepth 100000 in
theorem a7I (os:Os) (started:os.Started) (H:Type) (enc:TypeId × Value->H) (F:Stop.Interp) :
  ReturnsInHanded {} Tryz.checked os 4 .any ((Rows.OpenSpec.upto Rows.guardNobodySpec).preRow enc Tryz.prog Tryz.f4 Rows.guardNobodyUptoRow.domain false Rows.guardNobodyUptoRow.laid) (((Rows.OpenSpec.upto Rows.guardNobodySpec).at F).post enc Tryz.prog Tryz.f4 false true false false):=by
 obtain ⟨places,hx⟩:=a8U os enc
 refine returnsInHanded_of_row (C:=Tryz.checked) (s:=Rows.OpenSpec.upto Rows.guardNobodySpec) c1m started (by kernel_rfl) Tryz.func4
  (witness_row_at (enc:=enc) (C:=Tryz.checked) false (laidWorld os) #[.slice none 0 0,.slice none 0 0,.slice none 0 0,.slice none 0 0,.slice none 0 0] rfl (by kernel_rfl) (by kernel_rfl) (by kernel_rfl)
   (OpenSpec.preRow_of_cond 8 hx (by kernel_rfl) (fun k hk=>by cases hk;kernel_rfl) (by kernel_rfl) (b0r os _))) ?_
 intro W base args ds gs before hval hW _ hcond _ hL hS _
 exact a6I H enc W base args ds gs before hval hW (hcond _ rfl) hL hS
theorem c6C {a b:Bool} (h:a=true) (k:b=true):(a && b)=true:=by rw [h,k];rfl
set_option maxHeartbeats 40000000 in
theorem a8k:joinedFacts Tryz.pinned.checked.prog 4 Tryz.f4 (Rows.OpenSpec.upto Rows.guardNobodySpec).bare Rows.guardNobodyUptoRow=true:=by
 unfold joinedFacts
 repeat' (with_reducible refine c6C ?_ ?_)
 all_goals (as_aux_lemma=>kernel_rfl)
end Go.Proofs.YtgpegbfnlkidjaaGreatDoor
