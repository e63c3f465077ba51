/- A part of the proof: lemmas only, with the conditions that each names. -/
import Derived.Test.YtpnbklgbfhgknaaGreatDoorProg
import Derived.KernelRfl
import Derived.Test.YtpnbklgbfhgknaaGreatDoorRows
import Derived.Carry
import Derived.ChangeArms
import Derived.ChangeSame
import Derived.Deep.Slices
import Derived.WalkKit
import Derived.ProofKit
import Derived.OpenShut
import Derived.JoinedCond
import Derived.Test.YtpnbklgbfhgknaaGreatDoorCards
import Derived.Test.YtpnbklgbfhgknaaGreatDoorTie
import Derived.Deep.DeepHandedRow
import Derived.Deep.DeepWitnessRowRef
import Derived.Lib.LaidTab
import Derived.LaidMore
import Derived.Lay
import Derived.Test.YtpnbklgbfhgknaaGreatDoorJk6
set_option linter.all false
namespace Go.Proofs.YtpnbklgbfhgknaaGreatDoor
open Go Go.RowKit Eng
set_option maxRecDepth 100000
set_option maxHeartbeats 8000000
def a0d (l:List Cl) (i:Nat):Int:=if (onB (l.getD i (0,0)).1 && onB (l.getD i (0,0)).2)=false then 17 else if 0 < i/\0<=a1z (l.getD (i-1) (0,0)) (l.getD i (0,0)) then 9 else 0
def a2g (l:List Cl):Int:=if 400 < l.length then 2 else match (List.range l.length).find? fun i=>!decide (a0d l i=0) with
 | some i=>a0d l i
 | none=>0
theorem b6m {l:List Cl} {i:Nat} (hn:l.length<=400) (hi:i < l.length) (h:a0d l i ≠ 0) (hb:∀ j,j < i->a0d l j=0):a2g l=a0d l i:=by
 unfold a2g;rw [if_neg (by omega)];have hf:(List.range l.length).find? (fun i=>!decide (a0d l i=0))=some i:=by
  rw [List.find?_range_eq_some];exact ⟨by simpa using h,List.mem_range.2 hi,fun j hj=>by simpa using hb j hj⟩
 rw [hf]
theorem b9g {l:List Cl} (hn:l.length<=400) (hb:∀ j,j < l.length->a0d l j=0):a2g l=0:=by
 unfold a2g;rw [if_neg (by omega)];have hf:(List.range l.length).find? (fun i=>!decide (a0d l i=0))=none:=by
  rw [List.find?_range_eq_none];intro j hj;simpa using hb j hj
 rw [hf]
theorem getD_at {l:List Cl} {i:Nat} {c:Cl} (h:l[i]?=some c):l.getD i (0,0)=c:=by rw [c8C,h];rfl
theorem b2k (l:List Cl) (hn:l.length<=1000000000):u7 Tryz.prog 13 [cls l] (ints (a2g l)):=by
 refine kS Tryz.func13 (by cbv) (by rfl) fun w O=>?_;simp only [j4,cls,ints];(repeat first|refine uA ?_|(apply uK;· omega)|simp (disch:=omega) only [go_sem,Nat.reduceBEq,c8r]);(refine uJ rfl (fun hc=>?_) fun hc=>?_)
 ·have he:a2g l=2:=by unfold a2g;rw [if_pos (by omega)]
  rw [he];(repeat first|refine uA ?_|(apply uK;· omega)|simp (disch:=omega) only [go_sem]);exact uS rfl rfl
 have hn4:l.length<=400:=by omega
 (repeat first|refine uA ?_|(apply uK;· omega)|simp (disch:=omega) only [go_sem,Nat.reduceBEq,c8r]);refine S.loop (X:=Nat) (fun i=>⟨[(0,cls l),(8,cls l),(9,ints l.length),(10,ints i)],[]⟩) (fun i=>i<=l.length/\∀ j,j < i->a0d l j=0) (fun i=>l.length-i) 0 ⟨c8w _,fun j h=>absurd h (Nat.not_lt_zero _)⟩ (by repeat first|refine uA ?_|(refine ⟨?_,?_⟩;· first|rfl|simp [slot])|rfl|simp) ?_;rintro i ⟨hi,hm⟩;simp only [cls,ints];(repeat first|refine uA ?_|(apply uK;· omega)|simp (disch:=omega) only [go_sem,Nat.reduceBEq]);(refine uJ rfl (fun hc=>?_) fun hc=>?_)
 ·have hi':i < l.length:=by omega
  have hg:=c8q hi';generalize l[i]=x at hg;have o1:=b7P x.1;have o2:=b7P x.2;have hat:=fun h=>b6m hn4 hi' h hm;have hnx:=fun (h:a0d l i=0)=>show ∀ j,j < i+1->a0d l j=0 from fun j hj=>by
   rcases c8N j i with h1|h1
   ·exact hm j h1
   ·have:j=i:=by omega
    subst this;exact h
  have hca:a0d l i=if (onB x.1 && onB x.2)=false then 17 else if 0 < i/\0<=a1z (l.getD (i-1) (0,0)) x then 9 else 0:=by unfold a0d;rw [getD_at hg]
  simp only [ints] at o1 o2;generalize hx1:onB x.1=b1 at *;generalize hx2:onB x.2=b2 at *;(repeat first|refine uA ?_|(apply uK;· first|omega|(intros;simp_all<;>omega))|simp (disch:=omega) only [go_sem,Nat.reduceBEq,Nat.reduceAdd,c8r,c8x,hg,c8s,c8u,ce]|(apply uB o1;exact rfl)|(apply uB o2;exact rfl));refine S.cond rfl (fun hc=>?_) (fun hc=>?_)
  ·have hb:(b1 && b2)=false:=by revert hc;cases b1<;>cases b2<;>simp
   rw [if_pos hb] at hca;rw [hat (by rw [hca];decide),hca];(repeat first|refine uA ?_|(apply uK;· omega)|simp (disch:=omega) only [go_sem]);exact uS rfl rfl
  have hb:¬ (b1 && b2)=false:=by revert hc;cases b1<;>cases b2<;>simp
  rw [if_neg hb] at hca;clear o1 o2 hx1 hx2 hb hc;rcases c8Q i with h0|h0
  ·subst h0;rw [if_neg (by omega)] at hca;have hjl:decide ((0:Int) < ((0:Nat):Int))=false:=by decide
   have hjm:(((0:Nat):Int)-1).toNat=0:=by decide
   (repeat first|refine uA ?_|(apply uK;· omega)|simp (disch:=omega) only [go_sem,Nat.reduceBEq,ww,c8r,hjl,hjm,hg,c8x,c8s,ce]);refine a0E.mk (r:=.v (.int .i64 0)) (fun hp=>by cases hp) ?_;(repeat first|refine uA ?_|(apply uK;· omega)|simp (disch:=omega) only [go_sem,Nat.reduceBEq]);refine S.cond rfl (fun hc=>by simp at hc) (fun hc=>?_);(repeat first|refine uA ?_|(apply uK;· omega)|simp (disch:=omega) only [go_sem,Nat.reduceBEq,ww]);refine S.next (x:=0) 1 ⟨by omega,hnx hca⟩ (by omega) (by repeat first|refine uA ?_|(refine ⟨?_,?_⟩;· first|rfl|simp [slot])|rfl|simp)
  ·have hgy:=c8q (show i-1 < l.length by omega);generalize l[i-1]'_=y at hgy;rw [getD_at hgy] at hca;have o3:=b6A y x;have hjl:decide ((0:Int) < (i:Int))=true:=decide_eq_true (by omega);have hjm:((i:Int)-1).toNat=i-1:=by omega
   generalize a1z y x=c at *;simp only [ce,ints] at o3;(repeat first|refine uA ?_|(apply uK;· omega)|simp (disch:=omega) only [go_sem,Nat.reduceBEq,ww,c8r,hjl,hjm,hgy,c8x,c8s,ce]|(apply uB o3;exact rfl));refine S.cond rfl (fun hc=>?_) (fun hc=>?_)
   ·have h4:0<=c:=by simpa using hc
    rw [if_pos ⟨h0,h4⟩] at hca;rw [hat (by rw [hca];decide),hca];(repeat first|refine uA ?_|(apply uK;· omega)|simp (disch:=omega) only [go_sem]);exact uS rfl rfl
   ·have h4:¬ 0<=c:=by simpa using hc
    rw [if_neg fun h=>h4 h.2] at hca;(repeat first|refine uA ?_|(apply uK;· omega)|simp (disch:=omega) only [go_sem,Nat.reduceBEq,ww]);refine S.next (i+1) ⟨by omega,hnx hca⟩ (by omega) (by repeat first|refine uA ?_|(refine ⟨?_,?_⟩;· first|rfl|simp [slot])|rfl|simp)
 ·have hi':i=l.length:=by omega
  subst hi';rw [b9g hn4 hm];(repeat first|refine uA ?_|(apply uK;· omega)|simp (disch:=omega) only [go_sem]);exact uS rfl rfl
set_option maxHeartbeats 16000000
theorem a7w {l:List Cl} (h:a2g l=0):b7k l:=by
 have hn:l.length<=400:=by
  refine Classical.byContradiction fun hc=>?_;unfold a2g at h;rw [if_pos (by omega)] at h;cases h
 have hz:∀ i,i < l.length->a0d l i=0:=fun i hi=>by
  refine Classical.byContradiction fun hc=>?_;have:∃ j,j < l.length/\a0d l j ≠ 0/\∀ k,k < j->a0d l k=0:=by
   clear h
   induction i using Nat.strongRecOn with
   | _ i ih=>
    by_cases hb:∀ k,k < i->a0d l k=0
    ·exact ⟨i,hi,hc,hb⟩
    ·obtain ⟨k,hk⟩:=Classical.not_forall.1 hb;obtain ⟨h1,h2⟩:=Classical.not_imp.1 hk;exact ih k h1 (by omega) h2
  obtain ⟨j,h1,h2,h3⟩:=this;rw [b6m hn h1 h2 h3] at h;exact h2 h
 have hon:∀ i,i < l.length->onB (l.getD i (0,0)).1=true/\onB (l.getD i (0,0)).2=true:=fun i hi=>by
  have h1:=hz i hi;unfold a0d at h1;cases h2:(onB (l.getD i (0,0)).1 && onB (l.getD i (0,0)).2) with
  | true=>simpa using h2
  | false=>rw [if_pos h2] at h1;cases h1
 refine ⟨hn,fun c hc=>?_,?_⟩
 ·obtain ⟨i,hi,rfl⟩:=List.getElem_of_mem hc;have:=hon i hi;rwa [getD_at (c8q hi)] at this
 ·unfold Up;rw [List.pairwise_iff_getElem];have hnext:∀ i (h1:i+1 < l.length),ltC (l[i]'(by omega)) l[i+1]=true:=fun i h1=>by
   have h2:=hz (i+1) h1;have h3:=hon (i+1) h1;unfold a0d at h2;rw [h3.1,h3.2] at h2;rw [if_neg (by decide),Nat.add_sub_cancel,getD_at (c8q (show i < l.length by omega)),getD_at (c8q h1)] at h2;unfold ltC;split at h2
   ·cases h2
   ·rename_i h4;exact decide_eq_true (by omega)
  intro i j hi hj hij
  induction j with
  | zero=>omega
  | succ j ih=>
   rcases c8N i j with h1|h1
   ·exact a4l (ih (by omega) h1) (hnext j hj)
   ·have:i=j:=by omega
    subst this;exact hnext i hj
def a0e (ls:List (List Cl)) (i:Nat):Int:=if a2g (ls.getD i []) ≠ 0 then a2g (ls.getD i []) else if (ls.take i).any (a1H ls i)=true then 10 else 0
def lsE (ls:List (List Cl)):Int:=match (List.range ls.length).find? fun i=>!decide (a0e ls i=0) with
 | some i=>a0e ls i
 | none=>0
theorem c0o {ls:List (List Cl)} {i:Nat} (hi:i < ls.length) (h:a0e ls i ≠ 0) (hb:∀ j,j < i->a0e ls j=0):lsE ls=a0e ls i:=by
 unfold lsE;have hf:(List.range ls.length).find? (fun i=>!decide (a0e ls i=0))=some i:=by
  rw [List.find?_range_eq_some];exact ⟨by simpa using h,List.mem_range.2 hi,fun j hj=>by simpa using hb j hj⟩
 rw [hf]
theorem b3j {ls:List (List Cl)} (hb:∀ j,j < ls.length->a0e ls j=0):lsE ls=0:=by
 unfold lsE;have hf:(List.range ls.length).find? (fun i=>!decide (a0e ls i=0))=none:=by
  rw [List.find?_range_eq_none];intro j hj;simpa using hb j hj
 rw [hf]
theorem c1V (w:Wk) (s:Stt) (ls:List (List Cl)) (us:List (List Nm.Rt)) (R:List Int) (hwb:Wb 1073741824 w) (hsb:Stb 1073741824 s) (hst:J3 w s=0) (hl:ls.length=w.arms.length) (hu:us.length=w.arms.length) (hR:R.length=w.arms.length) (hn:w.arms.length<=1000)
  (hgn:∀ l ∈ ls,l.length<=1000000000) (hj:lsE ls=0->∀ (n:Nat) (l:List Cl) (u:List Nm.Rt) (r:Int),ls[n]?=some l->us[n]?=some u->R[n]?=some r->FZ 15 [w.c,s.c,ints n,cls l,rts u] (ints r)) :
  FZ 5 [w.c,s.c,H7 ls,wss us] (.tup [powC (if lsE ls=0 then R else []),O7 (if lsE ls=0 then R else []),ints (lsE ls)]):=by
 refine kW Tryz.func5 (by cbv) (by rfl) fun w' O hw=>?_;have h0:=a9f w s hwb hsb;rw [hst] at h0;have hit:=fun (i:Nat) (hi:i < ls.length) (h:a0e ls i ≠ 0) (hb:∀ j,j < i->a0e ls j=0)=>c0o hi h hb;have miss:=fun (h:∀ i,i < ls.length->a0e ls i=0)=>b3j h;generalize lsE ls=K at *;clear hwb hsb hst;simp only [j4,TT,II,OA,OC,MM,LL,VV,FF,MG,VG,FG];simp only [Wk.c,Wk.enc,Stt.c,Stt.enc,ams,wls,pts,sls,gts,E8,frs,bls,vts,H7,cls,wss,rts,powC,O7,sb,ints] at h0 hj ⊢;(repeat first|refine uA ?_|(apply uK;· first|omega|(intros;simp_all<;>omega))|simp (disch:=omega) only [go_sem,Nat.reduceBEq,Nat.reduceAdd]|(refine uD h0 ?_ ?_ ?_;exact tz hw;rfl));refine S.cond rfl (fun hc=>by simp at hc) (fun hc=>?_);clear h0
 (repeat first|refine uA ?_|(apply uK;· first|omega|(intros;simp_all<;>omega))|simp (disch:=omega) only [go_sem,Nat.reduceBEq,Nat.reduceAdd,c8r,hl,hu]);refine S.cond rfl (fun hc=>by simp at hc) (fun hc=>?_);(repeat first|refine uA ?_|(apply uK;· first|omega|(intros;simp_all<;>omega))|simp (disch:=omega) only [go_sem,Nat.reduceBEq,c8r]);refine S.loop (X:=Nat) (fun i=>⟨[(2,H7 ls),(3,wss us),(4,.bp 0 0),(5,.bp 1 0),(41,H7 ls),(42,ints ls.length),(43,ints i)],[.box 30 w.enc,.box 36 s.enc]⟩)
  (fun i=>i<=ls.length/\∀ k,k < i->a0e ls k=0) (fun i=>ls.length-i) 0 ⟨c8w _,fun _ h=>absurd h (Nat.not_lt_zero _)⟩ (by simp only [Wk.enc,Stt.enc,ams,wls,pts,sls,gts,E8,frs,bls,vts,H7,cls,wss,rts,sb,ints];exact (by repeat first|refine uA ?_|(refine ⟨?_,?_⟩;· first|rfl|simp [slot])|rfl|simp)) ?_
 rintro i ⟨hi,hm⟩;simp only [Wk.enc,Stt.enc,ams,wls,pts,sls,gts,E8,frs,bls,vts,H7,cls,wss,rts,sb,ints];(repeat first|refine uA ?_|(apply uK;· first|omega|(intros;simp_all<;>omega))|simp (disch:=omega) only [go_sem,Nat.reduceBEq]);(refine uJ rfl (fun hc=>?_) fun hc=>?_)
 ·have hi':i < ls.length:=by omega
  have hgl:=c8q hi';generalize ls[i]=l at hgl;have o1:=b2k l (hgn l (c8t hgl));have hgd:ls.getD i []=l:=by rw [c8C,hgl];rfl
  have hti:=fun h=>hit i hi' h hm;have hls:a0e ls i=if a2g l ≠ 0 then a2g l else if (ls.take i).any (a1H ls i)=true then 10 else 0:=by unfold a0e;rw [hgd]
  have hgo:=@a7w l;have htl:(ls.take i).length=i:=by rw [c8E];omega
  have htm:∀ m ∈ ls.take i,b7k m:=fun m hmm=>by
   obtain ⟨j,hj⟩:=List.mem_iff_getElem?.1 hmm;have hjl:=(c8v.1 hj).1;rw [c8E] at hjl;rw [List.getElem?_take,if_pos (by omega)] at hj;have h:=hm j (by omega);unfold a0e at h;rw [c8C,hj,Option.getD_some] at h;refine a7w (Classical.byContradiction fun hc=>?_);rw [if_pos hc] at h;exact hc h
  have hmi:a1H ls i=fun m=>decide (0 < (a2q l m).length):=by unfold a1H;rw [hgd]
  generalize hT:ls.take i=T at *;have hTe:List.take i (ls.map fun l=>[C.sl 2 (l.map ce)])=T.map fun l=>[C.sl 2 (l.map ce)]:=by rw [<- List.map_take,hT]
  simp only [cls,ints] at o1;(repeat first|refine uA ?_|(apply uK;· first|omega|(intros;simp_all<;>omega))|simp (disch:=omega) only [go_sem,Nat.reduceBEq,c8r,c8x,hgl,c8s,c8u]|(refine uB o1 ?_ ?_;rfl));refine S.cond rfl (fun hc=>?_) (fun hc=>?_)
  ·have hE:a2g l ≠ 0:=by simpa using hc
   rw [if_pos hE] at hls;have hK:=hti (by rw [hls];exact hE);rw [hls] at hK;subst hK;simp only [if_neg hE,c8O];(repeat first|refine uA ?_|(apply uK;· first|omega|(intros;simp_all<;>omega))|simp (disch:=omega) only [go_sem,Nat.reduceBEq]);(refine S.done ?_;simp only [D6,go_sem,Nat.reduceBEq];(repeat (refine ⟨?_,?_⟩;· first|trivial|omega|simp));exact p8.out rfl (Imp.tup (by (repeat' (first|exact j3.nil|exact Imp.refl rfl|exact Imp.frz rfl rfl rfl|exact Imp.I9|refine Imp.agg ?_|refine j3.cons ?_ ?_)))) rfl)
  have gl:=hgo (by simpa using hc);rw [if_neg (by simpa using hc)] at hls;(repeat first|refine uA ?_|(apply uK;· first|omega|(intros;simp_all<;>omega))|simp (disch:=omega) only [go_sem,Nat.reduceBEq,c8r,c8u,List.drop_zero,Nat.sub_zero,hTe,htl,Int.toNat_zero]);refine S.loop (X:=Nat) (fun j=>⟨[(2,H7 ls),(3,wss us),(4,.bp 0 0),(5,.bp 1 0),(12,ints i),(13,cls l),(41,H7 ls),(42,ints ls.length),(43,ints i),(55,H7 T),(56,ints i),(57,ints j)],[.box 30 w.enc,.box 36 s.enc]⟩)
   (fun j=>j<=i/\∀ (k:Nat) (m:List Cl),k < j->T[k]?=some m->decide (0 < (a2q l m).length)=false) (fun j=>i-j) 0 ⟨c8w _,fun _ _ h=>absurd h (Nat.not_lt_zero _)⟩ (by simp only [Wk.enc,Stt.enc,ams,wls,pts,sls,gts,E8,frs,bls,vts,H7,cls,wss,rts,sb,ints];exact (by repeat first|refine uA ?_|(refine ⟨?_,?_⟩;· first|rfl|simp [slot])|rfl|simp)) ?_
  rintro j ⟨hj',hk⟩;clear o1;simp only [Wk.enc,Stt.enc,ams,wls,pts,sls,gts,E8,frs,bls,vts,H7,cls,wss,rts,sb,ints];(repeat first|refine uA ?_|(apply uK;· first|omega|(intros;simp_all<;>omega))|simp (disch:=omega) only [go_sem,Nat.reduceBEq]);(refine uJ rfl (fun hc=>?_) fun hc=>?_)
  ·have hgm:=c8q (show j < T.length by omega);generalize T[j]'_=m at hgm;have gm:=htm m (c8t hgm);have o2:=c6h l m (c8y gl.1 (by decide)) (c8y gm.1 (by decide));have hml:(a2q l m).length<=400:=c8y (List.length_filter_le _ _) (c8y (a5A l) gl.1);have hit2:=fun hp=>a0C (p:=fun m=>decide (0 < (a2q l m).length)) hgm hp;have nxt:=fun hp=>V9 (p:=fun m=>decide (0 < (a2q l m).length)) hgm hp hk;generalize a2q l m=M at *;simp only [cls] at o2;(repeat first|refine uA ?_|(apply uK;· first|omega|(intros;simp_all<;>omega))|simp (disch:=omega) only [go_sem,Nat.reduceBEq,c8r,c8x,hgm,c8s,c8u]|(refine uB o2 ?_ ?_;rfl));(refine uJ rfl (fun hc=>?_) fun hc=>?_)
   ·have hany:T.any (a1H ls i)=true:=by rw [hmi];exact hit2 (decide_eq_true (by omega))
    rw [if_pos hany] at hls;have hK:=hti (by rw [hls];decide);rw [hls] at hK;subst hK;simp only [if_neg (show ¬ (10:Int)=0 by decide),c8O];(repeat first|refine uA ?_|(apply uK;· first|omega|(intros;simp_all<;>omega))|simp (disch:=omega) only [go_sem]);(refine S.done ?_;simp only [D6,go_sem,Nat.reduceBEq];(repeat (refine ⟨?_,?_⟩;· first|trivial|omega|simp));exact p8.out rfl (Imp.tup (by (repeat' (first|exact j3.nil|exact Imp.refl rfl|exact Imp.frz rfl rfl rfl|exact Imp.I9|refine Imp.agg ?_|refine j3.cons ?_ ?_)))) rfl)
   ·have hp:=nxt (decide_eq_false (by omega));(repeat first|refine uA ?_|(apply uK;· first|omega|(intros;simp_all<;>omega))|simp (disch:=omega) only [go_sem,Nat.reduceBEq,ww]);refine S.next (x:=j) (j+1) ⟨by omega,hp⟩ (by omega) (by repeat first|refine uA ?_|(refine ⟨?_,?_⟩;· first|rfl|simp [slot])|rfl|simp)
  ·have hje:j=i:=by omega
   subst hje;have hno:T.any (a1H ls j)=false:=by
    rw [hmi];exact Z4 fun k m hkl hkm=>hk k m (by omega) hkm
   rw [if_neg (by rw [hno];decide)] at hls;(repeat first|refine uA ?_|(apply uK;· first|omega|(intros;simp_all<;>omega))|simp (disch:=omega) only [go_sem,Nat.reduceBEq,ww]);refine S.next (x:=j) (j+1) ⟨by omega,fun k hk2=>?_⟩ (by omega) (by repeat first|refine uA ?_|(refine ⟨?_,?_⟩;· first|rfl|simp [slot])|rfl|simp);rcases c8N k j with h|h
   ·exact hm k h
   ·have:k=j:=by omega
    subst this;exact hls
 have hi':i=ls.length:=by omega
 subst hi';have hK:=miss fun k hk=>hm k hk;subst hK;simp only [if_pos (show (0:Int)=0 from rfl)];have hj:=hj rfl;clear hm hit miss hi;(repeat first|refine uA ?_|(apply uK;· first|omega|(intros;simp_all<;>omega))|simp (disch:=omega) only [go_sem,Nat.reduceBEq,Nat.reduceAdd,c8r]);refine S.loop (X:=Nat) (fun i=>⟨[(2,H7 ls),(3,wss us),(4,.bp 0 0),(5,.bp 1 0),(17,.rv 2),(18,.rv 3),(69,ams w.arms),(70,ints w.arms.length),(71,ints i)],[.box 30 w.enc,.box 36 s.enc,.row 4 1 ((R.take i).map fun r=>[.v (.bool (decide (r=0)))]),.row 3 1 ((R.take i).map fun r=>[ints r])]⟩)
  (fun i=>i<=w.arms.length) (fun i=>w.arms.length-i) 0 (c8w _) (Ent.trans (Ent.pack 17 4 1 rfl) (Ent.trans (Ent.pack 18 3 1 rfl) (by simp only [Wk.enc,Stt.enc,ams,wls,pts,sls,gts,E8,frs,bls,vts,H7,cls,wss,rts,sb,ints,List.take_zero,c8O];exact (by repeat first|refine uA ?_|(refine ⟨?_,?_⟩;· first|rfl|simp [slot])|rfl|simp)))) ?_
 intro i hi;simp only [Wk.enc,Stt.enc,ams,wls,pts,sls,gts,E8,frs,bls,vts,H7,cls,wss,rts,sb,ints];(repeat first|refine uA ?_|(apply uK;· first|omega|(intros;simp_all<;>omega))|simp (disch:=omega) only [go_sem,Nat.reduceBEq]);(refine uJ rfl (fun hc=>?_) fun hc=>?_)
 ·have hi':i < w.arms.length:=by omega
  have hgl:=c8q (show i < ls.length by omega);have hgu:=c8q (show i < us.length by omega);have hgr:=c8q (show i < R.length by omega);generalize ls[i]'_=l at hgl;generalize us[i]'_=u at hgu;generalize R[i]'_=r at hgr;have o1:=hj i l u r hgl hgu hgr;have hil:(i:Int) < ls.length:=by omega
  have hiu:(i:Int) < us.length:=by omega
  have htl:(R.take i).length=i:=by rw [c8E];omega
  have hap:=take_at hgr;clear hj;(repeat first|refine uA ?_|(apply uK;· first|omega|(intros;simp_all<;>omega))|simp (disch:=omega) only [go_sem,Nat.reduceBEq,Nat.reduceAdd,ww,c8r,c8x,hgl,hgu,c8s,c8u,hil,hiu,htl]|(refine uD o1 ?_ ?_ ?_;exact tz hw;rfl));refine S.next (i+1) (by omega) (by omega) (by simp only [hap,c9i,c8K,c8O];exact (by repeat first|refine uA ?_|(refine ⟨?_,?_⟩;· first|rfl|simp [slot])|rfl|simp))
 ·have hi':i=w.arms.length:=by omega
  subst hi';rw [c8P (by omega)];(repeat first|refine uA ?_|(apply uK;· first|omega|(intros;simp_all<;>omega))|simp (disch:=omega) only [go_sem,Nat.reduceBEq]);(refine S.done ?_;simp only [D6,go_sem,Nat.reduceBEq];(repeat (refine ⟨?_,?_⟩;· first|trivial|omega|simp));exact p8.out rfl (Imp.tup (by (repeat' (first|exact j3.nil|exact Imp.refl rfl|exact Imp.frz rfl rfl rfl|exact Imp.I9|refine Imp.agg ?_|refine j3.cons ?_ ?_)))) rfl)
set_option maxRecDepth 10000
set_option maxHeartbeats 4000000
theorem a9c {w:Wk} (h:Q9 w=0):G5 id (a4g w)=0/\a8m w.walk=0:=by
 unfold Q9 at h;split at h
 ·cases h
 split at h
 ·cases h
 split at h
 ·rename_i h2;exact absurd h h2
 ·exact ⟨Classical.not_not.1 (by assumption),h⟩
theorem c2O {w:Wk} (h:Q9 w=0):∀ g ∈ w.gates,Nm.l8 (Nm.d9 g.low.x) (Nm.d9 g.high.x)<=0/\Nm.l8 (Nm.d9 g.low.y) (Nm.d9 g.high.y)<=0:=by
 have h1:=(a9c h).1;have h2:∃ n,(A9 Y0 n w.gates).1=0:=⟨(A9 a0v (A9 a0t (A9 a0w [] w.arms).2 w.parts).2 w.slots).2,a8c h1 _ (by unfold a4g;simp)⟩
 obtain ⟨n,h2⟩:=h2;have key:∀ (l:List Gt) (n:Nms),(A9 Y0 n l).1=0->∀ g ∈ l,Nm.l8 (Nm.d9 g.low.x) (Nm.d9 g.high.x)<=0/\Nm.l8 (Nm.d9 g.low.y) (Nm.d9 g.high.y)<=0:=by
  intro l
  induction l with
  | nil=>intro n _ a ha;cases ha
  | cons x l ih=>
   intro n hn a ha;have hx:(Y0 n x).1=0:=by
    unfold A9 at hn;split at hn
    ·assumption
    ·exact hn
   unfold A9 at hn;rw [if_pos hx] at hn;rcases List.mem_cons.1 ha with rfl|ha
   ·unfold Y0 at hx;split at hx
    ·rename_i h3;exact absurd hx h3
    ·simp only at hx;split at hx
     ·rename_i h4;simp only [c8F,c8D] at h4;exact ⟨h4.1.2,h4.2⟩
     ·cases hx
   ·exact ih _ hn a ha
 exact key _ _ h2
theorem c1B {w:Wk} (h:Q9 w=0):0<=Nm.d9 w.walk:=by
 have h1:=(a9c h).2;unfold a8m at h1;split at h1
 ·rename_i h2;simp only [c8F,c8D] at h2;have h3:=h2.2;rcases a2i (Nm.d9 w.walk) with ⟨h4,_⟩|⟨_,h4⟩|⟨_,h4⟩
  ·omega
  ·rw [h4];exact Rat.le_refl
  ·grind
 ·cases h1
theorem c4w {px py:Rat} {walk:Nm.Rt} {t:Int} (ht:0<=t):a2Q (P7 px py walk t):=by
 have hm:=(a6z (a6b (Nm.d9 walk) t) 0).2;exact b0U (b:=⟨px,py,px,py⟩) ⟨Rat.le_refl,Rat.le_refl⟩ hm
theorem c6q {w:Wk} (h:Q9 w=0) {t:Int} (ht:0<=t):∀ g ∈ w.gates,a2Q (a0h w.walk t g):=fun g hg=>by
 have h1:=c2O h g hg;refine b0U ⟨(a2o _ _).1 h1.1,(a2o _ _).1 h1.2⟩ (Rat.mul_nonneg (c1B h) ?_)
 exact_mod_cast ht
theorem c7u {w:Wk} {a:Am} {holds:Int} {q:List Sn}:∀ b ∈ gbL w a holds q,a2Q b:=fun b hb=>by
 unfold gbL at hb;split at hb
 ·cases hb
 rename_i he;have hl:=(b4D (Classical.not_not.1 he)).2;split at hb
 ·exact b8H _ _ b hb
 split at hb
 ·rename_i p hp;rw [List.mem_append,List.mem_singleton] at hb;rcases hb with hb|rfl
  ·exact b8H _ _ b hb
  ·refine b0U ?_ (b3F p.grasp p.shape 0 Rat.le_refl);obtain ⟨h1,h2⟩:=a8z (a:=a) (Q:=q.map G6) (by rw [c8r];exact hl);have h3:(a1I a (q.map G6)).getLast?=some (a6Q a (q.map G6)):=by
    rw [List.getLast?_eq_getElem?,h2];exact h1
   unfold a1I at h3;rw [List.getLast?_map] at h3;cases hg:(K9 (a0u a.base) (a.links.zip (q.map G6))).getLast? with
   | none=>rw [hg] at h3;cases h3
   | some f=>
    rw [hg] at h3;simp only [c8s,Option.some.injEq] at h3;rw [<- h3];have:=a8P _ (a0u a.base) ⟨Rat.le_refl,Rat.le_refl⟩ f hg;exact ⟨this.1,this.2⟩
 ·cases hb
def a6F (bs:List Bq) (lease:List Cl):Bool:=bs.any fun b=>!((ofC b).all fun c=>lease.contains c) || !decide (ofE b=0)
def b0B (bs:List Bq) (W:List (List Vt)):Bool:=bs.any fun b=>W.any fun l=>a3S b l
def a1t (bs:List Bq) (b:Bq):Bool:=bs.any fun c=>a6H b c
def a9M (bs:List Bq) (walk:Nm.Rt) (t:Int) (G:List Gt) (O:List Bool):Bool:=(G.zip O).any fun z=>z.2 && a1t bs (a0h walk t z.1)
def a4L (bs:List Bq) (w:Wk) (t:Int) (lease:List Cl) (ps:List (Rat × Rat)) (O:List Bool):Int:=
 if a6F bs lease=true then 3 else if b0B bs w.walls=true then 4 else if (ps.any fun p=>a1t bs (P7 p.1 p.2 w.walk t))=true then 5 else if a9M bs w.walk t w.gates O=true then 6 else 0
def a8k (w:Wk) (a:Am) (holds:Int) (q u:List Nm.Rt) (lease:List Cl) (ps:List (Rat × Rat)) (O:List Bool):Int:=
 if a5e a q u=false then 1 else if a1D (a.links.zip u)=false then 2 else if a9t a.links (a0P a.links q u)=true then 2 else a4L (gbL w a holds (N9 a.links q u)) w (J2 (a.links.zip u)+1) lease ps O
theorem any_eq {α:Type} {l:List α} {f g:α->Bool} (h:∀ x ∈ l,f x=g x):l.any f=l.any g:=by
 rw [Bool.eq_iff_iff,List.any_eq_true,List.any_eq_true];constructor
 ·rintro ⟨x,hx,h1⟩;exact ⟨x,hx,by rw [<- h x hx];exact h1⟩
 ·rintro ⟨x,hx,h1⟩;exact ⟨x,hx,by rw [h x hx];exact h1⟩
theorem b7V (bs:List Bq) (lease:List Cl):a6F bs lease=a7Z bs lease:=by
 unfold a6F a7Z;refine any_eq fun b _=>?_;have:(ofC b).all (fun c=>lease.contains c)=a1o (ofC b) lease:=by
  rw [Bool.eq_iff_iff,b5w,List.all_eq_true];simp only [List.contains_iff_mem]
 rw [this,Bool.or_comm]
theorem b1R {bs:List Bq} {b:Bq} (hb:a2Q b) (h:∀ c ∈ bs,a2Q c):a1t bs b=a0G bs b:=any_eq fun c hc=>b9O hb (h c hc)
theorem c0s {bs:List Bq} {w:Wk} {t:Int} {lease:List Cl} {ps:List (Rat × Rat)} {O:List Bool} (hw:Q9 w=0) (ht:0<=t) (h:∀ b ∈ bs,a2Q b):a4L bs w t lease ps O=a8t bs w t lease ps O:=by
 unfold a4L a8t;have h1:b0B bs w.walls=b2A bs w.walls:=any_eq fun b hb=>any_eq fun l _=>c0B (h b hb) l;have h2:(ps.any fun p=>a1t bs (P7 p.1 p.2 w.walk t))=ps.any fun p=>a0G bs (P7 p.1 p.2 w.walk t):=any_eq fun p _=>b1R (c4w ht) h;have h3:a9M bs w.walk t w.gates O=a9O bs w.walk t w.gates O:=any_eq fun z hz=>by rw [b1R (c6q hw ht z.1 (List.of_mem_zip hz).1) h]
 rw [b7V,h1,h2,h3]
theorem c1M {l:Lk} (h:R4 l=0):Nm.d9 l.low<=Nm.d9 l.high:=by
 unfold R4 at h;split at h
 ·cases h
 rename_i h2;have:¬ 0<=Nm.l8 (Nm.d9 l.low) (Nm.d9 l.high):=fun hc=>h2 (.inr (.inr hc));exact (a2o _ _).1 (by omega)
theorem c4F {L:List Lk} {q u:List Nm.Rt}:∀ s ∈ a0P L q u,InO s:=fun s hs=>by
 obtain ⟨z,_,rfl⟩:=List.mem_map.1 hs;unfold InO loQ hiQ;simp only;have h1:=(b0Q (u6 (Nm.d9 z.2.1+Nm.d9 z.2.2) (a9y z.2.1 z.2.2 z.1.brake)) (Nm.d9 z.2.1)).2;have h2:=(a6z (D8 (Nm.d9 z.2.1+Nm.d9 z.2.2) (a9y z.2.1 z.2.2 z.1.brake)) (Nm.d9 z.2.1)).2;exact Rat.le_trans h1 h2
theorem b7I (Z:List (Lk × Nm.Rt)):0<=J2 Z+1:=by
 have:=a2M Z;omega
theorem b5k {w:Wk} {a:Am} {holds:Int} {q u:List Nm.Rt} {lease:List Cl} {ps:List (Rat × Rat)} {O:List Bool} (hw:Q9 w=0) (ha:H9 a=0) (hq:q.length=a.links.length):a8k w a holds q u lease ps O=a6e w a holds q u lease ps O:=by
 unfold a8k a6e;rw [c2r hq,c0s hw (b7I _) c7u,c2f (fun l hl=>c1M ((M7 ha).2 l hl)) c4F]
theorem c1W (l m:List Cl):decide (0 < (a2q l m).length)=l.any fun c=>m.contains c:=by
 rw [Bool.eq_iff_iff,c8D,List.length_pos_iff_exists_mem,List.any_eq_true];simp only [b9n,List.contains_iff_mem]
set_option maxRecDepth 100000
set_option maxHeartbeats 16000000
def a0K (w:Wk) (s:Stt) (ls:List (List Cl)) (us:List (List Nm.Rt)):Int:=if J3 w s ≠ 0 then J3 w s else if ls.length ≠ w.arms.length \/ us.length ≠ w.arms.length then 1 else lsE ls
def ptV (v:Vt):Rat × Rat:=(Nm.d9 v.x,Nm.d9 v.y)
def a7A (w:Wk) (s:Stt) (ls:List (List Cl)) (us:List (List Nm.Rt)):List Int:=((w.arms.zip s.arms).zip (ls.zip us)).map fun z=>a6e w z.1.1 z.1.2.holds z.1.2.q z.2.2 z.2.1 (s.people.map ptV) s.gates
def a5R (w:Wk) (s:Stt) (ls:List (List Cl)) (us:List (List Nm.Rt)):List Int:=if a0K w s ls us=0 then a7A w s ls us else []
theorem b4M {ls:List (List Cl)} (h:lsE ls=0):∀ l ∈ ls,b7k l:=fun l hl=>by
 obtain ⟨i,hi⟩:=List.mem_iff_getElem?.1 hl;have hz:a0e ls i=0:=by
  refine Classical.byContradiction fun hc=>?_;have hil:=(c8v.1 hi).1;unfold lsE at h;cases hf:(List.range ls.length).find? (fun i=>!decide (a0e ls i=0)) with
  | none=>
   rw [List.find?_range_eq_none] at hf;have:=hf i hil;simp [hc] at this
  | some j=>
   rw [hf] at h;have:=List.find?_some hf;simp at this;exact this h
 unfold a0e at hz;rw [c8C,hi,Option.getD_some] at hz;refine a7w (Classical.byContradiction fun hc=>?_);rw [if_pos hc] at hz;exact hc hz
theorem a7y {w:Wk} {s:Stt} (h:J3 w s=0):s.people.all a1C=true:=by
 unfold J3 at h;split at h
 ·rename_i h1;exact absurd h h1
 split at h
 ·cases h
 split at h
 ·cases h
 split at h
 ·rename_i h2;exact absurd h h2
 split at h
 ·rename_i h3;rw [c8F] at h3;exact h3.2
 ·cases h
theorem a7c {l:List Vt} (h:l.all a1C=true):l=(l.map ptV).map pvt:=by
 rw [List.map_map]
 conv=>lhs;rw [<- List.map_id l]
 refine List.map_congr_left fun v hv=>?_;have h1:=List.all_eq_true.1 h v hv;unfold a1C C8 at h1;rw [c8F,c8D,c8D] at h1;obtain ⟨x,y⟩:=v
 show _=(⟨Nm.ofQ (Nm.d9 x),Nm.ofQ (Nm.d9 y)⟩:Vt)
 rw [Nm.a1V h1.1,Nm.a1V h1.2];rfl
structure c6G (w:Wk) (s:Stt) (a:Am) (x:Ast):Prop where
 arm:H9 a=0
 h1:-1<=x.holds
 h2:x.holds < w.parts.length
 q:x.q.length=a.links.length
 qb:∀ r ∈ x.q,Rb 1048576 r
theorem c0C {w:Wk} {s:Stt} {n:Nat} {a:Am} {x:Ast} (hsb:Stb 1048576 s) (h:J3 w s=0) (ga:w.arms[n]?=some a) (gx:s.arms[n]?=some x):c6G w s a x:=by
 have ho:=c6r ((a7i h).one (a,x) (c8t (J5 ga gx)));exact ⟨ho.arm,ho.holds.1,ho.holds.2,ho.q,fun r hr=>(hsb.arms.2 x (c8t gx)).1.2 r hr⟩
theorem b2X {s:Stt} (hsb:Stb 1048576 s) (h:s.people.all a1C=true):∀ p ∈ s.people.map ptV,Vb 1048576 (pvt p):=fun p hp=>by
 have h1:pvt p ∈ s.people:=by
  rw [a7c h];exact List.mem_map_of_mem hp
 exact hsb.people.2 _ h1
theorem b5R {w:Wk} {s:Stt} {ls:List (List Cl)} {us:List (List Nm.Rt)} (h:J3 w s=0) (h1:ls.length=w.arms.length) (h2:us.length=w.arms.length):(a7A w s ls us).length=w.arms.length:=by
 have:=(a7i h).arms;unfold a7A;rw [c8r,List.length_zip,List.length_zip,List.length_zip];omega
theorem b6N {w:Wk} {s:Stt} {ls:List (List Cl)} {us:List (List Nm.Rt)} {n:Nat} {a:Am} {x:Ast} {l:List Cl} {u:List Nm.Rt} (ga:w.arms[n]?=some a) (gx:s.arms[n]?=some x) (gl:ls[n]?=some l) (gu:us[n]?=some u) :
  (a7A w s ls us)[n]?=some (a6e w a x.holds x.q u l (s.people.map ptV) s.gates):=by
 unfold a7A;rw [c8x,J5 (J5 ga gx) (J5 gl gu)];rfl
theorem c1Y (w:Wk) (s:Stt) (ls:List (List Cl)) (us:List (List Nm.Rt)) (hwb:Wb 1073741824 w) (hsb:Stb 1073741824 s) (h:J3 w s ≠ 0) :
  FZ 5 [w.c,s.c,H7 ls,wss us] (.tup [.v (.slice none 0 0),.v (.slice none 0 0),ints (J3 w s)]):=by
 refine kW Tryz.func5 (by cbv) (by rfl) fun w' O hw=>?_;have h0:=a9f w s hwb hsb;generalize J3 w s=e at *;clear hwb hsb;simp only [j4,TT,II,OA,OC,MM,LL,VV,FF,MG,VG,FG];simp only [Wk.c,Wk.enc,Stt.c,Stt.enc,ams,wls,pts,sls,gts,E8,frs,bls,vts,H7,cls,wss,rts,sb,ints] at h0 ⊢;(repeat first|refine uA ?_|(apply uK;· first|omega|(intros;simp_all<;>omega))|simp (disch:=omega) only [go_sem,Nat.reduceBEq,Nat.reduceAdd]|(apply uD h0;exact tz hw;rfl));refine S.cond rfl (fun hc=>?_) (fun hc=>absurd (by simpa using hc) h);(repeat first|refine uA ?_|(apply uK;· omega)|simp (disch:=omega) only [go_sem,Nat.reduceBEq])
 (refine S.done ?_;simp only [D6,go_sem,Nat.reduceBEq];exact p8.out rfl (Imp.tup (by repeat' first|exact j3.nil|exact Imp.refl rfl|apply j3.cons)) rfl)
theorem c2F (w:Wk) (s:Stt) (ls:List (List Cl)) (us:List (List Nm.Rt)) (hwb:Wb 1073741824 w) (hsb:Stb 1073741824 s) (hst:J3 w s=0) (h:ls.length ≠ w.arms.length \/ us.length ≠ w.arms.length) :
  FZ 5 [w.c,s.c,H7 ls,wss us] (.tup [.v (.slice none 0 0),.v (.slice none 0 0),ints 1]):=by
 refine kW Tryz.func5 (by cbv) (by rfl) fun w' O hw=>?_;have h0:=a9f w s hwb hsb;rw [hst] at h0;clear hwb hsb hst;simp only [j4,TT,II,OA,OC,MM,LL,VV,FF,MG,VG,FG];simp only [Wk.c,Wk.enc,Stt.c,Stt.enc,ams,wls,pts,sls,gts,E8,frs,bls,vts,H7,cls,wss,rts,sb,ints] at h0 ⊢;(repeat first|refine uA ?_|(apply uK;· first|omega|(intros;simp_all<;>omega))|simp (disch:=omega) only [go_sem,Nat.reduceBEq,Nat.reduceAdd]|(apply uD h0;exact tz hw;rfl));refine S.cond rfl (fun hc=>by simp at hc) (fun hc=>?_);clear h0;(repeat first|refine uA ?_|(apply uK;· first|omega|(intros;simp_all<;>omega))|simp (disch:=omega) only [go_sem,Nat.reduceBEq,Nat.reduceAdd,c8r]);refine S.cond rfl (fun hc=>?_) (fun hc=>?_)
 ·(repeat first|refine uA ?_|(apply uK;· omega)|simp (disch:=omega) only [go_sem]);(refine S.done ?_;simp only [D6,go_sem,Nat.reduceBEq];exact p8.out rfl (Imp.tup (by repeat' first|exact j3.nil|exact Imp.refl rfl|apply j3.cons)) rfl)
 ·exfalso;by_cases k1:ls.length=w.arms.length<;>by_cases k2:us.length=w.arms.length<;>simp [k1,k2] at hc h<;>omega
theorem b4K (w:Wk) (s:Stt) (ls:List (List Cl)) (us:List (List Nm.Rt)) (hwb:Wb 1048576 w) (hsb:Stb 1048576 s) (hls:∀ l ∈ ls,l.length<=1048576) (hus:Wsb 1048576 us) :
 FZ 5 [w.c,s.c,H7 ls,wss us] (.tup [powC (a5R w s ls us),O7 (a5R w s ls us),ints (a0K w s ls us)]):=by
 have hnil:∀ e:Int,FZ 5 [w.c,s.c,H7 ls,wss us] (.tup [.v (.slice none 0 0),.v (.slice none 0 0),ints e])->FZ 5 [w.c,s.c,H7 ls,wss us] (.tup [powC [],O7 [],ints e]):=
  fun e h=>h.imp rfl (Imp.tup (j3.cons Imp.I9 (j3.cons Imp.I9 (j3.cons (Imp.refl rfl) j3.nil)))) rfl
 unfold a5R;by_cases hst:J3 w s=0
 ·have hE:a0K w s ls us=if ls.length ≠ w.arms.length \/ us.length ≠ w.arms.length then 1 else lsE ls:=by
   unfold a0K;rw [if_neg (fun h=>h hst)]
  by_cases hn:ls.length ≠ w.arms.length \/ us.length ≠ w.arms.length
  ·rw [if_pos hn] at hE;rw [hE,if_neg (by decide)];exact hnil _ (c2F w s ls us (hwb.m rfl) (hsb.m rfl) hst hn)
  ·rw [if_neg hn] at hE;rw [hE];have hl:ls.length=w.arms.length:=by omega
   have hu:us.length=w.arms.length:=by omega
   have ho:=a7i hst;have hg:=a7y hst;refine c1V w s ls us (a7A w s ls us) (hwb.m rfl) (hsb.m rfl) hst hl hu (b5R hst hl hu) (by have:=ho.big;omega) (fun l h=>c8y (hls l h) (by decide)) fun hE n l u r gl gu gr=>?_;have hn1:=(c8v.1 gl).1;have ga:=c8q (show n < w.arms.length by omega);have gx:=c8q (show n < s.arms.length by have:=ho.arms;omega);generalize w.arms[n]'_=a at ga;generalize s.arms[n]'_=x at gx;rw [b6N ga gx gl gu] at gr;cases gr;have hi:=c0C hsb hst ga gx
   exact c2j w s n a x l u (s.people.map ptV) hwb ga gx hi.arm hi.h1 hi.h2 hi.q (c8y (hus.2 u (c8t gu)).1 (by decide)) hi.qb (hus.2 u (c8t gu)).2 (c8y (b4M hE l (c8t gl)).1 (by decide)) (a7c hg) (b2X hsb hg) (by rw [c8r];have:=ho.people;omega) ho.gates (by have:=ho.big;omega) (by have:=ho.big;omega)
 ·have hE:a0K w s ls us=J3 w s:=by
   unfold a0K;rw [if_pos hst]
  rw [hE,if_neg hst];exact hnil _ (c1Y w s ls us (hwb.m rfl) (hsb.m rfl) hst)
open Go Eng
set_option maxHeartbeats 8000000
theorem b7z {p a b:Vt} (hp:Vb 8388608 p) (ha:Vb 8388608 a) (hb:Vb 8388608 b):Rb 268435456 (Nm.ofQ (a2m p a b)):=by
 have e1:=F9 (hb.1.g rfl) (ha.1.g rfl);have e2:=F9 (hb.2.g rfl) (ha.2.g rfl);have d1:=F9 (hp.1.g rfl) (ha.1.g rfl);have d2:=F9 (hp.2.g rfl) (ha.2.g rfl);have f1:=F9 (hp.1.g rfl) (hb.1.g rfl);have f2:=F9 (hp.2.g rfl) (hb.2.g rfl);unfold a2m b3g;split
 ·exact (I5 (y9 d1 d1) (y9 d2 d2)).m rfl
 split
 ·exact (I5 (y9 f1 f1) (y9 f2 f2)).m rfl
 ·rename_i h1 h2;have c:=F9 (y9 e1 d2) (y9 e2 d1);refine (a7C ?_ (y9 c c) (I5 (y9 e1 e1) (y9 e2 e2))).m rfl;intro hz;rw [hz] at h2;rw [b0V] at h2;have:=a6C (Int.not_le.1 h1);exact h2 (Rat.le_of_lt this)
theorem b3r (p a b:Vt) (hp:Vb 8388608 p) (ha:Vb 8388608 a) (hb:Vb 8388608 b):FZ 178 [p.c,a.c,b.c] (rq (a2m p a b)):=by
 refine kW Tryz.func178 (by cbv) (by rfl) fun w O hw=>?_;have o1:=a2E b.x b.y a.x a.y (hb.1.m rfl) (hb.2.m rfl) (ha.1.m rfl) (ha.2.m rfl);have o2:=a2E p.x p.y a.x a.y (hp.1.m rfl) (hp.2.m rfl) (ha.1.m rfl) (ha.2.m rfl);have o3:=a2E p.x p.y b.x b.y (hp.1.m rfl) (hp.2.m rfl) (hb.1.m rfl) (hb.2.m rfl);have e1:=F9 (hb.1.g rfl) (ha.1.g rfl);have e2:=F9 (hb.2.g rfl) (ha.2.g rfl);have d1:=F9 (hp.1.g rfl) (ha.1.g rfl);have d2:=F9 (hp.2.g rfl) (ha.2.g rfl);have f1:=F9 (hp.1.g rfl) (hb.1.g rfl);have f2:=F9 (hp.2.g rfl) (hb.2.g rfl);unfold a2m b3g;clear hp ha hb;generalize Nm.d9 b.x-Nm.d9 a.x=x1 at *;generalize Nm.d9 b.y-Nm.d9 a.y=x2 at *;generalize Nm.d9 p.x-Nm.d9 a.x=y1 at *
 generalize Nm.d9 p.y-Nm.d9 a.y=y2 at *;generalize Nm.d9 p.x-Nm.d9 b.x=z1 at *;generalize Nm.d9 p.y-Nm.d9 b.y=z2 at *;have o4:=a8b y1 y2 x1 x2 (d1.m rfl) (d2.m rfl) (e1.m rfl) (e2.m rfl);have o5:=a8b x1 x2 x1 x2 (e1.m rfl) (e2.m rfl) (e1.m rfl) (e2.m rfl);have o6:=a8b y1 y2 y1 y2 (d1.m rfl) (d2.m rfl) (d1.m rfl) (d2.m rfl);have o7:=a8b z1 z2 z1 z2 (f1.m rfl) (f2.m rfl) (f1.m rfl) (f2.m rfl);have tb:=I5 (y9 d1 e1) (y9 d2 e2);have sb':=I5 (y9 e1 e1) (y9 e2 e2);have cb:=F9 (y9 e1 d2) (y9 e2 d1);have o8:=b2S x1 x2 y1 y2 (e1.m rfl) (e2.m rfl) (d1.m rfl) (d2.m rfl);generalize y1*x1+y2*x2=t at *;generalize x1*x1+x2*x2=z at *;generalize x1*y2-x2*y1=c at *;have o9:=M8 (Nm.ofQ t) (tb.m rfl)
 have oa:=F6 (Nm.ofQ t) (Nm.ofQ z) (tb.m rfl) (sb'.m rfl);have ob:=a1g c c (cb.m rfl) (cb.m rfl);have oc:=b4h (Nm.ofQ (c*c)) (Nm.ofQ z) ((y9 cb cb).m rfl) (sb'.m rfl);rw [Nm.l6] at o9;rw [Nm.l6,Nm.l6] at oa oc;have hz:¬ q8 t<=0->¬ 0<=Nm.l8 t z->z ≠ 0:=fun h1 h2 hz=>by
  rw [hz] at h2;have h3:=(Y6 t 0).1 (by omega);have h4:=a6C (show 0 < q8 t by omega);grind
 clear e1 e2 d1 d2 f1 f2 tb sb' cb;unfold a3r at oc;generalize q8 t=s at *;generalize Nm.l8 t z=k at *;simp only [j4,TT,II,OA,OB,MM,LL];simp only [Vt.c,Vt.enc,vq,rq,rc,vc,sb,ints] at o1 o2 o3 o4 o5 o6 o7 o8 o9 oa ob oc ⊢;(repeat first|refine uA ?_|(apply uK;· first|omega|(intros;simp_all<;>omega))|simp (disch:=omega) only [go_sem,Nat.reduceBEq,Nat.reduceAdd]|(apply uD o1;exact tz hw;rfl)|(apply uD o2;exact tz hw;rfl)|(apply uD o4;exact tz hw;rfl)|(apply uD o5;exact tz hw;rfl)|(apply uD o9;exact tz hw;rfl));refine S.cond rfl (fun hc=>?_) (fun hc=>?_)
 ·rw [if_pos (by simpa using hc)];(repeat first|refine uA ?_|(apply uK;· omega)|simp (disch:=omega) only [go_sem,Nat.reduceBEq]|(apply uD o6;exact tz hw;rfl));exact uS rfl rfl
 have hs:¬ s<=0:=by simpa using hc
 rw [if_neg hs];(repeat first|refine uA ?_|(apply uK;· omega)|simp (disch:=omega) only [go_sem,Nat.reduceBEq]|(apply uD oa;exact tz hw;rfl));refine S.cond rfl (fun hc=>?_) (fun hc=>?_)
 ·rw [if_pos (by simpa using hc)];(repeat first|refine uA ?_|(apply uK;· omega)|simp (disch:=omega) only [go_sem,Nat.reduceBEq]|(apply uD o3;exact tz hw;rfl)|(apply uD o7;exact tz hw;rfl));exact uS rfl rfl
 have hk:¬ 0<=k:=by simpa using hc
 rw [if_neg hk];rw [if_neg (hz hs hk)] at oc;(repeat first|refine uA ?_|(apply uK;· omega)|simp (disch:=omega) only [go_sem,Nat.reduceBEq]|(apply uD o8;exact tz hw;rfl)|(apply uD ob;exact tz hw;rfl)|(apply uD oc;exact tz hw;rfl));exact uS rfl rfl
theorem b2Q {p:Vt} {l:List Vt} (hp:Vb 8388608 p) (hl:Vbs 8388608 l) (h2:2<=l.length):∀ i,i<=l.length->Rb 268435456 (Nm.ofQ ((List.range i).foldl (fun m i=>u6 m (a3Y p l i)) (a2m p (l.getD 0 Vt.zero) (l.getD 1 Vt.zero))))
 | 0,_=>b7z hp (hl.2 _ (a0Z (by omega))) (hl.2 _ (a0Z (by omega)))
 | i+1,hi=>by
  rw [List.range_succ,List.foldl_append];exact a3z (b2Q hp hl h2 i (by omega)) (b7z hp (hl.2 _ (a0Z (by omega))) (hl.2 _ (a0Z (Nat.mod_lt _ (by omega)))))
theorem a6m {p:Vt} {l:List Vt} (hp:Vb 8388608 p) (hl:Vbs 8388608 l) (h2:2<=l.length):Rb 268435456 (Nm.ofQ (F4 p l)):=b2Q hp hl h2 _ (c8B _)
theorem b3J (p:Vt) (l:List Vt) (hp:Vb 8388608 p) (hl:Vbs 8388608 l) (h2:2<=l.length):FZ 138 [p.c,vts l] (rq (F4 p l)):=by
 refine kW Tryz.func138 (by cbv) (by rfl) fun w O hw=>?_;have g0:=c8q (show 0 < l.length by omega);have g1:=c8q (show 1 < l.length by omega);have e0:l.getD 0 Vt.zero=l[0]'(by omega):=by rw [c8C,g0];rfl
 have e1:l.getD 1 Vt.zero=l[1]'(by omega):=by rw [c8C,g1];rfl
 have hnb:=b2Q hp hl h2;have hns:∀ i,(List.range (i+1)).foldl (fun m i=>u6 m (a3Y p l i)) (a2m p (l.getD 0 Vt.zero) (l.getD 1 Vt.zero))=u6 ((List.range i).foldl (fun m i=>u6 m (a3Y p l i)) (a2m p (l.getD 0 Vt.zero) (l.getD 1 Vt.zero))) (a3Y p l i):=fun i=>by
  rw [List.range_succ,List.foldl_append];rfl
 have hn0:(List.range 0).foldl (fun m i=>u6 m (a3Y p l i)) (a2m p (l.getD 0 Vt.zero) (l.getD 1 Vt.zero))=a2m p (l.getD 0 Vt.zero) (l.getD 1 Vt.zero):=rfl;unfold F4;obtain ⟨U,hU⟩:∃ U:Nat->Rat,U=fun i=>(List.range i).foldl (fun m i=>u6 m (a3Y p l i)) (a2m p (l.getD 0 Vt.zero) (l.getD 1 Vt.zero)):=⟨_,rfl⟩
 have hUi:∀ i,(List.range i).foldl (fun m i=>u6 m (a3Y p l i)) (a2m p (l.getD 0 Vt.zero) (l.getD 1 Vt.zero))=U i:=fun i=>by rw [hU]
 simp only [hUi] at hnb hns hn0 ⊢;clear hU hUi;rw [e0,e1] at hn0;generalize l[0]'_=x0 at g0 hn0;generalize l[1]'_=x1 at g1 hn0;have o0:=b3r p x0 x1 hp (hl.2 _ (c8t g0)) (hl.2 _ (c8t g1));have hln:l.length<=8388608:=hl.1;rw [<- hn0] at o0;clear hn0 e0 e1;simp only [j4,TT,II,OA,OB,MM,LL];simp only [Vt.c,Vt.enc,vts,rq,rc,sb] at o0 ⊢;(repeat first|refine uA ?_|(apply uK;· first|omega|(intros;simp_all<;>omega))|simp (disch:=omega) only [go_sem,Nat.reduceBEq,Nat.reduceAdd,c8r,c8x,g0,g1,c8s,Vt.enc,sb]|(refine uD o0 ?_ ?_ ?_;exact tz hw;rfl))
 refine S.loop (X:=Nat) (fun i=>⟨[(1,vts l),(2,.bp 0 0),(4,.bp 1 0),(5,.bp 2 0),(16,vts l),(17,ints l.length),(18,ints i)],[.box 73 p.enc,.box 28 [.v (.bool false),sb [],sb []],.box 28 (rcs (Nm.ofQ (U i)))]⟩) (fun i=>i<=l.length) (fun i=>l.length-i) 0 (c8w _) (by simp only [Vt.enc,rcs,sb];exact (by repeat first|refine uA ?_|(refine ⟨?_,?_⟩;· first|rfl|simp [slot])|rfl|simp)) ?_;intro i hi;clear o0 g0 g1;simp only [vts,ints,Vt.enc,rcs,sb];(repeat first|refine uA ?_|(apply uK;· first|omega|(intros;simp_all<;>omega))|simp (disch:=omega) only [go_sem,Nat.reduceBEq]);(refine uJ rfl (fun hc=>?_) fun hc=>?_)
 ·have hi':i < l.length:=by omega
  have hylt:(i+1) % l.length < l.length:=Nat.mod_lt _ (by omega);have gx:=c8q hi';have gy:=c8q hylt;generalize l[i]=x at gx;generalize l[(i+1) % l.length]=y at gy;have he:a3Y p l i=a2m p x y:=by
   unfold a3Y;rw [c8C,c8C,gx,gy];rfl
  have hx:=hl.2 _ (c8t gx);have hy:=hl.2 _ (c8t gy);have o1:=b3r p x y hp hx hy;have o2:=a2k (Nm.ofQ (U i)) (Nm.ofQ (a2m p x y)) ((hnb i hi).m rfl) ((b7z hp hx hy).m rfl);rw [Nm.l6,Nm.l6] at o2;have hs:=hns i;rw [he] at hs;rw [<- hs] at o2;clear hs he hx hy;generalize a2m p x y=s at *;generalize hA:U (i+1)=A at *;simp only [Vt.c,Vt.enc,rq,rc,sb] at o1 o2;(repeat first|refine uA ?_|(apply uK;· first|omega|(intros;simp_all<;>omega))|simp (disch:=omega) only [go_sem,Nat.reduceBEq,Nat.reduceAdd,ww,gx,gy,c8s,tmod_one,c8r,c8x,Vt.enc,sb,c8u]|(refine uD o1 ?_ ?_ ?_;exact tz hw;rfl)|(refine uD o2 ?_ ?_ ?_;exact tz hw;rfl))
  refine S.next (i+1) (by omega) (by omega) (by simp only [hA];exact (by repeat first|refine uA ?_|(refine ⟨?_,?_⟩;· first|rfl|simp [slot])|rfl|simp))
 ·have hi':i=l.length:=by omega
  subst hi';(repeat first|refine uA ?_|(apply uK;· first|omega|(intros;simp_all<;>omega))|simp (disch:=omega) only [go_sem,Nat.reduceBEq,Nat.reduceAdd]);exact uS rfl rfl
def sqR (a b:List Vt):Nm.Rt:=if R9 a b ≠ 0 then ⟨false,[],[]⟩ else Nm.ofQ (if a2D a b=true then 0 else sqV a b)
theorem b0t {a b:List Vt} (hb:Vbs 8388608 b) (h2:2<=b.length):∀ (l:List Vt) (m:Rat),(∀ p ∈ l,Vb 8388608 p)->Rb 268435456 (Nm.ofQ m)->Rb 268435456 (Nm.ofQ (l.foldl (fun m p=>u6 m (F4 p b)) m))
 | [],_,_,h=>h
 | x::l,m,hl,h=>b0t (a:=a) hb h2 l _ (fun p hp=>hl p (by simp [hp])) (a3z h (a6m (hl x (by simp)) hb h2))
theorem c7s {a b:List Vt} (ha:Vbs 8388608 a) (hb:Vbs 8388608 b):Rb 268435456 (sqR a b):=by
 unfold sqR;split
 ·exact ⟨c8w _,c8w _⟩
 rename_i he;have he:=Classical.not_not.1 he;unfold R9 at he;split at he
 ·rename_i h1;have h3:=(a0F h1).1;have h4:=(a0F he).1;split
  ·exact O8.m rfl
  ·exact b0t (a:=a) ha (by omega) b _ hb.2 (b0t (a:=a) hb (by omega) a _ ha.2 (a6m (ha.2 _ (a0Z (by omega))) hb (by omega)))
 ·contradiction
theorem c7Q (a b:List Vt) (ha:Vbs 8388608 a) (hb:Vbs 8388608 b):FZ 70 [vts a,vts b] (.tup [rc (sqR a b),ints (R9 a b)]):=by
 refine kW Tryz.func70 (by cbv) (by rfl) fun w O hw=>?_;have o0:=b4b a b ⟨c8y ha.1 (by decide),fun v hv=>(ha.2 v hv).m rfl⟩ ⟨c8y hb.1 (by decide),fun v hv=>(hb.2 v hv).m rfl⟩;have hlen:R9 a b=0->3<=a.length/\3<=b.length:=fun h=>by
  unfold R9 at h;split at h
  ·rename_i h1;exact ⟨(a0F h1).1,(a0F h).1⟩
  ·contradiction
 have oz:=a1q;unfold sqR;generalize R9 a b=e at *;generalize a2D a b=m at *;simp only [j4,TT,II,OA,OB,MM,LL];simp only [vts,rq,rc,sb,ints] at o0 oz ⊢;(repeat first|refine uA ?_|(apply uK;· first|omega|(intros;simp_all<;>omega))|simp (disch:=omega) only [go_sem,Nat.reduceBEq,Nat.reduceAdd]|(apply uD o0;exact tz hw;rfl));(refine uJ rfl (fun hc=>?_) fun hc=>?_)
 ·rw [if_pos (by omega)];(repeat first|refine uA ?_|(apply uK;· omega)|simp (disch:=omega) only [go_sem,Nat.reduceBEq]);exact uQ rfl (Imp.tup (by repeat' first|exact j3.nil|exact Imp.refl rfl|apply j3.cons)) rfl rfl
 have he:e=0:=by omega
 subst he;rw [if_neg (by decide)];obtain ⟨a3,b3⟩:=hlen rfl;clear o0 hlen;(repeat first|refine uA ?_|(apply uK;· omega)|simp (disch:=omega) only [go_sem,Nat.reduceBEq]);refine S.cond rfl (fun hc=>?_) (fun hc=>?_)
 ·subst hc;rw [if_pos rfl];(repeat first|refine uA ?_|(apply uK;· omega)|simp (disch:=omega) only [go_sem,Nat.reduceBEq]|(apply uD oz;exact tz hw;rfl));exact uQ rfl (Imp.tup (by repeat' first|exact j3.nil|exact Imp.refl rfl|apply j3.cons)) rfl rfl
 subst hc;rw [if_neg (by decide)];clear oz;have g0:=c8q (show 0 < a.length by omega);have e0:a.getD 0 Vt.zero=a[0]'(by omega):=by rw [c8C,g0];rfl
 have hax:=ha.2 _ (c8t g0);have hmb:=fun i=>b0t (a:=a) hb (by omega) (a.take i) (F4 (a.getD 0 Vt.zero) b) (fun p hp=>ha.2 p (List.mem_of_mem_take hp)) (a6m (by rw [e0];exact hax) hb (by omega));have hma:∀ i,Rb 268435456 (Nm.ofQ ((b.take i).foldl (fun m q=>u6 m (F4 q a)) (a.foldl (fun m p=>u6 m (F4 p b)) (F4 (a.getD 0 Vt.zero) b)))):=fun i=>by
  refine b0t (a:=a) ha (by omega) (b.take i) _ (fun p hp=>hb.2 p (List.mem_of_mem_take hp)) ?_;have:=hmb a.length;rwa [c8J] at this
 unfold sqV;have hst:(a.take 0).foldl (fun m p=>u6 m (F4 p b)) (F4 (a.getD 0 Vt.zero) b)=F4 (a.getD 0 Vt.zero) b:=by rw [List.take_zero];rfl
 rw [e0] at hst hmb hma ⊢;generalize a[0]'_=x0 at *;have o0:=b3J x0 b hax hb (by omega);have hsu:=fun (i:Nat) (x:Vt) (h:a[i]?=some x)=>show (a.take (i+1)).foldl (fun m p=>u6 m (F4 p b)) (F4 x0 b)=u6 ((a.take i).foldl (fun m p=>u6 m (F4 p b)) (F4 x0 b)) (F4 x b) from by rw [take_at h,List.foldl_append];rfl
 have hsv:=fun (i:Nat) (x:Vt) (h:b[i]?=some x)=>show (b.take (i+1)).foldl (fun m q=>u6 m (F4 q a)) (a.foldl (fun m p=>u6 m (F4 p b)) (F4 x0 b))=u6 ((b.take i).foldl (fun m q=>u6 m (F4 q a)) (a.foldl (fun m p=>u6 m (F4 p b)) (F4 x0 b))) (F4 x a) from by rw [take_at h,List.foldl_append];rfl
 have hfa:(a.take a.length).foldl (fun m p=>u6 m (F4 p b)) (F4 x0 b)=a.foldl (fun m p=>u6 m (F4 p b)) (F4 x0 b):=by rw [c8J]
 have hfb:(b.take b.length).foldl (fun m q=>u6 m (F4 q a)) (a.foldl (fun m p=>u6 m (F4 p b)) (F4 x0 b))=b.foldl (fun m q=>u6 m (F4 q a)) (a.foldl (fun m p=>u6 m (F4 p b)) (F4 x0 b)):=by rw [c8J]
 rw [<- hfb];obtain ⟨V,hV⟩:∃ V:Nat->Rat,V=fun i=>(b.take i).foldl (fun m q=>u6 m (F4 q a)) (a.foldl (fun m p=>u6 m (F4 p b)) (F4 x0 b)):=⟨_,rfl⟩
 have hVi:∀ i,(b.take i).foldl (fun m q=>u6 m (F4 q a)) (a.foldl (fun m p=>u6 m (F4 p b)) (F4 x0 b))=V i:=fun i=>by rw [hV]
 obtain ⟨U,hU⟩:∃ U:Nat->Rat,U=fun i=>(a.take i).foldl (fun m p=>u6 m (F4 p b)) (F4 x0 b):=⟨_,rfl⟩
 have hUi:∀ i,(a.take i).foldl (fun m p=>u6 m (F4 p b)) (F4 x0 b)=U i:=fun i=>by rw [hU]
 have hv0:V 0=U a.length:=by
  rw [hV,hU];simp only [List.take_zero,c8J,List.foldl_nil]
 simp only [hVi,hUi] at hst hmb hma hsu hsv ⊢;clear hVi hUi hV hU hfa hfb;rw [<- hst] at o0;clear hst;have hna:=ha.1;have hnb:=hb.1;simp only [Vt.c,Vt.enc,vts,rq,rc,sb] at o0;(repeat first|refine uA ?_|(apply uK;· omega)|simp (disch:=omega) only [go_sem,Nat.reduceBEq,c8r,c8x,g0,c8s,Vt.enc,sb]|(apply uD o0;exact tz hw;rfl));refine S.loop (X:=Nat) (fun i=>⟨[(0,vts a),(1,vts b),(4,.bp 0 0),(8,.bp 1 0),(30,vts a),(31,ints a.length),(32,ints i)],[.box 28 [.v (.bool false),sb [],sb []],.box 28 (rcs (Nm.ofQ (U i)))]⟩) (fun i=>i<=a.length) (fun i=>a.length-i) 0 (c8w _) (by simp only [vts,rcs,sb];exact (by repeat first|refine uA ?_|(refine ⟨?_,?_⟩;· first|rfl|simp [slot])|rfl|simp)) ?_;intro i hi
 clear o0 g0 hax;simp only [vts,ints,rcs,sb];(repeat first|refine uA ?_|(apply uK;· omega)|simp (disch:=omega) only [go_sem,Nat.reduceBEq]);(refine uJ rfl (fun hc=>?_) fun hc=>?_)
 ·have hi':i < a.length:=by omega
  have gx:=c8q hi';generalize a[i]=x at gx;have hx:=ha.2 _ (c8t gx);have o1:=b3J x b hx hb (by omega);have o2:=a2k (Nm.ofQ (U i)) (Nm.ofQ (F4 x b)) ((hmb i).m rfl) ((a6m hx hb (by omega)).m rfl);rw [Nm.l6,Nm.l6] at o2;rw [<- hsu i x gx] at o2;clear hx;generalize F4 x b=s at *;generalize hA:U (i+1)=A at *;simp only [Vt.c,Vt.enc,vts,rq,rc,sb] at o1 o2;(repeat first|refine uA ?_|(apply uK;· omega)|simp (disch:=omega) only [go_sem,Nat.reduceBEq,ww,gx,c8s,c8r,c8x,Vt.enc,sb,c8u]|(apply uD o1;exact tz hw;rfl)|(apply uD o2;exact tz hw;rfl));refine S.next (i+1) (by omega) (by omega) (by simp only [hA];exact (by repeat first|refine uA ?_|(refine ⟨?_,?_⟩;· first|rfl|simp [slot])|rfl|simp))
 have hi':i=a.length:=by omega
 subst hi';(repeat first|refine uA ?_|(apply uK;· omega)|simp (disch:=omega) only [go_sem,Nat.reduceBEq,c8r]);refine S.loop (X:=Nat) (fun i=>⟨[(0,vts a),(1,vts b),(4,.bp 0 0),(8,.bp 1 0),(42,vts b),(43,ints b.length),(44,ints i)],[.box 28 [.v (.bool false),sb [],sb []],.box 28 (rcs (Nm.ofQ (V i)))]⟩) (fun i=>i<=b.length) (fun i=>b.length-i) 0 (c8w _) (by simp only [vts,rcs,sb,hv0];exact (by repeat first|refine uA ?_|(refine ⟨?_,?_⟩;· first|rfl|simp [slot])|rfl|simp)) ?_;intro i hi2;simp only [vts,ints,rcs,sb];(repeat first|refine uA ?_|(apply uK;· omega)|simp (disch:=omega) only [go_sem,Nat.reduceBEq]);(refine uJ rfl (fun hc=>?_) fun hc=>?_)
 ·have hi':i < b.length:=by omega
  have gx:=c8q hi';generalize b[i]=x at gx;have hx:=hb.2 _ (c8t gx);have o1:=b3J x a hx ha (by omega);have o2:=a2k (Nm.ofQ (V i)) (Nm.ofQ (F4 x a)) ((hma i).m rfl) ((a6m hx ha (by omega)).m rfl);rw [Nm.l6,Nm.l6] at o2;rw [<- hsv i x gx] at o2;clear hx;generalize F4 x a=s at *;generalize hA:V (i+1)=A at *;simp only [Vt.c,Vt.enc,vts,rq,rc,sb] at o1 o2;(repeat first|refine uA ?_|(apply uK;· omega)|simp (disch:=omega) only [go_sem,Nat.reduceBEq,ww,gx,c8s,c8r,c8x,Vt.enc,sb,c8u]|(apply uD o1;exact tz hw;rfl)|(apply uD o2;exact tz hw;rfl));refine S.next (i+1) (by omega) (by omega) (by simp only [hA];exact (by repeat first|refine uA ?_|(refine ⟨?_,?_⟩;· first|rfl|simp [slot])|rfl|simp))
 ·have hi':i=b.length:=by omega
  subst hi';(repeat first|refine uA ?_|(apply uK;· omega)|simp (disch:=omega) only [go_sem,Nat.reduceBEq]);exact uQ rfl (Imp.tup (by repeat' first|exact j3.nil|exact Imp.refl rfl|apply j3.cons)) rfl rfl
theorem b8p (l:List Cl) (c:Cl) (hn:l.length<=1000000000):u7 Tryz.prog 63 [cls l,.agg (ce c)] (ints (a0f (fun x=>decide (c=x)) l)):=by
 refine kS Tryz.func63 (by cbv) (by rfl) fun w O=>?_;obtain ⟨c1,c2⟩:=c;simp only [j4,TT,II,OA,MM,LL,cls,ce,ints];(repeat first|refine uA ?_|(apply uK;· first|omega|(intros;simp_all<;>omega))|simp (disch:=omega) only [go_sem,Nat.reduceBEq,Nat.reduceAdd,c8r]);refine S.loop (X:=Nat) (fun i=>⟨[(0,cls l),(3,.bp 0 0),(7,ints l.length),(8,ints i)],[.box 61 [.v (.int .i64 c1),.v (.int .i64 c2)]]⟩) (fun i=>i<=l.length/\∀ j,j < i->∀ x,l[j]?=some x->decide ((c1,c2)=x)=false) (fun i=>l.length-i) 0 ⟨c8w _,fun _ h=>absurd h (Nat.not_lt_zero _)⟩ (by simp only [cls];exact (by repeat first|refine uA ?_|(refine ⟨?_,?_⟩;· first|rfl|simp [slot])|rfl|simp)) ?_;rintro i ⟨hi,hm⟩;simp only [cls,ints]
 (repeat first|refine uA ?_|(apply uK;· first|omega|(intros;simp_all<;>omega))|simp (disch:=omega) only [go_sem,Nat.reduceBEq]);(refine uJ rfl (fun hc=>?_) fun hc=>?_)
 ·have hgi:=c8q (show i < l.length by omega);generalize l[i]'(_)=x at hgi;obtain ⟨x1,x2⟩:=x;(repeat first|refine uA ?_|(apply uK;· first|omega|(intros;simp_all<;>omega))|simp (disch:=omega) only [go_sem,Nat.reduceBEq,Nat.reduceAdd,hgi,c8s,c8r,c8x,c8u,ce]);refine S.cond rfl (fun hc2=>?_) (fun hc2=>?_)
  ·have h2:decide (((c1,c2):Cl)=(x1,x2))=true:=by simp at hc2 ⊢;exact hc2
   rw [a0W (p:=fun x=>decide ((c1,c2)=x)) hgi h2 hm];(repeat first|refine uA ?_|(apply uK;· first|omega|(intros;simp_all<;>omega))|simp (disch:=omega) only [go_sem,Nat.reduceBEq]);exact uS rfl rfl
  ·have h2:decide (((c1,c2):Cl)=(x1,x2))=false:=by simp at hc2 ⊢;exact hc2
   (repeat first|refine uA ?_|(apply uK;· first|omega|(intros;simp_all<;>omega))|simp (disch:=omega) only [go_sem,Nat.reduceBEq,ww]);refine S.next (i+1) ⟨by omega,fun j hj y hy=>?_⟩ (by omega) (by repeat first|refine uA ?_|(refine ⟨?_,?_⟩;· first|rfl|simp [slot])|rfl|simp);rcases c8N j i with h1|h1
   ·exact hm j h1 y hy
   ·have:j=i:=by omega
    subst this;rw [hgi] at hy;cases hy;exact h2
 ·have hi':i=l.length:=by omega
  subst hi';rw [a0k hm];(repeat first|refine uA ?_|(apply uK;· first|omega|(intros;simp_all<;>omega))|simp (disch:=omega) only [go_sem]);exact uS rfl rfl
theorem c2k (l:List Cl) (c:Cl):l.any (fun x=>decide (c=x))=l.contains c:=by
 rw [Bool.eq_iff_iff,List.any_eq_true,List.contains_iff_mem];exact ⟨fun ⟨x,h1,h2⟩=>by rw [of_decide_eq_true h2];exact h1,fun h=>⟨c,h,by simp⟩⟩
theorem b4L (l:List Cl) (c:Cl) (hn:l.length<=1000000000):u7 Tryz.prog 19 [cls l,.agg (ce c)] (.v (.bool (l.contains c))):=by
 refine kS Tryz.func19 (by cbv) (by rfl) fun w O=>?_;have h:=b8p l c hn;rw [<- c2k,<- a1E];generalize a0f (fun x=>decide (c=x)) l=k at *;obtain ⟨c1,c2⟩:=c;simp only [j4,TT,II,OA,MM,LL];simp only [cls,ce,ints] at *;(repeat first|refine uA ?_|(apply uK;· first|omega|(intros;simp_all<;>omega))|simp (disch:=omega) only [go_sem,Nat.reduceBEq,Nat.reduceAdd]|(apply uB h;exact rfl));exact uS rfl rfl
theorem c1D (b c:Bq) (hb:Bb 4294967296 b) (hc:Bb 4294967296 c):FZ 69 [.agg c.enc,.ep b.enc] (.v (.bool (a6H b c))):=by
 refine kW Tryz.func69 (by cbv) (by rfl) fun w O hw=>?_;unfold a6H;obtain ⟨lx,ly,hx,hy⟩:=b;obtain ⟨kx,ky,gx,gy⟩:=c;obtain ⟨a1,a2,a3,a4⟩:=hb;obtain ⟨b1,b2,b3,b4⟩:=hc;simp only at a1 a2 a3 a4 b1 b2 b3 b4;have o1:=F6 (Nm.ofQ lx) (Nm.ofQ gx) (a1.m rfl) (b3.m rfl);have o2:=F6 (Nm.ofQ kx) (Nm.ofQ hx) (b1.m rfl) (a3.m rfl);have o3:=F6 (Nm.ofQ ly) (Nm.ofQ gy) (a2.m rfl) (b4.m rfl);have o4:=F6 (Nm.ofQ ky) (Nm.ofQ hy) (b2.m rfl) (a4.m rfl);rw [Nm.l6,Nm.l6] at o1 o2 o3 o4;simp only;generalize Nm.l8 lx gx=c1 at *;generalize Nm.l8 kx hx=c2 at *;generalize Nm.l8 ly gy=c3 at *;generalize Nm.l8 ky hy=c4 at *;simp only [j4,TT,II,OA,OC,MM,LL,FF,LG,FG];simp only [Bq.enc,rc,sb,ints] at o1 o2 o3 o4 ⊢
 (repeat first|refine uA ?_|(apply uK;· first|omega|(intros;simp_all<;>omega))|simp (disch:=omega) only [go_sem,Nat.reduceBEq,Nat.reduceAdd]|(apply uD o1;exact tz hw;rfl)|(apply uD o2;exact tz hw;rfl)|(apply uD o3;exact tz hw;rfl)|(apply uD o4;exact tz hw;rfl));exact uS rfl rfl
theorem b6y (bs:List Bq) (b:Bq) (hn:bs.length<=1000) (hb:Bb 4294967296 b) (hbs:∀ c ∈ bs,Bb 4294967296 c):FZ 68 [.agg b.enc,.ep [bqs bs]] (.v (.bool (a1t bs b))):=by
 refine kW Tryz.func68 (by cbv) (by rfl) fun w O hw=>?_;have h:=b8C 69 (by kernel_rfl) b.enc (fun c=>a6H b c) bs (by omega) (fun c hc=>c1D b c hb (hbs c hc));unfold a1t;generalize (bs.any fun c=>a6H b c)=r at *;simp only [j4,TT,OA,MM,VV];simp only [bqs,Bq.enc,sb] at *
 (repeat first|refine uA ?_|(apply uK;· first|omega|(intros;simp_all<;>omega))|simp (disch:=omega) only [go_sem,Nat.reduceBEq,Nat.reduceAdd]|(apply uE h;exact tz hw;exact rfl;focus (repeat' first|exact j3.nil|exact Imp.refl rfl|exact Imp.I9|exact Imp.fbx rfl rfl (j3.refl rfl) rfl rfl|refine Imp.clo ?_|exact Imp.frz rfl rfl rfl|(refine Imp.K5 rfl rfl ?_ ?_;(focus ((try simp only [c8A]);omega));(focus first|rfl|assumption))|refine Imp.agg ?_|refine j3.cons ?_ ?_);done));exact uS rfl rfl
theorem c4l (m:List Cl) (c:Cl) (hn:m.length<=1000000000):u7 Tryz.prog 18 [.agg (ce c),.ep [cls m]] (.v (.bool (m.contains c))):=by
 refine kS Tryz.func18 (by cbv) (by rfl) fun w O=>?_;have h:=b4L m c hn;generalize m.contains c=r at *;simp only [j4,TT,OA,MM,LL,VV];simp only [cls,ce] at *;(repeat first|refine uA ?_|(apply uK;· first|omega|(intros;simp_all<;>omega))|simp (disch:=omega) only [go_sem,Nat.reduceBEq,Nat.reduceAdd]|(apply uB h;exact rfl));exact uS rfl rfl
set_option maxHeartbeats 32000000
theorem c2L {l:Lk} (h:R4 l=0):Nm.ofQ (Nm.d9 l.low)=l.low/\Nm.ofQ (Nm.d9 l.high)=l.high:=by
 unfold R4 at h;split at h
 ·cases h
 rename_i h2;have hs2:(j5 l.length && j5 l.low && j5 l.high && j5 l.speed && j5 l.brake)=true:=by
  cases hb:(j5 l.length && j5 l.low && j5 l.high && j5 l.speed && j5 l.brake) with
  | true=>rfl
  | false=>exact absurd (.inl hb) h2
 simp only [c8F] at hs2;have h3:=hs2.1.1.1.2;have h4:=hs2.1.1.2;unfold j5 at h3 h4;simp only [c8F,c8D] at h3 h4;exact ⟨Nm.a1V h3.1.1.2,Nm.a1V h4.1.1.2⟩
theorem c1i (b:Bq) (l:List Vt):a3S b l=(!decide (R9 (a1d b) l=0) || decide (q8 (Nm.d9 (sqR (a1d b) l))=0)):=by
 unfold a3S sqR;by_cases h:R9 (a1d b) l=0
 ·rw [if_neg (show ¬ R9 (a1d b) l ≠ 0 from fun hc=>hc h),Nm.l6]
 ·simp [h]
theorem c5a (lx ly hx hy:Nm.Rt) (r:Rat) (b1:Rb 1073741824 lx) (b2:Rb 1073741824 ly) (b3:Rb 1073741824 hx) (b4:Rb 1073741824 hy) (hr:Rb 1073741824 (Nm.ofQ r)):FZ 71 [.agg [.v (.bool lx.neg),sb lx.num,sb lx.den,.v (.bool ly.neg),sb ly.num,sb ly.den,.v (.bool hx.neg),sb hx.num,sb hx.den,.v (.bool hy.neg),sb hy.num,sb hy.den],rq r] (.agg (a0b ⟨Nm.d9 lx,Nm.d9 ly,Nm.d9 hx,Nm.d9 hy⟩ r).enc):=by
 refine kW Tryz.func71 (by cbv) (by rfl) fun w O hw=>?_;have o1:=a2E lx ly (Nm.ofQ r) (Nm.ofQ r) (b1.m rfl) (b2.m rfl) (hr.m rfl) (hr.m rfl);have o2:=b9I hx hy (Nm.ofQ r) (Nm.ofQ r) (b3.m rfl) (b4.m rfl) (hr.m rfl) (hr.m rfl);simp only [Nm.l6] at o1 o2;unfold a0b;simp only;generalize Nm.d9 lx-r=x1 at *;generalize Nm.d9 ly-r=x2 at *;generalize Nm.d9 hx+r=x3 at *;generalize Nm.d9 hy+r=x4 at *;simp only [j4,TT,OA,OB,LL,FF];simp only [Bq.enc,vc,vq,rq,rc,sb] at o1 o2 ⊢;(repeat first|refine uI ?_|(apply uK;· first|omega|(intros;simp_all<;>omega))|simp (disch:=omega) only [go_sem,Nat.reduceBEq,Nat.reduceAdd])
 refine S.X4 [.box 103 [.v (.bool lx.neg),.v (.string (bs lx.num)),.v (.string (bs lx.den)),.v (.bool ly.neg),.v (.string (bs ly.num)),.v (.string (bs ly.den)),.v (.bool hx.neg),.v (.string (bs hx.num)),.v (.string (bs hx.den)),.v (.bool hy.neg),.v (.string (bs hy.num)),.v (.string (bs hy.den))],.gone,.gone,.box 73 [.v (.bool (Nm.ofQ r).neg),.v (.string (bs (Nm.ofQ r).num)),.v (.string (bs (Nm.ofQ r).den)),.v (.bool (Nm.ofQ r).neg),.v (.string (bs (Nm.ofQ r).num)),.v (.string (bs (Nm.ofQ r).den))]] (by simp [Eng.F3,Eng.E5]) ?_
 (repeat first|refine uA ?_|(apply uK;· first|omega|(intros;simp_all<;>omega))|simp (disch:=omega) only [go_sem,Nat.reduceBEq,Nat.reduceAdd,Eng.E5]|(refine uD o1 ?_ ?_ ?_;exact tz hw;rfl)|(refine uD o2 ?_ ?_ ?_;exact tz hw;rfl));exact uS rfl rfl
theorem c6J (w:Wk) (n:Nat) (holds:Int) (a:Am) (q:List Sn) (hwb:Wb 1048576 w) (ga:w.arms[n]?=some a) (h1:-1<=holds) (h2:holds < w.parts.length) (ha:H9 a=0) (hql:q.length=a.links.length) (hq:∀ r ∈ q,Zr 16000000 r) :
  FZ 67 [w.c,ints n,ints holds,.sl 6 (q.map Sn.enc)] (.tup [bqs (gbL w a holds q),ints 0]):=by
 unfold gbL;rw [if_neg (by rw [b3t ha (by omega)];decide)];by_cases hh:holds < 0
 ·rw [if_pos hh];obtain rfl:holds=-1:=by omega
  exact b7y w n a q (hwb.m rfl) ga ha hql hq
 ·rw [if_neg hh];obtain ⟨k,rfl⟩:∃ k:Nat,holds=k:=⟨holds.toNat,by omega⟩
  have gp:=c8q (show k < w.parts.length by omega);rw [c8u,gp];exact b6W w n k a _ q hwb ga gp ha hql hq
theorem b8u (w:Wk) (s:Stt) (n:Nat) (a:Am) (x:Ast) (lease:List Cl) (u:List Nm.Rt) (ps:List (Rat × Rat)) (hwb:Wb 1048576 w) (ga:w.arms[n]?=some a) (gx:s.arms[n]?=some x) (ha:H9 a=0) (hh1:-1<=x.holds) (hh2:x.holds < w.parts.length)
  (hxl:x.q.length=a.links.length) (hul:u.length=a.links.length) (hqb:∀ r ∈ x.q,Rb 1048576 r) (hub:∀ r ∈ u,Rb 1048576 r) (hfw:a1D (a.links.zip u)=true)
  (hle:lease.length<=1000000) (hps:s.people=ps.map pvt) (hpb:∀ p ∈ ps,Vb 1048576 (pvt p)) (hpn:ps.length<=1000) (hgn:s.gates.length=w.gates.length) (hw1:w.arms.length<=1000) (hw2:w.parts.length<=1000) :
  FZ 20 [w.c,s.c,ints n,cls lease,rts u] (ints (if a5e a x.q u=false then 1 else if a9t a.links (a0P a.links x.q u)=true then 2 else a4L (gbL w a x.holds (N9 a.links x.q u)) w (J2 (a.links.zip u)+1) lease ps s.gates)):=by
 refine kW Tryz.func20 (cF rfl rfl (by cbv) (by repeat' first|exact cS|exact cT|exact cE|apply cA|apply cC|apply cB|apply cL|(apply cR;cbv)|(apply cD;cbv;cbv;kernel_rfl))) (by rfl) fun w' O hw=>?_;have hn:=(c8v.1 ga).1;have hns:=(c8v.1 gx).1;have hl:Ab 1073741824 a:=(M7 ha).1.m rfl;have hf:∀ (i:Nat) (l:Lk) (y:Nm.Rt),a.links[i]?=some l->u[i]?=some y->Jo l y/\r9 (Nm.d9 l.brake) (Nm.d9 y)<=2000:=fun i l y g1 g2=>by
  have h:=(M7 ha).2 l (c8t g1);refine ⟨⟨a8j h,hub y (c8t g2),a4G h⟩,?_⟩;unfold a1D at hfw;rw [List.all_eq_true] at hfw;have h2:=hfw (l,y) (c8t (J5 g1 g2));simp only [c8D] at h2;exact h2
 have h0:=a8N a x.q u hl ⟨by rw [hxl];exact c8y (K4 ha).2 (by decide),fun r hr=>(hqb r hr).m rfl⟩ ⟨by rw [hul];exact c8y (K4 ha).2 (by decide),fun r hr=>(hub r hr).m rfl⟩ hxl;have h1:=b0a a x.q u hl ha hxl hul hqb hub;rw [if_pos hfw] at h1;have hql:=b0D (L:=a.links) hxl hul;have hzz:=b2i hxl hul hqb hub hf;have hqz:=b2a hzz;have hrl:=a5N (L:=a.links) hxl hul;have h2:=c6J w n x.holds a (N9 a.links x.q u) hwb ga hh1 hh2 ha hrl (fun r hr=>(hzz r hr).m rfl);have hbl:=@b6j w a x.holds (N9 a.links x.q u);have hbb:=c3r (holds:=x.holds) hwb ha hrl (fun r hr=>(hzz r hr).m rfl);rw [b1Q] at h1 h2;have hlk:=hl.2.2.2;have hl3:=(K4 ha).2;have htk0:=a2M (a.links.zip u)
 have htk1:J2 (a.links.zip u)<=2000:=by
  unfold J2;have key:∀ (z:List (Lk × Nm.Rt)) (m:Int),m<=2000->(∀ x ∈ z,r9 (Nm.d9 x.1.brake) (Nm.d9 x.2)<=2000)->z.foldl (fun m z=>max m (r9 (Nm.d9 z.1.brake) (Nm.d9 z.2))) m<=2000:=by
   intro z
   induction z with
   | nil=>intro m hm _;exact hm
   | cons x z ih=>
    intro m hm hx;rw [List.foldl_cons];have:=hx x (by simp);exact ih _ (by omega) fun y hy=>hx y (by simp [hy])
  refine key _ 0 (by decide) fun x hx=>?_;obtain ⟨j,hj⟩:=List.getElem?_of_mem hx;rw [List.getElem?_zip_eq_some] at hj;exact (hf j _ _ hj.1 hj.2).2
 obtain ⟨J,hJ⟩:∃ J,J=(if a5e a x.q u=false then (1:Int) else if a9t a.links (a0P a.links x.q u)=true then 2 else a4L (gbL w a x.holds (N9 a.links x.q u)) w (J2 (a.links.zip u)+1) lease ps s.gates):=⟨_,rfl⟩
 rw [<- hJ];have hlg:∀ l ∈ a.links,Nm.ofQ (Nm.d9 l.low)=l.low/\Nm.ofQ (Nm.d9 l.high)=l.high:=fun l hm=>c2L ((M7 ha).2 l hm);generalize gbL w a x.holds (N9 a.links x.q u)=bs at *;clear hzz hrl;generalize a0P a.links x.q u=Q at *;generalize a5e a x.q u=al at *;obtain ⟨t,ht⟩:∃ t,t=J2 (a.links.zip u)+1:=⟨_,rfl⟩
 rw [<- ht] at h1 hJ;have tb:0<=t/\t<=2001:=by omega
 have hb30:∀ b ∈ bs,Bb 1000000000 b:=fun b hb=>(hbb b hb).m rfl;have hb32:∀ b ∈ bs,Bb 4294967296 b:=fun b hb=>(hbb b hb).m rfl;have hcb:∀ b ∈ bs,Vbs 8388608 (a1d b):=fun b hb=>by
  have h:=hbb b hb;refine ⟨by show 4<=8388608;decide,fun v hv=>?_⟩;unfold a1d at hv;simp only [List.mem_cons,List.not_mem_nil,or_false] at hv;rcases hv with rfl|rfl|rfl|rfl
  ·exact ⟨h.1.m rfl,h.2.1.m rfl⟩
  ·exact ⟨h.2.2.1.m rfl,h.2.1.m rfl⟩
  ·exact ⟨h.2.2.1.m rfl,h.2.2.2.m rfl⟩
  ·exact ⟨h.1.m rfl,h.2.2.2.m rfl⟩
 have hgb:=hwb.gates.2;have hgc:=hwb.gates.1;have hwl:=hwb.walls;have hwk:=hwb.walk;have hpl:s.people.length=ps.length:=by rw [hps,c8r]
 have hpg:∀ (i:Nat) (p:Rat × Rat),ps[i]?=some p->s.people[i]?=some (pvt p):=fun i p h=>by rw [hps,c8x,h];rfl
 unfold a4L at hJ;have hcal:callable Tryz.prog 68=true:=by kernel_rfl
 have ht1:Rb 8 (Nm.ofQ (t:Rat)):=by
  rw [a2V];exact ⟨Nm.H6 (by omega),by show (Nm.enc 1).length<=8;rw [Nm.O9];decide⟩
 have o7:=a1y t (by omega) (by omega);clear hf hqb hub hwb hps ht htk0 htk1 hl hfw;simp only [j4,TT,II,OA,OB,OC,MM,LL,VV,FF,MG,LG,FG];simp only [Wk.c,Wk.enc,Stt.c,Stt.enc,Am.c,Am.enc,ams,wls,pts,sls,gts,lks,E8,frs,bls,rts,vts,cls,bqs,sb,ints] at h0 h1 h2 ⊢;(repeat first|refine uI ?_|(apply uK;· first|omega|(intros;simp_all<;>omega))|simp (disch:=omega) only [go_sem,Nat.reduceBEq,Nat.reduceAdd]);refine S.X4 [.gone,.box 36 [.v (.int .i64 s.tick),.sl 4 (s.arms.map Ast.enc),.sl 10 (s.parts.map Fr.enc),.sl 6 (s.people.map Vt.enc),.sl 1 (s.gates.map fun b=>[.v (.bool b)])]] (by simp [Eng.F3,Eng.E5]) ?_
 (repeat first|refine uA ?_|(apply uK;· first|omega|(intros;simp_all<;>omega))|simp (disch:=omega) only [go_sem,Nat.reduceBEq,Nat.reduceAdd,Eng.E5,c8r,c8x,ga,gx,c8s,c8u,Am.enc,Ast.enc,lks,rts,sb,ints]|(refine uD h0 ?_ ?_ ?_;exact tz hw;rfl));refine S.cond rfl (fun hc=>?_) (fun hc=>?_)
 ·rw [if_pos (by simpa using hc)] at hJ;rw [hJ];(repeat first|refine uA ?_|(apply uK;· first|omega|(intros;simp_all<;>omega))|simp (disch:=omega) only [go_sem]);exact uS rfl rfl
 rw [if_neg (by simpa using hc)] at hJ;(repeat first|refine uA ?_|(apply uK;· first|omega|(intros;simp_all<;>omega))|simp (disch:=omega) only [go_sem,Nat.reduceBEq,Nat.reduceAdd]|(refine uD h1 ?_ ?_ ?_;exact tz hw;rfl));refine S.cond rfl (fun hc=>by simp at hc) (fun hc=>?_);clear h0 h1;(repeat first|refine uA ?_|(apply uK;· first|omega|(intros;simp_all<;>omega))|simp (disch:=omega) only [go_sem,Nat.reduceBEq,Nat.reduceAdd,c8r]);refine S.loop (X:=Nat) (fun i=>⟨[(2,ints n),(3,cls lease),(5,.bp 0 0),(6,.bp 1 0),(11,.bp 2 0),(12,.bp 3 0),(13,.sl 6 (Q.map Sp.enc)),(14,ints t),(66,lks a.links),(67,ints a.links.length),(68,ints i)],[.box 30 w.enc,.box 36 s.enc,.box 80 a.enc,.box 70 x.enc]⟩)
  (fun i=>i<=a.links.length/\∀ (j:Nat) (z:Lk × Sp),j < i->(a.links.zip Q)[j]?=some z->(!X9 ⟨Nm.d9 z.1.low,Nm.d9 z.1.high⟩ z.2.lo || !X9 ⟨Nm.d9 z.1.low,Nm.d9 z.1.high⟩ z.2.hi)=false) (fun i=>a.links.length-i) 0 ⟨c8w _,fun _ _ h=>absurd h (Nat.not_lt_zero _)⟩ (by simp only [Wk.enc,Stt.enc,Am.enc,Ast.enc,ams,wls,pts,sls,gts,lks,E8,frs,bls,rts,vts,cls,sb,ints];exact (by repeat first|refine uA ?_|(refine ⟨?_,?_⟩;· first|rfl|simp [slot])|rfl|simp)) ?_
 rintro i ⟨hi,hm⟩;simp only [Wk.enc,Stt.enc,Am.enc,Ast.enc,ams,wls,pts,sls,gts,lks,E8,frs,bls,rts,vts,cls,sb,ints];(repeat first|refine uA ?_|(apply uK;· first|omega|(intros;simp_all<;>omega))|simp (disch:=omega) only [go_sem,Nat.reduceBEq]);(refine uJ rfl (fun hc=>?_) fun hc=>?_)
 ·have hi':i < a.links.length:=by omega
  have hgl:=c8q hi';have hgq:=c8q (show i < Q.length by omega);generalize a.links[i]=l at hgl;generalize Q[i]'_=z at hgq;have rl:=hlk l (c8t hgl);have rz:=hqz z (c8t hgq);obtain ⟨k1,k2⟩:=hlg l (c8t hgl);have o1:=a8v ⟨Nm.d9 l.low,Nm.d9 l.high⟩ (Nm.ofQ z.lo) ⟨(rl.2.1.g rfl).m rfl,(rl.2.2.1.g rfl).m rfl⟩ (rz.1.m rfl);have o2:=a8v ⟨Nm.d9 l.low,Nm.d9 l.high⟩ (Nm.ofQ z.hi) ⟨(rl.2.1.g rfl).m rfl,(rl.2.2.1.g rfl).m rfl⟩ (rz.2.m rfl);rw [Nm.l6] at o1 o2;have hz:=J5 hgl hgq;have hit:=fun hp=>a0C (p:=fun z:Lk × Sp=>!X9 ⟨Nm.d9 z.1.low,Nm.d9 z.1.high⟩ z.2.lo || !X9 ⟨Nm.d9 z.1.low,Nm.d9 z.1.high⟩ z.2.hi) hz hp
  have nxt:=fun hp=>V9 (p:=fun z:Lk × Sp=>!X9 ⟨Nm.d9 z.1.low,Nm.d9 z.1.high⟩ z.2.lo || !X9 ⟨Nm.d9 z.1.low,Nm.d9 z.1.high⟩ z.2.hi) hz hp hm;simp only at hit nxt;clear rl rz;generalize X9 ⟨Nm.d9 l.low,Nm.d9 l.high⟩ z.lo=c1 at *;generalize X9 ⟨Nm.d9 l.low,Nm.d9 l.high⟩ z.hi=c2 at *;simp only [Sp.c,snQ,k1,k2,rc,sb] at o1 o2;(repeat first|refine uA ?_|(apply uK;· first|omega|(intros;simp_all<;>omega))|simp (disch:=omega) only [go_sem,Nat.reduceBEq,Nat.reduceAdd,hgl,hgq,c8s,c8r,c8x,Lk.enc,Sp.enc,Sn.enc,snQ,vts,List.cons_append,List.nil_append,sb,c8u]|(refine uD o1 ?_ ?_ ?_;exact tz hw;rfl)|(refine uD o2 ?_ ?_ ?_;exact tz hw;rfl));refine S.cond rfl (fun hc=>?_) (fun hc=>?_)
  ·have hL:a9t a.links Q=true:=hit (by revert hc;cases c1<;>cases c2<;>simp);rw [if_pos hL] at hJ;rw [hJ];(repeat first|refine uA ?_|(apply uK;· first|omega|(intros;simp_all<;>omega))|simp (disch:=omega) only [go_sem]);exact uS rfl rfl
  ·have hp:=nxt (by revert hc;cases c1<;>cases c2<;>simp);(repeat first|refine uA ?_|(apply uK;· first|omega|(intros;simp_all<;>omega))|simp (disch:=omega) only [go_sem,Nat.reduceBEq,ww]);refine S.next (x:=i) (i+1) ⟨by omega,hp⟩ (by omega) (by repeat first|refine uA ?_|(refine ⟨?_,?_⟩;· first|rfl|simp [slot])|rfl|simp)
 have hi':i=a.links.length:=by omega
 subst hi';have hL:a9t a.links Q=false:=Z4 fun j z hj hz=>hm j z (by rw [List.length_zip] at hj;omega) hz;rw [if_neg (by rw [hL];decide)] at hJ;clear hm hL;(repeat first|refine uA ?_|(apply uK;· first|omega|(intros;simp_all<;>omega))|simp (disch:=omega) only [go_sem,Nat.reduceBEq,Nat.reduceAdd]|(refine uD h2 ?_ ?_ ?_;exact tz hw;rfl));refine S.cond rfl (fun hc=>by simp at hc) (fun hc=>?_);clear h2;(repeat first|refine uA ?_|(apply uK;· first|omega|(intros;simp_all<;>omega))|simp (disch:=omega) only [go_sem,Nat.reduceBEq,c8r]);clear hi hlk hqz hql hlg
 refine S.loop (X:=Nat) (fun i=>⟨[(3,cls lease),(5,.bp 0 0),(6,.bp 1 0),(14,ints t),(18,.bp 4 0),(20,.clo 68 [.bp 4 0]),(112,.sl 12 (bs.map Bq.enc)),(113,ints bs.length),(114,ints i)],[.box 30 w.enc,.box 36 s.enc,.gone,.gone,.box 99 [.sl 12 (bs.map Bq.enc)]]⟩)
  (fun i=>i<=bs.length/\∀ (j:Nat) (b:Bq),j < i->bs[j]?=some b->(!((ofC b).all fun c=>lease.contains c) || !decide (ofE b=0))=false) (fun i=>bs.length-i) 0 ⟨c8w _,fun _ _ h=>absurd h (Nat.not_lt_zero _)⟩ (by simp only [Wk.enc,Stt.enc,ams,wls,pts,sls,gts,E8,frs,bls,vts,cls,sb,ints];exact (by repeat first|refine uA ?_|(refine ⟨?_,?_⟩;· first|rfl|simp [slot])|rfl|simp)) ?_
 rintro i ⟨hi,hm⟩;simp only [Wk.enc,Stt.enc,ams,wls,pts,sls,gts,E8,frs,bls,vts,cls,sb,ints];(repeat first|refine uA ?_|(apply uK;· first|omega|(intros;simp_all<;>omega))|simp (disch:=omega) only [go_sem,Nat.reduceBEq]);(refine uJ rfl (fun hc=>?_) fun hc=>?_)
 ·have hi':i < bs.length:=by omega
  have hg:=c8q hi';generalize bs[i]=b at hg;have hbm:=c8t hg;have o1:=c6b b (hb30 b hbm);have hDl:=b6k b;have hit:=fun hp=>a0C (p:=fun b=>!((ofC b).all fun c=>lease.contains c) || !decide (ofE b=0)) hg hp;have nxt:=fun hp=>V9 (p:=fun b=>!((ofC b).all fun c=>lease.contains c) || !decide (ofE b=0)) hg hp hm
  try simp only at hit nxt
  generalize ofC b=D at *;generalize ofE b=e at *;simp only [Bq.enc,cls,sb,ints] at o1;(repeat first|refine uA ?_|(apply uK;· first|omega|(intros;simp_all<;>omega))|simp (disch:=omega) only [go_sem,Nat.reduceBEq,Nat.reduceAdd,hg,c8s,c8r,c8x,Bq.enc,sb,c8u]|(refine uD o1 ?_ ?_ ?_;exact tz hw;rfl));refine S.loop (X:=Nat) (fun j=>⟨[(3,cls lease),(5,.bp 0 0),(6,.bp 1 0),(14,ints t),(18,.bp 4 0),(20,.clo 68 [.bp 4 0]),(24,ints e),(112,.sl 12 (bs.map Bq.enc)),(113,ints bs.length),(114,ints i),(123,cls D),(124,ints D.length),(125,ints j)],[.box 30 w.enc,.box 36 s.enc,.gone,.gone,.box 99 [.sl 12 (bs.map Bq.enc)]]⟩)
   (fun j=>j<=D.length/\∀ (k:Nat) (c:Cl),k < j->D[k]?=some c->lease.contains c=true) (fun j=>D.length-j) 0 ⟨c8w _,fun _ _ h=>absurd h (Nat.not_lt_zero _)⟩ (by simp only [Wk.enc,Stt.enc,ams,wls,pts,sls,gts,E8,frs,bls,vts,cls,sb,ints];exact (by repeat first|refine uA ?_|(refine ⟨?_,?_⟩;· first|rfl|simp [slot])|rfl|simp)) ?_
  rintro j ⟨hj,hk⟩;clear o1;simp only [Wk.enc,Stt.enc,ams,wls,pts,sls,gts,E8,frs,bls,vts,cls,sb,ints];(repeat first|refine uA ?_|(apply uK;· first|omega|(intros;simp_all<;>omega))|simp (disch:=omega) only [go_sem,Nat.reduceBEq]);(refine uJ rfl (fun hc=>?_) fun hc=>?_)
  ·have hj':j < D.length:=by omega
   have hgc:=c8q hj';generalize D[j]=c at hgc;have o1:=b4L lease c (by omega);have hno:lease.contains c=false->(!(D.all fun c=>lease.contains c) || !decide (e=0))=true:=fun h=>by
    have:(D.all fun c=>lease.contains c)=false:=by
     rw [List.all_eq_false];exact ⟨c,c8t hgc,by rw [h];decide⟩
    rw [this];rfl
   have hyes:lease.contains c=true->∀ (k:Nat) (c:Cl),k < j+1->D[k]?=some c->lease.contains c=true:=fun h k c' hk1 hk2=>by
    rcases c8N k j with h1|h1
    ·exact hk k c' h1 hk2
    ·have:k=j:=by omega
     subst this;rw [hgc] at hk2;cases hk2;exact h
   generalize lease.contains c=r at *;obtain ⟨c1,c2⟩:=c;simp only [cls,ce] at o1;(repeat first|refine uA ?_|(apply uK;· first|omega|(intros;simp_all<;>omega))|simp (disch:=omega) only [go_sem,Nat.reduceBEq,Nat.reduceAdd,hgc,c8s,c8r,c8x,ce,c8u]|(refine uB o1 ?_ ?_;rfl));refine S.cond rfl (fun hc=>?_) (fun hc=>?_)
   ·have hL:a6F bs lease=true:=hit (hno (by simpa using hc));rw [if_pos hL] at hJ;rw [hJ];(repeat first|refine uA ?_|(apply uK;· first|omega|(intros;simp_all<;>omega))|simp (disch:=omega) only [go_sem]);exact uS rfl rfl
   ·have hp:=hyes (by simpa using hc);(repeat first|refine uA ?_|(apply uK;· first|omega|(intros;simp_all<;>omega))|simp (disch:=omega) only [go_sem,Nat.reduceBEq,ww]);refine S.next (x:=j) (j+1) ⟨by omega,hp⟩ (by omega) (by repeat first|refine uA ?_|(refine ⟨?_,?_⟩;· first|rfl|simp [slot])|rfl|simp)
  ·have hj':j=D.length:=by omega
   subst hj';have hall:(D.all fun c=>lease.contains c)=true:=by
    rw [List.all_eq_true];intro c hc;obtain ⟨k,hkk⟩:=List.mem_iff_getElem?.1 hc;exact hk k c (c8v.1 hkk).1 hkk
   rw [hall] at hit nxt;clear hk hall;(repeat first|refine uA ?_|(apply uK;· first|omega|(intros;simp_all<;>omega))|simp (disch:=omega) only [go_sem,Nat.reduceBEq]);(refine uJ rfl (fun hc=>?_) fun hc=>?_)
   ·have hL:a6F bs lease=true:=hit (by simp;omega);rw [if_pos hL] at hJ;rw [hJ];(repeat first|refine uA ?_|(apply uK;· first|omega|(intros;simp_all<;>omega))|simp (disch:=omega) only [go_sem]);exact uS rfl rfl
   ·have hp:=nxt (by simp;omega);(repeat first|refine uA ?_|(apply uK;· first|omega|(intros;simp_all<;>omega))|simp (disch:=omega) only [go_sem,Nat.reduceBEq,ww]);refine S.next (x:=i) (i+1) ⟨by omega,hp⟩ (by omega) (by repeat first|refine uA ?_|(refine ⟨?_,?_⟩;· first|rfl|simp [slot])|rfl|simp)
 have hi':i=bs.length:=by omega
 subst hi';have hL:a6F bs lease=false:=Z4 fun j z hj hz=>hm j z hj hz;rw [if_neg (by rw [hL];decide)] at hJ;clear hm hL hi;(repeat first|refine uA ?_|(apply uK;· first|omega|(intros;simp_all<;>omega))|simp (disch:=omega) only [go_sem,Nat.reduceBEq,c8r]);refine S.loop (X:=Nat) (fun i=>⟨[(5,.bp 0 0),(6,.bp 1 0),(14,ints t),(18,.bp 4 0),(20,.clo 68 [.bp 4 0]),(137,.sl 12 (bs.map Bq.enc)),(138,ints bs.length),(139,ints i)],[.box 30 w.enc,.box 36 s.enc,.gone,.gone,.box 99 [.sl 12 (bs.map Bq.enc)]]⟩)
  (fun i=>i<=bs.length/\∀ (j:Nat) (b:Bq),j < i->bs[j]?=some b->(w.walls.any fun l=>a3S b l)=false) (fun i=>bs.length-i) 0 ⟨c8w _,fun _ _ h=>absurd h (Nat.not_lt_zero _)⟩ (by simp only [Wk.enc,Stt.enc,ams,wls,pts,sls,gts,E8,frs,bls,vts,sb,ints];exact (by repeat first|refine uA ?_|(refine ⟨?_,?_⟩;· first|rfl|simp [slot])|rfl|simp)) ?_
 rintro i ⟨hi,hm⟩;simp only [Wk.enc,Stt.enc,ams,wls,pts,sls,gts,E8,frs,bls,vts,sb,ints];(repeat first|refine uA ?_|(apply uK;· first|omega|(intros;simp_all<;>omega))|simp (disch:=omega) only [go_sem,Nat.reduceBEq]);(refine uJ rfl (fun hc=>?_) fun hc=>?_)
 ·have hi':i < bs.length:=by omega
  have hg:=c8q hi';generalize bs[i]=b at hg;have hDb:=hcb b (c8t hg);have hit:=fun hp=>a0C (p:=fun b=>w.walls.any fun l=>a3S b l) hg hp;have nxt:=fun hp=>V9 (p:=fun b=>w.walls.any fun l=>a3S b l) hg hp hm;have hrw:=fun l=>c1i b l
  try simp only at hit nxt
  obtain ⟨D,hD⟩:∃ D,D=a1d b:=⟨_,rfl⟩
  rw [<- hD] at hDb;simp only [<- hD] at hrw;generalize hP:a3S b=P at *;obtain ⟨lx,ly,hx,hy⟩:=b;(repeat first|refine uA ?_|(apply uK;· first|omega|(intros;simp_all<;>omega))|simp (disch:=omega) only [go_sem,Nat.reduceBEq,Nat.reduceAdd,hg,c8s,c8r,c8x,Bq.enc,sb,c8u]);refine S.loop (X:=Nat) (fun j=>⟨[(5,.bp 0 0),(6,.bp 1 0),(14,ints t),(18,.bp 4 0),(20,.clo 68 [.bp 4 0]),(29,vts D),(137,.sl 12 (bs.map Bq.enc)),(138,ints bs.length),(139,ints i),(163,wls w.walls),(164,ints w.walls.length),(165,ints j)],[.box 30 w.enc,.box 36 s.enc,.gone,.gone,.box 99 [.sl 12 (bs.map Bq.enc)]]⟩)
   (fun j=>j<=w.walls.length/\∀ (k:Nat) (l:List Vt),k < j->w.walls[k]?=some l->P l=false) (fun j=>w.walls.length-j) 0 ⟨c8w _,fun _ _ h=>absurd h (Nat.not_lt_zero _)⟩ (by simp only [Wk.enc,Stt.enc,ams,wls,pts,sls,gts,E8,frs,bls,vts,sb,ints];exact Ent.mk _ _ (by repeat' (first|exact R3.nil|exact Imp.refl rfl|exact Imp.frz rfl rfl (by rw [hD];rfl)|refine R3.cons ?_ ?_)) (by repeat' (first|exact D9.nil|exact RI.gone _|exact RI.box _ _ _ (j3.refl rfl)|refine D9.cons ?_ ?_)) (c8w _)) ?_
  rintro j ⟨hj,hk⟩;clear hD;simp only [Wk.enc,Stt.enc,ams,wls,pts,sls,gts,E8,frs,bls,vts,sb,ints];(repeat first|refine uA ?_|(apply uK;· first|omega|(intros;simp_all<;>omega))|simp (disch:=omega) only [go_sem,Nat.reduceBEq]);(refine uJ rfl (fun hc=>?_) fun hc=>?_)
  ·have hj':j < w.walls.length:=by omega
   have hgl:=c8q hj';generalize w.walls[j]=l at hgl;have hlb:Vbs 8388608 l:=⟨c8y (hwl.2 l (c8t hgl)).1 (by decide),fun v hv=>((hwl.2 l (c8t hgl)).2 v hv).m rfl⟩
   have o1:=c7Q D l hDb hlb;have o2:=M8 (sqR D l) ((c7s hDb hlb).m rfl);have hrl:=hrw l;have hit2:=fun hp=>a0C (p:=P) hgl hp;have nxt2:=fun hp=>V9 (p:=P) hgl hp hk;clear hlb;generalize sqR D l=r at *;generalize q8 (Nm.d9 r)=sg at *;generalize R9 D l=e at *;simp only [rc,vts,sb,ints] at o1 o2;(repeat first|refine uA ?_|(apply uK;· first|omega|(intros;simp_all<;>omega))|simp (disch:=omega) only [go_sem,Nat.reduceBEq,Nat.reduceAdd,hgl,c8s,c8r,c8x,c8u]|(refine uD o1 ?_ ?_ ?_;exact tz hw;rfl)|(refine uD o2 ?_ ?_ ?_;exact tz hw;rfl));refine S.cond rfl (fun hc=>?_) (fun hc=>?_)
   ·have hL:b0B bs w.walls=true:=hit (hit2 (by rw [hrl];revert hc;by_cases k1:e=0<;>by_cases k2:sg=0<;>simp [k1,k2]));rw [if_pos hL] at hJ;rw [hJ];(repeat first|refine uA ?_|(apply uK;· first|omega|(intros;simp_all<;>omega))|simp (disch:=omega) only [go_sem]);exact uS rfl rfl
   ·have hp:=nxt2 (by rw [hrl];revert hc;by_cases k1:e=0<;>by_cases k2:sg=0<;>simp [k1,k2]);(repeat first|refine uA ?_|(apply uK;· first|omega|(intros;simp_all<;>omega))|simp (disch:=omega) only [go_sem,Nat.reduceBEq,ww]);refine S.next (x:=j) (j+1) ⟨by omega,hp⟩ (by omega) (by repeat first|refine uA ?_|(refine ⟨?_,?_⟩;· first|rfl|simp [slot])|rfl|simp)
  ·have hj':j=w.walls.length:=by omega
   subst hj';have hp:=nxt (Z4 fun k l hkl hkm=>hk k l hkl hkm);(repeat first|refine uA ?_|(apply uK;· first|omega|(intros;simp_all<;>omega))|simp (disch:=omega) only [go_sem,Nat.reduceBEq,ww]);refine S.next (x:=i) (i+1) ⟨by omega,hp⟩ (by omega) (by repeat first|refine uA ?_|(refine ⟨?_,?_⟩;· first|rfl|simp [slot])|rfl|simp)
 have hi':i=bs.length:=by omega
 subst hi';have hL:b0B bs w.walls=false:=Z4 fun j z hj hz=>hm j z hj hz;rw [if_neg (by rw [hL];decide)] at hJ;clear hm hL hi hcb;(repeat first|refine uA ?_|(apply uK;· first|omega|(intros;simp_all<;>omega))|simp (disch:=omega) only [go_sem,Nat.reduceBEq,Nat.reduceAdd,c8r]);refine S.loop (X:=Nat) (fun i=>⟨[(5,.bp 0 0),(6,.bp 1 0),(14,ints t),(18,.bp 4 0),(20,.clo 68 [.bp 4 0]),(185,vts s.people),(186,ints s.people.length),(187,ints i)],[.box 30 w.enc,.box 36 s.enc,.gone,.gone,.box 99 [.sl 12 (bs.map Bq.enc)]]⟩)
  (fun i=>i<=s.people.length/\∀ (j:Nat) (p:Rat × Rat),j < i->ps[j]?=some p->a1t bs (P7 p.1 p.2 w.walk t)=false) (fun i=>s.people.length-i) 0 ⟨c8w _,fun _ _ h=>absurd h (Nat.not_lt_zero _)⟩ (by simp only [Wk.enc,Stt.enc,ams,wls,pts,sls,gts,E8,frs,bls,vts,sb,ints];exact (by repeat first|refine uA ?_|(refine ⟨?_,?_⟩;· first|rfl|simp [slot])|rfl|simp)) ?_
 rintro i ⟨hi,hm⟩;simp only [Wk.enc,Stt.enc,ams,wls,pts,sls,gts,E8,frs,bls,vts,sb,ints];(repeat first|refine uA ?_|(apply uK;· first|omega|(intros;simp_all<;>omega))|simp (disch:=omega) only [go_sem,Nat.reduceBEq]);(refine uJ rfl (fun hc=>?_) fun hc=>?_)
 ·have hi':i < ps.length:=by omega
  have hg:=c8q hi';generalize ps[i]=p at hg;have hgp:=hpg i p hg;have hpv:=hpb p (c8t hg);have o1:=b6B p.1 p.2 w.walk t hpv.1 hpv.2 hwk tb.1 (by omega);have hr:Bb 4294967296 (P7 p.1 p.2 w.walk t):=by
   have:=a6s (b:=⟨p.1,p.2,p.1,p.2⟩) (r:=D8 (a6b (Nm.d9 w.walk) t) 0) ⟨hpv.1,hpv.2,hpv.1,hpv.2⟩ (a0T (b7T hwk tb.1 (by omega)) (O8.m rfl));exact ⟨this.1.m rfl,this.2.1.m rfl,this.2.2.1.m rfl,this.2.2.2.m rfl⟩
  have o2:=b6y bs _ (by omega) hr hb32;have hit:=fun hp=>a0C (p:=fun p:Rat × Rat=>a1t bs (P7 p.1 p.2 w.walk t)) hg hp;have nxt:=fun hp=>V9 (p:=fun p:Rat × Rat=>a1t bs (P7 p.1 p.2 w.walk t)) hg hp hm
  try simp only at hit nxt
  clear hr hpv;generalize a1t bs (P7 p.1 p.2 w.walk t)=nb at *;generalize P7 p.1 p.2 w.walk t=G at *;unfold pvt at hgp;simp only [Bq.enc,Vt.enc,bqs,rc,sb,ints] at o1 o2
  (repeat first|refine uA ?_|(apply uK;· first|omega|(intros;simp_all<;>omega))|simp (disch:=omega) only [go_sem,Nat.reduceBEq,Nat.reduceAdd,hgp,hcal,c8s,c8r,c8x,Vt.enc,sb,c8u]|(refine uD o1 ?_ ?_ ?_;exact tz hw;rfl)|(refine uE o2 ?_ ?_ ?_ ?_;exact tz hw;exact rfl;focus (repeat' first|exact j3.nil|exact Imp.refl rfl|exact Imp.I9|exact Imp.fbx rfl rfl (j3.refl rfl) rfl rfl|refine Imp.clo ?_|exact Imp.frz rfl rfl rfl|(refine Imp.K5 rfl rfl ?_ ?_;(focus ((try simp only [c8A,hgp,hcal,c8s,c8r,c8x,Vt.enc,Bq.enc,sb,c8u]);omega));(focus first|rfl|assumption))|refine Imp.agg ?_|refine j3.cons ?_ ?_);done));refine S.cond rfl (fun hc=>?_) (fun hc=>?_)
  ·rw [if_pos (hit hc)] at hJ;rw [hJ];(repeat first|refine uA ?_|(apply uK;· first|omega|(intros;simp_all<;>omega))|simp (disch:=omega) only [go_sem]);exact uS rfl rfl
  ·have hp:=nxt hc;(repeat first|refine uA ?_|(apply uK;· first|omega|(intros;simp_all<;>omega))|simp (disch:=omega) only [go_sem,Nat.reduceBEq,ww]);refine S.next (x:=i) (i+1) ⟨by omega,hp⟩ (by omega) (by repeat first|refine uA ?_|(refine ⟨?_,?_⟩;· first|rfl|simp [slot])|rfl|simp)
 have hi':i=s.people.length:=by omega
 subst hi';have hL:(ps.any fun p=>a1t bs (P7 p.1 p.2 w.walk t))=false:=Z4 fun j z hj hz=>hm j z (by omega) hz;rw [if_neg (by rw [hL];decide)] at hJ;clear hm hL hi hpg hpb;(repeat first|refine uA ?_|(apply uK;· first|omega|(intros;simp_all<;>omega))|simp (disch:=omega) only [go_sem,Nat.reduceBEq,Nat.reduceAdd,c8r]);refine S.loop (X:=Nat) (fun i=>⟨[(5,.bp 0 0),(6,.bp 1 0),(14,ints t),(18,.bp 4 0),(20,.clo 68 [.bp 4 0]),(200,gts w.gates),(201,ints w.gates.length),(202,ints i)],[.box 30 w.enc,.box 36 s.enc,.gone,.gone,.box 99 [.sl 12 (bs.map Bq.enc)]]⟩)
  (fun i=>i<=w.gates.length/\∀ (j:Nat) (z:Gt × Bool),j < i->(w.gates.zip s.gates)[j]?=some z->(z.2 && a1t bs (a0h w.walk t z.1))=false) (fun i=>w.gates.length-i) 0 ⟨c8w _,fun _ _ h=>absurd h (Nat.not_lt_zero _)⟩ (by simp only [Wk.enc,Stt.enc,ams,wls,pts,sls,gts,E8,frs,bls,vts,sb,ints];exact (by repeat first|refine uA ?_|(refine ⟨?_,?_⟩;· first|rfl|simp [slot])|rfl|simp)) ?_
 rintro i ⟨hi,hm⟩;simp only [Wk.enc,Stt.enc,ams,wls,pts,sls,gts,E8,frs,bls,vts,sb,ints];(repeat first|refine uA ?_|(apply uK;· first|omega|(intros;simp_all<;>omega))|simp (disch:=omega) only [go_sem,Nat.reduceBEq]);(refine uJ rfl (fun hc=>?_) fun hc=>?_)
 ·have hi':i < w.gates.length:=by omega
  have hg:=c8q hi';have hgo:=c8q (show i < s.gates.length by omega);generalize w.gates[i]=g at hg;generalize s.gates[i]'_=o at hgo;have hz:=J5 hg hgo;have gb:=hgb g (c8t hg);have r8:=y9 (hwk.g rfl) ht1;have o8:=b0o (Nm.ofQ (t:Rat)) w.walk (ht1.m rfl) (hwk.m rfl);rw [Nm.l6,Rat.mul_comm] at o8;have o9:=c5a g.low.x g.low.y g.high.x g.high.y (Nm.d9 w.walk*(t:Rat)) (gb.2.1.1.m rfl) (gb.2.1.2.m rfl) (gb.2.2.1.m rfl) (gb.2.2.2.m rfl) (r8.m rfl);have hGb:Bb 4294967296 (a0h w.walk t g):=by
   have:=a6s (b:=⟨Nm.d9 g.low.x,Nm.d9 g.low.y,Nm.d9 g.high.x,Nm.d9 g.high.y⟩) (r:=Nm.d9 w.walk*(t:Rat)) ⟨gb.2.1.1.g rfl,gb.2.1.2.g rfl,gb.2.2.1.g rfl,gb.2.2.2.g rfl⟩ r8;exact ⟨this.1.m rfl,this.2.1.m rfl,this.2.2.1.m rfl,this.2.2.2.m rfl⟩
  change FZ 71 _ (.agg (a0h w.walk t g).enc) at o9;have o10:=b6y bs (a0h w.walk t g) (by omega) hGb hb32;have hit:=fun hp=>a0C (p:=fun z:Gt × Bool=>z.2 && a1t bs (a0h w.walk t z.1)) hz hp;have nxt:=fun hp=>V9 (p:=fun z:Gt × Bool=>z.2 && a1t bs (a0h w.walk t z.1)) hz hp hm;simp only at hit nxt;clear r8 hGb gb;generalize a1t bs (a0h w.walk t g)=nb at *;generalize a0h w.walk t g=G at *;generalize Nm.d9 w.walk*(t:Rat)=wt at *;generalize (t:Rat)=tq at *;simp only [Bq.enc,bqs,rq,rc,sb,ints] at o7 o8 o9 o10
  (repeat first|refine uA ?_|(apply uK;· first|omega|(intros;simp_all<;>omega))|simp (disch:=omega) only [go_sem,Nat.reduceBEq,Nat.reduceAdd,hg,hgo,hcal,c8s,c8r,c8x,Gt.enc,sb,c8u,hgn]|(refine uD o7 ?_ ?_ ?_;exact tz hw;rfl)|(refine uD o8 ?_ ?_ ?_;exact tz hw;rfl)|(refine uD o9 ?_ ?_ ?_;exact tz hw;rfl)|(refine uE o10 ?_ ?_ ?_ ?_;exact tz hw;exact rfl;focus (repeat' first|exact j3.nil|exact Imp.refl rfl|exact Imp.I9|exact Imp.fbx rfl rfl (j3.refl rfl) rfl rfl|refine Imp.clo ?_|exact Imp.frz rfl rfl rfl|(refine Imp.K5 rfl rfl ?_ ?_;(focus ((try simp only [c8A,hg,hgo,hcal,c8s,c8r,c8x,Gt.enc,Vt.enc,Bq.enc,sb,c8u,hgn]);omega));(focus first|rfl|assumption))|refine Imp.agg ?_|refine j3.cons ?_ ?_);done))
  refine S.cond rfl (fun hc=>?_) (fun hc=>?_)
  ·have hL:a9M bs w.walk t w.gates s.gates=true:=hit (by revert hc;cases o<;>cases nb<;>simp);rw [if_pos hL] at hJ;rw [hJ];(repeat first|refine uA ?_|(apply uK;· first|omega|(intros;simp_all<;>omega))|simp (disch:=omega) only [go_sem]);exact uS rfl rfl
  ·have hp:=nxt (by revert hc;cases o<;>cases nb<;>simp);(repeat first|refine uA ?_|(apply uK;· first|omega|(intros;simp_all<;>omega))|simp (disch:=omega) only [go_sem,Nat.reduceBEq,ww]);refine S.next (x:=i) (i+1) ⟨by omega,hp⟩ (by omega) (by repeat first|refine uA ?_|(refine ⟨?_,?_⟩;· first|rfl|simp [slot])|rfl|simp)
 ·have hi':i=w.gates.length:=by omega
  subst hi';have hL:a9M bs w.walk t w.gates s.gates=false:=Z4 fun j z hj hz=>hm j z (by rw [List.length_zip] at hj;omega) hz;rw [if_neg (by rw [hL];decide)] at hJ;rw [hJ];(repeat first|refine uA ?_|(apply uK;· first|omega|(intros;simp_all<;>omega))|simp (disch:=omega) only [go_sem]);exact uS rfl rfl
theorem b1I (w:Wk) (s:Stt) (n:Nat) (a:Am) (x:Ast) (lease:List Cl) (u:List Nm.Rt) (al:Bool) (hwb:Wb 1048576 w) (ga:w.arms[n]?=some a) (gx:s.arms[n]?=some x)
  (h0:FZ 64 [a.c,rts x.q,rts u] (.v (.bool al))) (h1:al=true->FZ 65 [a.c,rts x.q,rts u] (.tup [.v (.slice none 0 0),ints 0,.v (.bool false)])) :
  FZ 20 [w.c,s.c,ints n,cls lease,rts u] (ints (if al=false then 1 else 2)):=by
 refine kW Tryz.func20 (cF rfl rfl (by cbv) (by repeat' first|exact cS|exact cT|exact cE|apply cA|apply cC|apply cB|apply cL|(apply cR;cbv)|(apply cD;cbv;cbv;kernel_rfl))) (by rfl) fun w' O hw=>?_;have hn:=(c8v.1 ga).1;have hns:=(c8v.1 gx).1;have n1:=hwb.arms.1;simp only [j4,TT,II,OA,OB,OC,MM,LL,VV,FF,MG,LG,FG];simp only [Wk.c,Wk.enc,Stt.c,Stt.enc,Am.c,Am.enc,ams,wls,pts,sls,gts,lks,E8,frs,bls,rts,vts,cls,sb,ints] at h0 h1 ⊢;(repeat first|refine uI ?_|(apply uK;· first|omega|(intros;simp_all<;>omega))|simp (disch:=omega) only [go_sem,Nat.reduceBEq,Nat.reduceAdd])
 refine S.X4 [.gone,.box 36 [.v (.int .i64 s.tick),.sl 4 (s.arms.map Ast.enc),.sl 10 (s.parts.map Fr.enc),.sl 6 (s.people.map Vt.enc),.sl 1 (s.gates.map fun b=>[.v (.bool b)])]] (by simp [Eng.F3,Eng.E5]) ?_;(repeat first|refine uA ?_|(apply uK;· first|omega|(intros;simp_all<;>omega))|simp (disch:=omega) only [go_sem,Nat.reduceBEq,Nat.reduceAdd,Eng.E5,c8r,c8x,ga,gx,c8s,c8u,Am.enc,Ast.enc,lks,rts,sb,ints]|(refine uD h0 ?_ ?_ ?_;exact tz hw;rfl));refine S.cond rfl (fun hc=>?_) (fun hc=>?_)
 ·rw [if_pos (by simpa using hc)];(repeat first|refine uA ?_|(apply uK;· first|omega|(intros;simp_all<;>omega))|simp (disch:=omega) only [go_sem]);exact uS rfl rfl
 rw [if_neg (by simpa using hc)];have h1:=h1 (by simpa using hc);(repeat first|refine uA ?_|(apply uK;· first|omega|(intros;simp_all<;>omega))|simp (disch:=omega) only [go_sem,Nat.reduceBEq,Nat.reduceAdd]|(refine uD h1 ?_ ?_ ?_;exact tz hw;rfl));refine S.cond rfl (fun hc=>?_) (fun hc=>by simp at hc);(repeat first|refine uA ?_|(apply uK;· first|omega|(intros;simp_all<;>omega))|simp (disch:=omega) only [go_sem]);exact uS rfl rfl
theorem c0q (w:Wk) (s:Stt) (n:Nat) (a:Am) (x:Ast) (lease:List Cl) (u:List Nm.Rt) (ps:List (Rat × Rat)) (hwb:Wb 1048576 w) (ga:w.arms[n]?=some a) (gx:s.arms[n]?=some x) (ha:H9 a=0) (hh1:-1<=x.holds) (hh2:x.holds < w.parts.length)
 (hxl:x.q.length=a.links.length) (hun:u.length<=1000000000) (hqb:∀ r ∈ x.q,Rb 1048576 r) (hub:∀ r ∈ u,Rb 1048576 r)
 (hle:lease.length<=1000000) (hps:s.people=ps.map pvt) (hpb:∀ p ∈ ps,Vb 1048576 (pvt p)) (hpn:ps.length<=1000) (hgn:s.gates.length=w.gates.length) (hw1:w.arms.length<=1000) (hw2:w.parts.length<=1000) :
 FZ 20 [w.c,s.c,ints n,cls lease,rts u] (ints (a8k w a x.holds x.q u lease ps s.gates)):=by
 have hl:Ab 1073741824 a:=(M7 ha).1.m rfl;have hmp:=a8N a x.q u hl ⟨by rw [hxl];exact c8y (K4 ha).2 (by decide),fun r hr=>(hqb r hr).m rfl⟩ ⟨by omega,fun r hr=>(hub r hr).m rfl⟩ hxl;unfold a8k;by_cases hul:u.length=a.links.length
 ·cases hfw:a1D (a.links.zip u) with
  | true=>
   rw [if_neg (show ¬ true=false by decide)];exact b8u w s n a x lease u ps hwb ga gx ha hh1 hh2 hxl hul hqb hub hfw hle hps hpb hpn hgn hw1 hw2
  | false=>
   rw [if_pos (show false=false from rfl)];have h:=b0a a x.q u hl ha hxl hul hqb hub;rw [if_neg (by rw [hfw];decide)] at h;exact b1I w s n a x lease u _ hwb ga gx hmp fun _=>h
 ·have hm:a5e a x.q u=false:=by
   unfold a5e;rw [decide_eq_false hul,Bool.false_and]
  rw [hm] at hmp ⊢;rw [if_pos rfl];have h:=b1I w s n a x lease u false hwb ga gx hmp (fun h=>by cases h);exact h
set_option maxHeartbeats 16000000
theorem c0c (v s:Rat):0 < Nm.l8 (q9 v) s <-> (0 < Nm.l8 v s \/ 0 < Nm.l8 (-v) s):=by
 rw [V8,V8,V8];have hn:v.num < 0 <-> v < 0:=by
  have:=@Rat.num_nonneg v;rw [<- Rat.not_le,<- this];omega
 unfold q9;by_cases h:v < 0
 ·rw [if_pos (hn.2 h)];constructor
  ·exact .inr
  ·rintro (h1|h1)
   ·grind
   ·exact h1
 ·rw [if_neg (fun h2=>h (hn.1 h2))];constructor
  ·exact .inl
  ·rintro (h1|h1)
   ·exact h1
   ·grind
theorem b9b (h:List Int) (n k:Int):(a3k h n).contains k=(h.contains k || decide (n=k)):=by
 rw [Bool.eq_iff_iff];unfold a3k;split
 ·rename_i h1;simp only [List.contains_iff_mem,c9f,c8D] at h1 ⊢;exact ⟨.inl,fun h2=>h2.elim id fun h3=>h3 ▸ h1⟩
 ·simp only [List.contains_iff_mem,List.mem_append,List.mem_singleton,c9f,c8D];exact ⟨fun h2=>h2.imp id Eq.symm,fun h2=>h2.imp id Eq.symm⟩
theorem b6R {α:Type} {f:α->Bool} {l:List α} {i:Nat} {x:α} (h:l[i]?=some x):(l.take (i+1)).any f=((l.take i).any f || f x):=by
 rw [List.take_succ,h];simp
theorem c2o (f:Fr):a0L f=!(!([f.x,f.y,f.t].all C8) || (f.half && !decide (q8 (Nm.d9 f.t)=0))):=by
 rw [a5I];unfold a0L a3w;cases C8 f.x<;>cases C8 f.y<;>cases C8 f.t<;>cases f.half<;>cases decide (q8 (Nm.d9 f.t)=0)<;>rfl
theorem a9j (w:Wk) (s:Stt) (hb:Wb 1073741824 w) (hs:Stb 1073741824 s):FZ 16 [w.c,s.c] (ints (J3 w s)):=by
 refine kW Tryz.func16 (by cbv) (by rfl) fun w' O hw=>?_;have hwk:=c2M w hb;obtain ⟨⟨n1,b1⟩,⟨n2,b2⟩,⟨n3,b3⟩,n4⟩:=hs;obtain ⟨m1,a1⟩:=hb.arms;have m2:=hb.parts.1;have m3:=hb.gates.1;unfold J3;generalize Q9 w=e0 at *;generalize hr:A9 (a0c w.parts.length) [] (w.arms.zip s.arms)=r;obtain ⟨e1,hfin⟩:=r;generalize hg1:s.parts.all a0L=pA;generalize hg2:s.people.all a1C=pB;obtain ⟨arms,walls,parts,slots,gates,walk⟩:=w;obtain ⟨tick,sarms,sparts,people,sgates⟩:=s;simp only at *;simp only [j4];simp only [Wk.c,Wk.enc,Stt.c,Stt.enc,ams,wls,pts,sls,gts,E8,frs,vts,bls,sb,ints] at hwk ⊢
 (repeat first|refine uA ?_|(apply uK;· first|omega|(intros;simp_all<;>omega))|simp (disch:=omega) only [go_sem,Nat.reduceBEq,Nat.reduceAdd]|(refine uD hwk ?_ ?_ ?_;exact tz hw;rfl));refine S.cond rfl (fun hc=>?_) (fun hc=>?_)
 ·rw [if_pos (by simpa using hc)];(repeat first|refine uA ?_|(apply uK;· first|omega|(intros;simp_all<;>omega))|simp (disch:=omega) only [go_sem,Nat.reduceBEq]);exact uS rfl rfl
 rw [if_neg (by simpa using hc)];(repeat first|refine uA ?_|(apply uK;· first|omega|(intros;simp_all<;>omega))|simp (disch:=omega) only [go_sem,Nat.reduceBEq,Nat.reduceAdd,c8r]);refine S.cond rfl (fun hc=>?_) (fun hc=>?_)
 ·rw [if_pos (by simp only [c8D] at hc;omega)];(repeat first|refine uA ?_|(apply uK;· first|omega|(intros;simp_all<;>omega))|simp (disch:=omega) only [go_sem]);exact uS rfl rfl
 rw [if_neg (by simp only [c8I] at hc;omega)];(repeat first|refine uA ?_|(apply uK;· first|omega|(intros;simp_all<;>omega))|simp (disch:=omega) only [go_sem,Nat.reduceBEq,Nat.reduceAdd,c8r]);refine S.cond rfl (fun hc=>?_) (fun hc=>?_)
 ·rw [if_pos (by simp only [c9f,Bool.not_eq_true',c8D,c8I] at hc;omega)];(repeat first|refine uA ?_|(apply uK;· first|omega|(intros;simp_all<;>omega))|simp (disch:=omega) only [go_sem]);exact uS rfl rfl
 have hls:sarms.length=arms.length:=by simp only [c8S,Bool.not_eq_false',c8D,c8I] at hc;omega
 rw [if_neg (by simp only [c8S,Bool.not_eq_false',c8D,c8I] at hc;omega)];clear hc;(repeat first|refine uA ?_|(apply uK;· first|omega|(intros;simp_all<;>omega))|simp (disch:=omega) only [go_sem,Nat.reduceBEq,Nat.reduceAdd,c8r]);refine S.loop (X:=Nat × List Int) (fun x=>⟨[(2,.bp 0 0),(3,.bp 1 0),(63,E8 sarms),(64,ints sarms.length),(65,ints x.1)],[.box 30 [ams arms,wls walls,pts parts,sls slots,gts gates,.v (.bool walk.neg),sb walk.num,sb walk.den],.box 36 [ints tick,E8 sarms,frs sparts,vts people,bls sgates]]⟩)
  (fun x=>x.1<=sarms.length/\(∀ k,x.2.contains k=(sarms.take x.1).any fun y=>decide (y.holds=k))/\(e1,hfin)=A9 (a0c parts.length) x.2 ((arms.zip sarms).drop x.1)) (fun x=>sarms.length-x.1) (0,[]) ⟨c8w _,fun k=>rfl,hr.symm⟩ (by repeat first|refine uA ?_|(refine ⟨?_,?_⟩;· first|rfl|simp [slot])|rfl|simp) ?_
 rintro ⟨i,h⟩ ⟨hi,hk,hg⟩;simp only [ams,wls,pts,sls,gts,E8,frs,vts,bls,sb,ints] at hi hk hg ⊢;(repeat first|refine uA ?_|(apply uK;· first|omega|(intros;simp_all<;>omega))|simp (disch:=omega) only [go_sem,Nat.reduceBEq]);(refine uJ rfl (fun hc=>?_) fun hc=>?_)
 ·have hgx:=c8q (show i < sarms.length by omega);have hga:=c8q (show i < arms.length by omega);generalize sarms[i]'_=x at hgx;generalize arms[i]'_=a at hga;have hz:=J5 hga hgx;have hst:=X6 (f:=a0c parts.length) (s:=h) hz;have hnx:=X8 (f:=a0c parts.length) (s:=h) hz;have hv:a0c parts.length h (a,x)=if a1Y a x parts.length ≠ 0 then (a1Y a x parts.length,h) else if (decide (0<=x.holds) && h.contains x.holds)=true then (10,h) else (0,a3k h x.holds):=rfl
  rw [hv] at hst hnx;clear hv;have hxb:=b1 x (c8t hgx);have hab:=a1 a (c8t hga);have o1:=a6B x.q ⟨by have:=hxb.1.1;omega,fun r hr=>(hxb.1.2 r hr).m rfl⟩;have o2:=a6B x.v ⟨by have:=hxb.2.1;omega,fun r hr=>(hxb.2.2 r hr).m rfl⟩;have o3:=c0e a x.q hab hxb.1;have hone:a1Y a x parts.length=if (x.q.all C8 && x.v.all C8)=false then 3 else if a2s a x.q ≠ 0 then a2s a x.q else if x.v.length ≠ a.links.length \/ x.holds < -1 \/ (parts.length:Int)<=x.holds then 1 else G5 Z9 (a.links.zip x.v):=rfl
  have hkh:=hk x.holds;have hkn:∀ k,(a3k h x.holds).contains k=(sarms.take (i+1)).any fun y=>decide (y.holds=k):=fun k=>by rw [b9b,hk,b6R hgx]
  generalize h.contains x.holds=c1 at *;generalize a3k h x.holds=h' at *;generalize a1Y a x parts.length=o at *;generalize hq1:x.q.all C8=q1 at *;generalize hq2:x.v.all C8=q2 at *;generalize a2s a x.q=fe at *;obtain ⟨hvn,hvb⟩:=hxb.2;obtain ⟨_,_,hln,hlb⟩:=hab;obtain ⟨an,⟨bx,by',bh,bt⟩,links⟩:=a;obtain ⟨xq,xv,xp,xh⟩:=x;have hai:(i:Int) < arms.length:=by omega
  simp only [Am.c,Am.enc,lks,rts,sb,ints] at o1 o2 o3 hone hkh hkn hvn hvb hln hlb hst hnx;clear hq1 hq2 hk;(repeat first|refine uA ?_|(apply uK;· first|omega|(intros;simp_all<;>omega))|simp (disch:=omega) only [go_sem,Nat.reduceBEq,Nat.reduceAdd,hga,hgx,c8s,c8r,Am.enc,Ast.enc,lks,rts,sb,ints,c8u]|(refine uD o1 ?_ ?_ ?_;exact tz hw;rfl)|(refine uD o2 ?_ ?_ ?_;exact tz hw;rfl));refine S.cond rfl (fun hc2=>?_) (fun hc2=>?_)
  ·rw [if_pos (by cases q1<;>cases q2<;>simp_all)] at hone;subst hone;rw [if_pos (by decide)] at hst;rw [hst (show (3:Int) ≠ 0 by decide)] at hg;injection hg with g1 g2;rw [if_pos (by rw [g1];decide),g1];(repeat first|refine uA ?_|(apply uK;· first|omega|(intros;simp_all<;>omega))|simp (disch:=omega) only [go_sem]);exact uS rfl rfl
  rw [if_neg (by cases q1<;>cases q2<;>simp_all)] at hone;(repeat first|refine uA ?_|(apply uK;· first|omega|(intros;simp_all<;>omega))|simp (disch:=omega) only [go_sem,Nat.reduceBEq,Nat.reduceAdd,hga,c8s,c8r,Am.enc,lks,sb,c8u]|(refine uD o3 ?_ ?_ ?_;exact tz hw;rfl));refine S.cond rfl (fun hc3=>?_) (fun hc3=>?_)
  ·have h0:fe ≠ 0:=by simpa using hc3
   rw [if_pos h0] at hone;subst hone;rw [if_pos h0] at hst;rw [hst h0] at hg;injection hg with g1 g2;rw [if_pos (by rw [g1];exact h0),g1];(repeat first|refine uA ?_|(apply uK;· first|omega|(intros;simp_all<;>omega))|simp (disch:=omega) only [go_sem,Nat.reduceBEq]);exact uS rfl rfl
  rw [if_neg (by simpa using hc3)] at hone;(repeat first|refine uA ?_|(apply uK;· first|omega|(intros;simp_all<;>omega))|simp (disch:=omega) only [go_sem,Nat.reduceBEq,Nat.reduceAdd,c8r]);refine S.cond rfl (fun hc4=>?_) (fun hc4=>?_)
  ·rw [if_pos (by simp only [c9f,Bool.not_eq_true',c8D,c8I] at hc4;omega)] at hone;subst hone;rw [if_pos (by decide)] at hst;rw [hst (show (1:Int) ≠ 0 by decide)] at hg;injection hg with g1 g2;rw [if_pos (by rw [g1];decide),g1];(repeat first|refine uA ?_|(apply uK;· first|omega|(intros;simp_all<;>omega))|simp (disch:=omega) only [go_sem]);exact uS rfl rfl
  rw [if_neg (by simp only [c8S,Bool.not_eq_false',c8D,c8I] at hc4;omega)] at hone;have hvl:xv.length=links.length:=by simp only [c8S,Bool.not_eq_false',c8D,c8I] at hc4;omega
  clear hc3 hc4 hc2 o1 o2 o3;(repeat first|refine uA ?_|(apply uK;· first|omega|(intros;simp_all<;>omega))|simp (disch:=omega) only [go_sem,Nat.reduceBEq,Nat.reduceAdd,c8r]);refine S.loop (X:=Nat) (fun j=>⟨[(2,.bp 0 0),(3,.bp 1 0),(63,E8 sarms),(64,ints sarms.length),(65,ints i),(6,ints i),(7,.bp 2 0),(8,lks links),(117,rts xv),(118,ints xv.length),(119,ints j)],[.box 30 [ams arms,wls walls,pts parts,sls slots,gts gates,.v (.bool walk.neg),sb walk.num,sb walk.den],.box 36 [ints tick,E8 sarms,frs sparts,vts people,bls sgates],.box 70 [rts xq,rts xv,.v (.bool xp),ints xh]]⟩)
   (fun j=>j<=xv.length/\o=G5 Z9 ((links.zip xv).drop j)) (fun j=>xv.length-j) 0 ⟨c8w _,hone⟩ (by repeat first|refine uA ?_|(refine ⟨?_,?_⟩;· first|rfl|simp [slot])|rfl|simp) ?_
  rintro j ⟨hj,hsp⟩;simp only [ams,wls,pts,sls,gts,E8,frs,vts,bls,lks,rts,sb,ints] at hj hsp ⊢;(repeat first|refine uA ?_|(apply uK;· first|omega|(intros;simp_all<;>omega))|simp (disch:=omega) only [go_sem,Nat.reduceBEq]);(refine uJ rfl (fun hc=>?_) fun hc=>?_)
  ·have hgv:=c8q (show j < xv.length by omega);have hgl:=c8q (show j < links.length by omega);generalize xv[j]'_=v at hgv;generalize links[j]'_=l at hgl;have hz2:=J5 hgl hgv;have s1:=a1a (f:=Z9) hz2;have s2:=a0U (f:=Z9) hz2;have vb:=hvb v (c8t hgv);have lb:=(hlb l (c8t hgl)).2.2.2.1;have p1:=F6 v l.speed (vb.m rfl) (lb.m rfl);have p2:=a4S v (vb.m rfl);have p3:=F6 (Nm.ofQ (- Nm.d9 v)) l.speed ((b9m vb (by decide)).m rfl) (lb.m rfl);rw [Nm.l6] at p3;have hsv:Z9 (l,v)=if (0 < Nm.l8 (Nm.d9 v) (Nm.d9 l.speed) \/ 0 < Nm.l8 (- Nm.d9 v) (Nm.d9 l.speed)) then 1 else 0:=by
    unfold Z9;simp only [c0c]
   rw [hsv] at s1 s2;unfold rq at p2;generalize Nm.l8 (Nm.d9 v) (Nm.d9 l.speed)=c2 at *;generalize Nm.l8 (- Nm.d9 v) (Nm.d9 l.speed)=c3 at *;generalize Nm.ofQ (- Nm.d9 v)=nv at *;have hjl:(j:Int) < links.length:=by omega
   simp only [rc,sb,ints] at p1 p2 p3;(repeat first|refine uA ?_|(apply uK;· first|omega|(intros;simp_all<;>omega))|simp (disch:=omega) only [go_sem,Nat.reduceBEq,Nat.reduceAdd,hgv,hgl,c8s,c8r,rcs,Lk.enc,vts,sb,c8u]|(refine uD p1 ?_ ?_ ?_;exact tz hw;rfl)|(refine uD p2 ?_ ?_ ?_;exact tz hw;rfl)|(refine uD p3 ?_ ?_ ?_;exact tz hw;rfl));refine S.cond rfl (fun hc5=>?_) (fun hc5=>?_)
   ·rw [if_pos (by simp only [c9f,c8D] at hc5;omega)] at s1;rw [s1 (by decide)] at hsp;subst hsp;rw [if_pos (by decide)] at hst;rw [hst (show (1:Int) ≠ 0 by decide)] at hg;injection hg with g1 g2;rw [if_pos (by rw [g1];decide),g1];(repeat first|refine uA ?_|(apply uK;· first|omega|(intros;simp_all<;>omega))|simp (disch:=omega) only [go_sem]);exact uS rfl rfl
   ·rw [if_neg (by simp only [c8S,c8I] at hc5;omega)] at s2;(repeat first|refine uA ?_|(apply uK;· first|omega|(intros;simp_all<;>omega))|simp (disch:=omega) only [go_sem,Nat.reduceBEq,ww]);refine S.next (j+1) ⟨by omega,by rw [hsp];exact s2 rfl⟩ (by omega) (by repeat first|refine uA ?_|(refine ⟨?_,?_⟩;· first|rfl|simp [slot])|rfl|simp)
  rw [a1x (by rw [List.length_zip];omega)] at hsp;subst hsp;rw [if_neg (by decide)] at hst hnx;clear hj hone;have htl:(sarms.take i).length=i:=by rw [c8E];omega
  (repeat first|refine uA ?_|(apply uK;· first|omega|(intros;simp_all<;>omega))|simp (disch:=omega) only [go_sem,Nat.reduceBEq,Nat.reduceAdd,c8r,htl,c8u]);refine S.loop (X:=Nat) (fun j=>⟨[(2,.bp 0 0),(3,.bp 1 0),(63,E8 sarms),(64,ints sarms.length),(65,ints i),(6,ints i),(7,.bp 2 0),(147,E8 (sarms.take i)),(148,ints i),(149,ints j)],[.box 30 [ams arms,wls walls,pts parts,sls slots,gts gates,.v (.bool walk.neg),sb walk.num,sb walk.den],.box 36 [ints tick,E8 sarms,frs sparts,vts people,bls sgates],.box 70 [rts xq,rts xv,.v (.bool xp),ints xh]]⟩)
   (fun j=>j<=i/\(0<=xh->((sarms.take i).take j).any (fun y=>decide (y.holds=xh))=false)) (fun j=>i-j) 0 ⟨c8w _,fun _=>rfl⟩ (by repeat first|refine uA ?_|(refine ⟨?_,?_⟩;· first|rfl|simp [slot])|rfl|simp) ?_
  rintro j ⟨hj,hno⟩;simp only [ams,wls,pts,sls,gts,E8,frs,vts,bls,rts,sb,ints] at hj hno ⊢;(repeat first|refine uA ?_|(apply uK;· first|omega|(intros;simp_all<;>omega))|simp (disch:=omega) only [go_sem,Nat.reduceBEq]);(refine uJ rfl (fun hc=>?_) fun hc=>?_)
  ·have hgy:=c8q (show j < (sarms.take i).length by omega);generalize (sarms.take i)[j]'_=y at hgy;have hae:=b6R (f:=fun y:Ast=>decide (y.holds=xh)) hgy;have hah:=c8t hgy;generalize sarms.take i=L at *;obtain ⟨yq,yv,yp,yh⟩:=y;simp only at hae;(repeat first|refine uA ?_|(apply uK;· first|omega|(intros;simp_all<;>omega))|simp (disch:=omega) only [go_sem,Nat.reduceBEq,Nat.reduceAdd,hgy,c8s,c8r,Ast.enc,rts,ints,c8u,htl]);refine S.cond rfl (fun hc5=>?_) (fun hc5=>?_)
   ·have hx0:0<=xh/\xh=yh:=by simpa using hc5
    have hc1:c1=true:=by
     rw [hkh,List.any_eq_true];exact ⟨_,hah,by simp [hx0.2]⟩
    rw [if_pos (by rw [hc1];simp [hx0.1])] at hst;rw [hst (show (10:Int) ≠ 0 by decide)] at hg;injection hg with g1 g2;rw [if_pos (by rw [g1];decide),g1];(repeat first|refine uA ?_|(apply uK;· first|omega|(intros;simp_all<;>omega))|simp (disch:=omega) only [go_sem]);exact uS rfl rfl
   ·(repeat first|refine uA ?_|(apply uK;· first|omega|(intros;simp_all<;>omega))|simp (disch:=omega) only [go_sem,Nat.reduceBEq,ww]);refine S.next (j+1) ⟨by omega,fun h0=>?_⟩ (by omega) (by repeat first|refine uA ?_|(refine ⟨?_,?_⟩;· first|rfl|simp [slot])|rfl|simp);rw [hae,hno h0,Bool.false_or];have:¬ (0<=xh/\xh=yh):=by simpa using hc5
    exact decide_eq_false (fun e=>this ⟨h0,e.symm⟩)
  have hj':j=i:=by omega
  subst hj';rw [if_neg (by
   intro hc6;rw [c8F,c8D] at hc6;have:=hno hc6.1;rw [c8P (by omega)] at this;rw [hkh,this] at hc6;exact absurd hc6.2 (by decide))] at hnx
  (repeat first|refine uA ?_|(apply uK;· first|omega|(intros;simp_all<;>omega))|simp (disch:=omega) only [go_sem,Nat.reduceBEq,ww]);refine S.next (x:=(j,h)) (j+1,h') ⟨by simp only;omega,hkn,by simp only;rw [hg];exact hnx rfl⟩ (by simp only;omega) (by repeat first|refine uA ?_|(refine ⟨?_,?_⟩;· first|rfl|simp [slot])|rfl|simp)
 rw [a0i (by rw [List.length_zip];omega)] at hg;injection hg with g1 g2;subst g1;rw [if_neg (show ¬ (0:Int) ≠ 0 by simp)];clear hr b1 a1 hk hi;(repeat first|refine uA ?_|(apply uK;· first|omega|(intros;simp_all<;>omega))|simp (disch:=omega) only [go_sem,Nat.reduceBEq,Nat.reduceAdd,c8r]);refine S.loop (X:=Nat) (fun i=>⟨[(2,.bp 0 0),(3,.bp 1 0),(166,frs sparts),(167,ints sparts.length),(168,ints i)],[.box 30 [ams arms,wls walls,pts parts,sls slots,gts gates,.v (.bool walk.neg),sb walk.num,sb walk.den],.box 36 [ints tick,E8 sarms,frs sparts,vts people,bls sgates]]⟩)
  (fun i=>i<=sparts.length/\pA=(sparts.drop i).all a0L) (fun i=>sparts.length-i) 0 ⟨c8w _,hg1.symm⟩ (by repeat first|refine uA ?_|(refine ⟨?_,?_⟩;· first|rfl|simp [slot])|rfl|simp) ?_
 rintro i' ⟨hi,hg⟩;simp only [ams,wls,pts,sls,gts,E8,frs,vts,bls,sb,ints] at hi ⊢;(repeat first|refine uA ?_|(apply uK;· first|omega|(intros;simp_all<;>omega))|simp (disch:=omega) only [go_sem,Nat.reduceBEq]);(refine uJ rfl (fun hc=>?_) fun hc=>?_)
 ·have hgi:=c8q (show i' < sparts.length by omega);generalize sparts[i']'(_)=f at hgi;obtain ⟨f1,f2,f3⟩:=b2 f (c8t hgi);have hs:=a5a (f:=a0L) hgi;rw [c2o] at hs;have o1:=a6B _ (Rbs.three (by decide) (f1.mono (m:=17179869184) (by decide)) (f2.mono (m:=17179869184) (by decide)) (f3.mono (m:=17179869184) (by decide)));have o2:=M8 f.t (f3.m rfl);generalize [f.x,f.y,f.t].all C8=q1 at *;generalize q8 (Nm.d9 f.t)=s1 at *;obtain ⟨fx,fy,fh,ft⟩:=f;simp only [rts,rcs,rc,sb,ints,c8K,c8O] at o1 o2 hs
  (repeat first|refine uA ?_|(apply uK;· first|omega|(intros;simp_all<;>omega))|simp (disch:=omega) only [go_sem,Nat.reduceBEq,Nat.reduceAdd,hgi,c8s,c8r,Fr.enc,sb,c8u]|(refine uD o2 ?_ ?_ ?_;exact tz hw;rfl)|(refine uE o1 ?_ ?_ ?_ ?_;exact tz hw;exact rfl;focus (repeat' first|exact j3.nil|exact Imp.refl rfl|exact Imp.frz rfl rfl rfl|(refine Imp.K5 rfl rfl ?_ ?_;(focus ((try simp only [c8A,hgi,c8s,c8r,Fr.enc,sb,c8u]);omega));(focus first|rfl|assumption))|refine j3.cons ?_ ?_);done));refine S.cond rfl (fun hc2=>?_) (fun hc2=>?_)
  ·rw [hc2] at hs;rw [hg,hs,Bool.not_true,Bool.false_and,Bool.false_and,if_neg (by decide)];(repeat first|refine uA ?_|(apply uK;· first|omega|(intros;simp_all<;>omega))|simp (disch:=omega) only [go_sem]);exact uS rfl rfl
  ·rw [hc2] at hs;(repeat first|refine uA ?_|(apply uK;· first|omega|(intros;simp_all<;>omega))|simp (disch:=omega) only [go_sem,Nat.reduceBEq,ww]);refine S.next (i'+1) ⟨by omega,by rw [hg,hs];rfl⟩ (by omega) (by repeat first|refine uA ?_|(refine ⟨?_,?_⟩;· first|rfl|simp [slot])|rfl|simp)
 rw [a6i (by omega)] at hg;subst hg;rw [Bool.true_and];clear hg1 b2 hi;(repeat first|refine uA ?_|(apply uK;· first|omega|(intros;simp_all<;>omega))|simp (disch:=omega) only [go_sem,Nat.reduceBEq,Nat.reduceAdd,c8r]);refine S.loop (X:=Nat) (fun i=>⟨[(198,vts people),(199,ints people.length),(200,ints i)],[.box 30 [ams arms,wls walls,pts parts,sls slots,gts gates,.v (.bool walk.neg),sb walk.num,sb walk.den],.box 36 [ints tick,E8 sarms,frs sparts,vts people,bls sgates]]⟩)
  (fun i=>i<=people.length/\pB=(people.drop i).all a1C) (fun i=>people.length-i) 0 ⟨c8w _,hg2.symm⟩ (by repeat first|refine uA ?_|(refine ⟨?_,?_⟩;· first|rfl|simp [slot])|rfl|simp) ?_
 rintro i2 ⟨hi,hg⟩;simp only [ams,wls,pts,sls,gts,E8,frs,vts,bls,sb,ints] at hi ⊢;(repeat first|refine uA ?_|(apply uK;· first|omega|(intros;simp_all<;>omega))|simp (disch:=omega) only [go_sem,Nat.reduceBEq]);(refine uJ rfl (fun hc=>?_) fun hc=>?_)
 ·have hgi:=c8q (show i2 < people.length by omega);generalize people[i2]'(_)=f at hgi;obtain ⟨f1,f2⟩:=b3 f (c8t hgi);have hs:=a5a (f:=a1C) hgi;rw [show a1C f=[f.x,f.y].all C8 by rw [a6o];rfl] at hs;have o1:=a6B _ (Rbs.two (by decide) (f1.mono (m:=17179869184) (by decide)) (f2.mono (m:=17179869184) (by decide)));generalize [f.x,f.y].all C8=q1 at *;obtain ⟨fx,fy⟩:=f;simp only [rts,rcs,sb,c8K,c8O] at o1 hs
  (repeat first|refine uA ?_|(apply uK;· first|omega|(intros;simp_all<;>omega))|simp (disch:=omega) only [go_sem,Nat.reduceBEq,Nat.reduceAdd,hgi,c8s,c8r,Vt.enc,sb,c8u]|(refine uE o1 ?_ ?_ ?_ ?_;exact tz hw;exact rfl;focus (repeat' first|exact j3.nil|exact Imp.refl rfl|exact Imp.frz rfl rfl rfl|(refine Imp.K5 rfl rfl ?_ ?_;(focus ((try simp only [c8A,hgi,c8s,c8r,Vt.enc,sb,c8u]);omega));(focus first|rfl|assumption))|refine j3.cons ?_ ?_);done));refine S.cond rfl (fun hc2=>?_) (fun hc2=>?_)
  ·have h0:q1=false:=by simpa using hc2
   rw [hg,hs,h0,Bool.false_and,if_neg (by decide)];(repeat first|refine uA ?_|(apply uK;· first|omega|(intros;simp_all<;>omega))|simp (disch:=omega) only [go_sem]);exact uS rfl rfl
  ·have h0:q1=true:=by simpa using hc2
   (repeat first|refine uA ?_|(apply uK;· first|omega|(intros;simp_all<;>omega))|simp (disch:=omega) only [go_sem,Nat.reduceBEq,ww]);refine S.next (i2+1) ⟨by omega,by rw [hg,hs,h0,Bool.true_and]⟩ (by omega) (by repeat first|refine uA ?_|(refine ⟨?_,?_⟩;· first|rfl|simp [slot])|rfl|simp)
 rw [a6i (by omega)] at hg;subst hg;rw [if_pos rfl];(repeat first|refine uA ?_|(apply uK;· first|omega|(intros;simp_all<;>omega))|simp (disch:=omega) only [go_sem]);exact uS rfl rfl
def a3d (l m:List Cl):Bool:=l.any fun c=>m.contains c
theorem c0Q (ls:List (List Cl)) (i:Nat) (l:List Cl) (h:ls.getD i []=l):a1H ls i=a3d l:=by
 funext m
 unfold a1H a3d;rw [h,c1W]
theorem b8t (w:Wk) (s:Stt) (ls:List (List Cl)) (us:List (List Nm.Rt)) (R:List Int) (hwb:Wb 1073741824 w) (hsb:Stb 1073741824 s) (hst:J3 w s=0) (hl:ls.length=w.arms.length) (hu:us.length=w.arms.length) (hR:R.length=w.arms.length) (hn:w.arms.length<=1000)
  (hgn:∀ l ∈ ls,l.length<=1000000000) (hj:lsE ls=0->∀ (n:Nat) (l:List Cl) (u:List Nm.Rt) (r:Int),ls[n]?=some l->us[n]?=some u->R[n]?=some r->FZ 20 [w.c,s.c,ints n,cls l,rts u] (ints r)) :
  FZ 6 [w.c,s.c,H7 ls,wss us] (.tup [O7 (if lsE ls=0 then R else []),ints (lsE ls)]):=by
 refine kW Tryz.func6 (by cbv) (by rfl) fun w' O hw=>?_;have h0:=a9j w s hwb hsb;rw [hst] at h0;have hit:=fun (i:Nat) (hi:i < ls.length) (h:a0e ls i ≠ 0) (hb:∀ j,j < i->a0e ls j=0)=>c0o hi h hb;have miss:=fun (h:∀ i,i < ls.length->a0e ls i=0)=>b3j h;have hcal:callable Tryz.prog 18=true:=by kernel_rfl
 generalize lsE ls=K at *;clear hwb hsb hst;simp only [j4,TT,II,OA,OB,OC,MM,LL,VV,FF,MG,VG,FG];simp only [Wk.c,Wk.enc,Stt.c,Stt.enc,ams,wls,pts,sls,gts,E8,frs,bls,vts,H7,cls,wss,rts,O7,sb,ints] at h0 hj ⊢;(repeat first|refine uA ?_|(apply uK;· first|omega|(intros;simp_all<;>omega))|simp (disch:=omega) only [go_sem,Nat.reduceBEq,Nat.reduceAdd]|(refine uD h0 ?_ ?_ ?_;exact tz hw;rfl));refine S.cond rfl (fun hc=>by simp at hc) (fun hc=>?_);clear h0;(repeat first|refine uA ?_|(apply uK;· first|omega|(intros;simp_all<;>omega))|simp (disch:=omega) only [go_sem,Nat.reduceBEq,Nat.reduceAdd,c8r,hl,hu]);refine S.cond rfl (fun hc=>by simp at hc) (fun hc=>?_)
 (repeat first|refine uA ?_|(apply uK;· first|omega|(intros;simp_all<;>omega))|simp (disch:=omega) only [go_sem,Nat.reduceBEq,c8r]);refine S.loop (X:=Nat) (fun i=>⟨[(2,H7 ls),(3,wss us),(4,.bp 0 0),(5,.bp 1 0),(38,H7 ls),(39,ints ls.length),(40,ints i)],[.box 30 w.enc,.box 36 s.enc]⟩)
  (fun i=>i<=ls.length/\∀ k,k < i->a0e ls k=0) (fun i=>ls.length-i) 0 ⟨c8w _,fun _ h=>absurd h (Nat.not_lt_zero _)⟩ (by simp only [Wk.enc,Stt.enc,ams,wls,pts,sls,gts,E8,frs,bls,vts,H7,cls,wss,rts,sb,ints];exact (by repeat first|refine uA ?_|(refine ⟨?_,?_⟩;· first|rfl|simp [slot])|rfl|simp)) ?_
 rintro i ⟨hi,hm⟩;simp only [Wk.enc,Stt.enc,ams,wls,pts,sls,gts,E8,frs,bls,vts,H7,cls,wss,rts,sb,ints];(repeat first|refine uA ?_|(apply uK;· first|omega|(intros;simp_all<;>omega))|simp (disch:=omega) only [go_sem,Nat.reduceBEq]);(refine uJ rfl (fun hc=>?_) fun hc=>?_)
 ·have hi':i < ls.length:=by omega
  have hgl:=c8q hi';generalize ls[i]=l at hgl;have o1:=b2k l (hgn l (c8t hgl));have hgd:ls.getD i []=l:=by rw [c8C,hgl];rfl
  have hti:=fun h=>hit i hi' h hm;have hls:a0e ls i=if a2g l ≠ 0 then a2g l else if (ls.take i).any (a1H ls i)=true then 10 else 0:=by unfold a0e;rw [hgd]
  have htl:(ls.take i).length=i:=by rw [c8E];omega
  have htm:∀ m ∈ ls.take i,m.length<=1000000000:=fun m hmm=>hgn m (List.mem_of_mem_take hmm);have hmi:a1H ls i=a3d l:=c0Q ls i l hgd;have hln:=hgn l (c8t hgl);generalize hT:ls.take i=T at *;have hTe:List.take i (ls.map fun l=>[C.sl 2 (l.map ce)])=T.map fun l=>[C.sl 2 (l.map ce)]:=by rw [<- List.map_take,hT]
  simp only [cls,ints] at o1;(repeat first|refine uA ?_|(apply uK;· first|omega|(intros;simp_all<;>omega))|simp (disch:=omega) only [go_sem,Nat.reduceBEq,c8r,c8x,hgl,c8s,c8u]|(refine uB o1 ?_ ?_;rfl));refine S.cond rfl (fun hc=>?_) (fun hc=>?_)
  ·have hE:a2g l ≠ 0:=by simpa using hc
   rw [if_pos hE] at hls;have hK:=hti (by rw [hls];exact hE);rw [hls] at hK;subst hK;simp only [if_neg hE,c8O];(repeat first|refine uA ?_|(apply uK;· first|omega|(intros;simp_all<;>omega))|simp (disch:=omega) only [go_sem,Nat.reduceBEq]);(refine S.done ?_;simp only [D6,go_sem,Nat.reduceBEq];(repeat (refine ⟨?_,?_⟩;· first|trivial|omega|simp));exact p8.out rfl (Imp.tup (by (repeat' (first|exact j3.nil|exact Imp.refl rfl|exact Imp.frz rfl rfl rfl|exact Imp.I9|refine Imp.agg ?_|refine j3.cons ?_ ?_)))) rfl)
  rw [if_neg (by simpa using hc)] at hls;(repeat first|refine uA ?_|(apply uK;· first|omega|(intros;simp_all<;>omega))|simp (disch:=omega) only [go_sem,Nat.reduceBEq,c8r,c8u,List.drop_zero,Nat.sub_zero,hTe,htl,Int.toNat_zero]);refine S.loop (X:=Nat) (fun j=>⟨[(2,H7 ls),(3,wss us),(4,.bp 0 0),(5,.bp 1 0),(11,ints i),(12,cls l),(38,H7 ls),(39,ints ls.length),(40,ints i),(52,H7 T),(53,ints i),(54,ints j)],[.box 30 w.enc,.box 36 s.enc]⟩)
   (fun j=>j<=i/\∀ (k:Nat) (m:List Cl),k < j->T[k]?=some m->a3d l m=false) (fun j=>i-j) 0 ⟨c8w _,fun _ _ h=>absurd h (Nat.not_lt_zero _)⟩ (by simp only [Wk.enc,Stt.enc,ams,wls,pts,sls,gts,E8,frs,bls,vts,H7,cls,wss,rts,sb,ints];exact (by repeat first|refine uA ?_|(refine ⟨?_,?_⟩;· first|rfl|simp [slot])|rfl|simp)) ?_
  rintro j ⟨hj',hk⟩;clear o1;simp only [Wk.enc,Stt.enc,ams,wls,pts,sls,gts,E8,frs,bls,vts,H7,cls,wss,rts,sb,ints];(repeat first|refine uA ?_|(apply uK;· first|omega|(intros;simp_all<;>omega))|simp (disch:=omega) only [go_sem,Nat.reduceBEq]);(refine uJ rfl (fun hc=>?_) fun hc=>?_)
  ·have hgm:=c8q (show j < T.length by omega);generalize T[j]'_=m at hgm;have gm:=htm m (c8t hgm);have o2:=b6v 18 hcal (cls m) (fun c=>m.contains c) l hln rfl (fun c=>c4l m c gm);change u7 _ _ _ (.v (.bool (a3d l m))) at o2;have hit2:=fun hp=>a0C (p:=a3d l) hgm hp;have nxt:=fun hp=>V9 (p:=a3d l) hgm hp hk;generalize a3d l m=M at *;simp only [cls] at o2
   (repeat first|refine uA ?_|(apply uK;· first|omega|(intros;simp_all<;>omega))|simp (disch:=omega) only [go_sem,Nat.reduceBEq,Nat.reduceAdd,c8r,c8x,hgm,c8s,c8u]|(refine uC o2 ?_ ?_ ?_;exact rfl;focus (repeat' first|exact j3.nil|exact Imp.refl rfl|exact Imp.I9|exact Imp.fbx rfl rfl (j3.refl rfl) rfl rfl|refine Imp.clo ?_|exact Imp.frz rfl rfl rfl|(refine Imp.K5 rfl rfl ?_ ?_;(focus ((try simp only [c8A,c8r,c8x,hgm,c8s,c8u,cls]);omega));(focus first|rfl|assumption))|refine Imp.agg ?_|refine j3.cons ?_ ?_);done));refine S.cond rfl (fun hc=>?_) (fun hc=>?_)
   ·have hany:T.any (a1H ls i)=true:=by rw [hmi];exact hit2 hc
    rw [if_pos hany] at hls;have hK:=hti (by rw [hls];decide);rw [hls] at hK;subst hK;simp only [if_neg (show ¬ (10:Int)=0 by decide),c8O];(repeat first|refine uA ?_|(apply uK;· first|omega|(intros;simp_all<;>omega))|simp (disch:=omega) only [go_sem]);(refine S.done ?_;simp only [D6,go_sem,Nat.reduceBEq];(repeat (refine ⟨?_,?_⟩;· first|trivial|omega|simp));exact p8.out rfl (Imp.tup (by (repeat' (first|exact j3.nil|exact Imp.refl rfl|exact Imp.frz rfl rfl rfl|exact Imp.I9|refine Imp.agg ?_|refine j3.cons ?_ ?_)))) rfl)
   ·have hp:=nxt hc;(repeat first|refine uA ?_|(apply uK;· first|omega|(intros;simp_all<;>omega))|simp (disch:=omega) only [go_sem,Nat.reduceBEq,ww]);refine S.next (x:=j) (j+1) ⟨by omega,hp⟩ (by omega) (by repeat first|refine uA ?_|(refine ⟨?_,?_⟩;· first|rfl|simp [slot])|rfl|simp)
  ·have hje:j=i:=by omega
   subst hje;have hno:T.any (a1H ls j)=false:=by
    rw [hmi];exact Z4 fun k m hkl hkm=>hk k m (by omega) hkm
   rw [if_neg (by rw [hno];decide)] at hls;(repeat first|refine uA ?_|(apply uK;· first|omega|(intros;simp_all<;>omega))|simp (disch:=omega) only [go_sem,Nat.reduceBEq,ww]);refine S.next (x:=j) (j+1) ⟨by omega,fun k hk2=>?_⟩ (by omega) (by repeat first|refine uA ?_|(refine ⟨?_,?_⟩;· first|rfl|simp [slot])|rfl|simp);rcases c8N k j with h|h
   ·exact hm k h
   ·have:k=j:=by omega
    subst this;exact hls
 have hi':i=ls.length:=by omega
 subst hi';have hK:=miss fun k hk=>hm k hk;subst hK;simp only [if_pos (show (0:Int)=0 from rfl)];have hj:=hj rfl;clear hm hit miss hi;(repeat first|refine uA ?_|(apply uK;· first|omega|(intros;simp_all<;>omega))|simp (disch:=omega) only [go_sem,Nat.reduceBEq,Nat.reduceAdd,c8r]);refine S.loop (X:=Nat) (fun i=>⟨[(2,H7 ls),(3,wss us),(4,.bp 0 0),(5,.bp 1 0),(16,.rv 2),(64,ams w.arms),(65,ints w.arms.length),(66,ints i)],[.box 30 w.enc,.box 36 s.enc,.row 3 1 ((R.take i).map fun r=>[ints r])]⟩)
  (fun i=>i<=w.arms.length) (fun i=>w.arms.length-i) 0 (c8w _) (Ent.trans (Ent.pack 16 3 1 rfl) (by simp only [Wk.enc,Stt.enc,ams,wls,pts,sls,gts,E8,frs,bls,vts,H7,cls,wss,rts,sb,ints,List.take_zero,c8O];exact (by repeat first|refine uA ?_|(refine ⟨?_,?_⟩;· first|rfl|simp [slot])|rfl|simp))) ?_
 intro i hi;simp only [Wk.enc,Stt.enc,ams,wls,pts,sls,gts,E8,frs,bls,vts,H7,cls,wss,rts,sb,ints];(repeat first|refine uA ?_|(apply uK;· first|omega|(intros;simp_all<;>omega))|simp (disch:=omega) only [go_sem,Nat.reduceBEq]);(refine uJ rfl (fun hc=>?_) fun hc=>?_)
 ·have hi':i < w.arms.length:=by omega
  have hgl:=c8q (show i < ls.length by omega);have hgu:=c8q (show i < us.length by omega);have hgr:=c8q (show i < R.length by omega);generalize ls[i]'_=l at hgl;generalize us[i]'_=u at hgu;generalize R[i]'_=r at hgr;have o1:=hj i l u r hgl hgu hgr;have hil:(i:Int) < ls.length:=by omega
  have hiu:(i:Int) < us.length:=by omega
  have htl:(R.take i).length=i:=by rw [c8E];omega
  have hap:=take_at hgr;clear hj;(repeat first|refine uA ?_|(apply uK;· first|omega|(intros;simp_all<;>omega))|simp (disch:=omega) only [go_sem,Nat.reduceBEq,Nat.reduceAdd,ww,c8r,c8x,hgl,hgu,c8s,c8u,hil,hiu,htl]|(refine uD o1 ?_ ?_ ?_;exact tz hw;rfl));refine S.next (i+1) (by omega) (by omega) (by simp only [hap,c9i,c8K,c8O];exact (by repeat first|refine uA ?_|(refine ⟨?_,?_⟩;· first|rfl|simp [slot])|rfl|simp))
 ·have hi':i=w.arms.length:=by omega
  subst hi';rw [c8P (by omega)];(repeat first|refine uA ?_|(apply uK;· first|omega|(intros;simp_all<;>omega))|simp (disch:=omega) only [go_sem,Nat.reduceBEq]);(refine S.done ?_;simp only [D6,go_sem,Nat.reduceBEq];(repeat (refine ⟨?_,?_⟩;· first|trivial|omega|simp));exact p8.out rfl (Imp.tup (by (repeat' (first|exact j3.nil|exact Imp.refl rfl|exact Imp.frz rfl rfl rfl|exact Imp.I9|refine Imp.agg ?_|refine j3.cons ?_ ?_)))) rfl)
theorem b9Q (w:Wk) (s:Stt) (ls:List (List Cl)) (us:List (List Nm.Rt)) (hwb:Wb 1073741824 w) (hsb:Stb 1073741824 s) (h:J3 w s ≠ 0) :
  FZ 6 [w.c,s.c,H7 ls,wss us] (.tup [.v (.slice none 0 0),ints (J3 w s)]):=by
 refine kW Tryz.func6 (by cbv) (by rfl) fun w' O hw=>?_;have h0:=a9j w s hwb hsb;generalize J3 w s=e at *;clear hwb hsb;simp only [j4,TT,II,OA,OB,OC,MM,LL,VV,FF,MG,VG,FG];simp only [Wk.c,Wk.enc,Stt.c,Stt.enc,ams,wls,pts,sls,gts,E8,frs,bls,vts,H7,cls,wss,rts,sb,ints] at h0 ⊢;(repeat first|refine uA ?_|(apply uK;· first|omega|(intros;simp_all<;>omega))|simp (disch:=omega) only [go_sem,Nat.reduceBEq,Nat.reduceAdd]|(apply uD h0;exact tz hw;rfl));refine S.cond rfl (fun hc=>?_) (fun hc=>absurd (by simpa using hc) h);(repeat first|refine uA ?_|(apply uK;· omega)|simp (disch:=omega) only [go_sem,Nat.reduceBEq])
 (refine S.done ?_;simp only [D6,go_sem,Nat.reduceBEq];exact p8.out rfl (Imp.tup (by repeat' first|exact j3.nil|exact Imp.refl rfl|apply j3.cons)) rfl)
theorem b9N (w:Wk) (s:Stt) (ls:List (List Cl)) (us:List (List Nm.Rt)) (hwb:Wb 1073741824 w) (hsb:Stb 1073741824 s) (hst:J3 w s=0) (h:ls.length ≠ w.arms.length \/ us.length ≠ w.arms.length) :
  FZ 6 [w.c,s.c,H7 ls,wss us] (.tup [.v (.slice none 0 0),ints 1]):=by
 refine kW Tryz.func6 (by cbv) (by rfl) fun w' O hw=>?_;have h0:=a9j w s hwb hsb;rw [hst] at h0;clear hwb hsb hst;simp only [j4,TT,II,OA,OB,OC,MM,LL,VV,FF,MG,VG,FG];simp only [Wk.c,Wk.enc,Stt.c,Stt.enc,ams,wls,pts,sls,gts,E8,frs,bls,vts,H7,cls,wss,rts,sb,ints] at h0 ⊢;(repeat first|refine uA ?_|(apply uK;· first|omega|(intros;simp_all<;>omega))|simp (disch:=omega) only [go_sem,Nat.reduceBEq,Nat.reduceAdd]|(apply uD h0;exact tz hw;rfl));refine S.cond rfl (fun hc=>by simp at hc) (fun hc=>?_);clear h0;(repeat first|refine uA ?_|(apply uK;· first|omega|(intros;simp_all<;>omega))|simp (disch:=omega) only [go_sem,Nat.reduceBEq,Nat.reduceAdd,c8r]);refine S.cond rfl (fun hc=>?_) (fun hc=>?_)
 ·(repeat first|refine uA ?_|(apply uK;· omega)|simp (disch:=omega) only [go_sem]);(refine S.done ?_;simp only [D6,go_sem,Nat.reduceBEq];exact p8.out rfl (Imp.tup (by repeat' first|exact j3.nil|exact Imp.refl rfl|apply j3.cons)) rfl)
 ·exfalso;by_cases k1:ls.length=w.arms.length<;>by_cases k2:us.length=w.arms.length<;>simp [k1,k2] at hc h<;>omega
theorem c0g (w:Wk) (s:Stt) (ls:List (List Cl)) (us:List (List Nm.Rt)) (hwb:Wb 1048576 w) (hsb:Stb 1048576 s) (hls:∀ l ∈ ls,l.length<=1048576) (hus:Wsb 1048576 us) :
 FZ 6 [w.c,s.c,H7 ls,wss us] (.tup [O7 (a5R w s ls us),ints (a0K w s ls us)]):=by
 have hnil:∀ e:Int,FZ 6 [w.c,s.c,H7 ls,wss us] (.tup [.v (.slice none 0 0),ints e])->FZ 6 [w.c,s.c,H7 ls,wss us] (.tup [O7 [],ints e]):=
  fun e h=>h.imp rfl (Imp.tup (j3.cons Imp.I9 (j3.cons (Imp.refl rfl) j3.nil))) rfl
 unfold a5R;by_cases hst:J3 w s=0
 ·have hE:a0K w s ls us=if ls.length ≠ w.arms.length \/ us.length ≠ w.arms.length then 1 else lsE ls:=by
   unfold a0K;rw [if_neg (fun h=>h hst)]
  by_cases hn:ls.length ≠ w.arms.length \/ us.length ≠ w.arms.length
  ·rw [if_pos hn] at hE;rw [hE,if_neg (by decide)];exact hnil _ (b9N w s ls us (hwb.m rfl) (hsb.m rfl) hst hn)
  ·rw [if_neg hn] at hE;rw [hE];have hl:ls.length=w.arms.length:=by omega
   have hu:us.length=w.arms.length:=by omega
   have ho:=a7i hst;have hg:=a7y hst;refine b8t w s ls us (a7A w s ls us) (hwb.m rfl) (hsb.m rfl) hst hl hu (b5R hst hl hu) (by have:=ho.big;omega) (fun l h=>c8y (hls l h) (by decide)) fun hE n l u r gl gu gr=>?_;have hn1:=(c8v.1 gl).1;have ga:=c8q (show n < w.arms.length by omega);have gx:=c8q (show n < s.arms.length by have:=ho.arms;omega);generalize w.arms[n]'_=a at ga;generalize s.arms[n]'_=x at gx;rw [b6N ga gx gl gu] at gr;cases gr;have hi:=c0C hsb hst ga gx
   have h:=c0q w s n a x l u (s.people.map ptV) hwb ga gx hi.arm hi.h1 hi.h2 hi.q (c8y (hus.2 u (c8t gu)).1 (by decide)) hi.qb (hus.2 u (c8t gu)).2 (c8y (b4M hE l (c8t gl)).1 (by decide)) (a7c hg) (b2X hsb hg) (by rw [c8r];have:=ho.people;omega) ho.gates (by have:=ho.big;omega) (by have:=ho.big;omega);rwa [b5k ho.works hi.arm hi.q] at h
 ·have hE:a0K w s ls us=J3 w s:=by
   unfold a0K;rw [if_pos hst]
  rw [hE,if_neg hst];exact hnil _ (b9Q w s ls us (hwb.m rfl) (hsb.m rfl) hst)
theorem b2s:FZ 4 [] (.v (.bool true)):=by
 refine kW Tryz.func4 (by cbv) (by rfl) fun w' O hw=>?_;obtain ⟨ha,hs⟩:=c6y;have h0:=c0O a5K ha hs;have hn:Q8.arms.length=1:=rfl;have h1:=c4H;have h2:=c5H;have h3:=c4N;have hsb:Stb 1048576 (R5 Q8):=c1s (k:=1048576) (by decide) a9p ha hs;have h4:=b4K Q8 (R5 Q8) [[]] [[Q 0 1]] a9p hsb (fun l hl=>by rw [List.mem_singleton.1 hl];exact c8w _) ⟨by decide,fun l hl=>by
  rw [List.mem_singleton.1 hl];exact ⟨by decide,fun r hr=>by rw [List.mem_singleton.1 hr];exact c6F.m rfl⟩⟩
 have hE:a0K Q8 (R5 Q8) [[]] [[Q 0 1]]=0:=by
  unfold a0K;rw [if_neg (fun h=>h h0),if_neg (by rw [hn];decide)];decide
 rw [show a5R Q8 (R5 Q8) [[]] [[Q 0 1]]=[3] by unfold a5R;rw [if_pos hE];decide +kernel,hE] at h4;have h5:=c1e [false] [false] (by decide) (by decide);rw [decide_eq_true rfl] at h5;have h6:=b1x [3] (by decide);clear h0 hn ha hs hsb hE;generalize R5 Q8=s at *;generalize Q8=w at *;generalize Q 0 1=q at *;obtain ⟨arms,walls,parts,slots,gates,walk⟩:=w;obtain ⟨tick,sarms,sparts,people,sgates⟩:=s;simp only [j4];simp only [Wk.c,Wk.enc,Stt.c,Stt.enc,ams,wls,pts,sls,gts,E8,frs,vts,bls,H7,cls,wss,rts,rcs,rc,O7,powC,sb,ints,c8K,c8O,Int.reduceEq,decide_false,decide_true] at h1 h2 h3 h4 h5 h6 ⊢;have h4:=FZ.c8k h4
 (repeat first|refine uI ?_|(apply uK;· first|omega|(intros;simp_all<;>omega))|simp (disch:=omega) only [go_sem,Nat.reduceBEq,Nat.reduceAdd,ww]|(refine uD h1 ?_ ?_ ?_;exact tz hw;rfl));refine S.X4 [.box 30 [.sl 12 (arms.map Am.enc),.sl 1 (walls.map fun s=>[.sl 6 (s.map Vt.enc)]),.sl 12 (parts.map Pt.enc),.sl 14 (slots.map Sl.enc),.sl 13 (gates.map Gt.enc),.v (.bool walk.neg),.v (.string (bs walk.num)),.v (.string (bs walk.den))],.box 36 [.v (.int .i64 tick),.sl 4 (sarms.map Ast.enc),.sl 10 (sparts.map Fr.enc),.sl 6 (people.map Vt.enc),.sl 1 (sgates.map fun b=>[.v (.bool b)])]] (by simp [Eng.F3,Eng.E5]) ?_
 (repeat first|refine uA ?_|(apply uK;· first|omega|(intros;simp_all<;>omega))|simp (disch:=omega) only [go_sem,Nat.reduceBEq,Nat.reduceAdd,ww,F3,Eng.E5,decide_true,decide_false]|(refine uD h2 ?_ ?_ ?_;exact tz hw;rfl)|(refine uD h3 ?_ ?_ ?_;exact tz hw;rfl)|(refine uD h4 ?_ ?_ ?_;exact tz hw;rfl)|(refine uC h5 ?_ ?_ ?_;exact rfl;focus (repeat' first|exact j3.nil|exact Imp.refl rfl|exact Imp.frz rfl rfl rfl|(refine Imp.K5 rfl rfl ?_ ?_;(focus ((try simp only [c8A,F3,Eng.E5,decide_true,decide_false]);omega));(focus first|rfl|assumption))|refine j3.cons ?_ ?_);done)|(refine uC h6 ?_ ?_ ?_;exact rfl;focus (repeat' first|exact j3.nil|exact Imp.refl rfl|exact Imp.frz rfl rfl rfl|(refine Imp.K5 rfl rfl ?_ ?_;(focus ((try simp only [c8A,F3,Eng.E5,decide_true,decide_false]);omega));(focus first|rfl|assumption))|refine j3.cons ?_ ?_);done))
 exact uS rfl rfl
theorem c0Y (w:Wk) (s:Stt) (ls:List (List Cl)) (us:List (List Nm.Rt)) (h:us.length<=1000000000):(a5R w s ls us).length<=1000000000:=by
 unfold a5R;split
 ·unfold a7A;rw [c8r,List.length_zip,List.length_zip,List.length_zip];omega
 ·exact c8w _
theorem b2w (w:Wk) (s:Stt) (ls:List (List Cl)) (us:List (List Nm.Rt)) (hwb:Wb 1048576 w) (hsb:Stb 1048576 s) (hls:∀ l ∈ ls,l.length<=1048576) (hus:Wsb 1048576 us) :
  FZ 3 [w.c,s.c,H7 ls,wss us] (.v (.bool true)):=by
 refine kW Tryz.func3 (by cbv) (by rfl) fun w' O hw=>?_;have h0:=b2s;have h1:=b4K w s ls us hwb hsb hls hus;have h2:=c0g w s ls us hwb hsb hls hus;have hn:=c0Y w s ls us (c8y hus.1 (by decide));generalize a5R w s ls us=R at *;generalize a0K w s ls us=e at *;have h3:=b1x R (by omega);clear hwb hsb hls hus;simp only [j4,TT,II,OA,OC,MM,LL,VV,MG];simp only [Wk.c,Wk.enc,Stt.c,Stt.enc,ams,wls,pts,sls,gts,E8,frs,bls,vts,H7,cls,wss,rts,O7,powC,sb,ints] at h1 h2 h3 ⊢;(repeat first|refine uA ?_|(apply uK;· first|omega|(intros;simp_all<;>omega))|simp (disch:=omega) only [go_sem,Nat.reduceBEq,Nat.reduceAdd]|(apply uD h0;exact tz hw;rfl));refine S.cond rfl (fun hc=>by simp at hc) (fun hc=>?_)
 (repeat first|refine uA ?_|(apply uK;· omega)|simp (disch:=omega) only [go_sem,Nat.reduceBEq]|(apply uD h1;exact tz hw;rfl));(repeat first|refine uA ?_|(apply uK;· omega)|simp (disch:=omega) only [go_sem,Nat.reduceBEq,decide_true,c8r]|(apply uB h3;exact rfl)|(apply uD h2;exact tz hw;rfl));refine S.cond rfl (fun hc=>by simp at hc) (fun hc=>?_);clear h0 h1 h2 h3;(repeat first|refine uA ?_|(apply uK;· omega)|simp (disch:=omega) only [go_sem,Nat.reduceBEq,c8r])
 refine S.loop (X:=Nat) (fun i=>⟨[(9,powC R),(10,O7 R),(51,powC R),(52,ints R.length),(53,ints i)],[]⟩) (fun i=>i<=R.length) (fun i=>R.length-i) 0 (c8w _) (by simp only [powC,O7,ints];exact (by repeat first|refine uA ?_|(refine ⟨?_,?_⟩;· first|rfl|simp [slot])|rfl|simp)) ?_;intro i hi;simp only [powC,O7,ints];(repeat first|refine uA ?_|(apply uK;· omega)|simp (disch:=omega) only [go_sem,Nat.reduceBEq]);(refine uJ rfl (fun hc=>?_) fun hc=>?_)
 ·have hi':i < R.length:=by omega
  have hg:=c8q hi';generalize R[i]=r at hg;have hil:(i:Int) < R.length:=by omega
  (repeat first|refine uA ?_|(apply uK;· omega)|simp (disch:=omega) only [go_sem,Nat.reduceBEq,hg,c8s,c8r,c8x,c8u,hil]);refine S.cond rfl (fun hc=>by simp at hc) (fun hc=>?_);(repeat first|refine uA ?_|(apply uK;· omega)|simp (disch:=omega) only [go_sem,Nat.reduceBEq,ww]);refine S.next (i+1) (by omega) (by omega) (by repeat first|refine uA ?_|(refine ⟨?_,?_⟩;· first|rfl|simp [slot])|rfl|simp)
 ·(repeat first|refine uA ?_|(apply uK;· omega)|simp (disch:=omega) only [go_sem]);exact uS rfl rfl
open Go Go.RowKit Go.ChangeShapes Go.WideShapes Eng
theorem c0K {H:Type} {l:List (DataW H)} (hk:Rows.uptoSmall H l=true):Rows.uptoBulkAll l<=1048576:=of_decide_eq_true hk
theorem c1I {H:Type} (l r:List (DataW H)):Rows.uptoBulkAll (l++r)=Rows.uptoBulkAll l+Rows.uptoBulkAll r:=by
 induction l with
 | nil=>simp [Rows.uptoBulkAll]
 | cons x l ih=>simp only [List.cons_append,Rows.uptoBulkAll,ih];omega
def noB:Nat->Prop:=fun _=>False
section
variable {H:Type} {enc:TypeId × Value->H} {P:Program} {W:World}
def Opens (enc:TypeId × Value->H) (P:Program) (W:World) (t:TypeId) {α:Type} (tc:α->List C) (ok:α->Prop) (ms:α->Nat):Prop:=
 ∀ (fuel:Nat) (cs:List Value) (x:DataW H × List MemPlace),DataW.trod enc P W 0 (fun _=>true) true fuel t cs=some x->∃ a:α,FzL W noB (tc a) cs/\(∀ u ∈ cs,u.oneCell'=true)/\ok a/\ms a<=Rows.uptoBulk x.1
def I64 (n:Int):Prop:=-9223372036854775808<=n/\n<=9223372036854775807
theorem b7g {t:TypeId} (ht:P.underlying t=some .bool):Opens enc P W t (fun b:Bool=>[.v (.bool b)]) (fun _=>True) fun _=>1:=by
 intro fuel cs x h;obtain ⟨b,rfl,rfl⟩:=DataW.trod_bool ht h;exact ⟨b,by simp [FzL,Fz],by simp [Value.oneCell'],trivial,by simp [Rows.uptoBulk]⟩
theorem b8Q {t:TypeId} (ht:P.underlying t=some (.int .i64)):Opens enc P W t (fun n:Int=>[.v (.int .i64 n)]) I64 fun _=>1:=by
 intro fuel cs x h;obtain ⟨n,rfl,rfl,hw⟩:=DataW.trod_int ht h;refine ⟨n,by simp [FzL,Fz],by simp [Value.oneCell'],?_,by simp [Rows.uptoBulk]⟩;simpa [Lit.wf,IntKind.min,IntKind.max,IntKind.signed,IntKind.bits,I64] using hw
theorem c0k {t:TypeId} (ht:P.underlying t=some .string):Opens enc P W t (fun s:ByteArray=>[.v (.string s)]) (fun s=>s.size<=9223372036854775807) fun s=>s.size+1:=by
 intro fuel cs x h;obtain ⟨s,rfl,rfl,hw⟩:=DataW.trod_string ht h;refine ⟨s,by simp [FzL,Fz],by simp [Value.oneCell'],hw,?_⟩;have:s.data.toList.length=s.size:=by cases s;simp [ByteArray.size]
 simp only [Rows.uptoBulk,this];omega
theorem Opens.imp {t:TypeId} {α β:Type} {tc:α->List C} {ok:α->Prop} {ms:α->Nat} {tc':β->List C} {ok':β->Prop} {ms':β->Nat} (h:Opens enc P W t tc ok ms)
  (f:∀ a,ok a->∃ b,tc a=tc' b/\ok' b/\ms' b<=ms a):Opens enc P W t tc' ok' ms':=by
 intro fuel cs x hx;obtain ⟨a,h0,h01,h1,h2⟩:=h fuel cs x hx;obtain ⟨b,h3,h4,h5⟩:=f a h1;exact ⟨b,by rw [<- h3];exact h0,h01,h4,c8y h5 h2⟩
theorem b8X {w:World} {O:Nat->Prop} {q:List C} {vs:List Value} {ad:Addr} {j:Nat} (hF:FzL w O q vs) (h1:∀ u ∈ vs,u.oneCell'=true) (hc:∀ i v,vs[i]?=some v->w.cell? (ad.add (j+i))=some v):FzA w O q ad j:=FzA.of hF h1 hc
theorem M6 {t e:TypeId} {α:Type} {tc:α->List C} {ok:α->Prop} {ms:α->Nat} {sz:Nat} (ht:P.underlying t=some (.slice e)) (hc:P.cellsOf e=sz) (hsz:0 < sz) (hlen:∀ a,(tc a).length=sz)
  (he:Opens enc P W e tc ok ms):Opens enc P W t (fun xs:List α=>[.sl sz (xs.map tc)]) (fun xs=>∀ a ∈ xs,ok a) fun xs=>1+(xs.map ms).sum:=by
 intro fuel cs x h;rcases Deep.open_slice ht h with ⟨rfl,rfl⟩|⟨a,len,cap,m,n,D,Pl,rfl,_,hl,hm,hmm,rfl,hx⟩
 ·refine ⟨[],?_,by simp [Value.oneCell'],(fun a ha=>by cases ha),by simp [Rows.uptoBulk]⟩;simp only [FzL,Fz];exact ⟨_,_,rfl,⟨none,0,rfl,c8B _,c8w _,fun h=>by simp at h⟩,rfl⟩
 ·have hlm:len<=m:=by rw [hmm];split<;>omega
  have key:∀ i,i < len->∃ (y:α) (vs:List Value),W.cells? 0 (a.add (i*sz)) sz=some vs/\FzL W noB (tc y) vs/\(∀ u ∈ vs,u.oneCell'=true)/\ok y/\ms y<=Rows.uptoBulk (D i):=by
   intro i hi;obtain ⟨cs',h1,h2⟩:=hx i (by omega);obtain ⟨y,h31,h32,h3,h4⟩:=he _ _ _ h2;rw [hc] at h1;exact ⟨y,cs',h1,h31,h32,h3,h4⟩
  have build:∀ k,k<=len->∃ xs:List α,xs.length=k/\(∀ i y,xs[i]?=some y->∃ vs,W.cells? 0 (a.add (i*sz)) sz=some vs/\FzL W noB (tc y) vs/\(∀ u ∈ vs,u.oneCell'=true)/\ok y)/\(xs.map ms).sum<=Rows.uptoBulkAll ((List.range k).map D):=by
   intro k
   induction k with
   | zero=>intro _;exact ⟨[],rfl,(fun i y h=>by simp at h),by simp⟩
   | succ k ih=>
    intro hk;obtain ⟨xs,h1,h2,h3⟩:=ih (by omega);obtain ⟨y,vs,h4,h41,h42,h5,h6⟩:=key k (by omega);refine ⟨xs++[y],by simp [h1],fun i z hz=>?_,?_⟩
    ·rcases c8N i xs.length with hlt|hge
     ·rw [c8H hlt] at hz;exact h2 i z hz
     ·rw [c8M hge] at hz;have:i-xs.length=0:=by
       rcases c8Q (i-xs.length) with h0|h0
       ·exact h0
       ·obtain ⟨d,hd⟩:∃ d,i-xs.length=d+1:=⟨i-xs.length-1,by omega⟩
        rw [hd] at hz;simp at hz
      rw [this] at hz;simp at hz;subst hz;have:i=k:=by omega
      subst this;exact ⟨vs,h4,h41,h42,h5⟩
    ·rw [c9i,List.sum_append,List.range_succ,c9i,c1I];simp only [c8K,c8O,List.sum_cons,List.sum_nil,Rows.uptoBulkAll];omega
  obtain ⟨xs,h1,h2,h3⟩:=build len (c8B _);have hcell:∀ (i:Nat) (y:α),xs[i]?=some y->(tc y).length=sz/\FzA W noB (tc y) a (i*sz):=by
   intro i y hy;obtain ⟨vs,h4,h41,h42,_⟩:=h2 i y hy;obtain ⟨_,h5,h6⟩:=World.cells?_some h4;refine ⟨hlen _,b8X h41 h42 fun j v hv=>?_⟩;have hj:j < sz:=by
    have:=(c8v.1 hv).1;rwa [h5] at this
   have h7:=h6 j hj;rw [hv,Deep.add_add] at h7;exact h7
  refine ⟨xs,?_,by simp [Value.oneCell'],fun y hy=>?_,?_⟩
  ·simp only [FzL];refine ⟨_,_,rfl,?_,rfl⟩;simp only [Fz];refine ⟨some a,cap,by simp [h1],by simp;omega,hm,fun h0=>⟨a,rfl,?_,(fun h=>h),FzE.of fun k q hq=>?_⟩⟩
   ·have hi:0 < xs.length:=by simpa using h0
    obtain ⟨hq1,hq2⟩:=hcell 0 xs[0] (c8q hi);have h9:0 < (tc xs[0]).length:=by omega
    match htc:tc xs[0],h9,hq2 with
    | c::cs,_,hq2=>
     simp only [FzA] at hq2;obtain ⟨⟨v,hv,_⟩,_⟩:=hq2;have h10:=block_lt_of_cell hv;rwa [add_block] at h10
   ·rw [c8x] at hq;obtain ⟨y,hy,rfl⟩:=Option.map_eq_some_iff.1 hq;rw [c8Z];exact hcell k y hy
  ·obtain ⟨i,hi⟩:=List.mem_iff_getElem?.1 hy;exact (h2 i y hi).choose_spec.2.2.2
  ·simp only [Rows.uptoBulk];omega
def U2 (P:Program):List Field->Nat->Option Nat
 | [],n=>some n
 | f::fs,n=>if f.offset=n then U2 P fs (n+P.cellsOf f.type) else none
def Parts (enc:TypeId × Value->H) (P:Program) (W:World) (n:Nat):List TypeId->List (List Value)->List (DataW H × List MemPlace)->Prop
 | [],cs,ys=>cs=[]/\ys=[]
 | f::fs,cs,ys=>∃ c cr y yr,cs=c::cr/\ys=y::yr/\DataW.trod enc P W 0 (fun _=>true) true n f c=some y/\Parts enc P W n fs cr yr
theorem b5q {t:TypeId} {fs:Array Field} {fuel:Nat} {cs:List Value} {x:DataW H × List MemPlace} (hu:P.underlying t=some (.struct fs)) (hc:U2 P fs.toList 0=some (P.cellsOf t)) (h:DataW.trod enc P W 0 (fun _=>true) true fuel t cs=some x) :
 ∃ (n:Nat) (ps:List (List Value)) (ys:List (DataW H × List MemPlace)),cs=ps.flatten/\x=(.agg (ys.map (·.1)),ys.flatMap (·.2))/\Parts enc P W n (fs.toList.map (·.type)) ps ys:=by
 obtain ⟨xs,n,rfl,rfl,hlen,hxl,hf⟩:=DataW.trod_struct hu h;have gen:∀ (l:List Field) (off tot:Nat) (zs:List (DataW H × List MemPlace)),U2 P l off=some tot->zs.length=l.length->(∀ (i:Nat) (f:Field),l[i]?=some f->DataW.trod enc P W 0 (fun _=>true) true n f.type ((cs.drop f.offset).take (P.cellsOf f.type))=zs[i]?) ->
  off<=tot/\∃ ps,(cs.drop off).take (tot-off)=ps.flatten/\Parts enc P W n (l.map (·.type)) ps zs:=by
  intro l
  induction l with
  | nil=>
   intro off tot zs hc hl _;simp only [U2,Option.some.injEq] at hc;subst hc;have:zs=[]:=List.length_eq_zero_iff.1 hl;subst this;exact ⟨c8B _,[],by simp,rfl,rfl⟩
  | cons f l ih=>
   intro off tot zs hc hl hf;simp only [U2] at hc;split at hc
   ·rename_i ho;cases zs with
    | nil=>simp at hl
    | cons z zs=>
     obtain ⟨h1,ps,h2,h3⟩:=ih _ tot zs hc (by simpa using hl) fun i g hg=>by have:=hf (i+1) g (by simpa using hg);simpa using this
     have h0:=hf 0 f rfl;rw [ho] at h0;refine ⟨by omega,((cs.drop off).take (P.cellsOf f.type))::ps,?_,_,_,_,_,rfl,rfl,h0,h3⟩;rw [List.flatten_cons,<- h2,<- List.drop_drop];have e:tot-off=P.cellsOf f.type+(tot-(off+P.cellsOf f.type)):=by omega
     rw [e,List.take_add]
   ·cases hc
 obtain ⟨_,ps,h2,h3⟩:=gen fs.toList 0 _ xs hc (by simpa using hxl) fun i f hi=>hf i f (by simpa using hi);refine ⟨n,ps,xs,?_,rfl,h3⟩;rw [<- h2,Nat.sub_zero,List.drop_zero,<- hlen,c8J]
theorem FzL.app {w:World} {O:Nat->Prop}:∀ {cs ds:List C} {vs us:List Value},FzL w O cs vs->FzL w O ds us->FzL w O (cs++ds) (vs++us)
 | [],ds,vs,us,h,k=>by simp only [FzL] at h;subst h;simpa using k
 | c::cs,ds,vs,us,h,k=>by
  simp only [FzL] at h;obtain ⟨y,ys,rfl,h1,h2⟩:=h;exact ⟨y,ys++us,rfl,h1,FzL.app h2 k⟩
def b0p (enc:TypeId × Value->H) (P:Program) (W:World) (ts:List TypeId) {α:Type} (tc:α->List C) (ok:α->Prop) (ms:α->Nat):Prop:=
 ∀ (n:Nat) (ps:List (List Value)) (ys:List (DataW H × List MemPlace)),Parts enc P W n ts ps ys->∃ a:α,FzL W noB (tc a) ps.flatten/\(∀ u ∈ ps.flatten,u.oneCell'=true)/\ok a/\ms a<=Rows.uptoBulkAll (ys.map (·.1))
theorem O6:b0p enc P W [] (fun _:Unit=>[]) (fun _=>True) fun _=>0:=by
 rintro n ps ys ⟨rfl,rfl⟩;exact ⟨(),by simp [FzL],by simp,trivial,c8w _⟩
theorem p9 {t:TypeId} {ts:List TypeId} {α β:Type} {tc:α->List C} {ok:α->Prop} {ms:α->Nat} {tc':β->List C} {ok':β->Prop} {ms':β->Nat} (h:Opens enc P W t tc ok ms) (h':b0p enc P W ts tc' ok' ms') :
  b0p enc P W (t::ts) (fun p:α × β=>tc p.1++tc' p.2) (fun p=>ok p.1/\ok' p.2) fun p=>ms p.1+ms' p.2:=by
 rintro n ps ys ⟨c,cr,y,yr,rfl,rfl,h1,h2⟩;obtain ⟨a,a1,a2,a3,a4⟩:=h _ _ _ h1;obtain ⟨b,b1,b2,b3,b4⟩:=h' _ _ _ h2;refine ⟨(a,b),by rw [List.flatten_cons];exact FzL.app a1 b1,fun u hu=>?_,⟨a3,b3⟩,?_⟩
 ·rw [List.flatten_cons] at hu;rcases List.mem_append.1 hu with hu|hu
  ·exact a2 u hu
  ·exact b2 u hu
 ·simp only [c8K,Rows.uptoBulkAll];omega
theorem K3 {t:TypeId} {fs:Array Field} {ts:List TypeId} {α:Type} {tc:α->List C} {ok:α->Prop} {ms:α->Nat} (hu:P.underlying t=some (.struct fs)) (hts:fs.toList.map (·.type)=ts) (hc:U2 P fs.toList 0=some (P.cellsOf t)) (h:b0p enc P W ts tc ok ms) :
  Opens enc P W t tc ok fun a=>ms a+1:=by
 intro fuel cs x hx;obtain ⟨n,ps,ys,rfl,rfl,hp⟩:=b5q hu hc hx;rw [hts] at hp;obtain ⟨a,a1,a2,a3,a4⟩:=h _ _ _ hp;exact ⟨a,a1,a2,a3,by simp only [Rows.uptoBulk];omega⟩
theorem c1q {f:Func} {s:ChangeSpec} {apart fresh handsOn again:Bool} {W':World} {args:Array Value} {ds gs:List (DataW H)} {before:List MemPlace} {tb:TypeId} (hl:laidOutB P=true) (hpar:∀ t ∈ f.params.toList,P.readableRec t=true/\t < P.types.size)
  (hrt:f.resultTypes=#[tb]) (htb:P.underlying tb=some .bool) (hv:s.vars=[]) (hfn:s.fn H (ds++gs)={ results:=[.lit (.bool true)],args:=ds }) (hW:DataW.Whole enc P f.params.toList s.vars apart W args.toList ds gs before) (hb:Below W.heap.size W W') :
  s.post enc P f apart fresh handsOn again W args (.bool true) W':=by
 have hlt:∀ p ∈ before,p.block < W.heap.size:=fun p hp=>hW.lt p hp;obtain ⟨p,q,hA,hV,hps,hz,hn⟩:=id hW;rw [hv] at hV;obtain ⟨rfl,rfl⟩:=trodVars_none hV;rw [List.append_nil] at hps;subst hps;have all:∀ (sp:Nat->Bool) (ts:List TypeId) (vs:List Value) (es:List (DataW H)) (pl:List MemPlace),(∀ t ∈ ts,P.readableRec t=true/\t < P.types.size)->(∀ x ∈ pl,x.block < W.heap.size/\sp x.block=true)->DataW.TrodAll enc P W 0 (fun _=>true) true ts vs es pl->DataW.TrodAll enc P W' 0 sp true ts vs es pl:=by
  intro sp ts
  induction ts with
  | nil=>
   intro vs es pl _ _ h;cases vs<;>cases es<;>simp only [DataW.TrodAll] at h ⊢<;>exact h
  | cons t ts ih=>
   intro vs es pl hts hpl h;cases vs<;>cases es<;>simp only [DataW.TrodAll] at h ⊢;obtain ⟨p1,p2,h1,h2,rfl⟩:=h;refine ⟨p1,p2,?_,ih _ _ _ (fun t ht=>hts t (List.mem_cons_of_mem _ ht)) (fun x hx=>hpl x (List.mem_append_right _ hx)) h2,rfl⟩;exact WideElems.Trod_stays hl (hts t (List.mem_cons_self ..)).1 (hts t (List.mem_cons_self ..)).2 h1 (fun x hx=>hb.same (hpl x (List.mem_append_left _ hx)).1) fun x hx=>(hpl x (List.mem_append_left _ hx)).2
 have hres:∀ (b:Nat) (sp:Nat->Bool) (hd:Bool),DataW.TrodAll enc P W' b sp hd f.resultTypes.toList ((Value.bool true).resultList f.resultTypes.size) (s.fn H (ds++[])).results []:=by
  intro b sp hd;rw [hrt,hfn];exact trodAll_cons_mk (shut_bool htb true) trodAll_mk0
 have hargs:∀ sp:Nat->Bool,(∀ p' ∈ before,sp p'.block=true)->DataW.TrodAll enc P W' 0 sp true f.params.toList args.toList (s.fn H (ds++[])).args before:=fun sp hsp=>by
  rw [hfn];exact all sp _ _ _ _ hpar (fun x hx=>⟨hlt x hx,hsp x hx⟩) hA
 have hvars:∀ sp:Nat->Bool,DataW.TrodVars enc P W' sp s.vars (s.fn H (ds++[])).vars []:=fun sp=>by rw [hv,hfn];rfl
 have hold:∀ p' ∈ before,(fun b=>decide (b < W.heap.size)) p'.block=true:=fun p' hp=>by simpa using hlt p' hp
 refine ⟨ds,[],before,[],before,[],hW,hres _ _ _,hargs _ hold,hvars _,World.keptBut_mono (fun p' hp=>⟨hp,?_⟩) (hb.frame (· ∈ before)),fun _=>⟨ok_one hrt rfl (okWide_bool_mk htb _),_,_,([]++before)++[],⟨[]++before,[],trodAll_append (hargs _ (fun _ _=>rfl)) (hres _ _ _),hvars _,rfl,?_,?_⟩,?_⟩⟩
 ·exact Or.inr (by simpa using hp)
 ·intro b off hp;have hin:MemPlace.cell b off ∈ before:=by simpa using hp
  rw [hb.frozen (hlt _ hin)];exact hz b off hin
 ·intro ha;have:=hn ha;simpa using this
 ·intro p' hp _;simpa using hp
end
open Go Go.RowKit Go.ChangeShapes Go.WideShapes Go.ChangeAt Eng
set_option maxRecDepth 10000
theorem c1h:ownKnob Tryz.prog.godebug=none:=by kernel_rfl
theorem c1R:laidOutB Tryz.prog=true:=by kernel_rfl
theorem gDb:Tryz.prog.globalNamed "math/bits.deBruijn64tab" = some 1:=by kernel_rfl
theorem c3Q:(Tryz.prog.globals[1]?).map (·.type)=some 290:=by kernel_rfl
theorem c2G:Tryz.prog.cellsOf 290=64:=by kernel_rfl
theorem c4t:Tryz.prog.cellsOf 5=1:=by kernel_rfl
theorem c0U:Tryz.prog.underlying 290=some (.array 64 5):=by kernel_rfl
theorem c6e:Tryz.prog.underlying 5=some (.int .u8):=by kernel_rfl
theorem c4j:(Rows.laid_math_bits_deBruijn64tab:DataW Unit)=Lib.tabData .u8 (Lib.deBruijn64tab.map fun n:Nat=>(n:Int)):=by rfl
theorem c7m {W:World} {rest:List (String × DataW Unit)} (h:laidMet Tryz.prog (("math/bits.deBruijn64tab",Rows.laid_math_bits_deBruijn64tab)::rest) W):Wz W:=by
 rw [c4j] at h;have ht:=Lib.tabIs_of_head gDb c3Q c0U c6e c4t c2G h;intro j hj;have:=ht.cell gDb j (by rw [c8r];exact hj);rw [this];congr 2;rw [c8C,c8C,c8x,c8q hj];rfl
section
variable {H:Type} {enc:TypeId × Value->H} {W:World}
end
noncomputable def laidWorld (os:Os):World:=World.doorLaid Tryz.prog 400 os
def R64 (n:Int):Prop:=-9223372036854775808<=n/\n<=9223372036854775807
def Aok (x:Ast):Prop:=R64 x.holds
def Sok (s:Stt):Prop:=R64 s.tick/\∀ x ∈ s.arms,Aok x
theorem b5Z {α:Type} {f:α->Nat}:∀ {l:List α} {x:α},x ∈ l->f x<=(l.map f).sum
 | y::l,x,h=>by
  rw [c8K,List.sum_cons];rcases List.mem_cons.1 h with rfl|h
  ·omega
  ·have:=b5Z (f:=f) h;omega
theorem b6K {α:Type} {f:α->Nat} (hf:∀ x,1<=f x):∀ (l:List α),l.length<=(l.map f).sum
 | []=>c8B _
 | y::l=>by
  have h1:=hf y;have h2:=b6K hf l;rw [c8K,List.sum_cons,c8R];omega
def rtM (a:Nm.Rt):Nat:=3+a.num.length+a.den.length
def vtM (v:Vt):Nat:=rtM v.x+rtM v.y
def frM (f:Fr):Nat:=rtM f.x+rtM f.y+rtM f.t
def lsM {α:Type} (f:α->Nat) (l:List α):Nat:=1+(l.map f).sum
def lkM (l:Lk):Nat:=rtM l.length+rtM l.low+rtM l.high+rtM l.speed+rtM l.brake+lsM vtM l.shape
def amM (a:Am):Nat:=a.name.length+frM a.base+lsM lkM a.links
def ptM (p:Pt):Nat:=p.name.length+lsM vtM p.shape+frM p.grasp
def slM (s:Sl):Nat:=s.name.length+frM s.frame+rtM s.within
def gtM (g:Gt):Nat:=g.name.length+vtM g.low+vtM g.high
def wkM (w:Wk):Nat:=lsM amM w.arms+lsM (lsM vtM) w.walls+lsM ptM w.parts+lsM slM w.slots+lsM gtM w.gates+rtM w.walk
def asM (x:Ast):Nat:=lsM rtM x.q+lsM rtM x.v+1
def stM (s:Stt):Nat:=lsM asM s.arms+lsM frM s.parts+lsM vtM s.people+lsM (fun _=>1) s.gates+1
theorem a2S {a:Nm.Rt} {k:Nat} (h:rtM a<=k):Rb k a:=by unfold rtM at h;exact ⟨by omega,by omega⟩
theorem c1v {a:Vt} {k:Nat} (h:vtM a<=k):Vb k a:=by unfold vtM at h;exact ⟨a2S (by omega),a2S (by omega)⟩
theorem b7S {a:Fr} {k:Nat} (h:frM a<=k):Fb k a:=by unfold frM at h;exact ⟨a2S (by omega),a2S (by omega),a2S (by omega)⟩
theorem a2A {α:Type} {f:α->Nat} {l:List α} {k:Nat} (hf:∀ x,1<=f x) (h:lsM f l<=k):l.length<=k/\∀ x ∈ l,f x<=k:=by
 unfold lsM at h;have:=b6K hf l;exact ⟨by omega,fun x hx=>by have:=b5Z (f:=f) hx;omega⟩
theorem a4M (a:Nm.Rt):1<=rtM a:=by unfold rtM;omega
theorem b6l (a:Vt):1<=vtM a:=by have:=a4M a.x;unfold vtM;omega
theorem a8n (a:Fr):1<=frM a:=by have:=a4M a.x;unfold frM;omega
theorem b1d {α:Type} (f:α->Nat) (l:List α):1<=lsM f l:=by unfold lsM;omega
theorem c4c (a:Lk):1<=lkM a:=by have:=a4M a.length;unfold lkM;omega
theorem c4q (a:Am):1<=amM a:=by have:=a8n a.base;unfold amM;omega
theorem c4J (a:Pt):1<=ptM a:=by have:=a8n a.grasp;unfold ptM;omega
theorem c4B (a:Sl):1<=slM a:=by have:=a8n a.frame;unfold slM;omega
theorem c3W (a:Gt):1<=gtM a:=by have:=b6l a.low;unfold gtM;omega
theorem c3x (a:Ast):1<=asM a:=by unfold asM;omega
theorem b2D {l:List Vt} {k:Nat} (h:lsM vtM l<=k):Vbs k l:=by
 obtain ⟨h1,h2⟩:=a2A b6l h;exact ⟨h1,fun x hx=>c1v (h2 x hx)⟩
theorem c8h {w:Wk} {k:Nat} (h:wkM w<=k):Wb k w:=by
 unfold wkM at h;obtain ⟨a1,a2⟩:=a2A c4q (show lsM amM w.arms<=k by omega);obtain ⟨b1,b2⟩:=a2A (b1d vtM) (show lsM (lsM vtM) w.walls<=k by omega);obtain ⟨c1,c2⟩:=a2A c4J (show lsM ptM w.parts<=k by omega);obtain ⟨d1,d2⟩:=a2A c4B (show lsM slM w.slots<=k by omega);obtain ⟨e1,e2⟩:=a2A c3W (show lsM gtM w.gates<=k by omega);refine ⟨⟨a1,fun x hx=>?_⟩,⟨b1,fun x hx=>b2D (b2 x hx)⟩,⟨c1,fun x hx=>?_⟩,⟨d1,fun x hx=>?_⟩,⟨e1,fun x hx=>?_⟩,a2S (by omega)⟩
 ·have:=a2 x hx;unfold amM at this;obtain ⟨f1,f2⟩:=a2A c4c (show lsM lkM x.links<=k by omega);refine ⟨by omega,b7S (by omega),f1,fun l hl=>?_⟩;have:=f2 l hl;unfold lkM at this;exact ⟨a2S (by omega),a2S (by omega),a2S (by omega),a2S (by omega),a2S (by omega),b2D (by omega)⟩
 ·have:=c2 x hx;unfold ptM at this;exact ⟨by omega,b2D (by omega),b7S (by omega)⟩
 ·have:=d2 x hx;unfold slM at this;exact ⟨by omega,b7S (by omega),a2S (by omega)⟩
 ·have:=e2 x hx;unfold gtM at this;exact ⟨by omega,c1v (by omega),c1v (by omega)⟩
theorem c7T {s:Stt} {k:Nat} (h:stM s<=k):Stb k s:=by
 unfold stM at h;obtain ⟨a1,a2⟩:=a2A c3x (show lsM asM s.arms<=k by omega);obtain ⟨b1,b2⟩:=a2A a8n (show lsM frM s.parts<=k by omega);obtain ⟨c1,_⟩:=a2A (fun _=>c8B _) (show lsM (fun _=>1) s.gates<=k by omega);refine ⟨⟨a1,fun x hx=>?_⟩,⟨b1,fun x hx=>b7S (b2 x hx)⟩,b2D (by omega),c1⟩;have:=a2 x hx;unfold asM at this;obtain ⟨d1,d2⟩:=a2A a4M (show lsM rtM x.q<=k by omega);obtain ⟨e1,e2⟩:=a2A a4M (show lsM rtM x.v<=k by omega);exact ⟨⟨d1,fun r hr=>a2S (d2 r hr)⟩,e1,fun r hr=>a2S (e2 r hr)⟩
section
variable {H:Type} {enc:TypeId × Value->H} {W:World}
theorem o_b:Opens enc Tryz.prog W 4 (fun b:Bool=>[.v (.bool b)]) (fun _=>True) fun _=>1:=b7g Tryz.underlying4
theorem o_i:Opens enc Tryz.prog W 3 (fun n:Int=>[.v (.int .i64 n)]) I64 fun _=>1:=b8Q Tryz.underlying3
theorem o_s:Opens enc Tryz.prog W 9 (fun l:List UInt8=>[sb l]) (fun _=>True) fun l=>l.length+1:=
 (c0k Tryz.underlying9).imp fun s _=>⟨s.data.toList,by simp only [sb,c4L],trivial,by have h:s.data.toList.length=s.size:=(by cases s;simp [ByteArray.size]);omega⟩
theorem b8v:∃ fs,Tryz.prog.underlying 28=some (.struct fs)/\fs.toList.map (·.type)=[4,9,9]/\U2 Tryz.prog fs.toList 0=some (Tryz.prog.cellsOf 28):=⟨_,Tryz.underlying28,rfl,by kernel_rfl⟩
theorem c2h:Tryz.prog.cellsOf 28=3:=by kernel_rfl
theorem a4Q:Opens enc Tryz.prog W 28 rcs (fun _=>True) rtM:=by
 obtain ⟨fs,h1,h2,h3⟩:=b8v;refine (K3 h1 h2 h3 (p9 o_b (p9 o_s (p9 o_s O6)))).imp ?_;rintro ⟨a,b,c,_⟩ hok;exact ⟨⟨a,b,c⟩,rfl,trivial,by simp only [rtM];omega⟩
theorem b9c:∃ fs,Tryz.prog.underlying 73=some (.struct fs)/\fs.toList.map (·.type)=[28,28]/\U2 Tryz.prog fs.toList 0=some (Tryz.prog.cellsOf 73):=⟨_,Tryz.underlying73,rfl,by kernel_rfl⟩
theorem c0Z:Tryz.prog.cellsOf 73=6:=by kernel_rfl
theorem b7N:Opens enc Tryz.prog W 73 Vt.enc (fun _=>True) vtM:=by
 obtain ⟨fs,h1,h2,h3⟩:=b9c;refine (K3 h1 h2 h3 (p9 a4Q (p9 a4Q O6))).imp ?_;rintro ⟨a,b,_⟩ hok;exact ⟨⟨a,b⟩,rfl,trivial,by simp only [vtM];omega⟩
theorem b9j:∃ fs,Tryz.prog.underlying 75=some (.struct fs)/\fs.toList.map (·.type)=[4,28]/\U2 Tryz.prog fs.toList 0=some (Tryz.prog.cellsOf 75):=⟨_,Tryz.underlying75,rfl,by kernel_rfl⟩
theorem c8f:Opens enc Tryz.prog W 75 (fun p:Bool × Nm.Rt=>.v (.bool p.1)::rcs p.2) (fun _=>True) fun p=>rtM p.2:=by
 obtain ⟨fs,h1,h2,h3⟩:=b9j;refine (K3 h1 h2 h3 (p9 o_b (p9 a4Q O6))).imp ?_;rintro ⟨a,b,_⟩ hok;exact ⟨⟨a,b⟩,rfl,trivial,by simp only;omega⟩
theorem b9F:∃ fs,Tryz.prog.underlying 77=some (.struct fs)/\fs.toList.map (·.type)=[73,75]/\U2 Tryz.prog fs.toList 0=some (Tryz.prog.cellsOf 77):=⟨_,Tryz.underlying77,rfl,by kernel_rfl⟩
theorem c1U:Tryz.prog.cellsOf 77=10:=by kernel_rfl
theorem b7f:Opens enc Tryz.prog W 77 Fr.enc (fun _=>True) frM:=by
 obtain ⟨fs,h1,h2,h3⟩:=b9F;refine (K3 h1 h2 h3 (p9 b7N (p9 c8f O6))).imp ?_;rintro ⟨⟨x,y⟩,⟨h,t⟩,_⟩ hok;exact ⟨⟨x,y,h,t⟩,rfl,trivial,by simp only [frM,vtM];omega⟩
theorem b2G:Opens enc Tryz.prog W 33 (fun l=>[vts l]) (fun _=>True) (lsM vtM):=
 (M6 Tryz.underlying33 c0Z (by decide) (fun _=>rfl) b7N).imp fun l hl=>⟨l,rfl,trivial,c8B _⟩
theorem b8r:Tryz.prog.cellsOf 33=1:=by kernel_rfl
theorem b9U:∃ fs,Tryz.prog.underlying 95=some (.struct fs)/\fs.toList.map (·.type)=[28,28,28,28,28,33]/\U2 Tryz.prog fs.toList 0=some (Tryz.prog.cellsOf 95):=⟨_,Tryz.underlying95,rfl,by kernel_rfl⟩
theorem c0L:Tryz.prog.cellsOf 95=16:=by kernel_rfl
theorem c8c:Opens enc Tryz.prog W 95 Lk.enc (fun _=>True) lkM:=by
 obtain ⟨fs,h1,h2,h3⟩:=b9U;refine (K3 h1 h2 h3 (p9 a4Q (p9 a4Q (p9 a4Q (p9 a4Q (p9 a4Q (p9 b2G O6))))))).imp ?_;rintro ⟨a,b,c,d,e,f,_⟩ hok;exact ⟨⟨a,b,c,d,e,f⟩,rfl,trivial,by simp only [lkM];omega⟩
theorem c7e:Opens enc Tryz.prog W 78 (fun l=>[lks l]) (fun _=>True) (lsM lkM):=
 (M6 Tryz.underlying78 c0L (by decide) (fun _=>rfl) c8c).imp fun l hl=>⟨l,rfl,trivial,c8B _⟩
theorem b9h:∃ fs,Tryz.prog.underlying 80=some (.struct fs)/\fs.toList.map (·.type)=[9,77,78]/\U2 Tryz.prog fs.toList 0=some (Tryz.prog.cellsOf 80):=⟨_,Tryz.underlying80,rfl,by kernel_rfl⟩
theorem c1X:Tryz.prog.cellsOf 80=12:=by kernel_rfl
theorem c7P:Opens enc Tryz.prog W 80 Am.enc (fun _=>True) amM:=by
 obtain ⟨fs,h1,h2,h3⟩:=b9h;refine (K3 h1 h2 h3 (p9 o_s (p9 b7f (p9 c7e O6)))).imp ?_;rintro ⟨a,b,c,_⟩ hok;exact ⟨⟨a,b,c⟩,rfl,trivial,by simp only [amM];omega⟩
theorem c7a:Opens enc Tryz.prog W 22 (fun l=>[ams l]) (fun _=>True) (lsM amM):=
 (M6 Tryz.underlying22 c1X (by decide) (fun _=>rfl) c7P).imp fun l hl=>⟨l,rfl,trivial,c8B _⟩
theorem c6H:Opens enc Tryz.prog W 23 (fun l=>[wls l]) (fun _=>True) (lsM (lsM vtM)):=
 (M6 Tryz.underlying23 b8r (by decide) (fun _=>rfl) b2G).imp fun l hl=>⟨l,rfl,trivial,c8B _⟩
theorem b8J:∃ fs,Tryz.prog.underlying 141=some (.struct fs)/\fs.toList.map (·.type)=[9,33,77]/\U2 Tryz.prog fs.toList 0=some (Tryz.prog.cellsOf 141):=⟨_,Tryz.underlying141,rfl,by kernel_rfl⟩
theorem c1k:Tryz.prog.cellsOf 141=12:=by kernel_rfl
theorem c7R:Opens enc Tryz.prog W 141 Pt.enc (fun _=>True) ptM:=by
 obtain ⟨fs,h1,h2,h3⟩:=b8J;refine (K3 h1 h2 h3 (p9 o_s (p9 b2G (p9 b7f O6)))).imp ?_;rintro ⟨a,b,c,_⟩ hok;exact ⟨⟨a,b,c⟩,rfl,trivial,by simp only [ptM];omega⟩
theorem c6T:Opens enc Tryz.prog W 24 (fun l=>[pts l]) (fun _=>True) (lsM ptM):=
 (M6 Tryz.underlying24 c1k (by decide) (fun _=>rfl) c7R).imp fun l hl=>⟨l,rfl,trivial,c8B _⟩
theorem b9B:∃ fs,Tryz.prog.underlying 143=some (.struct fs)/\fs.toList.map (·.type)=[9,77,28]/\U2 Tryz.prog fs.toList 0=some (Tryz.prog.cellsOf 143):=⟨_,Tryz.underlying143,rfl,by kernel_rfl⟩
theorem c1r:Tryz.prog.cellsOf 143=14:=by kernel_rfl
theorem c8a:Opens enc Tryz.prog W 143 Sl.enc (fun _=>True) slM:=by
 obtain ⟨fs,h1,h2,h3⟩:=b9B;refine (K3 h1 h2 h3 (p9 o_s (p9 b7f (p9 a4Q O6)))).imp ?_;rintro ⟨a,b,c,_⟩ hok;exact ⟨⟨a,b,c⟩,rfl,trivial,by simp only [slM];omega⟩
theorem c6Y:Opens enc Tryz.prog W 25 (fun l=>[sls l]) (fun _=>True) (lsM slM):=
 (M6 Tryz.underlying25 c1r (by decide) (fun _=>rfl) c8a).imp fun l hl=>⟨l,rfl,trivial,c8B _⟩
theorem b9M:∃ fs,Tryz.prog.underlying 103=some (.struct fs)/\fs.toList.map (·.type)=[73,73]/\U2 Tryz.prog fs.toList 0=some (Tryz.prog.cellsOf 103):=⟨_,Tryz.underlying103,rfl,by kernel_rfl⟩
theorem c8d:Opens enc Tryz.prog W 103 (fun p:Vt × Vt=>p.1.enc++p.2.enc) (fun _=>True) fun p=>vtM p.1+vtM p.2:=by
 obtain ⟨fs,h1,h2,h3⟩:=b9M;refine (K3 h1 h2 h3 (p9 b7N (p9 b7N O6))).imp ?_;rintro ⟨a,b,_⟩ hok;exact ⟨⟨a,b⟩,rfl,trivial,by simp only;omega⟩
theorem b8N:∃ fs,Tryz.prog.underlying 117=some (.struct fs)/\fs.toList.map (·.type)=[9,103]/\U2 Tryz.prog fs.toList 0=some (Tryz.prog.cellsOf 117):=⟨_,Tryz.underlying117,rfl,by kernel_rfl⟩
theorem c1T:Tryz.prog.cellsOf 117=13:=by kernel_rfl
theorem c7E:Opens enc Tryz.prog W 117 Gt.enc (fun _=>True) gtM:=by
 obtain ⟨fs,h1,h2,h3⟩:=b8N;refine (K3 h1 h2 h3 (p9 o_s (p9 c8d O6))).imp ?_;rintro ⟨a,⟨b,c⟩,_⟩ hok;exact ⟨⟨a,b,c⟩,rfl,trivial,by simp only [gtM];omega⟩
theorem c7B:Opens enc Tryz.prog W 26 (fun l=>[gts l]) (fun _=>True) (lsM gtM):=
 (M6 Tryz.underlying26 c1T (by decide) (fun _=>rfl) c7E).imp fun l hl=>⟨l,rfl,trivial,c8B _⟩
theorem b9z:∃ fs,Tryz.prog.underlying 30=some (.struct fs)/\fs.toList.map (·.type)=[22,23,24,25,26,28]/\U2 Tryz.prog fs.toList 0=some (Tryz.prog.cellsOf 30):=⟨_,Tryz.underlying30,rfl,by kernel_rfl⟩
theorem c7Y:Opens enc Tryz.prog W 30 Wk.enc (fun _=>True) wkM:=by
 obtain ⟨fs,h1,h2,h3⟩:=b9z;refine (K3 h1 h2 h3 (p9 c7a (p9 c6H (p9 c6T (p9 c6Y (p9 c7B (p9 a4Q O6))))))).imp ?_;rintro ⟨a,b,c,d,e,f,_⟩ hok;exact ⟨⟨a,b,c,d,e,f⟩,rfl,trivial,by simp only [wkM];omega⟩
theorem b7o:Opens enc Tryz.prog W 58 (fun l=>[rts l]) (fun _=>True) (lsM rtM):=
 (M6 Tryz.underlying58 c2h (by decide) (fun _=>rfl) a4Q).imp fun l hl=>⟨l,rfl,trivial,c8B _⟩
theorem b8D:∃ fs,Tryz.prog.underlying 70=some (.struct fs)/\fs.toList.map (·.type)=[58,58,4,3]/\U2 Tryz.prog fs.toList 0=some (Tryz.prog.cellsOf 70):=⟨_,Tryz.underlying70,rfl,by kernel_rfl⟩
theorem c1A:Tryz.prog.cellsOf 70=4:=by kernel_rfl
theorem c7I:Opens enc Tryz.prog W 70 Ast.enc (Aok) asM:=by
 obtain ⟨fs,h1,h2,h3⟩:=b8D;refine (K3 h1 h2 h3 (p9 b7o (p9 b7o (p9 o_b (p9 o_i O6))))).imp ?_;rintro ⟨a,b,c,d,_⟩ hok;exact ⟨⟨a,b,c,d⟩,rfl,hok.2.2.2.1,by simp only [asM];omega⟩
theorem c6E:Opens enc Tryz.prog W 31 (fun l=>[E8 l]) (fun l=>∀ x ∈ l,Aok x) (lsM asM):=
 (M6 Tryz.underlying31 c1A (by decide) (fun _=>rfl) c7I).imp fun l hl=>⟨l,rfl,hl,c8B _⟩
theorem c6K:Opens enc Tryz.prog W 32 (fun l=>[frs l]) (fun _=>True) (lsM frM):=
 (M6 Tryz.underlying32 c1U (by decide) (fun _=>rfl) b7f).imp fun l hl=>⟨l,rfl,trivial,c8B _⟩
theorem c3H:Tryz.prog.cellsOf 4=1:=by kernel_rfl
theorem c7h:Opens enc Tryz.prog W 34 (fun l=>[bls l]) (fun _=>True) (lsM fun _=>1):=
 (M6 Tryz.underlying34 c3H (by decide) (fun _=>rfl) o_b).imp fun l hl=>⟨l,rfl,trivial,c8B _⟩
theorem b8n:∃ fs,Tryz.prog.underlying 36=some (.struct fs)/\fs.toList.map (·.type)=[3,31,32,33,34]/\U2 Tryz.prog fs.toList 0=some (Tryz.prog.cellsOf 36):=⟨_,Tryz.underlying36,rfl,by kernel_rfl⟩
theorem c8i:Opens enc Tryz.prog W 36 Stt.enc (Sok) stM:=by
 obtain ⟨fs,h1,h2,h3⟩:=b8n;refine (K3 h1 h2 h3 (p9 o_i (p9 c6E (p9 c6K (p9 b2G (p9 c7h O6)))))).imp ?_;rintro ⟨a,b,c,d,e,_⟩ hok;exact ⟨⟨a,b,c,d,e⟩,rfl,⟨hok.1,hok.2.1⟩,by simp only [stM];omega⟩
end
noncomputable def laidWorldU (os:Os):World:=World.laidAll Tryz.prog os Rows.guardJudgesUptoRow.laid
theorem b8k (os:Os) (args:Array Value):laidMet Tryz.prog Rows.guardJudgesUptoRow.laid ((laidWorldU os).forCall (fun _ _=>0) ⟨#[],args,[]⟩).memory:=
 laidMet_laidAll args (by kernel_rfl) (by kernel_rfl)
theorem b5g {H:Type} {enc:TypeId × Value->H} {C:Checked} {os:Os} {f:FuncId} {fn:Func} {s:OpenSpec} {conds:List PathCond} {apart:Bool} {laid:List (String × DataW Unit)} (modest:Bool) (w0:World) (args:Array Value) (hos:w0.os=os)
  (hv:(w0.forCall (fun _ _=>0) ⟨#[],args,[]⟩).variablesZipB C.prog=true)
  (hr:((w0.forCall (fun _ _=>0) ⟨#[],args,[]⟩).heap.toList.drop C.prog.globals.size).take ((begin C.prog (fun _ _=>0) default).world.heap.size-C.prog.globals.size) =
   (begin C.prog (fun _ _=>0) default).world.heap.toList.drop C.prog.globals.size)
  (hok:Input.okWideB C.prog (w0.forCall (fun _ _=>0) ⟨#[],args,[]⟩) f ⟨#[],args,[]⟩=true)
  (hrow:s.preRow enc C.prog fn conds apart laid (w0.forCall (fun _ _=>0) ⟨#[],args,[]⟩).memory args) :
  ∃ (w:World) (tape:Tape) (i:Input),w.os=os/\(w.forCall tape i).Shaped C.prog/\i.vars=[]/\Input.okWide C.prog (w.forCall tape i) .any w.heap.size f i /\
   s.preRow enc C.prog fn conds apart laid (w.forCall tape i).memory i.args/\({ modest:=modest }:Assume).holds C.prog (lone (Frame.enter C.prog f i.args .normal) [] (w.forCall tape i)):=
 ⟨w0,fun _ _=>0,⟨#[],args,[]⟩,hos,World.shaped_of_ZipB hv hr,(Input.okWide_of_okWideB (base:=0) hok).1,(Input.okWide_of_okWideB hok).2,hrow,by
  simp only [Assume.holds];exact ⟨by simp,by simp,fun _=>Modest.zero,by simp,by simp⟩⟩
section
variable {H:Type} {enc:TypeId × Value->H} {W:World}
theorem b8x:Tryz.prog.cellsOf 58=1:=by kernel_rfl
theorem c5D:Opens enc Tryz.prog W 38 (fun l=>[wss l]) (fun _=>True) (lsM (lsM rtM)):=
 (M6 Tryz.underlying38 b8x (by decide) (fun _=>rfl) b7o).imp fun l hl=>⟨l,rfl,trivial,c8B _⟩
theorem u_b {u:List (List Nm.Rt)} {k:Nat} (h:lsM (lsM rtM) u<=k):Wsb k u:=by
 obtain ⟨h1,h2⟩:=a2A (b1d rtM) h;refine ⟨h1,fun l hl=>?_⟩;obtain ⟨h3,h4⟩:=a2A a4M (h2 l hl);exact ⟨h3,fun r hr=>a2S (h4 r hr)⟩
end
def clM:Cl->Nat:=fun _=>2
theorem c3A {ls:List (List Cl)} {k:Nat} (h:lsM (lsM clM) ls<=k):ls.length<=k/\∀ l ∈ ls,l.length<=k:=by
 obtain ⟨h1,h2⟩:=a2A (b1d clM) h;exact ⟨h1,fun l hl=>(a2A (f:=clM) (fun _=>by unfold clM;decide) (h2 l hl)).1⟩
section
variable {H:Type} {enc:TypeId × Value->H} {W:World}
theorem b9u:∃ fs,Tryz.prog.underlying 61=some (.struct fs)/\fs.toList.map (·.type)=[3,3]/\U2 Tryz.prog fs.toList 0=some (Tryz.prog.cellsOf 61):=⟨_,Tryz.underlying61,rfl,by kernel_rfl⟩
theorem c1x:Tryz.prog.cellsOf 61=2:=by kernel_rfl
theorem c7M:Opens enc Tryz.prog W 61 ce (fun _=>True) clM:=by
 obtain ⟨fs,h1,h2,h3⟩:=b9u;refine (K3 h1 h2 h3 (p9 o_i (p9 o_i O6))).imp ?_;rintro ⟨a,b,_⟩ hok;exact ⟨(a,b),rfl,trivial,by simp only [clM];omega⟩
theorem c7t:Opens enc Tryz.prog W 54 (fun l=>[cls l]) (fun _=>True) (lsM clM):=
 (M6 Tryz.underlying54 c1x (by decide) (fun _=>rfl) c7M).imp fun l hl=>⟨l,rfl,trivial,c8B _⟩
theorem b8T:Tryz.prog.cellsOf 54=1:=by kernel_rfl
theorem c6j:Opens enc Tryz.prog W 37 (fun l=>[H7 l]) (fun _=>True) (lsM (lsM clM)):=
 (M6 Tryz.underlying37 b8T (by decide) (fun _=>rfl) c7t).imp fun l hl=>⟨l,rfl,trivial,c8B _⟩
end
theorem a9X (os:Os) (args:Array Value):laidMet Tryz.prog Rows.guardJudgesUptoRow.laid ((laidWorldU os).forCall (fun _ _=>0) ⟨#[],args,[]⟩).memory:=
 b8k os args
theorem a7l (H:Type) (enc:TypeId × Value->H) (W:World) (base:Nat) (args:Array Value) (ds gs:List (DataW H)) (before:List MemPlace)
  (hval:∀ (j:Nat) t v,Tryz.f3.params[j]?=some t->args[j]?=some v->Value.okWide Tryz.prog W .any base t v)
  (hW:DataW.Whole enc Tryz.prog Tryz.f3.params.toList Rows.guardJudgesSpec.vars false W args.toList ds gs before) (hk:Rows.uptoSmall H (ds++gs)=true) (hL:laidMetH Tryz.prog Rows.guardJudgesUptoRow.laid W) (hS:W.ShapedOpen Tryz.prog) :
  Calls Tryz.prog 3 args W fun e W'=>∃ v,e=.returned v/\Rows.guardJudgesSpec.post enc Tryz.prog Tryz.f3 false true false false W args v W':=by
 have hW':=hW;obtain ⟨p,q,hA0,hV,rfl,hfz,hnd⟩:=hW;have hA:DataW.TrodAll enc Tryz.prog W 0 (fun _=>true) true Tryz.f3.params.toList args.toList ds p:=hA0;rw [Tryz.params3] at hA hval;obtain ⟨v0,vs0,d0,ds0,p0,q0,hargs,rfl,rfl,h0,r0⟩:=trodAll_cons hA;obtain ⟨v1,vs1,d1,ds1,p1,q1,rfl,rfl,rfl,h1,r1⟩:=trodAll_cons r0;obtain ⟨v2,vs2,d2,ds2,p2,q2,rfl,rfl,rfl,h2,r2⟩:=trodAll_cons r1;obtain ⟨v3,vs3,d3,ds3,p3,q3,rfl,rfl,rfl,h3,r3⟩:=trodAll_cons r2;obtain ⟨rfl,rfl,rfl⟩:=trodAll_nil r3;obtain rfl:args=#[v0,v1,v2,v3]:=by cases args;simp_all
 obtain ⟨rfl,rfl⟩:=trodVars_none hV;have hb:=c0K hk;obtain ⟨cs0,rfl,_⟩:=okWide_struct Tryz.underlying30 (hval 0 30 v0 rfl rfl);obtain ⟨m0,h0⟩:=h0;obtain ⟨wk0,e0,_,k0,b0⟩:=c7Y _ _ _ h0;have b0:wkM wk0<=Rows.uptoBulk d0:=b0;have e0:FzL W noB wk0.enc cs0.toList:=e0;have g0:Fz W noB wk0.c (.agg cs0):=by simp only [Wk.c,Fz];exact ⟨_,e0,by simp⟩
 obtain ⟨cs1,rfl,_⟩:=okWide_struct Tryz.underlying36 (hval 1 36 v1 rfl rfl);obtain ⟨m1,h1⟩:=h1;obtain ⟨st0,e1,_,k1,b1⟩:=c8i _ _ _ h1;have b1:stM st0<=Rows.uptoBulk d1:=b1;have e1:FzL W noB st0.enc cs1.toList:=e1;have g1:Fz W noB st0.c (.agg cs1):=by simp only [Stt.c,Fz];exact ⟨_,e1,by simp⟩
 obtain ⟨A2,n2,c2,rfl⟩:=okWide_slice Tryz.underlying37 (hval 2 37 v2 rfl rfl);obtain ⟨m2,h2⟩:=h2;obtain ⟨ls0,e2,_,k2,b2⟩:=c6j _ _ _ h2;have b2:lsM (lsM clM) ls0<=Rows.uptoBulk d2:=b2;have e2:FzL W noB [H7 ls0] [.slice A2 n2 c2]:=e2;simp only [FzL] at e2;obtain ⟨y2,ys2,f2,g2,rfl⟩:=e2;injection f2 with f2 _;subst f2;obtain ⟨A3,n3,c3,rfl⟩:=okWide_slice Tryz.underlying38 (hval 3 38 v3 rfl rfl);obtain ⟨m3,h3⟩:=h3;obtain ⟨us0,e3,_,k3,b3⟩:=c5D _ _ _ h3;have b3:lsM (lsM rtM) us0<=Rows.uptoBulk d3:=b3;have e3:FzL W noB [wss us0] [.slice A3 n3 c3]:=e3;simp only [FzL] at e3;obtain ⟨y3,ys3,f3,g3,rfl⟩:=e3;injection f3 with f3 _;subst f3
 simp only [List.append_nil,List.cons_append,List.nil_append,Rows.uptoBulkAll] at hb;have hF:FzL W noB [wk0.c,st0.c,H7 ls0,wss us0] [.agg cs0,.agg cs1,.slice A2 n2 c2,.slice A3 n3 c3]:=by
  simp only [FzL];exact ⟨_,_,rfl,g0,⟨_,_,rfl,g1,⟨_,_,rfl,g2,⟨_,_,rfl,g3,rfl⟩⟩⟩⟩
 refine (b2w wk0 st0 ls0 us0 (c8h (by omega)) (c7T (by omega)) (c3A (k:=1048576) (by omega)).2 (u_b (by omega)) noB W _ (c7m hL) (fun _ h=>h.elim) hF).mono fun e W' ⟨y,he,hbl,hy⟩=>?_;subst he;simp only [Fz] at hy;subst hy;refine ⟨_,rfl,c1q c1R (by
  intro t ht;rw [Tryz.params3] at ht;simp only [List.mem_cons,List.not_mem_nil,or_false] at ht;rcases ht with rfl|rfl|rfl|rfl
  ·exact ⟨by kernel_rfl,of_decide_eq_true (by kernel_rfl)⟩
  ·exact ⟨by kernel_rfl,of_decide_eq_true (by kernel_rfl)⟩
  ·exact ⟨by kernel_rfl,of_decide_eq_true (by kernel_rfl)⟩
  ·exact ⟨by kernel_rfl,of_decide_eq_true (by kernel_rfl)⟩) (tb:=4) rfl Tryz.underlying4 rfl rfl hW' hbl⟩
theorem a8I (os:Os) {H:Type} (enc:TypeId × Value->H):∃ places,DataW.whole enc Tryz.prog ((laidWorldU os).forCall (fun _ _=>0) ⟨#[],#[.agg #[.slice none 0 0,.slice none 0 0,.slice none 0 0,.slice none 0 0,.slice none 0 0,.bool false,.string ⟨#[]⟩,.string ⟨#[]⟩],.agg #[.int .i64 0,.slice none 0 0,.slice none 0 0,.slice none 0 0,.slice none 0 0],.slice none 0 0,.slice none 0 0],[]⟩).memory Tryz.f3.params.toList Rows.guardJudgesSpec.vars false (#[.agg #[.slice none 0 0,.slice none 0 0,.slice none 0 0,.slice none 0 0,.slice none 0 0,.bool false,.string ⟨#[]⟩,.string ⟨#[]⟩],.agg #[.int .i64 0,.slice none 0 0,.slice none 0 0,.slice none 0 0,.slice none 0 0],.slice none 0 0,.slice none 0 0]:Array Value).toList 8=some ([.agg [.nil,.nil,.nil,.nil,.nil,.agg [.lit (.bool false),.lit (.string []),.lit (.string [])]],.agg [.lit (.int .i64 0),.nil,.nil,.nil,.nil],.nil,.nil],[],places):=
 ⟨[],by kernel_rfl⟩
set_option maxRecDepth 100000 in
theorem a7L (os:Os) (started:os.Started) (H:Type) (enc:TypeId × Value->H) (F:Stop.Interp) :
  ReturnsInHanded {} Tryz.checked os 3 .any ((Rows.OpenSpec.upto Rows.guardJudgesSpec).preRow enc Tryz.prog Tryz.f3 Rows.guardJudgesUptoRow.domain false Rows.guardJudgesUptoRow.laid) (((Rows.OpenSpec.upto Rows.guardJudgesSpec).at F).post enc Tryz.prog Tryz.f3 false true false false):=by
 obtain ⟨places,hx⟩:=a8I os enc;refine returnsInHanded_of_row (C:=Tryz.checked) (s:=Rows.OpenSpec.upto Rows.guardJudgesSpec) c1h started (by kernel_rfl) Tryz.func3
  (b5g (enc:=enc) (C:=Tryz.checked) false (laidWorldU os) #[.agg #[.slice none 0 0,.slice none 0 0,.slice none 0 0,.slice none 0 0,.slice none 0 0,.bool false,.string ⟨#[]⟩,.string ⟨#[]⟩],.agg #[.int .i64 0,.slice none 0 0,.slice none 0 0,.slice none 0 0,.slice none 0 0],.slice none 0 0,.slice none 0 0] rfl (by kernel_rfl) (by kernel_rfl) (by kernel_rfl)
   (OpenSpec.preRow_of_cond 8 hx (by kernel_rfl) (fun k hk=>by cases hk;kernel_rfl) (by kernel_rfl) (a9X os _))) ?_
 intro W base args ds gs before hval hW _ hcond _ hL hS _;exact a7l H enc W base args ds gs before hval hW (hcond _ rfl) hL hS
theorem c8g {a b:Bool} (h:a=true) (k:b=true):(a && b)=true:=by rw [h,k];rfl
set_option maxHeartbeats 40000000 in
theorem a7M:joinedFacts Tryz.pinned.checked.prog 3 Tryz.f3 (Rows.OpenSpec.upto Rows.guardJudgesSpec).bare Rows.guardJudgesUptoRow=true:=by
 unfold joinedFacts
 repeat' (with_reducible refine c8g ?_ ?_)
 all_goals (as_aux_lemma=>kernel_rfl)
end Go.Proofs.YtpnbklgbfhgknaaGreatDoor
