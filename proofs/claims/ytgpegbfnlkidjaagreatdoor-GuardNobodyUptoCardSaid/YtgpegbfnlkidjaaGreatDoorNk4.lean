/- A part of the proof: lemmas only, with the conditions that each names. -/
import Derived.Test.YtgpegbfnlkidjaaGreatDoorProg
import Derived.KernelRfl
import Derived.Test.YtgpegbfnlkidjaaGreatDoorNk3
set_option linter.all false
namespace Go.Proofs.YtgpegbfnlkidjaaGreatDoor
open Go Go.RowKit Eng
set_option maxRecDepth 10000
set_option maxHeartbeats 4000000
structure Hv where
 s:Bool
 u:List Nat
 lo:Nat
 n:Nat
 v:Nat
 o:List Nat
 lo2:Nat
 n2:Nat
 v2:Nat
theorem c1F (a b:List UInt8) (ha:a.length<=68719476736) (hb:b.length<=68719476736) (h0a:Nm.val a ≠ 0) (h0b:Nm.val b ≠ 0):FZ 174 [sb a,sb b] (sb (Nm.enc (Nat.gcd (Nm.val a) (Nm.val b)))):=by
  refine kW Tryz.func174 (by cbv) (by rfl) fun w O hw=>?_
  simp only [j5,TT,II,OA,OB,OC,MM,VV,MG,sb]
  have hla:=b6N a (by omega)
  have hlb:=b6N b (by omega)
  have hva:=Nm.b0u a
  have hvb:=Nm.b0u b
  have haa:=Nm.b0J a
  have hab:=Nm.b0J b
  have hna:=Nm.a9n a
  have hnb:=Nm.a9n b
  obtain ⟨za,hza,hoa⟩:=Nm.a3C h0a
  obtain ⟨zb,hzb,hob⟩:=Nm.a3C h0b
  have hG:Nat.gcd (Nm.val a) (Nm.val b)=2 ^ (min (Nm.v2 (Nm.val a)) (Nm.v2 (Nm.val b)))*Nat.gcd za zb:=by
    conv=>lhs;rw [hza,hzb]
    exact Nm.c0U hoa hob
  rw [hG]
  have fea:=a8I (Nm.T9 a) (by omega) haa (by rw [hva];exact h0a)
  have feb:=a8I (Nm.T9 b) (by omega) hab (by rw [hvb];exact h0b)
  rw [hva] at fea
  rw [hvb] at feb
  have hba:Nm.v2 (Nm.val a)<=549755813888:=by
    have h1:=Nm.Y7 a
    have h3:2 ^ Nm.v2 (Nm.val a)<=Nm.val a:=by
      conv=>rhs;rw [hza]
      exact Nat.le_mul_of_pos_right _ (by omega)
    have h4:2 ^ Nm.v2 (Nm.val a) < 2 ^ (8*a.length):=by rw [Nat.pow_mul];exact Nat.lt_of_le_of_lt h3 h1
    have h5:=(Nat.pow_lt_pow_iff_right (by decide:1 < 2)).1 h4
    omega
  have hbb:Nm.v2 (Nm.val b)<=549755813888:=by
    have h1:=Nm.Y7 b
    have h3:2 ^ Nm.v2 (Nm.val b)<=Nm.val b:=by
      conv=>rhs;rw [hzb]
      exact Nat.le_mul_of_pos_right _ (by omega)
    have h4:2 ^ Nm.v2 (Nm.val b) < 2 ^ (8*b.length):=by rw [Nat.pow_mul];exact Nat.lt_of_le_of_lt h3 h1
    have h5:=(Nat.pow_lt_pow_iff_right (by decide:1 < 2)).1 h4
    omega
  have hla0:0 < (Nm.T9 a).length:=by
    rcases c7s (Nm.T9 a).length with h|h
    · have:=List.length_eq_zero_iff.1 h
      rw [this] at hva;exact absurd hva.symm h0a
    · exact h
  have hlb0:0 < (Nm.T9 b).length:=by
    rcases c7s (Nm.T9 b).length with h|h
    · have:=List.length_eq_zero_iff.1 h
      rw [this] at hvb;exact absurd hvb.symm h0b
    · exact h
  generalize Nm.v2 (Nm.val a)=p at *
  generalize Nm.v2 (Nm.val b)=q at *
  have hwa:Nm.wv 18446744073709551616 (((Nm.T9 a).drop 0).take (Nm.T9 a).length)=za*2 ^ p:=by
    rw [List.drop_zero,c7l,hva,hza,Nat.mul_comm]
  have hwb:Nm.wv 18446744073709551616 (((Nm.T9 b).drop 0).take (Nm.T9 b).length)=zb*2 ^ q:=by
    rw [List.drop_zero,c7l,hvb,hzb,Nat.mul_comm]
  clear hG hza hzb hva hvb h0a h0b
  generalize hA:Nm.T9 a=A at *
  generalize hB:Nm.T9 b=B at *
  have hr1:=fun (E:Ctx) (hP:E.P=Tryz.prog)=>a8Q (E:=E) hP true A B 0 A.length p za (by omega) (by omega) (by omega) haa (by omega) hwa
  obtain ⟨hj1,hz1,_⟩:=hr1 ⟨Tryz.prog,eff,0,w,fun _=>False,O,[],[]⟩ rfl
  have hr1:=fun E hP=>(hr1 E hP).2.2
  have hW1:=Win.put (u:=A) (l1:=0+p / 64) (p:=A.length-p / 64) (z:=za) (by omega) (by omega) (by omega) haa hz1
  generalize hA1:put A (0+p / 64) (Nm.dig 18446744073709551616 (A.length-p / 64) za)=A1 at *
  generalize 0+p / 64=la at *
  generalize (Nm.G6 (Nm.dig 18446744073709551616 (A.length-p / 64) za)).length=na at *
  have hr2:=fun (E:Ctx) (hP:E.P=Tryz.prog)=>a8Q (E:=E) hP false B A1 0 B.length q zb (by omega) (by omega) (by omega) hab (by omega) hwb
  obtain ⟨hj2,hz2,_⟩:=hr2 ⟨Tryz.prog,eff,0,w,fun _=>False,O,[],[]⟩ rfl
  have hr2:=fun E hP=>(hr2 E hP).2.2
  have hW2:=Win.put (u:=B) (l1:=0+q / 64) (p:=B.length-q / 64) (z:=zb) (by omega) (by omega) (by omega) hab hz2
  generalize hB1:put B (0+q / 64) (Nm.dig 18446744073709551616 (B.length-q / 64) zb)=B1 at *
  generalize 0+q / 64=lb at *
  generalize (Nm.G6 (Nm.dig 18446744073709551616 (B.length-q / 64) zb)).length=nb at *
  have hr1':∀ (E:Ctx),E.P=Tryz.prog->j6 E [.row 218 1 (ls A),.row 218 1 (ls B)] 198 [.rv 0,ints p] (.wv 0 1 la na) [.row 218 1 (ls A1),.row 218 1 (ls B)] []:=fun E hP=>j6.imp (hr1 E hP) (j4.cons (Imp.win (k:=0) (e:=218) (sz:=1) (es:=ls A) rfl (F8 _).symm (by simp)) (j4.cons (Imp.refl rfl) j4.nil))
  have hr2':∀ (E:Ctx),E.P=Tryz.prog->j6 E [.row 218 1 (ls A1),.row 218 1 (ls B)] 198 [.rv 1,ints q] (.wv 1 1 lb nb) [.row 218 1 (ls A1),.row 218 1 (ls B1)] []:=fun E hP=>j6.imp (hr2 E hP) (j4.cons (Imp.win (k:=1) (e:=218) (sz:=1) (es:=ls B) rfl (F8 _).symm (by simp)) (j4.cons (Imp.refl rfl) j4.nil))
  (repeat first|refine uA ?_|(apply uK;focus omega)|simp (disch:=omega) only [go_sem,Nat.reduceBEq,Nat.reduceAdd]|refine l8.t (FNew.t hla rfl) ?_|refine l8.t (FNew.t hlb rfl) ?_|refine l8.t (hr1' _ rfl) ?_|refine l8.t (hr2' _ rfl) ?_|(apply uE fea;exact tz hw;exact rfl;focus (repeat' first|exact j4.nil|exact Imp.refl rfl|exact Imp.frz rfl rfl rfl|(refine Imp.U3 rfl rfl ?_ ?_;(focus ((try simp only [c7e]);omega));(focus first|rfl|assumption))|refine j4.cons ?_ ?_);done)|(apply uE feb;exact tz hw;exact rfl;focus (repeat' first|exact j4.nil|exact Imp.refl rfl|exact Imp.frz rfl rfl rfl|(refine Imp.U3 rfl rfl ?_ ?_;(focus ((try simp only [c7e]);omega));(focus first|rfl|assumption))|refine j4.cons ?_ ?_);done))
  clear hr1 hr2 hr1' hr2' hla hlb fea feb hwa hwb hA hB hA1 hB1 hz1 hz2 hj1 hj2 haa hab hla0 hlb0 hna hnb
  have hmin:min p q<=549755813888:=by omega
  generalize hG:Nat.gcd za zb=G at *
  refine S.c2A (Y:=Hv) (fun x=>⟨[(5,.wv (kx x.s) 1 x.lo x.n),(6,.wv (kx !x.s) 1 x.lo2 x.n2),(7,ints p),(8,ints q)],rw2 x.s x.u x.o⟩)
    (fun x=>Win x.u x.lo x.n x.v/\Win x.o x.lo2 x.n2 x.v2/\((x.n=0/\x.v2=G) \/ (x.n=1/\x.n2=1/\Nat.gcd x.v x.v2=G))) ?_ ?_
  · refine S.loop (X:=Hv) (fun x=>⟨[(5,.wv (kx x.s) 1 x.lo x.n),(6,.wv (kx !x.s) 1 x.lo2 x.n2),(7,ints p),(8,ints q)],rw2 x.s x.u x.o⟩)
      (fun x=>Win x.u x.lo x.n x.v/\Win x.o x.lo2 x.n2 x.v2/\x.v % 2=1/\x.v2 % 2=1/\Nat.gcd x.v x.v2=G) (fun x=>x.v+x.v2) ⟨true,A1,la,na,za,B1,lb,nb,zb⟩ ⟨hW1,hW2,hoa,hob,hG⟩ (by (repeat first|refine uA ?_|(refine ⟨?_,?_⟩;focus first|rfl|trivial|(simp [slot];done))|rfl|trivial|simp)) ?_
    clear hW1 hW2 hG hoa hob
    rintro ⟨s,u,lo,n,v,o,lo2,n2,v2⟩ ⟨hW1,hW2,hoa,hob,hG⟩
    simp only [ints] at hW1 hW2 hoa hob hG ⊢
    (repeat first|refine uA ?_|(apply uK;focus first|omega|(intros;simp_all<;>omega))|simp (disch:=omega) only [go_sem,Nat.reduceBEq])
    (refine uJ rfl (fun hc=>?_) fun hc=>?_)
    · refine S.skip ?_
      refine S.block ?_
      refine S.seq ?_
      have hl1:=hW1.hl
      have hl2:=hW2.hl
      have hn1:=hW1.hn
      have hn2:=hW2.hn
      have hwl:∀ (u:List Nat) lo n,ls ((u.drop lo).take n)=((ls u).drop lo).take n:=fun u lo n=>by simp [ls,List.map_drop,List.map_take]
      refine S.join (Y:=Hv) (fun x=>⟨[(5,.wv (kx x.s) 1 x.lo x.n),(6,.wv (kx !x.s) 1 x.lo2 x.n2),(7,ints p),(8,ints q)],rw2 x.s x.u x.o⟩)
        (fun x=>Win x.u x.lo x.n x.v/\Win x.o x.lo2 x.n2 x.v2/\x.v % 2=1/\x.v2 % 2=1/\Nat.gcd x.v x.v2=G/\x.v2<=x.v/\x.v+x.v2=v+v2) ?_ ?_
      · have hb:=c2Z ((u.drop lo).take n) ((o.drop lo2).take n2) (by rw [hW1.len];omega) (by rw [hW2.len];omega) hW1.all hW2.all hW1.last hW2.last
        rw [hwl,hwl,hW1.hv,hW2.hv] at hb
        cases s
        all_goals
          simp only [rw2,kx,Bool.not_true,Bool.not_false]
          (repeat first|refine uA ?_|(apply uK;focus omega)|simp only [go_sem,Nat.reduceBEq]|simp (disch:=omega) only [ww,F8]|(apply uC hb;exact rfl;focus (repeat' first|exact j4.nil|exact Imp.refl rfl|exact Imp.frz rfl rfl rfl|(refine Imp.U3 rfl rfl ?_ ?_;(focus ((try simp only [F8]);omega));(focus first|rfl|assumption))|refine j4.cons ?_ ?_);done))
          refine S.cond rfl (fun hc=>?_) (fun hc=>?_)
          all_goals simp only [c7h,c7u] at hc
        · (repeat first|refine uA ?_|(apply uK;focus omega)|simp (disch:=omega) only [go_sem,Nat.reduceBEq])
          exact S.met ⟨true,o,lo2,n2,v2,u,lo,n,v⟩ ⟨hW2,hW1,hob,hoa,by rw [Nat.gcd_comm];exact hG,by simp only;omega,by simp only;omega⟩ (by (repeat first|refine uA ?_|(refine ⟨?_,?_⟩;focus first|rfl|trivial|(simp [slot];done))|rfl|trivial|simp))
        · (repeat first|refine uA ?_|(apply uK;focus omega)|simp (disch:=omega) only [go_sem,Nat.reduceBEq,ww])
          exact S.met ⟨false,u,lo,n,v,o,lo2,n2,v2⟩ ⟨hW1,hW2,hoa,hob,hG,by simp only;omega,rfl⟩ (by (repeat first|refine uA ?_|(refine ⟨?_,?_⟩;focus first|rfl|trivial|(simp [slot];done))|rfl|trivial|simp))
        · (repeat first|refine uA ?_|(apply uK;focus omega)|simp (disch:=omega) only [go_sem,Nat.reduceBEq])
          exact S.met ⟨false,o,lo2,n2,v2,u,lo,n,v⟩ ⟨hW2,hW1,hob,hoa,by rw [Nat.gcd_comm];exact hG,by simp only;omega,by simp only;omega⟩ (by (repeat first|refine uA ?_|(refine ⟨?_,?_⟩;focus first|rfl|trivial|(simp [slot];done))|rfl|trivial|simp))
        · (repeat first|refine uA ?_|(apply uK;focus omega)|simp (disch:=omega) only [go_sem,Nat.reduceBEq,ww])
          exact S.met ⟨true,u,lo,n,v,o,lo2,n2,v2⟩ ⟨hW1,hW2,hoa,hob,hG,by simp only;omega,rfl⟩ (by (repeat first|refine uA ?_|(refine ⟨?_,?_⟩;focus first|rfl|trivial|(simp [slot];done))|rfl|trivial|simp))
      clear hl1 hl2 hn1 hn2 hW1 hW2 hoa hob hG hc
      rintro ⟨s,u1,lo1,n1,x1,o1,lo3,n3,x3⟩ ⟨hW1,hW2,hoa,hob,hG,hle,hsum⟩
      simp only [ints] at hW1 hW2 hoa hob hG hle hsum ⊢
      have hl1:=hW1.hl
      have hl2:=hW2.hl
      have hn1:=hW1.hn
      have hn2:=hW2.hn
      have hlo1:=hW1.hlo
      have hlt1:x1 < 18446744073709551616 ^ n1:=by
        have:=Nm.M6 18446744073709551616 hW1.all
        rwa [hW1.len,hW1.hv] at this
      have hmin:=fun (E:Ctx) (hP:E.P=Tryz.prog) (s:Bool)=>c3T (E:=E) hP s u1 o1 lo1 n1 lo3 n3 (by omega) (by omega) hn1 hlo1 hn2 (hW1.le hW2 hle) hW1.ha hW2.ha hW1.hv.symm hW2.hv.symm hle
      have hW3:=Win.put (u:=u1) (l1:=lo1) (p:=n1) (z:=x1-x3) hn1 hlo1 hl1 hW1.ha (by omega)
      generalize put u1 lo1 (Nm.dig 18446744073709551616 n1 (x1-x3))=u2 at *
      generalize (Nm.G6 (Nm.dig 18446744073709551616 n1 (x1-x3))).length=m1 at *
      have hl3:=hW3.hl
      have hn3:=hW3.hn
      have hmt:∀ E:Ctx,E.P=Tryz.prog->j6 E [.row 218 1 (ls u1),.row 218 1 (ls o1)] 200 [.wv 0 1 lo1 n1,.wv 1 1 lo3 n3] (.wv 0 1 lo1 m1) [.row 218 1 (ls u2),.row 218 1 (ls o1)] []:=fun E hP=>hmin E hP true
      have hmf:∀ E:Ctx,E.P=Tryz.prog->j6 E [.row 218 1 (ls o1),.row 218 1 (ls u1)] 200 [.wv 1 1 lo1 n1,.wv 0 1 lo3 n3] (.wv 1 1 lo1 m1) [.row 218 1 (ls o1),.row 218 1 (ls u2)] []:=fun E hP=>hmin E hP false
      clear hmin
      cases s
      all_goals
        simp only [rw2,kx,Bool.not_true,Bool.not_false]
        (repeat first|refine uA ?_|(apply uK;focus omega)|simp only [go_sem,Nat.reduceBEq]|simp (disch:=omega) only [ww,F8]|refine l8.t (hmt _ rfl) ?_|refine l8.t (hmf _ rfl) ?_)
        (refine uJ rfl (fun hc=>?_) fun hc=>?_)
      · (repeat first|refine uA ?_|(apply uK;focus omega)|simp (disch:=omega) only [go_sem,Nat.reduceBEq,ww])
        have h0:=hW3.nonzero (by omega)
        have h1:x1=x3:=by omega
        subst h1
        rw [Nat.gcd_self] at hG
        exact S.met ⟨false,u2,lo1,m1,x1-x1,o1,lo3,n3,x1⟩ ⟨hW3,hW2,.inl ⟨by simp only;omega,hG⟩⟩ (by (repeat first|refine uA ?_|(refine ⟨?_,?_⟩;focus first|rfl|trivial|(simp [slot];done))|rfl|trivial|simp))
      · have h0:x1-x3 ≠ 0:=fun h=>by have:=hW3.zero h;omega
        obtain ⟨z,hz,hoz⟩:=Nm.a3C h0
        have hev:=a8I ((u2.drop lo1).take m1) (by rw [hW3.len];omega) hW3.all (by rw [hW3.hv];exact h0)
        rw [hwl,hW3.hv] at hev
        have heb:=hW3.v2 h0
        generalize Nm.v2 (x1-x3)=e at *
        have hrg:=fun (E:Ctx) (hP:E.P=Tryz.prog)=>a8Q (E:=E) hP false u2 o1 lo1 m1 e z (by omega) hn3 heb hW3.ha (by omega) (by rw [hW3.hv,hz,Nat.mul_comm])
        obtain ⟨hj,hz2,_⟩:=hrg ⟨Tryz.prog,eff,0,w,fun _=>False,O,[],[]⟩ rfl
        have hrg:=fun E hP=>(hrg E hP).2.2
        have hW4:=Win.put (u:=u2) (l1:=lo1+e / 64) (p:=m1-e / 64) (z:=z) (by omega) (by omega) hl3 hW3.ha hz2
        generalize put u2 (lo1+e / 64) (Nm.dig 18446744073709551616 (m1-e / 64) z)=u4 at *
        generalize lo1+e / 64=lo4 at *
        generalize (Nm.G6 (Nm.dig 18446744073709551616 (m1-e / 64) z)).length=m4 at *
        have hrg':∀ (E:Ctx),E.P=Tryz.prog->j6 E [.row 218 1 (ls o1),.row 218 1 (ls u2)] 198 [.wv 1 1 lo1 m1,ints e] (.wv 1 1 lo4 m4) [.row 218 1 (ls o1),.row 218 1 (ls u4)] []:=fun E hP=>hrg E hP
        have hgz:Nat.gcd z x3=G:=by
          have h1:=Nm.a6Q (d:=z) hob e
          rw [<- h1,<- hz,Nm.b2E hle,hG]
        have hzle:z<=x1-x3:=by
          conv=>rhs;rw [hz]
          exact Nat.le_mul_of_pos_left _ (Nat.pow_pos (by decide))
        (repeat first|refine uA ?_|(apply uK;focus omega)|simp only [go_sem,Nat.reduceBEq]|simp (disch:=omega) only [ww,F8]|refine l8.t (hrg' _ rfl) ?_|(apply uE hev;exact tz hw;exact rfl;focus (repeat' first|exact j4.nil|exact Imp.refl rfl|exact Imp.frz rfl rfl rfl|(refine Imp.U3 rfl rfl ?_ ?_;(focus ((try simp only [F8]);omega));(focus first|rfl|assumption))|refine j4.cons ?_ ?_);done))
        refine S.next (x:=(⟨true,u,lo,n,v,o,lo2,n2,v2⟩:Hv)) (⟨false,u4,lo4,m4,z,o1,lo3,n3,x3⟩:Hv) ⟨hW4,hW2,hoz,hob,hgz⟩ (by simp only;omega) (by (repeat first|refine uA ?_|(refine ⟨?_,?_⟩;focus first|rfl|trivial|(simp [slot];done))|rfl|trivial|simp))
      · (repeat first|refine uA ?_|(apply uK;focus omega)|simp (disch:=omega) only [go_sem,Nat.reduceBEq,ww])
        have h0:=hW3.nonzero (by omega)
        have h1:x1=x3:=by omega
        subst h1
        rw [Nat.gcd_self] at hG
        exact S.met ⟨true,u2,lo1,m1,x1-x1,o1,lo3,n3,x1⟩ ⟨hW3,hW2,.inl ⟨by simp only;omega,hG⟩⟩ (by (repeat first|refine uA ?_|(refine ⟨?_,?_⟩;focus first|rfl|trivial|(simp [slot];done))|rfl|trivial|simp))
      · have h0:x1-x3 ≠ 0:=fun h=>by have:=hW3.zero h;omega
        obtain ⟨z,hz,hoz⟩:=Nm.a3C h0
        have hev:=a8I ((u2.drop lo1).take m1) (by rw [hW3.len];omega) hW3.all (by rw [hW3.hv];exact h0)
        rw [hwl,hW3.hv] at hev
        have heb:=hW3.v2 h0
        generalize Nm.v2 (x1-x3)=e at *
        have hrg:=fun (E:Ctx) (hP:E.P=Tryz.prog)=>a8Q (E:=E) hP true u2 o1 lo1 m1 e z (by omega) hn3 heb hW3.ha (by omega) (by rw [hW3.hv,hz,Nat.mul_comm])
        obtain ⟨hj,hz2,_⟩:=hrg ⟨Tryz.prog,eff,0,w,fun _=>False,O,[],[]⟩ rfl
        have hrg:=fun E hP=>(hrg E hP).2.2
        have hW4:=Win.put (u:=u2) (l1:=lo1+e / 64) (p:=m1-e / 64) (z:=z) (by omega) (by omega) hl3 hW3.ha hz2
        generalize put u2 (lo1+e / 64) (Nm.dig 18446744073709551616 (m1-e / 64) z)=u4 at *
        generalize lo1+e / 64=lo4 at *
        generalize (Nm.G6 (Nm.dig 18446744073709551616 (m1-e / 64) z)).length=m4 at *
        have hrg':∀ (E:Ctx),E.P=Tryz.prog->j6 E [.row 218 1 (ls u2),.row 218 1 (ls o1)] 198 [.wv 0 1 lo1 m1,ints e] (.wv 0 1 lo4 m4) [.row 218 1 (ls u4),.row 218 1 (ls o1)] []:=fun E hP=>hrg E hP
        have hgz:Nat.gcd z x3=G:=by
          have h1:=Nm.a6Q (d:=z) hob e
          rw [<- h1,<- hz,Nm.b2E hle,hG]
        have hzle:z<=x1-x3:=by
          conv=>rhs;rw [hz]
          exact Nat.le_mul_of_pos_left _ (Nat.pow_pos (by decide))
        (repeat first|refine uA ?_|(apply uK;focus omega)|simp only [go_sem,Nat.reduceBEq]|simp (disch:=omega) only [ww,F8]|refine l8.t (hrg' _ rfl) ?_|(apply uE hev;exact tz hw;exact rfl;focus (repeat' first|exact j4.nil|exact Imp.refl rfl|exact Imp.frz rfl rfl rfl|(refine Imp.U3 rfl rfl ?_ ?_;(focus ((try simp only [F8]);omega));(focus first|rfl|assumption))|refine j4.cons ?_ ?_);done))
        refine S.next (x:=(⟨true,u,lo,n,v,o,lo2,n2,v2⟩:Hv)) (⟨true,u4,lo4,m4,z,o1,lo3,n3,x3⟩:Hv) ⟨hW4,hW2,hoz,hob,hgz⟩ (by simp only;omega) (by (repeat first|refine uA ?_|(refine ⟨?_,?_⟩;focus first|rfl|trivial|(simp [slot];done))|rfl|trivial|simp))
    · (repeat first|refine uA ?_|(apply uK;focus omega)|simp (disch:=omega) only [go_sem,Nat.reduceBEq,ww])
      have ha1:n<=1/\n2<=1:=by omega
      have hz1:n ≠ 0:=fun h=>by have:=hW1.nonzero h;omega
      have hz2:n2 ≠ 0:=fun h=>by have:=hW2.nonzero h;omega
      exact S.met ⟨s,u,lo,n,v,o,lo2,n2,v2⟩ ⟨hW1,hW2,   .inr ⟨by simp only;omega,by simp only;omega,hG⟩⟩ (by cases s<;>exact (by (repeat first|refine uA ?_|(refine ⟨?_,?_⟩;focus first|rfl|trivial|(simp [slot];done))|rfl|trivial|simp)))
  clear hW1 hW2 hG hoa hob
  rintro ⟨s,u,lo,n,v,o,lo2,n2,v2⟩ ⟨hW1,hW2,hcs⟩
  simp only [ints] at hW1 hW2 hcs ⊢
  refine S.seq ?_
  have hl1:=hW1.hl
  have hl2:=hW2.hl
  have hn1:=hW1.hn
  have hn2:=hW2.hn
  have hlo1:=hW1.hlo
  have hlo2:=hW2.hlo
  refine S.join (Y:=Bool × List Nat × List Nat) (fun x=>⟨[(6,.wv (kx !x.1) 1 lo2 n2),(7,ints p),(8,ints q)],rw2 x.1 x.2.1 x.2.2⟩)
    (fun x=>x.2.2.length=o.length/\Nm.M9 x.2.2/\Nm.wv 18446744073709551616 ((x.2.2.drop lo2).take n2)=G) ?_ ?_
  · have one:∀ {u:List Nat} {lo v:Nat},Win u lo 1 v->u[lo]?=some v/\v < 18446744073709551616:=fun {u lo v} h=>by
      have hg:u[lo]?=some (u[lo]'h.hlo):=c6T h.hlo
      have h1:=h.hv
      have h2:(u.drop lo).take 1=[u[lo]'h.hlo]:=by rw [List.drop_eq_getElem_cons h.hlo];rfl
      rw [h2] at h1
      simp only [Nm.wv] at h1
      have h3:=h.ha _ (c7k h.hlo)
      rw [Nat.mul_zero,Nat.add_zero] at h1
      rw [hg,h1]
      exact ⟨rfl,by omega⟩
    (repeat first|refine uA ?_|(apply uK;focus omega)|simp (disch:=omega) only [go_sem,Nat.reduceBEq])
    (refine uJ rfl (fun hc=>?_) fun hc=>?_)
    · have hn:n=1:=by omega
      have hm:n2=1:=by omega
      subst hn hm
      obtain ⟨g1,b1⟩:=one hW1
      obtain ⟨g2,b2⟩:=one hW2
      have hg:Nat.gcd v v2=G:=by rcases hcs with h|h;exact absurd h.1 (by decide);exact h.2.2
      have hco:=b4v v v2 b1 b2
      rw [hg] at hco
      have hres:Nm.wv 18446744073709551616 (((o.set lo2 G).drop lo2).take 1)=G:=by
        rw [List.drop_eq_getElem_cons (by rw [c7J];exact hlo2),List.getElem_set_self]
        simp [Nm.wv]
      have hG64:G < 18446744073709551616:=by
        have:v2 ≠ 0:=fun h=>by have:=hW2.zero h;omega
        have:=Nat.gcd_le_right v (show 0 < v2 by omega)
        omega
      cases s
      all_goals
        simp only [rw2,kx,Bool.not_true,Bool.not_false]
        (repeat first|refine uA ?_|(apply uK;focus omega)|simp only [go_sem,Nat.reduceBEq,Nat.reduceAdd,Nat.reduceLeDiff,F8,O1,g1,g2,c6V,lm,Nat.add_zero,a1C]|simp (disch:=omega) only [ww,F8,O1,g1,g2,c6V,lm,Nat.add_zero,a1C]|(apply uB hco;exact rfl))
      · exact S.met (⟨false,u,o.set lo2 G⟩:Bool × List Nat × List Nat) ⟨by simp,fun w hw=>by
          rcases Nm.mem_set hw with rfl|hw
          · exact hG64
          · exact hW2.ha w hw,hres⟩ (by (repeat first|refine uA ?_|(refine ⟨?_,?_⟩;focus first|rfl|trivial|(simp [slot];done))|rfl|trivial|simp))
      · exact S.met (⟨true,u,o.set lo2 G⟩:Bool × List Nat × List Nat) ⟨by simp,fun w hw=>by
          rcases Nm.mem_set hw with rfl|hw
          · exact hG64
          · exact hW2.ha w hw,hres⟩ (by (repeat first|refine uA ?_|(refine ⟨?_,?_⟩;focus first|rfl|trivial|(simp [slot];done))|rfl|trivial|simp))
    · (repeat first|refine uA ?_|(apply uK;focus omega)|simp (disch:=omega) only [go_sem,Nat.reduceBEq,ww])
      have hg:v2=G:=by
        rcases hcs with h|h
        · exact h.2
        · omega
      exact S.met (⟨s,u,o⟩:Bool × List Nat × List Nat) ⟨rfl,hW2.ha,by rw [<- hg];exact hW2.hv⟩ (by cases s<;>exact (by (repeat first|refine uA ?_|(refine ⟨?_,?_⟩;focus first|rfl|trivial|(simp [slot];done))|rfl|trivial|simp)))
  rintro ⟨s',u',o'⟩ ⟨ho1,ho2,ho3⟩
  simp only [ints] at ho1 ho2 ho3 ⊢
  have hul:((o'.drop lo2).take n2).length=n2:=by rw [c7d,c7E];omega
  have hua:Nm.M9 ((o'.drop lo2).take n2):=(ho2.drop lo2).take _
  have hgw:∀ i,i < n2->o'[lo2+i]?=((o'.drop lo2).take n2)[i]?:=fun i hi=>by rw [List.getElem?_take_of_lt hi,c7I]
  generalize (o'.drop lo2).take n2=W at *
  have hfm:=a3F (Nm.a2g W) (Nm.oB (2 ^ (min p q % 8))::List.replicate (min p q / 8) 0) (by rw [Nm.b2R hua];omega) (by rw [c7m,List.length_replicate];omega)
  rw [Nm.c0q,Nm.b9t hua,ho3,Nat.mul_comm] at hfm
  have hWl:W.length<=17179869184:=by omega
  have hz8:List.replicate (8*(n2:Int)).toNat [C.v (.int .u8 0)]=(Nm.a5m W 0).map F9:=by
    rw [Nm.b8W,<- a3r,show (8*(n2:Int)).toNat=8*W.length by omega]
  have hqm:IntKind.i64.wrap (((min p q:Nat):Int).tdiv 8)=((min p q / 8:Nat):Int):=c2s _ (by omega)
  have hmn:(if (q:Int) < (p:Int) then (q:Int) else (p:Int))=((min p q:Nat):Int):=by split<;>omega
  generalize min p q=r at *
  clear hW1 hW2 hcs hn1 hl1 hlo1 ho3
  cases s'
  all_goals
    simp only [rw2,kx,Bool.not_true,Bool.not_false]
    (repeat first|refine uA ?_|(apply uK;focus omega)|simp only [go_sem,Nat.reduceBEq,Nat.reduceAdd]|simp (disch:=omega) only [ww,hz8])
  · refine S.loop (X:=Nat) (fun i=>⟨[(6,.wv 0 1 lo2 n2),(7,ints p),(8,ints q),(9,.rv 2),(72,.wv 0 1 lo2 n2),(73,ints n2),(74,ints i)],[.row 218 1 (ls o'),.row 218 1 (ls u')]++[.row 5 1 ((Nm.a5m W i).map F9)]⟩) (fun i=>i<=n2) (fun i=>n2-i) 0 (c6Z _) (by (repeat first|refine uA ?_|(refine ⟨?_,?_⟩;focus first|rfl|trivial|(simp [slot];done))|rfl|trivial|simp)) ?_
    intro i hi
    simp only [ints,List.cons_append,List.nil_append]
    (repeat first|refine uA ?_|(apply uK;focus omega)|simp (disch:=omega) only [go_sem,Nat.reduceBEq])
    (refine uJ rfl (fun hc=>?_) fun hc=>?_)
    · have hi':i < n2:=by omega
      have hiW:i < W.length:=by omega
      have hgo:o'[lo2+i]?=some (W[i]'hiW):=by rw [hgw i hi',c6T hiW]
      have hgd:W.getD i 0=W[i]'hiW:=Nm.getD_lt hiW
      (repeat first|refine uA ?_|(apply uK;focus omega)|simp only [go_sem,Nat.reduceBEq,F8,O1,hgo,c6V,lm]|simp (disch:=omega) only [ww,F8,O1,hgo,c6V,lm])
      rw [<- Nm.b2t hiW]
      refine S.loop (X:=Nat) (fun k=>⟨[(6,.wv 0 1 lo2 n2),(7,ints p),(8,ints q),(9,.rv 2),(72,.wv 0 1 lo2 n2),(73,ints n2),(74,ints i),(10,ints i),(11,.v (.int .u64 (W[i]'hiW:Int))),(79,ints k)],[.row 218 1 (ls o'),.row 218 1 (ls u')]++[.row 5 1 ((Nm.a1W W i k).map F9)]⟩) (fun k=>k<=8) (fun k=>8-k) 0 (c6Z _) (by (repeat first|refine uA ?_|(refine ⟨?_,?_⟩;focus first|rfl|trivial|(simp [slot];done))|rfl|trivial|simp)) ?_
      intro k hk
      simp only [ints,List.cons_append,List.nil_append]
      have hlk:=Nm.b5y hua hiW hk
      (repeat first|refine uA ?_|(apply uK;focus omega)|simp (disch:=omega) only [go_sem,Nat.reduceBEq])
      (refine uJ rfl (fun hc=>?_) fun hc=>?_)
      · have hk':k < 8:=by omega
        have hst:=Nm.b2Y (l:=W) (i:=i) hk'
        rw [hgd] at hst
        have hbv:IntKind.u8.wrap (Int.fdiv ((W[i]'hiW:Nat):Int) (2 ^ min (56-8*(k:Int)).toNat 64))=(((Nm.oB ((W[i]'hiW) / 2 ^ (56-8*k))).toNat:Nat):Int):=by
          rw [<- a6H,show min (56-8*(k:Int)).toNat 64=56-8*k by omega]
          congr 2
        have hix:(8*((n2:Int)-1-(i:Int))+(k:Int)).toNat=8*(W.length-1-i)+k:=by omega
        have hgk:(Nm.a1W W i k)[8*(W.length-1-i)+k]?=some ((Nm.a1W W i k)[8*(W.length-1-i)+k]'(by omega)):=c6T (by omega)
        (repeat first|refine uA ?_|(apply uK;focus omega)|simp only [go_sem,Nat.reduceBEq,Nat.reduceAdd,Nat.reduceLeDiff,c6U,c7f,a7P,hst]|simp (disch:=omega) only [ww,hbv,hix,hgk,c6V,F9])
        refine S.next (x:=k) (k+1) hk' (by omega) (by (repeat first|refine uA ?_|(refine ⟨?_,?_⟩;focus first|rfl|trivial|(simp [slot];done))|rfl|trivial|simp))
      · have hk8:k=8:=by omega
        subst hk8
        rw [Nm.b0C hiW]
        (repeat first|refine uA ?_|(apply uK;focus omega)|simp (disch:=omega) only [go_sem,Nat.reduceBEq,ww])
        refine S.next (x:=i) (i+1) hi' (by omega) (by (repeat first|refine uA ?_|(refine ⟨?_,?_⟩;focus first|rfl|trivial|(simp [slot];done))|rfl|trivial|simp))
    · have hi':i=n2:=by omega
      subst hi'
      rw [<- hul,Nm.b4u]
      have hr1:((r / 8:Nat):Int)+1=((r / 8+1:Nat):Int):=by omega
      have hrep:List.replicate (((r / 8+1:Nat):Int)).toNat [C.v (.int .u8 0)]=(List.replicate (r / 8+1) (0:UInt8)).map F9:=by rw [<- a3r];rfl
      have hrm:(r:Int).tmod 8=((r % 8:Nat):Int):=b4P r
      have hpw:IntKind.u8.wrap (1*2 ^ min (r % 8) 8)=(((Nm.oB (2 ^ (r % 8))).toNat:Nat):Int):=by
        rw [show min (r % 8) 8=r % 8 by omega,Nm.a2b,<- a2c];congr 1;simp
      have hby:a0a ([C.v (.int .u8 (((Nm.oB (2 ^ (r % 8))).toNat:Nat):Int))]::List.replicate (r / 8) [C.v (.int .u8 0)])=some (Nm.oB (2 ^ (r % 8))::List.replicate (r / 8) 0):=by
        rw [a3r];exact a0t (Nm.oB (2 ^ (r % 8))::List.replicate (r / 8) 0)
      (repeat first|refine uA ?_|(apply uK;focus omega)|simp only [go_sem,Nat.reduceBEq,Nat.reduceAdd,Nat.reduceLeDiff,hmn,hqm,hr1,hrm,hpw,hby,a0t,a6G,c7a]|simp (disch:=omega) only [ww,c7a]|(apply uB hfm;exact rfl))
      exact S.done (j3.out rfl (Imp.refl rfl) rfl)
  · refine S.loop (X:=Nat) (fun i=>⟨[(6,.wv 1 1 lo2 n2),(7,ints p),(8,ints q),(9,.rv 2),(72,.wv 1 1 lo2 n2),(73,ints n2),(74,ints i)],[.row 218 1 (ls u'),.row 218 1 (ls o')]++[.row 5 1 ((Nm.a5m W i).map F9)]⟩) (fun i=>i<=n2) (fun i=>n2-i) 0 (c6Z _) (by (repeat first|refine uA ?_|(refine ⟨?_,?_⟩;focus first|rfl|trivial|(simp [slot];done))|rfl|trivial|simp)) ?_
    intro i hi
    simp only [ints,List.cons_append,List.nil_append]
    (repeat first|refine uA ?_|(apply uK;focus omega)|simp (disch:=omega) only [go_sem,Nat.reduceBEq])
    (refine uJ rfl (fun hc=>?_) fun hc=>?_)
    · have hi':i < n2:=by omega
      have hiW:i < W.length:=by omega
      have hgo:o'[lo2+i]?=some (W[i]'hiW):=by rw [hgw i hi',c6T hiW]
      have hgd:W.getD i 0=W[i]'hiW:=Nm.getD_lt hiW
      (repeat first|refine uA ?_|(apply uK;focus omega)|simp only [go_sem,Nat.reduceBEq,F8,O1,hgo,c6V,lm]|simp (disch:=omega) only [ww,F8,O1,hgo,c6V,lm])
      rw [<- Nm.b2t hiW]
      refine S.loop (X:=Nat) (fun k=>⟨[(6,.wv 1 1 lo2 n2),(7,ints p),(8,ints q),(9,.rv 2),(72,.wv 1 1 lo2 n2),(73,ints n2),(74,ints i),(10,ints i),(11,.v (.int .u64 (W[i]'hiW:Int))),(79,ints k)],[.row 218 1 (ls u'),.row 218 1 (ls o')]++[.row 5 1 ((Nm.a1W W i k).map F9)]⟩) (fun k=>k<=8) (fun k=>8-k) 0 (c6Z _) (by (repeat first|refine uA ?_|(refine ⟨?_,?_⟩;focus first|rfl|trivial|(simp [slot];done))|rfl|trivial|simp)) ?_
      intro k hk
      simp only [ints,List.cons_append,List.nil_append]
      have hlk:=Nm.b5y hua hiW hk
      (repeat first|refine uA ?_|(apply uK;focus omega)|simp (disch:=omega) only [go_sem,Nat.reduceBEq])
      (refine uJ rfl (fun hc=>?_) fun hc=>?_)
      · have hk':k < 8:=by omega
        have hst:=Nm.b2Y (l:=W) (i:=i) hk'
        rw [hgd] at hst
        have hbv:IntKind.u8.wrap (Int.fdiv ((W[i]'hiW:Nat):Int) (2 ^ min (56-8*(k:Int)).toNat 64))=(((Nm.oB ((W[i]'hiW) / 2 ^ (56-8*k))).toNat:Nat):Int):=by
          rw [<- a6H,show min (56-8*(k:Int)).toNat 64=56-8*k by omega]
          congr 2
        have hix:(8*((n2:Int)-1-(i:Int))+(k:Int)).toNat=8*(W.length-1-i)+k:=by omega
        have hgk:(Nm.a1W W i k)[8*(W.length-1-i)+k]?=some ((Nm.a1W W i k)[8*(W.length-1-i)+k]'(by omega)):=c6T (by omega)
        (repeat first|refine uA ?_|(apply uK;focus omega)|simp only [go_sem,Nat.reduceBEq,Nat.reduceAdd,Nat.reduceLeDiff,c6U,c7f,a7P,hst]|simp (disch:=omega) only [ww,hbv,hix,hgk,c6V,F9])
        refine S.next (x:=k) (k+1) hk' (by omega) (by (repeat first|refine uA ?_|(refine ⟨?_,?_⟩;focus first|rfl|trivial|(simp [slot];done))|rfl|trivial|simp))
      · have hk8:k=8:=by omega
        subst hk8
        rw [Nm.b0C hiW]
        (repeat first|refine uA ?_|(apply uK;focus omega)|simp (disch:=omega) only [go_sem,Nat.reduceBEq,ww])
        refine S.next (x:=i) (i+1) hi' (by omega) (by (repeat first|refine uA ?_|(refine ⟨?_,?_⟩;focus first|rfl|trivial|(simp [slot];done))|rfl|trivial|simp))
    · have hi':i=n2:=by omega
      subst hi'
      rw [<- hul,Nm.b4u]
      have hr1:((r / 8:Nat):Int)+1=((r / 8+1:Nat):Int):=by omega
      have hrep:List.replicate (((r / 8+1:Nat):Int)).toNat [C.v (.int .u8 0)]=(List.replicate (r / 8+1) (0:UInt8)).map F9:=by rw [<- a3r];rfl
      have hrm:(r:Int).tmod 8=((r % 8:Nat):Int):=b4P r
      have hpw:IntKind.u8.wrap (1*2 ^ min (r % 8) 8)=(((Nm.oB (2 ^ (r % 8))).toNat:Nat):Int):=by
        rw [show min (r % 8) 8=r % 8 by omega,Nm.a2b,<- a2c];congr 1;simp
      have hby:a0a ([C.v (.int .u8 (((Nm.oB (2 ^ (r % 8))).toNat:Nat):Int))]::List.replicate (r / 8) [C.v (.int .u8 0)])=some (Nm.oB (2 ^ (r % 8))::List.replicate (r / 8) 0):=by
        rw [a3r];exact a0t (Nm.oB (2 ^ (r % 8))::List.replicate (r / 8) 0)
      (repeat first|refine uA ?_|(apply uK;focus omega)|simp only [go_sem,Nat.reduceBEq,Nat.reduceAdd,Nat.reduceLeDiff,hmn,hqm,hr1,hrm,hpw,hby,a0t,a6G,c7a]|simp (disch:=omega) only [ww,c7a]|(apply uB hfm;exact rfl))
      exact S.done (j3.out rfl (Imp.refl rfl) rfl)
theorem c2u (a b:List UInt8) (ha:a.length<=68719476736) (hb:b.length<=68719476736):FZ 142 [sb a,sb b] (sb (Nm.enc (Nat.gcd (Nm.val a) (Nm.val b)))):=by
  refine kW Tryz.func142 (by cbv) (by rfl) fun w O hw=>?_
  simp only [j5,TT,II,OA,OC,MM,MG,sb]
  have hta:=Nm.Y4 a
  have htb:=Nm.Y4 b
  have hva:=Nm.R6 a
  have hvb:=Nm.R6 b
  have hca:=Nm.X7 a
  have hcb:=Nm.X7 b
  have fta:=a0p a (by omega)
  have ftb:=a0p b (by omega)
  rw [<- hva,<- hvb]
  clear hva hvb
  generalize Nm.trim a=x at *
  generalize Nm.trim b=y at *
  generalize hG:Nat.gcd (Nm.val x) (Nm.val y)=G at *
  (repeat first|refine uA ?_|(refine uK ?_ ?_;focus first|omega|(intros;simp_all<;>omega))|simp (disch:=omega) only [go_sem,Nat.reduceBEq,Nat.reduceAdd]|(refine uB fta ?_ ?_;exact rfl)|(refine uB ftb ?_ ?_;exact rfl))
  refine S.loop (X:=List UInt8 × List UInt8) (fun s=>⟨[(0,sb s.1),(1,sb s.2)],[]⟩) (fun s=>Nm.canon s.1/\Nm.canon s.2/\s.1.length<=68719476736/\s.2.length<=68719476736/\Nat.gcd (Nm.val s.1) (Nm.val s.2)=G) (fun s=>Nm.val s.1+Nm.val s.2) (x,y) ⟨hca,hcb,by simp only;omega,by simp only;omega,hG⟩ (by (repeat first|refine uA ?_|(refine ⟨?_,?_⟩;focus first|rfl|simp [slot])|rfl|simp)) ?_
  clear fta ftb hca hcb hta htb hG
  rintro ⟨x,y⟩ ⟨hcx,hcy,hlx,hly,hG⟩
  simp only [sb] at hcx hcy hlx hly hG ⊢
  (repeat first|refine uA ?_|(refine uK ?_ ?_;focus first|omega|(intros;simp_all<;>omega))|simp (disch:=omega) only [go_sem,Nat.reduceBEq])
  (refine uJ rfl (fun hc=>?_) fun hc=>?_)
  · rw [a0l,a0l] at hc
    have hne:=hc
    refine S.skip ?_
    refine S.block ?_
    refine S.seq ?_
    refine S.join (Y:=List UInt8 × List UInt8) (fun s=>⟨[(0,sb s.1),(1,sb s.2)],[]⟩) (fun s=>Nm.canon s.1/\Nm.canon s.2/\s.1.length<=68719476736/\s.2.length<=s.1.length/\Nat.gcd (Nm.val s.1) (Nm.val s.2)=G/\s.1 ≠ []/\s.2 ≠ []/\Nm.val s.1+Nm.val s.2=Nm.val x+Nm.val y) ?_ ?_
    · (repeat first|refine uA ?_|(refine uK ?_ ?_;focus first|omega|(intros;simp_all<;>omega))|simp (disch:=omega) only [go_sem,Nat.reduceBEq,F4])
      (refine uJ rfl (fun hc=>?_) fun hc=>?_)
      · (repeat first|refine uA ?_|(refine uK ?_ ?_;focus first|omega|(intros;simp_all<;>omega))|simp (disch:=omega) only [go_sem,Nat.reduceBEq])
        exact S.met (⟨y,x⟩:List UInt8 × List UInt8) ⟨hcy,hcx,hly,by simp only;omega,by rw [Nat.gcd_comm];exact hG,hne.2,hne.1,by simp only;omega⟩ (by (repeat first|refine uA ?_|(refine ⟨?_,?_⟩;focus first|rfl|simp [slot])|rfl|simp))
      · (repeat first|refine uA ?_|(refine uK ?_ ?_;focus first|omega|(intros;simp_all<;>omega))|simp (disch:=omega) only [go_sem,Nat.reduceBEq,Nat.reduceAdd,ww])
        exact S.met (⟨x,y⟩:List UInt8 × List UInt8) ⟨hcx,hcy,hlx,by simp only;omega,hG,hne.1,hne.2,rfl⟩ (by (repeat first|refine uA ?_|(refine ⟨?_,?_⟩;focus first|rfl|simp [slot])|rfl|simp))
    clear hcx hcy hlx hly hG hc hne
    rintro ⟨p,q⟩ ⟨hcx,hcy,hlx,hly,hG,hp0,hq0,hsum⟩
    simp only [sb] at hcx hcy hlx hly hG hp0 hq0 hsum ⊢
    have hvp:Nm.val p ≠ 0:=fun h=>hp0 ((Nm.val_zero hcx).1 h)
    have hvq:Nm.val q ≠ 0:=fun h=>hq0 ((Nm.val_zero hcy).1 h)
    (repeat first|refine uA ?_|(refine uK ?_ ?_;focus first|omega|(intros;simp_all<;>omega))|simp (disch:=omega) only [go_sem,Nat.reduceBEq,F4])
    (refine uJ rfl (fun hc=>?_) fun hc=>?_)
    · have hx7:=Nm.a0q (l:=p) (k:=8) (by omega)
      have hy7:=Nm.a0q (l:=q) (k:=8) (by omega)
      have e1:Nm.val p % 18446744073709551616=Nm.val p:=Nat.mod_eq_of_lt (by omega)
      have e2:Nm.val q % 18446744073709551616=Nm.val q:=Nat.mod_eq_of_lt (by omega)
      have fx:=a1I p (by omega)
      have fy:=a1I q (by omega)
      rw [e1] at fx
      rw [e2] at fy
      have hco:=b4v (Nm.val p) (Nm.val q) (by omega) (by omega)
      rw [hG] at hco
      have hle:G<=Nm.val q:=by rw [<- hG];exact Nat.gcd_le_right _ (by omega)
      have hf:=a0x G (by omega)
      (repeat first|refine uA ?_|(refine uK ?_ ?_;focus first|omega|(intros;simp_all<;>omega))|simp (disch:=omega) only [go_sem,Nat.reduceBEq]|(refine uB fx ?_ ?_;exact rfl)|(refine uB fy ?_ ?_;exact rfl)|(refine uB hco ?_ ?_;exact rfl)|(refine uB hf ?_ ?_;exact rfl))
      exact S.done (j3.out rfl (Imp.refl rfl) rfl)
    (repeat first|refine uA ?_|(refine uK ?_ ?_;focus first|omega|(intros;simp_all<;>omega))|simp (disch:=omega) only [go_sem,Nat.reduceBEq,ww,F4])
    (refine uJ rfl (fun hc=>?_) fun hc=>?_)
    · have hh:=c1F p q hlx (by omega) hvp hvq
      rw [hG] at hh
      (repeat first|refine uA ?_|(refine uK ?_ ?_;focus first|omega|(intros;simp_all<;>omega))|simp (disch:=omega) only [go_sem,Nat.reduceBEq]|(refine uD hh ?_ ?_ ?_;exact tz hw;exact rfl))
      exact S.done (j3.out rfl (Imp.refl rfl) rfl)
    · have hd:=b3C p q (by omega) (by omega) hvq
      have hlt:Nm.val p % Nm.val q < Nm.val q:=Nat.mod_lt _ (by omega)
      have hlq:=Nm.Y7 q
      have hpq:=Nm.a2O hcx (a:=q) (b:=p) (by omega)
      have hrl:(Nm.enc (Nm.val p % Nm.val q)).length<=q.length:=Nm.F3 (by omega)
      (repeat first|refine uA ?_|(refine uK ?_ ?_;focus first|omega|(intros;simp_all<;>omega))|simp (disch:=omega) only [go_sem,Nat.reduceBEq]|(refine uB hd ?_ ?_;exact rfl))
      refine S.next (x:=(x,y)) (q,Nm.enc (Nm.val p % Nm.val q)) ⟨hcy,Nm.a2A _,by simp only;omega,by simp only;omega,?_⟩ (by simp only [Nm.H8];omega) (by (repeat first|refine uA ?_|(refine ⟨?_,?_⟩;focus first|rfl|simp [slot])|rfl|simp))
      simp only [Nm.H8]
      rw [Nat.gcd_comm,<- Nat.gcd_rec,Nat.gcd_comm];exact hG
  · have hr:Nm.enc G=x++y:=by
      rw [a0l,a0l] at hc
      rcases Classical.em (x=[]) with h|h
      · subst h
        rw [Nm.b1G,Nat.gcd_zero_left] at hG
        rw [<- hG,Nm.a1v hcy];rfl
      · have hy:y=[]:=by
          rcases hc with hc|hc
          · exact absurd hc h
          · exact hc
        subst hy
        rw [Nm.b1G,Nat.gcd_zero_right] at hG
        rw [<- hG,Nm.a1v hcx,List.append_nil]
    rw [hr]
    (repeat first|refine uA ?_|(refine uK ?_ ?_;focus first|omega|(intros;simp_all<;>omega))|simp (disch:=omega) only [go_sem,Nat.reduceBEq,c4y,F4])
    exact S.done (j3.out rfl (Imp.refl rfl) rfl)
def rc (a:Nm.Rt):C:=.agg [.v (.bool a.neg),sb a.num,sb a.den]
def rq (q:Rat):C:=rc (Nm.ofQ q)
def Rb (k:Nat) (a:Nm.Rt):Prop:=a.num.length<=k/\a.den.length<=k
theorem a6D (l:List UInt8):(bs l=(⟨#[1]⟩:ByteArray))=(l=[1]):=b7O l [1]
theorem b2x (l:List UInt8):Nm.canon l <-> (l=[] \/ l.getD 0 0 ≠ 0):=by
 cases l with
 | nil=>simp [Nm.a8d]
 | cons b r=>
  simp only [List.getD_cons_zero,reduceCtorEq,false_or]
  constructor
  ·intro h h0;exact h r (by rw [h0])
  ·intro h q e;injection e with e1 _;exact h e1
theorem a1A (a:Nm.Rt) (ha:Rb 68719476736 a):FZ 95 [rc a] (.v (.bool (decide a.H9))):=by
  refine kW Tryz.func95 (by cbv) (by rfl) fun w O hw=>?_
  obtain ⟨neg,num,den⟩:=a
  obtain ⟨hn,hd⟩:=ha
  simp only [rc] at hn hd ⊢
  simp only [j5,TT,II,OA,OC,MM,VV,FF,MG,VG,FG,sb]
  have hg:=c2u num den (by omega) (by omega)
  have hgood:Nm.Rt.H9 ⟨neg,num,den⟩ <-> den ≠ []/\Nm.canon den/\Nm.canon num/\(num=[]->neg=false/\den=[1])/\(den=[1] \/ Nat.gcd (Nm.val num) (Nm.val den)=1):=Iff.rfl
  rw [b2x,b2x] at hgood
  have hdl:(!decide (den=[]))=true->0 < (den.length:Int):=fun h=>by
    have:den ≠ []:=by simpa using h
    have:=List.length_pos_iff.2 this
    omega
  have hnl:num ≠ []->0 < (num.length:Int):=fun h=>by
    have:=List.length_pos_iff.2 h
    omega
  have hgb0:∀ {p:Prop} [Decidable p],(Nm.Rt.H9 ⟨neg,num,den⟩ <-> p)->decide (Nm.Rt.H9 ⟨neg,num,den⟩)=decide p:=fun h=>decide_eq_decide.2 h
  have hgb:=hgb0 hgood
  clear hgood hgb0
  generalize decide (Nm.Rt.H9 ⟨neg,num,den⟩)=gb at *
  (repeat first|refine uA ?_|(refine uK ?_ ?_;focus first|omega|trivial|(intro h;rw [h];rfl)|(intro h h2;rw [h,h2];rfl)|(intro h;(try simp at h);omega)|(intros;simp_all<;>omega))|simp only [go_sem,Nat.reduceBEq,Nat.reduceAdd,F4,a0i,a8A,a0l,a6D]|simp (disch:=omega) only [ww,F4,a0i,a8A,a0l,a6D])
  refine S.cond rfl (fun hc=>?_) (fun hc=>?_)
  · have:gb=false:=by
      rw [hgb,c7u]
      simp only [c7K,c7c,c7h,Bool.not_eq_true',c7u] at hc
      grind
    rw [this]
    (repeat first|refine uA ?_|(refine uK ?_ ?_;focus first|omega|trivial|(intro h;rw [h];rfl)|(intro h h2;rw [h,h2];rfl)|(intro h;(try simp at h);omega)|(intros;simp_all<;>omega))|simp only [go_sem]|simp (disch:=omega) only [ww])
    exact S.done (j3.out rfl (Imp.refl rfl) rfl)
  · have hone:(Nm.enc (Nat.gcd (Nm.val num) (Nm.val den))=[1])=(Nat.gcd (Nm.val num) (Nm.val den)=1):=by
      rw [<- Nm.Q5]
      exact propext ⟨Nm.b2f,fun h=>by rw [h]⟩
    have:gb=(decide (den=[1]) || decide (Nat.gcd (Nm.val num) (Nm.val den)=1)):=by
      rw [hgb,<- Bool.decide_or]
      simp only [c7H,Bool.and_eq_false_iff,c7h,Bool.not_eq_false',c7u] at hc
      refine decide_eq_decide.2 ⟨fun h=>h.2.2.2.2,fun h=>?_⟩
      grind
    rw [this]
    (repeat first|refine uA ?_|(refine uK ?_ ?_;focus first|omega|trivial|(intro h;rw [h];rfl)|(intro h h2;rw [h,h2];rfl)|(intro h;(try simp at h);omega)|(intros;simp_all<;>omega))|simp only [go_sem,Nat.reduceBEq,Nat.reduceAdd,a6D,hone]|simp (disch:=omega) only [ww,a0l,a6D,hone]|(refine uD hg ?_ ?_ ?_;exact tz hw;exact rfl))
    exact S.done (j3.out rfl (Imp.refl rfl) rfl)
theorem b9j:y9 Tryz.prog 103 [] (rc Nm.a3I):=by
 refine kS Tryz.func103 (by cbv) (by rfl) fun w O=>?_
 simp only [j5,TT,OA,OB,rc,Nm.a3I,sb]
 (repeat first|refine uA ?_|(apply uK;focus omega)|simp (disch:=omega) only [go_sem,Nat.reduceBEq])
 (refine S.done ?_;simp only [p8,r9,go_sem,Nat.reduceBEq,Nat.reduceAdd,Nat.reduceLeDiff];(repeat (refine ⟨?_,?_⟩;focus first|trivial|omega|simp));exact j3.out rfl (Imp.refl rfl) rfl)
theorem c5S (a:Nm.Rt) (ha:Rb 68719476736 a):FZ 40 [rc a] (rq (Nm.d9 a)):=by
 refine kW Tryz.func40 (by cbv) (by rfl) fun w O hw=>?_
 have hg:=a1A a ha
 have fz:=b9j
 unfold rq
 by_cases h:a.H9
 ·rw [Nm.b9p h]
  rw [show decide a.H9=true from decide_eq_true h] at hg
  simp only [j5,TT,OA,OB,LL,rc,sb] at hg ⊢
  (repeat first|refine uA ?_|(apply uK;focus omega)|simp (disch:=omega) only [go_sem,Nat.reduceBEq]|(apply uD hg;exact tz hw;rfl))
  exact S.cond rfl (fun hc=>by cases hc) (fun _=>by
   (repeat first|refine uA ?_|(apply uK;focus omega)|simp (disch:=omega) only [go_sem,Nat.reduceBEq])
   (refine S.done ?_;simp only [p8,r9,go_sem,Nat.reduceBEq,Nat.reduceAdd,Nat.reduceLeDiff];(repeat (refine ⟨?_,?_⟩;focus first|trivial|omega|simp));exact j3.out rfl (Imp.refl rfl) rfl))
 ·have e:Nm.ofQ (Nm.d9 a)=Nm.a3I:=by unfold Nm.d9;rw [if_neg h,Nm.a4Z]
  rw [e]
  rw [show decide a.H9=false from decide_eq_false h] at hg
  simp only [j5,TT,OA,OB,LL,rc,sb,Nm.a3I] at hg fz ⊢
  (repeat first|refine uA ?_|(apply uK;focus omega)|simp (disch:=omega) only [go_sem,Nat.reduceBEq]|(apply uD hg;exact tz hw;rfl))
  exact S.cond rfl (fun _=>by
   (repeat first|refine uA ?_|(apply uK;focus omega)|simp (disch:=omega) only [go_sem,Nat.reduceBEq]|(apply uB fz;exact rfl))
   (refine S.done ?_;simp only [p8,r9,go_sem,Nat.reduceBEq,Nat.reduceAdd,Nat.reduceLeDiff];(repeat (refine ⟨?_,?_⟩;focus first|trivial|omega|simp));exact j3.out rfl (Imp.refl rfl) rfl)) (fun hc=>by cases hc)
theorem c3E {n d k:Nat} (hd:0 < d) (h:(Nm.enc d).length<=k):(Nm.enc (Nat.gcd n d)).length<=k:=Nm.F3 (Nat.lt_of_le_of_lt (Nat.gcd_le_right n hd) (Nm.Y3 h))
theorem a2Y (neg:Bool) (n d:Nat) (hd:d ≠ 0) (hn:(Nm.enc n).length<=68719476736) (hdl:(Nm.enc d).length<=68719476736) :
  FZ 100 [.v (.bool neg),sb (Nm.enc n),sb (Nm.enc d)] (rq (mkRat (Nm.sgn neg n) d)):=by
 refine kW Tryz.func100 (by cbv) (by rfl) fun w O hw=>?_
 have fz:=b9j
 have hg:=c2u (Nm.enc n) (Nm.enc d) hn hdl
 rw [Nm.H8,Nm.H8] at hg
 unfold rq
 rw [<- Nm.b1z neg hd]
 have hz:(Nm.enc n=[])=(n=0):=propext ⟨fun h=>Classical.byContradiction fun h0=>Nm.a6g h0 h,fun h=>by rw [h,Nm.a0W]⟩
 have h1:∀ d,(Nm.enc d=[1])=(d=1):=fun d=>by
  rw [<- Nm.Q5];exact propext ⟨Nm.b2f,fun h=>by rw [h]⟩
 have hgp:Nat.gcd n d ≠ 0:=fun h=>hd (Nat.eq_zero_of_gcd_eq_zero_right h)
 have hgl:(Nm.enc (Nat.gcd n d)).length<=68719476736:=by
  exact c3E (by omega) hdl
 have hd1:=b3C (Nm.enc n) (Nm.enc (Nat.gcd n d)) (by omega) (by omega) (by rw [Nm.H8];exact hgp)
 have hd2:=b3C (Nm.enc d) (Nm.enc (Nat.gcd n d)) (by omega) (by omega) (by rw [Nm.H8];exact hgp)
 simp only [Nm.H8] at hd1 hd2
 generalize hgg:Nat.gcd n d=g at *
 simp only [j5,TT,OA,OB,MM,sb]
 (repeat first|refine uA ?_|(apply uK;focus first|omega|(intros;simp_all<;>omega))|simp (disch:=omega) only [go_sem,Nat.reduceBEq,Nat.reduceAdd,a0l,hz])
 (refine uJ rfl (fun hc=>?_) fun hc=>?_)
 ·rw [if_pos hc]
  simp only [rc,Nm.a3I,sb] at fz ⊢
  (repeat first|refine uA ?_|(apply uK;focus omega)|simp (disch:=omega) only [go_sem,Nat.reduceBEq]|(apply uB fz;exact rfl))
  (refine S.done ?_;simp only [p8,r9,go_sem,Nat.reduceBEq,Nat.reduceAdd,Nat.reduceLeDiff];(repeat (refine ⟨?_,?_⟩;focus first|trivial|omega|simp));exact j3.out rfl (Imp.refl rfl) rfl)
 rw [if_neg hc]
 simp only [rc,sb]
 (repeat first|refine uA ?_|(apply uK;focus omega)|simp (disch:=omega) only [go_sem,Nat.reduceBEq,a6D,h1])
 (refine uJ rfl (fun hc=>?_) fun hc=>?_)
 ·(repeat first|refine uA ?_|(apply uK;focus omega)|simp (disch:=omega) only [go_sem,Nat.reduceBEq,a6D,h1]|(apply uD hg;exact tz hw;rfl))
  (refine uJ rfl (fun hc=>?_) fun hc=>?_)
  ·(repeat first|refine uA ?_|(apply uK;focus omega)|simp (disch:=omega) only [go_sem,Nat.reduceBEq]|(apply uB hd1;exact rfl)|(apply uB hd2;exact rfl))
   (refine S.done ?_;simp only [p8,r9,go_sem,Nat.reduceBEq,Nat.reduceAdd,Nat.reduceLeDiff];(repeat (refine ⟨?_,?_⟩;focus first|trivial|omega|simp));exact j3.out rfl (Imp.refl rfl) rfl)
  ·rw [hc,Nat.div_one,Nat.div_one]
   (repeat first|refine uA ?_|(apply uK;focus omega)|simp (disch:=omega) only [go_sem,Nat.reduceBEq])
   (refine S.done ?_;simp only [p8,r9,go_sem,Nat.reduceBEq,Nat.reduceAdd,Nat.reduceLeDiff];(repeat (refine ⟨?_,?_⟩;focus first|trivial|omega|simp));exact j3.out rfl (Imp.refl rfl) rfl)
 ·rw [hc,Nat.gcd_one_right] at hgg
  subst hgg
  rw [hc,Nat.div_one,Nat.div_one]
  (repeat first|refine uA ?_|(apply uK;focus omega)|simp (disch:=omega) only [go_sem,Nat.reduceBEq])
  (refine S.done ?_;simp only [p8,r9,go_sem,Nat.reduceBEq,Nat.reduceAdd,Nat.reduceLeDiff];(repeat (refine ⟨?_,?_⟩;focus first|trivial|omega|simp));exact j3.out rfl (Imp.refl rfl) rfl)
theorem b5h (neg mi:Bool) (a b:List UInt8) (ha:a.length<=68719476736) (hb:b.length<=68719476736) :
  y9 Tryz.prog 99 [.v (.bool neg),sb a,.v (.bool mi),sb b] (.tup [.v (.bool (Nm.N8 neg (Nm.val a) mi (Nm.val b)).1),sb (Nm.enc (Nm.N8 neg (Nm.val a) mi (Nm.val b)).2)]):=by
 refine kS Tryz.func99 (by cbv) (by rfl) fun w O=>?_
 have hadd:=f_add a b (by omega) (by omega)
 have hs1:=c2N a b (by omega) (by omega)
 have hs2:=c2N b a (by omega) (by omega)
 simp only [j5,TT,II,OA,MM,sb]
 (repeat first|refine uA ?_|(apply uK;focus first|omega|(intros;simp_all<;>omega))|simp (disch:=omega) only [go_sem,Nat.reduceBEq,Nat.reduceAdd])
 refine S.cond rfl (fun hc=>?_) (fun hc=>?_)
 ·have e:neg=mi:=by simpa using hc
  subst e
  unfold Nm.N8
  rw [if_pos rfl]
  (repeat first|refine uA ?_|(apply uK;focus omega)|simp (disch:=omega) only [go_sem,Nat.reduceBEq]|(apply uB hadd;exact rfl))
  exact S.done (j3.out rfl (Imp.refl rfl) rfl)
 ·have e:neg ≠ mi:=by simpa using hc
  unfold Nm.N8
  rw [if_neg e]
  by_cases h:Nm.val b<=Nm.val a
  ·rw [if_pos h]
   have e1:H6 (Nm.val a) (Nm.val b)=Nm.enc (Nm.val a-Nm.val b):=by unfold H6;rw [if_pos h]
   have e2:a5n (Nm.val a) (Nm.val b)=0:=by unfold a5n;rw [if_pos h]
   rw [e1,e2] at hs1
   (repeat first|refine uA ?_|(apply uK;focus omega)|simp (disch:=omega) only [go_sem,Nat.reduceBEq]|(apply uB hs1;exact rfl))
   refine S.cond rfl (fun hc=>?_) (fun hc=>?_)
   ·(repeat first|refine uA ?_|(apply uK;focus omega)|simp (disch:=omega) only [go_sem,Nat.reduceBEq])
    exact S.done (j3.out rfl (Imp.refl rfl) rfl)
   ·simp at hc
  ·rw [if_neg h]
   have e1:H6 (Nm.val a) (Nm.val b)=[]:=by unfold H6;rw [if_neg h]
   have e2:a5n (Nm.val a) (Nm.val b)=1:=by unfold a5n;rw [if_neg h]
   have e3:H6 (Nm.val b) (Nm.val a)=Nm.enc (Nm.val b-Nm.val a):=by unfold H6;rw [if_pos (by omega)]
   have e4:a5n (Nm.val b) (Nm.val a)=0:=by unfold a5n;rw [if_pos (by omega)]
   rw [e1,e2] at hs1
   rw [e3,e4] at hs2
   (repeat first|refine uA ?_|(apply uK;focus omega)|simp (disch:=omega) only [go_sem,Nat.reduceBEq]|(apply uB hs1;exact rfl))
   refine S.cond rfl (fun hc=>?_) (fun hc=>?_)
   ·simp at hc
   ·(repeat first|refine uA ?_|(apply uK;focus omega)|simp (disch:=omega) only [go_sem,Nat.reduceBEq]|(apply uB hs2;exact rfl))
    exact S.done (j3.out rfl (Imp.refl rfl) rfl)
namespace Nm
theorem J7 {a b k m:Nat} (ha:(enc a).length<=k) (hb:(enc b).length<=m):(enc (a*b)).length<=k+m:=by
 refine F3 ?_
 rw [Nat.pow_add]
 exact Nat.mul_lt_mul'' (Y3 ha) (Y3 hb)
theorem a1X {a b k:Nat} (ha:(enc a).length<=k) (hb:(enc b).length<=k):(enc (a+b)).length<=k+1:=by
 refine F3 ?_
 have h1:=Y3 ha
 have h2:=Y3 hb
 rw [c7F];omega
theorem a2r {a b:Nat} (h:a<=b):(enc a).length<=(enc b).length:=F3 (Nat.lt_of_le_of_lt h (Y3 (c7b _)))
theorem a6V (neg:Bool) (a:Nat) (mi:Bool) (b:Nat):(N8 neg a mi b).2<=a+b:=by
 unfold N8;repeat' split
 all_goals simp only;omega
theorem add_same {p q:Rat} (h:p.den=q.den):p+q=mkRat (p.num+q.num) p.den:=by
 rw [Rat.add_def',<- h,<- Int.add_mul,Rat.mkRat_mul_right p.den_nz]
theorem a8C (p:Rat):sgn (decide (p.num < 0)) p.num.natAbs=p.num:=b6K p
theorem c1A {p q:Rat} (h:p.den=q.den):mkRat (sgn (N8 (decide (p.num < 0)) p.num.natAbs (decide (q.num < 0)) q.num.natAbs).1 (N8 (decide (p.num < 0)) p.num.natAbs (decide (q.num < 0)) q.num.natAbs).2) p.den=p+q:=by
 rw [b2K,a8C,a8C,add_same h]
theorem b2L (p q:Rat):mkRat (sgn (N8 (decide (p.num < 0)) (p.num.natAbs*q.den) (decide (q.num < 0)) (q.num.natAbs*p.den)).1 (N8 (decide (p.num < 0)) (p.num.natAbs*q.den) (decide (q.num < 0)) (q.num.natAbs*p.den)).2) (p.den*q.den)=p+q:=by
 rw [b2K,a5T,a5T,a8C,a8C,Rat.add_def']
theorem b5n (p q:Rat):mkRat (sgn (decide (p.num < 0) != decide (q.num < 0)) (p.num.natAbs*q.num.natAbs)) (p.den*q.den)=p*q:=by
 rw [c3y,a8C,a8C,Rat.mul_def']
theorem b3S (p q:Rat) (h:q ≠ 0):mkRat (sgn (decide (p.num < 0) != decide (q.num < 0)) (p.num.natAbs*q.den)) (p.den*q.num.natAbs)=p / q:=by
 have hn:q.num ≠ 0:=fun e=>h (Rat.num_eq_zero.1 e)
 have hn':q.num.natAbs ≠ 0:=by omega
 generalize hr:mkRat (sgn (decide (p.num < 0) != decide (q.num < 0)) (p.num.natAbs*q.den)) (p.den*q.num.natAbs)=r
 have key:p=r*q:=by
  rw [<- hr]
  have e1:p=mkRat p.num p.den:=(Rat.mkRat_self p).symm
  have e2:q=mkRat q.num q.den:=(Rat.mkRat_self q).symm
  have hD:p.den*q.num.natAbs*q.den ≠ 0:=Nat.mul_ne_zero (Nat.mul_ne_zero p.den_nz hn') q.den_nz
  have e3:mkRat (sgn (decide (p.num < 0) != decide (q.num < 0)) (p.num.natAbs*q.den)) (p.den*q.num.natAbs)*q=mkRat (sgn (decide (p.num < 0) != decide (q.num < 0)) (p.num.natAbs*q.den)*q.num) (p.den*q.num.natAbs*q.den):=by
   conv=>lhs;rw [e2]
   rw [Rat.mkRat_mul_mkRat]
   simp only [Rat.mkRat_self]
  rw [e3]
  conv=>lhs;rw [e1]
  rw [Rat.mkRat_eq_iff p.den_nz hD]
  have hx:sgn (decide (p.num < 0) != decide (q.num < 0)) (p.num.natAbs*q.den)*q.num=p.num*((q.num.natAbs:Nat):Int)*q.den:=by
   rw [a5T]
   have:sgn (decide (p.num < 0) != decide (q.num < 0)) p.num.natAbs*q.num=p.num*((q.num.natAbs:Nat):Int):=by
    unfold sgn
    by_cases hA:p.num < 0
    ·by_cases hB:q.num < 0
     ·simp only [hA,hB,decide_true,bne_self_eq_false,c7C,if_false]
      have e1:((p.num.natAbs:Nat):Int)=-p.num:=by omega
      have e2:((q.num.natAbs:Nat):Int)=-q.num:=by omega
      rw [e1,e2];grind
     ·simp only [hA,hB,decide_true,decide_false,Bool.bne_false,if_true]
      have e1:((p.num.natAbs:Nat):Int)=-p.num:=by omega
      have e2:((q.num.natAbs:Nat):Int)=q.num:=by omega
      rw [e1,e2];grind
    ·by_cases hB:q.num < 0
     ·simp only [hA,hB,decide_true,decide_false,Bool.bne_true,Bool.not_false,if_true]
      have e1:((p.num.natAbs:Nat):Int)=p.num:=by omega
      have e2:((q.num.natAbs:Nat):Int)=-q.num:=by omega
      rw [e1,e2];grind
     ·simp only [hA,hB,decide_false,bne_self_eq_false,c7C,if_false]
      have e1:((p.num.natAbs:Nat):Int)=p.num:=by omega
      have e2:((q.num.natAbs:Nat):Int)=q.num:=by omega
      rw [e1,e2]
   calc sgn (decide (p.num < 0) != decide (q.num < 0)) p.num.natAbs*(q.den:Int)*q.num=(sgn (decide (p.num < 0) != decide (q.num < 0)) p.num.natAbs*q.num)*(q.den:Int):=by grind
    _=_:=by rw [this]
  rw [hx]
  push_cast
  grind
 rw [Rat.div_def]
 conv=>rhs;rw [key]
 rw [Rat.mul_assoc,Rat.mul_inv_cancel _ h,Rat.mul_one]
end Nm
theorem Rb.fit {k:Nat} {a:Nm.Rt} (h:Rb k a) (hk:1<=k):Rb k (Nm.ofQ (Nm.d9 a)):=by
 by_cases hg:a.H9
 ·rw [Nm.b9p hg];exact h
 ·have e:Nm.ofQ (Nm.d9 a)=Nm.a3I:=by unfold Nm.d9;rw [if_neg hg,Nm.a4Z]
  rw [e];exact ⟨c6Z _,hk⟩
theorem V4 (a:Nm.Rt) (ha:Rb 17179869184 a):FZ 40 [rc a] (rq (Nm.d9 a)):=c5S a ⟨by have:=ha.1;omega,by have:=ha.2;omega⟩
theorem c3n (a b:Nat):(Nm.enc a=Nm.enc b)=(a=b):=propext ⟨Nm.b2f,fun h=>by rw [h]⟩
theorem a2I (n:Nat):(Nm.enc n=[])=(n=0):=propext ⟨fun h=>Classical.byContradiction fun h0=>Nm.a6g h0 h,fun h=>by rw [h,Nm.a0W]⟩
theorem a1l (n:Int) (h1:-9223372036854775808<=n) (h2:n<=9223372036854775807):FZ 48 [ints n] (rq (n:Rat)):=by
 refine kW Tryz.func48 (by cbv) (by rfl) fun w O hw=>?_
 have hb:∀ k:Nat,k<=9223372036854775808->(Nm.enc k).length<=8:=fun k hk=>Nm.F3 (by omega)
 have e1:sb [1]=sb (Nm.enc 1):=by rw [Nm.Q5]
 simp only [j5,TT,II,OA,OB,MM,ints]
 (repeat first|refine uA ?_|(apply uK;focus omega)|simp (disch:=omega) only [go_sem,Nat.reduceBEq])
 (refine uJ rfl (fun hc=>?_) fun hc=>?_)
 ·have hof:=b5w n (by omega)
  have hm:=a2Y false n.toNat 1 (by decide) (by have:=hb n.toNat (by omega);omega) (by have:=hb 1 (by decide);omega)
  have e:mkRat (Nm.sgn false n.toNat) 1=(n:Rat):=by
   rw [Rat.mkRat_one];congr 1;unfold Nm.sgn;simp;omega
  rw [e,Nm.Q5] at hm
  simp only [rq,rc,sb,ints] at hm hof ⊢
  (repeat first|refine uA ?_|(apply uK;focus omega)|simp (disch:=omega) only [go_sem,Nat.reduceBEq]|(apply uB hof;exact rfl)|(apply uD hm;exact tz hw;rfl))
  (refine S.done ?_;simp only [p8,r9,go_sem,Nat.reduceBEq,Nat.reduceAdd,Nat.reduceLeDiff];(repeat (refine ⟨?_,?_⟩;focus first|trivial|omega|simp));exact j3.out rfl (Imp.refl rfl) rfl)
 ·have hof:=b5w (-(n+1)) (by omega)
  have hadd:=f_add (Nm.enc (-(n+1)).toNat) [1] (by have:=hb (-(n+1)).toNat (by omega);omega) (by decide)
  have hm:=a2Y true ((-(n+1)).toNat+1) 1 (by decide) (by have:=hb ((-(n+1)).toNat+1) (by omega);omega) (by have:=hb 1 (by decide);omega)
  have e:mkRat (Nm.sgn true ((-(n+1)).toNat+1)) 1=(n:Rat):=by
   rw [Rat.mkRat_one];congr 1;unfold Nm.sgn;simp;omega
  rw [Nm.H8,show Nm.val [1]=1 from rfl] at hadd
  rw [e,Nm.Q5] at hm
  have hneg:IntKind.i64.wrap (0-(n+1))=-(n+1):=by rw [Eng.wrap_i64 (by omega)];omega
  simp only [rq,rc,sb,ints] at hm hof hadd ⊢
  (repeat first|refine uA ?_|(apply uK;focus omega)|simp (disch:=omega) only [go_sem,Nat.reduceBEq,ww,hneg]|(apply uB hof;exact rfl)|(apply uB hadd;exact rfl)|(apply uD hm;exact tz hw;rfl))
  (refine S.done ?_;simp only [p8,r9,go_sem,Nat.reduceBEq,Nat.reduceAdd,Nat.reduceLeDiff];(repeat (refine ⟨?_,?_⟩;focus first|trivial|omega|simp));exact j3.out rfl (Imp.refl rfl) rfl)
theorem a5c (a b:Nm.Rt) (ha:Rb 17179869184 a) (hb:Rb 17179869184 b):FZ 38 [rc a,rc b] (rq (Nm.d9 a+Nm.d9 b)):=by
 refine kW Tryz.func38 (by cbv) (by rfl) fun w O hw=>?_
 have hfa:=V4 a ha
 have hfb:=V4 b hb
 obtain ⟨n1,d1⟩:=ha.fit (by decide)
 obtain ⟨n2,d2⟩:=hb.fit (by decide)
 generalize Nm.d9 a=p at *
 generalize Nm.d9 b=q at *
 simp only [Nm.ofQ] at n1 d1 n2 d2
 have hp:=p.den_nz
 have hq:=q.den_nz
 have l1:=Nm.J7 n1 d2
 have l2:=Nm.J7 n2 d1
 have l3:=Nm.J7 d1 d2
 have s1:=b5h (decide (p.num < 0)) (decide (q.num < 0)) (Nm.enc p.num.natAbs) (Nm.enc q.num.natAbs) (by omega) (by omega)
 have m1:=a3F (Nm.enc p.num.natAbs) (Nm.enc q.den) (by omega) (by omega)
 have m2:=a3F (Nm.enc q.num.natAbs) (Nm.enc p.den) (by omega) (by omega)
 have m3:=a3F (Nm.enc p.den) (Nm.enc q.den) (by omega) (by omega)
 simp only [Nm.H8] at s1 m1 m2 m3
 have s2:=b5h (decide (p.num < 0)) (decide (q.num < 0)) (Nm.enc (p.num.natAbs*q.den)) (Nm.enc (q.num.natAbs*p.den)) (by omega) (by omega)
 simp only [Nm.H8] at s2
 have k1:(Nm.enc (Nm.N8 (decide (p.num < 0)) p.num.natAbs (decide (q.num < 0)) q.num.natAbs).2).length<=17179869185:=c6X (Nm.a2r (Nm.a6V _ _ _ _)) (Nm.a1X n1 n2)
 have k2:(Nm.enc (Nm.N8 (decide (p.num < 0)) (p.num.natAbs*q.den) (decide (q.num < 0)) (q.num.natAbs*p.den)).2).length<=34359738369:=c6X (Nm.a2r (Nm.a6V _ _ _ _)) (Nm.a1X l1 l2)
 have v1:=a2Y (Nm.N8 (decide (p.num < 0)) p.num.natAbs (decide (q.num < 0)) q.num.natAbs).1 (Nm.N8 (decide (p.num < 0)) p.num.natAbs (decide (q.num < 0)) q.num.natAbs).2 p.den hp (by omega) (by omega)
 have v2:=a2Y (Nm.N8 (decide (p.num < 0)) (p.num.natAbs*q.den) (decide (q.num < 0)) (q.num.natAbs*p.den)).1 (Nm.N8 (decide (p.num < 0)) (p.num.natAbs*q.den) (decide (q.num < 0)) (q.num.natAbs*p.den)).2 (p.den*q.den) (Nat.mul_ne_zero hp hq) (by omega) (by omega)
 rw [Nm.b2L] at v2
 have hsame:=fun h=>Nm.c1A (p:=p) (q:=q) h
 generalize p+q=r at *
 generalize Nm.N8 (decide (p.num < 0)) p.num.natAbs (decide (q.num < 0)) q.num.natAbs=t1 at *
 generalize Nm.N8 (decide (p.num < 0)) (p.num.natAbs*q.den) (decide (q.num < 0)) (q.num.natAbs*p.den)=t2 at *
 simp only [j5,TT,OA,OB,MM,LL,VV,FF]
 simp only [rq,rc,sb,Nm.ofQ] at *
 (repeat first|refine uA ?_|(refine uK ?_ ?_;focus first|omega|(intros;simp_all<;>omega))|simp (disch:=omega) only [go_sem,Nat.reduceBEq,Nat.reduceAdd,b7O,c3n]|(refine uD hfa ?_ ?_ ?_;exact tz hw;exact rfl)|(refine uD hfb ?_ ?_ ?_;exact tz hw;exact rfl))
 (refine uJ rfl (fun hc=>?_) fun hc=>?_)
 ·rw [hsame hc] at v1
  (repeat first|refine uA ?_|(refine uK ?_ ?_;focus first|omega|(intros;simp_all<;>omega))|simp (disch:=omega) only [go_sem,Nat.reduceBEq,Nat.reduceAdd]|(refine uB s1 ?_ ?_;exact rfl)|(refine uD v1 ?_ ?_ ?_;exact tz hw;exact rfl))
  (refine S.done ?_;simp only [p8,r9,go_sem,Nat.reduceBEq,Nat.reduceAdd,Nat.reduceLeDiff];(repeat (refine ⟨?_,?_⟩;focus first|trivial|omega|simp));exact j3.out rfl (Imp.refl rfl) rfl)
 ·(repeat first|refine uA ?_|(refine uK ?_ ?_;focus first|omega|(intros;simp_all<;>omega))|simp (disch:=omega) only [go_sem,Nat.reduceBEq,Nat.reduceAdd]|(refine uB m1 ?_ ?_;exact rfl)|(refine uB m2 ?_ ?_;exact rfl)|(refine uB m3 ?_ ?_;exact rfl)|(refine uB s2 ?_ ?_;exact rfl)|(refine uD v2 ?_ ?_ ?_;exact tz hw;exact rfl))
  (refine S.done ?_;simp only [p8,r9,go_sem,Nat.reduceBEq,Nat.reduceAdd,Nat.reduceLeDiff];(repeat (refine ⟨?_,?_⟩;focus first|trivial|omega|simp));exact j3.out rfl (Imp.refl rfl) rfl)
theorem b5v (a b:Nm.Rt) (ha:Rb 17179869184 a) (hb:Rb 17179869184 b):FZ 77 [rc a,rc b] (rq (Nm.d9 a*Nm.d9 b)):=by
 refine kW Tryz.func77 (by cbv) (by rfl) fun w O hw=>?_
 have hfa:=V4 a ha
 have hfb:=V4 b hb
 obtain ⟨n1,d1⟩:=ha.fit (by decide)
 obtain ⟨n2,d2⟩:=hb.fit (by decide)
 generalize Nm.d9 a=p at *
 generalize Nm.d9 b=q at *
 simp only [Nm.ofQ] at n1 d1 n2 d2
 have hp:=p.den_nz
 have hq:=q.den_nz
 have l1:=Nm.J7 n1 n2
 have l3:=Nm.J7 d1 d2
 have m1:=a3F (Nm.enc p.num.natAbs) (Nm.enc q.num.natAbs) (by omega) (by omega)
 have m3:=a3F (Nm.enc p.den) (Nm.enc q.den) (by omega) (by omega)
 simp only [Nm.H8] at m1 m3
 have v2:=a2Y (decide (p.num < 0) != decide (q.num < 0)) (p.num.natAbs*q.num.natAbs) (p.den*q.den) (Nat.mul_ne_zero hp hq) (by omega) (by omega)
 rw [Nm.b5n] at v2
 generalize p*q=r at *
 simp only [j5,TT,OA,OB,LL,VV,FF]
 simp only [rq,rc,sb,Nm.ofQ] at *
 (repeat first|refine uA ?_|(apply uK;focus first|omega|(intros;simp_all<;>omega))|simp (disch:=omega) only [go_sem,Nat.reduceBEq,Nat.reduceAdd]|(apply uB m1;exact rfl)|(apply uB m3;exact rfl)|(apply uD hfa;exact tz hw;rfl)|(apply uD hfb;exact tz hw;rfl)|(apply uD v2;exact tz hw;rfl))
 (refine S.done ?_;simp only [p8,r9,go_sem,Nat.reduceBEq,Nat.reduceAdd,Nat.reduceLeDiff];(repeat (refine ⟨?_,?_⟩;focus first|trivial|omega|simp));exact j3.out rfl (Imp.refl rfl) rfl)
def E9 (q:Rat):Int:=if q.num=0 then 0 else if q.num < 0 then -1 else 1
theorem b0k (p:Rat):Nm.ofQ (-p)=⟨!decide (p.num < 0) && !decide (p.num.natAbs=0),Nm.enc p.num.natAbs,Nm.enc p.den⟩:=by
 unfold Nm.ofQ
 rw [Rat.neg_num,Rat.neg_den,Int.natAbs_neg]
 congr 1
 by_cases h:p.num < 0
 ·simp [h];omega
 ·by_cases h0:p.num=0
  ·simp [h0]
  ·have:¬ p.num.natAbs=0:=by omega
   simp [h,this];omega
theorem a5q (a:Nm.Rt) (ha:Rb 17179869184 a):FZ 17 [rc a] (rq (- Nm.d9 a)):=by
 refine kW Tryz.func17 (by cbv) (by rfl) fun w O hw=>?_
 have hfa:=V4 a ha
 generalize Nm.d9 a=p at *
 simp only [j5,TT,OA,OB,OC,MM,LL,VV,FF,VG,FG]
 unfold rq at *
 rw [b0k]
 simp only [rc,sb,Nm.ofQ] at *
 (repeat first|refine uA ?_|(apply uK;focus first|omega|(intros;simp_all<;>omega))|simp (disch:=omega) only [go_sem,Nat.reduceBEq,Nat.reduceAdd,a0l,a2I]|(apply uD hfa;exact tz hw;rfl))
 (refine S.done ?_;simp only [p8,r9,go_sem,Nat.reduceBEq,Nat.reduceAdd,Nat.reduceLeDiff];(repeat (refine ⟨?_,?_⟩;focus first|trivial|omega|simp));exact j3.out rfl (Imp.refl rfl) rfl)
theorem b4m {k:Nat} {a:Nm.Rt} (h:Rb k a) (hk:1<=k):Rb k (Nm.ofQ (- Nm.d9 a)):=by
 obtain ⟨h1,h2⟩:=h.fit hk
 rw [b0k]
 exact ⟨h1,h2⟩
theorem a6x (a b:Nm.Rt) (ha:Rb 17179869184 a) (hb:Rb 17179869184 b):FZ 15 [rc a,rc b] (rq (Nm.d9 a-Nm.d9 b)):=by
 refine kW Tryz.func15 (by cbv) (by rfl) fun w O hw=>?_
 have hn:=a5q b hb
 have hadd:=a5c a (Nm.ofQ (- Nm.d9 b)) ha (b4m hb (by decide))
 rw [Nm.p9,<- Rat.sub_eq_add_neg] at hadd
 unfold rq at *
 generalize Nm.ofQ (- Nm.d9 b)=c at *
 generalize Nm.ofQ (Nm.d9 a-Nm.d9 b)=d at *
 simp only [j5,TT,OA,OB,LL]
 simp only [rc,sb] at *
 (repeat first|refine uA ?_|(apply uK;focus first|omega|(intros;simp_all<;>omega))|simp (disch:=omega) only [go_sem,Nat.reduceBEq,Nat.reduceAdd]|(apply uD hn;exact tz hw;rfl)|(apply uD hadd;exact tz hw;rfl))
 (refine S.done ?_;simp only [p8,r9,go_sem,Nat.reduceBEq,Nat.reduceAdd,Nat.reduceLeDiff];(repeat (refine ⟨?_,?_⟩;focus first|trivial|omega|simp));exact j3.out rfl (Imp.refl rfl) rfl)
def a3u (p q:Rat):Nm.Rt:=if q=0 then ⟨false,[],[]⟩ else Nm.ofQ (p / q)
def a9X (q:Rat):Int:=if q=0 then 12 else 0
theorem c0R (a b:Nm.Rt) (ha:Rb 17179869184 a) (hb:Rb 17179869184 b):FZ 110 [rc a,rc b] (.tup [rc (a3u (Nm.d9 a) (Nm.d9 b)),ints (a9X (Nm.d9 b))]):=by
 refine kW Tryz.func110 (by cbv) (by rfl) fun w O hw=>?_
 have hfa:=V4 a ha
 have hfb:=V4 b hb
 obtain ⟨n1,d1⟩:=ha.fit (by decide)
 obtain ⟨n2,d2⟩:=hb.fit (by decide)
 generalize Nm.d9 a=p at *
 generalize Nm.d9 b=q at *
 simp only [Nm.ofQ] at n1 d1 n2 d2
 have hp:=p.den_nz
 have l1:=Nm.J7 n1 d2
 have l3:=Nm.J7 d1 n2
 have m1:=a3F (Nm.enc p.num.natAbs) (Nm.enc q.den) (by omega) (by omega)
 have m3:=a3F (Nm.enc p.den) (Nm.enc q.num.natAbs) (by omega) (by omega)
 simp only [Nm.H8] at m1 m3
 have v2:=fun h0:q.num.natAbs ≠ 0=>a2Y (decide (p.num < 0) != decide (q.num < 0)) (p.num.natAbs*q.den) (p.den*q.num.natAbs) (Nat.mul_ne_zero hp h0) (by omega) (by omega)
 have hdm:=fun h=>Nm.b3S p q h
 simp only [j5,TT,II,OA,OB,LL,VV,FF]
 simp only [rq,rc,sb,Nm.ofQ,ints] at *
 (repeat first|refine uA ?_|(refine uK ?_ ?_;focus first|omega|(intros;simp_all<;>omega))|simp (disch:=omega) only [go_sem,Nat.reduceBEq,Nat.reduceAdd,a0l,a2I]|(refine uD hfa ?_ ?_ ?_;exact tz hw;exact rfl)|(refine uD hfb ?_ ?_ ?_;exact tz hw;exact rfl))
 (refine uJ rfl (fun hc=>?_) fun hc=>?_)
 ·have h0:q=0:=Rat.num_eq_zero.1 (by omega)
  have e1:a3u p q=⟨false,[],[]⟩:=by unfold a3u;rw [if_pos h0]
  have e2:a9X q=12:=by unfold a9X;rw [if_pos h0]
  rw [e1,e2]
  (repeat first|refine uA ?_|(refine uK ?_ ?_;focus first|omega|(intros;simp_all<;>omega))|simp (disch:=omega) only [go_sem,Nat.reduceBEq,Nat.reduceAdd])
  (refine S.done ?_;simp only [p8,r9,go_sem,Nat.reduceBEq,Nat.reduceAdd,Nat.reduceLeDiff];(repeat (refine ⟨?_,?_⟩;focus first|trivial|omega|simp));exact j3.out rfl (Imp.refl rfl) rfl)
 ·have h0:q ≠ 0:=fun h=>hc (by rw [Rat.num_eq_zero.2 h];rfl)
  have e1:a3u p q=Nm.ofQ (p / q):=by unfold a3u;rw [if_neg h0]
  have e2:a9X q=0:=by unfold a9X;rw [if_neg h0]
  rw [e1,e2]
  have v2:=v2 hc
  rw [hdm h0] at v2
  generalize p / q=r at *
  simp only [Nm.ofQ] at *
  (repeat first|refine uA ?_|(refine uK ?_ ?_;focus first|omega|(intros;simp_all<;>omega))|simp (disch:=omega) only [go_sem,Nat.reduceBEq,Nat.reduceAdd]|(refine uB m1 ?_ ?_;exact rfl)|(refine uB m3 ?_ ?_;exact rfl)|(refine uD v2 ?_ ?_ ?_;exact tz hw;exact rfl))
  (refine S.done ?_;simp only [p8,r9,go_sem,Nat.reduceBEq,Nat.reduceAdd,Nat.reduceLeDiff];(repeat (refine ⟨?_,?_⟩;focus first|trivial|omega|simp));exact j3.out rfl (Imp.refl rfl) rfl)
theorem a0j (a:Nm.Rt) (ha:Rb 17179869184 a):FZ 97 [rc a] (ints (E9 (Nm.d9 a))):=by
 refine kW Tryz.func97 (by cbv) (by rfl) fun w O hw=>?_
 have hfa:=V4 a ha
 generalize Nm.d9 a=p at *
 simp only [j5,TT,II,OA,OB,MM,LL,VV,FF]
 simp only [rq,rc,sb,Nm.ofQ,ints] at *
 (repeat first|refine uA ?_|(apply uK;focus omega)|simp (disch:=omega) only [go_sem,Nat.reduceBEq,a0l,a2I]|(apply uD hfa;exact tz hw;rfl))
 (refine uJ rfl (fun hc=>?_) fun hc=>?_)
 ·have:E9 p=0:=by unfold E9;rw [if_pos (by omega)]
  rw [this]
  (repeat first|refine uA ?_|(apply uK;focus omega)|simp (disch:=omega) only [go_sem])
  exact S.done (j3.out rfl (Imp.refl rfl) rfl)
 (repeat first|refine uA ?_|(apply uK;focus first|omega|(intros;simp_all<;>omega))|simp (disch:=omega) only [go_sem,Nat.reduceBEq,Nat.reduceAdd])
 (refine uJ rfl (fun hc=>?_) fun hc=>?_)
 ·have:E9 p=-1:=by unfold E9;rw [if_neg (by omega),if_pos hc]
  rw [this]
  (repeat first|refine uA ?_|(apply uK;focus omega)|simp (disch:=omega) only [go_sem])
  exact S.done (j3.out rfl (Imp.refl rfl) rfl)
 ·have:E9 p=1:=by unfold E9;rw [if_neg (by omega),if_neg hc]
  rw [this]
  (repeat first|refine uA ?_|(apply uK;focus omega)|simp (disch:=omega) only [go_sem])
  exact S.done (j3.out rfl (Imp.refl rfl) rfl)
theorem b8j (a b:Nat):-1<=Nm.a0u a b/\Nm.a0u a b<=1:=by
 unfold Nm.a0u
 by_cases h:a < b
 ·rw [if_pos h];omega
 ·rw [if_neg h];split<;>omega
theorem K8 (a b:Nm.Rt) (ha:Rb 17179869184 a) (hb:Rb 17179869184 b):FZ 39 [rc a,rc b] (ints (Nm.q9 (Nm.d9 a) (Nm.d9 b))):=by
 refine kW Tryz.func39 (by cbv) (by rfl) fun w O hw=>?_
 have hfa:=V4 a ha
 have hfb:=V4 b hb
 obtain ⟨n1,d1⟩:=ha.fit (by decide)
 obtain ⟨n2,d2⟩:=hb.fit (by decide)
 generalize Nm.d9 a=p at *
 generalize Nm.d9 b=q at *
 rw [Nm.c3p]
 simp only [Nm.ofQ] at n1 d1 n2 d2
 have l1:=Nm.J7 n1 d2
 have l2:=Nm.J7 n2 d1
 have m1:=a3F (Nm.enc p.num.natAbs) (Nm.enc q.den) (by omega) (by omega)
 have m2:=a3F (Nm.enc q.num.natAbs) (Nm.enc p.den) (by omega) (by omega)
 simp only [Nm.H8] at m1 m2
 have hcmp:=b1j (Nm.enc (p.num.natAbs*q.den)) (Nm.enc (q.num.natAbs*p.den)) (by omega) (by omega)
 simp only [Nm.H8] at hcmp
 have hcr:=b8j (p.num.natAbs*q.den) (q.num.natAbs*p.den)
 generalize Nm.a0u (p.num.natAbs*q.den) (q.num.natAbs*p.den)=cn at *
 simp only [j5,TT,II,OA,OB,MM,LL,VV,FF]
 simp only [rq,rc,sb,Nm.ofQ,ints] at *
 generalize decide (p.num < 0)=bp at *
 generalize decide (q.num < 0)=bq at *
 (repeat first|refine uA ?_|(apply uK;focus first|omega|(intros;simp_all<;>omega))|simp (disch:=omega) only [go_sem,Nat.reduceBEq,Nat.reduceAdd]|(apply uD hfa;exact tz hw;rfl)|(apply uD hfb;exact tz hw;rfl))
 refine S.cond rfl (fun hc=>?_) (fun hc=>?_)
 ·have hne:bp ≠ bq:=by simpa using hc
  rw [if_pos hne]
  (repeat first|refine uA ?_|(apply uK;focus omega)|simp (disch:=omega) only [go_sem,Nat.reduceBEq])
  refine S.cond rfl (fun hc=>?_) (fun hc=>?_)
  ·rw [if_pos hc]
   (repeat first|refine uA ?_|(apply uK;focus omega)|simp (disch:=omega) only [go_sem])
   exact S.done (j3.out rfl (Imp.refl rfl) rfl)
  ·rw [if_neg (by simp [hc])]
   (repeat first|refine uA ?_|(apply uK;focus omega)|simp (disch:=omega) only [go_sem])
   exact S.done (j3.out rfl (Imp.refl rfl) rfl)
 ·have he:bp=bq:=by simpa using hc
  rw [if_neg (by simp [he])]
  (repeat first|refine uA ?_|(apply uK;focus omega)|simp (disch:=omega) only [go_sem,Nat.reduceBEq]|(apply uB m1;exact rfl)|(apply uB m2;exact rfl)|(apply uB hcmp;exact rfl))
  refine S.cond rfl (fun hc=>?_) (fun hc=>?_)
  ·rw [if_pos hc]
   have hneg:IntKind.i64.wrap (0-cn)=- cn:=by rw [Eng.wrap_i64 (by omega)];omega
   (repeat first|refine uA ?_|(apply uK;focus omega)|simp (disch:=omega) only [go_sem,Nat.reduceBEq,hneg])
   exact S.done (j3.out rfl (Imp.refl rfl) rfl)
  ·rw [if_neg (by simp [hc])]
   (repeat first|refine uA ?_|(apply uK;focus omega)|simp (disch:=omega) only [go_sem,Nat.reduceBEq])
   exact S.done (j3.out rfl (Imp.refl rfl) rfl)
def G7 (p q:Rat):Rat:=if Nm.q9 p q<=0 then p else q
def G9 (p q:Rat):Rat:=if Nm.q9 p q >= 0 then p else q
theorem a4f (a b:Nm.Rt) (ha:Rb 17179869184 a) (hb:Rb 17179869184 b):FZ 18 [rc a,rc b] (rq (G7 (Nm.d9 a) (Nm.d9 b))):=by
 refine kW Tryz.func18 (by cbv) (by rfl) fun w O hw=>?_
 have hfa:=V4 a ha
 have hfb:=V4 b hb
 have hc:=K8 a b ha hb
 unfold G7
 generalize Nm.q9 (Nm.d9 a) (Nm.d9 b)=cn at *
 simp only [j5,TT,II,OA,OB,LL]
 unfold rq at *
 generalize Nm.d9 a=p at *
 generalize Nm.d9 b=q at *
 simp only [rc,sb,ints] at *
 (repeat first|refine uA ?_|(apply uK;focus first|omega|(intros;simp_all<;>omega))|simp (disch:=omega) only [go_sem,Nat.reduceBEq,Nat.reduceAdd]|(apply uD hc;exact tz hw;rfl))
 (refine uJ rfl (fun hc=>?_) fun hc=>?_)
 ·rw [if_pos hc]
  (repeat first|refine uA ?_|(apply uK;focus omega)|simp (disch:=omega) only [go_sem,Nat.reduceBEq]|(apply uD hfa;exact tz hw;rfl))
  (refine S.done ?_;simp only [p8,r9,go_sem,Nat.reduceBEq,Nat.reduceAdd,Nat.reduceLeDiff];(repeat (refine ⟨?_,?_⟩;focus first|trivial|omega|simp));exact j3.out rfl (Imp.refl rfl) rfl)
 ·rw [if_neg hc]
  (repeat first|refine uA ?_|(apply uK;focus omega)|simp (disch:=omega) only [go_sem,Nat.reduceBEq]|(apply uD hfb;exact tz hw;rfl))
  (refine S.done ?_;simp only [p8,r9,go_sem,Nat.reduceBEq,Nat.reduceAdd,Nat.reduceLeDiff];(repeat (refine ⟨?_,?_⟩;focus first|trivial|omega|simp));exact j3.out rfl (Imp.refl rfl) rfl)
theorem a3Y (a b:Nm.Rt) (ha:Rb 17179869184 a) (hb:Rb 17179869184 b):FZ 16 [rc a,rc b] (rq (G9 (Nm.d9 a) (Nm.d9 b))):=by
 refine kW Tryz.func16 (by cbv) (by rfl) fun w O hw=>?_
 have hfa:=V4 a ha
 have hfb:=V4 b hb
 have hc:=K8 a b ha hb
 unfold G9
 generalize Nm.q9 (Nm.d9 a) (Nm.d9 b)=cn at *
 simp only [j5,TT,II,OA,OB,LL]
 unfold rq at *
 generalize Nm.d9 a=p at *
 generalize Nm.d9 b=q at *
 simp only [rc,sb,ints] at *
 (repeat first|refine uA ?_|(apply uK;focus first|omega|(intros;simp_all<;>omega))|simp (disch:=omega) only [go_sem,Nat.reduceBEq,Nat.reduceAdd]|(apply uD hc;exact tz hw;rfl))
 (refine uJ rfl (fun hc=>?_) fun hc=>?_)
 ·rw [if_pos hc]
  (repeat first|refine uA ?_|(apply uK;focus omega)|simp (disch:=omega) only [go_sem,Nat.reduceBEq]|(apply uD hfa;exact tz hw;rfl))
  (refine S.done ?_;simp only [p8,r9,go_sem,Nat.reduceBEq,Nat.reduceAdd,Nat.reduceLeDiff];(repeat (refine ⟨?_,?_⟩;focus first|trivial|omega|simp));exact j3.out rfl (Imp.refl rfl) rfl)
 ·rw [if_neg hc]
  (repeat first|refine uA ?_|(apply uK;focus omega)|simp (disch:=omega) only [go_sem,Nat.reduceBEq]|(apply uD hfb;exact tz hw;rfl))
  (refine S.done ?_;simp only [p8,r9,go_sem,Nat.reduceBEq,Nat.reduceAdd,Nat.reduceLeDiff];(repeat (refine ⟨?_,?_⟩;focus first|trivial|omega|simp));exact j3.out rfl (Imp.refl rfl) rfl)
theorem c0r (a:Nm.Rt) (ha:Rb 17179869184 a):FZ 49 [rc a] (rc ⟨false,Nm.enc (Nm.d9 a).num.natAbs,Nm.enc (Nm.d9 a).den⟩):=by
 refine kW Tryz.func49 (by cbv) (by rfl) fun w O hw=>?_
 have hfa:=V4 a ha
 generalize Nm.d9 a=p at *
 simp only [j5,TT,OA,OB,LL,FF]
 unfold rq at *
 simp only [rc,sb,Nm.ofQ] at *
 (repeat first|refine uA ?_|(apply uK;focus first|omega|(intros;simp_all<;>omega))|simp (disch:=omega) only [go_sem,Nat.reduceBEq,Nat.reduceAdd]|(apply uD hfa;exact tz hw;rfl))
 (refine S.done ?_;simp only [p8,r9,go_sem,Nat.reduceBEq,Nat.reduceAdd,Nat.reduceLeDiff];(repeat (refine ⟨?_,?_⟩;focus first|trivial|omega|simp));exact j3.out rfl (Imp.refl rfl) rfl)
def l6 (a:Nm.Rt):Bool:=decide (a.num.length<=3) && decide (a.den.length<=2) && decide a.H9 && decide (Nm.val a.num<=1000000) && decide (Nm.val a.den<=1000)
theorem b6L (a b:Nat):(Nm.a0u a b<=0)=(a<=b):=by
 unfold Nm.a0u
 by_cases h:a < b
 ·rw [if_pos h];simp;omega
 ·rw [if_neg h];split
  ·simp;omega
  ·simp;omega
theorem a4E (a:Nm.Rt) (ha:Rb 17179869184 a):FZ 96 [rc a] (.v (.bool (l6 a))):=by
 refine kW Tryz.func96 (by cbv) (by rfl) fun w O hw=>?_
 have hg:=a1A a ⟨by have:=ha.1;omega,by have:=ha.2;omega⟩
 have ho1:=b5w 1000000 (by decide)
 have ho2:=b5w 1000 (by decide)
 have hb:∀ k:Nat,k<=1000000->(Nm.enc k).length<=8:=fun k hk=>Nm.F3 (by omega)
 have hb1:=hb 1000000 (by decide)
 have hb2:=hb 1000 (by decide)
 have hc1:=b1j a.num (Nm.enc 1000000) (by have:=ha.1;omega) (by omega)
 have hc2:=b1j a.den (Nm.enc 1000) (by have:=ha.2;omega) (by omega)
 rw [Nm.H8] at hc1 hc2
 rw [show (1000000:Int).toNat=1000000 from rfl] at ho1
 rw [show (1000:Int).toNat=1000 from rfl] at ho2
 have hl1:=b6L (Nm.val a.num) 1000000
 have hl2:=b6L (Nm.val a.den) 1000
 unfold l6
 generalize decide a.H9=g at *
 generalize Nm.enc 1000000=e1 at *
 generalize Nm.enc 1000=e2 at *
 obtain ⟨neg,num,den⟩:=a
 obtain ⟨r1,r2⟩:=ha
 simp only [j5,TT,II,OA,OC,MM,VV,FF,LG,VG,FG]
 simp only [rc,sb,ints] at *
 generalize Nm.a0u (Nm.val num) 1000000=c1 at *
 generalize Nm.a0u (Nm.val den) 1000=c2 at *
 simp only [<- hl1,<- hl2]
 have hi1:decide ((num.length:Int)<=3)=decide (num.length<=3):=decide_eq_decide.2 (by omega)
 have hi2:decide ((den.length:Int)<=2)=decide (den.length<=2):=decide_eq_decide.2 (by omega)
 (repeat first|refine uA ?_|(apply uK;focus omega)|simp (disch:=omega) only [go_sem,Nat.reduceBEq,F4,hi1,hi2]|(apply uB ho1;exact rfl)|(apply uB ho2;exact rfl)|(apply uB hc1;exact rfl)|(apply uB hc2;exact rfl)|(apply uD hg;exact tz hw;rfl))
 exact S.done (j3.out rfl (Imp.refl rfl) rfl)
open Go Eng
def tc (h:Bool) (a:Nm.Rt):C:=.agg [.v (.bool h),.v (.bool a.neg),sb a.num,sb a.den]
def tq (h:Bool) (q:Rat):C:=tc h (Nm.ofQ q)
theorem b3z (a:Nm.Rt) (ha:Rb 17179869184 a):FZ 137 [rc a] (tq false (Nm.d9 a)):=by
 refine kW Tryz.func137 (by cbv) (by rfl) fun w O hw=>?_
 have hm:=a4f a a ha ha
 have e:G7 (Nm.d9 a) (Nm.d9 a)=Nm.d9 a:=by unfold G7;split<;>rfl
 rw [e] at hm
 unfold rq tq at *
 generalize Nm.ofQ (Nm.d9 a)=r at *
 simp only [j5,TT,OA,OB,LL]
 simp only [rc,tc,sb] at *
 (repeat first|refine uA ?_|(apply uK;focus omega)|simp (disch:=omega) only [go_sem,Nat.reduceBEq]|(apply uD hm;exact tz hw;rfl))
 (refine S.done ?_;simp only [p8,r9,go_sem,Nat.reduceBEq,Nat.reduceAdd,Nat.reduceLeDiff];(repeat (refine ⟨?_,?_⟩;focus first|trivial|omega|simp));exact j3.out rfl (Imp.refl rfl) rfl)
theorem a8G {neg:Bool} {n d k m:Nat} (hd:d ≠ 0) (hn:(Nm.enc n).length<=k) (hdl:(Nm.enc d).length<=k) (hk:1<=k) (hm:k<=m):Rb m (Nm.ofQ (mkRat (Nm.sgn neg n) d)):=by
 rw [<- Nm.b1z neg hd]
 split
 ·exact ⟨c6Z _,c6X hk hm⟩
 ·exact ⟨c6X (Nm.a2r (Nat.div_le_self _ _)) (c6X hn hm),c6X (Nm.a2r (Nat.div_le_self _ _)) (c6X hdl hm)⟩
theorem a4N {k:Nat} {p:Rat} (h:Rb k (Nm.ofQ p)):1<=k:=by
 have h1:=h.2
 simp only [Nm.ofQ] at h1
 have:Nm.enc p.den ≠ []:=Nm.a6g p.den_nz
 have:=List.length_pos_iff.2 this
 omega
theorem Q9 {k m:Nat} {p q:Rat} (hp:Rb k (Nm.ofQ p)) (hq:Rb m (Nm.ofQ q)):Rb (k+m+1) (Nm.ofQ (p+q)):=by
 have h1:=a4N hp
 rw [<- Nm.b2L p q]
 have l1:=Nm.J7 hp.1 hq.2
 have l2:=Nm.J7 hq.1 hp.2
 have l3:=Nm.J7 hp.2 hq.2
 exact a8G (k:=k+m+1) (Nat.mul_ne_zero p.den_nz q.den_nz) (c6X (Nm.a2r (Nm.a6V _ _ _ _)) (Nm.a1X l1 (by omega))) (by omega) (by omega) (c7b _)
theorem H7 {k m:Nat} {p q:Rat} (hp:Rb k (Nm.ofQ p)) (hq:Rb m (Nm.ofQ q)):Rb (k+m) (Nm.ofQ (p*q)):=by
 have h1:=a4N hp
 rw [<- Nm.b5n p q]
 exact a8G (k:=k+m) (Nat.mul_ne_zero p.den_nz q.den_nz) (Nm.J7 hp.1 hq.1) (Nm.J7 hp.2 hq.2) (by omega) (c7b _)
theorem b0G {k m:Nat} {p q:Rat} (h:q ≠ 0) (hp:Rb k (Nm.ofQ p)) (hq:Rb m (Nm.ofQ q)):Rb (k+m) (Nm.ofQ (p / q)):=by
 have h1:=a4N hp
 rw [<- Nm.b3S p q h]
 have hn:q.num.natAbs ≠ 0:=fun e=>h (Rat.num_eq_zero.1 (by omega))
 exact a8G (k:=k+m) (Nat.mul_ne_zero p.den_nz hn) (Nm.J7 hp.1 hq.2) (Nm.J7 hp.2 hq.1) (by omega) (c7b _)
theorem a1c {k:Nat} {p:Rat} (hp:Rb k (Nm.ofQ p)):Rb k (Nm.ofQ (-p)):=by
 rw [b0k];exact hp
theorem R4 {k m:Nat} {p q:Rat} (hp:Rb k (Nm.ofQ p)) (hq:Rb m (Nm.ofQ q)):Rb (k+m+1) (Nm.ofQ (p-q)):=by
 rw [Rat.sub_eq_add_neg];exact Q9 hp (a1c hq)
theorem Rb.mono {k m:Nat} {a:Nm.Rt} (h:Rb k a) (hm:k<=m):Rb m a:=⟨c6X h.1 hm,c6X h.2 hm⟩
theorem a3L (p q:Rat) (hp:Rb 17179869184 (Nm.ofQ p)) (hq:Rb 17179869184 (Nm.ofQ q)):FZ 38 [rq p,rq q] (rq (p+q)):=by
 have:=a5c (Nm.ofQ p) (Nm.ofQ q) hp hq
 rwa [Nm.p9,Nm.p9] at this
theorem a5M (p q:Rat) (hp:Rb 17179869184 (Nm.ofQ p)) (hq:Rb 17179869184 (Nm.ofQ q)):FZ 15 [rq p,rq q] (rq (p-q)):=by
 have:=a6x (Nm.ofQ p) (Nm.ofQ q) hp hq
 rwa [Nm.p9,Nm.p9] at this
theorem a0V (p q:Rat) (hp:Rb 17179869184 (Nm.ofQ p)) (hq:Rb 17179869184 (Nm.ofQ q)):FZ 77 [rq p,rq q] (rq (p*q)):=by
 have:=b5v (Nm.ofQ p) (Nm.ofQ q) hp hq
 rwa [Nm.p9,Nm.p9] at this
theorem b8K (p q:Rat) (hp:Rb 17179869184 (Nm.ofQ p)) (hq:Rb 17179869184 (Nm.ofQ q)):FZ 110 [rq p,rq q] (.tup [rc (a3u p q),ints (a9X q)]):=by
 have:=c0R (Nm.ofQ p) (Nm.ofQ q) hp hq
 rwa [Nm.p9,Nm.p9] at this
theorem c4n:FZ 206 [] (tq true 0):=by
 refine kW Tryz.func206 (by cbv) (by rfl) fun w O hw=>?_
 have ho:=a1l 0 (by decide) (by decide)
 rw [show ((0:Int):Rat)=0 from rfl] at ho
 unfold rq tq at *
 generalize Nm.ofQ 0=r at *
 simp only [j5,TT,II,OA,OB]
 simp only [rc,tc,sb,ints] at *
 (repeat first|refine uA ?_|(apply uK;focus omega)|simp (disch:=omega) only [go_sem,Nat.reduceBEq]|(apply uD ho;exact tz hw;rfl))
 (refine S.done ?_;simp only [p8,r9,go_sem,Nat.reduceBEq,Nat.reduceAdd,Nat.reduceLeDiff];(repeat (refine ⟨?_,?_⟩;focus first|trivial|omega|simp));exact j3.out rfl (Imp.refl rfl) rfl)
def J8 (h:Bool) (a:Nm.Rt):Rat:=if h then 0 else Nm.d9 a
theorem b9X (h:Bool) (a:Nm.Rt) (ha:Rb 17179869184 a):FZ 178 [tc h a] (tq h (J8 h a)):=by
 refine kW Tryz.func178 (by cbv) (by rfl) fun w O hw=>?_
 have ho:=c4n
 have hf:=b3z a ha
 unfold J8 tq at *
 cases h
 ·simp only [c7C,if_false]
  generalize Nm.ofQ (Nm.d9 a)=r at *
  simp only [j5,TT,OA,OB,LL,VV,FF]
  simp only [rc,tc,sb] at *
  (repeat first|refine uA ?_|(apply uK;focus omega)|simp (disch:=omega) only [go_sem,Nat.reduceBEq])
  exact S.cond rfl (fun hc=>by cases hc) (fun _=>by
   (repeat first|refine uA ?_|(apply uK;focus omega)|simp (disch:=omega) only [go_sem,Nat.reduceBEq]|(apply uD hf;exact tz hw;rfl))
   (refine S.done ?_;simp only [p8,r9,go_sem,Nat.reduceBEq,Nat.reduceAdd,Nat.reduceLeDiff];(repeat (refine ⟨?_,?_⟩;focus first|trivial|omega|simp));exact j3.out rfl (Imp.refl rfl) rfl))
 ·simp only [if_true]
  generalize Nm.ofQ 0=r at *
  simp only [j5,TT,OA,OB,LL,VV,FF]
  simp only [rc,tc,sb] at *
  (repeat first|refine uA ?_|(apply uK;focus omega)|simp (disch:=omega) only [go_sem,Nat.reduceBEq])
  exact S.cond rfl (fun _=>by
   (repeat first|refine uA ?_|(apply uK;focus omega)|simp (disch:=omega) only [go_sem,Nat.reduceBEq]|(apply uD ho;exact tz hw;rfl))
   (refine S.done ?_;simp only [p8,r9,go_sem,Nat.reduceBEq,Nat.reduceAdd,Nat.reduceLeDiff];(repeat (refine ⟨?_,?_⟩;focus first|trivial|omega|simp));exact j3.out rfl (Imp.refl rfl) rfl)) (fun hc=>by cases hc)
def a2q (h:Bool) (t:Rat):Rat:=if h then -1 else (1-t*t) / (1+t*t)
def Y9 (t:Rat):Rat:=(t+t) / (1+t*t)
theorem sq_nonneg (t:Rat):0<=t*t:=by
 rcases Rat.le_total (a:=0) (b:=t) with h|h
 ·exact Rat.mul_nonneg h h
 ·have h1:0<=-t:=by grind
  have:=Rat.mul_nonneg h1 h1
  grind
theorem b0l (t:Rat):1+t*t ≠ 0:=by
 have:=sq_nonneg t
 intro h
 have h1:(0:Rat) < 1:=by decide
 grind
theorem S9:Rb 8 (Nm.ofQ 1):=⟨Nm.F3 (by decide),Nm.F3 (by decide)⟩
theorem c5w (h:Bool) (a:Nm.Rt) (ha:Rb 4294967296 a):FZ 155 [tc h a] (rq (a2q h (J8 h a))):=by
 refine kW Tryz.func155 (by cbv) (by rfl) fun w O hw=>?_
 have hf:=b9X h a (ha.mono (by decide))
 have ho:=a1l 1 (by decide) (by decide)
 have hm1:=a1l (-1) (by decide) (by decide)
 rw [show ((1:Int):Rat)=1 from rfl] at ho
 rw [show ((-1:Int):Rat)=-1 from rfl] at hm1
 have hk:Rb 4294967296 (Nm.ofQ (J8 h a)):=by
  unfold J8;cases h
  ·exact ha.fit (by decide)
  ·simp only [if_true];rw [Nm.a4Z];exact ⟨by decide,by decide⟩
 generalize J8 h a=t at *
 have hsq:=a0V t t (hk.mono (by decide)) (hk.mono (by decide))
 have k2:=H7 hk hk
 have hs:=a5M 1 (t*t) (S9.mono (by decide)) (k2.mono (by decide))
 have hp:=a3L 1 (t*t) (S9.mono (by decide)) (k2.mono (by decide))
 have hd:=b8K (1-t*t) (1+t*t) ((R4 S9 k2).mono (by decide)) ((Q9 S9 k2).mono (by decide))
 rw [show a3u (1-t*t) (1+t*t)=Nm.ofQ ((1-t*t) / (1+t*t)) by unfold a3u;rw [if_neg (b0l t)]] at hd
 unfold a2q
 cases h
 ·simp only [c7C,if_false]
  generalize (1-t*t) / (1+t*t)=r at *
  unfold tq rq at *
  generalize Nm.ofQ t=rt at *
  generalize Nm.ofQ (t*t)=rs at *
  generalize Nm.ofQ (1-t*t)=r1 at *
  generalize Nm.ofQ (1+t*t)=r2 at *
  generalize Nm.ofQ r=r3 at *
  generalize Nm.ofQ 1=r4 at *
  simp only [j5,TT,II,OA,OB,MM,LL,VV,FF]
  simp only [rc,tc,sb,ints] at *
  (repeat first|refine uA ?_|(apply uK;focus omega)|simp (disch:=omega) only [go_sem,Nat.reduceBEq]|(apply uD hf;exact tz hw;rfl))
  refine S.cond rfl (fun hc=>by cases hc) (fun _=>?_)
  (repeat first|refine uA ?_|(apply uK;focus omega)|simp (disch:=omega) only [go_sem,Nat.reduceBEq]|(apply uD hsq;exact tz hw;rfl)|(apply uD ho;exact tz hw;rfl)|(apply uD hs;exact tz hw;rfl)|(apply uD hp;exact tz hw;rfl)|(apply uD hd;exact tz hw;rfl))
  (refine S.done ?_;simp only [p8,r9,go_sem,Nat.reduceBEq,Nat.reduceAdd,Nat.reduceLeDiff];(repeat (refine ⟨?_,?_⟩;focus first|trivial|omega|simp));exact j3.out rfl (Imp.refl rfl) rfl)
 ·simp only [if_true]
  unfold tq rq at *
  generalize Nm.ofQ t=rt at *
  generalize Nm.ofQ (-1)=r4 at *
  simp only [j5,TT,II,OA,OB,MM,LL,VV,FF]
  simp only [rc,tc,sb,ints] at *
  (repeat first|refine uA ?_|(apply uK;focus omega)|simp (disch:=omega) only [go_sem,Nat.reduceBEq]|(apply uD hf;exact tz hw;rfl))
  refine S.cond rfl (fun _=>?_) (fun hc=>by cases hc)
  (repeat first|refine uA ?_|(apply uK;focus omega)|simp (disch:=omega) only [go_sem,Nat.reduceBEq]|(apply uD hm1;exact tz hw;rfl))
  (refine S.done ?_;simp only [p8,r9,go_sem,Nat.reduceBEq,Nat.reduceAdd,Nat.reduceLeDiff];(repeat (refine ⟨?_,?_⟩;focus first|trivial|omega|simp));exact j3.out rfl (Imp.refl rfl) rfl)
theorem b1W {k:Nat} {h:Bool} {a:Nm.Rt} (ha:Rb k a) (hk:1<=k):Rb k (Nm.ofQ (J8 h a)):=by
 unfold J8;cases h
 ·exact ha.fit hk
 ·simp only [if_true];rw [Nm.a4Z];exact ⟨c6Z _,hk⟩
theorem b4r (h:Bool) (a:Nm.Rt) (ha:Rb 4294967296 a):FZ 156 [tc h a] (rq (Y9 (J8 h a))):=by
 refine kW Tryz.func156 (by cbv) (by rfl) fun w O hw=>?_
 have hf:=b9X h a (ha.mono (by decide))
 have ho:=a1l 1 (by decide) (by decide)
 rw [show ((1:Int):Rat)=1 from rfl] at ho
 have hk:Rb 4294967296 (Nm.ofQ (J8 h a)):=b1W ha (by decide)
 generalize J8 h a=t at *
 have hsq:=a0V t t (hk.mono (by decide)) (hk.mono (by decide))
 have k2:=H7 hk hk
 have hs:=a3L t t (hk.mono (by decide)) (hk.mono (by decide))
 have hp:=a3L 1 (t*t) (S9.mono (by decide)) (k2.mono (by decide))
 have hd:=b8K (t+t) (1+t*t) ((Q9 hk hk).mono (by decide)) ((Q9 S9 k2).mono (by decide))
 rw [show a3u (t+t) (1+t*t)=Nm.ofQ ((t+t) / (1+t*t)) by unfold a3u;rw [if_neg (b0l t)]] at hd
 unfold Y9
 generalize (t+t) / (1+t*t)=r at *
 unfold tq rq at *
 generalize Nm.ofQ t=rt at *
 generalize Nm.ofQ (t*t)=rs at *
 generalize Nm.ofQ (t+t)=r1 at *
 generalize Nm.ofQ (1+t*t)=r2 at *
 generalize Nm.ofQ r=r3 at *
 generalize Nm.ofQ 1=r4 at *
 simp only [j5,TT,II,OA,OB,MM,LL,FF]
 simp only [rc,tc,sb,ints] at *
 (repeat first|refine uA ?_|(apply uK;focus omega)|simp (disch:=omega) only [go_sem,Nat.reduceBEq]|(apply uD hf;exact tz hw;rfl)|(apply uD hsq;exact tz hw;rfl)|(apply uD ho;exact tz hw;rfl)|(apply uD hs;exact tz hw;rfl)|(apply uD hp;exact tz hw;rfl)|(apply uD hd;exact tz hw;rfl))
 (refine S.done ?_;simp only [p8,r9,go_sem,Nat.reduceBEq,Nat.reduceAdd,Nat.reduceLeDiff];(repeat (refine ⟨?_,?_⟩;focus first|trivial|omega|simp));exact j3.out rfl (Imp.refl rfl) rfl)
def vc (x y:Nm.Rt):C:=.agg [.v (.bool x.neg),sb x.num,sb x.den,.v (.bool y.neg),sb y.num,sb y.den]
def vq (x y:Rat):C:=vc (Nm.ofQ x) (Nm.ofQ y)
theorem b0w (a b c d:Nm.Rt) (ha:Rb 17179869184 a) (hb:Rb 17179869184 b) (hc:Rb 17179869184 c) (hd:Rb 17179869184 d) :
  FZ 168 [vc a b,vc c d] (vq (Nm.d9 a-Nm.d9 c) (Nm.d9 b-Nm.d9 d)):=by
 refine kW Tryz.func168 (by cbv) (by rfl) fun w O hw=>?_
 have h1:=a6x a c ha hc
 have h2:=a6x b d hb hd
 unfold vq rq at *
 generalize Nm.ofQ (Nm.d9 a-Nm.d9 c)=r1 at *
 generalize Nm.ofQ (Nm.d9 b-Nm.d9 d)=r2 at *
 simp only [j5,TT,OA,OB,LL,FF]
 simp only [rc,vc,sb] at *
 (repeat first|refine uA ?_|(apply uK;focus first|omega|(intros;simp_all<;>omega))|simp (disch:=omega) only [go_sem,Nat.reduceBEq,Nat.reduceAdd]|(apply uD h1;exact tz hw;rfl)|(apply uD h2;exact tz hw;rfl))
 (refine S.done ?_;simp only [p8,r9,go_sem,Nat.reduceBEq,Nat.reduceAdd,Nat.reduceLeDiff];(repeat (refine ⟨?_,?_⟩;focus first|trivial|omega|simp));exact j3.out rfl (Imp.refl rfl) rfl)
theorem c0K {k:Nat} {t:Rat} (h:Bool) (ht:Rb k (Nm.ofQ t)):Rb (4*k+18) (Nm.ofQ (a2q h t)):=by
 unfold a2q
 have h1:=H7 ht ht
 have h2:=R4 S9 h1
 have h3:=Q9 S9 h1
 cases h
 ·exact (b0G (b0l t) h2 h3).mono (by omega)
 ·exact (a1c S9).mono (by omega)
structure Vt where
 x:Nm.Rt
 y:Nm.Rt
def Vt.enc (v:Vt):List C:=[.v (.bool v.x.neg),sb v.x.num,sb v.x.den,.v (.bool v.y.neg),sb v.y.num,sb v.y.den]
def Vt.c (v:Vt):C:=.agg v.enc
def Vt.zero:Vt:=⟨⟨false,[],[]⟩,⟨false,[],[]⟩⟩
def Vb (k:Nat) (v:Vt):Prop:=Rb k v.x/\Rb k v.y
theorem Vb.mono {k m:Nat} {v:Vt} (h:Vb k v) (hm:k<=m):Vb m v:=⟨h.1.mono hm,h.2.mono hm⟩
theorem c0V (a b c d:Rat) (ha:Rb 4294967296 (Nm.ofQ a)) (hb:Rb 4294967296 (Nm.ofQ b)) (hc:Rb 4294967296 (Nm.ofQ c)) (hd:Rb 4294967296 (Nm.ofQ d)) :
  FZ 214 [vq a b,vq c d] (rq (a*d-b*c)):=by
 refine kW Tryz.func214 (by cbv) (by rfl) fun w O hw=>?_
 have h1:=a0V a d (ha.mono (by decide)) (hd.mono (by decide))
 have h2:=a0V b c (hb.mono (by decide)) (hc.mono (by decide))
 have h3:=a5M (a*d) (b*c) ((H7 ha hd).mono (by decide)) ((H7 hb hc).mono (by decide))
 unfold vq rq at *
 generalize Nm.ofQ (a*d-b*c)=r3 at *
 generalize Nm.ofQ (a*d)=r1 at *
 generalize Nm.ofQ (b*c)=r2 at *
 generalize Nm.ofQ a=ra at *
 generalize Nm.ofQ b=rb at *
 generalize Nm.ofQ c=r at *
 generalize Nm.ofQ d=rd at *
 simp only [j5,TT,OA,OB,LL,FF]
 simp only [rc,vc,sb] at *
 (repeat first|refine uA ?_|(apply uK;focus first|omega|(intros;simp_all<;>omega))|simp (disch:=omega) only [go_sem,Nat.reduceBEq,Nat.reduceAdd]|(apply uD h1;exact tz hw;rfl)|(apply uD h2;exact tz hw;rfl)|(apply uD h3;exact tz hw;rfl))
 (refine S.done ?_;simp only [p8,r9,go_sem,Nat.reduceBEq,Nat.reduceAdd,Nat.reduceLeDiff];(repeat (refine ⟨?_,?_⟩;focus first|trivial|omega|simp));exact j3.out rfl (Imp.refl rfl) rfl)
def a8O (a b c:Vt):Int:=E9 ((Nm.d9 b.x-Nm.d9 a.x)*(Nm.d9 c.y-Nm.d9 a.y)-(Nm.d9 b.y-Nm.d9 a.y)*(Nm.d9 c.x-Nm.d9 a.x))
theorem c5A (a b c:Vt) (ha:Vb 1073741824 a) (hb:Vb 1073741824 b) (hc:Vb 1073741824 c):FZ 195 [a.c,b.c,c.c] (ints (a8O a b c)):=by
 refine kW Tryz.func195 (by cbv) (by rfl) fun w O hw=>?_
 have h1:=b0w b.x b.y a.x a.y (hb.1.mono (by decide)) (hb.2.mono (by decide)) (ha.1.mono (by decide)) (ha.2.mono (by decide))
 have h2:=b0w c.x c.y a.x a.y (hc.1.mono (by decide)) (hc.2.mono (by decide)) (ha.1.mono (by decide)) (ha.2.mono (by decide))
 have g1:=R4 (hb.1.fit (by decide)) (ha.1.fit (by decide))
 have g2:=R4 (hb.2.fit (by decide)) (ha.2.fit (by decide))
 have g3:=R4 (hc.1.fit (by decide)) (ha.1.fit (by decide))
 have g4:=R4 (hc.2.fit (by decide)) (ha.2.fit (by decide))
 unfold a8O
 generalize Nm.d9 b.x-Nm.d9 a.x=p1 at *
 generalize Nm.d9 b.y-Nm.d9 a.y=p2 at *
 generalize Nm.d9 c.x-Nm.d9 a.x=p3 at *
 generalize Nm.d9 c.y-Nm.d9 a.y=p4 at *
 have h3:=c0V p1 p2 p3 p4 (g1.mono (by decide)) (g2.mono (by decide)) (g3.mono (by decide)) (g4.mono (by decide))
 have g5:=R4 (H7 g1 g4) (H7 g2 g3)
 have h4:=a0j (Nm.ofQ (p1*p4-p2*p3)) (g5.mono (by decide))
 rw [Nm.p9] at h4
 generalize p1*p4-p2*p3=p5 at *
 unfold vq rq at *
 generalize Nm.ofQ p1=r1 at *
 generalize Nm.ofQ p2=r2 at *
 generalize Nm.ofQ p3=r3 at *
 generalize Nm.ofQ p4=r4 at *
 generalize Nm.ofQ p5=r5 at *
 simp only [j5,TT,II,OA,MM,LL]
 simp only [rc,vc,sb,Vt.c,Vt.enc] at *
 (repeat first|refine uA ?_|(apply uK;focus first|omega|(intros;simp_all<;>omega))|simp (disch:=omega) only [go_sem,Nat.reduceBEq,Nat.reduceAdd]|(apply uD h1;exact tz hw;rfl)|(apply uD h2;exact tz hw;rfl)|(apply uD h3;exact tz hw;rfl)|(apply uD h4;exact tz hw;rfl))
 (refine S.done ?_;simp only [p8,go_sem,Nat.reduceBEq];(repeat (refine ⟨?_,?_⟩;focus first|trivial|omega|simp));exact j3.out rfl (Imp.refl rfl) rfl)
def I4 {α:Type} (f:α->Int):List α->Int
 | []=>0
 | x::r=>if f x=0 then I4 f r else f x
def x9 {α σ:Type} (f:σ->α->Int × σ):σ->List α->Int × σ
 | s,[]=>(0,s)
 | s,x::r=>if (f s x).1=0 then x9 f (f s x).2 r else f s x
theorem drop_at {α:Type} {l:List α} {i:Nat} {x:α} (h:l[i]?=some x):l.drop i=x::l.drop (i+1):=by
 obtain ⟨hi,rfl⟩:=c6Y.1 h
 exact List.drop_eq_getElem_cons hi
theorem a1Z {α:Type} {f:α->Int} {l:List α} {i:Nat} {x:α} (h:l[i]?=some x) (h0:f x ≠ 0):I4 f (l.drop i)=f x:=by
 rw [drop_at h,I4,if_neg h0]
theorem a2a {α:Type} {f:α->Int} {l:List α} {i:Nat} {x:α} (h:l[i]?=some x) (h0:f x=0):I4 f (l.drop i)=I4 f (l.drop (i+1)):=by
 rw [drop_at h,I4,if_pos h0]
theorem a2S {α:Type} {f:α->Int} {l:List α} {i:Nat} (h:l.length<=i):I4 f (l.drop i)=0:=by
 rw [List.drop_eq_nil_of_le h,I4]
theorem a2Z {α σ:Type} {f:σ->α->Int × σ} {s:σ} {l:List α} {i:Nat} {x:α} (h:l[i]?=some x) (h0:(f s x).1 ≠ 0):x9 f s (l.drop i)=f s x:=by
 rw [drop_at h,x9,if_neg h0]
theorem a3g {α σ:Type} {f:σ->α->Int × σ} {s:σ} {l:List α} {i:Nat} {x:α} (h:l[i]?=some x) (h0:(f s x).1=0):x9 f s (l.drop i)=x9 f (f s x).2 (l.drop (i+1)):=by
 rw [drop_at h,x9,if_pos h0]
theorem a4a {α σ:Type} {f:σ->α->Int × σ} {s:σ} {l:List α} {i:Nat} (h:l.length<=i):x9 f s (l.drop i)=(0,s):=by
 rw [List.drop_eq_nil_of_le h,x9]
structure Fr where
 x:Nm.Rt
 y:Nm.Rt
 half:Bool
 t:Nm.Rt
structure Lk where
 length:Nm.Rt
 low:Nm.Rt
 high:Nm.Rt
 speed:Nm.Rt
 brake:Nm.Rt
 shape:List Vt
structure Am where
 name:List UInt8
 base:Fr
 links:List Lk
structure Pt where
 name:List UInt8
 shape:List Vt
 grasp:Fr
structure Sl where
 name:List UInt8
 frame:Fr
 within:Nm.Rt
structure Gt where
 name:List UInt8
 low:Vt
 high:Vt
structure Wk where
 arms:List Am
 walls:List (List Vt)
 parts:List Pt
 slots:List Sl
 gates:List Gt
 walk:Nm.Rt
def rcs (a:Nm.Rt):List C:=[.v (.bool a.neg),sb a.num,sb a.den]
def Fr.enc (f:Fr):List C:=[.v (.bool f.x.neg),sb f.x.num,sb f.x.den,.v (.bool f.y.neg),sb f.y.num,sb f.y.den,.v (.bool f.half),.v (.bool f.t.neg),sb f.t.num,sb f.t.den]
def Fr.c (f:Fr):C:=.agg f.enc
def vts (l:List Vt):C:=.sl 6 (l.map Vt.enc)
def Lk.enc (l:Lk):List C:=[.v (.bool l.length.neg),sb l.length.num,sb l.length.den,.v (.bool l.low.neg),sb l.low.num,sb l.low.den,.v (.bool l.high.neg),sb l.high.num,sb l.high.den,.v (.bool l.speed.neg),sb l.speed.num,sb l.speed.den,.v (.bool l.brake.neg),sb l.brake.num,sb l.brake.den,vts l.shape]
def Lk.c (l:Lk):C:=.agg l.enc
def lks (l:List Lk):C:=.sl 16 (l.map Lk.enc)
def Am.enc (a:Am):List C:=[sb a.name,.v (.bool a.base.x.neg),sb a.base.x.num,sb a.base.x.den,.v (.bool a.base.y.neg),sb a.base.y.num,sb a.base.y.den,.v (.bool a.base.half),.v (.bool a.base.t.neg),sb a.base.t.num,sb a.base.t.den,lks a.links]
def Am.c (a:Am):C:=.agg a.enc
def ams (l:List Am):C:=.sl 12 (l.map Am.enc)
def Pt.enc (p:Pt):List C:=[sb p.name,vts p.shape,.v (.bool p.grasp.x.neg),sb p.grasp.x.num,sb p.grasp.x.den,.v (.bool p.grasp.y.neg),sb p.grasp.y.num,sb p.grasp.y.den,.v (.bool p.grasp.half),.v (.bool p.grasp.t.neg),sb p.grasp.t.num,sb p.grasp.t.den]
def Pt.c (p:Pt):C:=.agg p.enc
def pts (l:List Pt):C:=.sl 12 (l.map Pt.enc)
def Sl.enc (s:Sl):List C:=[sb s.name,.v (.bool s.frame.x.neg),sb s.frame.x.num,sb s.frame.x.den,.v (.bool s.frame.y.neg),sb s.frame.y.num,sb s.frame.y.den,.v (.bool s.frame.half),.v (.bool s.frame.t.neg),sb s.frame.t.num,sb s.frame.t.den,.v (.bool s.within.neg),sb s.within.num,sb s.within.den]
def Sl.c (s:Sl):C:=.agg s.enc
def sls (l:List Sl):C:=.sl 14 (l.map Sl.enc)
def Gt.enc (g:Gt):List C:=[sb g.name,.v (.bool g.low.x.neg),sb g.low.x.num,sb g.low.x.den,.v (.bool g.low.y.neg),sb g.low.y.num,sb g.low.y.den,.v (.bool g.high.x.neg),sb g.high.x.num,sb g.high.x.den,.v (.bool g.high.y.neg),sb g.high.y.num,sb g.high.y.den]
def Gt.c (g:Gt):C:=.agg g.enc
def gts (l:List Gt):C:=.sl 13 (l.map Gt.enc)
def wls (l:List (List Vt)):C:=.sl 1 (l.map fun s=>[vts s])
def Wk.enc (w:Wk):List C:=[ams w.arms,wls w.walls,pts w.parts,sls w.slots,gts w.gates,.v (.bool w.walk.neg),sb w.walk.num,sb w.walk.den]
def Wk.c (w:Wk):C:=.agg w.enc
def Fb (k:Nat) (f:Fr):Prop:=Rb k f.x/\Rb k f.y/\Rb k f.t
def Vbs (k:Nat) (l:List Vt):Prop:=l.length<=k/\∀ v ∈ l,Vb k v
def Lb (k:Nat) (l:Lk):Prop:=Rb k l.length/\Rb k l.low/\Rb k l.high/\Rb k l.speed/\Rb k l.brake/\Vbs k l.shape
def Ab (k:Nat) (a:Am):Prop:=a.name.length<=k/\Fb k a.base/\a.links.length<=k/\∀ l ∈ a.links,Lb k l
def Pb (k:Nat) (p:Pt):Prop:=p.name.length<=k/\Vbs k p.shape/\Fb k p.grasp
def Sb (k:Nat) (s:Sl):Prop:=s.name.length<=k/\Fb k s.frame/\Rb k s.within
def Gb (k:Nat) (g:Gt):Prop:=g.name.length<=k/\Vb k g.low/\Vb k g.high
structure Wb (k:Nat) (w:Wk):Prop where
 arms:w.arms.length<=k/\∀ x ∈ w.arms,Ab k x
 walls:w.walls.length<=k/\∀ x ∈ w.walls,Vbs k x
 parts:w.parts.length<=k/\∀ x ∈ w.parts,Pb k x
 slots:w.slots.length<=k/\∀ x ∈ w.slots,Sb k x
 gates:w.gates.length<=k/\∀ x ∈ w.gates,Gb k x
 walk:Rb k w.walk
def a1Q (s:List UInt8):Bool:=(s.all fun b=>decide (97<=b.toNat) && decide (b.toNat<=122)) && decide (1<=s.length) && decide (s.length<=12)
def a2Q (l:List Vt) (i k:Nat):Int:=a8O (l.getD i Vt.zero) (l.getD ((i+1) % l.length) Vt.zero) (l.getD ((i+k) % l.length) Vt.zero)
def L6 (l:List Vt) (most:Nat):Int:=
 if most < l.length then 2 else if l.length < 3 then 3 else
 if (List.range l.length).all fun i=>(List.range l.length).all fun k=>decide (k < 2) || decide (0 < a2Q l i k) then 0 else 3
def a5v (h:Bool) (t:Nm.Rt):Bool:=h && !decide (E9 (Nm.d9 t)=0)
def O7 (l:Lk):Int:=
 if (l6 l.length && l6 l.low && l6 l.high && l6 l.speed && l6 l.brake)=false \/ E9 (Nm.d9 l.length)<=0 \/ 0<=Nm.q9 (Nm.d9 l.low) (Nm.d9 l.high) then 1 else
 if E9 (Nm.d9 l.speed)<=0 \/ E9 (Nm.d9 l.brake)<=0 then 1 else
 if L6 l.shape 8 ≠ 0 then L6 l.shape 8 else
 if (l.shape.all fun v=>l6 v.x && l6 v.y) then 0 else 1
def J2 (a:Am):Int:=
 if a1Q a.name=false then 3 else
 if 3 < a.links.length then 2 else
 if a.links.length=0 \/ (l6 a.base.x && l6 a.base.y && l6 a.base.t)=false \/ a5v a.base.half a.base.t=true then 1 else
 I4 O7 a.links
def a2h (a:Am) (q:List Nm.Rt):Int:=
 if J2 a ≠ 0 then J2 a else if q.length ≠ a.links.length then 1 else
 I4 (fun x:Lk × Nm.Rt=>if Nm.q9 (Nm.d9 x.2) (Nm.d9 x.1.low) < 0 \/ 0 < Nm.q9 (Nm.d9 x.2) (Nm.d9 x.1.high) then 17 else 0) (a.links.zip q)
abbrev Nms:=List (List UInt8)
def M7 (n:Nms) (s:List UInt8):Int × Nms:=if a1Q s=false then (3,n) else if n.contains s then (5,n) else (0,n++[s])
def okV (v:Vt):Bool:=decide v.x.H9 && decide v.y.H9 && l6 v.x && l6 v.y
def okF (f:Fr):Bool:=okV ⟨f.x,f.y⟩ && decide f.t.H9 && l6 f.t && !a5v f.half f.t
def K6 (l:List Vt):Int:=if L6 l 8 ≠ 0 then L6 l 8 else if l.all okV then 0 else 1
def a2t (n:Nms) (a:Am):Int × Nms:=if J2 a ≠ 0 then (J2 a,n) else M7 n a.name
def a0X (n:Nms) (p:Pt):Int × Nms:=
 if (M7 n p.name).1 ≠ 0 then M7 n p.name else
 if K6 p.shape ≠ 0 then (K6 p.shape,(M7 n p.name).2) else
 (if okF p.grasp then 0 else 1,(M7 n p.name).2)
def a0O (n:Nms) (s:Sl):Int × Nms:=
 if (M7 n s.name).1 ≠ 0 then M7 n s.name else
 (if okF s.frame && decide s.within.H9 && l6 s.within && decide (0 < E9 (Nm.d9 s.within)) then 0 else 1,(M7 n s.name).2)
def a0U (n:Nms) (g:Gt):Int × Nms:=
 if (M7 n g.name).1 ≠ 0 then M7 n g.name else
 (if okV g.low && okV g.high && decide (Nm.q9 (Nm.d9 g.low.x) (Nm.d9 g.high.x)<=0) && decide (Nm.q9 (Nm.d9 g.low.y) (Nm.d9 g.high.y)<=0) then 0 else 1,(M7 n g.name).2)
def b3x (a:Nm.Rt):Int:=if decide a.H9 && l6 a && decide (0<=E9 (Nm.d9 a)) then 0 else 1
def a8l (w:Wk):List Int:=
 let a:=x9 a2t [] w.arms
 let p:=x9 a0X a.2 w.parts
 let s:=x9 a0O p.2 w.slots
 let g:=x9 a0U s.2 w.gates
 [a.1,I4 K6 w.walls,p.1,s.1,g.1]
def a0c (w:Wk):Int:=
 if 4 < w.arms.length \/ 10 < w.walls.length \/ 6 < w.parts.length \/ 8 < w.slots.length \/ 4 < w.gates.length then 2 else
 if w.arms.length=0 then 4 else
 if I4 id (a8l w) ≠ 0 then I4 id (a8l w) else b3x w.walk
def nmE (n:Nms):List (Value × Value):=n.map fun s=>(.string (bs s),.bool true)
theorem c3e (n:Nms) (s:List UInt8):a1n (.string (bs s)) (nmE n)=if n.contains s then some (.bool true) else none:=by
 induction n with
 | nil=>rfl
 | cons a n ih=>
  simp only [nmE,c7i,a1n,a1p]
  simp only [nmE] at ih
  rw [ih]
  by_cases h:s=a
  ·subst h;simp
  ·have h1:¬ bs s=bs a:=fun e=>h (b4d e)
   have h2:(s == a)=false:=by simpa using h
   rw [List.contains_cons]
   simp only [h2,Bool.false_or,decide_eq_false h1,c7C,if_false]
theorem c5o (n:Nms) (s:List UInt8) (h:n.contains s=false):a1i (.string (bs s)) (.bool true) (nmE n)=nmE (n++[s]):=by
 induction n with
 | nil=>rfl
 | cons a n ih=>
  rw [List.contains_cons,c7H] at h
  have h1:¬ bs s=bs a:=fun e=>by have:=b4d e;subst this;simp at h
  have h3:=ih h.2
  simp only [nmE,c7i,List.cons_append,a1i,a1p,decide_eq_false h1,c7C,if_false] at h3 ⊢
  rw [h3]
def c4L (f:Fr) (c:Vt):Rat:=Nm.d9 f.x+(Nm.d9 c.x*a2q f.half (J8 f.half f.t)-Nm.d9 c.y*Y9 (J8 f.half f.t))
def c5d (f:Fr) (c:Vt):Rat:=Nm.d9 f.y+(Nm.d9 c.x*Y9 (J8 f.half f.t)+Nm.d9 c.y*a2q f.half (J8 f.half f.t))
def c2F (h1:Bool) (t1:Rat) (h2:Bool) (t2:Rat):Bool × Rat:=
 if h1 && h2 then (false,0) else if h1 then (if t2=0 then (true,0) else (false,-1 / t2)) else if h2 then (if t1=0 then (true,0) else (false,-1 / t1)) else if 1-t1*t2=0 then (true,0) else (false,(t1+t2) / (1-t1*t2))
structure Ast where
 q:List Nm.Rt
 v:List Nm.Rt
 power:Bool
 holds:Int
structure Stt where
 tick:Int
 arms:List Ast
 parts:List Fr
 people:List Vt
 gates:List Bool
def rts (l:List Nm.Rt):C:=.sl 3 (l.map rcs)
def Ast.enc (x:Ast):List C:=[rts x.q,rts x.v,.v (.bool x.power),ints x.holds]
def Ast.c (x:Ast):C:=.agg x.enc
def K7 (l:List Ast):C:=.sl 4 (l.map Ast.enc)
def frs (l:List Fr):C:=.sl 10 (l.map Fr.enc)
def bls (l:List Bool):C:=.sl 1 (l.map fun b=>[.v (.bool b)])
def Stt.enc (s:Stt):List C:=[ints s.tick,K7 s.arms,frs s.parts,vts s.people,bls s.gates]
def Stt.c (s:Stt):C:=.agg s.enc
def Rbs (k:Nat) (l:List Nm.Rt):Prop:=l.length<=k/\∀ a ∈ l,Rb k a
def Asb (k:Nat) (x:Ast):Prop:=Rbs k x.q/\Rbs k x.v
structure Stb (k:Nat) (s:Stt):Prop where
 arms:s.arms.length<=k/\∀ x ∈ s.arms,Asb k x
 parts:s.parts.length<=k/\∀ x ∈ s.parts,Fb k x
 people:Vbs k s.people
 gates:s.gates.length<=k
def E5 (q:Rat):Rat:=if q.num < 0 then -q else q
def a1G (x:Lk × Nm.Rt):Int:=if 0 < Nm.q9 (E5 (Nm.d9 x.2)) (Nm.d9 x.1.speed) then 1 else 0
def M4 (a:Nm.Rt):Bool:=decide a.H9
def a1g (a:Am) (x:Ast) (parts:Nat):Int:=
 if (x.q.all M4 && x.v.all M4)=false then 3 else
 if a2h a x.q ≠ 0 then a2h a x.q else
 if x.v.length ≠ a.links.length \/ x.holds < -1 \/ (parts:Int)<=x.holds then 1 else
 I4 a1G (a.links.zip x.v)
def a8N (h:List Int) (n:Int):List Int:=if h.contains n then h else h++[n]
def hdE (h:List Int):List (Value × Value):=h.map fun n=>(.int .i64 n,.bool true)
def W9 (parts:Nat) (h:List Int) (x:Am × Ast):Int × List Int:=
 if a1g x.1 x.2 parts ≠ 0 then (a1g x.1 x.2 parts,h) else
 if (decide (0<=x.2.holds) && h.contains x.2.holds)=true then (10,h) else (0,a8N h x.2.holds)
def a1P (f:Fr):Bool:=(M4 f.x && M4 f.y && M4 f.t) && !a5v f.half f.t
def a3e (v:Vt):Bool:=M4 v.x && M4 v.y
def P7 (w:Wk) (s:Stt):Int:=
 if a0c w ≠ 0 then a0c w else
 if 4 < s.people.length then 2 else
 if s.tick < 0 \/ 2000 < s.tick \/ s.arms.length ≠ w.arms.length \/ s.parts.length ≠ w.parts.length \/ s.gates.length ≠ w.gates.length then 1 else
 if (x9 (W9 w.parts.length) [] (w.arms.zip s.arms)).1 ≠ 0 then (x9 (W9 w.parts.length) [] (w.arms.zip s.arms)).1 else
 if s.parts.all a1P && s.people.all a3e then 0 else 3
theorem c3z (h:List Int) (n:Int):a1n (.int .i64 n) (hdE h)=if h.contains n then some (.bool true) else none:=by
 induction h with
 | nil=>rfl
 | cons a h ih=>
  simp only [hdE,c7i,a1n,a1p]
  simp only [hdE] at ih
  rw [ih,List.contains_cons]
  by_cases e:n=a
  ·subst e;simp
  ·have e2:(n == a)=false:=by simpa using e
   simp only [e2,Bool.false_or,c7C,if_false]
theorem c5v (h:List Int) (n:Int):a1i (.int .i64 n) (.bool true) (hdE h)=hdE (a8N h n):=by
 induction h with
 | nil=>rfl
 | cons a h ih=>
  unfold a8N at ih ⊢
  rw [List.contains_cons]
  by_cases e:n=a
  ·subst e
   simp [hdE,a1i,a1p]
  ·have e2:(n == a)=false:=by simpa using e
   simp only [hdE,c7i,a1i,a1p,e2,Bool.false_or,c7C,if_false]
   simp only [hdE] at ih
   rw [ih]
   split<;>simp [hdE]
def a0C (l:Lk):Nm.Rt:=Nm.ofQ (G9 (Nm.d9 l.low) (G7 (Nm.d9 l.high) 0))
def R3 (a:Am):Ast:=⟨a.links.map a0C,a.links.map fun _=>Nm.ofQ 0,false,-1⟩
def a4r:Fr:=⟨Nm.ofQ 0,Nm.ofQ 0,false,Nm.ofQ 0⟩
def a8b (w:Wk) (i:Nat):Fr:=if h:i < w.slots.length then (w.slots[i]).frame else a4r
def D8 (w:Wk):Stt:=⟨0,w.arms.map R3,(List.range w.parts.length).map (a8b w),[],List.replicate w.gates.length false⟩
def nx (l:List Int) (n:Int):Int:=l.headD 0 % n
abbrev Q (n d:Int):Nm.Rt:=Nm.ofQ (mkRat n d.toNat)
def atV (x y:Int):Vt:=⟨Q x 4,Q y 4⟩
def a5x (x y u v:Int):List Vt:=[atV x y,atV u y,atV u v,atV x v]
def a1S (w h k s:Int):List Vt:=
 if k=0 then [atV (-w) (-h),atV w (-h),atV w h,atV (-w) h] else
 if k=1 then [atV (-w) (-h),atV w (-h),atV (s-w) h] else
 if k=2 then [atV (-w-1) (-h-1),atV w (-h-1),atV (w+1) (-h),atV (w+1) h,atV (-w-1) h] else
 [atV (-w) 0,atV 0 (-h),atV w 0,atV 0 h]
def a1K (l:List Int):List Vt × List Int:=
 let w:=1+nx l 6
 let h:=1+nx (l.drop 1) 6
 let k:=nx (l.drop 2) 4
 if k=1 then (a1S w h k (nx (l.drop 3) (2*w+1)),l.drop 4) else (a1S w h k 0,l.drop 3)
def a5y (a lo hi sp br tri:Int):Lk:=
 ⟨Q (4+2*a) 4,Q (-1-lo) 3,Q (1+hi) 3,Q 1 (4+sp),Q 1 (10+br),if tri=2 then [atV (-1) (-1),atV (4+2*a+1) 0,atV (-1) 1] else a5x (-1) (-1) (4+2*a+1) 1⟩
def b3B (l:List Int):Lk:=a5y (nx l 4) (nx (l.drop 1) 6) (nx (l.drop 2) 6) (nx (l.drop 3) 8) (nx (l.drop 4) 20) (nx (l.drop 5) 3)
def a1z:Nat->List Int->List Lk
 | 0,_=>[]
 | n+1,l=>b3B l::a1z n (l.drop 6)
def a3G (k:Int):Int:=if k=0 then 0 else if k=2 then -1 else 1
def a5o (n:Nat):List UInt8:=[[111,110,101],[116,119,111],[116,104,114,101,101],[102,111,117,114]].getD n []
def a4z (l:List Int):Nat:=(1+nx (l.drop 2) 3).toNat
def b1C (l:List Int) (n:Nat):Am:=⟨a5o n,⟨Q (40*n) 4,Q 0 4,false,Q (a3G (nx l 4)) (1+nx (l.drop 1) 3)⟩,a1z (a4z l) (l.drop 3)⟩
def b2b (l:List Int):List Int:=l.drop (3+6*a4z l)
def a1m:Nat->Nat->List Int->List Am
 | 0,_,_=>[]
 | k+1,n,l=>b1C l n::a1m k (n+1) (b2b l)
def a6O:Nat->List Int->List Int
 | 0,l=>l
 | k+1,l=>a6O k (b2b l)
def a1k (l:List Int):Int:=if nx (l.drop 2) 2=1 then -(12+nx (l.drop 1) 30)-6 else 12+nx (l.drop 1) 30
def b3A (l:List Int):List Vt:=
 a5x (nx l 80-30) (a1k l) (nx l 80-30+1+nx (l.drop 3) 20) (a1k l+1+nx (l.drop 4) 5)
def a2e:Nat->List Int->List (List Vt)
 | 0,_=>[]
 | k+1,l=>b3A l::a2e k (l.drop 5)
def a4u (n:Nat):List UInt8:=[[98,111,108,116],[110,117,116]].getD n []
def c2I (l:List Int) (n:Nat):Pt:=⟨a4u n,(a1K l).1,⟨Q 0 4,Q 0 4,false,Q 0 1⟩⟩
def a0G:Nat->Nat->List Int->List Pt
 | 0,_,_=>[]
 | k+1,n,l=>c2I l n::a0G k (n+1) (a1K l).2
def a4X:Nat->List Int->List Int
 | 0,l=>l
 | k+1,l=>a4X k (a1K l).2
def a5O (n:Nat):List UInt8:=[[104,101,114,101],[116,104,101,114,101],[98,101,121,111,110,100]].getD n []
def b8r (l:List Int) (n:Nat):Sl:=⟨a5O n,⟨Q (nx l 40-20) 4,Q (nx (l.drop 1) 24-12) 4,false,Q (nx (l.drop 2) 5-2) 2⟩,Q 1 (8+nx (l.drop 3) 20)⟩
def a0H:Nat->Nat->List Int->List Sl
 | 0,_,_=>[]
 | k+1,n,l=>b8r l n::a0H k (n+1) (l.drop 4)
def b8s (l:List Int):Gt:=⟨[100,111,111,114],atV (nx l 60-30) (nx (l.drop 1) 60-30),atV (nx l 60-30+nx (l.drop 2) 12) (nx (l.drop 1) 60-30+nx (l.drop 3) 12)⟩
def a0I:Nat->List Int->List Gt
 | 0,_=>[]
 | k+1,l=>b8s l::a0I k (l.drop 4)
def nA (l:List Int):Nat:=(1+nx l 2).toNat
def l1 (l:List Int):List Int:=a6O (nA l) (l.drop 1)
def nW (l:List Int):Nat:=(nx (l1 l) 3).toNat
def l2 (l:List Int):List Int:=(l1 l).drop (1+5*nW l)
def nP (l:List Int):Nat:=(nx (l2 l) 3).toNat
def l3 (l:List Int):List Int:=a4X (nP l) ((l2 l).drop 1)
def nS (l:List Int):Nat:=nP l+(nx (l3 l) 2).toNat
def l4 (l:List Int):List Int:=(l3 l).drop (1+4*nS l)
def nG (l:List Int):Nat:=(nx (l4 l) 2).toNat
def l5 (l:List Int):List Int:=(l4 l).drop (1+4*nG l)
def u7 (l:List Int):Wk:=
 ⟨a1m (nA l) 0 (l.drop 1),a2e (nW l) ((l1 l).drop 1),a0G (nP l) 0 ((l2 l).drop 1),a0H (nS l) 0 ((l3 l).drop 1),a0I (nG l) ((l4 l).drop 1),Q (nx (l5 l) 4) 8⟩
theorem l9 (l:List Int) {n:Int} (h:0 < n):0<=nx l n:=Int.emod_nonneg _ (by omega)
theorem A8 (l:List Int) {n:Int} (h:0 < n):nx l n < n:=Int.emod_lt_of_pos _ h
set_option maxRecDepth 100000
theorem a9F (n d:Int) (hd:1<=d):∃ g:Nat,0 < g/\(∃ k:Int,n=g*k/\(mkRat n d.toNat).num=k)/\(mkRat n d.toNat).den<=d.toNat:=by
 have hd0:d.toNat ≠ 0:=by omega
 rw [Rat.num_mkRat,Rat.den_mkRat,if_neg hd0,if_neg hd0]
 have hg:0 < Nat.gcd d.toNat n.natAbs:=Nat.gcd_pos_of_pos_left _ (by omega)
 refine ⟨Nat.gcd d.toNat n.natAbs,hg,?_,Nat.div_le_self _ _⟩
 have hdv:((Nat.gcd d.toNat n.natAbs:Nat):Int) ∣ n:=Int.ofNat_dvd_left.2 (Nat.gcd_dvd_right ..)
 obtain ⟨k,hk⟩:=hdv
 refine ⟨k,hk,?_⟩
 conv=>lhs;arg 1;rw [hk]
 exact Int.mul_ediv_cancel_left _ (by omega)
theorem c2a (q:Rat):E9 q=q.num.sign:=by
 unfold E9
 by_cases h:q.num=0
 ·rw [if_pos h,h];rfl
 ·rw [if_neg h]
  by_cases h2:q.num < 0
  ·rw [if_pos h2,Int.sign_eq_neg_one_of_neg h2]
  ·rw [if_neg h2,Int.sign_eq_one_of_pos (by omega)]
theorem a6p (n d:Int) (hd:1<=d):E9 (mkRat n d.toNat)=n.sign:=by
 obtain ⟨g,hg,⟨k,h1,h2⟩,_⟩:=a9F n d hd
 rw [c2a,h2,h1,Int.sign_mul,Int.sign_eq_one_of_pos (show (0:Int) < (g:Int) by omega),Int.one_mul]
theorem R9 (n d:Int) (hn:-1000000<=n/\n<=1000000) (hd:1<=d/\d<=1000):l6 (Q n d)=true:=by
 obtain ⟨g,hg,⟨k,h1,h2⟩,h3⟩:=a9F n d hd.1
 have hk:k.natAbs<=1000000:=by
  have:n.natAbs=g*k.natAbs:=by rw [h1,Int.natAbs_mul];simp
  have:k.natAbs<=g*k.natAbs:=Nat.le_mul_of_pos_left _ hg
  omega
 unfold l6
 simp only [c7c,c7h]
 have e1:(Q n d).num=Nm.enc k.natAbs:=by unfold Q Nm.ofQ;rw [h2]
 have e2:(Q n d).den=Nm.enc (mkRat n d.toNat).den:=rfl
 rw [e1,e2,Nm.H8,Nm.H8]
 exact ⟨⟨⟨⟨Nm.F3 (by omega),Nm.F3 (by omega)⟩,Nm.a0E _⟩,hk⟩,by omega⟩
theorem a4L (n d:Int):(Q n d).H9:=Nm.a0E _
theorem a2P (n d:Int):Nm.d9 (Q n d)=mkRat n d.toNat:=Nm.p9 _
theorem a6A (a b:Int) {n:Nat} (hn:n ≠ 0):mkRat a n-mkRat b n=mkRat (a-b) n:=by
 rw [Rat.sub_eq_add_neg,Rat.neg_mkRat,Rat.mkRat_add_mkRat _ _ hn hn,<- Int.add_mul,Rat.mkRat_mul_right hn]
 rw [Int.sub_eq_add_neg]
theorem mk_pos (a:Int) {n:Nat} (hn:n ≠ 0):0 < mkRat a n <-> 0 < a:=by
 have h:=a6p a (n:Int) (by omega)
 rw [c7a] at h
 have hnp:0 < mkRat a n <-> 0 < (mkRat a n).num:=by
  rw [<- Rat.not_le,<- Int.not_le]
  refine not_congr ?_
  rw [Rat.le_iff]
  simp
 rw [hnp]
 unfold E9 at h
 rcases Int.lt_trichotomy a 0 with h1|h1|h1
 ·rw [Int.sign_eq_neg_one_of_neg h1] at h
  split at h
  ·cases h
  ·split at h
   ·omega
   ·cases h
 ·subst h1
  simp at h ⊢
 ·rw [Int.sign_eq_one_of_pos h1] at h
  split at h
  ·cases h
  ·split at h
   ·cases h
   ·omega
theorem b9y {a b:Int} {n:Nat} (hn:n ≠ 0) (h:a < b):Nm.q9 (mkRat a n) (mkRat b n)=-1:=by
 unfold Nm.q9
 rw [if_pos]
 have h1:=(mk_pos (b-a) hn).2 (by omega)
 rw [<- a6A b a hn] at h1
 grind
theorem c0p {a b:Int} {n:Nat} (hn:n ≠ 0) (h:a<=b):Nm.q9 (mkRat a n) (mkRat b n)<=0:=by
 rcases Int.lt_or_eq_of_le h with h1|h1
 ·rw [b9y hn h1];decide
 ·subst h1
  unfold Nm.q9
  rw [if_neg (Rat.lt_irrefl),if_pos rfl]
  exact Int.le_refl _
def a7z (p q r:Int × Int):Int:=(q.1-p.1)*(r.2-p.2)-(q.2-p.2)*(r.1-p.1)
theorem left_at (p q r:Int × Int):a8O (atV p.1 p.2) (atV q.1 q.2) (atV r.1 r.2)=(a7z p q r).sign:=by
 unfold a8O atV a7z
 simp only [a2P]
 rw [show Int.toNat 4=4 from rfl,a6A _ _ (by decide),a6A _ _ (by decide),a6A _ _ (by decide),a6A _ _ (by decide),Rat.mkRat_mul_mkRat,Rat.mkRat_mul_mkRat,a6A _ _ (by decide)]
 exact a6p _ 16 (by decide)
def a8K (l:List (Int × Int)):Bool:=(List.range l.length).all fun i=>(List.range l.length).all fun k=>decide (k < 2) || decide (0 < a7z (l.getD i (0,0)) (l.getD ((i+1) % l.length) (0,0)) (l.getD ((i+k) % l.length) (0,0)))
def a5d (l:List (Int × Int)):List Vt:=l.map fun p=>atV p.1 p.2
theorem a9x (l:List (Int × Int)) (i:Nat) (h:i < l.length):(a5d l).getD i Vt.zero=atV (l.getD i (0,0)).1 (l.getD i (0,0)).2:=by
 rw [c7g,c7g,a5d,c7f,c6T h]
 rfl
theorem c3r (l:List (Int × Int)) (h3:3<=l.length) (h8:l.length<=8) (h:a8K l=true):L6 (a5d l) 8=0:=by
 have hl:(a5d l).length=l.length:=by simp [a5d]
 unfold L6
 rw [if_neg (by omega),if_neg (by omega),if_pos]
 rw [hl,<- h]
 unfold a8K
 have key:∀ i,i < l.length->∀ k,decide (0 < a2Q (a5d l) i k)=decide (0 < a7z (l.getD i (0,0)) (l.getD ((i+1) % l.length) (0,0)) (l.getD ((i+k) % l.length) (0,0))):=by
  intro i hi k
  unfold a2Q
  rw [hl,a9x l i hi,a9x l _ (Nat.mod_lt _ (by omega)),a9x l _ (Nat.mod_lt _ (by omega)),left_at]
  refine decide_eq_decide.2 ?_
  exact Int.sign_pos_iff
 rw [Bool.eq_iff_iff,List.all_eq_true,List.all_eq_true]
 refine forall_congr' fun i=>?_
 refine imp_congr_right fun hi=>?_
 rw [List.all_eq_true,List.all_eq_true]
 refine forall_congr' fun k=>?_
 refine imp_congr_right fun hk=>?_
 rw [key i (List.mem_range.1 hi) k]
theorem c0N (x y u v:Int) (h1:x < u) (h2:y < v):a8K [(x,y),(u,y),(u,v),(x,v)]=true:=by
 have hp:0 < (u-x)*(v-y):=Int.mul_pos (by omega) (by omega)
 unfold a8K
 simp only [c7m,List.length_nil,show List.range (0+1+1+1+1)=[0,1,2,3] from rfl,List.all_cons,List.all_nil,Bool.and_true,c7c,c7K,c7h]
 refine ⟨⟨.inl (by decide),.inl (by decide),.inr ?_,.inr ?_⟩,⟨.inl (by decide),.inl (by decide),.inr ?_,.inr ?_⟩,⟨.inl (by decide),.inl (by decide),.inr ?_,.inr ?_⟩,⟨.inl (by decide),.inl (by decide),.inr ?_,.inr ?_⟩⟩ <;>
 ·simp [a7z]
  grind
theorem a9K (l:List (Int × Int)) (h3:3<=l.length) (h8:l.length<=8) (h:a8K l=true) (hb:∀ p ∈ l,(-1000000<=p.1/\p.1<=1000000)/\-1000000<=p.2/\p.2<=1000000):K6 (a5d l)=0/\(a5d l).all (fun v=>l6 v.x && l6 v.y)=true:=by
 have hs:∀ v ∈ a5d l,l6 v.x=true/\l6 v.y=true/\v.x.H9/\v.y.H9:=by
  intro v hv
  obtain ⟨p,hp,rfl⟩:=List.mem_map.1 hv
  have:=hb p hp
  exact ⟨R9 _ _ this.1 (by decide),R9 _ _ this.2 (by decide),a4L _ _,a4L _ _⟩
 refine ⟨?_,?_⟩
 ·unfold K6
  rw [c3r l h3 h8 h,if_neg (by decide),if_pos]
  rw [List.all_eq_true]
  intro v hv
  obtain ⟨a1,a2,a3,a4⟩:=hs v hv
  unfold okV
  simp [a1,a2,a3,a4]
 ·rw [List.all_eq_true]
  intro v hv
  obtain ⟨a1,a2,a3,a4⟩:=hs v hv
  simp [a1,a2]
def a2K (w h k s:Int):List (Int × Int):=
 if k=0 then [(-w,-h),(w,-h),(w,h),(-w,h)] else
 if k=1 then [(-w,-h),(w,-h),(s-w,h)] else
 if k=2 then [(-w-1,-h-1),(w,-h-1),(w+1,-h),(w+1,h),(-w-1,h)] else
 [(-w,0),(0,-h),(w,0),(0,h)]
theorem b9Z (w h k s:Int):a1S w h k s=a5d (a2K w h k s):=by
 unfold a1S a2K
 split
 ·rfl
 split
 ·rfl
 split<;>rfl
theorem b9w:∀ w h:Fin 6,∀ k:Fin 4,∀ s:Fin 13,(s:Nat)<=2*(w+1:Nat)->a8K (a2K ((w:Nat)+1:Int) ((h:Nat)+1:Int) ((k:Nat):Int) ((s:Nat):Int))=true:=by decide +kernel
theorem c1C (w h k s:Int):3<=(a2K w h k s).length/\(a2K w h k s).length<=8:=by
 unfold a2K
 split
 ·simp
 split
 ·simp
 split<;>simp
theorem b8h {w h k s:Int} (hw:1<=w/\w<=6) (hh:1<=h/\h<=6) (hs:0<=s/\s<=12):∀ p ∈ a2K w h k s,(-1000000<=p.1/\p.1<=1000000)/\-1000000<=p.2/\p.2<=1000000:=by
 unfold a2K
 intro p hp
 split at hp
 ·simp at hp;rcases hp with rfl|rfl|rfl|rfl<;>simp only<;>omega
 split at hp
 ·simp at hp;rcases hp with rfl|rfl|rfl<;>simp only<;>omega
 split at hp
 ·simp at hp;rcases hp with rfl|rfl|rfl|rfl|rfl<;>simp only<;>omega
 ·simp at hp;rcases hp with rfl|rfl|rfl|rfl<;>simp only<;>omega
theorem b3L {w h k s:Int} (hw:1<=w/\w<=6) (hh:1<=h/\h<=6) (hk:0<=k/\k<=3) (hs:0<=s/\s<=2*w):K6 (a1S w h k s)=0/\(a1S w h k s).length<=8:=by
 have hc:=b9w ⟨(w-1).toNat,by omega⟩ ⟨(h-1).toNat,by omega⟩ ⟨k.toNat,by omega⟩ ⟨s.toNat,by omega⟩ (by simp only;omega)
 simp only at hc
 rw [show (((w-1).toNat:Nat)+1:Int)=w by omega,show (((h-1).toNat:Nat)+1:Int)=h by omega,show ((k.toNat:Nat):Int)=k by omega,show ((s.toNat:Nat):Int)=s by omega] at hc
 rw [b9Z]
 obtain ⟨l1,l2⟩:=c1C w h k s
 exact ⟨(a9K _ l1 l2 hc (b8h hw hh (by omega))).1,by simpa [a5d] using l2⟩
theorem b4a (l:List Int):K6 (a1K l).1=0/\(a1K l).1.length<=8:=by
 have b1:=l9 l (n:=6) (by decide)
 have b2:=A8 l (n:=6) (by decide)
 have b3:=l9 (l.drop 1) (n:=6) (by decide)
 have b4:=A8 (l.drop 1) (n:=6) (by decide)
 have b5:=l9 (l.drop 2) (n:=4) (by decide)
 have b6:=A8 (l.drop 2) (n:=4) (by decide)
 unfold a1K
 simp only
 split
 ·rename_i h
  have b7:=l9 (l.drop 3) (n:=2*(1+nx l 6)+1) (by omega)
  have b8:=A8 (l.drop 3) (n:=2*(1+nx l 6)+1) (by omega)
  exact b3L (by omega) (by omega) (by omega) (by omega)
 ·exact b3L (by omega) (by omega) (by omega) (by omega)
theorem b7e {x y u v:Int} (h1:x < u) (h2:y < v) (hb:-1000000<=x/\u<=1000000/\-1000000<=y/\v<=1000000):K6 (a5x x y u v)=0/\(a5x x y u v).all (fun v=>l6 v.x && l6 v.y)=true:=
 a9K [(x,y),(u,y),(u,v),(x,v)] (by simp) (by simp) (c0N x y u v h1 h2) (fun p hp=>by simp at hp;rcases hp with rfl|rfl|rfl|rfl<;>simp only<;>omega)
theorem a6a {l:List Vt} (h:K6 l=0):L6 l 8=0:=by
 unfold K6 at h
 split at h
 ·rename_i h1;exact absurd h h1
 ·rename_i h1;exact Classical.not_not.1 h1
theorem c3Z {a lo hi sp br tri:Int} (ha:0<=a/\a < 4) (h1:0<=lo/\lo < 6) (h2:0<=hi/\hi < 6) (h3:0<=sp/\sp < 8) (h4:0<=br/\br < 20):O7 (a5y a lo hi sp br tri)=0:=by
 have hs:∀ n d:Int,0 < n->1<=d->E9 (Nm.d9 (Q n d))=1:=fun n d hn hd=>by rw [a2P,a6p _ _ hd,Int.sign_eq_one_of_pos hn]
 have hsh:K6 (a5y a lo hi sp br tri).shape=0/\(a5y a lo hi sp br tri).shape.all (fun v=>l6 v.x && l6 v.y)=true:=by
  unfold a5y
  simp only
  split
  ·refine a9K [(-1,-1),(4+2*a+1,0),(-1,1)] (by simp) (by simp) ?_ (fun p hp=>by simp at hp;rcases hp with rfl|rfl|rfl<;>simp only<;>omega)
   have:a=0 \/ a=1 \/ a=2 \/ a=3:=by omega
   rcases this with rfl|rfl|rfl|rfl<;>decide
  ·exact b7e (by omega) (by omega) (by omega)
 have hpe:=a6a hsh.1
 unfold O7
 rw [hpe,hsh.2,if_neg,if_neg,if_neg (by decide),if_pos rfl]
 ·unfold a5y
  simp only
  rw [hs 1 (4+sp) (by decide) (by omega),hs 1 (10+br) (by decide) (by omega)]
  decide
 ·unfold a5y
  simp only
  rw [R9 _ _ (by omega) (by omega),R9 _ _ (by omega) (by omega),R9 _ _ (by omega) (by omega),R9 _ _ (by omega) (by omega),R9 _ _ (by omega) (by omega),hs (4+2*a) 4 (by omega) (by decide),a2P,a2P,b9y (by decide) (by omega)]
  decide
theorem a9D:∀ (n:Nat) (l:List Int),I4 O7 (a1z n l)=0/\(a1z n l).length=n
 | 0,_=>⟨rfl,rfl⟩
 | n+1,l=>by
  have h:=c3Z (a:=nx l 4) (lo:=nx (l.drop 1) 6) (hi:=nx (l.drop 2) 6) (sp:=nx (l.drop 3) 8) (br:=nx (l.drop 4) 20) (tri:=nx (l.drop 5) 3)
   ⟨l9 _ (by decide),A8 _ (by decide)⟩ ⟨l9 _ (by decide),A8 _ (by decide)⟩ ⟨l9 _ (by decide),A8 _ (by decide)⟩ ⟨l9 _ (by decide),A8 _ (by decide)⟩ ⟨l9 _ (by decide),A8 _ (by decide)⟩
  have e:O7 (b3B l)=0:=h
  simp only [a1z,I4,c7m]
  rw [if_pos e]
  exact ⟨(a9D n _).1,by rw [(a9D n _).2]⟩
theorem b7x (k:Int):-1<=a3G k/\a3G k<=1:=by unfold a3G;split;omega;split<;>omega
theorem c4V (l:List Int) (n:Nat) (hn:n<=3):J2 (b1C l n)=0:=by
 have a3:=l9 (l.drop 1) (n:=3) (by decide)
 have a4:=A8 (l.drop 1) (n:=3) (by decide)
 have a5:=l9 (l.drop 2) (n:=3) (by decide)
 have a6:=A8 (l.drop 2) (n:=3) (by decide)
 have ht:=b7x (nx l 4)
 obtain ⟨g1,g2⟩:=a9D (a4z l) (l.drop 3)
 have hc:a4z l=(1+nx (l.drop 2) 3).toNat:=rfl
 have hnm:a1Q (a5o n)=true:=by
  have:n=0 \/ n=1 \/ n=2 \/ n=3:=by omega
  rcases this with rfl|rfl|rfl|rfl<;>decide
 unfold J2 b1C
 simp only
 rw [g1,hnm,if_neg (by decide),if_neg (by rw [g2];omega),if_neg]
 rw [g2,R9 _ _ (by omega) (by decide),R9 _ _ (by omega) (by decide),R9 _ _ (by omega) (by omega)]
 rintro (h|h|h)
 ·omega
 ·cases h
 ·cases h
theorem b5d:∀ (l:List Am) (n:Nms),(∀ a ∈ l,J2 a=0)->x9 a2t n l=x9 M7 n (l.map Am.name)
 | [],_,_=>rfl
 | a::l,n,h=>by
  have h0:=h a (by simp)
  have e:a2t n a=M7 n a.name:=by unfold a2t;rw [h0,if_neg (by decide)]
  simp only [x9,c7i,e]
  split
  ·exact b5d l _ fun x hx=>h x (by simp [hx])
  ·rfl
theorem b3b:∀ (l:List Pt) (n:Nms),(∀ a ∈ l,K6 a.shape=0/\okF a.grasp=true)->x9 a0X n l=x9 M7 n (l.map Pt.name)
 | [],_,_=>rfl
 | a::l,n,h=>by
  obtain ⟨h0,h1⟩:=h a (by simp)
  have e:a0X n a=M7 n a.name:=by
   unfold a0X
   by_cases h2:(M7 n a.name).1=0
   ·rw [if_neg (by rw [h2];decide),h0,if_neg (by decide),h1,if_pos rfl]
    rw [<- h2]
   ·rw [if_pos h2]
  simp only [x9,c7i,e]
  split
  ·exact b3b l _ fun x hx=>h x (by simp [hx])
  ·rfl
theorem b2s:∀ (l:List Sl) (n:Nms),(∀ s ∈ l,(okF s.frame && decide s.within.H9 && l6 s.within && decide (0 < E9 (Nm.d9 s.within)))=true)->x9 a0O n l=x9 M7 n (l.map Sl.name)
 | [],_,_=>rfl
 | a::l,n,h=>by
  have h1:=h a (by simp)
  have e:a0O n a=M7 n a.name:=by
   unfold a0O
   by_cases h2:(M7 n a.name).1=0
   ·rw [if_neg (by rw [h2];decide),h1,if_pos rfl]
    rw [<- h2]
   ·rw [if_pos h2]
  simp only [x9,c7i,e]
  split
  ·exact b2s l _ fun x hx=>h x (by simp [hx])
  ·rfl
theorem b2V:∀ (l:List Gt) (n:Nms),(∀ g ∈ l,(okV g.low && okV g.high && decide (Nm.q9 (Nm.d9 g.low.x) (Nm.d9 g.high.x)<=0) && decide (Nm.q9 (Nm.d9 g.low.y) (Nm.d9 g.high.y)<=0))=true)->x9 a0U n l=x9 M7 n (l.map Gt.name)
 | [],_,_=>rfl
 | a::l,n,h=>by
  have h1:=h a (by simp)
  have e:a0U n a=M7 n a.name:=by
   unfold a0U
   by_cases h2:(M7 n a.name).1=0
   ·rw [if_neg (by rw [h2];decide),h1,if_pos rfl]
    rw [<- h2]
   ·rw [if_pos h2]
  simp only [x9,c7i,e]
  split
  ·exact b2V l _ fun x hx=>h x (by simp [hx])
  ·rfl
theorem a1O {α:Type} {f:α->Int}:∀ {l:List α},(∀ x ∈ l,f x=0)->I4 f l=0
 | [],_=>rfl
 | x::l,h=>by rw [I4,if_pos (h x (by simp))];exact a1O fun y hy=>h y (by simp [hy])
theorem a7m:∀ (c n:Nat) (l:List Int),n+c<=4->∀ a ∈ a1m c n l,J2 a=0
 | 0,_,_,_,a,ha=>by cases ha
 | c+1,n,l,h,a,ha=>by
  rcases List.mem_cons.1 ha with rfl|ha
  ·exact c4V l n (by omega)
  ·exact a7m c (n+1) _ (by omega) a ha
theorem a8W:∀ (c n:Nat) (l:List Int),(a1m c n l).map Am.name=(List.range c).map fun i=>a5o (n+i)
 | 0,_,_=>rfl
 | c+1,n,l=>by
  rw [a1m,c7i,a8W c,List.range_succ_eq_map,c7i,List.map_map]
  congr 1
  refine List.map_congr_left fun i _=>?_
  simp only [Function.comp]
  congr 1
  omega
theorem a8g:∀ (c n:Nat) (l:List Int),(a1m c n l).length=c
 | 0,_,_=>rfl
 | c+1,n,l=>by rw [a1m,c7m,a8g]
theorem c1r (l:List Int):K6 (b3A l)=0/\(b3A l).all (fun v=>l6 v.x && l6 v.y)=true:=by
 have a1:=l9 l (n:=80) (by decide)
 have a2:=A8 l (n:=80) (by decide)
 have a3:=l9 (l.drop 1) (n:=30) (by decide)
 have a4:=A8 (l.drop 1) (n:=30) (by decide)
 have a5:=l9 (l.drop 3) (n:=20) (by decide)
 have a6:=A8 (l.drop 3) (n:=20) (by decide)
 have a7:=l9 (l.drop 4) (n:=5) (by decide)
 have a8:=A8 (l.drop 4) (n:=5) (by decide)
 have hy:-1000<=a1k l/\a1k l<=1000:=by unfold a1k;split<;>omega
 exact b7e (by omega) (by omega) (by omega)
theorem a5D:∀ (c:Nat) (l:List Int),(∀ x ∈ a2e c l,K6 x=0/\x.all (fun v=>l6 v.x && l6 v.y)=true)/\(a2e c l).length=c
 | 0,_=>⟨fun x hx=>(by cases hx),rfl⟩
 | c+1,l=>by
  refine ⟨fun x hx=>?_,by rw [a2e,c7m,(a5D c _).2]⟩
  rcases List.mem_cons.1 hx with rfl|hx
  ·exact c1r l
  ·exact (a5D c _).1 x hx
theorem b8b {a b c d:Int} (ha:-1000000<=a/\a<=1000000) (hb:1<=b/\b<=1000) (hc:-1000000<=c/\c<=1000000) (hd:1<=d/\d<=1000):okV ⟨Q a b,Q c d⟩=true:=by
 unfold okV
 simp only [R9 _ _ ha hb,R9 _ _ hc hd,decide_eq_true (a4L a b),decide_eq_true (a4L c d),Bool.and_self]
theorem c2H {a c e f:Int} (ha:-1000000<=a/\a<=1000000) (hc:-1000000<=c/\c<=1000000) (he:-1000000<=e/\e<=1000000) (hf:1<=f/\f<=1000):okF ⟨Q a 4,Q c 4,false,Q e f⟩=true:=by
 unfold okF a5v
 simp only [b8b ha (show (1:Int)<=4/\(4:Int)<=1000 by decide) hc (show (1:Int)<=4/\(4:Int)<=1000 by decide),R9 _ _ he hf,decide_eq_true (a4L e f),Bool.false_and,Bool.not_false,Bool.and_self]
theorem a7Z:∀ (c n:Nat) (l:List Int),(∀ p ∈ a0G c n l,(K6 p.shape=0/\okF p.grasp=true)/\p.shape.length<=8)/\(a0G c n l).length=c/\(a0G c n l).map Pt.name=(List.range c).map fun i=>a4u (n+i)
 | 0,_,_=>⟨fun x hx=>(by cases hx),rfl,rfl⟩
 | c+1,n,l=>by
  obtain ⟨h1,h2,h3⟩:=a7Z c (n+1) (a1K l).2
  refine ⟨fun x hx=>?_,by rw [a0G,c7m,h2],?_⟩
  ·rcases List.mem_cons.1 hx with rfl|hx
   ·exact ⟨⟨(b4a l).1,c2H (by decide) (by decide) (by decide) (by decide)⟩,(b4a l).2⟩
   ·exact h1 x hx
  ·rw [a0G,c7i,h3,List.range_succ_eq_map,c7i,List.map_map]
   congr 1
   refine List.map_congr_left fun i _=>?_
   simp only [Function.comp]
   congr 1
   omega
theorem a5P:∀ (c n:Nat) (l:List Int),(∀ s ∈ a0H c n l,(okF s.frame && decide s.within.H9 && l6 s.within && decide (0 < E9 (Nm.d9 s.within)))=true)/\(a0H c n l).length=c/\(a0H c n l).map Sl.name=(List.range c).map fun i=>a5O (n+i)
 | 0,_,_=>⟨fun x hx=>(by cases hx),rfl,rfl⟩
 | c+1,n,l=>by
  obtain ⟨h1,h2,h3⟩:=a5P c (n+1) (l.drop 4)
  have a1:=l9 l (n:=40) (by decide)
  have a2:=A8 l (n:=40) (by decide)
  have a3:=l9 (l.drop 1) (n:=24) (by decide)
  have a4:=A8 (l.drop 1) (n:=24) (by decide)
  have a5:=l9 (l.drop 2) (n:=5) (by decide)
  have a6:=A8 (l.drop 2) (n:=5) (by decide)
  have a7:=l9 (l.drop 3) (n:=20) (by decide)
  have a8:=A8 (l.drop 3) (n:=20) (by decide)
  refine ⟨fun x hx=>?_,by rw [a0H,c7m,h2],?_⟩
  ·rcases List.mem_cons.1 hx with rfl|hx
   ·unfold b8r
    simp only
    rw [c2H (by omega) (by omega) (by omega) (by decide),R9 _ _ (by decide) (by omega),decide_eq_true (a4L _ _),a2P,a6p _ _ (by omega)]
    decide
   ·exact h1 x hx
  ·rw [a0H,c7i,h3,List.range_succ_eq_map,c7i,List.map_map]
   congr 1
   refine List.map_congr_left fun i _=>?_
   simp only [Function.comp]
   congr 1
   omega
theorem a7K:∀ (c:Nat) (l:List Int),(∀ g ∈ a0I c l,(okV g.low && okV g.high && decide (Nm.q9 (Nm.d9 g.low.x) (Nm.d9 g.high.x)<=0) && decide (Nm.q9 (Nm.d9 g.low.y) (Nm.d9 g.high.y)<=0))=true)/\(a0I c l).length=c/\(a0I c l).map Gt.name=List.replicate c [100,111,111,114]
 | 0,_=>⟨fun x hx=>(by cases hx),rfl,rfl⟩
 | c+1,l=>by
  obtain ⟨h1,h2,h3⟩:=a7K c (l.drop 4)
  have a1:=l9 l (n:=60) (by decide)
  have a2:=A8 l (n:=60) (by decide)
  have a3:=l9 (l.drop 1) (n:=60) (by decide)
  have a4:=A8 (l.drop 1) (n:=60) (by decide)
  have a5:=l9 (l.drop 2) (n:=12) (by decide)
  have a6:=A8 (l.drop 2) (n:=12) (by decide)
  have a7:=l9 (l.drop 3) (n:=12) (by decide)
  have a8:=A8 (l.drop 3) (n:=12) (by decide)
  refine ⟨fun x hx=>?_,by rw [a0I,c7m,h2],?_⟩
  ·rcases List.mem_cons.1 hx with rfl|hx
   ·unfold b8s atV
    simp only
    rw [b8b (by omega) (by decide) (by omega) (by decide),b8b (by omega) (by decide) (by omega) (by decide),a2P,a2P,a2P,a2P,decide_eq_true (c0p (by decide) (by omega)),decide_eq_true (c0p (by decide) (by omega))]
    decide
   ·exact h1 x hx
  ·rw [a0I,c7i,h3,List.replicate_succ]
   rfl
theorem counts (l:List Int):(1<=nA l/\nA l<=2)/\nW l<=2/\nP l<=2/\(nP l<=nS l/\nS l<=nP l+1)/\nG l<=1:=by
 have a1:=l9 l (n:=2) (by decide)
 have a2:=A8 l (n:=2) (by decide)
 have a3:=l9 (l1 l) (n:=3) (by decide)
 have a4:=A8 (l1 l) (n:=3) (by decide)
 have a5:=l9 (l2 l) (n:=3) (by decide)
 have a6:=A8 (l2 l) (n:=3) (by decide)
 have a7:=l9 (l3 l) (n:=2) (by decide)
 have a8:=A8 (l3 l) (n:=2) (by decide)
 have a9:=l9 (l4 l) (n:=2) (by decide)
 have a10:=A8 (l4 l) (n:=2) (by decide)
 unfold nS
 unfold nA nW nP nG
 omega
theorem c1z:∀ a w p s g:Nat,(1<=a/\a<=2)->p<=2->(p<=s/\s<=p+1)->g<=1 ->
  (x9 M7 [] ((List.range a).map fun i=>a5o (0+i))).1=0 /\
  (x9 M7 (x9 M7 [] ((List.range a).map fun i=>a5o (0+i))).2 ((List.range p).map fun i=>a4u (0+i))).1=0 /\
  (x9 M7 (x9 M7 (x9 M7 [] ((List.range a).map fun i=>a5o (0+i))).2 ((List.range p).map fun i=>a4u (0+i))).2 ((List.range s).map fun i=>a5O (0+i))).1=0 /\
  (x9 M7 (x9 M7 (x9 M7 (x9 M7 [] ((List.range a).map fun i=>a5o (0+i))).2 ((List.range p).map fun i=>a4u (0+i))).2 ((List.range s).map fun i=>a5O (0+i))).2 (List.replicate g [100,111,111,114])).1=0:=by
 intro a w p s g ha hp hs hg
 have h1:a=1 \/ a=2:=by omega
 have h2:p=0 \/ p=1 \/ p=2:=by omega
 have h3:s=p \/ s=p+1:=by omega
 have h4:g=0 \/ g=1:=by omega
 rcases h1 with rfl|rfl<;>rcases h2 with rfl|rfl|rfl<;>rcases h3 with rfl|rfl<;>rcases h4 with rfl|rfl<;>decide
theorem a7j (l:List Int):a0c (u7 l)=0:=by
 obtain ⟨c1,c2,c3,c4,c5⟩:=counts l
 have x1:=a7m (nA l) 0 (l.drop 1) (by omega)
 have x2:=a5D (nW l) ((l1 l).drop 1)
 have x3:=a7Z (nP l) 0 ((l2 l).drop 1)
 have x4:=a5P (nS l) 0 ((l3 l).drop 1)
 have x5:=a7K (nG l) ((l4 l).drop 1)
 have hn:=c1z (nA l) 0 (nP l) (nS l) (nG l) c1 c3 c4 c5
 have a1:=l9 (l5 l) (n:=4) (by decide)
 have a2:=A8 (l5 l) (n:=4) (by decide)
 have hw:b3x (Q (nx (l5 l) 4) 8)=0:=by
  unfold b3x
  rw [R9 _ _ (by omega) (by decide),decide_eq_true (a4L _ _),a2P,a6p _ _ (by decide)]
  have:0<=(nx (l5 l) 4).sign:=by
   rcases Int.lt_or_eq_of_le a1 with h|h
   ·rw [Int.sign_eq_one_of_pos h];decide
   ·rw [<- h];decide
  simp [this]
 have hL:a8l (u7 l)=[0,0,0,0,0]:=by
  unfold a8l u7
  simp only
  rw [b5d _ _ x1,a8W,b3b _ _ (fun a ha=>(x3.1 a ha).1),x3.2.2,b2s _ _ x4.1,x4.2.2,b2V _ _ x5.1,x5.2.2,a1O (fun a ha=>(x2.1 a ha).1),hn.1,hn.2.1,hn.2.2.1,hn.2.2.2]
 unfold a0c
 rw [hL]
 have l1':(u7 l).arms.length=nA l:=a8g ..
 have l2':(u7 l).walls.length=nW l:=x2.2
 have l3':(u7 l).parts.length=nP l:=x3.2.1
 have l4':(u7 l).slots.length=nS l:=x4.2.1
 have l5':(u7 l).gates.length=nG l:=x5.2.1
 rw [if_neg (by omega),if_neg (by omega),if_neg (by decide)]
 exact hw
set_option maxRecDepth 10000
theorem c0D {l:List Vt} {most i k:Nat} (h1:¬ most < l.length) (h2:¬ l.length < 3) (hi:i < l.length) (hk2:2<=k) (hk:k < l.length) (h:¬ 0 < a2Q l i k):L6 l most=3:=by
 unfold L6
 rw [if_neg h1,if_neg h2,if_neg]
 intro ha
 rw [List.all_eq_true] at ha
 have h3:=ha i (List.mem_range.2 hi)
 rw [List.all_eq_true] at h3
 have h4:=h3 k (List.mem_range.2 hk)
 rw [c7K,c7h,c7h] at h4
 omega
theorem b7W {l:List Vt} {most:Nat} (h1:¬ most < l.length) (h2:¬ l.length < 3) (h:∀ i,i < l.length->∀ k,2<=k->k < l.length->0 < a2Q l i k):L6 l most=0:=by
 unfold L6
 rw [if_neg h1,if_neg h2,if_pos]
 rw [List.all_eq_true]
 intro i hi
 rw [List.all_eq_true]
 intro k hk
 rw [c7K,c7h,c7h]
 rcases c7p k 2 with h3|h3
 ·exact .inl h3
 ·exact .inr (h i (List.mem_range.1 hi) k h3 (List.mem_range.1 hk))
theorem b9g {l:List Vt} {i k:Nat} {x y z:Vt} (hx:l[i]?=some x) (hy:l[(i+1) % l.length]?=some y) (hz:l[(i+k) % l.length]?=some z):a2Q l i k=a8O x y z:=by
 unfold a2Q
 rw [c7g,c7g,c7g,hx,hy,hz]
 rfl
theorem c1D (i k n:Nat):Int.tmod ((i:Int)+(k:Int)) (n:Int)=(((i+k) % n:Nat):Int):=rfl
theorem tmod_one (i n:Nat):Int.tmod ((i:Int)+1) (n:Int)=(((i+1) % n:Nat):Int):=rfl
theorem c5g (v:Vt):v.enc.length=6:=rfl
theorem b4o (l:List Vt) (most:Nat) (hl:Vbs 1073741824 l) (hm:most<=1000000):FZ 171 [vts l,ints most] (ints (L6 l most)):=by
 refine kW Tryz.func171 (by cbv) (by rfl) fun w O hw=>?_
 obtain ⟨hn,hb⟩:=hl
 simp only [j5,TT,II,OA,OB,MM,LL,ints,vts]
 (repeat first|refine uA ?_|(refine uK ?_ ?_;focus first|omega|trivial|(intros;simp_all<;>omega))|simp (disch:=omega) only [go_sem,Nat.reduceBEq,Nat.reduceAdd,c6U])
 (refine uJ rfl (fun hc=>?_) fun hc=>?_)
 ·have he:L6 l most=2:=by unfold L6;rw [if_pos (by omega)]
  rw [he]
  (repeat first|refine uA ?_|(refine uK ?_ ?_;focus first|omega|trivial|(intros;simp_all<;>omega))|simp (disch:=omega) only [go_sem])
  exact S.done (j3.out rfl (Imp.refl rfl) rfl)
 have h1:¬ most < l.length:=by omega
 (repeat first|refine uA ?_|(refine uK ?_ ?_;focus first|omega|trivial|(intros;simp_all<;>omega))|simp (disch:=omega) only [go_sem,Nat.reduceBEq])
 (refine uJ rfl (fun hc=>?_) fun hc=>?_)
 ·have he:L6 l most=3:=by unfold L6;rw [if_neg h1,if_pos (by omega)]
  rw [he]
  (repeat first|refine uA ?_|(refine uK ?_ ?_;focus first|omega|trivial|(intros;simp_all<;>omega))|simp (disch:=omega) only [go_sem])
  exact S.done (j3.out rfl (Imp.refl rfl) rfl)
 have h2:¬ l.length < 3:=by omega
 (repeat first|refine uA ?_|(refine uK ?_ ?_;focus first|omega|trivial|(intros;simp_all<;>omega))|simp (disch:=omega) only [go_sem,Nat.reduceBEq,c6U])
 refine S.loop (X:=Nat) (fun i=>⟨[(0,vts l),(5,ints l.length),(18,vts l),(19,ints l.length),(20,ints i)],[]⟩)
  (fun i=>i<=l.length/\∀ j,j < i->∀ k,2<=k->k < l.length->0 < a2Q l j k) (fun i=>l.length-i) 0 ⟨c6Z _,fun _ h=>absurd h (Nat.not_lt_zero _)⟩ (by (repeat first|refine uA ?_|(refine ⟨?_,?_⟩;focus first|rfl|trivial|(simp [slot];done))|rfl|trivial|simp)) ?_
 rintro i ⟨hi,hg⟩
 simp only [ints,vts] at hi ⊢
 (repeat first|refine uA ?_|(refine uK ?_ ?_;focus first|omega|trivial|(intros;simp_all<;>omega))|simp (disch:=omega) only [go_sem,Nat.reduceBEq])
 (refine uJ rfl (fun hc=>?_) fun hc=>?_)
 ·have hi':i < l.length:=by omega
  have hgi:=c6T hi'
  generalize l[i]=x at hgi
  (repeat first|refine uA ?_|(refine uK ?_ ?_;focus first|omega|trivial|(intros;simp_all<;>omega))|simp (disch:=omega) only [go_sem,Nat.reduceBEq,Nat.reduceAdd,Nat.reduceLeDiff,hgi,c6V,c6U,c5g])
  refine S.loop (X:=Nat) (fun k=>⟨[(0,vts l),(5,ints l.length),(6,ints i),(7,.bp 0 0),(8,ints k),(18,vts l),(19,ints l.length),(20,ints i)],[.box 59 x.enc]⟩)
   (fun k=>2<=k/\k<=l.length/\∀ k',2<=k'->k' < k->0 < a2Q l i k') (fun k=>l.length-k) 2 ⟨c7b _,by omega,fun _ h h'=>by omega⟩ (by (repeat first|refine uA ?_|(refine ⟨?_,?_⟩;focus first|rfl|trivial|(simp [slot];done))|rfl|trivial|simp)) ?_
  rintro k ⟨hk2,hk,hgk⟩
  simp only [ints,vts] at hk ⊢
  (repeat first|refine uA ?_|(refine uK ?_ ?_;focus first|omega|trivial|(intros;simp_all<;>omega))|simp (disch:=omega) only [go_sem,Nat.reduceBEq])
  (refine uJ rfl (fun hc=>?_) fun hc=>?_)
  ·have hk':k < l.length:=by omega
   have hy:=c6T (show (i+1) % l.length < l.length from Nat.mod_lt _ (by omega))
   have hz:=c6T (show (i+k) % l.length < l.length from Nat.mod_lt _ (by omega))
   have hylt:(i+1) % l.length < l.length:=Nat.mod_lt _ (by omega)
   have hzlt:(i+k) % l.length < l.length:=Nat.mod_lt _ (by omega)
   generalize l[(i+1) % l.length]'_=y at hy
   generalize l[(i+k) % l.length]'_=z at hz
   have hla:=b9g hgi hy hz
   have hcall:=c5A x y z (hb x (c6W hgi)) (hb y (c6W hy)) (hb z (c6W hz))
   rw [<- hla] at hcall
   simp only [Vt.c,Vt.enc,sb,ints] at hcall
   (repeat first|refine uA ?_|(refine uK ?_ ?_;focus first|omega|trivial|(intros;simp_all<;>omega))|simp (disch:=omega) only [go_sem,Nat.reduceBEq,Nat.reduceAdd,Nat.reduceLeDiff,ww,hy,hz,c6V,c1D,tmod_one,c6U,Vt.enc,sb,c7a]|(refine uD hcall ?_ ?_ ?_;exact tz hw;exact rfl))
   (refine uJ rfl (fun hc=>?_) fun hc=>?_)
   ·rw [c0D h1 h2 hi' hk2 hk' (by omega)]
    (repeat first|refine uA ?_|(refine uK ?_ ?_;focus first|omega|trivial|(intros;simp_all<;>omega))|simp (disch:=omega) only [go_sem])
    exact S.done (j3.out rfl (Imp.refl rfl) rfl)
   ·(repeat first|refine uA ?_|(refine uK ?_ ?_;focus first|omega|trivial|(intros;simp_all<;>omega))|simp (disch:=omega) only [go_sem,Nat.reduceBEq,ww])
    refine S.next (k+1) ⟨by omega,by omega,fun k' hk1 hk3=>?_⟩ (by omega) (by (repeat first|refine uA ?_|(refine ⟨?_,?_⟩;focus first|rfl|trivial|(simp [slot];done))|rfl|trivial|simp))
    rcases c7p k' k with h|h
    ·exact hgk k' hk1 h
    ·have:k'=k:=by omega
     subst this
     omega
  ·have hk':k=l.length:=by omega
   subst hk'
   (repeat first|refine uA ?_|(refine uK ?_ ?_;focus first|omega|trivial|(intros;simp_all<;>omega))|simp (disch:=omega) only [go_sem,Nat.reduceBEq,ww])
   refine S.next (i+1) ⟨by omega,fun j hj=>?_⟩ (by omega) (by (repeat first|refine uA ?_|(refine ⟨?_,?_⟩;focus first|rfl|trivial|(simp [slot];done))|rfl|trivial|simp))
   rcases c7p j i with h|h
   ·exact hg j h
   ·have:j=i:=by omega
    subst this
    exact hgk
 ·have hi':i=l.length:=by omega
  subst hi'
  rw [b7W h1 h2 hg]
  (repeat first|refine uA ?_|(refine uK ?_ ?_;focus first|omega|trivial|(intros;simp_all<;>omega))|simp (disch:=omega) only [go_sem])
  exact S.done (j3.out rfl (Imp.refl rfl) rfl)
theorem a9p (l:List Vt) (hl:Vbs 1073741824 l):FZ 139 [vts l] (ints (L6 l 8)):=by
 refine kW Tryz.func139 (by cbv) (by rfl) fun w O hw=>?_
 have h:=b4o l 8 hl (by decide)
 simp only [j5,TT,II,OA,MM]
 simp only [vts,ints] at *
 generalize L6 l 8=e at *
 rw [show ((8:Nat):Int)=8 from rfl] at h
 (repeat first|refine uA ?_|(apply uK;focus omega)|simp (disch:=omega) only [go_sem,Nat.reduceBEq]|(apply uD h;exact tz hw;rfl))
 exact S.done (j3.out rfl (Imp.refl rfl) rfl)
def a3q:N9:=⟨89,[.tmp 2],.seq (.reg [OA 1 (.box 31 (TT 0)),OA 2 (.mv (II 0))]) (.seq (.seq (.reg [FF 7 0 1,VV 8 7,OA 9 (.len false (TT 8)),OA 10 (.bin .gtr (TT 9) (II 4)),MM 11 10,FG 12 1 1 11 false,VG 13 12 11 false,OC 14 (.len
 false (TT 13)) 11 false,OC 15 (.bin .gtr (TT 14) (II 10)) 11 false,OA 16 (.pick (TT 11) (.const (.bool true)) (TT 15)),MM 17 16,FG 18 2 1 17 false,VG 19 18 17 false,OC 20 (.len false (TT 19)) 17 false,OC 21 (.bin .gtr (TT
 20) (II 6)) 17 false,OA 22 (.pick (TT 17) (.const (.bool true)) (TT 21)),MM 23 22,FG 24 3 1 23 false,VG 25 24 23 false,OC 26 (.len false (TT 25)) 23 false,OC 27 (.bin .gtr (TT 26) (II 8)) 23 false,OA 28 (.pick (TT 23)
 (.const (.bool true)) (TT 27)),MM 29 28,FG 30 4 1 29 false,VG 31 30 29 false,OC 32 (.len false (TT 31)) 29 false,OC 33 (.bin .gtr (TT 32) (II 4)) 29 false,OA 34 (.pick (TT 29) (.const (.bool true)) (TT 33))]) (.cond (TT
 34) (.seq (.reg [OA 2 (.mv (II 2))]) .ret) .skip)) (.seq (.seq (.reg [FF 35 0 1,VV 36 35,OA 37 (.len false (TT 36)),OA 38 (.bin .eql (TT 37) (II 0))]) (.cond (TT 38) (.seq (.reg [OA 2 (.mv (II 4))]) .ret) .skip)) (.seq (.reg
 [OA 39 (.a2T true),OA 3 (.alloc 154 [.map none]),OB (.store 1 (TT 3) (TT 39))]) (.seq (.reg [OA 40 (.clo 84 [TT 3]),MM 4 40]) (.seq (.seq (.E8 [.q,.q,.q,.e none false,.l,.l,.q,.l,.l,.l,.l,.e none false,.l,.l,
 .l,.l,.e none false,.l,.l,.l,.l,.e none false,.q,.q,.l] [FF 41 0 1,VV 42 41,MM 43 4,OA 44 (.call 86 [TT 42,TT 43]),FF 45 1 1,VV 46 45,OA 47 (.call 87 [TT 46,.func 88]),FF 48 2 1,VV 49 48,VV 50 3,OA 51 (.bnd
 90 (TT 50)),OA 52 (.call 89 [TT 49,TT 51]),FF 53 3 1,VV 54 53,VV 55 3,OA 56 (.bnd 92 (TT 55)),OA 57 (.call 91 [TT 54,TT 56]),FF 58 4 1,VV 59 58,VV 60 3,OA 61 (.bnd 94 (TT 60)),OA 62 (.call 93 [TT 59,TT 61]),OA 63
 (.bsl 44 1 5 [.int .i64 0] [(0,TT 44),(1,TT 47),(2,TT 52),(3,TT 57),(4,TT 62)]),OA 64 (.len false (TT 63)),OA 65 (.mv (II 0))]) (.block 0 (.loop (.seq (.reg [OA 66 (.bin .lss (TT 65) (TT 64))]) (.seq (.cond (TT 66)
 .skip (.exit 0)) (.seq (.block 1 (.seq (.reg [OA 67 (.q8 1 (TT 63) (TT 65)),VV 68 67,MM 6 68]) (.seq (.reg [MM 69 6,OA 70 (.bin .neq (TT 69) (II 0))]) (.cond (TT 70) (.seq (.reg [MM 71 6,MM 2 71]) .ret) .skip)))) (.reg
 [OA 72 (.bin .add (TT 65) (II 1)),MM 65 72]))))))) (.seq (.seq (.reg [FF 73 5 1,LL 74 3 73,OA 75 (.call 95 [TT 74]),OA 76 (.un .not (TT 75)),MM 77 76,FG 78 5 1 77 false,LG 79 3 78 77 false,OC 80 (.call 96 [TT 79]) 77
 false,OC 81 (.un .not (TT 80)) 77 false,OA 82 (.pick (TT 77) (.const (.bool true)) (TT 81)),MM 83 82,FG 84 5 1 83 false,LG 85 3 84 83 false,OC 86 (.call 97 [TT 85]) 83 false,OC 87 (.bin .lss (TT 86) (II 0)) 83 false,OA
 88 (.pick (TT 83) (.const (.bool true)) (TT 87))]) (.cond (TT 88) (.seq (.reg [OA 2 (.mv (II 1))]) .ret) .skip)) (.seq (.reg [OA 2 (.mv (II 0))]) .ret)))))))⟩
theorem b1B:J5 eff Tryz.prog Tryz.f36=some a3q:=by kernel_rfl
theorem b1F:Tryz.prog.funcs[36]?=some Tryz.f36:=Tryz.func36
def a6i:N9:=⟨97,[.tmp 4],.seq (.reg [OA 2 (.box 31 (TT 0)),OA 3 (.box 37 (TT 1)),OA 4 (.mv (II 0))]) (.seq (.seq (.reg [LL 10 8 2,OA 11 (.call 36 [TT 10]),MM 5 11]) (.seq (.reg [MM 12 5,OA 13 (.bin .neq (TT 12) (II 0))]) (.cond (TT 13)
 (.seq (.reg [MM 14 5,MM 4 14]) .ret) .skip))) (.seq (.seq (.reg [FF 15 3 3,VV 16 15,OA 17 (.len false (TT 16)),OA 18 (.bin .gtr (TT 17) (II 4))]) (.cond (TT 18) (.seq (.reg [OA 4 (.mv (II 2))]) .ret) .skip)) (.seq (.seq
 (.reg [FF 19 0 3,VV 20 19,OA 21 (.bin .lss (TT 20) (II 0)),MM 22 21,FG 23 0 3 22 false,VG 24 23 22 false,OC 25 (.bin .gtr (TT 24) (II 2000)) 22 false,OA 26 (.pick (TT 22) (.const (.bool true)) (TT 25)),MM 27 26,FG 28 1
 3 27 false,VG 29 28 27 false,OC 30 (.len false (TT 29)) 27 false,FG 31 0 2 27 false,VG 32 31 27 false,OC 33 (.len false (TT 32)) 27 false,OC 34 (.bin .neq (TT 30) (TT 33)) 27 false,OA 35 (.pick (TT 27) (.const (.bool
 true)) (TT 34)),MM 36 35,FG 37 2 3 36 false,VG 38 37 36 false,OC 39 (.len false (TT 38)) 36 false,FG 40 2 2 36 false,VG 41 40 36 false,OC 42 (.len false (TT 41)) 36 false,OC 43 (.bin .neq (TT 39) (TT 42)) 36 false,OA 44
 (.pick (TT 36) (.const (.bool true)) (TT 43)),MM 45 44,FG 46 4 3 45 false,VG 47 46 45 false,OC 48 (.len false (TT 47)) 45 false,FG 49 4 2 45 false,VG 50 49 45 false,OC 51 (.len false (TT 50)) 45 false,OC 52 (.bin .neq
 (TT 48) (TT 51)) 45 false,OA 53 (.pick (TT 45) (.const (.bool true)) (TT 52))]) (.cond (TT 53) (.seq (.reg [OA 4 (.mv (II 1))]) .ret) .skip)) (.seq (.reg [OA 54 (.a2T false),MM 6 54]) (.seq (.seq (.reg [FF 55 1 3,VV 56 55,
 OA 57 (.len false (TT 56)),OA 58 (.mv (II 0))]) (.block 0 (.loop (.seq (.reg [OA 59 (.bin .lss (TT 58) (TT 57))]) (.seq (.cond (TT 59) .skip (.exit 0)) (.seq (.block 1 (.seq (.reg [MM 60 58,OA 61 (.q8 4 (TT 56) (TT 58)),LL
 62 4 61,OA 8 (.alloc 49 [.slice none 0 0,.slice none 0 0,.bool false,.int .i64 0]),MM 7 60,OB (.store 4 (TT 8) (TT 62))]) (.seq (.seq (.E8 [.q,.q,.q,.q,.q,.q,.q,.q,.q,.q,.q] [FF 63 0 2,VV 64 63,MM 65 7,OA 66
 (.q8 12 (TT 64) (TT 65)),LL 67 12 66,LL 68 4 8,FF 69 2 2,VV 70 69,OA 71 (.len false (TT 70)),OA 72 (.call 53 [TT 67,TT 68,TT 71]),MM 9 72]) (.seq (.reg [MM 73 9,OA 74 (.bin .neq (TT 73) (II 0))]) (.cond (TT 74)
 (.seq (.reg [MM 75 9,MM 4 75]) .ret) .skip))) (.seq (.seq (.reg [FF 76 3 8,VV 77 76,OA 78 (.bin .geq (TT 77) (II 0)),MM 79 78,MG 80 6 79 true,FG 81 3 8 79 true,VG 82 81 79 true,OC 83 (.lkp false (.bool false) false (TT
 80) (TT 82)) 79 true,OA 84 (.pick (TT 79) (TT 83) (.const (.bool false)))]) (.cond (TT 84) (.seq (.reg [OA 4 (.mv (II 10))]) .ret) .skip)) (.reg [MM 85 6,FF 86 3 8,VV 87 86,OB (.a6T false (TT 85) (TT 87) (.const (.bool
 true)))]))))) (.reg [OA 88 (.bin .add (TT 58) (II 1)),MM 58 88]))))))) (.seq (.seq (.reg [FF 89 2 3,VV 90 89,OA 91 (.call 54 [TT 90,.func 55]),MM 92 91,FG 93 3 3 92 false,VG 94 93 92 false,OC 95 (.call 57 [TT 94,.func
 58]) 92 false,OA 96 (.pick (TT 92) (.const (.bool true)) (TT 95))]) (.cond (TT 96) (.seq (.reg [OA 4 (.mv (II 3))]) .ret) .skip)) (.seq (.reg [OA 4 (.mv (II 0))]) .ret)))))))⟩
theorem b1n:J5 eff Tryz.prog Tryz.f24=some a6i:=by kernel_rfl
theorem b1N:Tryz.prog.funcs[24]?=some Tryz.f24:=Tryz.func24
def a6n:N9:=⟨91,[.cell 2 true 5,.tmp 3],.seq (.reg [OA 1 (.box 31 (TT 0)),OA 2 (.alloc 37 [.int .i64 0,.slice none 0 0,.slice none 0 0,.slice none 0 0,.slice none 0 0]),OA 3 (.mv (II 0))]) (.seq (.seq (.reg [LL 13 8 1,OA 14 (.call
 36 [TT 13]),MM 4 14]) (.seq (.reg [MM 15 4,OA 16 (.bin .neq (TT 15) (II 0))]) (.cond (TT 16) (.seq (.reg [OA 17 (.build [.int .i64 0,.slice none 0 0,.slice none 0 0,.slice none 0 0,.slice none 0 0] []),MM 18 4,OB (.store
 5 (TT 2) (TT 17)),MM 3 18]) .ret) .skip))) (.seq (.reg [OA 5 (.alloc 37 [.int .i64 0,.slice none 0 0,.slice none 0 0,.slice none 0 0,.slice none 0 0])]) (.seq (.seq (.reg [FF 19 0 1,VV 20 19,OA 21 (.len false (TT 20)),OA
 22 (.mv (II 0))]) (.block 0 (.loop (.seq (.reg [OA 23 (.bin .lss (TT 22) (TT 21))]) (.seq (.cond (TT 23) .skip (.exit 0)) (.seq (.block 1 (.seq (.reg [OA 24 (.q8 12 (TT 20) (TT 22)),LL 25 12 24,OA 7 (.alloc 69 [.string
 ⟨#[]⟩,.bool false,.string ⟨#[]⟩,.string ⟨#[]⟩,.bool false,.string ⟨#[]⟩,.string ⟨#[]⟩,.bool false,.bool false,.string ⟨#[]⟩,.string ⟨#[]⟩,.slice none 0 0]),OB (.store 12 (TT 7) (TT 25))]) (.seq (.reg [OA 26 (.build
 [.slice none 0 0,.slice none 0 0,.bool false,.int .i64 0] [(3,(1,II (-1)))]),OA 8 (.alloc 49 [.slice none 0 0,.slice none 0 0,.bool false,.int .i64 0]),OB (.store 4 (TT 8) (TT 26))]) (.seq (.seq (.reg [FF 27 11 7,VV
 28 27,OA 29 (.len false (TT 28)),OA 30 (.mv (II 0))]) (.block 2 (.loop (.seq (.reg [OA 31 (.bin .lss (TT 30) (TT 29))]) (.seq (.cond (TT 31) .skip (.exit 2)) (.seq (.block 3 (.seq (.reg [OA 32 (.q8 16 (TT 28) (TT 30)),LL
 33 16 32,OA 10 (.alloc 74 [.bool false,.string ⟨#[]⟩,.string ⟨#[]⟩,.bool false,.string ⟨#[]⟩,.string ⟨#[]⟩,.bool false,.string ⟨#[]⟩,.string ⟨#[]⟩,.bool false,.string ⟨#[]⟩,.string ⟨#[]⟩,.bool false,.string ⟨#[]⟩,
 .string ⟨#[]⟩,.slice none 0 0]),OB (.store 16 (TT 10) (TT 33))]) (.seq (.E8 [.q,.q,.q,.q,.q,.q,.q,.q,.q,.q,.e none true,.q,.e none true] [FF 34 0 8,VV 35 34,FF 36 3 10,LL 37 3 36,FF 38 6 10,LL 39 3 38,OA 40
 (.call 48 [II 0]),OA 41 (.call 18 [TT 39,TT 40]),OA 42 (.call 16 [TT 37,TT 41]),OA 43 (.bsl 29 3 1 [.bool false,.string ⟨#[]⟩,.string ⟨#[]⟩] [(0,TT 42)]),OA 44 (.app 29 3 40 (TT 35) (TT 43)),FF 45 0 8,OB (.store 1 (TT
 45) (TT 44))]) (.E8 [.q,.q,.q,.q,.e none true,.q,.e none true] [FF 46 1 8,VV 47 46,OA 48 (.call 48 [II 0]),OA 49 (.bsl 29 3 1 [.bool false,.string ⟨#[]⟩,.string ⟨#[]⟩] [(0,TT 48)]),OA 50 (.app 29 3 40 (TT 47) (TT
 49)),FF 51 1 8,OB (.store 1 (TT 51) (TT 50))])))) (.reg [OA 52 (.bin .add (TT 30) (II 1)),MM 30 52]))))))) (.reg [FF 53 1 5,VV 54 53,LL 55 4 8,OA 56 (.bsl 49 4 1 [.slice none 0 0,.slice none 0 0,.bool false,.int .i64 0]
 [(0,TT 55)]),OA 57 (.app 49 4 64 (TT 54) (TT 56)),FF 58 1 5,OB (.store 1 (TT 58) (TT 57))]))))) (.reg [OA 59 (.bin .add (TT 22) (II 1)),MM 22 59]))))))) (.seq (.seq (.reg [FF 60 2 1,VV 61 60,OA 62 (.len false (TT 61)),OA
 63 (.mv (II 0))]) (.block 4 (.loop (.seq (.reg [OA 64 (.bin .lss (TT 63) (TT 62))]) (.seq (.cond (TT 64) .skip (.exit 4)) (.seq (.block 5 (.seq (.reg [MM 65 63,MM 11 65]) (.seq (.reg [OA 66 (.call 83 []),OA 12 (.alloc 66
 [.bool false,.string ⟨#[]⟩,.string ⟨#[]⟩,.bool false,.string ⟨#[]⟩,.string ⟨#[]⟩,.bool false,.bool false,.string ⟨#[]⟩,.string ⟨#[]⟩]),OB (.store 10 (TT 12) (TT 66))]) (.seq (.seq (.reg [MM 67 11,FF 68 3 1,VV 69 68,
 OA 70 (.len false (TT 69)),OA 71 (.bin .lss (TT 67) (TT 70))]) (.cond (TT 71) (.reg [FF 72 3 1,VV 73 72,MM 74 11,OA 75 (.q8 14 (TT 73) (TT 74)),FF 76 1 75,LL 77 10 76,OB (.store 10 (TT 12) (TT 77))]) .skip)) (.reg [FF
 78 2 5,VV 79 78,LL 80 10 12,OA 81 (.bsl 66 10 1 [.bool false,.string ⟨#[]⟩,.string ⟨#[]⟩,.bool false,.string ⟨#[]⟩,.string ⟨#[]⟩,.bool false,.bool false,.string ⟨#[]⟩,.string ⟨#[]⟩] [(0,TT 80)]),OA 82 (.app 66 10
 128 (TT 79) (TT 81)),FF 83 2 5,OB (.store 1 (TT 83) (TT 82))]))))) (.reg [OA 84 (.bin .add (TT 63) (II 1)),MM 63 84]))))))) (.seq (.reg [FF 85 4 1,VV 86 85,OA 87 (.len false (TT 86)),OA 88 (.a3A 4 1 [.bool false] (TT 87)
 (TT 87)),FF 89 4 5,OB (.store 1 (TT 89) (TT 88))]) (.seq (.reg [LL 90 5 5,OB (.store 5 (TT 2) (TT 90)),OA 3 (.mv (II 0))]) .ret))))))⟩
theorem b2c:J5 eff Tryz.prog Tryz.f35=some a6n:=by kernel_rfl
theorem b1o:Tryz.prog.funcs[35]?=some Tryz.f35:=Tryz.func35
def a5r:N9:=⟨14,[.cell 2 true 6],.seq (.reg [OA 2 (.alloc 59 [.bool false,.string ⟨#[]⟩,.string ⟨#[]⟩,.bool false,.string ⟨#[]⟩,.string ⟨#[]⟩])]) (.seq (.reg [MM 4 0,OA 5 (.build [.slice none 0 0] [(0,(1,TT 4))]),OA 6 (.box 95 (TT
 5)),MM 3 6]) (.seq (.reg [MM 7 3,OA 8 (.call 33 [TT 7,II 1048576]),OA 9 (.call 32 [TT 8]),MM 10 3,OA 11 (.call 33 [TT 10,II 1048576]),OA 12 (.call 32 [TT 11]),OA 13 (.build [.bool false,.string ⟨#[]⟩,.string ⟨#[]⟩,
 .bool false,.string ⟨#[]⟩,.string ⟨#[]⟩] [(0,(3,TT 9)),(3,(3,TT 12))]),OB (.store 6 (TT 2) (TT 13))]) .ret))⟩
theorem b1d:J5 eff Tryz.prog Tryz.f12=some a5r:=by kernel_rfl
theorem b1h:Tryz.prog.funcs[12]?=some Tryz.f12:=Tryz.func12
def a5C:N9:=⟨20,[.cell 2 true 3],.seq (.reg [OA 2 (.alloc 29 [.bool false,.string ⟨#[]⟩,.string ⟨#[]⟩])]) (.seq (.reg [OA 4 (.bsl 3 1 6 [.int .i64 0] [(0,II 1),(1,II 2),(2,II 3),(3,II 4),(4,II 5),(5,II 8)]),MM 5 0,OA 6 (.call
 8 [TT 5,II 6]),OA 7 (.q8 1 (TT 4) (TT 6)),VV 8 7,MM 3 8]) (.seq (.reg [MM 9 0,OA 10 (.bin .quo (TT 9) (II 6)),MM 11 3,OA 12 (.bin .mul (II 16) (TT 11)),OA 13 (.bin .add (TT 12) (II 1)),OA 14 (.call 8 [TT 10,TT 13]),
 MM 15 3,OA 16 (.bin .mul (II 8) (TT 15)),OA 17 (.bin .sub (TT 14) (TT 16)),MM 18 3,OA 19 (.call 78 [TT 17,TT 18]),OB (.store 3 (TT 2) (TT 19))]) .ret))⟩
theorem b0H:J5 eff Tryz.prog Tryz.f32=some a5C:=by kernel_rfl
theorem b0s:Tryz.prog.funcs[32]?=some Tryz.f32:=Tryz.func32
def a4q:N9:=⟨159,[.cell 2 true 8],.seq (.reg [OA 2 (.alloc 31 [.slice none 0 0,.slice none 0 0,.slice none 0 0,.slice none 0 0,.slice none 0 0,.bool false,.string ⟨#[]⟩,.string ⟨#[]⟩])]) (.seq (.reg [MM 12 0,OA 13 (.build [.slice
 none 0 0] [(0,(1,TT 12))]),OA 14 (.box 95 (TT 13)),MM 3 14]) (.seq (.reg [OA 4 (.alloc 31 [.slice none 0 0,.slice none 0 0,.slice none 0 0,.slice none 0 0,.slice none 0 0,.bool false,.string ⟨#[]⟩,.string ⟨#[]⟩])])
 (.seq (.seq (.reg [MM 15 3,OA 16 (.call 33 [TT 15,II 2]),OA 17 (.bin .add (II 1) (TT 16)),OA 18 (.mv (II 0))]) (.block 0 (.loop (.seq (.reg [OA 19 (.bin .lss (TT 18) (TT 17))]) (.seq (.cond (TT 19) .skip (.exit 0)) (.seq
 (.block 1 (.seq (.reg [MM 20 18,MM 5 20]) (.E8 [.l,.l,.q,.q,.e none false,.q,.e none true,.q,.e none true] [FF 21 0 4,VV 22 21,MM 23 3,MM 24 5,OA 25 (.call 79 [TT 23,TT 24]),OA 26 (.bsl 69 12 1 [.string ⟨#[]⟩,
 .bool false,.string ⟨#[]⟩,.string ⟨#[]⟩,.bool false,.string ⟨#[]⟩,.string ⟨#[]⟩,.bool false,.bool false,.string ⟨#[]⟩,.string ⟨#[]⟩,.slice none 0 0] [(0,TT 25)]),OA 27 (.app 69 12 168 (TT 22) (TT 26)),FF 28 0 4,OB
 (.store 1 (TT 28) (TT 27))]))) (.reg [OA 29 (.bin .add (TT 18) (II 1)),MM 18 29]))))))) (.seq (.seq (.reg [MM 30 3,OA 31 (.call 33 [TT 30,II 3]),OA 32 (.mv (II 0))]) (.block 2 (.loop (.seq (.reg [OA 33 (.bin .lss (TT 32) (TT
 31))]) (.seq (.cond (TT 33) .skip (.exit 2)) (.seq (.block 3 (.seq (.reg [MM 34 3,OA 35 (.call 33 [TT 34,II 80]),OA 36 (.bin .sub (TT 35) (II 30)),MM 37 3,OA 38 (.call 33 [TT 37,II 30]),OA 39 (.bin .add (II 12) (TT 38)),
 MM 6 36,MM 7 39]) (.seq (.seq (.reg [MM 40 3,OA 41 (.call 33 [TT 40,II 2]),OA 42 (.bin .eql (TT 41) (II 1))]) (.cond (TT 42) (.reg [MM 43 7,OA 44 (.un .neg (TT 43)),OA 45 (.bin .sub (TT 44) (II 6)),MM 7 45]) .skip))
 (.E8 [.l,.l,.l,.l,.l,.l,.q,.e none false,.l,.l,.l,.l,.e none false,.q,.q,.q,.e none true,.q,.e none true] [FF 46 1 4,VV 47 46,MM 48 6,MM 49 7,MM 50 6,OA 51 (.bin .add (TT 50) (II 1)),MM 52 3,OA 53
 (.call 33 [TT 52,II 20]),OA 54 (.bin .add (TT 51) (TT 53)),MM 55 7,OA 56 (.bin .add (TT 55) (II 1)),MM 57 3,OA 58 (.call 33 [TT 57,II 5]),OA 59 (.bin .add (TT 56) (TT 58)),OA 60 (.call 80 [TT 48,TT 49,TT 54,TT 59]),
 OA 61 (.bsl 34 1 1 [.slice none 0 0] [(0,TT 60)]),OA 62 (.app 34 1 24 (TT 47) (TT 61)),FF 63 1 4,OB (.store 1 (TT 63) (TT 62))])))) (.reg [OA 64 (.bin .add (TT 32) (II 1)),MM 32 64]))))))) (.seq (.seq (.reg [MM 65 3,OA 66
 (.call 33 [TT 65,II 3]),OA 67 (.mv (II 0))]) (.block 4 (.loop (.seq (.reg [OA 68 (.bin .lss (TT 67) (TT 66))]) (.seq (.cond (TT 68) .skip (.exit 4)) (.seq (.block 5 (.seq (.reg [MM 69 67,MM 8 69]) (.E8 [.l,.l,.l,.l,.l,
 .l,.q,.e none false,.q,.q,.q,.q,.q,.q,.e none true,.q,.e none true] [FF 70 2 4,VV 71 70,OA 72 (.bsl 9 1 2 [.string ⟨#[]⟩] [(0,.const (.string ⟨#[98,111,108,116]⟩)),(1,.const (.string ⟨#[110,117,116]⟩))]),MM
 73 8,OA 74 (.q8 1 (TT 72) (TT 73)),VV 75 74,MM 76 3,OA 77 (.call 81 [TT 76]),OA 78 (.call 82 [II 0,II 0]),OA 79 (.call 78 [II 0,II 1]),OA 80 (.build [.bool false,.bool false,.string ⟨#[]⟩,.string ⟨#[]⟩] [(1,(3,
 TT 79))]),OA 81 (.build [.bool false,.string ⟨#[]⟩,.string ⟨#[]⟩,.bool false,.string ⟨#[]⟩,.string ⟨#[]⟩,.bool false,.bool false,.string ⟨#[]⟩,.string ⟨#[]⟩] [(0,(6,TT 78)),(6,(4,TT 80))]),OA 82 (.build [.string
 ⟨#[]⟩,.slice none 0 0,.bool false,.string ⟨#[]⟩,.string ⟨#[]⟩,.bool false,.string ⟨#[]⟩,.string ⟨#[]⟩,.bool false,.bool false,.string ⟨#[]⟩,.string ⟨#[]⟩] [(0,(1,TT 75)),(1,(1,TT 77)),(2,(10,TT 81))]),OA 83
 (.bsl 115 12 1 [.string ⟨#[]⟩,.slice none 0 0,.bool false,.string ⟨#[]⟩,.string ⟨#[]⟩,.bool false,.string ⟨#[]⟩,.string ⟨#[]⟩,.bool false,.bool false,.string ⟨#[]⟩,.string ⟨#[]⟩] [(0,TT 82)]),OA 84 (.app 115 12 168
 (TT 71) (TT 83)),FF 85 2 4,OB (.store 1 (TT 85) (TT 84))]))) (.reg [OA 86 (.bin .add (TT 67) (II 1)),MM 67 86]))))))) (.seq (.seq (.E8 [.l,.l,.l,.q,.e none false,.q,.l] [FF 87 2 4,VV 88 87,OA 89 (.len false (TT
 88)),MM 90 3,OA 91 (.call 33 [TT 90,II 2]),OA 92 (.bin .add (TT 89) (TT 91)),OA 93 (.mv (II 0))]) (.block 6 (.loop (.seq (.reg [OA 94 (.bin .lss (TT 93) (TT 92))]) (.seq (.cond (TT 94) .skip (.exit 6)) (.seq (.block 7 (.seq
 (.reg [MM 95 93,MM 9 95]) (.E8 [.l,.l,.l,.l,.l,.l,.q,.e none false,.l,.l,.e none false,.q,.q,.l,.e none false,.q,.q,.l,.l,.l,.e none false,.q,.q,.q,.q,.e none true,.q,.e none true] [FF 96 3 4,VV 97
 96,OA 98 (.bsl 9 1 3 [.string ⟨#[]⟩] [(0,.const (.string ⟨#[104,101,114,101]⟩)),(1,.const (.string ⟨#[116,104,101,114,101]⟩)),(2,.const (.string ⟨#[98,101,121,111,110,100]⟩))]),MM 99 9,OA 100 (.q8 1 (TT
 98) (TT 99)),VV 101 100,MM 102 3,OA 103 (.call 33 [TT 102,II 40]),OA 104 (.bin .sub (TT 103) (II 20)),MM 105 3,OA 106 (.call 33 [TT 105,II 24]),OA 107 (.bin .sub (TT 106) (II 12)),OA 108 (.call 82 [TT 104,TT 107]),MM
 109 3,OA 110 (.call 33 [TT 109,II 5]),OA 111 (.bin .sub (TT 110) (II 2)),OA 112 (.call 78 [TT 111,II 2]),OA 113 (.build [.bool false,.bool false,.string ⟨#[]⟩,.string ⟨#[]⟩] [(1,(3,TT 112))]),OA 114 (.build [.bool
 false,.string ⟨#[]⟩,.string ⟨#[]⟩,.bool false,.string ⟨#[]⟩,.string ⟨#[]⟩,.bool false,.bool false,.string ⟨#[]⟩,.string ⟨#[]⟩] [(0,(6,TT 108)),(6,(4,TT 113))]),MM 115 3,OA 116 (.call 33 [TT 115,II 20]),OA 117
 (.bin .add (II 8) (TT 116)),OA 118 (.call 78 [II 1,TT 117]),OA 119 (.build [.string ⟨#[]⟩,.bool false,.string ⟨#[]⟩,.string ⟨#[]⟩,.bool false,.string ⟨#[]⟩,.string ⟨#[]⟩,.bool false,.bool false,.string ⟨#[]⟩,.string
 ⟨#[]⟩,.bool false,.string ⟨#[]⟩,.string ⟨#[]⟩] [(0,(1,TT 101)),(1,(10,TT 114)),(11,(3,TT 118))]),OA 120 (.bsl 151 14 1 [.string ⟨#[]⟩,.bool false,.string ⟨#[]⟩,.string ⟨#[]⟩,.bool false,.string ⟨#[]⟩,.string
 ⟨#[]⟩,.bool false,.bool false,.string ⟨#[]⟩,.string ⟨#[]⟩,.bool false,.string ⟨#[]⟩,.string ⟨#[]⟩] [(0,TT 119)]),OA 121 (.app 151 14 184 (TT 97) (TT 120)),FF 122 3 4,OB (.store 1 (TT 122) (TT 121))]))) (.reg [OA 123
 (.bin .add (TT 93) (II 1)),MM 93 123]))))))) (.seq (.seq (.reg [MM 124 3,OA 125 (.call 33 [TT 124,II 2]),OA 126 (.mv (II 0))]) (.block 8 (.loop (.seq (.reg [OA 127 (.bin .lss (TT 126) (TT 125))]) (.seq (.cond (TT 127) .skip
 (.exit 8)) (.seq (.block 9 (.seq (.reg [MM 128 3,OA 129 (.call 33 [TT 128,II 60]),OA 130 (.bin .sub (TT 129) (II 30)),MM 131 3,OA 132 (.call 33 [TT 131,II 60]),OA 133 (.bin .sub (TT 132) (II 30)),MM 10 130,MM 11 133])
 (.E8 [.l,.l,.q,.q,.q,.l,.q,.e none false,.l,.l,.l,.e none false,.q,.q,.q,.q,.q,.e none true,.q,.e none true] [FF 134 4 4,VV 135 134,MM 136 10,MM 137 11,OA 138 (.call 82 [TT 136,TT 137]),MM 139 10,MM
 140 3,OA 141 (.call 33 [TT 140,II 12]),OA 142 (.bin .add (TT 139) (TT 141)),MM 143 11,MM 144 3,OA 145 (.call 33 [TT 144,II 12]),OA 146 (.bin .add (TT 143) (TT 145)),OA 147 (.call 82 [TT 142,TT 146]),OA 148 (.build
 [.bool false,.string ⟨#[]⟩,.string ⟨#[]⟩,.bool false,.string ⟨#[]⟩,.string ⟨#[]⟩,.bool false,.string ⟨#[]⟩,.string ⟨#[]⟩,.bool false,.string ⟨#[]⟩,.string ⟨#[]⟩] [(0,(6,TT 138)),(6,(6,TT 147))]),OA 149 (.build
 [.string ⟨#[]⟩,.bool false,.string ⟨#[]⟩,.string ⟨#[]⟩,.bool false,.string ⟨#[]⟩,.string ⟨#[]⟩,.bool false,.string ⟨#[]⟩,.string ⟨#[]⟩,.bool false,.string ⟨#[]⟩,.string ⟨#[]⟩] [(0,(1,.const (.string ⟨#[100,111,
 111,114]⟩))),(1,(12,TT 148))]),OA 150 (.bsl 143 13 1 [.string ⟨#[]⟩,.bool false,.string ⟨#[]⟩,.string ⟨#[]⟩,.bool false,.string ⟨#[]⟩,.string ⟨#[]⟩,.bool false,.string ⟨#[]⟩,.string ⟨#[]⟩,.bool false,.string
 ⟨#[]⟩,.string ⟨#[]⟩] [(0,TT 149)]),OA 151 (.app 143 13 176 (TT 135) (TT 150)),FF 152 4 4,OB (.store 1 (TT 152) (TT 151))]))) (.reg [OA 153 (.bin .add (TT 126) (II 1)),MM 126 153]))))))) (.seq (.reg [MM 154 3,OA 155 (.call
 33 [TT 154,II 4]),OA 156 (.call 78 [TT 155,II 8]),FF 157 5 4,OB (.store 3 (TT 157) (TT 156))]) (.seq (.reg [LL 158 8 4,OB (.store 8 (TT 2) (TT 158))]) .ret)))))))))⟩
theorem a8V:J5 eff Tryz.prog Tryz.f34=some a4q:=by kernel_rfl
theorem a8T:Tryz.prog.funcs[34]?=some Tryz.f34:=Tryz.func34
def a5L:N9:=⟨77,[.cell 4 true 12],.seq (.reg [OA 4 (.alloc 69 [.string ⟨#[]⟩,.bool false,.string ⟨#[]⟩,.string ⟨#[]⟩,.bool false,.string ⟨#[]⟩,.string ⟨#[]⟩,.bool false,.bool false,.string ⟨#[]⟩,.string ⟨#[]⟩,.slice none 0 0])])
 (.seq (.reg [OA 8 (.bsl 9 1 4 [.string ⟨#[]⟩] [(0,.const (.string ⟨#[111,110,101]⟩)),(1,.const (.string ⟨#[116,119,111]⟩)),(2,.const (.string ⟨#[116,104,114,101,101]⟩)),(3,.const (.string ⟨#[102,111,117,
 114]⟩))]),MM 9 1,OA 10 (.q8 1 (TT 8) (TT 9)),VV 11 10,OA 12 (.build [.string ⟨#[]⟩,.bool false,.string ⟨#[]⟩,.string ⟨#[]⟩,.bool false,.string ⟨#[]⟩,.string ⟨#[]⟩,.bool false,.bool false,.string ⟨#[]⟩,.string
 ⟨#[]⟩,.slice none 0 0] [(0,(1,TT 11))]),OA 5 (.alloc 69 [.string ⟨#[]⟩,.bool false,.string ⟨#[]⟩,.string ⟨#[]⟩,.bool false,.string ⟨#[]⟩,.string ⟨#[]⟩,.bool false,.bool false,.string ⟨#[]⟩,.string ⟨#[]⟩,.slice
 none 0 0]),OB (.store 12 (TT 5) (TT 12))]) (.seq (.E8 [.q,.q,.q,.l,.q,.e none false,.l,.l,.l,.e none false,.q,.q,.q,.q,.q,.e none true] [MM 13 1,OA 14 (.bin .mul (II 40) (TT 13)),OA 15 (.call 82 [TT 14,II
 0]),OA 16 (.bsl 3 1 4 [.int .i64 0] [(0,II 0),(1,II 1),(2,II (-1)),(3,II 1)]),MM 17 0,OA 18 (.call 33 [TT 17,II 4]),OA 19 (.q8 1 (TT 16) (TT 18)),VV 20 19,MM 21 0,OA 22 (.call 33 [TT 21,II 3]),OA 23 (.bin
 .add (II 1) (TT 22)),OA 24 (.call 78 [TT 20,TT 23]),OA 25 (.build [.bool false,.bool false,.string ⟨#[]⟩,.string ⟨#[]⟩] [(1,(3,TT 24))]),OA 26 (.build [.bool false,.string ⟨#[]⟩,.string ⟨#[]⟩,.bool false,.string
 ⟨#[]⟩,.string ⟨#[]⟩,.bool false,.bool false,.string ⟨#[]⟩,.string ⟨#[]⟩] [(0,(6,TT 15)),(6,(4,TT 25))]),FF 27 1 5,OB (.store 10 (TT 27) (TT 26))]) (.seq (.seq (.reg [MM 28 0,OA 29 (.call 33 [TT 28,II 3]),OA 30
 (.bin .add (II 1) (TT 29)),OA 31 (.mv (II 0))]) (.block 0 (.loop (.seq (.reg [OA 32 (.bin .lss (TT 31) (TT 30))]) (.seq (.cond (TT 32) .skip (.exit 0)) (.seq (.block 1 (.seq (.reg [MM 33 0,OA 34 (.call 33 [TT 33,II 4]),OA 35
 (.bin .mul (II 2) (TT 34)),OA 36 (.bin .add (II 4) (TT 35)),MM 6 36]) (.seq (.reg [MM 37 6,OA 38 (.call 78 [TT 37,II 4]),MM 39 0,OA 40 (.call 33 [TT 39,II 6]),OA 41 (.bin .sub (II (-1)) (TT 40)),OA 42 (.call 78 [TT 41,
 II 3]),MM 43 0,OA 44 (.call 33 [TT 43,II 6]),OA 45 (.bin .add (II 1) (TT 44)),OA 46 (.call 78 [TT 45,II 3]),MM 47 0,OA 48 (.call 33 [TT 47,II 8]),OA 49 (.bin .add (II 4) (TT 48)),OA 50 (.call 78 [II 1,TT 49]),MM 51
 0,OA 52 (.call 33 [TT 51,II 20]),OA 53 (.bin .add (II 10) (TT 52)),OA 54 (.call 78 [II 1,TT 53]),MM 55 6,OA 56 (.bin .add (TT 55) (II 1)),OA 57 (.call 80 [II (-1),II (-1),TT 56,II 1]),OA 58 (.build [.bool false,
 .string ⟨#[]⟩,.string ⟨#[]⟩,.bool false,.string ⟨#[]⟩,.string ⟨#[]⟩,.bool false,.string ⟨#[]⟩,.string ⟨#[]⟩,.bool false,.string ⟨#[]⟩,.string ⟨#[]⟩,.bool false,.string ⟨#[]⟩,.string ⟨#[]⟩,.slice none 0 0] [(0,(3,
 TT 38)),(3,(3,TT 42)),(6,(3,TT 46)),(9,(3,TT 50)),(12,(3,TT 54)),(15,(1,TT 57))]),OA 7 (.alloc 74 [.bool false,.string ⟨#[]⟩,.string ⟨#[]⟩,.bool false,.string ⟨#[]⟩,.string ⟨#[]⟩,.bool false,.string ⟨#[]⟩,
 .string ⟨#[]⟩,.bool false,.string ⟨#[]⟩,.string ⟨#[]⟩,.bool false,.string ⟨#[]⟩,.string ⟨#[]⟩,.slice none 0 0]),OB (.store 16 (TT 7) (TT 58))]) (.seq (.seq (.reg [MM 59 0,OA 60 (.call 33 [TT 59,II 3]),OA 61 (.bin .eql
 (TT 60) (II 2))]) (.cond (TT 61) (.reg [OA 62 (.call 82 [II (-1),II (-1)]),MM 63 6,OA 64 (.bin .add (TT 63) (II 1)),OA 65 (.call 82 [TT 64,II 0]),OA 66 (.call 82 [II (-1),II 1]),OA 67 (.bsl 59 6 3 [.bool false,.string
 ⟨#[]⟩,.string ⟨#[]⟩,.bool false,.string ⟨#[]⟩,.string ⟨#[]⟩] [(0,TT 62),(1,TT 65),(2,TT 66)]),FF 68 15 7,OB (.store 1 (TT 68) (TT 67))]) .skip)) (.reg [FF 69 11 5,VV 70 69,LL 71 16 7,OA 72 (.bsl 74 16 1 [.bool
 false,.string ⟨#[]⟩,.string ⟨#[]⟩,.bool false,.string ⟨#[]⟩,.string ⟨#[]⟩,.bool false,.string ⟨#[]⟩,.string ⟨#[]⟩,.bool false,.string ⟨#[]⟩,.string ⟨#[]⟩,.bool false,.string ⟨#[]⟩,.string ⟨#[]⟩,.slice none 0 0]
 [(0,TT 71)]),OA 73 (.app 74 16 224 (TT 70) (TT 72)),FF 74 11 5,OB (.store 1 (TT 74) (TT 73))]))))) (.reg [OA 75 (.bin .add (TT 31) (II 1)),MM 31 75]))))))) (.seq (.reg [LL 76 12 5,OB (.store 12 (TT 4) (TT 76))]) .ret))))⟩
theorem b0z:J5 eff Tryz.prog Tryz.f79=some a5L:=by kernel_rfl
theorem b0v:Tryz.prog.funcs[79]?=some Tryz.f79:=Tryz.func79
def a4b:N9:=⟨48,[.cell 2 true 8,.cell 3 true 5,.tmp 4],.seq (.reg [OA 2 (.alloc 31 [.slice none 0 0,.slice none 0 0,.slice none 0 0,.slice none 0 0,.slice none 0 0,.bool false,.string ⟨#[]⟩,.string ⟨#[]⟩]),OA 3 (.alloc 37 [.int
 .i64 0,.slice none 0 0,.slice none 0 0,.slice none 0 0,.slice none 0 0]),OA 4 (.mv (.const (.bool false)))]) (.seq (.reg [MM 8 0,OA 9 (.call 34 [TT 8]),OA 5 (.alloc 31 [.slice none 0 0,.slice none 0 0,.slice none 0 0,
 .slice none 0 0,.slice none 0 0,.bool false,.string ⟨#[]⟩,.string ⟨#[]⟩]),OB (.store 8 (TT 5) (TT 9))]) (.seq (.reg [LL 11 8 5,OA 12 (.call 35 [TT 11]),MM 10 12,OA 13 (.ext (TT 10) 0),OA 14 (.ext (TT 10) 1),OA 6
 (.alloc 37 [.int .i64 0,.slice none 0 0,.slice none 0 0,.slice none 0 0,.slice none 0 0]),OB (.store 5 (TT 6) (TT 13)),MM 7 14]) (.seq (.E8 [.q,.l,.q,.q,.q,.q,.q,.q,.q,.q,.q,.q,.q,.q,.q,.q,.q,.q,.q,.q,
 .q,.q,.q,.q,.q,.q,.q,.q,.q,.q,.q,.l,.l,.e none false,.e none false,.q] [LL 15 8 5,LL 16 5 6,MM 17 7,OA 18 (.bin .eql (TT 17) (II 0)),MM 19 18,FG 20 1 6 19 true,VG 21 20 19 true,OC 22 (.len false (TT 21)) 19
 true,FG 23 0 5 19 true,VG 24 23 19 true,OC 25 (.len false (TT 24)) 19 true,OC 26 (.bin .eql (TT 22) (TT 25)) 19 true,OA 27 (.pick (TT 19) (TT 26) (.const (.bool false))),MM 28 27,FG 29 2 6 28 true,VG 30 29 28 true,OC 31
 (.len false (TT 30)) 28 true,FG 32 2 5 28 true,VG 33 32 28 true,OC 34 (.len false (TT 33)) 28 true,OC 35 (.bin .eql (TT 31) (TT 34)) 28 true,OA 36 (.pick (TT 28) (TT 35) (.const (.bool false))),MM 37 36,LG 38 8 5 37 true,
 LG 39 5 6 37 true,OC 40 (.call 24 [TT 38,TT 39]) 37 true,OC 41 (.bin .eql (TT 40) (II 0)) 37 true,OA 42 (.pick (TT 37) (TT 41) (.const (.bool false))),MM 43 42,OC 44 (.build [.slice none 0 0,.slice none 0 0,.slice none 0
 0,.slice none 0 0,.slice none 0 0,.bool false,.string ⟨#[]⟩,.string ⟨#[]⟩] []) 43 true,OC 45 (.call 36 [TT 44]) 43 true,OC 46 (.bin .eql (TT 45) (II 4)) 43 true,OA 47 (.pick (TT 43) (TT 46) (.const (.bool false))),OB
 (.store 8 (TT 2) (TT 15)),OB (.store 5 (TT 3) (TT 16)),MM 4 47]) .ret)))⟩
theorem a8n:J5 eff Tryz.prog Tryz.f13=some a4b:=by kernel_rfl
theorem a8m:Tryz.prog.funcs[13]?=some Tryz.f13:=Tryz.func13
def O0:N9:=⟨9,[.tmp 4],.seq (.reg [OA 4 (.mv (.const (.bool false)))]) (.seq (.reg [MM 5 0,MM 6 1,OA 7 (.call 121 [TT 5,TT 6]),OA 8 (.bin .geq (TT 7) (II 0)),MM 4 8]) .ret)⟩
theorem X0:J5 eff Tryz.prog Tryz.f57=some O0:=by kernel_rfl
theorem X3:Tryz.prog.funcs[57]?=some Tryz.f57:=Tryz.func57
def Q0:N9:=⟨19,[.tmp 4],.seq (.reg [OA 4 (.mv (II 0))]) (.seq (.seq (.reg [MM 6 0,OA 7 (.len false (TT 6)),OA 8 (.mv (II 0))]) (.block 0 (.loop (.seq (.reg [OA 9 (.bin .lss (TT 8) (TT 7))]) (.seq (.cond (TT 9) .skip (.exit 0)) (.seq
 (.block 1 (.seq (.reg [MM 10 8,MM 5 10]) (.seq (.reg [MM 11 1,MM 12 0,MM 13 5,OA 14 (.q8 6 (TT 12) (TT 13)),LL 15 6 14,OA 16 (.X6 (TT 11) [TT 15])]) (.cond (TT 16) (.seq (.reg [MM 17 5,MM 4 17]) .ret) .skip))))
 (.reg [OA 18 (.bin .add (TT 8) (II 1)),MM 8 18]))))))) (.seq (.reg [OA 4 (.mv (II (-1)))]) .ret))⟩
theorem Y2:J5 eff Tryz.prog Tryz.f121=some Q0:=by kernel_rfl
theorem Y0:Tryz.prog.funcs[121]?=some Tryz.f121:=Tryz.func121
def Z6 (b:UInt8):Bool:=decide (97<=b.toNat) && decide (b.toNat<=122)
theorem b2F {s:List UInt8} {i:Nat} (hi:i < s.length) (h:Z6 s[i]=false):a1Q s=false:=by
 unfold a1Q
 have:(s.all fun b=>decide (97<=b.toNat) && decide (b.toNat<=122))=false:=by
  rw [List.all_eq_false]
  exact ⟨s[i],c7k hi,by unfold Z6 at h;rw [h];decide⟩
 rw [this]
 rfl
theorem b3T {s:List UInt8} (h:∀ j (h:j < s.length),Z6 s[j]=true):a1Q s=(decide (1<=s.length) && decide (s.length<=12)):=by
 unfold a1Q
 have:(s.all fun b=>decide (97<=b.toNat) && decide (b.toNat<=122))=true:=by
  rw [List.all_eq_true]
  intro x hx
  obtain ⟨j,hj,rfl⟩:=List.mem_iff_getElem.1 hx
  exact h j hj
 rw [this,Bool.true_and]
theorem c1t (s:List UInt8) (hs:s.length<=1099511627776):y9 Tryz.prog 104 [sb s] (.v (.bool (a1Q s))):=by
  refine kS Tryz.func104 (by cbv) (by rfl) fun w O=>?_
  simp only [j5,TT,II,OA,OC,MM,MG,sb]
  (repeat first|refine uA ?_|(apply uK;focus omega)|simp (disch:=omega) only [go_sem,Nat.reduceBEq,F4])
  refine S.loop (X:=Nat) (fun i=>⟨[(0,sb s),(5,ints s.length),(6,ints i)],[]⟩) (fun i=>i<=s.length/\∀ j (h:j < s.length),j < i->Z6 s[j]=true) (fun i=>s.length-i) 0 ⟨c6Z _,fun _ _ h=>absurd h (Nat.not_lt_zero _)⟩ (by (repeat first|refine uA ?_|(refine ⟨?_,?_⟩;focus first|rfl|simp [slot])|rfl|simp)) ?_
  rintro i ⟨hi,hg⟩
  simp only [sb,ints]
  (repeat first|refine uA ?_|(apply uK;focus omega)|simp (disch:=omega) only [go_sem,Nat.reduceBEq])
  (refine uJ rfl (fun hc=>?_) fun hc=>?_)
  · have hi':i < s.length:=by omega
    have hgi:s.getD i 0=s[i]:=by rw [c7g,c6T hi'];rfl
    (repeat first|refine uA ?_|(apply uK;focus first|omega|(intros;simp_all<;>omega))|simp (disch:=omega) only [go_sem,Nat.reduceBEq,F4,a0i,hgi,c7a])
    refine S.cond rfl (fun hc=>?_) (fun hc=>?_)
    · have hl:Z6 s[i]=false:=by
        unfold Z6
        simp only [c7K,c7h] at hc
        rw [Bool.and_eq_false_iff,c7u,c7u]
        omega
      rw [b2F hi' hl]
      (repeat first|refine uA ?_|(apply uK;focus omega)|simp (disch:=omega) only [go_sem])
      exact S.done (j3.out rfl (Imp.refl rfl) rfl)
    · have hl:Z6 s[i]=true:=by
        unfold Z6
        simp only [c7H,c7u] at hc
        rw [c7c,c7h,c7h]
        omega
      (repeat first|refine uA ?_|(apply uK;focus omega)|simp (disch:=omega) only [go_sem,Nat.reduceBEq,ww])
      refine S.next (i+1) ⟨by omega,fun j h hj=>?_⟩ (by omega) (by (repeat first|refine uA ?_|(refine ⟨?_,?_⟩;focus first|rfl|simp [slot])|rfl|simp))
      rcases c7p j i with h1|h1
      · exact hg j h h1
      · have:j=i:=by omega
        subst this
        exact hl
  · have hi':i=s.length:=by omega
    subst hi'
    have e1:decide ((1:Int)<=(s.length:Int))=decide (1<=s.length):=decide_eq_decide.2 (by omega)
    have e2:decide ((s.length:Int)<=12)=decide (s.length<=12):=decide_eq_decide.2 (by omega)
    rw [b3T fun j h=>hg j h h]
    (repeat first|refine uA ?_|(apply uK;focus omega)|simp (disch:=omega) only [go_sem,Nat.reduceBEq,F4,e1,e2])
    (try simp only [e1,e2,go_sem])
    exact S.done (j3.out rfl (Imp.refl rfl) rfl)
theorem c3s (s:List UInt8) (hs:s.length<=1099511627776):y9 Tryz.prog 138 [sb s] (.v (.bool (a1Q s))):=by
  refine kS Tryz.func138 (by cbv) (by rfl) fun w O=>?_
  simp only [j5,TT,II,OA,OC,MM,MG,sb]
  (repeat first|refine uA ?_|(apply uK;focus omega)|simp (disch:=omega) only [go_sem,Nat.reduceBEq,F4])
  refine S.loop (X:=Nat) (fun i=>⟨[(0,sb s),(5,ints s.length),(6,ints i)],[]⟩) (fun i=>i<=s.length/\∀ j (h:j < s.length),j < i->Z6 s[j]=true) (fun i=>s.length-i) 0 ⟨c6Z _,fun _ _ h=>absurd h (Nat.not_lt_zero _)⟩ (by (repeat first|refine uA ?_|(refine ⟨?_,?_⟩;focus first|rfl|simp [slot])|rfl|simp)) ?_
  rintro i ⟨hi,hg⟩
  simp only [sb,ints]
  (repeat first|refine uA ?_|(apply uK;focus omega)|simp (disch:=omega) only [go_sem,Nat.reduceBEq])
  (refine uJ rfl (fun hc=>?_) fun hc=>?_)
  · have hi':i < s.length:=by omega
    have hgi:s.getD i 0=s[i]:=by rw [c7g,c6T hi'];rfl
    (repeat first|refine uA ?_|(apply uK;focus first|omega|(intros;simp_all<;>omega))|simp (disch:=omega) only [go_sem,Nat.reduceBEq,F4,a0i,hgi,c7a])
    refine S.cond rfl (fun hc=>?_) (fun hc=>?_)
    · have hl:Z6 s[i]=false:=by
        unfold Z6
        simp only [c7K,c7h] at hc
        rw [Bool.and_eq_false_iff,c7u,c7u]
        omega
      rw [b2F hi' hl]
      (repeat first|refine uA ?_|(apply uK;focus omega)|simp (disch:=omega) only [go_sem])
      exact S.done (j3.out rfl (Imp.refl rfl) rfl)
    · have hl:Z6 s[i]=true:=by
        unfold Z6
        simp only [c7H,c7u] at hc
        rw [c7c,c7h,c7h]
        omega
      (repeat first|refine uA ?_|(apply uK;focus omega)|simp (disch:=omega) only [go_sem,Nat.reduceBEq,ww])
      refine S.next (i+1) ⟨by omega,fun j h hj=>?_⟩ (by omega) (by (repeat first|refine uA ?_|(refine ⟨?_,?_⟩;focus first|rfl|simp [slot])|rfl|simp))
      rcases c7p j i with h1|h1
      · exact hg j h h1
      · have:j=i:=by omega
        subst this
        exact hl
  · have hi':i=s.length:=by omega
    subst hi'
    have e1:decide ((1:Int)<=(s.length:Int))=decide (1<=s.length):=decide_eq_decide.2 (by omega)
    have e2:decide ((s.length:Int)<=12)=decide (s.length<=12):=decide_eq_decide.2 (by omega)
    rw [b3T fun j h=>hg j h h]
    (repeat first|refine uA ?_|(apply uK;focus omega)|simp (disch:=omega) only [go_sem,Nat.reduceBEq,F4,e1,e2])
    (try simp only [e1,e2,go_sem])
    exact S.done (j3.out rfl (Imp.refl rfl) rfl)
theorem a9U (l:List Nm.Rt) (hl:Rbs 17179869184 l):FZ 105 [rts l] (.v (.bool (l.all l6))):=by
  refine kW Tryz.func105 (by cbv) (by rfl) fun w O hw=>?_
  obtain ⟨hn,hb⟩:=hl
  simp only [j5,TT,II,OA,OB,MM,LL,rts]
  (repeat first|refine uA ?_|(apply uK;focus omega)|simp (disch:=omega) only [go_sem,Nat.reduceBEq,c6U])
  refine S.loop (X:=Nat) (fun i=>⟨[(5,rts l),(6,ints l.length),(7,ints i)],[]⟩) (fun i=>i<=l.length/\l.all l6=(l.drop i).all l6) (fun i=>l.length-i) 0 ⟨c6Z _,rfl⟩ (by (repeat first|refine uA ?_|(refine ⟨?_,?_⟩;focus first|rfl|simp [slot])|rfl|simp)) ?_
  rintro i ⟨hi,hg⟩
  simp only [rts,ints]
  (repeat first|refine uA ?_|(apply uK;focus omega)|simp (disch:=omega) only [go_sem,Nat.reduceBEq])
  (refine uJ rfl (fun hc=>?_) fun hc=>?_)
  · have hi':i < l.length:=by omega
    have hgi:=c6T hi'
    generalize l[i]=x at hgi
    have hd:=drop_at hgi
    have hs:=a4E x (hb x (c6W hgi))
    simp only [rc] at hs
    simp only [sb] at hs
    (repeat first|refine uA ?_|(apply uK;focus omega)|simp (disch:=omega) only [go_sem,Nat.reduceBEq,hgi,c6V,c6U,rcs,sb]|(apply uD hs;exact tz hw;rfl))
    refine S.cond rfl (fun hc=>?_) (fun hc=>?_)
    · have:l.all l6=false:=by
        rw [hg,hd,List.all_cons]
        simp only [Bool.not_eq_true'] at hc
        rw [hc];rfl
      rw [this]
      (repeat first|refine uA ?_|(apply uK;focus omega)|simp (disch:=omega) only [go_sem])
      exact S.done (j3.out rfl (Imp.refl rfl) rfl)
    · (repeat first|refine uA ?_|(apply uK;focus omega)|simp (disch:=omega) only [go_sem,Nat.reduceBEq,ww])
      refine S.next (i+1) ⟨by omega,?_⟩ (by omega) (by (repeat first|refine uA ?_|(refine ⟨?_,?_⟩;focus first|rfl|simp [slot])|rfl|simp))
      rw [hg,hd,List.all_cons]
      simp only [Bool.not_eq_false'] at hc
      rw [hc];rfl
  · have:l.all l6=true:=by rw [hg,List.drop_eq_nil_of_le (by omega)];rfl
    rw [this]
    (repeat first|refine uA ?_|(apply uK;focus omega)|simp (disch:=omega) only [go_sem])
    exact S.done (j3.out rfl (Imp.refl rfl) rfl)
namespace Eng
def frS (fr:List (Nat × C)):List (Nat × C)->Prop
 | []=>True
 | (t,s)::r=>(s=.junk \/ slot fr t=s)/\frS fr r
theorem b4O {fr:List (Nat × C)}:∀ {fr':List (Nat × C)},frS fr fr'->∀ t,slot fr' t=.junk \/ slot fr t=slot fr' t
 | [],_,t=>.inl rfl
 | (u,s)::r,h,t=>by
  simp only [slot]
  cases hb:(u == t) with
  | true=>
   have:u=t:=by simpa using hb
   subst this
   exact h.1
  | false=>exact b4O h.2 t
theorem Ent.fr {E:Ctx} {fr fr':List (Nat × C)} {rs rs':List Res} (h:rs=rs') (hf:frS fr fr'):Ent E ⟨fr,rs⟩ ⟨fr',rs'⟩:=by
 subst h
 intro wf ν a w hG
 refine ⟨ν,hG.dfr,hG.size,fun t=>?_,hG.rg,hG.frm,hG.nu⟩
 rcases b4O hf t with e|e
 ·rw [e];simp only [Den]
 ·rw [<- e];exact hG.fr t
end Eng
def a0K {α:Type} (p:α->Bool) (l:List α):Int:=match l.findIdx? p with|some i=>i|none=>-1
theorem a1B {α:Type} {p:α->Bool} {l:List α} {i:Nat} {x:α} (h:l[i]?=some x) (hp:p x=true) (hm:∀ j,j < i->∀ y,l[j]?=some y->p y=false):a0K p l=i:=by
 obtain ⟨hi,rfl⟩:=c6Y.1 h
 have:l.findIdx? p=some i:=by
  rw [List.findIdx?_eq_some_iff_getElem]
  refine ⟨hi,hp,fun j hj=>?_⟩
  simp [hm j hj l[j] (c6T _)]
 unfold a0K
 rw [this]
theorem a0M {α:Type} {p:α->Bool} {l:List α} (hm:∀ j,j < l.length->∀ y,l[j]?=some y->p y=false):a0K p l=-1:=by
 have:l.findIdx? p=none:=by
  rw [List.findIdx?_eq_none_iff]
  intro x hx
  obtain ⟨j,hj⟩:=List.mem_iff_getElem?.1 hx
  exact hm j (c6Y.1 hj).1 x hj
 unfold a0K
 rw [this]
theorem a2y {α:Type} (p:α->Bool) (l:List α):decide (0<=a0K p l)=l.any p:=by
 unfold a0K
 cases h:l.findIdx? p with
 | none=>
  rw [List.findIdx?_eq_none_iff] at h
  have:l.any p=false:=by rw [List.any_eq_false];intro x hx;simp [h x hx]
  rw [this];rfl
 | some i=>
  rw [List.findIdx?_eq_some_iff_getElem] at h
  obtain ⟨h1,h2,_⟩:=h
  have:l.any p=true:=by rw [List.any_eq_true];exact ⟨_,c7k h1,h2⟩
  rw [this]
  exact decide_eq_true (show (0:Int)<=(i:Int) by omega)
theorem c1S (g:Nat) (hcal:callable Tryz.prog g=true) (p:Vt->Bool) (l:List Vt) (hn:l.length<=1099511627776) (hg:∀ x ∈ l,FZ g [x.c] (.v (.bool (p x)))) :
  FZ 121 [vts l,.v (.func (.func g) #[] #[])] (ints (a0K p l)):=by
 refine kW Y0 Y2 (by rfl) fun w O hw=>?_
 simp only [Q0,j5,TT,II,OA,MM,LL,vts]
 (repeat first|refine uA ?_|(apply uK;focus omega)|simp (disch:=omega) only [go_sem,Nat.reduceBEq,c6U])
 refine S.loop (X:=Nat) (fun i=>⟨[(0,vts l),(1,.v (.func (.func g) #[] #[])),(7,ints l.length),(8,ints i)],[]⟩) (fun i=>i<=l.length/\∀ j,j < i->∀ x,l[j]?=some x->p x=false) (fun i=>l.length-i) 0 ⟨c6Z _,fun _ h=>absurd h (Nat.not_lt_zero _)⟩ (by (repeat first|refine uA ?_|(refine ⟨?_,?_⟩;focus first|rfl|simp [slot])|rfl|simp)) ?_
 rintro i ⟨hi,hm⟩
 simp only [vts,ints]
 (repeat first|refine uA ?_|(apply uK;focus omega)|simp (disch:=omega) only [go_sem,Nat.reduceBEq])
 (refine uJ rfl (fun hc=>?_) fun hc=>?_)
 ·have hi':i < l.length:=by omega
  have hgi:=c6T hi'
  generalize l[i]=x at hgi
  have hs:=hg x (c6W hgi)
  simp only [Vt.c,Vt.enc,sb] at hs
  (repeat first|refine uA ?_|(apply uK;focus omega)|simp (disch:=omega) only [go_sem,Nat.reduceBEq,hgi,c6V,c6U,Vt.enc,sb,c7a,hcal]|(apply uD hs;exact tz hw;rfl))
  refine S.cond rfl (fun hc2=>?_) (fun hc2=>?_)
  ·rw [a1B hgi hc2 hm]
   (repeat first|refine uA ?_|(apply uK;focus omega)|simp (disch:=omega) only [go_sem,Nat.reduceBEq])
   exact S.done (j3.out rfl (Imp.refl rfl) rfl)
  ·(repeat first|refine uA ?_|(apply uK;focus omega)|simp (disch:=omega) only [go_sem,Nat.reduceBEq,ww])
   refine S.next (i+1) ⟨by omega,fun j hj y hy=>?_⟩ (by omega) (by (repeat first|refine uA ?_|(refine ⟨?_,?_⟩;focus first|rfl|simp [slot])|rfl|simp))
   rcases c7p j i with h1|h1
   ·exact hm j h1 y hy
   ·have:j=i:=by omega
    subst this
    rw [hgi] at hy
    cases hy
    exact hc2
 ·have hi':i=l.length:=by omega
  subst hi'
  rw [a0M hm]
  (repeat first|refine uA ?_|(apply uK;focus omega)|simp (disch:=omega) only [go_sem])
  exact S.done (j3.out rfl (Imp.refl rfl) rfl)
theorem b5g (g:Nat) (hcal:callable Tryz.prog g=true) (p:Vt->Bool) (l:List Vt) (hn:l.length<=1099511627776) (hg:∀ x ∈ l,FZ g [x.c] (.v (.bool (p x)))) :
  FZ 57 [vts l,.v (.func (.func g) #[] #[])] (.v (.bool (l.any p))):=by
 refine kW X3 X0 (by rfl) fun w O hw=>?_
 have h:=c1S g hcal p l hn hg
 have e:=a2y p l
 generalize a0K p l=n at *
 simp only [O0,j5,TT,II,OA,MM]
 simp only [vts,ints] at *
 (repeat first|refine uA ?_|(apply uK;focus first|omega|(intros;simp_all<;>omega))|simp (disch:=omega) only [go_sem,Nat.reduceBEq,Nat.reduceAdd]|(apply uD h;exact tz hw;rfl))
 rw [e]
 exact S.done (j3.out rfl (Imp.refl rfl) rfl)
theorem c1o (g:Nat) (hcal:callable Tryz.prog g=true) (p:Nm.Rt->Bool) (l:List Nm.Rt) (hn:l.length<=1099511627776) (hg:∀ x ∈ l,FZ g [rc x] (.v (.bool (p x)))) :
  FZ 165 [rts l,.v (.func (.func g) #[] #[])] (ints (a0K p l)):=by
 refine kW Tryz.func165 (by cbv) (by rfl) fun w O hw=>?_
 simp only [j5,TT,II,OA,MM,LL,rts]
 (repeat first|refine uA ?_|(apply uK;focus omega)|simp (disch:=omega) only [go_sem,Nat.reduceBEq,c6U])
 refine S.loop (X:=Nat) (fun i=>⟨[(0,rts l),(1,.v (.func (.func g) #[] #[])),(7,ints l.length),(8,ints i)],[]⟩) (fun i=>i<=l.length/\∀ j,j < i->∀ x,l[j]?=some x->p x=false) (fun i=>l.length-i) 0 ⟨c6Z _,fun _ h=>absurd h (Nat.not_lt_zero _)⟩ (by (repeat first|refine uA ?_|(refine ⟨?_,?_⟩;focus first|rfl|simp [slot])|rfl|simp)) ?_
 rintro i ⟨hi,hm⟩
 simp only [rts,ints]
 (repeat first|refine uA ?_|(apply uK;focus omega)|simp (disch:=omega) only [go_sem,Nat.reduceBEq])
 (refine uJ rfl (fun hc=>?_) fun hc=>?_)
 ·have hi':i < l.length:=by omega
  have hgi:=c6T hi'
  generalize l[i]=x at hgi
  have hs:=hg x (c6W hgi)
  simp only [rc,sb] at hs
  (repeat first|refine uA ?_|(apply uK;focus omega)|simp (disch:=omega) only [go_sem,Nat.reduceBEq,hgi,c6V,c6U,rcs,sb,c7a,hcal]|(apply uD hs;exact tz hw;rfl))
  refine S.cond rfl (fun hc2=>?_) (fun hc2=>?_)
  ·rw [a1B hgi hc2 hm]
   (repeat first|refine uA ?_|(apply uK;focus omega)|simp (disch:=omega) only [go_sem,Nat.reduceBEq])
   exact S.done (j3.out rfl (Imp.refl rfl) rfl)
  ·(repeat first|refine uA ?_|(apply uK;focus omega)|simp (disch:=omega) only [go_sem,Nat.reduceBEq,ww])
   refine S.next (i+1) ⟨by omega,fun j hj y hy=>?_⟩ (by omega) (by (repeat first|refine uA ?_|(refine ⟨?_,?_⟩;focus first|rfl|simp [slot])|rfl|simp))
   rcases c7p j i with h1|h1
   ·exact hm j h1 y hy
   ·have:j=i:=by omega
    subst this
    rw [hgi] at hy
    cases hy
    exact hc2
 ·have hi':i=l.length:=by omega
  subst hi'
  rw [a0M hm]
  (repeat first|refine uA ?_|(apply uK;focus omega)|simp (disch:=omega) only [go_sem])
  exact S.done (j3.out rfl (Imp.refl rfl) rfl)
theorem c1g (g:Nat) (hcal:callable Tryz.prog g=true) (p:Nm.Rt->Bool) (l:List Nm.Rt) (hn:l.length<=1099511627776) (hg:∀ x ∈ l,FZ g [rc x] (.v (.bool (p x)))) :
  FZ 122 [rts l,.v (.func (.func g) #[] #[])] (.v (.bool (l.any p))):=by
 refine kW Tryz.func122 (by cbv) (by rfl) fun w O hw=>?_
 have h:=c1o g hcal p l hn hg
 have e:=a2y p l
 generalize a0K p l=n at *
 simp only [j5,TT,II,OA,MM]
 simp only [rts,ints] at *
 (repeat first|refine uA ?_|(apply uK;focus first|omega|(intros;simp_all<;>omega))|simp (disch:=omega) only [go_sem,Nat.reduceBEq,Nat.reduceAdd]|(apply uD h;exact tz hw;rfl))
 rw [e]
 exact S.done (j3.out rfl (Imp.refl rfl) rfl)
theorem b8i (g:Nat) (hcal:callable Tryz.prog g=true) (p:Fr->Bool) (l:List Fr) (hn:l.length<=1099511627776) (hg:∀ x ∈ l,FZ g [x.c] (.v (.bool (p x)))) :
  FZ 120 [frs l,.v (.func (.func g) #[] #[])] (ints (a0K p l)):=by
 refine kW Tryz.func120 (by cbv) (by rfl) fun w O hw=>?_
 simp only [j5,TT,II,OA,MM,LL,frs]
 (repeat first|refine uA ?_|(apply uK;focus omega)|simp (disch:=omega) only [go_sem,Nat.reduceBEq,c6U])
 refine S.loop (X:=Nat) (fun i=>⟨[(0,frs l),(1,.v (.func (.func g) #[] #[])),(7,ints l.length),(8,ints i)],[]⟩) (fun i=>i<=l.length/\∀ j,j < i->∀ x,l[j]?=some x->p x=false) (fun i=>l.length-i) 0 ⟨c6Z _,fun _ h=>absurd h (Nat.not_lt_zero _)⟩ (by (repeat first|refine uA ?_|(refine ⟨?_,?_⟩;focus first|rfl|simp [slot])|rfl|simp)) ?_
 rintro i ⟨hi,hm⟩
 simp only [frs,ints]
 (repeat first|refine uA ?_|(apply uK;focus omega)|simp (disch:=omega) only [go_sem,Nat.reduceBEq])
 (refine uJ rfl (fun hc=>?_) fun hc=>?_)
 ·have hi':i < l.length:=by omega
  have hgi:=c6T hi'
  generalize l[i]=x at hgi
  have hs:=hg x (c6W hgi)
  simp only [Fr.c,Fr.enc,sb] at hs
  (repeat first|refine uA ?_|(apply uK;focus omega)|simp (disch:=omega) only [go_sem,Nat.reduceBEq,hgi,c6V,c6U,Fr.enc,sb,c7a,hcal]|(apply uD hs;exact tz hw;rfl))
  refine S.cond rfl (fun hc2=>?_) (fun hc2=>?_)
  ·rw [a1B hgi hc2 hm]
   (repeat first|refine uA ?_|(apply uK;focus omega)|simp (disch:=omega) only [go_sem,Nat.reduceBEq])
   exact S.done (j3.out rfl (Imp.refl rfl) rfl)
  ·(repeat first|refine uA ?_|(apply uK;focus omega)|simp (disch:=omega) only [go_sem,Nat.reduceBEq,ww])
   refine S.next (i+1) ⟨by omega,fun j hj y hy=>?_⟩ (by omega) (by (repeat first|refine uA ?_|(refine ⟨?_,?_⟩;focus first|rfl|simp [slot])|rfl|simp))
   rcases c7p j i with h1|h1
   ·exact hm j h1 y hy
   ·have:j=i:=by omega
    subst this
    rw [hgi] at hy
    cases hy
    exact hc2
 ·have hi':i=l.length:=by omega
  subst hi'
  rw [a0M hm]
  (repeat first|refine uA ?_|(apply uK;focus omega)|simp (disch:=omega) only [go_sem])
  exact S.done (j3.out rfl (Imp.refl rfl) rfl)
theorem b8H (g:Nat) (hcal:callable Tryz.prog g=true) (p:Fr->Bool) (l:List Fr) (hn:l.length<=1099511627776) (hg:∀ x ∈ l,FZ g [x.c] (.v (.bool (p x)))) :
  FZ 54 [frs l,.v (.func (.func g) #[] #[])] (.v (.bool (l.any p))):=by
 refine kW Tryz.func54 (by cbv) (by rfl) fun w O hw=>?_
 have h:=b8i g hcal p l hn hg
 have e:=a2y p l
 generalize a0K p l=n at *
 simp only [j5,TT,II,OA,MM]
 simp only [frs,ints] at *
 (repeat first|refine uA ?_|(apply uK;focus first|omega|(intros;simp_all<;>omega))|simp (disch:=omega) only [go_sem,Nat.reduceBEq,Nat.reduceAdd]|(apply uD h;exact tz hw;rfl))
 rw [e]
 exact S.done (j3.out rfl (Imp.refl rfl) rfl)
set_option maxHeartbeats 8000000
theorem c1u {α:Type} (p:α->Bool) (a b c d e:α):[a,b,c,d,e].all p=(p a && p b && p c && p d && p e):=by simp [Bool.and_assoc]
theorem b2B {α:Type} (p:α->Bool) (a b c:α):[a,b,c].all p=(p a && p b && p c):=by simp [Bool.and_assoc]
theorem b1p {α:Type} (p:α->Bool) (a b:α):[a,b].all p=(p a && p b):=by simp
theorem Rbs.five {k:Nat} {a b c d e:Nm.Rt} (h:5<=k) (h1:Rb k a) (h2:Rb k b) (h3:Rb k c) (h4:Rb k d) (h5:Rb k e):Rbs k [a,b,c,d,e]:=⟨h,fun x hx=>by simp at hx;rcases hx with rfl|rfl|rfl|rfl|rfl<;>assumption⟩
theorem Rbs.three {k:Nat} {a b c:Nm.Rt} (h:3<=k) (h1:Rb k a) (h2:Rb k b) (h3:Rb k c):Rbs k [a,b,c]:=⟨h,fun x hx=>by simp at hx;rcases hx with rfl|rfl|rfl<;>assumption⟩
theorem Rbs.two {k:Nat} {a b:Nm.Rt} (h:2<=k) (h1:Rb k a) (h2:Rb k b):Rbs k [a,b]:=⟨h,fun x hx=>by simp at hx;rcases hx with rfl|rfl<;>assumption⟩
theorem c3G (l:Lk) (hl:Lb 1073741824 l):FZ 106 [l.c] (ints (O7 l)):=by
  refine kW Tryz.func106 (by cbv) (by rfl) fun w O hw=>?_
  obtain ⟨length,low,high,speed,brake,shape⟩:=l
  obtain ⟨b1,b2,b3,b4,b5,b6⟩:=hl
  simp only at b1 b2 b3 b4 b5 b6
  have c1:=b1.mono (m:=17179869184) (by decide)
  have c2:=b2.mono (m:=17179869184) (by decide)
  have c3:=b3.mono (m:=17179869184) (by decide)
  have c4:=b4.mono (m:=17179869184) (by decide)
  have c5:=b5.mono (m:=17179869184) (by decide)
  have hsm:=a9U _ (Rbs.five (by decide) c1 c2 c3 c4 c5)
  rw [c1u] at hsm
  have hs1:=a0j length c1
  have hcm:=K8 low high c2 c3
  have hs2:=a0j speed c4
  have hs3:=a0j brake c5
  have hp:=a9p shape b6
  have hv:=fun (v:Vt) (h:v ∈ shape)=>a9U _ (Rbs.two (by decide) ((b6.2 v h).1.mono (m:=17179869184) (by decide)) ((b6.2 v h).2.mono (m:=17179869184) (by decide)))
  have hn:=b6.1
  unfold O7
  simp only
  generalize (l6 length && l6 low && l6 high && l6 speed && l6 brake)=q at *
  generalize E9 (Nm.d9 length)=n1 at *
  generalize Nm.q9 (Nm.d9 low) (Nm.d9 high)=n2 at *
  generalize E9 (Nm.d9 speed)=n3 at *
  generalize E9 (Nm.d9 brake)=n4 at *
  generalize L6 shape 8=n5 at *
  simp only [j5,TT,II,OA,OB,OC,MM,LL,VV,FF,LG,FG]
  simp only [Lk.c,Lk.enc,rc,rts,rcs,vts,sb,ints,c7i,c7q] at *
  (repeat first|refine uG hs1 ?_|refine uG hcm ?_|refine uG hsm ?_|refine uA ?_|(apply uK;focus first|omega|(intros;simp_all<;>omega))|simp (disch:=omega) only [go_sem,Nat.reduceBEq,Nat.reduceAdd]|(apply uD hs1;exact tz hw;rfl)|(apply uD hcm;exact tz hw;rfl)|(apply uE hsm;exact tz hw;exact rfl;focus (repeat' first|exact j4.nil|exact Imp.refl rfl|exact Imp.frz rfl rfl rfl|(refine Imp.U3 rfl rfl ?_ ?_;(focus ((try simp only [c7e]);omega));(focus first|rfl|assumption))|refine j4.cons ?_ ?_);done))
  refine S.cond rfl (fun hc=>?_) (fun hc=>?_)
  · rw [if_pos (by simp only [c7K,Bool.not_eq_true',c7h] at hc;rcases hc with (hc|hc)|hc<;>simp [hc])]
    (repeat first|refine uA ?_|(apply uK;focus omega)|simp (disch:=omega) only [go_sem])
    exact S.done (j3.out rfl (Imp.refl rfl) rfl)
  rw [if_neg (by simp only [c7H,Bool.not_eq_false',c7u] at hc;simp [hc])]
  (repeat first|refine uG hs2 ?_|refine uG hs3 ?_|refine uA ?_|(apply uK;focus first|omega|(intros;simp_all<;>omega))|simp (disch:=omega) only [go_sem,Nat.reduceBEq,Nat.reduceAdd]|(apply uD hs2;exact tz hw;rfl)|(apply uD hs3;exact tz hw;rfl))
  refine S.cond rfl (fun hc=>?_) (fun hc=>?_)
  · rw [if_pos (by simp only [c7K,c7h] at hc;exact hc)]
    (repeat first|refine uA ?_|(apply uK;focus omega)|simp (disch:=omega) only [go_sem])
    exact S.done (j3.out rfl (Imp.refl rfl) rfl)
  rw [if_neg (by simp only [c7H,c7u] at hc;simp [hc])]
  (repeat first|refine uG hp ?_|refine uA ?_|(apply uK;focus omega)|simp (disch:=omega) only [go_sem,Nat.reduceBEq]|(apply uD hp;exact tz hw;rfl))
  refine S.cond rfl (fun hc=>?_) (fun hc=>?_)
  · rw [if_pos (by simpa using hc)]
    (repeat first|refine uA ?_|(apply uK;focus omega)|simp (disch:=omega) only [go_sem,Nat.reduceBEq])
    exact S.done (j3.out rfl (Imp.refl rfl) rfl)
  rw [if_neg (by simpa using hc)]
  (repeat first|refine uA ?_|(apply uK;focus omega)|simp (disch:=omega) only [go_sem,Nat.reduceBEq,c6U])
  refine S.loop (X:=Nat) (fun i=>⟨[(50,vts shape),(51,ints shape.length),(52,ints i)],[]⟩) (fun i=>i<=shape.length/\(shape.all fun v=>l6 v.x && l6 v.y)=(shape.drop i).all fun v=>l6 v.x && l6 v.y) (fun i=>shape.length-i) 0 ⟨c6Z _,rfl⟩ (by (repeat first|refine uA ?_|(refine ⟨?_,?_⟩;focus first|rfl|simp [slot])|rfl|simp)) ?_
  rintro i ⟨hi,hg⟩
  simp only [vts,ints]
  (repeat first|refine uA ?_|(apply uK;focus omega)|simp (disch:=omega) only [go_sem,Nat.reduceBEq])
  (refine uJ rfl (fun hc=>?_) fun hc=>?_)
  · have hi':i < shape.length:=by omega
    have hgi:=c6T hi'
    generalize shape[i]=x at hgi
    have hd:=drop_at hgi
    have hs:=hv x (c6W hgi)
    rw [b1p] at hs
    (repeat first|refine uG hs ?_|refine uA ?_|(apply uK;focus first|omega|(intros;simp_all<;>omega))|simp (disch:=omega) only [go_sem,Nat.reduceBEq,Nat.reduceAdd,hgi,c6V,c6U,Vt.enc,sb]|(apply uE hs;exact tz hw;exact rfl;focus (repeat' first|exact j4.nil|exact Imp.refl rfl|exact Imp.frz rfl rfl rfl|(refine Imp.U3 rfl rfl ?_ ?_;(focus ((try simp only [c7e,hgi,c6V,c6U,Vt.enc,sb]);omega));(focus first|rfl|assumption))|refine j4.cons ?_ ?_);done))
    refine S.cond rfl (fun hc2=>?_) (fun hc2=>?_)
    · have:(shape.all fun v=>l6 v.x && l6 v.y)=false:=by
        rw [hg,hd,List.all_cons]
        simp only [Bool.not_eq_true'] at hc2
        rw [hc2];rfl
      rw [this]
      (repeat first|refine uA ?_|(apply uK;focus omega)|simp (disch:=omega) only [go_sem])
      exact S.done (j3.out rfl (Imp.refl rfl) rfl)
    · (repeat first|refine uA ?_|(apply uK;focus omega)|simp (disch:=omega) only [go_sem,Nat.reduceBEq,ww])
      refine S.next (i+1) ⟨by omega,?_⟩ (by omega) (by (repeat first|refine uA ?_|(refine ⟨?_,?_⟩;focus first|rfl|simp [slot])|rfl|simp))
      rw [hg,hd,List.all_cons]
      simp only [Bool.not_eq_false'] at hc2
      rw [hc2];rfl
  · have:(shape.all fun v=>l6 v.x && l6 v.y)=true:=by rw [hg,List.drop_eq_nil_of_le (by omega)];rfl
    rw [this]
    (repeat first|refine uA ?_|(apply uK;focus omega)|simp (disch:=omega) only [go_sem])
    exact S.done (j3.out rfl (Imp.refl rfl) rfl)
theorem b0p (a:Am) (hl:Ab 1073741824 a):FZ 41 [a.c] (ints (J2 a)):=by
 refine kW Tryz.func41 (by cbv) (by rfl) fun w O hw=>?_
 obtain ⟨name,⟨x,y,half,t⟩,links⟩:=a
 obtain ⟨b0,⟨b1,b2,b3⟩,hn,hb⟩:=hl
 simp only at b0 b1 b2 b3 hn hb
 have c1:=b1.mono (m:=17179869184) (by decide)
 have c2:=b2.mono (m:=17179869184) (by decide)
 have c3:=b3.mono (m:=17179869184) (by decide)
 have hnm:=c1t name (by omega)
 have hsm:=a9U _ (Rbs.three (by decide) c1 c2 c3)
 rw [b2B] at hsm
 have hs:=a0j t c3
 unfold J2 a5v
 simp only
 generalize a1Q name=q0 at *
 generalize (l6 x && l6 y && l6 t)=q at *
 generalize E9 (Nm.d9 t)=n1 at *
 simp only [j5]
 simp only [Am.c,Am.enc,rc,rts,rcs,lks,sb,ints,c7i,c7q] at *
 (repeat first|refine uF hnm ?_|refine uA ?_|(apply uK;focus first|omega|(intros;simp_all<;>omega))|simp (disch:=omega) only [go_sem,Nat.reduceBEq,Nat.reduceAdd]|(apply uB hnm;exact rfl))
 refine S.cond rfl (fun hc=>?_) (fun hc=>?_)
 ·rw [if_pos (by simpa using hc)]
  (repeat first|refine uA ?_|(apply uK;focus omega)|simp (disch:=omega) only [go_sem])
  exact S.done (j3.out rfl (Imp.refl rfl) rfl)
 rw [if_neg (by simpa using hc)]
 (repeat first|refine uA ?_|(apply uK;focus omega)|simp (disch:=omega) only [go_sem,Nat.reduceBEq,c6U])
 refine S.cond rfl (fun hc=>?_) (fun hc=>?_)
 ·rw [if_pos (by simp only [c7h] at hc;omega)]
  (repeat first|refine uA ?_|(apply uK;focus omega)|simp (disch:=omega) only [go_sem])
  exact S.done (j3.out rfl (Imp.refl rfl) rfl)
 rw [if_neg (by simp only [c7u] at hc;omega)]
 by_cases h0:links.length=0
 ·rw [if_pos (.inl h0)]
  have e0:decide ((links.length:Int)=0)=true:=decide_eq_true (by omega)
  (repeat first|refine uG hs ?_|refine uG hsm ?_|refine uA ?_|(apply uK;focus first|omega|(intros;simp_all<;>omega))|simp (disch:=omega) only [go_sem,Nat.reduceBEq,Nat.reduceAdd,c6U,e0]|(apply uD hs;exact tz hw;rfl)|(apply uE hsm;exact tz hw;exact rfl;focus (repeat' first|exact j4.nil|exact Imp.refl rfl|exact Imp.frz rfl rfl rfl|(refine Imp.U3 rfl rfl ?_ ?_;(focus ((try simp only [c7e,c6U,e0]);omega));(focus first|rfl|assumption))|refine j4.cons ?_ ?_);done))
  refine S.cond rfl (fun _=>?_) (fun hc=>by simp at hc)
  (repeat first|refine uA ?_|(apply uK;focus omega)|simp (disch:=omega) only [go_sem])
  exact S.done (j3.out rfl (Imp.refl rfl) rfl)
 have e0:decide ((links.length:Int)=0)=false:=decide_eq_false (by omega)
 (repeat first|refine uG hs ?_|refine uG hsm ?_|refine uA ?_|(apply uK;focus first|omega|(intros;simp_all<;>omega))|simp (disch:=omega) only [go_sem,Nat.reduceBEq,Nat.reduceAdd,c6U,e0]|(apply uD hs;exact tz hw;rfl)|(apply uE hsm;exact tz hw;exact rfl;focus (repeat' first|exact j4.nil|exact Imp.refl rfl|exact Imp.frz rfl rfl rfl|(refine Imp.U3 rfl rfl ?_ ?_;(focus ((try simp only [c7e,c6U,e0]);omega));(focus first|rfl|assumption))|refine j4.cons ?_ ?_);done))
 refine S.cond rfl (fun hc=>?_) (fun hc=>?_)
 ·rw [if_pos (by simp only [c7K,Bool.not_eq_true'] at hc;rcases hc with hc|hc;(· exact .inr (.inl hc));(· exact .inr (.inr (by cases half<;>simp_all))))]
  (repeat first|refine uA ?_|(apply uK;focus omega)|simp (disch:=omega) only [go_sem])
  exact S.done (j3.out rfl (Imp.refl rfl) rfl)
 rw [if_neg (by simp only [c7H,Bool.not_eq_false'] at hc;rintro (h|h|h);(· omega);(· simp_all);(· cases half<;>simp_all))]
 (repeat first|refine uA ?_|(apply uK;focus omega)|simp (disch:=omega) only [go_sem,Nat.reduceBEq,c6U])
 refine S.loop (X:=Nat) (fun i=>⟨[(48,lks links),(49,ints links.length),(50,ints i)],[]⟩) (fun i=>i<=links.length/\I4 O7 links=I4 O7 (links.drop i)) (fun i=>links.length-i) 0 ⟨c6Z _,rfl⟩ (by (repeat first|refine uA ?_|(refine ⟨?_,?_⟩;focus first|rfl|simp [slot])|rfl|simp)) ?_
 rintro i ⟨hi,hg⟩
 simp only [lks,ints]
 (repeat first|refine uA ?_|(apply uK;focus omega)|simp (disch:=omega) only [go_sem,Nat.reduceBEq])
 (refine uJ rfl (fun hc=>?_) fun hc=>?_)
 ·have hi':i < links.length:=by omega
  have hgi:=c6T hi'
  generalize links[i]=x at hgi
  have hst:=a1Z (f:=O7) hgi
  have hnx:=a2a (f:=O7) hgi
  have hs:=c3G x (hb x (c6W hgi))
  generalize O7 x=e at *
  simp only [Lk.c,Lk.enc,vts,sb,ints] at hs
  (repeat first|refine uG hs ?_|refine uA ?_|(apply uK;focus omega)|simp (disch:=omega) only [go_sem,Nat.reduceBEq,hgi,c6V,c6U,Lk.enc,vts,sb]|(apply uD hs;exact tz hw;rfl))
  refine S.cond rfl (fun hc2=>?_) (fun hc2=>?_)
  ·rw [hg,hst (by simpa using hc2)]
   (repeat first|refine uA ?_|(apply uK;focus omega)|simp (disch:=omega) only [go_sem,Nat.reduceBEq])
   exact S.done (j3.out rfl (Imp.refl rfl) rfl)
  ·(repeat first|refine uA ?_|(apply uK;focus omega)|simp (disch:=omega) only [go_sem,Nat.reduceBEq,ww])
   refine S.next (i+1) ⟨by omega,?_⟩ (by omega) (by (repeat first|refine uA ?_|(refine ⟨?_,?_⟩;focus first|rfl|simp [slot])|rfl|simp))
   rw [hg,hnx (by simpa using hc2)]
 ·rw [hg,a2S (by omega)]
  (repeat first|refine uA ?_|(apply uK;focus omega)|simp (disch:=omega) only [go_sem])
  exact S.done (j3.out rfl (Imp.refl rfl) rfl)
def a4n (a:Am) (n:Int):Int:=if J2 a ≠ 0 then J2 a else if n ≠ a.links.length then 1 else 0
theorem b9W (a:Am) (n:Int) (hl:Ab 1073741824 a):FZ 154 [a.c,ints n] (ints (a4n a n)):=by
 refine kW Tryz.func154 (by cbv) (by rfl) fun w O hw=>?_
 have h:=b0p a hl
 unfold a4n
 generalize J2 a=e at *
 obtain ⟨name,⟨x,y,half,t⟩,links⟩:=a
 simp only [j5,TT,II,OA,MM,LL,VV,FF]
 simp only [Am.c,Am.enc,lks,sb,ints] at *
 (repeat first|refine uA ?_|(apply uK;focus omega)|simp (disch:=omega) only [go_sem,Nat.reduceBEq]|(apply uD h;exact tz hw;rfl))
 refine S.cond rfl (fun hc=>?_) (fun hc=>?_)
 ·rw [if_pos (by simpa using hc)]
  (repeat first|refine uA ?_|(apply uK;focus omega)|simp (disch:=omega) only [go_sem,Nat.reduceBEq])
  exact S.done (j3.out rfl (Imp.refl rfl) rfl)
 rw [if_neg (by simpa using hc)]
 (repeat first|refine uA ?_|(apply uK;focus first|omega|(intros;simp_all<;>omega))|simp (disch:=omega) only [go_sem,Nat.reduceBEq,Nat.reduceAdd,c6U])
 refine S.cond rfl (fun hc=>?_) (fun hc=>?_)
 ·rw [if_pos (by simpa using hc)]
  (repeat first|refine uA ?_|(apply uK;focus omega)|simp (disch:=omega) only [go_sem])
  exact S.done (j3.out rfl (Imp.refl rfl) rfl)
 ·rw [if_neg (by simpa using hc)]
  (repeat first|refine uA ?_|(apply uK;focus omega)|simp (disch:=omega) only [go_sem])
  exact S.done (j3.out rfl (Imp.refl rfl) rfl)
def a6b (x:Lk × Nm.Rt):Int:=if Nm.q9 (Nm.d9 x.2) (Nm.d9 x.1.low) < 0 \/ 0 < Nm.q9 (Nm.d9 x.2) (Nm.d9 x.1.high) then 17 else 0
theorem b3U (a:Am) (q:List Nm.Rt):a2h a q=if a4n a q.length ≠ 0 then a4n a q.length else I4 a6b (a.links.zip q):=by
 unfold a2h a4n
 by_cases h:J2 a=0
 ·rw [if_neg (by simp [h])]
  by_cases h2:q.length=a.links.length
  ·simp [h,h2];rfl
  ·have h3:¬ (q.length:Int)=a.links.length:=by omega
   simp [h,h2,h3]
 ·simp [h]
theorem N7 {α β:Type} {l:List α} {m:List β} {i:Nat} {x:α} {y:β} (h:l[i]?=some x) (k:m[i]?=some y):(l.zip m)[i]?=some (x,y):=by
 rw [List.getElem?_zip_eq_some];exact ⟨h,k⟩
theorem c5r (a:Am) (q:List Nm.Rt) (hl:Ab 1073741824 a) (hq:Rbs 1073741824 q):FZ 119 [a.c,rts q] (ints (a2h a q)):=by
 refine kW Tryz.func119 (by cbv) (by rfl) fun w O hw=>?_
 have h:=b9W a q.length hl
 rw [b3U]
 have hlen:a4n a q.length=0->q.length=a.links.length:=by
  unfold a4n
  intro h
  split at h
  ·rename_i h1;exact absurd h h1
  ·split at h
   ·cases h
   ·rename_i h1;have:=Classical.not_not.1 h1;omega
 generalize a4n a q.length=e at *
 obtain ⟨hqn,hqb⟩:=hq
 obtain ⟨name,⟨x,y,half,t⟩,links⟩:=a
 obtain ⟨b0,⟨b1,b2,b3⟩,hn,hb⟩:=hl
 simp only at b0 b1 b2 b3 hn hb hlen
 simp only [j5,TT,II,OA,OB,OC,MM,LL,VV,FF,MG,LG,FG]
 simp only [Am.c,Am.enc,lks,sb,ints,rts] at *
 (repeat first|refine uA ?_|(refine uK ?_ ?_;focus first|omega|(intros;simp_all<;>omega))|simp (disch:=omega) only [go_sem,Nat.reduceBEq,Nat.reduceAdd,c6U]|(refine uD h ?_ ?_ ?_;exact tz hw;exact rfl))
 refine S.cond rfl (fun hc=>?_) (fun hc=>?_)
 ·rw [if_pos (by simpa using hc)]
  (repeat first|refine uA ?_|(refine uK ?_ ?_;focus first|omega|(intros;simp_all<;>omega))|simp (disch:=omega) only [go_sem,Nat.reduceBEq])
  exact S.done (j3.out rfl (Imp.refl rfl) rfl)
 rw [if_neg (by simpa using hc)]
 have hlen:=hlen (by simpa using hc)
 (repeat first|refine uA ?_|(refine uK ?_ ?_;focus first|omega|(intros;simp_all<;>omega))|simp (disch:=omega) only [go_sem,Nat.reduceBEq,Nat.reduceAdd,c6U])
 refine S.loop (X:=Nat) (fun i=>⟨[(1,rts q),(16,lks links),(17,ints links.length),(18,ints i)],[]⟩) (fun i=>i<=links.length/\I4 a6b (links.zip q)=I4 a6b ((links.zip q).drop i)) (fun i=>links.length-i) 0 ⟨c6Z _,rfl⟩ (by (repeat first|refine uA ?_|(refine ⟨?_,?_⟩;focus first|rfl|simp [slot])|rfl|simp)) ?_
 rintro i ⟨hi,hg⟩
 simp only [rts,lks,ints]
 (repeat first|refine uA ?_|(refine uK ?_ ?_;focus first|omega|(intros;simp_all<;>omega))|simp (disch:=omega) only [go_sem,Nat.reduceBEq])
 (refine uJ rfl (fun hc=>?_) fun hc=>?_)
 ·have hi':i < links.length:=by omega
  have hgi:=c6T hi'
  have hgq:=c6T (show i < q.length by omega)
  generalize links[i]=x at hgi
  generalize q[i]'_=v at hgq
  have hz:=N7 hgi hgq
  have hst:=a1Z (f:=a6b) hz
  have hnx:=a2a (f:=a6b) hz
  have bx:=hb x (c6W hgi)
  have bv:=(hqb v (c6W hgq)).mono (m:=17179869184) (by decide)
  have h1:=K8 v x.low bv (bx.2.1.mono (by decide))
  have h2:=K8 v x.high bv (bx.2.2.1.mono (by decide))
  unfold a6b at hst hnx
  simp only at hst hnx
  generalize Nm.q9 (Nm.d9 v) (Nm.d9 x.low)=n1 at *
  generalize Nm.q9 (Nm.d9 v) (Nm.d9 x.high)=n2 at *
  have hqi:(i:Int) < q.length:=by omega
  simp only [rc,sb,ints] at h1 h2
  (repeat first|refine uA ?_|(refine uK ?_ ?_;focus first|omega|(intros;simp_all<;>omega))|simp (disch:=omega) only [go_sem,Nat.reduceBEq,Nat.reduceAdd,hgi,hgq,c6V,c6U,Lk.enc,rcs,vts,sb,c7a]|(refine uD h1 ?_ ?_ ?_;exact tz hw;exact rfl)|(refine uD h2 ?_ ?_ ?_;exact tz hw;exact rfl))
  refine S.cond rfl (fun hc2=>?_) (fun hc2=>?_)
  ·have hp:n1 < 0 \/ 0 < n2:=by simpa using hc2
   rw [if_pos hp] at hst
   rw [hg,show a6b=fun x:Lk × Nm.Rt=>if Nm.q9 (Nm.d9 x.2) (Nm.d9 x.1.low) < 0 \/ 0 < Nm.q9 (Nm.d9 x.2) (Nm.d9 x.1.high) then 17 else 0 from rfl,hst (by decide)]
   (repeat first|refine uA ?_|(refine uK ?_ ?_;focus first|omega|(intros;simp_all<;>omega))|simp (disch:=omega) only [go_sem])
   exact S.done (j3.out rfl (Imp.refl rfl) rfl)
  ·have hp:¬ (n1 < 0 \/ 0 < n2):=by simpa using hc2
   rw [if_neg hp] at hnx
   (repeat first|refine uA ?_|(refine uK ?_ ?_;focus first|omega|(intros;simp_all<;>omega))|simp (disch:=omega) only [go_sem,Nat.reduceBEq,ww])
   refine S.next (i+1) ⟨by omega,?_⟩ (by omega) (by (repeat first|refine uA ?_|(refine ⟨?_,?_⟩;focus first|rfl|simp [slot])|rfl|simp))
   rw [hg,show a6b=fun x:Lk × Nm.Rt=>if Nm.q9 (Nm.d9 x.2) (Nm.d9 x.1.low) < 0 \/ 0 < Nm.q9 (Nm.d9 x.2) (Nm.d9 x.1.high) then 17 else 0 from rfl,hnx rfl]
 ·rw [hg,a2S (by rw [List.length_zip];omega)]
  (repeat first|refine uA ?_|(refine uK ?_ ?_;focus first|omega|(intros;simp_all<;>omega))|simp (disch:=omega) only [go_sem])
  exact S.done (j3.out rfl (Imp.refl rfl) rfl)
set_option maxRecDepth 100000
set_option maxHeartbeats 4000000
theorem U9 {a:Nm.Rt} (h:l6 a=true):Rb 3 a:=by
 unfold l6 at h
 simp only [c7c,c7h] at h
 exact ⟨h.1.1.1.1,by have:=h.1.1.1.2;omega⟩
theorem I8 {a:Nm.Rt} (h:l6 a=true):Rb 1048576 a:=(U9 h).mono (by decide)
theorem b3a {α:Type} {f:α->Int}:∀ {l:List α},I4 f l=0->∀ x ∈ l,f x=0
 | [],_,x,hx=>by cases hx
 | y::l,h,x,hx=>by
  rw [I4] at h
  split at h
  ·rename_i h0
   rcases List.mem_cons.1 hx with rfl|hx
   ·exact h0
   ·exact b3a h x hx
  ·rename_i h0;exact absurd h h0
theorem b2N {l:List Vt} (h:L6 l 8=0):l.length<=8:=by
 unfold L6 at h
 split at h
 ·cases h
 ·omega
theorem b2D {l:List Vt} (h:K6 l=0):Vbs 1048576 l:=by
 have hl:=b2N (a6a h)
 unfold K6 at h
 rw [a6a h,if_neg (by decide)] at h
 split at h
 ·rename_i ha
  rw [List.all_eq_true] at ha
  refine ⟨by omega,fun v hv=>?_⟩
  have:=ha v hv
  unfold okV at this
  simp only [c7c] at this
  exact ⟨I8 this.1.2,I8 this.2⟩
 ·cases h
theorem a4B {l:Lk} (h:O7 l=0):Lb 1048576 l/\Nm.q9 (Nm.d9 l.low) (Nm.d9 l.high) < 0/\0 < E9 (Nm.d9 l.speed):=by
 unfold O7 at h
 split at h
 ·cases h
 rename_i h1
 split at h
 ·cases h
 rename_i h2
 split at h
 ·rename_i h3;exact absurd h h3
 rename_i h3
 split at h
 ·rename_i h4
  have h1a:(l6 l.length && l6 l.low && l6 l.high && l6 l.speed && l6 l.brake)=true:=by
   cases hb:(l6 l.length && l6 l.low && l6 l.high && l6 l.speed && l6 l.brake) with
   | true=>rfl
   | false=>exact absurd (.inl hb) h1
  simp only [c7c] at h1a
  obtain ⟨⟨⟨⟨s1,s2⟩,s3⟩,s4⟩,s5⟩:=h1a
  have hpe:=b2N (Classical.not_not.1 h3)
  rw [List.all_eq_true] at h4
  refine ⟨⟨I8 s1,I8 s2,I8 s3,I8 s4,I8 s5,by omega,fun v hv=>?_⟩,?_,?_⟩
  ·have:=h4 v hv
   simp only [c7c] at this
   exact ⟨I8 this.1,I8 this.2⟩
  ·have:¬ 0<=Nm.q9 (Nm.d9 l.low) (Nm.d9 l.high):=fun h=>h1 (.inr (.inr h))
   omega
  ·have:¬ E9 (Nm.d9 l.speed)<=0:=fun h=>h2 (.inl h)
   omega
 ·cases h
theorem O8 {a:Am} (h:J2 a=0):Ab 1048576 a/\∀ l ∈ a.links,O7 l=0:=by
 unfold J2 at h
 split at h
 ·cases h
 rename_i h1
 split at h
 ·cases h
 split at h
 ·cases h
 rename_i h2 h3
 have hn:a.name.length<=12:=by
  have:a1Q a.name=true:=by simpa using h1
  unfold a1Q at this
  simp only [c7c,c7h] at this
  exact this.2
 have h3a:(l6 a.base.x && l6 a.base.y && l6 a.base.t)=true:=by
  cases hb:(l6 a.base.x && l6 a.base.y && l6 a.base.t) with
  | true=>rfl
  | false=>exact absurd (.inr (.inl hb)) h3
 simp only [c7c] at h3a
 have hl:=b3a h
 exact ⟨⟨by omega,⟨I8 h3a.1.1,I8 h3a.1.2,I8 h3a.2⟩,by omega,fun l hl'=>(a4B (hl l hl')).1⟩,hl⟩
theorem a8y {f:Fr} (h:okF f=true):Fb 1048576 f/\a1P f=true:=by
 unfold okF okV at h
 simp only [c7c,c7h] at h
 obtain ⟨⟨⟨⟨⟨⟨g1,g2⟩,s1⟩,s2⟩,g3⟩,s3⟩,z⟩:=h
 refine ⟨⟨I8 s1,I8 s2,I8 s3⟩,?_⟩
 unfold a1P M4
 simp [g1,g2,g3,z]
theorem c0z {n:Nat}:(a5o n).length<=5/\(a4u n).length<=4/\(a5O n).length<=6:=by
 refine ⟨?_,?_,?_⟩
 ·unfold a5o
  match n with
  | 0|1|2|3=>decide
  | n+4=>simp
 ·unfold a4u
  match n with
  | 0|1=>decide
  | n+2=>simp
 ·unfold a5O
  match n with
  | 0|1|2=>decide
  | n+3=>simp
theorem b2u:∀ (c n:Nat) (l:List Int),∀ p ∈ a0G c n l,p.name.length<=4
 | 0,_,_,p,hp=>by cases hp
 | c+1,n,l,p,hp=>by
  rcases List.mem_cons.1 hp with rfl|hp
  ·exact c0z.2.1
  ·exact b2u c _ _ p hp
theorem b2j:∀ (c n:Nat) (l:List Int),∀ p ∈ a0H c n l,p.name.length<=6
 | 0,_,_,p,hp=>by cases hp
 | c+1,n,l,p,hp=>by
  rcases List.mem_cons.1 hp with rfl|hp
  ·exact c0z.2.2
  ·exact b2j c _ _ p hp
theorem b3c:∀ (c:Nat) (l:List Int),∀ p ∈ a0I c l,p.name.length<=4
 | 0,_,p,hp=>by cases hp
 | c+1,l,p,hp=>by
  rcases List.mem_cons.1 hp with rfl|hp
  ·exact (by decide:([100,111,111,114]:List UInt8).length<=4)
  ·exact b3c c _ p hp
theorem Fb.mono {k m:Nat} {f:Fr} (h:Fb k f) (hm:k<=m):Fb m f:=⟨h.1.mono hm,h.2.1.mono hm,h.2.2.mono hm⟩
theorem Vbs.mono {k m:Nat} {l:List Vt} (h:Vbs k l) (hm:k<=m):Vbs m l:=⟨c6X h.1 hm,fun v hv=>⟨(h.2 v hv).1.mono hm,(h.2 v hv).2.mono hm⟩⟩
theorem Ab.mono {k m:Nat} {a:Am} (h:Ab k a) (hm:k<=m):Ab m a:=⟨c6X h.1 hm,h.2.1.mono hm,c6X h.2.2.1 hm,fun l hl=>by
 obtain ⟨h1,h2,h3,h4,h5,h6⟩:=h.2.2.2 l hl
 exact ⟨h1.mono hm,h2.mono hm,h3.mono hm,h4.mono hm,h5.mono hm,h6.mono hm⟩⟩
theorem Wb.mono {k m:Nat} {w:Wk} (h:Wb k w) (hm:k<=m):Wb m w:=
  ⟨⟨c6X h.arms.1 hm,fun x hx=>(h.arms.2 x hx).mono hm⟩,⟨c6X h.walls.1 hm,fun x hx=>(h.walls.2 x hx).mono hm⟩,⟨c6X h.parts.1 hm,fun x hx=>⟨c6X (h.parts.2 x hx).1 hm,(h.parts.2 x hx).2.1.mono hm,(h.parts.2 x hx).2.2.mono hm⟩⟩,
   ⟨c6X h.slots.1 hm,fun x hx=>⟨c6X (h.slots.2 x hx).1 hm,(h.slots.2 x hx).2.1.mono hm,(h.slots.2 x hx).2.2.mono hm⟩⟩,⟨c6X h.gates.1 hm,fun x hx=>⟨c6X (h.gates.2 x hx).1 hm,⟨(h.gates.2 x hx).2.1.1.mono hm,(h.gates.2 x hx).2.1.2.mono hm⟩,(h.gates.2 x hx).2.2.1.mono hm,(h.gates.2 x hx).2.2.2.mono hm⟩⟩,h.walk.mono hm⟩
theorem Stb.mono {k m:Nat} {s:Stt} (h:Stb k s) (hm:k<=m):Stb m s:=
 ⟨⟨c6X h.arms.1 hm,fun x hx=>⟨⟨c6X (h.arms.2 x hx).1.1 hm,fun r hr=>((h.arms.2 x hx).1.2 r hr).mono hm⟩,c6X (h.arms.2 x hx).2.1 hm,fun r hr=>((h.arms.2 x hx).2.2 r hr).mono hm⟩⟩,⟨c6X h.parts.1 hm,fun x hx=>(h.parts.2 x hx).mono hm⟩,h.people.mono hm,c6X h.gates hm⟩
theorem a9H (l:List Int):Wb 1048576 (u7 l):=by
 obtain ⟨c1,c2,c3,c4,c5⟩:=counts l
 have x1:=a7m (nA l) 0 (l.drop 1) (by omega)
 have x2:=a5D (nW l) ((l1 l).drop 1)
 have x3:=a7Z (nP l) 0 ((l2 l).drop 1)
 have x4:=a5P (nS l) 0 ((l3 l).drop 1)
 have x5:=a7K (nG l) ((l4 l).drop 1)
 have a1:=l9 (l5 l) (n:=4) (by decide)
 have a2:=A8 (l5 l) (n:=4) (by decide)
 refine ⟨⟨?_,fun x hx=>(O8 (x1 x hx)).1⟩,⟨?_,fun x hx=>b2D (x2.1 x hx).1⟩,⟨?_,fun x hx=>?_⟩,⟨?_,fun x hx=>?_⟩,⟨?_,fun x hx=>?_⟩,?_⟩
 ·show (a1m _ _ _).length<=_
  rw [a8g];omega
 ·show (a2e _ _).length<=_
  rw [x2.2];omega
 ·show (a0G _ _ _).length<=_
  rw [x3.2.1];omega
 ·obtain ⟨⟨h1,h2⟩,h3⟩:=x3.1 x hx
  have:=b2u _ _ _ x hx
  exact ⟨by omega,b2D h1,(a8y h2).1⟩
 ·show (a0H _ _ _).length<=_
  rw [x4.2.1];omega
 ·have h:=x4.1 x hx
  simp only [c7c] at h
  have:=b2j _ _ _ x hx
  exact ⟨by omega,(a8y h.1.1.1).1,I8 h.1.2⟩
 ·show (a0I _ _).length<=_
  rw [x5.2.1];omega
 ·have h:=x5.1 x hx
  simp only [c7c] at h
  have:=b3c _ _ x hx
  obtain ⟨⟨⟨h1,h2⟩,_⟩,_⟩:=h
  unfold okV at h1 h2
  simp only [c7c] at h1 h2
  exact ⟨by omega,⟨I8 h1.1.2,I8 h1.2⟩,I8 h2.1.2,I8 h2.2⟩
 ·exact I8 (R9 _ _ (by omega) (by decide))
theorem b8X (l:List Int):Wb 1073741824 (u7 l):=(a9H l).mono (by decide)
theorem a6r {α β:Type} {f:α->β}:∀ {l:List α} {x:α × β},x ∈ l.zip (l.map f)->x.1 ∈ l/\x.2=f x.1
 | [],x,h=>by simp at h
 | a::l,x,h=>by
  simp only [c7i,List.zip_cons_cons] at h
  rcases List.mem_cons.1 h with rfl|h
  ·exact ⟨List.mem_cons_self ..,rfl⟩
  ·exact ⟨List.mem_cons_of_mem _ (a6r h).1,(a6r h).2⟩
theorem a3y (p q:Rat):Nm.q9 p q < 0 <-> p < q:=by
 unfold Nm.q9
 split
 ·simp_all
 ·split
  ·simp_all
  ·simp_all
theorem a3t (p q:Rat):0 < Nm.q9 p q <-> q < p:=by
 unfold Nm.q9
 split
 ·rename_i h;simp;grind
 ·split
  ·rename_i h1 h2;simp;grind
  ·rename_i h1 h2;simp;grind
theorem c0s {l:Lk} (h:O7 l=0):a6b (l,a0C l)=0:=by
 have hc:=(a3y _ _).1 (a4B h).2.1
 unfold a6b a0C
 simp only [Nm.p9]
 rw [if_neg]
 rw [a3y,a3t]
 unfold G9 G7
 have e1:∀ p q:Rat,(Nm.q9 p q >= 0) <-> ¬ p < q:=fun p q=>by rw [<- a3y];omega
 have e2:∀ p q:Rat,(Nm.q9 p q<=0) <-> ¬ q < p:=fun p q=>by rw [<- a3t];omega
 simp only [e1,e2]
 repeat' split
 all_goals grind
theorem a9k {l:Lk} (h:O7 l=0):a1G (l,Nm.ofQ 0)=0:=by
 have hs:=(a4B h).2.2
 unfold a1G
 simp only [Nm.p9]
 rw [if_neg]
 have h0:E5 0=0:=rfl
 rw [h0,a3t]
 have hn:0 < (Nm.d9 l.speed).num:=by
  unfold E9 at hs
  split at hs
  ·omega
  ·split at hs<;>omega
 intro hlt
 have:=(Rat.lt_iff _ _).1 hlt
 simp at this
 omega
theorem b9S {a:Am} (h:J2 a=0) (n:Nat):a1g a (R3 a) n=0:=by
 have hl:=(O8 h).2
 unfold a1g R3
 simp only
 have g1:(a.links.map a0C).all M4=true:=by
  rw [List.all_eq_true]
  intro x hx
  obtain ⟨l,_,rfl⟩:=List.mem_map.1 hx
  exact decide_eq_true (Nm.a0E _)
 have g2:(a.links.map fun _=>Nm.ofQ 0).all M4=true:=by
  rw [List.all_eq_true]
  intro x hx
  obtain ⟨l,_,rfl⟩:=List.mem_map.1 hx
  exact decide_eq_true (Nm.a0E _)
 have hf:a2h a (a.links.map a0C)=0:=by
  rw [b3U]
  have:a4n a (a.links.map a0C).length=0:=by
   unfold a4n
   rw [h,if_neg (by decide),c6U,if_neg (by simp)]
  rw [this,if_neg (by decide)]
  refine a1O fun x hx=>?_
  obtain ⟨h1,h2⟩:=a6r hx
  obtain ⟨x1,x2⟩:=x
  simp only at h1 h2
  rw [h2]
  exact c0s (hl x1 h1)
 rw [g1,g2,if_neg (by decide),hf,if_neg (by decide),if_neg (by simp;omega)]
 refine a1O fun x hx=>?_
 obtain ⟨h1,h2⟩:=a6r hx
 obtain ⟨x1,x2⟩:=x
 simp only at h1 h2
 rw [h2]
 exact a9k (hl x1 h1)
theorem a9g (n:Nat):∀ (l:List Am) (h:List Int),(∀ a ∈ l,J2 a=0)->(x9 (W9 n) h (l.zip (l.map R3))).1=0
 | [],_,_=>rfl
 | a::l,h,ha=>by
  have e:W9 n h (a,R3 a)=(0,a8N h (-1)):=by
   unfold W9
   simp only
   rw [b9S (ha a (by simp)) n,if_neg (by decide),if_neg (by simp [R3])]
   rfl
  simp only [c7i,List.zip_cons_cons,x9,e]
  exact a9g n l _ fun x hx=>ha x (by simp [hx])
theorem a6P {w:Wk} (h:a0c w=0) (ha:∀ a ∈ w.arms,J2 a=0) (hs:∀ s ∈ w.slots,okF s.frame=true):P7 w (D8 w)=0:=by
 unfold P7
 have l1:(D8 w).arms.length=w.arms.length:=by simp [D8]
 have l2:(D8 w).parts.length=w.parts.length:=by simp [D8]
 have l3:(D8 w).gates.length=w.gates.length:=by simp [D8]
 have l4:(D8 w).people=[]:=rfl
 have l5:(D8 w).tick=0:=rfl
 have hh:(x9 (W9 w.parts.length) [] (w.arms.zip (D8 w).arms)).1=0:=a9g _ w.arms [] ha
 have hp:(D8 w).parts.all a1P=true:=by
  rw [List.all_eq_true]
  intro f hf
  obtain ⟨i,_,rfl⟩:=List.mem_map.1 hf
  unfold a8b
  split
  ·exact (a8y (hs _ (c7k _))).2
  ·unfold a4r a1P M4 a5v
   simp [Nm.a0E]
 rw [h,if_neg (by decide),l4,if_neg (by decide),l1,l2,l3,l5,if_neg (by simp),hh,if_neg (by decide),hp]
 rfl
theorem a4J:Rb 1048576 (Nm.ofQ 0):=⟨c6X (Nm.F3 (k:=8) (by decide)) (by decide),c6X (Nm.F3 (k:=8) (by decide)) (by decide)⟩
theorem b5t {k:Nat} (hk:1048576<=k) {w:Wk} (hw:Wb k w) (ha:∀ a ∈ w.arms,J2 a=0) (hs:∀ s ∈ w.slots,okF s.frame=true):Stb k (D8 w):=by
 refine ⟨⟨?_,fun x hx=>?_⟩,⟨?_,fun x hx=>?_⟩,⟨c6Z _,fun v hv=>by cases hv⟩,?_⟩
 ·show (w.arms.map R3).length<=_
  rw [c6U];exact hw.arms.1
 ·obtain ⟨a,haa,rfl⟩:=List.mem_map.1 hx
  have hab:=hw.arms.2 a haa
  refine ⟨⟨?_,fun r hr=>?_⟩,?_,fun r hr=>?_⟩
  ·show (a.links.map a0C).length<=_
   rw [c6U];exact hab.2.2.1
  ·obtain ⟨l,hl,rfl⟩:=List.mem_map.1 hr
   have hlb:=hab.2.2.2 l hl
   unfold a0C G9 G7
   repeat' split
   all_goals first|exact hlb.2.1.fit (by omega)|exact hlb.2.2.1.fit (by omega)|exact a4J.mono hk
  ·show (a.links.map fun _=>Nm.ofQ 0).length<=_
   rw [c6U];exact hab.2.2.1
  ·obtain ⟨l,hl,rfl⟩:=List.mem_map.1 hr
   exact a4J.mono hk
 ·show ((List.range _).map _).length<=_
  simp;exact hw.parts.1
 ·obtain ⟨i,_,rfl⟩:=List.mem_map.1 hx
  unfold a8b
  split
  ·exact (a8y (hs _ (c7k _))).1.mono hk
  ·exact ⟨a4J.mono hk,a4J.mono hk,a4J.mono hk⟩
 ·show (List.replicate _ _).length<=_
  rw [List.length_replicate];exact hw.gates.1
theorem c0f {w:Wk} (hw:Wb 1073741824 w) (ha:∀ a ∈ w.arms,J2 a=0) (hs:∀ s ∈ w.slots,okF s.frame=true):Stb 1073741824 (D8 w):=b5t (by decide) hw ha hs
theorem a3N (l:List Int):(∀ a ∈ (u7 l).arms,J2 a=0)/\∀ s ∈ (u7 l).slots,okF s.frame=true:=by
 obtain ⟨c1,c2,c3,c4,c5⟩:=counts l
 refine ⟨a7m (nA l) 0 (l.drop 1) (by omega),fun s hs=>?_⟩
 have h:=(a5P (nS l) 0 ((l3 l).drop 1)).1 s hs
 simp only [c7c] at h
 exact h.1.1.1
def a2m (a b:Nm.Rt):Nm.Rt:=Nm.ofQ (Nm.d9 a+Nm.d9 b)
def b0D (b v:Nm.Rt):Nm.Rt:=if Nm.q9 (E5 (Nm.d9 v)) (Nm.d9 b)<=0 then Nm.ofQ 0 else if E9 (Nm.d9 v) < 0 then a2m v b else Nm.ofQ (Nm.d9 v-Nm.d9 b)
def c4I (a:Am) (x:Ast):List Nm.Rt:=(a.links.zip x.v).map fun p=>b0D p.1.brake p.2
def c6G (a:Am) (x:Ast):List Nm.Rt:=(x.q.zip (c4I a x)).map fun p=>a2m p.1 p.2
def c6H (a:Am) (x:Ast):Ast:=⟨c6G a x,c4I a x,false,x.holds⟩
def mvQ (x:Ast) (u:List Nm.Rt):List Nm.Rt:=(x.q.zip u).map fun p=>a2m p.1 p.2
def mvA (x:Ast) (u:List Nm.Rt):Ast:=⟨mvQ x u,u,true,x.holds⟩
def c6E (x:Lk × Nm.Rt × Nm.Rt):Bool:=!(decide (0 < Nm.q9 (E5 (Nm.d9 x.2.2)) (Nm.d9 x.1.speed)) || decide (0 < Nm.q9 (Nm.d9 x.1.low) (Nm.d9 x.2.1+Nm.d9 x.2.2)) || decide (0 < Nm.q9 (Nm.d9 x.2.1+Nm.d9 x.2.2) (Nm.d9 x.1.high)))
def c6O (a:Am) (q u:List Nm.Rt):Bool:=decide (u.length=a.links.length) && (u.all M4 && (a.links.zip (q.zip u)).all c6E)
def c6w (a:Am) (x:Ast) (u:List Nm.Rt) (p:Bool):Ast:=if p && c6O a x.q u then mvA x u else c6H a x
def b8k (a b:Fr):Fr:=⟨Nm.ofQ (c4L a ⟨b.x,b.y⟩),Nm.ofQ (c5d a ⟨b.x,b.y⟩),(c2F a.half (J8 a.half a.t) b.half (J8 b.half b.t)).1,Nm.ofQ (c2F a.half (J8 a.half a.t) b.half (J8 b.half b.t)).2⟩
def c4E (q:Nm.Rt):Fr:=⟨Nm.ofQ 0,Nm.ofQ 0,false,Nm.ofQ (Nm.d9 q)⟩
def c6a (l:Lk):Fr:=⟨l.length,Nm.ofQ 0,false,Nm.ofQ 0⟩
def c4w:Fr->List (Lk × Nm.Rt)->Fr
 | e,[]=>e
 | e,(l,q)::r=>c4w (b8k (b8k e (c4E q)) (c6a l)) r
def c5U (f:Fr):Fr:=⟨Nm.ofQ (Nm.d9 (Nm.ofQ (0-Nm.d9 f.x))*a2q f.half (J8 f.half (Nm.ofQ (- J8 f.half f.t)))-Nm.d9 (Nm.ofQ (0-Nm.d9 f.y))*Y9 (J8 f.half (Nm.ofQ (- J8 f.half f.t)))),Nm.ofQ (Nm.d9 (Nm.ofQ (0-Nm.d9 f.x))*Y9 (J8 f.half (Nm.ofQ (- J8 f.half f.t)))+Nm.d9 (Nm.ofQ (0-Nm.d9 f.y))*a2q f.half (J8 f.half (Nm.ofQ (- J8 f.half f.t)))),f.half,Nm.ofQ (- J8 f.half f.t)⟩
def c6c (a:Am) (q:List Nm.Rt) (g:Fr):Fr:=b8k (c4w a.base (a.links.zip q)) (c5U g)
def c5n (w:Wk) (s:Stt) (u:List (List Nm.Rt)) (p:List Bool):List Ast:=((w.arms.zip s.arms).zip (u.zip p)).map fun z=>c6w z.1.1 z.1.2 z.2.1 z.2.2
def c6z (w:Wk) (P:List Fr) (z:Am × Ast):List Fr:=
 if z.2.holds < 0 then P else match w.parts[z.2.holds.toNat]? with
  | some pt=>P.set z.2.holds.toNat (c6c z.1 z.2.q pt.grasp)
  | none=>P
def c6k (k:Nm.Rt) (v:Vt):Bool:=a3e v && !decide (0 < Nm.q9 (G9 (E5 (Nm.d9 v.x)) (E5 (Nm.d9 v.y))) (Nm.d9 k))
def c6P (p:Vt × Vt):Vt:=⟨a2m p.1.x p.2.x,a2m p.1.y p.2.y⟩
def c5V (w:Wk) (s:Stt) (u:List (List Nm.Rt)) (p:List Bool) (v:List Vt):Int:=
 if P7 w s ≠ 0 then P7 w s else
 if u.length ≠ w.arms.length \/ p.length ≠ w.arms.length \/ v.length ≠ s.people.length then 1 else
 if v.all (c6k w.walk)=false then 1 else
 if s.tick=2000 then 7 else 0
def c6h (w:Wk) (s:Stt) (u:List (List Nm.Rt)) (p:List Bool) (v:List Vt):Stt:=
 ⟨s.tick+1,c5n w s u p,(w.arms.zip (c5n w s u p)).foldl (c6z w) s.parts,(s.people.zip v).map c6P,s.gates⟩
theorem b5z {n:Nat}:∀ {l:List (Am × Ast)} {h:List Int},(x9 (W9 n) h l).1=0->∀ z ∈ l,a1g z.1 z.2 n=0
 | [],_,_,z,hz=>by cases hz
 | y::l,h,e,z,hz=>by
  have hy:(W9 n h y).1=0:=by
   unfold x9 at e
   split at e
   ·assumption
   ·exact e
  unfold x9 at e
  rw [if_pos hy] at e
  rcases List.mem_cons.1 hz with rfl|hz
  ·unfold W9 at hy
   split at hy
   ·exact hy
   ·exact Classical.not_not.1 (by assumption)
  ·exact b5z e z hz
structure c6B (w:Wk) (s:Stt):Prop where
 works:a0c w=0
 people:s.people.length<=4
 tick:0<=s.tick/\s.tick<=2000
 arms:s.arms.length=w.arms.length
 parts:s.parts.length=w.parts.length
 gates:s.gates.length=w.gates.length
 one:∀ z ∈ w.arms.zip s.arms,a1g z.1 z.2 w.parts.length=0
 big:1<=w.arms.length/\w.arms.length<=4/\w.parts.length<=6/\w.gates.length<=4
theorem a2x {w:Wk} {s:Stt} (h:P7 w s=0):c6B w s:=by
 unfold P7 at h
 split at h
 ·rename_i h1;exact absurd h h1
 rename_i h1
 split at h
 ·cases h
 split at h
 ·cases h
 split at h
 ·rename_i h2;exact absurd h h2
 rename_i h2 h3 h4
 have h1:=Classical.not_not.1 h1
 have hb:=h1
 unfold a0c at hb
 split at hb
 ·cases hb
 split at hb
 ·cases hb
 exact ⟨h1,by omega,by omega,by omega,by omega,by omega,b5z (Classical.not_not.1 h4),by omega⟩
structure c5O (a:Am) (x:Ast) (n:Nat):Prop where
 arm:J2 a=0
 q:x.q.length=a.links.length
 v:x.v.length=a.links.length
 holds:-1<=x.holds/\x.holds < n
theorem b0L {a:Am} {x:Ast} {n:Nat} (h:a1g a x n=0):c5O a x n:=by
 unfold a1g at h
 split at h
 ·cases h
 split at h
 ·rename_i h1;exact absurd h h1
 rename_i h1
 split at h
 ·cases h
 have h2:=Classical.not_not.1 h1
 unfold a2h at h2
 split at h2
 ·rename_i h3;exact absurd h2 h3
 rename_i h3
 split at h2
 ·cases h2
 exact ⟨Classical.not_not.1 h3,by omega,by omega,by omega⟩
theorem Z0 {a:Am} (h:J2 a=0):1<=a.links.length/\a.links.length<=3:=by
 unfold J2 at h
 split at h
 ·cases h
 split at h
 ·cases h
 split at h
 ·cases h
 ·omega
theorem c4Z {a:Am} {n:Int} (h:J2 a=0) (hn:n=a.links.length):a4n a n=0:=by
 unfold a4n
 rw [if_neg (by simp [h]),if_neg (by simp [hn])]
theorem b0S {l:Lk} (h:O7 l=0):0 < E9 (Nm.d9 l.brake):=by
 unfold O7 at h
 split at h
 ·cases h
 split at h
 ·cases h
 ·omega
theorem a7O (q:Rat):(E9 q=-1/\q < 0) \/ (E9 q=0/\q=0) \/ (E9 q=1/\0 < q):=by
 have h1:=@Rat.num_nonneg q
 have h2:=@Rat.num_eq_zero q
 unfold E9
 by_cases h0:q.num=0
 ·right;left;exact ⟨if_pos h0,h2.1 h0⟩
 rw [if_neg h0]
 by_cases hn:q.num < 0
 ·left
  refine ⟨if_pos hn,?_⟩
  rw [<- Rat.not_le,<- h1];omega
 ·right;right
  refine ⟨if_neg hn,?_⟩
  have h5:0<=q:=h1.1 (by omega)
  have h6:q ≠ 0:=fun e=>h0 (h2.2 e)
  grind
theorem b6D {α:Type} {l m:List α} {i:Nat} {y:α} (hl:l.length=m.length) (hy:l[i]?=some y):(l.take i++m.drop i).set i y=l.take (i+1)++m.drop (i+1):=by
 obtain ⟨hi,rfl⟩:=c6Y.1 hy
 have h1:(l.take i).length=i:=by rw [c7d];omega
 rw [List.set_append_right _ _ (by omega),h1,Nat.sub_self,List.drop_eq_getElem_cons (show i < m.length by omega),List.set_cons_zero,c7L hi,c7A]
 rfl
theorem b7h {α:Type} {l m:List α} {i:Nat} (hl:l.length=m.length) (hi:i<=m.length):(l.take i++m.drop i).length=m.length:=by
 simp only [c7e,c7d,c7E];omega
theorem mid_end {α:Type} {l m:List α} (hl:l.length=m.length):l.take m.length++m.drop m.length=l:=by
 rw [<- hl,c7l,hl,List.drop_length,List.append_nil]
set_option maxRecDepth 10000
set_option maxHeartbeats 8000000
theorem c0B (v:Vt) (hv:Vb 17179869184 v):FZ 172 [v.c] (.v (.bool (!okV v))):=by
 refine kW Tryz.func172 (by cbv) (by rfl) fun w O hw=>?_
 obtain ⟨x,y⟩:=v
 obtain ⟨b1,b2⟩:=hv
 simp only at b1 b2
 have h1:=a1A x (b1.mono (by decide))
 have h2:=a1A y (b2.mono (by decide))
 have h3:=a4E x b1
 have h4:=a4E y b2
 unfold okV
 simp only
 generalize decide x.H9=q1 at *
 generalize decide y.H9=q2 at *
 generalize l6 x=q3 at *
 generalize l6 y=q4 at *
 simp only [j5,TT,OA,OC,MM,LL,FF,LG,FG]
 simp only [Vt.c,Vt.enc,rc,sb] at *
 (repeat first|refine uA ?_|(apply uK;focus first|omega|(intros;simp_all<;>omega))|simp (disch:=omega) only [go_sem,Nat.reduceBEq,Nat.reduceAdd]|(apply uD h1;exact tz hw;rfl)|(apply uD h2;exact tz hw;rfl)|(apply uD h3;exact tz hw;rfl)|(apply uD h4;exact tz hw;rfl))
 have e:(!(q1 && q2 && q3 && q4))=(!q1 || !q2 || !q3 || !q4):=by cases q1<;>cases q2<;>cases q3<;>cases q4<;>rfl
 (try rw [e])
 exact S.done (j3.out rfl (Imp.refl rfl) rfl)
theorem a9C (l:List Vt) (hl:Vbs 17179869184 l):FZ 140 [vts l] (.v (.bool (l.all okV))):=by
 refine kW Tryz.func140 (by cbv) (by rfl) fun w O hw=>?_
 have h:=b5g 172 (by kernel_rfl) (fun v=>!okV v) l (by have:=hl.1;omega) (fun v hv=>c0B v (hl.2 v hv))
 have e:l.all okV=!l.any fun v=>!okV v:=by rw [List.not_any_eq_all_not];simp
 rw [e]
 generalize (l.any fun v=>!okV v)=q at *
 simp only [j5,TT,OA,MM]
 simp only [vts] at *
 (repeat first|refine uA ?_|(apply uK;focus omega)|simp (disch:=omega) only [go_sem,Nat.reduceBEq]|(apply uD h;exact tz hw;rfl))
 exact S.done (j3.out rfl (Imp.refl rfl) rfl)
theorem Vbs.one {k:Nat} {v:Vt} (h:1<=k) (h1:Vb k v):Vbs k [v]:=⟨h,fun x hx=>by simp at hx;subst hx;exact h1⟩
theorem Vbs.two {k:Nat} {v u:Vt} (h:2<=k) (h1:Vb k v) (h2:Vb k u):Vbs k [v,u]:=⟨h,fun x hx=>by simp at hx;rcases hx with rfl|rfl<;>assumption⟩
theorem b3E (f:Fr) (hf:Fb 17179869184 f):FZ 141 [f.c] (.v (.bool (okF f))):=by
 refine kW Tryz.func141 (by cbv) (by rfl) fun w O hw=>?_
 obtain ⟨x,y,half,t⟩:=f
 obtain ⟨b1,b2,b3⟩:=hf
 simp only at b1 b2 b3
 have h1:=a9C [⟨x,y⟩] (Vbs.one (by decide) ⟨b1,b2⟩)
 rw [List.all_cons,List.all_nil,Bool.and_true] at h1
 have h2:=a1A t (b3.mono (by decide))
 have h3:=a4E t b3
 have h4:=a0j t b3
 unfold okF a5v
 simp only
 generalize okV ⟨x,y⟩=q1 at *
 generalize decide t.H9=q2 at *
 generalize l6 t=q3 at *
 generalize E9 (Nm.d9 t)=n at *
 simp only [j5,TT,II,OA,OC,MM,LL,FF,MG,LG,VG,FG]
 simp only [Fr.c,Fr.enc,vts,Vt.enc,rc,sb,ints,c7i,c7q] at *
 (repeat first|refine uA ?_|(apply uK;focus first|omega|(intros;simp_all<;>omega))|simp (disch:=omega) only [go_sem,Nat.reduceBEq,Nat.reduceAdd]|(apply uD h2;exact tz hw;rfl)|(apply uD h3;exact tz hw;rfl)|(apply uD h4;exact tz hw;rfl)|(apply uE h1;exact tz hw;exact rfl;focus (repeat' first|exact j4.nil|exact Imp.refl rfl|exact Imp.frz rfl rfl rfl|(refine Imp.U3 rfl rfl ?_ ?_;(focus ((try simp only [c7e]);omega));(focus first|rfl|assumption))|refine j4.cons ?_ ?_);done))
 have e:(q1 && q2 && q3 && !(half && !decide (n=0)))=(q1 && q2 && q3 && (!half || decide (n=0))):=by cases q1<;>cases q2<;>cases q3<;>cases half<;>simp
 rw [e]
 exact S.done (j3.out rfl (Imp.refl (by rfl)) rfl)
theorem b5j (l:List Vt) (hl:Vbs 1073741824 l):FZ 88 [vts l] (ints (K6 l)):=by
 refine kW Tryz.func88 (by cbv) (by rfl) fun w O hw=>?_
 have h1:=a9p l hl
 have h2:=a9C l ⟨by have:=hl.1;omega,fun v hv=>(hl.2 v hv).mono (by decide)⟩
 unfold K6
 generalize L6 l 8=e at *
 generalize l.all okV=q at *
 simp only [j5,TT,II,OA,MM]
 simp only [vts,ints] at *
 (repeat first|refine uA ?_|(apply uK;focus omega)|simp (disch:=omega) only [go_sem,Nat.reduceBEq]|(apply uD h1;exact tz hw;rfl))
 refine S.cond rfl (fun hc=>?_) (fun hc=>?_)
 ·rw [if_pos (by simpa using hc)]
  (repeat first|refine uA ?_|(apply uK;focus omega)|simp (disch:=omega) only [go_sem,Nat.reduceBEq])
  exact S.done (j3.out rfl (Imp.refl rfl) rfl)
 rw [if_neg (by simpa using hc)]
 (repeat first|refine uA ?_|(apply uK;focus omega)|simp (disch:=omega) only [go_sem,Nat.reduceBEq]|(apply uD h2;exact tz hw;rfl))
 refine S.cond rfl (fun hc=>?_) (fun hc=>?_)
 ·rw [if_neg (by simpa using hc)]
  (repeat first|refine uA ?_|(apply uK;focus omega)|simp (disch:=omega) only [go_sem])
  exact S.done (j3.out rfl (Imp.refl rfl) rfl)
 ·rw [if_pos (by simpa using hc)]
  (repeat first|refine uA ?_|(apply uK;focus omega)|simp (disch:=omega) only [go_sem])
  exact S.done (j3.out rfl (Imp.refl rfl) rfl)
end Go.Proofs.YtgpegbfnlkidjaaGreatDoor
namespace Go.Proofs.YtgpegbfnlkidjaaGreatDoor.Eng
open Go Go.RowKit
theorem j6.ofT {E:Ctx} {eff:Nat->Bool} {f:Nat} {fn:Func} {ir:N9} (ht:Tz E) (hf:E.P.funcs[f]?=some fn) (hc:J5 eff E.P fn=some ir) {rs:List Res} {args:List C} {s:C} {rs':List Res} {pk:List Nat} (hn:args.length<=ir.ntmps)
  (h:∀ w own av ν,ν.length=rs.length->Tz ⟨E.P,eff,ir.ntmps,w,own,av,ν,pk⟩->S ⟨E.P,eff,ir.ntmps,w,own,av,ν,pk⟩ (Fin E.P ir.results (b7A ⟨E.P,eff,ir.ntmps,w,own,av,ν,pk⟩ rs' s)) ⟨j5 0 args,rs⟩ [.code ir.body]):j6 E rs f args s rs' pk:=by
 intro av ν w vs hR hav hF hD
 have hR':RG av (owned rs ν) w.heap.size ν rs w:=⟨hR.len,hR.res,hR.dis,fun b hb=>⟨(hR.low b hb).1,(hR.low b hb).2.1,.inl hb⟩,hR.av,c7b _⟩
 have ht':Tz ⟨E.P,eff,ir.ntmps,w,owned rs ν,av,ν,pk⟩:=⟨ht.at hF,fun ho=>by
  rcases (hR.low _ ho).2.2 with h1|h1
  ·exact ht.2 h1
  ·have:=c2p ht.1;omega⟩
 refine (b5e (E:=⟨E.P,eff,ir.ntmps,w,owned rs ν,av,ν,pk⟩) hf hc rfl rfl hR.av rs hR' args hD hn (h w (owned rs ν) av ν hR.len ht')).mono ?_
 rintro e w' ⟨y,rfl,ν',h1,h2,h3,h4⟩
 refine ⟨y,ν',rfl,⟨h1.len,h1.res,h1.dis,fun b hb=>?_,h1.av,c6X hR.n0 h2.size⟩,⟨h2.os,h2.tape,h2.output,h2.size,h2.block,fun b hb=>(h1.low b hb).2.2,h3⟩,h4⟩
 obtain ⟨g1,g2,g3⟩:=h1.low b hb
 refine ⟨g1,g2,?_⟩
 rcases g3 with g3|g3
 ·exact (hR.low b g3).2.2
 ·exact .inr (c6X hR.n0 g3)
def Res.shut:Res->Bool
 | .gone=>false
 | .box _ cs=>C.clL cs
 | .row _ _ _=>true
 | .map _ _=>true
theorem a6f {ν ν':List Value} {w:World} {O O':Nat->Prop} {x:Value} {r:Res} (hs:r.shut=true) (hO:∀ b,O' b->O b) (h:O5 ν w O x r):O5 ν' w O' x r:=by
 cases r with
 | gone=>cases hs
 | box t cs=>
  obtain ⟨b,vs,h1,h2,h3,h4⟩:=h
  exact ⟨b,vs,h1,(FzL.keep (Keeps.sub hO) (h2.fz hs)).den ν',h3,h4⟩
 | row e sz es=>exact a6z hO h
 | map s es=>exact h
theorem c3J {r r':Res} (hs:r.shut=true) (hs':r'.shut=true) {x:Value} {b:Nat} (h:fp r' x b):fp r x b:=by
 cases r<;>cases r'<;>first|exact False.elim h|exact h|(simp [Res.shut] at hs;done)|(simp [Res.shut] at hs';done)
def at0 (k:Nat):C->C
 | .mp 0=>.mp k
 | .bp 0 o=>.bp k o
 | .rv 0=>.rv k
 | .bnd f (.mp 0)=>.bnd f (.mp k)
 | c=>c
def okA:C->Bool
 | .mp 0=>true
 | .bp 0 _=>true
 | .rv 0=>true
 | .bnd _ (.mp 0)=>true
 | c=>c.cl
theorem c4b {ν:List Value} {w:World} {O O':Nat->Prop} {k:Nat} {x:Value} (hk:ν[k]?=some x) (hO:∀ b,O' b->O b) {c:C} {y:Value} (hc:okA c=true) (h:Den ν w O (at0 k c) y):Den [x] w O' c y:=by
 unfold okA at hc
 split at hc
 ·simp only [at0,Den] at h ⊢
  rw [hk] at h
  exact h
 ·simp only [at0,Den] at h ⊢
  rw [hk] at h
  exact h
 ·simp only [at0,Den] at h ⊢
  rw [hk] at h
  exact h
 ·simp only [at0,Den] at h ⊢
  rw [hk] at h
  exact h
 ·rename_i c0 h1 h2 h3 h4
  have e:at0 k c=c:=by
   cases c with
   | mp j=>cases j with
    | zero=>exact (h1 rfl).elim
    | succ j=>rfl
   | bp j o=>cases j with
    | zero=>exact (h2 _ rfl).elim
    | succ j=>rfl
   | rv j=>cases j with
    | zero=>exact (h3 rfl).elim
    | succ j=>rfl
   | bnd g d=>cases d with
    | mp j=>cases j with
     | zero=>exact (h4 _ rfl).elim
     | succ j=>rfl
    | _=>rfl
   | _=>rfl
  rw [e] at h
  exact (Fz.keep (Keeps.sub hO) (h.fz hc)).den _
theorem b5k {ν:List Value} {w:World} {O O':Nat->Prop} {k:Nat} {x:Value} (hk:ν[k]?=some x) (hO:∀ b,O' b->O b):∀ {cs:List C} {vs:List Value},cs.all okA=true->l7 ν w O (cs.map (at0 k)) vs->l7 [x] w O' cs vs
 | [],vs,_,h=>by simpa only [c7q,l7] using h
 | c::cs,vs,hc,h=>by
  simp only [c7i,l7,List.all_cons,c7c] at h hc ⊢
  obtain ⟨y,ys,e,h1,h2⟩:=h
  exact ⟨y,ys,e,c4b hk hO hc.1 h1,b5k hk hO hc.2 h2⟩
theorem j6.lift {E:Ctx} {rs:List Res} {k f:Nat} {args:List C} {s:C} {r r':Res} (hk:rs[k]?=some r) (h:j6 E [r] f args s [r'] []) (hs:(r.shut && r'.shut)=true) (ha:args.all okA=true) (hc:s.cl=true):j6 E rs f (args.map (at0 k)) s (rs.set k r') []:=by
 rw [c7c] at hs
 intro av ν w vs hR hav hF hD
 obtain ⟨x,hx,hok⟩:=hR.res k r hk
 have hown:∀ b,fp r x b->owned rs ν b:=fun b hb=>⟨k,r,x,hk,hx,hb⟩
 have ho1:∀ (q:Res) b,owned [q] [x] b <-> fp q x b:=fun q b=>by
  constructor
  ·rintro ⟨l,q',y,h1,h2,h3⟩
   cases l with
   | zero=>simp at h1 h2;subst h1 h2;exact h3
   | succ l=>simp at h1
  ·exact fun hb=>⟨0,q,x,rfl,rfl,hb⟩
 let av':Nat->Prop:=fun b=>OO av rs ν b/\¬ fp r x b
 have hOO:∀ b,OO av' [r] [x] b->OO av rs ν b:=fun b hb=>by
  rcases hb with hb|hb
  ·exact hb.1
  ·exact .inr (hown b ((ho1 r b).1 hb))
 have hRG:RG av' E.own0 E.w0.heap.size [x] [r] w:=by
  refine ⟨rfl,fun l q hq=>?_,fun l m q q' y y' b hne h1 h2=>?_,fun b hb=>?_,fun b hb=>?_,hR.n0⟩
  ·cases l with
   | zero=>simp at hq;subst hq;exact ⟨x,rfl,a6f hs.1 hOO hok⟩
   | succ l=>simp at hq
  ·have e1:l=0:=by have:=(c6Y.1 h1).1;simp at this;exact this
   have e2:m=0:=by have:=(c6Y.1 h2).1;simp at this;exact this
   omega
  ·have hb':=(ho1 r b).1 hb
   obtain ⟨g1,g2,g3⟩:=hR.low b (hown b hb')
   exact ⟨g1,fun h=>h.2 hb',g3⟩
  ·rcases hb.1 with h1|h1
   ·exact hR.av b h1
   ·exact (hR.low b h1).1
 have hav':∀ b,E.av b->av' b:=fun b hb=>⟨.inl (hav b hb),fun hf=>(hR.low b (hown b hf)).2.1 (hav b hb)⟩
 have hD':l7 [x] w (OO av' [r] [x]) args vs:=b5k hx hOO ha hD
 refine (h av' [x] w vs hRG hav' hF hD').mono ?_
 rintro e w' ⟨y,ν',rfl,h1,h2,h3⟩
 have hν:ν'=[x]:=by
  have hl:=h1.len
  have h0:=h2.nu 0 x (fun hm=>by cases hm) rfl
  match ν',hl,h0 with
  | [z],_,h0=>simp at h0;rw [h0]
 subst hν
 have hT:Turned w w' (fp r x):=⟨h2.os,h2.tape,h2.output,h2.size,fun b hb hn=>h2.block b hb fun ho=>hn ((ho1 r b).1 ho)⟩
 have hOO':∀ b,OO av (rs.set k r') ν b->OO av' [r'] [x] b:=fun b hb=>by
  rcases hb with hb|⟨l,q,z,hq,hz,hf⟩
  ·exact .inl ⟨.inl hb,fun hf=>(hR.low b (hown b hf)).2.1 hb⟩
  ·by_cases e:k=l
   ·subst e
    have hkl:=(c6Y.1 hk).1
    rw [List.getElem?_set_self hkl] at hq
    rw [hx] at hz
    cases hq
    cases hz
    exact .inr ((ho1 r' b).2 hf)
   ·rw [List.getElem?_set_ne e] at hq
    exact .inl ⟨.inr ⟨l,q,z,hq,hz,hf⟩,fun hf'=>hR.dis k l r q x z b e hk hq hx hz hf' hf⟩
 have hup:=hR.upd (r':=r') hk hx hT (fun b hb=>c3J hs.1 hs.2 hb) (fun _=>by
  obtain ⟨x',hx',hok'⟩:=h1.res 0 r' rfl
  simp at hx'
  subst hx'
  exact a6f hs.2 hOO' hok')
 exact ⟨y,ν,rfl,hup.1,hup.2,(Fz.keep (Keeps.sub hOO') (h3.fz hc)).den ν⟩
end Go.Proofs.YtgpegbfnlkidjaaGreatDoor.Eng
namespace Go.Proofs.YtgpegbfnlkidjaaGreatDoor
open Go Go.RowKit Eng
set_option maxRecDepth 10000
set_option maxHeartbeats 8000000
theorem c5Y (n:Nms) (s:List UInt8):(a1n (.string (bs s)) (nmE n)).getD (.bool false)=.bool (n.contains s):=by
 rw [c3e];cases n.contains s<;>rfl
theorem b3y {E:Ctx} (hP:E.P=Tryz.prog) (n:Nms) (s:List UInt8) (hs:s.length<=1099511627776) :
  j6 E [.map true (nmE n)] 85 [.mp 0,sb s] (ints (M7 n s).1) [.map true (nmE (M7 n s).2)] []:=by
 obtain ⟨P,eff',N,w0,own0,av0,nu0,pk0⟩:=E
 simp only at hP
 subst hP
 refine j6.of (eff:=eff) Tryz.func85 (by cbv) (by exact c7j rfl) fun w own av ν hν=>?_
 have hν0:ν.length<=1:=by rw [hν];exact c7b _
 have h1:=c3s s hs
 have hk:=c5Y n s
 have hp:=c5o n s
 unfold M7
 generalize a1Q s=q at *
 generalize n.contains s=c at *
 simp only [j5,TT,II,OA,OB,MM]
 simp only [sb,ints] at *
 (repeat first|refine uA ?_|(refine uK ?_ ?_;focus first|omega|(intros;simp_all<;>omega))|simp (disch:=omega) only [go_sem,Nat.reduceBEq,Nat.reduceAdd]|(refine uB h1 ?_ ?_;exact rfl))
 refine S.cond rfl (fun hc=>?_) (fun hc=>?_)
 ·rw [if_pos (by simpa using hc)]
  (repeat first|refine uA ?_|(refine uK ?_ ?_;focus first|omega|(intros;simp_all<;>omega))|simp (disch:=omega) only [go_sem])
  (refine S.done ?_;simp only [p8,go_sem,Nat.reduceBEq];(repeat (refine ⟨?_,?_⟩;focus first|trivial|omega|simp));exact j3.K5 (Imp.refl rfl) (by (repeat first|refine uA ?_|(refine ⟨?_,?_⟩;focus first|rfl|simp [slot])|rfl|simp)) (c6X hν0 (by simp)))
 rw [if_neg (by simpa using hc)]
 (repeat first|refine uA ?_|(refine uK ?_ ?_;focus first|omega|(intros;simp_all<;>omega))|simp (disch:=omega) only [go_sem,Nat.reduceBEq,hk])
 refine S.cond rfl (fun hc=>?_) (fun hc=>?_)
 ·rw [if_pos hc]
  (repeat first|refine uA ?_|(refine uK ?_ ?_;focus first|omega|(intros;simp_all<;>omega))|simp (disch:=omega) only [go_sem])
  (refine S.done ?_;simp only [p8,go_sem,Nat.reduceBEq];(repeat (refine ⟨?_,?_⟩;focus first|trivial|omega|simp));exact j3.K5 (Imp.refl rfl) (by (repeat first|refine uA ?_|(refine ⟨?_,?_⟩;focus first|rfl|simp [slot])|rfl|simp)) (c6X hν0 (by simp)))
 ·rw [if_neg (by rw [hc];decide)]
  have hp:=hp hc
  (repeat first|refine uA ?_|(refine uK ?_ ?_;focus first|omega|(intros;simp_all<;>omega))|simp (disch:=omega) only [go_sem,Nat.reduceBEq,hp])
  (refine S.done ?_;simp only [p8,go_sem,Nat.reduceBEq];(repeat (refine ⟨?_,?_⟩;focus first|trivial|omega|simp));exact j3.K5 (Imp.refl rfl) (by (repeat first|refine uA ?_|(refine ⟨?_,?_⟩;focus first|rfl|simp [slot])|rfl|simp)) (c6X hν0 (by simp)))
theorem c4O {E:Ctx} (hP:E.P=Tryz.prog) (ht0:Tz E) (n:Nms) (p:Pt) (hb:Pb 1073741824 p) :
  j6 E [.map true (nmE n)] 90 [.mp 0,p.c] (ints (a0X n p).1) [.map true (nmE (a0X n p).2)] []:=by
 obtain ⟨P,eff',N,w0,own0,av0,nu0,pk0⟩:=E
 simp only at hP
 subst hP
 refine j6.ofT (eff:=eff) ht0 Tryz.func90 (by cbv) (by exact c7j rfl) fun w own av ν hν ht=>?_
 have hν0:ν.length<=1:=by rw [hν];exact c7b _
 obtain ⟨name,shape,⟨x,y,half,t⟩⟩:=p
 obtain ⟨b0,b1,b2,b3,b4⟩:=hb
 simp only at b0 b1 b2 b3 b4
 have h1:=fun (E:Ctx) (hP:E.P=Tryz.prog)=>b3y hP n name (by omega)
 have h2:=b5j shape b1
 have h3:=b3E ⟨x,y,half,t⟩ ⟨b2.mono (by decide),b3.mono (by decide),b4.mono (by decide)⟩
 unfold a0X
 simp only
 generalize M7 n name=r at *
 obtain ⟨e1,m⟩:=r
 generalize K6 shape=e2 at *
 generalize okF ⟨x,y,half,t⟩=q at *
 simp only [j5,TT,II,OA,MM,LL,VV,FF]
 simp only [Pt.c,Pt.enc,Fr.c,Fr.enc,vts,sb,ints] at *
 (repeat first|refine uA ?_|(refine uK ?_ ?_;focus first|omega|(intros;simp_all<;>omega))|simp (disch:=omega) only [go_sem,Nat.reduceBEq,Nat.reduceAdd]|refine l8.t (j6.lift (k:=0) rfl (h1 _ rfl) rfl rfl rfl) ?_)
 refine S.cond rfl (fun hc=>?_) (fun hc=>?_)
 ·rw [if_pos (by simpa using hc)]
  (repeat first|refine uA ?_|(refine uK ?_ ?_;focus first|omega|(intros;simp_all<;>omega))|simp (disch:=omega) only [go_sem,Nat.reduceBEq])
  (refine S.done ?_;simp only [p8,go_sem,Nat.reduceBEq];(repeat (refine ⟨?_,?_⟩;focus first|trivial|omega|simp));exact j3.K5 (Imp.refl rfl) (by (repeat first|refine uA ?_|(refine ⟨?_,?_⟩;focus first|rfl|simp [slot])|rfl|simp)) (c6X hν0 (by simp)))
 rw [if_neg (by simpa using hc)]
 (repeat first|refine uA ?_|(refine uK ?_ ?_;focus first|omega|(intros;simp_all<;>omega))|simp (disch:=omega) only [go_sem,Nat.reduceBEq,Nat.reduceAdd]|(refine uD h2 ?_ ?_ ?_;exact ht;exact rfl))
 refine S.cond rfl (fun hc=>?_) (fun hc=>?_)
 ·rw [if_pos (by simpa using hc)]
  (repeat first|refine uA ?_|(refine uK ?_ ?_;focus first|omega|(intros;simp_all<;>omega))|simp (disch:=omega) only [go_sem,Nat.reduceBEq])
  (refine S.done ?_;simp only [p8,go_sem,Nat.reduceBEq];(repeat (refine ⟨?_,?_⟩;focus first|trivial|omega|simp));exact j3.K5 (Imp.refl rfl) (by (repeat first|refine uA ?_|(refine ⟨?_,?_⟩;focus first|rfl|simp [slot])|rfl|simp)) (c6X hν0 (by simp)))
 rw [if_neg (by simpa using hc)]
 (repeat first|refine uA ?_|(refine uK ?_ ?_;focus first|omega|(intros;simp_all<;>omega))|simp (disch:=omega) only [go_sem,Nat.reduceBEq,Nat.reduceAdd]|(refine uD h3 ?_ ?_ ?_;exact ht;exact rfl))
 refine S.cond rfl (fun hc=>?_) (fun hc=>?_)
 ·rw [if_neg (by simpa using hc)]
  (repeat first|refine uA ?_|(refine uK ?_ ?_;focus first|omega|(intros;simp_all<;>omega))|simp (disch:=omega) only [go_sem])
  (refine S.done ?_;simp only [p8,go_sem,Nat.reduceBEq];(repeat (refine ⟨?_,?_⟩;focus first|trivial|omega|simp));exact j3.K5 (Imp.refl rfl) (by (repeat first|refine uA ?_|(refine ⟨?_,?_⟩;focus first|rfl|simp [slot])|rfl|simp)) (c6X hν0 (by simp)))
 ·rw [if_pos (by simpa using hc)]
  (repeat first|refine uA ?_|(refine uK ?_ ?_;focus first|omega|(intros;simp_all<;>omega))|simp (disch:=omega) only [go_sem])
  (refine S.done ?_;simp only [p8,go_sem,Nat.reduceBEq];(repeat (refine ⟨?_,?_⟩;focus first|trivial|omega|simp));exact j3.K5 (Imp.refl rfl) (by (repeat first|refine uA ?_|(refine ⟨?_,?_⟩;focus first|rfl|simp [slot])|rfl|simp)) (c6X hν0 (by simp)))
theorem c5u {E:Ctx} (hP:E.P=Tryz.prog) (ht0:Tz E) (n:Nms) (s:Sl) (hb:Sb 1073741824 s) :
  j6 E [.map true (nmE n)] 92 [.mp 0,s.c] (ints (a0O n s).1) [.map true (nmE (a0O n s).2)] []:=by
 obtain ⟨P,eff',N,w0,own0,av0,nu0,pk0⟩:=E
 simp only at hP
 subst hP
 refine j6.ofT (eff:=eff) ht0 Tryz.func92 (by cbv) (by exact c7j rfl) fun w own av ν hν ht=>?_
 have hν0:ν.length<=1:=by rw [hν];exact c7b _
 obtain ⟨name,⟨x,y,half,t⟩,within⟩:=s
 obtain ⟨b0,⟨b2,b3,b4⟩,b5⟩:=hb
 simp only at b0 b2 b3 b4 b5
 have h1:=fun (E:Ctx) (hP:E.P=Tryz.prog)=>b3y hP n name (by omega)
 have h3:=b3E ⟨x,y,half,t⟩ ⟨b2.mono (by decide),b3.mono (by decide),b4.mono (by decide)⟩
 have h4:=a1A within (b5.mono (by decide))
 have h5:=a4E within (b5.mono (by decide))
 have h6:=a0j within (b5.mono (by decide))
 unfold a0O
 simp only
 generalize M7 n name=r at *
 obtain ⟨e1,m⟩:=r
 generalize okF ⟨x,y,half,t⟩=q1 at *
 generalize decide within.H9=q2 at *
 generalize l6 within=q3 at *
 generalize E9 (Nm.d9 within)=n4 at *
 simp only [j5,TT,II,OA,OC,MM,LL,VV,FF,LG,FG]
 simp only [Sl.c,Sl.enc,Fr.c,Fr.enc,rc,sb,ints] at *
 (repeat first|refine uA ?_|(refine uK ?_ ?_;focus first|omega|(intros;simp_all<;>omega))|simp (disch:=omega) only [go_sem,Nat.reduceBEq,Nat.reduceAdd]|refine l8.t (j6.lift (k:=0) rfl (h1 _ rfl) rfl rfl rfl) ?_)
 refine S.cond rfl (fun hc=>?_) (fun hc=>?_)
 ·rw [if_pos (by simpa using hc)]
  (repeat first|refine uA ?_|(refine uK ?_ ?_;focus first|omega|(intros;simp_all<;>omega))|simp (disch:=omega) only [go_sem,Nat.reduceBEq])
  (refine S.done ?_;simp only [p8,go_sem,Nat.reduceBEq];(repeat (refine ⟨?_,?_⟩;focus first|trivial|omega|simp));exact j3.K5 (Imp.refl rfl) (by (repeat first|refine uA ?_|(refine ⟨?_,?_⟩;focus first|rfl|simp [slot])|rfl|simp)) (c6X hν0 (by simp)))
 rw [if_neg (by simpa using hc)]
 (repeat first|refine uA ?_|(refine uK ?_ ?_;focus first|omega|(intros;simp_all<;>omega))|simp (disch:=omega) only [go_sem,Nat.reduceBEq,Nat.reduceAdd]|(refine uD h3 ?_ ?_ ?_;exact ht;exact rfl)|(refine uD h4 ?_ ?_ ?_;exact ht;exact rfl)|(refine uD h5 ?_ ?_ ?_;exact ht;exact rfl)|(refine uD h6 ?_ ?_ ?_;exact ht;exact rfl))
 refine S.cond rfl (fun hc=>?_) (fun hc=>?_)
 ·rw [if_neg (by simp only [c7K,Bool.not_eq_true',c7h] at hc;simp only [c7c,c7h];rintro ⟨⟨⟨h7,h8⟩,h9⟩,h10⟩;rcases hc with ((hc|hc)|hc)|hc<;>first|(rw [hc] at h7;cases h7;done)|(rw [hc] at h8;cases h8;done)|(rw [hc] at h9;cases h9;done)|omega)]
  (repeat first|refine uA ?_|(refine uK ?_ ?_;focus first|omega|(intros;simp_all<;>omega))|simp (disch:=omega) only [go_sem])
  (refine S.done ?_;simp only [p8,go_sem,Nat.reduceBEq];(repeat (refine ⟨?_,?_⟩;focus first|trivial|omega|simp));exact j3.K5 (Imp.refl rfl) (by (repeat first|refine uA ?_|(refine ⟨?_,?_⟩;focus first|rfl|simp [slot])|rfl|simp)) (c6X hν0 (by simp)))
 ·rw [if_pos (by simp only [c7H,Bool.not_eq_false',c7u] at hc;simp only [c7c,c7h];obtain ⟨⟨⟨h7,h8⟩,h9⟩,h10⟩:=hc;exact ⟨⟨⟨h7,h8⟩,h9⟩,by omega⟩)]
  (repeat first|refine uA ?_|(refine uK ?_ ?_;focus first|omega|(intros;simp_all<;>omega))|simp (disch:=omega) only [go_sem])
  (refine S.done ?_;simp only [p8,go_sem,Nat.reduceBEq];(repeat (refine ⟨?_,?_⟩;focus first|trivial|omega|simp));exact j3.K5 (Imp.refl rfl) (by (repeat first|refine uA ?_|(refine ⟨?_,?_⟩;focus first|rfl|simp [slot])|rfl|simp)) (c6X hν0 (by simp)))
theorem c5D {E:Ctx} (hP:E.P=Tryz.prog) (ht0:Tz E) (n:Nms) (g:Gt) (hb:Gb 1073741824 g) :
  j6 E [.map true (nmE n)] 94 [.mp 0,g.c] (ints (a0U n g).1) [.map true (nmE (a0U n g).2)] []:=by
 obtain ⟨P,eff',N,w0,own0,av0,nu0,pk0⟩:=E
 simp only at hP
 subst hP
 refine j6.ofT (eff:=eff) ht0 Tryz.func94 (by cbv) (by exact c7j rfl) fun w own av ν hν ht=>?_
 have hν0:ν.length<=1:=by rw [hν];exact c7b _
 obtain ⟨name,⟨lx,ly⟩,⟨hx,hy⟩⟩:=g
 obtain ⟨b0,⟨b1,b2⟩,⟨b3,b4⟩⟩:=hb
 simp only at b0 b1 b2 b3 b4
 have h1:=fun (E:Ctx) (hP:E.P=Tryz.prog)=>b3y hP n name (by omega)
 have h3:=a9C [⟨lx,ly⟩,⟨hx,hy⟩] (Vbs.two (by decide) ⟨b1.mono (by decide),b2.mono (by decide)⟩ ⟨b3.mono (by decide),b4.mono (by decide)⟩)
 rw [b1p] at h3
 have h4:=K8 lx hx (b1.mono (by decide)) (b3.mono (by decide))
 have h5:=K8 ly hy (b2.mono (by decide)) (b4.mono (by decide))
 unfold a0U
 simp only
 generalize M7 n name=r at *
 obtain ⟨e1,m⟩:=r
 generalize (okV ⟨lx,ly⟩ && okV ⟨hx,hy⟩)=q1 at *
 generalize Nm.q9 (Nm.d9 lx) (Nm.d9 hx)=n1 at *
 generalize Nm.q9 (Nm.d9 ly) (Nm.d9 hy)=n2 at *
 simp only [j5,TT,II,OA,OC,MM,LL,VV,FF,LG,FG]
 simp only [Gt.c,Gt.enc,vts,Vt.enc,rc,sb,ints,c7i,c7q] at *
 (repeat first|refine uA ?_|(refine uK ?_ ?_;focus first|omega|(intros;simp_all<;>omega))|simp (disch:=omega) only [go_sem,Nat.reduceBEq,Nat.reduceAdd]|refine l8.t (j6.lift (k:=0) rfl (h1 _ rfl) rfl rfl rfl) ?_)
 refine S.cond rfl (fun hc=>?_) (fun hc=>?_)
 ·rw [if_pos (by simpa using hc)]
  (repeat first|refine uA ?_|(refine uK ?_ ?_;focus first|omega|(intros;simp_all<;>omega))|simp (disch:=omega) only [go_sem,Nat.reduceBEq])
  (refine S.done ?_;simp only [p8,go_sem,Nat.reduceBEq];(repeat (refine ⟨?_,?_⟩;focus first|trivial|omega|simp));exact j3.K5 (Imp.refl rfl) (by (repeat first|refine uA ?_|(refine ⟨?_,?_⟩;focus first|rfl|simp [slot])|rfl|simp)) (c6X hν0 (by simp)))
 rw [if_neg (by simpa using hc)]
 (repeat first|refine uA ?_|(refine uK ?_ ?_;focus first|omega|(intros;simp_all<;>omega))|simp (disch:=omega) only [go_sem,Nat.reduceBEq,Nat.reduceAdd]|(refine uD h4 ?_ ?_ ?_;exact ht;exact rfl)|(refine uD h5 ?_ ?_ ?_;exact ht;exact rfl)|(refine uE h3 ?_ ?_ ?_ ?_;exact ht;exact rfl;focus (repeat' first|exact j4.nil|exact Imp.refl rfl|exact Imp.frz rfl rfl rfl|(refine Imp.U3 rfl rfl ?_ ?_;(focus ((try simp only [c7e]);omega));(focus first|rfl|assumption))|refine j4.cons ?_ ?_);done))
 refine S.cond rfl (fun hc=>?_) (fun hc=>?_)
 ·rw [if_neg (by simp only [c7K,Bool.not_eq_true',c7h] at hc;simp only [c7c,c7h];rintro ⟨⟨h7,h8⟩,h9⟩;rcases hc with (hc|hc)|hc<;>first|(rw [hc] at h7;cases h7;done)|omega)]
  (repeat first|refine uA ?_|(refine uK ?_ ?_;focus first|omega|(intros;simp_all<;>omega))|simp (disch:=omega) only [go_sem])
  (refine S.done ?_;simp only [p8,go_sem,Nat.reduceBEq];(repeat (refine ⟨?_,?_⟩;focus first|trivial|omega|simp));exact j3.K5 (Imp.refl rfl) (by (repeat first|refine uA ?_|(refine ⟨?_,?_⟩;focus first|rfl|simp [slot])|rfl|simp)) (c6X hν0 (by simp)))
 ·rw [if_pos (by simp only [c7H,Bool.not_eq_false',c7u] at hc;simp only [c7c,c7h];obtain ⟨⟨h7,h8⟩,h9⟩:=hc;exact ⟨⟨h7,by omega⟩,by omega⟩)]
  (repeat first|refine uA ?_|(refine uK ?_ ?_;focus first|omega|(intros;simp_all<;>omega))|simp (disch:=omega) only [go_sem])
  (refine S.done ?_;simp only [p8,go_sem,Nat.reduceBEq];(repeat (refine ⟨?_,?_⟩;focus first|trivial|omega|simp));exact j3.K5 (Imp.refl rfl) (by (repeat first|refine uA ?_|(refine ⟨?_,?_⟩;focus first|rfl|simp [slot])|rfl|simp)) (c6X hν0 (by simp)))
end Go.Proofs.YtgpegbfnlkidjaaGreatDoor
