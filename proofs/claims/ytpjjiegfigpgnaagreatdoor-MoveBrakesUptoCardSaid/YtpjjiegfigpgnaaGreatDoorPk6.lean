/- A part of the proof: lemmas only, with the conditions that each names. -/
import Derived.Test.YtpjjiegfigpgnaaGreatDoorProg
import Derived.KernelRfl
import Derived.Shelf.Strings.SlTrimAscii
import Derived.Laws.Bits64b
import Derived.Test.YtpjjiegfigpgnaaGreatDoorRows
import Derived.Carry
import Derived.ChangeArms
import Derived.ChangeSame
import Derived.Deep.Slices
import Derived.WalkKit
import Derived.ProofKit
import Derived.OpenShut
import Derived.JoinedCond
import Derived.Test.YtpjjiegfigpgnaaGreatDoorCards
import Derived.Test.YtpjjiegfigpgnaaGreatDoorTie
import Derived.Deep.DeepHandedRow
import Derived.Deep.DeepWitnessRowRef
import Derived.Lib.LaidTab
import Derived.LaidMore
import Derived.Test.YtpjjiegfigpgnaaGreatDoorPk5
set_option linter.all false
namespace Go.Proofs.YtpjjiegfigpgnaaGreatDoor
open Go Go.RowKit Eng
set_option maxRecDepth 100000
set_option maxHeartbeats 8000000
theorem b7I (a : Am) (q : List Nm.Rt) (hl : Ab 1073741824 a) (ha : J6 a = 0) (hql : q.length = a.links.length) (hq : ∀ r ∈ q, Rb 2097664 r) : FZ 117 [a.c, rts q] (.tup [frs (a0J a.base (a.links.zip q)), ints 0]) := by
 refine kW a9p a9x (by rfl) fun w O hw => ?_
 have h := b6R a q.length hl
 rw [c0y ha (by omega)] at h
 have hz := b1b
 have ht := a5M (Nm.ofQ 0) (J4.mono (by decide))
 rw [Nm.E8] at ht
 obtain ⟨fb, lb⟩ := b6t ha
 have hn3 := (V8 ha).2
 have hn := hl.2.2.1
 obtain ⟨name, base, links⟩ := a
 simp only at hql fb lb hn3 hn ⊢
 have t1 := fun (e : Fr) (i : Nat) (l : Lk) (r : Nm.Rt) (he : Fx i e) (hi : i < 3) (hr : Rb 2097664 r) => a9I e (a0q r) (he.1.mono (by have := b1G (show i <= 3 by omega); omega)) (he.2.1.mono (by have := b1G (show i <= 3 by omega); omega)) (he.2.2.mono (by have := b1G (show i <= 3 by omega); omega)) (J4.mono (by decide)) (J4.mono (by decide)) ((hr.fit (by decide)).mono (by decide))
 have t2 := fun (e : Fr) (i : Nat) (l : Lk) (r : Nm.Rt) (he : Fx i e) (hi : i < 3) (hr : Rb 2097664 r) (hl : Rb 8 l.length) => a9I (O5 e (a0q r)) (a5j l) ((a6L he hi hr).1.mono (by have := b_lt hi; omega)) ((a6L he hi hr).2.1.mono (by have := b_lt hi; omega)) ((a6L he hi hr).2.2.mono (by have := b_lt hi; omega)) (hl.mono (by decide)) (J4.mono (by decide)) (J4.mono (by decide))
 simp only [a4Y, j6, TT, II, OA, OB, OC, MM, LL, VV, FF, MG, LG, VG, FG]
 unfold rq at hz
 unfold tq at ht
 have hj : ∀ r, a0q r = ⟨Nm.ofQ 0, Nm.ofQ 0, false, Nm.ofQ (Nm.d9 r)⟩ := fun _ => rfl
 have hlg : ∀ l : Lk, a5j l = ⟨l.length, Nm.ofQ 0, false, Nm.ofQ 0⟩ := fun _ => rfl
 generalize Nm.ofQ 0 = z at *
 simp only [Am.c, Am.enc, lks, rts, rc, tc, sb, ints] at h hz ht ⊢
 (repeat first | refine uA ?_ | (refine uK ?_ ?_; focus first | omega | (intros; simp_all <;> omega)) | simp (disch := omega) only [go_sem, Nat.reduceBEq, Nat.reduceAdd, ww, c1o] | (refine uD h ?_ ?_ ?_; exact tz hw; exact rfl))
 refine S.cond rfl (fun hc => by simp at hc) (fun hc => ?_)
 (repeat first | refine uA ?_ | (refine uK ?_ ?_; focus first | omega | (intros; simp_all <;> omega)) | simp (disch := omega) only [go_sem, Nat.reduceBEq, Nat.reduceAdd, ww, c1o] | (refine uD hz ?_ ?_ ?_; exact tz hw; exact rfl) | (refine uD ht ?_ ?_ ?_; exact tz hw; exact rfl))
 refine S.loop (X := Nat × Fr × List Fr) (fun x => ⟨[(1, rts q), (7, .bp 1 0), (8, .bp 2 0), (9, .bp 3 0), (10, .rv 4), (29, lks links), (30, ints links.length), (31, ints x.1)], [.gone, .box 36 x.2.1.enc, .box 32 [.v (.bool z.neg), sb z.num, sb z.den, .v (.bool z.neg), sb z.num, sb z.den], .box 34 [.v (.bool false), .v (.bool z.neg), sb z.num, sb z.den], .row 36 10 (x.2.2.map Fr.enc)]⟩)
  (fun x => x.1 <= links.length /\ x.2.2.length = x.1 /\ a0J base (links.zip q) = x.2.2 ++ a0J x.2.1 ((links.zip q).drop x.1) /\ Fx x.1 x.2.1) (fun x => links.length - x.1) (0, base, []) ⟨c1u _, rfl, rfl, fb⟩ (Ent.trans (Ent.pack 10 36 10 rfl) (by simp only [Fr.enc, sb]; exact (by (repeat first | refine uA ?_ | (refine ⟨?_, ?_⟩; focus first | rfl | simp [slot]) | rfl | simp)))) ?_
 rintro ⟨i, e, outs⟩ ⟨hi, ho, hg, hF⟩
 simp only at hi ho hg hF
 simp only [rts, lks, sb, ints, Fr.enc]
 (repeat first | refine uA ?_ | (refine uK ?_ ?_; focus first | omega | (intros; simp_all <;> omega)) | simp (disch := omega) only [go_sem, Nat.reduceBEq, Nat.reduceAdd, ww])
 (refine uJ rfl (fun hc => ?_) fun hc => ?_)
 ·have hi' : i < links.length := by omega
  have hgl := c1n hi'
  have hgq := c1n (show i < q.length by omega)
  generalize links[i] = l at hgl
  generalize q[i]'_ = r at hgq
  have hr := hq r (c1q hgq)
  have hb := lb l (c1q hgl)
  have k1 := t1 e i l r hF (by omega) hr
  have k2 := t2 e i l r hF (by omega) hr hb
  have k3 := a5M r (hr.mono (by decide))
  have hF' := b6u (l := l) hF (by omega) hr hb
  rw [drop_at (H6 hgl hgq), a0J] at hg
  unfold tq at k3
  generalize O5 (O5 e (a0q r)) (a5j l) = e2 at *
  generalize O5 e (a0q r) = f at *
  rw [hj] at k1
  rw [hlg] at k2
  generalize Nm.ofQ (Nm.d9 r) = y at *
  have hqi : (i : Int) < q.length := by omega
  simp only [Fr.c, Fr.enc, rc, tc, sb] at k1 k2 k3
  (repeat first | refine uA ?_ | (refine uK ?_ ?_; focus first | omega | (intros; simp_all <;> omega)) | simp (disch := omega) only [go_sem, Nat.reduceBEq, Nat.reduceAdd, ww, hgl, hgq, c1p, c1o, Lk.enc, rcs, vts, sb, ho, c1x] | (refine uD hz ?_ ?_ ?_; exact tz hw; exact rfl) | (refine uD k1 ?_ ?_ ?_; exact tz hw; exact rfl) | (refine uD k2 ?_ ?_ ?_; exact tz hw; exact rfl) | (refine uD k3 ?_ ?_ ?_; exact tz hw; exact rfl))
  refine S.next (x := (i, e, outs)) (i + 1, e2, outs ++ [f]) ⟨by simp only; omega, by simp only [c1C, ho]; rfl, by simp only; rw [hg, c1U]; rfl, hF'⟩ (by simp only; omega) (by simp only [c2f, c1F, c2b, Fr.enc, sb]; exact (by (repeat first | refine uA ?_ | (refine ⟨?_, ?_⟩; focus first | rfl | simp [slot]) | rfl | simp)))
 ·rw [List.drop_eq_nil_of_le (by rw [List.length_zip]; omega), a0J] at hg
  rw [hg]
  (repeat first | refine uA ?_ | (refine uK ?_ ?_; focus first | omega | (intros; simp_all <;> omega)) | simp (disch := omega) only [go_sem, Nat.reduceBEq, Nat.reduceAdd, ww, c1o])
  simp only [frs, c2f, c1F, c2b, Fr.enc, sb]
  (refine S.done ?_; simp only [q8, l9, go_sem, Nat.reduceBEq, Nat.reduceAdd, Nat.reduceLeDiff, Int.reduceToNat, Int.reducePow]; (repeat (refine ⟨?_, ?_⟩; focus first | trivial | omega | simp)); exact j3.out rfl (Imp.tup (by (repeat' (first | exact p8.nil | exact Imp.refl rfl | exact Imp.frz rfl rfl rfl | exact Imp.P5 | refine Imp.agg ?_ | refine p8.cons ?_ ?_)))) rfl)
theorem c0I (a : Am) (q : List Nm.Rt) (hl : Ab 1073741824 a) (ha : J6 a = 0) (hql : q.length = a.links.length) (hq : ∀ r ∈ q, Rb 2097664 r) : FZ 34 [a.c, rts q] (.tup [(a3e a.base (a.links.zip q)).c, ints 0]) := by
 refine kW Tryz.func34 (by cbv) (by rfl) fun w O hw => ?_
 have h := b7I a q hl ha hql hq
 obtain ⟨h1, h2⟩ := a7x (a.links.zip q) a.base
 have hn : (a.links.zip q).length <= 1073741824 := by rw [List.length_zip]; have := hl.2.2.1; omega
 generalize a0J a.base (a.links.zip q) = L at *
 generalize a3e a.base (a.links.zip q) = T at *
 generalize (a.links.zip q).length = n at *
 obtain ⟨name, base, links⟩ := a
 simp only [j6]
 simp only [Am.c, Am.enc, lks, rts, frs, Fr.c, Fr.enc, sb, ints] at h ⊢
 have e1 : ((L.length : Int) - 1) = (n : Int) := by omega
 have e2 : (n : Int) < L.length := by omega
 (repeat first | refine uA ?_ | (refine uK ?_ ?_; focus first | omega | (intros; simp_all <;> omega)) | simp (disch := omega) only [go_sem, Nat.reduceBEq, Nat.reduceAdd, ww] | (refine uD h ?_ ?_ ?_; exact tz hw; exact rfl))
 refine S.cond rfl (fun hc => by simp at hc) (fun hc => ?_)
 (repeat first | refine uA ?_ | (refine uK ?_ ?_; focus first | omega | (intros; simp_all <;> omega)) | simp (disch := omega) only [go_sem, Nat.reduceBEq, Nat.reduceAdd, ww, c1o, e1, h1, c1p, Fr.enc, sb, c1x])
 (refine S.done ?_; simp only [q8, l9, go_sem, Nat.reduceBEq, Nat.reduceAdd, Nat.reduceLeDiff, Int.reduceToNat, Int.reducePow]; (repeat (refine ⟨?_, ?_⟩; focus first | trivial | omega | simp)); exact j3.out rfl (Imp.tup (by (repeat' (first | exact p8.nil | exact Imp.refl rfl | exact Imp.frz rfl rfl rfl | exact Imp.P5 | refine Imp.agg ?_ | refine p8.cons ?_ ?_)))) rfl)
theorem b9I {f : Fr} (h : Fb 1048576 f) : Rb 268435456 (a1F f).x /\ Rb 268435456 (a1F f).y /\ Rb 268435456 (a1F f).t := by
 obtain ⟨c1, c2, c3⟩ := h
 have s1 := (M9 J4 (c1.fit (by decide)))
 have s2 := (M9 J4 (c2.fit (by decide)))
 have s3 := a7d (U8 (h := f.half) c3 (by decide))
 have g1 := a9d f.half (U8 (h := f.half) s3 (by decide))
 have g2 := a8r (U8 (h := f.half) s3 (by decide))
 have s4 := s1.fit (by decide)
 have s5 := s2.fit (by decide)
 unfold a1F
 exact ⟨(M9 (K4 s4 g1) (K4 s5 g2)).mono (by decide), (R6 (K4 s4 g2) (K4 s5 g1)).mono (by decide), s3.mono (by decide)⟩
theorem b6B {w : Wk} {n : Nat} {q : List Nm.Rt} {a : Am} {p : Nat} {pt : Pt} (hwb : Wb 1048576 w) (ga : w.arms[n]? = some a) (gp : w.parts[p]? = some pt) (ha : J6 a = 0) (hql : q.length = a.links.length) (hq : ∀ r ∈ q, Rb 2097664 r) : FZ 35 [(a3e a.base (a.links.zip q)).c, (a1F pt.grasp).c] (O5 (a3e a.base (a.links.zip q)) (a1F pt.grasp)).c := by
 have hb := hwb.parts.2 pt (c1q gp)
 obtain ⟨fb, lb⟩ := b6t ha
 have ht := b8k (a.links.zip q) a.base 0 fb (by have := (V8 ha).2; rw [List.length_zip]; omega) fun y hy => ⟨lb _ (List.of_mem_zip hy).1, hq _ (List.of_mem_zip hy).2⟩
 have hc := b1G (show 0 + (a.links.zip q).length <= 3 by have := (V8 ha).2; rw [List.length_zip]; omega)
 have hk := b9I hb.2.2
 exact a9I (a3e a.base (a.links.zip q)) (a1F pt.grasp) (ht.1.mono (by omega)) (ht.2.1.mono (by omega)) (ht.2.2.mono (by omega)) hk.1 hk.2.1 hk.2.2
theorem b6G (w : Wk) (n : Nat) (x : Ast) (a : Am) (p : Nat) (pt : Pt) (hwb : Wb 1048576 w) (ga : w.arms[n]? = some a) (gp : w.parts[p]? = some pt) (hx : x.holds = p) (ha : J6 a = 0) (hql : x.q.length = a.links.length) (hq : ∀ r ∈ x.q, Rb 2097664 r) :
  FZ 100 [w.c, .v (.int .i64 (n : Int)), x.c] (.tup [(a6N a x.q pt.grasp).c, ints 0]) := by
 refine kW Tryz.func100 (by cbv) (by rfl) fun w' O hw => ?_
 obtain ⟨n1, b1⟩ := hwb.arms
 obtain ⟨n2, b2⟩ := hwb.parts
 have h1 := c0I a x.q ((b1 a (c1q ga)).mono (by decide)) ha hql hq
 have h2 := b9v pt.grasp (b2 pt (c1q gp)).2.2
 have h3 := b6B hwb ga gp ha hql hq
 unfold a6N
 have na := (c1r.1 ga).1
 have np := (c1r.1 gp).1
 generalize a3e a.base (a.links.zip x.q) = T at *
 generalize O5 T (a1F pt.grasp) = R at *
 generalize a1F pt.grasp = B at *
 obtain ⟨q, v, power, holds⟩ := x
 obtain ⟨arms, walls, parts, slots, gates, walk⟩ := w
 simp only at ga gp na np hx h1 ⊢
 subst hx
 have na' : (n : Int) < arms.length := by omega
 have np' : (p : Int) < parts.length := by omega
 simp only [j6]
 simp only [Wk.c, Wk.enc, Am.c, Am.enc, Ast.c, Ast.enc, Fr.c, Fr.enc, ams, wls, pts, sls, gts, lks, rts, sb, ints] at h1 h2 h3 ⊢
 (repeat first | refine uA ?_ | (refine uK ?_ ?_; focus first | omega | (intros; simp_all <;> omega)) | simp (disch := omega) only [go_sem, Nat.reduceBEq, Nat.reduceAdd, ww, ga, c1p, c1o, Am.enc, lks, sb, c1x] | (refine uD h1 ?_ ?_ ?_; exact tz hw; exact rfl))
 refine S.cond rfl (fun hc => by simp at hc) (fun hc => ?_)
 (repeat first | refine uA ?_ | (refine uK ?_ ?_; focus first | omega | (intros; simp_all <;> omega)) | simp (disch := omega) only [go_sem, Nat.reduceBEq, Nat.reduceAdd, ww, gp, c1p, c1o, Pt.enc, vts, sb, c1x] | (refine uD h2 ?_ ?_ ?_; exact tz hw; exact rfl) | (refine uD h3 ?_ ?_ ?_; exact tz hw; exact rfl))
 (refine S.done ?_; simp only [q8, l9, go_sem, Nat.reduceBEq, Nat.reduceAdd, Nat.reduceLeDiff, Int.reduceToNat, Int.reducePow]; (repeat (refine ⟨?_, ?_⟩; focus first | trivial | omega | simp)); exact j3.out rfl (Imp.tup (by (repeat' (first | exact p8.nil | exact Imp.refl rfl | exact Imp.frz rfl rfl rfl | exact Imp.P5 | refine Imp.agg ?_ | refine p8.cons ?_ ?_)))) rfl)
open Go Eng
set_option maxHeartbeats 16000000
def b4O : List C := [.v (.int .i64 0), .v (.slice none 0 0), .v (.slice none 0 0), .v (.slice none 0 0), .v (.slice none 0 0)]
def b9M (v : Vt) (z : Gt) : Prop := Nm.C8 (Nm.d9 v.x) (Nm.d9 z.low.x) < 0 \/ 0 < Nm.C8 (Nm.d9 v.x) (Nm.d9 z.high.x) \/ Nm.C8 (Nm.d9 v.y) (Nm.d9 z.low.y) < 0 \/ 0 < Nm.C8 (Nm.d9 v.y) (Nm.d9 z.high.y)
instance (v : Vt) (z : Gt) : Decidable (b9M v z) := by unfold b9M; infer_instance
def c0V : List Nat := [65, 158]
def c1f (f : Nat) : Bool := c0V.contains f
theorem b9i {E : Ctx} (hP : E.P = Tryz.prog) (s : Stt) (hs : Stb 1073741824 s) :
  l6 E [] 98 [s.c] (.agg [ints s.tick, .rv 5, .rv 2, .rv 3, bls s.gates]) [.gone, .gone, .row 36 10 (s.parts.map Fr.enc), .row 32 6 (s.people.map Vt.enc), .gone, .row 81 4 (s.arms.map Ast.enc)] [] := by
 obtain ⟨P, eff', N, w0, own0, av0, nu0, pk0⟩ := E
 simp only at hP
 subst hP
 refine l6.of (eff := c1f) Tryz.func98 (by cbv) (by exact c1E rfl) fun w own av ν hν => ?_
 have hν0 : ν.length <= 0 := by rw [hν]; exact c1w _
 obtain ⟨⟨n1, b1⟩, ⟨n2, b2⟩, ⟨n3, b3⟩, n4⟩ := hs
 obtain ⟨tick, arms, parts, people, gates⟩ := s
 simp only at n1 b1 n2 n3 n4 ⊢
 have c1 := b5l (parts.map Fr.enc) (by rw [c1o]; exact n2)
 have c2 := b7w (people.map Vt.enc) (by rw [c1o]; exact n3)
 have c3 := (b6P (gates.map fun b => [.v (.bool b)]) (by rw [c1o]; exact n4)).spec
 simp only [j6]
 simp only [Stt.c, Stt.enc, J9, frs, vts, bls, ints]
 (repeat first | refine uI ?_ | (refine uK ?_ ?_; focus first | omega | (intros; simp_all <;> omega)) | simp (disch := omega) only [go_sem, Nat.reduceBEq, Nat.reduceAdd, ww])
 refine S.F4 [.box 47 [.v (.int .i64 tick), .sl 4 (arms.map Ast.enc), .sl 10 (parts.map Fr.enc), .sl 6 (people.map Vt.enc), .sl 1 (gates.map fun b => [.v (.bool b)])]] (by simp [Eng.F5, Eng.P8]) ?_
 (repeat first | refine uA ?_ | (refine uK ?_ ?_; focus first | omega | (intros; simp_all <;> omega)) | simp (disch := omega) only [go_sem, Nat.reduceBEq, Nat.reduceAdd, ww, F5, c1o] | refine l8.t (FNew.t c1 rfl) ?_ | refine l8.t (FNew.t c2 rfl) ?_ | (refine uB c3 ?_ ?_; exact rfl))
 refine S.loop (X := Nat) (fun i => ⟨[(2, .bp 1 0), (3, .bp 4 0), (19, J9 arms), (20, ints arms.length), (21, ints i)], [.gone, .box 47 [.v (.int .i64 0), .v (.slice none 0 0), .v (.slice none 0 0), .v (.slice none 0 0), .v (.slice none 0 0)], .row 36 10 (parts.map Fr.enc), .row 32 6 (people.map Vt.enc), .box 47 [ints tick, .rv 5, .rv 2, .rv 3, bls gates], .row 81 4 ((arms.take i).map Ast.enc)]⟩) (fun i => i <= arms.length) (fun i => arms.length - i) 0 (c1u _)
  (Ent.trans (Ent.a1E 4 1 81 4 rfl rfl rfl) (by (repeat first | refine uA ?_ | (refine ⟨?_, ?_⟩; focus first | rfl | simp [slot]) | rfl | simp | exact c1s hν0 (by simp)))) ?_
 intro i hi
 simp only [J9, bls, ints]
 (repeat first | refine uA ?_ | (refine uK ?_ ?_; focus first | omega | (intros; simp_all <;> omega)) | simp (disch := omega) only [go_sem, Nat.reduceBEq, Nat.reduceAdd, ww])
 (refine uJ rfl (fun hc => ?_) fun hc => ?_)
 ·have hi' : i < arms.length := by omega
  have hgi := c1n hi'
  have hap : arms.take (i + 1) = arms.take i ++ [arms[i]] := c2e hi'
  generalize arms[i] = x at hgi hap
  obtain ⟨⟨q1, _⟩, ⟨q2, _⟩⟩ := b1 x (c1q hgi)
  have e1 := (a3V (x.q.map rcs) (by rw [c1o]; exact q1)).spec
  have e2 := (a3V (x.v.map rcs) (by rw [c1o]; exact q2)).spec
  have htl : (arms.take i).length = i := by rw [c1y]; omega
  (repeat first | refine uA ?_ | (refine uK ?_ ?_; focus first | omega | (intros; simp_all <;> omega)) | simp (disch := omega) only [go_sem, Nat.reduceBEq, Nat.reduceAdd, ww, hgi, c1p, c1o, Ast.enc, rts, ints, htl] | (refine uB e1 ?_ ?_; exact rfl) | (refine uB e2 ?_ ?_; exact rfl))
  refine S.next (i + 1) (by omega) (by omega) (by simp only [hap, c2f, c1F, c2b, Ast.enc, rts, ints]; exact (by (repeat first | refine uA ?_ | (refine ⟨?_, ?_⟩; focus first | rfl | simp [slot]) | rfl | simp | exact c1s hν0 (by simp))))
 ·have hi' : i = arms.length := by omega
  subst hi'
  rw [c1N]
  (repeat first | refine uA ?_ | (refine uK ?_ ?_; focus first | omega | (intros; simp_all <;> omega)) | simp (disch := omega) only [go_sem, Nat.reduceBEq, Nat.reduceAdd, ww])
  (refine S.done ?_; simp only [q8, l9, go_sem, Nat.reduceBEq, Nat.reduceAdd, Nat.reduceLeDiff, Int.reduceToNat, Int.reducePow]; (repeat (refine ⟨?_, ?_⟩; focus first | trivial | omega | simp)); exact j3.O0 (Imp.agg (by (repeat' (first | exact p8.nil | exact Imp.refl rfl | exact Imp.frz rfl rfl rfl | exact Imp.P5 | refine p8.cons ?_ ?_)))) (by (repeat first | refine uA ?_ | (refine ⟨?_, ?_⟩; focus first | rfl | simp [slot]) | rfl | simp)) (c1s hν0 (by simp)))
def wss (u : List (List Nm.Rt)) : C := .sl 1 (u.map fun l => [rts l])
def Wsb (k : Nat) (u : List (List Nm.Rt)) : Prop := u.length <= k /\ ∀ l ∈ u, Rbs k l
theorem b9f (a b k : Rat) : 0 < Nm.C8 (a1v a b) k <-> 0 < Nm.C8 a k \/ 0 < Nm.C8 b k := by
 unfold a1v
 have h := a3u a b
 rw [Z5, Z5]
 split
 ·rw [Z5]
  have : ¬ a < b := fun h2 => by have := h.2 h2; omega
  grind
 ·rw [Z5]
  have : a < b := h.1 (by omega)
  grind
theorem a4P {k m n : Nat} {a b : Nm.Rt} (ha : Rb k a) (hb : Rb m b) (h1 : 1 <= k) (h2 : 1 <= m) (hn : k + m + 1 <= n) : Rb n (a0X a b) := (R6 (ha.fit h1) (hb.fit h2)).mono hn
theorem a9i {l : Lk} (h : M7 l = 0) : Rb 8 l.brake := by
 unfold M7 at h
 split at h
 ·cases h
 rename_i h2
 have hs2 : (j4 l.length && j4 l.low && j4 l.high && j4 l.speed && j4 l.brake) = true := by
  cases hb : (j4 l.length && j4 l.low && j4 l.high && j4 l.speed && j4 l.brake) with
  | true => rfl
  | false => exact absurd (.inl hb) h2
 simp only [c1t] at hs2
 exact (V3 hs2.2).mono (by decide)
theorem a5s {α β γ : Type} {f : α × β -> γ} {l : List α} {m : List β} {z : γ} (h : z ∈ (l.zip m).map f) : ∃ a ∈ l, ∃ b ∈ m, z = f (a, b) := by
 obtain ⟨⟨a, b⟩, hm, rfl⟩ := List.mem_map.1 h
 exact ⟨a, (List.of_mem_zip hm).1, b, (List.of_mem_zip hm).2, rfl⟩
theorem c0j {a : Am} {x : Ast} {u : List Nm.Rt} {p : Bool} (ha : J6 a = 0) (hx : Asb 1048576 x) (hu : ∀ r ∈ u, Rb 1048576 r) : (∀ r ∈ (Y4 a x u p).q, Rb 2097664 r) /\ ∀ r ∈ (Y4 a x u p).v, Rb 2097664 r := by
 have hv : ∀ r ∈ Y3 a x, Rb 1048585 r := fun r hr => by
  obtain ⟨l, hl, v, hv, rfl⟩ := a5s hr
  have h1 := hx.2.2 v hv
  have h2 := a9i ((Q9 ha).2 l hl)
  unfold X0
  split
  ·exact J4.mono (by decide)
  split
  ·exact a4P h1 h2 (by decide) (by decide) (by decide)
  ·exact (M9 (h1.fit (by decide)) (h2.fit (by decide))).mono (by decide)
 unfold Y4
 split
 ·refine ⟨fun r hr => ?_, fun r hr => (hu r hr).mono (by decide)⟩
  obtain ⟨q, hq, v, hv, rfl⟩ := a5s (show r ∈ mvQ x u from hr)
  exact a4P (hx.1.2 q hq) (hu v hv) (by decide) (by decide) (by decide)
 ·refine ⟨fun r hr => ?_, fun r hr => (hv r hr).mono (by decide)⟩
  obtain ⟨q, hq, v, hv', rfl⟩ := a5s (show r ∈ a1t a x from hr)
  exact a4P (hx.1.2 q hq) (hv v hv') (by decide) (by decide) (by decide)
theorem b7A (w : Wk) (P : List Fr) (z : Am × Ast) : (a3h w P z).length = P.length := by
 unfold a3h
 split
 ·rfl
 ·split
  ·simp
  ·rfl
theorem a7T (w : Wk) : ∀ (l : List (Am × Ast)) (P : List Fr), (l.foldl (a3h w) P).length = P.length
 | [], _ => rfl
 | z :: l, P => by rw [List.foldl_cons, a7T w l, b7A]
theorem fold_at {α β : Type} {f : β -> α -> β} {l : List α} {i : Nat} {x : α} (h : l[i]? = some x) (b : β) : (l.take (i + 1)).foldl f b = f ((l.take i).foldl f b) x := by
 rw [take_at h, List.foldl_append]; rfl
set_option maxHeartbeats 4000000
theorem a4i (q : Rat) : (q < 0 /\ G7 q = -q) \/ (0 <= q /\ G7 q = q) := by
 unfold G7
 have h := @Rat.num_nonneg q
 by_cases hn : q.num < 0
 ·rw [if_pos hn]; left; exact ⟨by rw [<- Rat.not_le, <- h]; omega, rfl⟩
 ·rw [if_neg hn]; right; exact ⟨h.1 (by omega), rfl⟩
theorem b9K {b : Rat} (h : 0 < F3 b) : 0 < b := by
 rcases a1O b with ⟨h1, _⟩ | ⟨h1, _⟩ | ⟨_, h1⟩
 ·omega
 ·omega
 ·exact h1
theorem b7x {b v : Nm.Rt} (hb : 0 < F3 (Nm.d9 b)) : ¬ 0 < Nm.C8 (G7 (Nm.d9 (X0 b v))) (G7 (Nm.d9 v)) := by
 have hb' := b9K hb
 rw [Z5]
 unfold X0 a0X
 generalize Nm.d9 b = B at *
 generalize Nm.d9 v = V at *
 have hV := a4i V
 split
 ·rw [Nm.E8]
  have := a4i 0
  grind
 ·rename_i h
  have h1 : B < G7 V := (Z5 _ _).1 (by omega)
  split
  ·rename_i hs
   rw [Nm.E8]
   have h2 := a4i (V + B)
   have h3 := a1O V
   grind
  ·rename_i hs
   rw [Nm.E8]
   have h2 := a4i (V - B)
   have h3 := a1O V
   grind
theorem b0s {b v : Nm.Rt} (hb : 0 < F3 (Nm.d9 b)) (hv : F3 (Nm.d9 v) = 0) : X0 b v = Nm.ofQ 0 := by
 unfold X0
 rw [if_pos (b0f hb hv)]
theorem b1X {q : Nm.Rt} (h : I7 q = true) : a0X q (Nm.ofQ 0) = q := by
 unfold a0X
 rw [Nm.E8, Rat.add_zero]
 exact Nm.b2E (of_decide_eq_true h)
theorem b8e {q : Rat} (h : q = 0) : F3 q = 0 := by subst h; decide +kernel
theorem b6N (b v : Nm.Rt) : I7 (X0 b v) = true := by
 unfold X0 a0X I7
 split
 ·exact decide_eq_true (Nm.a0L _)
 ·split
  ·exact decide_eq_true (Nm.a0L _)
  ·exact decide_eq_true (Nm.a0L _)
theorem b1V (a b : Nm.Rt) : I7 (a0X a b) = true := decide_eq_true (Nm.a0L _)
def b7Y (x : Lk × Nm.Rt) : Int := if Nm.C8 (Nm.d9 x.2) (Nm.d9 x.1.low) < 0 \/ 0 < Nm.C8 (Nm.d9 x.2) (Nm.d9 x.1.high) then 17 else 0
theorem b3R {a : Am} {x : Ast} {n : Nat} (h : a0c a x n = 0) : (x.q.all I7 = true /\ x.v.all I7 = true) /\ (∀ z ∈ a.links.zip x.q, b7Y z = 0) /\ ∀ z ∈ a.links.zip x.v, a0o z = 0 := by
 unfold a0c at h
 split at h
 ·cases h
 rename_i h1
 split at h
 ·rename_i h2; exact absurd h h2
 rename_i h2
 split at h
 ·cases h
 have h2 := Classical.not_not.1 h2
 unfold a1q at h2
 split at h2
 ·rename_i h3; exact absurd h2 h3
 split at h2
 ·cases h2
 refine ⟨?_, a4e h2, a4e h⟩
 have h1 := eq_true_of_ne_false h1
 simpa only [c1t] using h1
theorem b2l {a : Am} {y : Ast} {n : Nat} (ha : J6 a = 0) (g1 : y.q.all I7 = true) (g2 : y.v.all I7 = true) (hq : y.q.length = a.links.length) (hv : y.v.length = a.links.length) (hh : -1 <= y.holds /\ y.holds < n) (hl : ∀ z ∈ a.links.zip y.q, b7Y z = 0) (hs : ∀ z ∈ a.links.zip y.v, a0o z = 0) : a0c a y n = 0 := by
 unfold a0c
 have hf : a1q a y.q = 0 := by
  unfold a1q
  rw [if_neg (by simp [ha]), if_neg (by simp [hq])]
  exact a1o hl
 rw [g1, g2, if_neg (by decide), hf, if_neg (by decide), if_neg (by omega)]
 exact a1o hs
theorem b7o {a : Am} {x : Ast} {n : Nat} {u : List Nm.Rt} {p : Bool} (h : a0c a x n = 0) (hz : ∀ r ∈ x.v, Nm.d9 r = 0) : a0c a (Y4 a x u p) n = 0 := by
 have ho := a1x h
 obtain ⟨⟨g1, g2⟩, hl, hs⟩ := b3R h
 have hlen := b4q (u := u) (p := p) ho
 have hh := holds_one a x u p
 have hlk := (Q9 ho.arm).2
 unfold Y4 at *
 by_cases hc : (p && a5I a x.q u) = true
 ·rw [if_pos hc] at *
  simp only [c1t, a5I, c1v] at hc
  obtain ⟨_, c1, c2, c3⟩ := hc
  refine b2l ho.arm ?_ c2 hlen.1 hlen.2 (by rw [hh]; exact ho.holds) (fun z hz => ?_) fun z hz => ?_
  ·rw [List.all_eq_true]
   intro r hr
   obtain ⟨_, _, _, _, rfl⟩ := a5s (show r ∈ mvQ x u from hr)
   exact b1V _ _
  all_goals
   obtain ⟨i, hi⟩ := List.getElem?_of_mem hz
   rw [List.getElem?_zip_eq_some] at hi
   obtain ⟨i1, i2⟩ := hi
   have hil := (c1r.1 i1).1
   have e1 := c1n (show i < x.q.length by have := ho.q; omega)
   have e2 := c1n (show i < u.length by omega)
   have hm := List.all_eq_true.1 c3 _ (c1q (H6 i1 (H6 e1 e2)))
   unfold b5m at hm
   simp only [Bool.not_eq_true', c1J, c1A] at hm
  ·have hq := b6h e1 e2
   rw [show (mvA x u).q = mvQ x u from rfl, hq] at i2
   injection i2 with i2
   unfold b7Y
   rw [if_neg]
   rw [<- i2]
   unfold a0X
   rw [Nm.E8, a3u, <- Z5]
   omega
  ·rw [show (mvA x u).v = u from rfl, e2] at i2
   injection i2 with i2
   unfold a0o
   rw [if_neg]
   rw [<- i2]
   exact hm.1.1
 ·rw [if_neg hc] at *
  have hV : ∀ (i : Nat) (l : Lk) (r : Nm.Rt), a.links[i]? = some l -> (Y3 a x)[i]? = some r -> r = Nm.ofQ 0 := fun i l r i1 i2 => by
   have hil := (c1r.1 i1).1
   have e1 := c1n (show i < x.q.length by have := ho.q; omega)
   have e2 := c1n (show i < x.v.length by have := ho.v; omega)
   rw [(a7c i1 e2 e1).1] at i2
   injection i2 with i2
   rw [<- i2]
   exact b0s (a5i (hlk l (c1q i1))) (b8e (hz _ (c1q e2)))
  refine b2l ho.arm ?_ ?_ hlen.1 hlen.2 (by rw [hh]; exact ho.holds) (fun z hz => ?_) fun z hz => ?_
  ·rw [List.all_eq_true]
   intro r hr
   obtain ⟨_, _, _, _, rfl⟩ := a5s (show r ∈ a1t a x from hr)
   exact b1V _ _
  ·rw [List.all_eq_true]
   intro r hr
   obtain ⟨_, _, _, _, rfl⟩ := a5s (show r ∈ Y3 a x from hr)
   exact b6N _ _
  all_goals
   obtain ⟨i, hi⟩ := List.getElem?_of_mem hz
   rw [List.getElem?_zip_eq_some] at hi
   obtain ⟨i1, i2⟩ := hi
   have hil := (c1r.1 i1).1
   have e1 := c1n (show i < x.q.length by have := ho.q; omega)
   have e2 := c1n (show i < x.v.length by have := ho.v; omega)
   have hb := a7c i1 e2 e1
   have h0 := hV i z.1 _ i1 hb.1
  ·rw [show (a8g a x).q = a1t a x from rfl, hb.2, h0, b1X (List.all_eq_true.1 g1 _ (c1q e1))] at i2
   injection i2 with i2
   have := hl _ (c1q (H6 i1 e1))
   rw [i2] at this
   exact this
  ·rw [show (a8g a x).v = Y3 a x from rfl, hb.1, h0] at i2
   injection i2 with i2
   have := a7G (hlk z.1 (c1q i1))
   rw [i2] at this
   exact this
theorem b0o (n : Nat) : ∀ (A : List Am) (X Y : List Ast) (h : List Int), X.map (·.holds) = Y.map (·.holds) -> (∀ z ∈ A.zip Y, a0c z.1 z.2 n = 0) -> (u6 (R5 n) h (A.zip X)).1 = 0 -> (u6 (R5 n) h (A.zip Y)).1 = 0
  | [], _, _, _, _, _, _ => by simp [u6]
  | a :: A, [], [], h, _, _, hx => hx
  | a :: A, [], y :: Y, h, e, _, _ => by simp at e
  | a :: A, x :: X, [], h, e, _, _ => by simp at e
  | a :: A, x :: X, y :: Y, h, e, ho, hx => by
    simp only [c1F, List.cons.injEq] at e
    simp only [List.zip_cons_cons] at ho hx ⊢
    have h1 := ho (a, y) (by simp)
    unfold u6 at hx ⊢
    by_cases hx0 : (R5 n h (a, x)).1 = 0
    · have e0 : a0c a x n = 0 := by
        unfold R5 at hx0
        split at hx0
        · exact hx0
        · exact Classical.not_not.1 (by assumption)
      have e2 : R5 n h (a, y) = R5 n h (a, x) := by
        unfold R5
        simp only at h1 ⊢
        rw [h1, e0, e.1]
      rw [if_pos hx0] at hx
      rw [e2, if_pos hx0]
      exact b0o n A X Y _ e.2 (fun z hz => ho z (by simp [hz])) hx
    · rw [if_neg hx0] at hx; exact absurd hx hx0
theorem a9W (w : Wk) : ∀ (l : List (Am × Ast)) (P : List Fr), (∀ z ∈ l, z.2.holds < 0) -> l.foldl (a3h w) P = P
 | [], _, _ => rfl
 | z :: l, P, h => by
  have e : a3h w P z = P := by unfold a3h; rw [if_pos (h z (by simp))]
  rw [List.foldl_cons, e, a9W w l P fun y hy => h y (by simp [hy])]
theorem b0a {w : Wk} {s : Stt} {u : List (List Nm.Rt)} {p : List Bool} {z : Am × Ast} (h1 : s.arms.length = w.arms.length) (h2 : u.length = w.arms.length) (h3 : p.length = w.arms.length) (hz : z ∈ w.arms.zip (a0A w s u p)) :
  ∃ x l b, (z.1, x) ∈ w.arms.zip s.arms /\ l ∈ u /\ z.2 = Y4 z.1 x l b := by
 obtain ⟨i, hi⟩ := List.getElem?_of_mem hz
 rw [List.getElem?_zip_eq_some] at hi
 obtain ⟨g1, g2⟩ := hi
 have hl := (c1r.1 g1).1
 have x1 := c1n (show i < s.arms.length by omega)
 have x2 := c1n (show i < u.length by omega)
 have x3 := c1n (show i < p.length by omega)
 rw [a2E g1 x1 x2 x3] at g2
 injection g2 with g2
 exact ⟨_, _, _, c1q (H6 g1 x1), c1q x2, g2.symm⟩
theorem b5S {w : Wk} {s : Stt} {u : List (List Nm.Rt)} {p : List Bool} (h1 : s.arms.length = w.arms.length) (h2 : u.length = w.arms.length) (h3 : p.length = w.arms.length) : s.arms.map (·.holds) = (a0A w s u p).map (·.holds) := by
 have hl := a2s (u := u) (p := p) h1 h2 h3
 refine List.ext_getElem? fun i => ?_
 rw [c1Z, c1Z]
 rcases c1Q i w.arms.length with hi | hi
 ·have x0 := c1n hi
  have x1 := c1n (show i < s.arms.length by omega)
  have x2 := c1n (show i < u.length by omega)
  have x3 := c1n (show i < p.length by omega)
  rw [a2E x0 x1 x2 x3, x1, c1p, c1p, holds_one]
 ·rw [c1R (by omega), c1R (by omega)]
theorem b9s {w : Wk} {s : Stt} {u : List (List Nm.Rt)} {p : List Bool} (h : N9 w s = 0) (hp : s.people = []) (ht : s.tick < 2000) (hz : ∀ x ∈ s.arms, ∀ r ∈ x.v, Nm.d9 r = 0) (h2 : u.length = w.arms.length) (h3 : p.length = w.arms.length) (hg : ((w.arms.zip (a0A w s u p)).foldl (a3h w) s.parts).all a0Q = true) : N9 w (Y1 w s u p []) = 0 := by
 have hok := O9 h
 have hl := a2s (u := u) (p := p) hok.arms h2 h3
 have hpl := a7T w (w.arms.zip (a0A w s u p)) s.parts
 have he : (u6 (R5 w.parts.length) [] (w.arms.zip s.arms)).1 = 0 := by
  unfold N9 at h
  split at h
  ·rename_i h1; exact absurd h h1
  split at h
  ·cases h
  split at h
  ·cases h
  split at h
  ·rename_i h1; exact absurd h h1
  ·rename_i h1; exact Classical.not_not.1 h1
 have he2 := b0o _ w.arms s.arms (a0A w s u p) [] (b5S hok.arms h2 h3) (fun z hz' => by
  obtain ⟨x, l, b, hx, hl, e⟩ := b0a hok.arms h2 h3 hz'
  rw [e]
  exact b7o (hok.one _ hx) (hz x (List.of_mem_zip hx).2)) he
 have e1 := hok.works
 have e2 := hok.tick
 have e3 := hok.parts
 have e4 := hok.gates
 unfold N9 Y1
 rw [e1, if_neg (by decide)]
 simp only [hp, List.zip_nil_left, c2b, List.length_nil, List.all_nil, Bool.and_true]
 rw [if_neg (by omega), if_neg (by omega), he2, if_neg (by decide), hg]
 rfl
theorem b2u {a : Am} {x : Ast} {kq kv : Nat} (ha : J6 a = 0) (h1 : 1 <= kq) (h2 : 8 <= kv) (hq : ∀ r ∈ x.q, Rb kq r) (hv : ∀ r ∈ x.v, Rb kv r) : (∀ r ∈ Y3 a x, Rb (kv + 9) r) /\ ∀ r ∈ a1t a x, Rb (kq + kv + 10) r := by
 have hV : ∀ r ∈ Y3 a x, Rb (kv + 9) r := fun r hr => by
  obtain ⟨l, hl, v, hv', rfl⟩ := a5s hr
  have h3 := hv v hv'
  have h4 := a9i ((Q9 ha).2 l hl)
  unfold X0
  split
  ·exact J4.mono (by omega)
  split
  ·exact a4P h3 h4 (by omega) (by decide) (by omega)
  ·exact (M9 (h3.fit (by omega)) (h4.fit (by decide))).mono (by omega)
 refine ⟨hV, fun r hr => ?_⟩
 obtain ⟨q, hq', v, hv', rfl⟩ := a5s (show r ∈ a1t a x from hr)
 exact a4P (hq q hq') (hV v hv') h1 (by omega) (by omega)
structure Calm (w : Wk) (s : Stt) (k : Nat) : Prop where
 st : N9 w s = 0
 people : s.people = []
 holds : ∀ x ∈ s.arms, x.holds = -1
 q : ∀ x ∈ s.arms, ∀ r ∈ x.q, Rb (100 + 1000 * k) r
 v : ∀ x ∈ s.arms, ∀ r ∈ x.v, Rb (200 + 20 * k) r
 tick : s.tick = k
 parts : ∀ f ∈ s.parts, Fb 1048576 f
theorem b2p {w : Wk} {s : Stt} {k : Nat} (h : Calm w s k) (hk : k <= 10) : Stb 1048576 s := by
 have ho := O9 h.st
 refine ⟨⟨by have := ho.arms; have := ho.big; omega, fun x hx => ?_⟩, ⟨by have := ho.parts; have := ho.big; omega, h.parts⟩, ⟨by have := ho.people; omega, fun v hv => by rw [h.people] at hv; cases hv⟩, by have := ho.gates; have := ho.big; omega⟩
 obtain ⟨i, hi⟩ := List.getElem?_of_mem hx
 have hil := (c1r.1 hi).1
 have ga := c1n (show i < w.arms.length by have := ho.arms; omega)
 have h1 := a1x (ho.one _ (c1q (H6 ga hi)))
 simp only at h1
 have h2 := (V8 h1.arm).2
 have h3 := h1.q
 have h4 := h1.v
 exact ⟨⟨by omega, fun r hr => (h.q x hx r hr).mono (by omega)⟩, by omega, fun r hr => (h.v x hx r hr).mono (by omega)⟩
theorem b6V {w : Wk} {s : Stt} {k : Nat} {u : List (List Nm.Rt)} {p : List Bool} (h : Calm w s k) (hk : k <= 10) (h2 : u.length = w.arms.length) (h3 : p.length = w.arms.length) : a2H w s u p [] = 0 := by
 unfold a2H
 rw [if_neg (by simp [h.st]), if_neg (by rw [h.people]; simp [h2, h3]), if_neg (by simp), if_neg (by have := h.tick; omega)]
theorem a3m {w : Wk} {s : Stt} {k : Nat} {u : List (List Nm.Rt)} {p : List Bool} (h : Calm w s k) (h2 : u.length = w.arms.length) (h3 : p.length = w.arms.length) : (w.arms.zip (a0A w s u p)).foldl (a3h w) s.parts = s.parts := by
 refine a9W w _ _ fun z hz => ?_
 obtain ⟨x, l, b, hx, hl, e⟩ := b0a (O9 h.st).arms h2 h3 hz
 rw [e, holds_one, h.holds x (List.of_mem_zip hx).2]
 decide
theorem b0y {w : Wk} {s : Stt} {k : Nat} {u : List (List Nm.Rt)} {p : List Bool} (h : Calm w s k) (h2 : u.length = w.arms.length) (h3 : p.length = w.arms.length) (hu : ∀ l ∈ u, ∀ r ∈ l, (p.all fun b => !b) = false -> Rb 150 r) (hk : k <= 10) (hs : N9 w (Y1 w s u p []) = 0) : Calm w (Y1 w s u p []) (k + 1) := by
 have ho := O9 h.st
 have hl := a2s (u := u) (p := p) ho.arms h2 h3
 have key : ∀ y ∈ a0A w s u p, y.holds = -1 /\ (∀ r ∈ y.q, Rb (100 + 1000 * (k + 1)) r) /\ ∀ r ∈ y.v, Rb (200 + 20 * (k + 1)) r := fun y hy => by
  obtain ⟨i, hi⟩ := List.getElem?_of_mem hy
  have hil := (c1r.1 hi).1
  have x0 := c1n (show i < w.arms.length by omega)
  have x1 := c1n (show i < s.arms.length by have := ho.arms; omega)
  have x2 := c1n (show i < u.length by omega)
  have x3 := c1n (show i < p.length by omega)
  rw [a2E x0 x1 x2 x3] at hi
  injection hi with hi
  have m1 := c1q x1
  have m2 := c1q x2
  have m3 := c1q x3
  have h1 := a1x (ho.one _ (c1q (H6 x0 x1)))
  simp only at h1
  generalize w.arms[i]'_ = a at *
  generalize s.arms[i]'_ = x at *
  generalize u[i]'_ = l at *
  generalize p[i]'_ = b at *
  have hb := b2u h1.arm (by omega) (by omega) (h.q x m1) (h.v x m1)
  subst hi
  refine ⟨by rw [holds_one]; exact h.holds x m1, ?_⟩
  unfold Y4
  split
  ·rename_i hc
   simp only [c1t] at hc
   have hnp : (p.all fun b => !b) = false := by
    rw [Bool.eq_false_iff]
    intro hall
    have := List.all_eq_true.1 hall b m3
    rw [hc.1] at this
    cases this
   have hub := fun r hr => hu l m2 r hr hnp
   refine ⟨fun r hr => ?_, fun r hr => (hub r hr).mono (by omega)⟩
   obtain ⟨q, hq, v, hv, rfl⟩ := a5s (show r ∈ mvQ x l from hr)
   exact a4P (h.q x m1 q hq) (hub v hv) (by omega) (by decide) (by omega)
  ·exact ⟨fun r hr => (hb.2 r hr).mono (by omega), fun r hr => (hb.1 r hr).mono (by omega)⟩
 exact ⟨hs, by simp [Y1, h.people], fun x hx => (key x hx).1, fun x hx => (key x hx).2.1, fun x hx => (key x hx).2.2, by have := h.tick; simp only [Y1]; omega, fun f hf => h.parts f (by
  have hf : f ∈ (w.arms.zip (a0A w s u p)).foldl (a3h w) s.parts := hf
  rwa [a3m h h2 h3] at hf)⟩
theorem a8j {l : Lk} (h : M7 l = 0) : Rb 3 l.low /\ Rb 3 l.high /\ Rb 3 l.speed /\ Rb 3 l.brake := by
 unfold M7 at h
 split at h
 ·cases h
 rename_i h2
 have hs2 : (j4 l.length && j4 l.low && j4 l.high && j4 l.speed && j4 l.brake) = true := by
  cases hb : (j4 l.length && j4 l.low && j4 l.high && j4 l.speed && j4 l.brake) with
  | true => rfl
  | false => exact absurd (.inl hb) h2
 simp only [c1t] at hs2
 exact ⟨V3 hs2.1.1.1.2, V3 hs2.1.1.2, V3 hs2.1.2, V3 hs2.2⟩
theorem b4I {w : Wk} (hwb : Wb 1048576 w) (hk : a0p w = 0) (ha : ∀ a ∈ w.arms, J6 a = 0) (hs : ∀ s ∈ w.slots, okF s.frame = true) : Calm w (K7 w) 0 := by
 have hb := b1T (k := 1048576) (by decide) hwb ha hs
 refine ⟨b2n hk ha hs, rfl, fun x hx => ?_, fun x hx r hr => ?_, fun x hx r hr => ?_, rfl, hb.parts.2⟩
 ·obtain ⟨a, _, rfl⟩ := List.mem_map.1 (show x ∈ w.arms.map U4 from hx)
  rfl
 ·obtain ⟨a, hm, rfl⟩ := List.mem_map.1 (show x ∈ w.arms.map U4 from hx)
  obtain ⟨l, hl, rfl⟩ := List.mem_map.1 (show r ∈ a.links.map a0I from hr)
  have h3 := a8j ((Q9 (ha a hm)).2 l hl)
  unfold a0I a1v a0e
  repeat' split
  all_goals first | exact (h3.1.fit (by decide)).mono (by decide) | exact (h3.2.1.fit (by decide)).mono (by decide) | exact J4.mono (by decide)
 ·obtain ⟨a, hm, rfl⟩ := List.mem_map.1 (show x ∈ w.arms.map U4 from hx)
  obtain ⟨l, hl, rfl⟩ := List.mem_map.1 (show r ∈ a.links.map (fun _ => Nm.ofQ 0) from hr)
  exact J4.mono (by decide)
theorem b5v {w : Wk} : ∀ x ∈ (K7 w).arms, ∀ r ∈ x.v, Nm.d9 r = 0 := fun x hx r hr => by
 obtain ⟨a, hm, rfl⟩ := List.mem_map.1 (show x ∈ w.arms.map U4 from hx)
 obtain ⟨l, hl, rfl⟩ := List.mem_map.1 (show r ∈ a.links.map (fun _ => Nm.ofQ 0) from hr)
 exact Nm.E8 0
set_option maxRecDepth 10000
set_option maxHeartbeats 8000000
theorem b5K (x n : Int) (h : 1 <= n) : x % n = (if x.tmod n < 0 then x.tmod n + n else x.tmod n) /\ -n < x.tmod n /\ x.tmod n < n := by
 have hq : x = n * (x.tdiv n) + x.tmod n := (Int.mul_tdiv_add_tmod x n).symm
 have he : x % n = x.tmod n % n := by
  conv => lhs; rw [hq]
  exact Int.mul_add_emod_self_left ..
 have h2 := Int.tmod_lt_of_pos x (show 0 < n by omega)
 have h3 : -n < x.tmod n := by
  have := Int.tmod_lt_of_pos (-x) (show 0 < n by omega)
  rw [Int.neg_tmod] at this
  omega
 refine ⟨?_, h3, h2⟩
 rw [he]
 split
 ·rename_i hc
  have : x.tmod n % n = (x.tmod n + n) % n := by simp
  rw [this]
  exact Int.emod_eq_of_lt (by omega) (by omega)
 ·exact Int.emod_eq_of_lt (by omega) (by omega)
theorem b8f (x n : Int) (h : 1 <= n /\ n <= 4611686018427387904) : F7 Tryz.prog 195 [ints x, ints n] (ints (x % n)) := by
 refine kS Tryz.func195 (by cbv) (by rfl) fun w O => ?_
 simp only [j6, ints]
 have hn : ¬ n = 0 := by omega
 obtain ⟨he, hlt⟩ := b5K x n (by omega)
 (repeat first | refine uA ?_ | (refine uK ?_ ?_; focus first | omega | (intros; simp_all <;> omega)) | simp (disch := omega) only [go_sem, Nat.reduceBEq, Nat.reduceAdd, ww, hn])
 (refine uJ rfl (fun hc => ?_) fun hc => ?_)
 ·rw [he, if_pos hc]
  (repeat first | refine uA ?_ | (refine uK ?_ ?_; focus first | omega | (intros; simp_all <;> omega)) | simp (disch := omega) only [go_sem, Nat.reduceBEq, Nat.reduceAdd, ww])
  exact S.done (j3.out rfl (Imp.refl rfl) rfl)
 ·rw [he, if_neg hc]
  (repeat first | refine uA ?_ | (refine uK ?_ ?_; focus first | omega | (intros; simp_all <;> omega)) | simp (disch := omega) only [go_sem, Nat.reduceBEq, Nat.reduceAdd, ww])
  exact S.done (j3.out rfl (Imp.refl rfl) rfl)
def A8 (l : List Int) : C := .sl 1 (l.map fun n => [.v (.int .i64 n)])
theorem G8 {E : Ctx} (hP : E.P = Tryz.prog) (l : List Int) (n : Int) (h : 1 <= n /\ n <= 4611686018427387904) :
  l6 E [.box 209 [A8 l]] 151 [.bp 0 0, ints n] (ints (nx l n)) [.box 209 [A8 (l.drop 1)]] [] := by
 obtain ⟨P, eff', N, w0, own0, av0, nu0, pk0⟩ := E
 simp only at hP
 subst hP
 refine l6.of (eff := eff) Tryz.func151 (by cbv) (by exact c1E rfl) fun w own av ν hν => ?_
 have hν0 : ν.length <= 1 := by rw [hν]; exact c1w _
 have hn1 : decide (n < 1) = false := decide_eq_false (by omega)
 cases l with
 | nil =>
  have e : nx [] n = 0 := by unfold nx; rw [List.headD_nil, Int.zero_emod]
  rw [e]
  simp only [j6, A8, ints, List.drop_nil, c2b]
  (repeat first | refine uA ?_ | (refine uK ?_ ?_; focus first | omega | (intros; simp_all <;> omega)) | simp (disch := omega) only [go_sem, Nat.reduceBEq, Nat.reduceAdd, ww, hn1, List.length_nil])
  refine S.cond rfl (fun hc => ?_) (fun hc => by simp at hc)
  (repeat first | refine uA ?_ | (refine uK ?_ ?_; focus first | omega | (intros; simp_all <;> omega)) | simp (disch := omega) only [go_sem, Nat.reduceBEq, Nat.reduceAdd, ww])
  (refine S.done ?_; simp only [q8, l9, go_sem, Nat.reduceBEq, Nat.reduceAdd, Nat.reduceLeDiff, Int.reduceToNat, Int.reducePow]; (repeat (refine ⟨?_, ?_⟩; focus first | trivial | omega | simp)); exact j3.O0 (Imp.refl rfl) (by (repeat first | refine uA ?_ | (refine ⟨?_, ?_⟩; focus first | rfl | simp [slot]) | rfl | simp)) (c1s hν0 (by simp)))
 | cons x r =>
  have e : nx (x :: r) n = x % n := by unfold nx; rw [List.headD_cons]
  rw [e]
  have hb := b8f x n h
  have h0 : decide (((r.length : Int) + 1) = 0) = false := decide_eq_false (by omega)
  simp only [j6, A8, ints, c1F, List.drop_succ_cons, List.drop_zero] at *
  (repeat first | refine uA ?_ | (refine uK ?_ ?_; focus first | omega | (intros; simp_all <;> omega)) | simp (disch := omega) only [go_sem, Nat.reduceBEq, Nat.reduceAdd, ww, hn1, h0, c1I, c1o] | (refine uB hb ?_ ?_; exact rfl))
  refine S.cond rfl (fun hc => by simp at hc; omega) (fun hc => ?_)
  (repeat first | refine uA ?_ | (refine uK ?_ ?_; focus first | omega | (intros; simp_all <;> omega)) | simp (disch := omega) only [go_sem, Nat.reduceBEq, Nat.reduceAdd, ww, hn1, c1I, c1o, List.getElem?_cons_zero, a5r, List.take_succ_cons, List.drop_succ_cons, Nat.add_sub_cancel, c1N] | (refine uB hb ?_ ?_; exact rfl))
  (refine S.done ?_; simp only [q8, l9, go_sem, Nat.reduceBEq, Nat.reduceAdd, Nat.reduceLeDiff, Int.reduceToNat, Int.reducePow]; (repeat (refine ⟨?_, ?_⟩; focus first | trivial | omega | simp)); exact j3.O0 (Imp.refl rfl) (by (repeat first | refine uA ?_ | (refine ⟨?_, ?_⟩; focus first | rfl | simp [slot]) | rfl | simp)) (c1s hν0 (by simp)))
set_option maxRecDepth 100000
set_option maxHeartbeats 4000000
def nuI (a : Nm.Rt) : Int := Nm.sgn a.neg (Nm.val a.num)
def deI (a : Nm.Rt) : Int := max (Nm.val a.den : Int) 1
def a8A (x : Lk) (k : Int) : Nm.Rt := Q (8 * nuI x.low * deI x.high + (nuI x.high * deI x.low - nuI x.low * deI x.high) * k) (8 * deI x.low * deI x.high)
def Y2 : List Lk -> List Int -> List Nm.Rt
 | [], _ => []
 | x :: r, l => a8A x (nx l 9) :: Y2 r (l.drop 1)
theorem a4s : ∀ (L : List Lk) (l : List Int), (Y2 L l).length = L.length
 | [], _ => rfl
 | x :: r, l => by rw [Y2, c1I, c1I, a4s r]
theorem a8Q : ∀ (L : List Lk) (l : List Int) (i : Nat) (x : Lk), L[i]? = some x -> Y2 (L.take (i + 1)) l = Y2 (L.take i) l ++ [a8A x (nx (l.drop i) 9)]
 | [], _, i, x, h => by simp at h
 | y :: r, l, 0, x, h => by
  simp only [List.getElem?_cons_zero, Option.some.injEq] at h
  subst h
  simp [Y2]
 | y :: r, l, i + 1, x, h => by
  rw [List.getElem?_cons_succ] at h
  have := a8Q r (l.drop 1) i x h
  rw [List.take_succ_cons, Y2, this, List.take_succ_cons, Y2, List.cons_append, List.drop_drop]
  rw [show 1 + i = i + 1 by omega]
theorem a8W {a d A D : Int} (h : -A <= a /\ a <= A) (hd : 0 <= d /\ d <= D) (hA : 0 <= A) : -(A * D) <= a * d /\ a * d <= A * D := by
 have h1 := Int.mul_le_mul_of_nonneg_right h.2 hd.1
 have h2 := Int.mul_le_mul_of_nonneg_right h.1 hd.1
 have h3 := Int.mul_le_mul_of_nonneg_left hd.2 hA
 rw [Int.neg_mul] at h2
 omega
theorem a9k {a : Nm.Rt} (h : j4 a = true) : (-1000000 <= nuI a /\ nuI a <= 1000000) /\ 1 <= deI a /\ deI a <= 1000 := by
 unfold j4 at h
 simp only [c1t, c1v] at h
 obtain ⟨⟨_, h1⟩, h2⟩ := h
 unfold nuI deI Nm.sgn
 split <;> omega
structure b8j (x : Lk) (k : Int) : Prop where
 n1 : -1000000 <= nuI x.low /\ nuI x.low <= 1000000
 n2 : -1000000 <= nuI x.high /\ nuI x.high <= 1000000
 d1 : 1 <= deI x.low /\ deI x.low <= 1000
 d2 : 1 <= deI x.high /\ deI x.high <= 1000
 p1 : -1000000000 <= nuI x.low * deI x.high /\ nuI x.low * deI x.high <= 1000000000
 p2 : -1000000000 <= nuI x.high * deI x.low /\ nuI x.high * deI x.low <= 1000000000
 p3 : -16000000000 <= (nuI x.high * deI x.low - nuI x.low * deI x.high) * k /\ (nuI x.high * deI x.low - nuI x.low * deI x.high) * k <= 16000000000
 p4 : 1 <= deI x.low * deI x.high /\ deI x.low * deI x.high <= 1000000
 p5 : 8 * nuI x.low * deI x.high = 8 * (nuI x.low * deI x.high)
 p6 : 8 * deI x.low * deI x.high = 8 * (deI x.low * deI x.high)
theorem b3Q {x : Lk} {k : Int} (h1 : j4 x.low = true) (h2 : j4 x.high = true) (hk : 0 <= k /\ k <= 8) : b8j x k := by
 obtain ⟨n1, d1⟩ := a9k h1
 obtain ⟨n2, d2⟩ := a9k h2
 have p1 := a8W (A := 1000000) (D := 1000) n1 (d := deI x.high) (by omega) (by decide)
 have p2 := a8W (A := 1000000) (D := 1000) n2 (d := deI x.low) (by omega) (by decide)
 have p3 := a8W (A := 2000000000) (D := 8) (a := nuI x.high * deI x.low - nuI x.low * deI x.high) (d := k) (by omega) hk (by decide)
 have p4 := a8W (A := 1000) (D := 1000) (a := deI x.low) (d := deI x.high) (by omega) (by omega) (by decide)
 have p5 : 0 < deI x.low * deI x.high := Int.mul_pos (by omega) (by omega)
 exact ⟨n1, n2, d1, d2, by omega, by omega, by omega, by omega, Int.mul_assoc _ _ _, Int.mul_assoc _ _ _⟩
theorem c1d {n d : Int} (hn : -1099511627776 <= n /\ n <= 1099511627776) (hd : 1 <= d /\ d <= 1099511627776) : Rb 8 (Q n d) := by
 obtain ⟨g, hg, ⟨k, h1, h2⟩, h3⟩ := a8a n d hd.1
 have hk : k.natAbs <= 1099511627776 := by
  have : n.natAbs = g * k.natAbs := by rw [h1, Int.natAbs_mul]; simp
  have : k.natAbs <= g * k.natAbs := Nat.le_mul_of_pos_left _ hg
  omega
 have e : (256 : Nat) ^ 8 = 18446744073709551616 := by decide
 refine ⟨Nm.F8 ?_, Nm.F8 ?_⟩
 ·show (mkRat n d.toNat).num.natAbs < 256 ^ 8
  rw [h2, e]; omega
 ·show (mkRat n d.toNat).den < 256 ^ 8
  rw [e]; omega
theorem b9g {x : Lk} {k : Int} (h : b8j x k) : Rb 8 (a8A x k) := by
 obtain ⟨n1, n2, d1, d2, p1, p2, p3, p4, p5, p6⟩ := h
 exact c1d (by omega) (by omega)
theorem nx9 (l : List Int) : 0 <= nx l 9 /\ nx l 9 <= 8 := by
 have := l7 l (n := 9) (by decide)
 have := C9 l (n := 9) (by decide)
 omega
theorem b4h {l : Lk} (h : M7 l = 0) : j4 l.low = true /\ j4 l.high = true := by
 unfold M7 at h
 split at h
 ·cases h
 rename_i h2
 have hs2 : (j4 l.length && j4 l.low && j4 l.high && j4 l.speed && j4 l.brake) = true := by
  cases hb : (j4 l.length && j4 l.low && j4 l.high && j4 l.speed && j4 l.brake) with
  | true => rfl
  | false => exact absurd (.inl hb) h2
 simp only [c1t] at hs2
 exact ⟨hs2.1.1.1.2, hs2.1.1.2⟩
theorem a7Y : ∀ (L : List Lk) (l : List Int), (∀ x ∈ L, M7 x = 0) -> ∀ r ∈ Y2 L l, Rb 8 r
 | [], _, _, r, hr => by cases hr
 | x :: L, l, h, r, hr => by
  rw [Y2] at hr
  rcases List.mem_cons.1 hr with rfl | hr
  ·obtain ⟨s1, s2⟩ := b4h (h x (by simp))
   exact b9g (b3Q s1 s2 (nx9 l))
  ·exact a7Y L _ (fun y hy => h y (by simp [hy])) r hr
theorem a3G (l : List UInt8) (b : UInt8) : Nm.val (l ++ [b]) = 256 * Nm.val l + b.toNat := by
 unfold Nm.val
 rw [List.foldl_append]
 rfl
theorem b2L {l : List UInt8} (h : l.length <= 3) (i : Nat) : Nm.val (l.take i) < 16777216 := by
 have h1 := Nm.V6 (l.take i)
 have h2 : (l.take i).length <= 3 := by rw [c1y]; omega
 have h3 : (256 : Nat) ^ (l.take i).length <= 256 ^ 3 := c1O (by decide) h2
 have e : (256 : Nat) ^ 3 = 16777216 := by decide
 omega
def a5G (x : Lk) (c q : Nm.Rt) : Nm.Rt := Nm.ofQ (a1v (-(Nm.d9 x.speed)) (a0e (Nm.d9 x.speed) (Nm.d9 c - Nm.d9 q)))
def a6U (L : List Lk) (c q : List Nm.Rt) : List Nm.Rt := (L.zip (c.zip q)).map fun z => a5G z.1 z.2.1 z.2.2
def a3q (z : List (Am × Ast)) (to : List Int) (i : Nat) : List Nm.Rt := match z[i]? with
 | some (a, x) => a6U a.links (Y2 a.links (to.drop (3 * i))) x.q
 | none => []
def U9 (z : List (Am × Ast)) (to : List Int) (n : Nat) : List (List Nm.Rt) := (List.range n).map (a3q z to)
theorem b4L (z : List (Am × Ast)) (to : List Int) (n : Nat) : U9 z to (n + 1) = U9 z to n ++ [a3q z to n] := by
 unfold U9
 rw [List.range_succ, c2f]
 rfl
theorem a1e (z : List (Am × Ast)) (to : List Int) (n : Nat) : (U9 z to n).length = n := by unfold U9; simp
theorem b5H {L : List Lk} {c q : List Nm.Rt} {i : Nat} {l : Lk} {x y : Nm.Rt} (h1 : L[i]? = some l) (h2 : c[i]? = some x) (h3 : q[i]? = some y) : (a6U L c q)[i]? = some (a5G l x y) := by
 unfold a6U
 rw [c1Z, H6 h1 (H6 h2 h3)]
 rfl
theorem b6c {L : List Lk} {c q : List Nm.Rt} (h1 : c.length = L.length) (h2 : q.length = L.length) : (a6U L c q).length = L.length := by
 unfold a6U; simp only [c1o, List.length_zip]; omega
theorem b8g {α : Type} (l : List α) (n : Nat) : l.drop (min l.length n) = l.drop n := by
 rcases Nat.le_total l.length n with h | h
 ·rw [Nat.min_eq_left h, List.drop_eq_nil_of_le h, List.drop_eq_nil_of_le (c1w _)]
 ·rw [Nat.min_eq_right h]
theorem b7z {x : Lk} {c q : Nm.Rt} {k : Nat} (hs : Rb 3 x.speed) (hc : Rb 8 c) (hq : Rb k q) (hk : 8 <= k) : Rb (k + 9) (a5G x c q) := by
 have h1 : Rb (k + 9) (Nm.ofQ (Nm.d9 c - Nm.d9 q)) := (M9 (hc.fit (by decide)) (hq.fit (by omega))).mono (by omega)
 have h2 : Rb (k + 9) (Nm.ofQ (Nm.d9 x.speed)) := (hs.fit (by decide)).mono (by omega)
 have h3 : Rb (k + 9) (Nm.ofQ (-(Nm.d9 x.speed))) := (b2V hs (by decide)).mono (by omega)
 unfold a5G a1v a0e
 repeat' split
 all_goals assumption
structure b1h (w : Wk) (s : Stt) (k : Nat) : Prop where
 st : N9 w s = 0
 q : ∀ x ∈ s.arms, ∀ r ∈ x.q, Rb (100 + 1000 * k) r
theorem Calm.b2o {w : Wk} {s : Stt} {k : Nat} (h : Calm w s k) : b1h w s k := ⟨h.st, h.q⟩
theorem b2J {w : Wk} {s : Stt} {to : List Int} {k i : Nat} (h : b1h w s k) {r : Nm.Rt} (hr : r ∈ a3q (w.arms.zip s.arms) to i) : Rb (109 + 1000 * k) r := by
 unfold a3q at hr
 split at hr
 ·rename_i a x hz
  have hm := c1q hz
  have ho := a1x ((O9 h.st).one _ hm)
  simp only at ho
  have hl := (Q9 ho.arm).2
  obtain ⟨z, hz2, rfl⟩ := List.mem_map.1 hr
  obtain ⟨z1, z2, z3⟩ := z
  have m1 := (List.of_mem_zip hz2).1
  have m2 := (List.of_mem_zip (List.of_mem_zip hz2).2).1
  have m3 := (List.of_mem_zip (List.of_mem_zip hz2).2).2
  exact (b7z (a8j (hl z1 m1)).2.2.1 (a7Y _ _ hl z2 m2) (h.q x (List.of_mem_zip hm).2 z3 m3) (by omega)).mono (by omega)
 ·cases hr
theorem b0h {w : Wk} {s : Stt} {to : List Int} {k i : Nat} (h : b1h w s k) {a : Am} (ha : w.arms[i]? = some a) : (a3q (w.arms.zip s.arms) to i).length = a.links.length := by
 have hok := O9 h.st
 have hil := (c1r.1 ha).1
 have hx := c1n (show i < s.arms.length by have := hok.arms; omega)
 have hz := H6 ha hx
 have ho := a1x (hok.one _ (c1q hz))
 simp only at ho
 unfold a3q
 rw [hz]
 exact b6c (a4s _ _) ho.q
theorem b3W {w : Wk} {s : Stt} {to : List Int} {k : Nat} (h : b1h w s k) (hk : k <= 10) : Wsb 1048576 (U9 (w.arms.zip s.arms) to w.arms.length) := by
 have hok := O9 h.st
 refine ⟨by rw [a1e]; have := hok.big; omega, fun l hl => ?_⟩
 obtain ⟨i, hi, rfl⟩ := List.mem_map.1 hl
 have hi := List.mem_range.1 hi
 have ha := c1n hi
 have hx := c1n (show i < s.arms.length by have := hok.arms; omega)
 have ho := a1x (hok.one _ (c1q (H6 ha hx)))
 simp only at ho
 have h3 := (V8 ho.arm).2
 exact ⟨by rw [b0h h ha]; omega, fun r hr => (b2J h hr).mono (by omega)⟩
set_option maxRecDepth 10000
set_option maxHeartbeats 8000000
def a6o (l : List UInt8) (i : Nat) (out : List UInt8) : Prop :=
 out.length = l.length /\ ∀ k, k < l.length -> out[k]? = if k < i \/ l.length - i <= k then l[l.length - 1 - k]? else l[k]?
theorem b3z (l : List UInt8) : a6o l 0 l := ⟨rfl, fun k hk => by rw [if_neg (by omega)]⟩
theorem b3l {l out : List UInt8} {i : Nat} {x y : UInt8} (h : a6o l i out) (hi : i + 1 < l.length - i) (hx : out[i]? = some x) (hy : out[l.length - 1 - i]? = some y) : a6o l (i + 1) ((out.set i y).set (l.length - 1 - i) x) := by
 obtain ⟨h1, h2⟩ := h
 have e1 := h2 i (by omega)
 have e2 := h2 (l.length - 1 - i) (by omega)
 rw [if_neg (by omega), hx] at e1
 rw [if_neg (by omega), hy] at e2
 refine ⟨by simp [h1], fun k hk => ?_⟩
 by_cases k1 : k = l.length - 1 - i
 ·subst k1
  rw [List.getElem?_set_self (by simp; omega), if_pos (by omega), e1]
  congr 1
  omega
 ·rw [List.getElem?_set_ne (fun e => k1 e.symm)]
  by_cases k2 : k = i
  ·subst k2
   rw [List.getElem?_set_self (by omega), if_pos (by omega), e2]
  ·rw [List.getElem?_set_ne (fun e => k2 e.symm), h2 k hk]
   by_cases k3 : k < i \/ l.length - i <= k
   ·rw [if_pos k3, if_pos (by omega)]
   ·rw [if_neg k3, if_neg (by omega)]
theorem b4K {l out : List UInt8} {i : Nat} (h : a6o l i out) (hi : l.length - i <= i + 1) : out = l.reverse := by
 obtain ⟨h1, h2⟩ := h
 apply List.ext_getElem?
 intro k
 rcases c1Q k l.length with hk | hk
 ·rw [h2 k hk, List.getElem?_reverse hk]
  by_cases k3 : k < i \/ l.length - i <= k
  ·rw [if_pos k3]
  ·rw [if_neg k3, show l.length - 1 - k = k by omega]
 ·rw [c1R (by omega), c1R (by simp; omega)]
theorem c0L {E : Ctx} (hP : E.P = Tryz.prog) (l : List UInt8) (hl : l.length <= 1099511627776) : l6 E [.row 5 1 (l.map E5)] 214 [.rv 0] (.tup []) [.row 5 1 (l.reverse.map E5)] [] := by
 obtain ⟨P, eff', N, w0, own0, av0, nu0, pk0⟩ := E
 simp only at hP
 subst hP
 refine l6.of (eff := eff) Tryz.func214 (by cbv) (by exact c1E rfl) fun w own av ν hν => ?_
 have hν0 : ν.length <= 1 := by rw [hν]; exact c1w _
 simp only [j6]
 (repeat first | refine uA ?_ | (refine uK ?_ ?_; focus first | omega | (intros; simp_all <;> omega)) | simp (disch := omega) only [go_sem, Nat.reduceBEq, Nat.reduceAdd, ww, c1o])
 refine S.loop (X := Nat × List UInt8) (fun x => ⟨[(0, .rv 0), (2, ints x.1), (3, ints ((l.length : Int) - 1 - (x.1 : Int)))], [.row 5 1 (x.2.map E5)]⟩) (fun x => x.1 <= l.length /\ a6o l x.1 x.2) (fun x => l.length - x.1) (0, l) ⟨c1u _, b3z l⟩ (by simp only [Int.natCast_zero, Int.sub_zero]; exact (by (repeat first | refine uA ?_ | (refine ⟨?_, ?_⟩; focus first | rfl | simp [slot]) | rfl | simp | exact c1s hν0 (by simp)))) ?_
 rintro ⟨i, out⟩ ⟨hi, hinv⟩
 simp only [ints] at hi hinv ⊢
 have hol := hinv.1
 (repeat first | refine uA ?_ | (refine uK ?_ ?_; focus first | omega | (intros; simp_all <;> omega)) | simp (disch := omega) only [go_sem, Nat.reduceBEq, Nat.reduceAdd, ww])
 (refine uJ rfl (fun hc => ?_) fun hc => ?_)
 ·have gi : out[i]? = some (out[i]'(by omega)) := c1n (by omega)
  have gj : out[l.length - 1 - i]? = some (out[l.length - 1 - i]'(by omega)) := c1n (by omega)
  have hst := b3l hinv (by omega) gi gj
  have hsk : l.length - 1 - i ≠ i := by omega
  generalize out[i]'_ = xi at *
  generalize out[l.length - 1 - i]'_ = xj at *
  have gj2 : (out.set i xj)[l.length - 1 - i]? = some xj := by rw [List.getElem?_set_ne (Ne.symm hsk)]; exact gj
  have n0 : ((l.length : Int) - 1 - (i : Int)).toNat = l.length - 1 - i := by omega
  have e1 : (out.map E5).set i [.v (.int .u8 ((xj.toNat : Nat) : Int))] = (out.set i xj).map E5 := a2S out i xj
  have e2 : ((out.set i xj).map E5).set (l.length - 1 - i) [.v (.int .u8 ((xi.toNat : Nat) : Int))] = ((out.set i xj).set (l.length - 1 - i) xi).map E5 := a2S _ _ _
  have hr : (l.length : Int) - 1 - ((i + 1 : Nat) : Int) = (l.length : Int) - 1 - (i : Int) - 1 := by omega
  (repeat first | refine uA ?_ | (refine uK ?_ ?_; focus first | omega | (intros; simp_all <;> omega)) | simp (disch := omega) only [go_sem, Nat.reduceBEq, Nat.reduceAdd, ww, c1o, gi, gj, gj2, n0, e1, e2, E5, c1p, c1x, c2a])
  refine S.next (x := (i, out)) (i + 1, _) ⟨by simp only; omega, hst⟩ (by simp only; omega) (by simp only [hr]; exact (by (repeat first | refine uA ?_ | (refine ⟨?_, ?_⟩; focus first | rfl | simp [slot]) | rfl | simp | exact c1s hν0 (by simp))))
 ·have := b4K hinv (by omega)
  subst this
  (repeat first | refine uA ?_ | (refine uK ?_ ?_; focus first | omega | (intros; simp_all <;> omega)) | simp (disch := omega) only [go_sem, Nat.reduceBEq, Nat.reduceAdd, ww])
  exact S.end_ (j3.own rfl)
theorem b2i (n : Nat) (hn : n < 4611686018427387904) : F7 Tryz.prog 196 [.v (.int .i64 (n : Int))] (sb (Nm.enc n)) := by
  refine kS Tryz.func196 (by cbv) (by rfl) fun w O => ?_
  have h8 : (Nm.enc n).length <= 8 := Nm.F8 (by omega)
  simp only [j6, sb]
  (repeat first | refine uA ?_ | (refine uK ?_ ?_; focus first | omega | (intros; simp_all <;> omega)) | simp (disch := omega) only [go_sem, Nat.reduceBEq, Nat.reduceAdd, ww])
  refine S.loop (X := Nat × List UInt8) (fun x => ⟨[(0, ints x.1), (3, .rv 0)], [.row 5 1 (x.2.map E5)]⟩) (fun x => x.1 <= n /\ Nm.enc x.1 ++ x.2.reverse = Nm.enc n) (fun x => x.1) (n, []) ⟨c1w _, by simp⟩ (Ent.trans (Ent.pack 3 5 1 rfl) (by (repeat first | refine uA ?_ | (refine ⟨?_, ?_⟩; focus first | rfl | simp [slot]) | rfl | simp))) ?_
  rintro ⟨m, out⟩ ⟨hm, hinv⟩
  simp only [ints] at hm hinv ⊢
  have hol : out.length <= 8 := by
    have := congrArg List.length hinv
    simp only [c1C, List.length_reverse] at this
    omega
  (repeat first | refine uA ?_ | (refine uK ?_ ?_; focus first | omega | (intros; simp_all <;> omega)) | simp (disch := omega) only [go_sem, Nat.reduceBEq, Nat.reduceAdd, ww])
  (refine uJ rfl (fun hc => ?_) fun hc => ?_)
  · have he : Nm.enc m = Nm.enc (m / 256) ++ [UInt8.ofNat (m % 256)] := by
      conv => lhs; unfold Nm.enc
      rw [if_neg (by omega)]
    have hb : (UInt8.ofNat (m % 256)).toNat = m % 256 := by simp
    have h1 : IntKind.u8.wrap (Int.tmod (m : Int) 256) = (((UInt8.ofNat (m % 256)).toNat : Nat) : Int) := by
      rw [hb, show Int.tmod (m : Int) 256 = ((m % 256 : Nat) : Int) from rfl, a1z]
      omega
    have h2 : Int.tdiv (m : Int) 256 = ((m / 256 : Nat) : Int) := rfl
    have hap : Nm.enc (m / 256) ++ (out ++ [UInt8.ofNat (m % 256)]).reverse = Nm.enc n := by
      rw [List.reverse_append, <- hinv, he]
      simp
    generalize UInt8.ofNat (m % 256) = b at *
    (repeat first | refine uA ?_ | (refine uK ?_ ?_; focus first | omega | (intros; simp_all <;> omega)) | simp (disch := omega) only [go_sem, Nat.reduceBEq, Nat.reduceAdd, ww, c1o, h1, h2])
    refine S.next (x := (m, out)) (m / 256, out ++ [b]) ⟨by simp only; omega, hap⟩ (by simp only; omega) (by simp only [c2f, c1F, c2b, E5]; exact (by (repeat first | refine uA ?_ | (refine ⟨?_, ?_⟩; focus first | rfl | simp [slot]) | rfl | simp)))
  · have h0 : m = 0 := by omega
    subst h0
    rw [Nm.a0V, List.nil_append] at hinv
    have hr := fun (E : Ctx) (hP : E.P = Tryz.prog) => c0L hP out (by omega)
    rw [hinv] at hr
    (repeat first | refine uA ?_ | (refine uK ?_ ?_; focus first | omega | (intros; simp_all <;> omega)) | simp (disch := omega) only [go_sem, Nat.reduceBEq, Nat.reduceAdd, ww, U3, a3s] | refine l8.t (l6.lift (k := 0) rfl (hr _ rfl) rfl rfl rfl) ?_)
    exact S.done (j3.out rfl (Imp.refl rfl) rfl)
theorem b7J (a b : Nat) (h : 0 < b) : Nat.gcd b (a % b) = Nat.gcd a b := by
 rw [Nat.gcd_comm b, <- Nat.gcd_rec, Nat.gcd_comm]
theorem a1l (n d : Int) (hn : -1099511627776 <= n /\ n <= 1099511627776) (hd : 1 <= d /\ d <= 1099511627776) : F7 Tryz.prog 156 [ints n, ints d] (rc (Q n d)) := by
 refine kS Tryz.func156 (by cbv) (by rfl) fun w O => ?_
 obtain ⟨m, rfl⟩ : ∃ m : Nat, d = m := ⟨d.toNat, by omega⟩
 have hq : Q n m = Nm.ofQ (mkRat (Nm.sgn (decide (n < 0)) n.natAbs) m) := by
  unfold Q
  have : Nm.sgn (decide (n < 0)) n.natAbs = n := by unfold Nm.sgn; by_cases h : n < 0 <;> simp [h] <;> omega
  rw [this, c1x]
 rw [hq, <- Nm.a9l _ (by omega)]
 have hmx : (if n < -n then -n else n) = ((n.natAbs : Nat) : Int) := by split <;> omega
 have hwn : IntKind.i64.wrap (0 - n) = -n := by rw [Eng.wrap_i64 (by omega)]; omega
 have hgp : 0 < Nat.gcd n.natAbs m := Nat.gcd_pos_of_pos_right _ (by omega)
 simp only [j6, ints]
 (repeat first | refine uA ?_ | (refine uK ?_ ?_; focus first | omega | (intros; simp_all <;> omega)) | simp (disch := omega) only [go_sem, Nat.reduceBEq, Nat.reduceAdd, ww, hwn, hmx])
 refine S.loop (X := Nat × Nat) (fun x => ⟨[(0, ints n), (1, ints m), (4, .bp 0 0), (5, ints x.1), (6, ints x.2)], [.box 28 [.v (.bool false), .v (.string ⟨#[]⟩), .v (.string ⟨#[]⟩)]]⟩) (fun x => Nat.gcd x.1 x.2 = Nat.gcd n.natAbs m /\ x.1 <= 1099511627776 /\ x.2 <= 1099511627776) (fun x => x.2) (n.natAbs, m) ⟨rfl, by omega, by omega⟩ (by (repeat first | refine uA ?_ | (refine ⟨?_, ?_⟩; focus first | rfl | simp [slot]) | rfl | simp)) ?_
 rintro ⟨a, b⟩ ⟨hg, ha, hb⟩
 simp only [ints] at hg ha hb ⊢
 (repeat first | refine uA ?_ | (refine uK ?_ ?_; focus first | omega | (intros; simp_all <;> omega)) | simp (disch := omega) only [go_sem, Nat.reduceBEq, Nat.reduceAdd, ww])
 (refine uJ rfl (fun hc => ?_) fun hc => ?_)
 ·have h1 : Int.tmod (a : Int) (b : Int) = ((a % b : Nat) : Int) := rfl
  have hlt : a % b < b := Nat.mod_lt _ (by omega)
  have hb0 : ¬ ((b : Int) = 0) := by omega
  (repeat first | refine uA ?_ | (refine uK ?_ ?_; focus first | omega | (intros; simp_all <;> omega)) | simp (disch := omega) only [go_sem, Nat.reduceBEq, Nat.reduceAdd, ww, h1, hb0])
  refine S.next (x := (a, b)) (b, a % b) ⟨by simp only; rw [b7J a b (by omega)]; exact hg, by simp only; omega, by simp only; omega⟩ (by simp only; omega) (by (repeat first | refine uA ?_ | (refine ⟨?_, ?_⟩; focus first | rfl | simp [slot]) | rfl | simp))
 ·have hb0 : b = 0 := by omega
  subst hb0
  rw [Nat.gcd_zero_right] at hg
  subst hg
  have ha0 : ¬ (((Nat.gcd n.natAbs m : Nat) : Int) = 0) := by omega
  generalize hgg : Nat.gcd n.natAbs m = g at *
  have hdvn : g ∣ n.natAbs := by rw [<- hgg]; exact Nat.gcd_dvd_left ..
  have e2 : Int.tdiv (m : Int) (g : Int) = ((m / g : Nat) : Int) := rfl
  obtain ⟨k, hk⟩ := hdvn
  have hkq : n.natAbs / g = k := by rw [hk]; exact Nat.mul_div_cancel_left _ hgp
  have e1 : Int.tdiv n (g : Int) = Nm.sgn (decide (n < 0)) k := by
   have h3 : (n : Int) = (g : Int) * Nm.sgn (decide (n < 0)) k := by
    have h4 : ((n.natAbs : Nat) : Int) = (g : Int) * (k : Int) := by rw [hk]; simp
    unfold Nm.sgn
    by_cases h : n < 0
    ·simp only [h, decide_true, if_true, Int.mul_neg]; omega
    ·simp only [h, decide_false, c1X, if_false]; omega
   rw [show Int.tdiv n (g : Int) = Int.tdiv ((g : Int) * Nm.sgn (decide (n < 0)) k) (g : Int) from congrArg (fun z => Int.tdiv z (g : Int)) h3]
   exact Int.mul_tdiv_cancel_left _ (by omega)
  have hkb : k <= 1099511627776 := by
   have : k <= g * k := Nat.le_mul_of_pos_left k hgp
   omega
  have hmb : m / g <= m := Nat.div_le_self _ _
  have hs : -1099511627776 <= Nm.sgn (decide (n < 0)) k /\ Nm.sgn (decide (n < 0)) k <= 1099511627776 := by unfold Nm.sgn; split <;> omega
  have hneg : decide (Nm.sgn (decide (n < 0)) k < 0) = (decide (n < 0) && !decide (k = 0)) := by
   unfold Nm.sgn
   by_cases h : n < 0
   ·by_cases h0 : k = 0
    ·subst h0; simp [h]
    ·simp [h, h0]; try omega
   ·simp [h]; try omega
  have hab : (if Nm.sgn (decide (n < 0)) k < -(Nm.sgn (decide (n < 0)) k) then -(Nm.sgn (decide (n < 0)) k) else Nm.sgn (decide (n < 0)) k) = ((k : Nat) : Int) := by unfold Nm.sgn; split <;> split <;> omega
  have hws : IntKind.i64.wrap (0 - Nm.sgn (decide (n < 0)) k) = -(Nm.sgn (decide (n < 0)) k) := by rw [Eng.wrap_i64 (by omega)]; omega
  have hwm : IntKind.i64.wrap ((m / g : Nat) : Int) = ((m / g : Nat) : Int) := by
   generalize m / g = z at *
   exact Eng.wrap_i64 (by omega)
  have d1 := b2i k (by omega)
  have d2 := b2i (m / g) (by omega)
  have hres : (if n.natAbs = 0 then Nm.a2O else ⟨decide (n < 0), Nm.enc (n.natAbs / g), Nm.enc (m / g)⟩ : Nm.Rt) = ⟨decide (n < 0) && !decide (k = 0), Nm.enc k, Nm.enc (m / g)⟩ := by
   rw [hkq]
   by_cases h0 : n.natAbs = 0
   ·have hn0 : n = 0 := by omega
    subst hn0
    have hk0 : k = 0 := by
     rcases c1K k with h | h
     ·exact h
     ·have := Nat.mul_pos hgp h; omega
    have hgm : g = m := by rw [<- hgg]; simp
    subst hk0
    have h1 : m / g = 1 := by rw [hgm]; exact Nat.div_self (by omega)
    rw [h1, Nm.a1T, Nm.a0V]
    rfl
   ·have hk0 : k ≠ 0 := by intro h; subst h; omega
    rw [if_neg h0]
    simp [hk0]
  rw [hres]
  rw [<- hneg]
  simp only [rc, sb] at d1 d2 ⊢
  generalize Nm.sgn (decide (n < 0)) k = s at *
  (repeat first | refine uA ?_ | (refine uK ?_ ?_; focus first | omega | (intros; simp_all <;> omega)) | simp (disch := omega) only [go_sem, Nat.reduceBEq, Nat.reduceAdd, ww, ha0, e1, e2, hws, hab, hwm] | (refine uB d1 ?_ ?_; exact rfl) | (refine uB d2 ?_ ?_; exact rfl))
  (refine S.done ?_; simp only [q8, l9, go_sem, Nat.reduceBEq, Nat.reduceAdd, Nat.reduceLeDiff, Int.reduceToNat, Int.reducePow]; (repeat (refine ⟨?_, ?_⟩; focus first | trivial | omega | simp)); exact j3.out rfl (Imp.refl rfl) rfl)
set_option maxRecDepth 100000
set_option maxHeartbeats 16000000
theorem a9b {n : Int} (h : -9223372036854775808 <= n /\ n <= 9223372036854775807) : IntKind.i64.wrap n = n := by
 rw [show IntKind.i64.wrap n = if n % 18446744073709551616 >= 9223372036854775808 then n % 18446744073709551616 - 18446744073709551616 else n % 18446744073709551616 by simp [IntKind.wrap, IntKind.signed, IntKind.bits]]
 split <;> omega
theorem a8X (a : Nm.Rt) (h : j4 a = true) : F7 Tryz.prog 202 [rc a] (.tup [ints (nuI a), ints (deI a)]) := by
 refine kS Tryz.func202 (by cbv) (by rfl) fun w O => ?_
 have hI := a9k h
 have hn : a.num.length <= 3 := (V3 h).1
 have hd : a.den.length <= 3 := (V3 h).2
 unfold nuI deI Nm.sgn at *
 obtain ⟨neg, num, den⟩ := a
 simp only at hI hn hd ⊢
 simp only [j6]
 simp only [rc, sb, ints]
 (repeat first | refine uA ?_ | (refine uK ?_ ?_; focus first | omega | (intros; simp_all <;> omega)) | simp (disch := omega) only [go_sem, Nat.reduceBEq, Nat.reduceAdd, ww, D7])
 refine S.loop (X := Nat) (fun i => ⟨[(1, .bp 0 0), (4, ints (Nm.val (num.take i))), (5, ints 0), (12, .sl 1 (num.map E5)), (13, ints num.length), (14, ints i)], [.box 28 [.v (.bool neg), sb num, sb den]]⟩) (fun i => i <= num.length) (fun i => num.length - i) 0 (c1u _) (by (repeat first | refine uA ?_ | (refine ⟨?_, ?_⟩; focus first | rfl | simp [slot]) | rfl | simp)) ?_
 intro i hi
 simp only [sb, ints] at hi ⊢
 have hb := b2L hn i
 (repeat first | refine uA ?_ | (refine uK ?_ ?_; focus first | omega | (intros; simp_all <;> omega)) | simp (disch := omega) only [go_sem, Nat.reduceBEq, Nat.reduceAdd, ww])
 (refine uJ rfl (fun hc => ?_) fun hc => ?_)
 ·have hi' : i < num.length := by omega
  have hgi := c1n hi'
  have hap : num.take (i + 1) = num.take i ++ [num[i]] := c2e hi'
  have hv := a3G (num.take i) num[i]
  rw [<- hap] at hv
  generalize num[i] = c at hgi hv
  have hc8 := UInt8.toNat_lt c
  have w1 : IntKind.i64.wrap (c.toNat : Int) = (c.toNat : Int) := a9b (by omega)
  have w2 : IntKind.i64.wrap (256 * (Nm.val (num.take i) : Int) + (c.toNat : Int)) = 256 * (Nm.val (num.take i) : Int) + (c.toNat : Int) := a9b (by omega)
  (repeat first | refine uA ?_ | (refine uK ?_ ?_; focus first | omega | (intros; simp_all <;> omega)) | simp (disch := omega) only [go_sem, Nat.reduceBEq, Nat.reduceAdd, ww, hgi, c1p, c1o, E5, c1x, w1, w2])
  refine S.next (i + 1) (by omega) (by omega) (by rw [hv]; exact (by (repeat first | refine uA ?_ | (refine ⟨?_, ?_⟩; focus first | rfl | simp [slot]) | rfl | simp)))
 have hi' : i = num.length := by omega
 subst hi'
 rw [c1N]
 (repeat first | refine uA ?_ | (refine uK ?_ ?_; focus first | omega | (intros; simp_all <;> omega)) | simp (disch := omega) only [go_sem, Nat.reduceBEq, Nat.reduceAdd, ww, D7])
 refine S.loop (X := Nat) (fun i => ⟨[(1, .bp 0 0), (4, ints (Nm.val num)), (5, ints (Nm.val (den.take i))), (26, .sl 1 (den.map E5)), (27, ints den.length), (28, ints i)], [.box 28 [.v (.bool neg), sb num, sb den]]⟩) (fun i => i <= den.length) (fun i => den.length - i) 0 (c1u _) (by (repeat first | refine uA ?_ | (refine ⟨?_, ?_⟩; focus first | rfl | simp [slot]) | rfl | simp)) ?_
 intro i hi
 simp only [sb, ints] at hi ⊢
 have hb := b2L hd i
 (repeat first | refine uA ?_ | (refine uK ?_ ?_; focus first | omega | (intros; simp_all <;> omega)) | simp (disch := omega) only [go_sem, Nat.reduceBEq, Nat.reduceAdd, ww])
 (refine uJ rfl (fun hc => ?_) fun hc => ?_)
 ·have hi' : i < den.length := by omega
  have hgi := c1n hi'
  have hap : den.take (i + 1) = den.take i ++ [den[i]] := c2e hi'
  have hv := a3G (den.take i) den[i]
  rw [<- hap] at hv
  generalize den[i] = c at hgi hv
  have hc8 := UInt8.toNat_lt c
  have w1 : IntKind.i64.wrap (c.toNat : Int) = (c.toNat : Int) := a9b (by omega)
  have w2 : IntKind.i64.wrap (256 * (Nm.val (den.take i) : Int) + (c.toNat : Int)) = 256 * (Nm.val (den.take i) : Int) + (c.toNat : Int) := a9b (by omega)
  (repeat first | refine uA ?_ | (refine uK ?_ ?_; focus first | omega | (intros; simp_all <;> omega)) | simp (disch := omega) only [go_sem, Nat.reduceBEq, Nat.reduceAdd, ww, hgi, c1p, c1o, E5, c1x, w1, w2])
  refine S.next (i + 1) (by omega) (by omega) (by rw [hv]; exact (by (repeat first | refine uA ?_ | (refine ⟨?_, ?_⟩; focus first | rfl | simp [slot]) | rfl | simp)))
 have hi' : i = den.length := by omega
 subst hi'
 rw [c1N]
 (repeat first | refine uA ?_ | (refine uK ?_ ?_; focus first | omega | (intros; simp_all <;> omega)) | simp (disch := omega) only [go_sem, Nat.reduceBEq, Nat.reduceAdd, ww])
 refine S.cond rfl (fun hc => ?_) (fun hc => ?_)
 ·subst hc
  rw [if_pos rfl] at hI ⊢
  rw [show -(Nm.val num : Int) = 0 - (Nm.val num : Int) by omega, show max (Nm.val den : Int) 1 = if (Nm.val den : Int) < 1 then 1 else (Nm.val den : Int) by split <;> omega]
  (repeat first | refine uA ?_ | (refine uK ?_ ?_; focus first | omega | (intros; simp_all <;> omega)) | simp (disch := omega) only [go_sem, Nat.reduceBEq, Nat.reduceAdd, ww])
  (refine S.done ?_; simp only [q8, l9, go_sem, Nat.reduceBEq, Nat.reduceAdd, Nat.reduceLeDiff, Int.reduceToNat, Int.reducePow]; (repeat (refine ⟨?_, ?_⟩; focus first | trivial | omega | simp)); exact j3.out rfl (Imp.tup (by (repeat' (first | exact p8.nil | exact Imp.refl rfl | exact Imp.frz rfl rfl rfl | exact Imp.P5 | refine Imp.agg ?_ | refine p8.cons ?_ ?_)))) rfl)
 ·subst hc
  rw [if_neg (by decide)] at hI ⊢
  rw [show max (Nm.val den : Int) 1 = if (Nm.val den : Int) < 1 then 1 else (Nm.val den : Int) by split <;> omega]
  (repeat first | refine uA ?_ | (refine uK ?_ ?_; focus first | omega | (intros; simp_all <;> omega)) | simp (disch := omega) only [go_sem, Nat.reduceBEq, Nat.reduceAdd, ww])
  (refine S.done ?_; simp only [q8, l9, go_sem, Nat.reduceBEq, Nat.reduceAdd, Nat.reduceLeDiff, Int.reduceToNat, Int.reducePow]; (repeat (refine ⟨?_, ?_⟩; focus first | trivial | omega | simp)); exact j3.out rfl (Imp.tup (by (repeat' (first | exact p8.nil | exact Imp.refl rfl | exact Imp.frz rfl rfl rfl | exact Imp.P5 | refine Imp.agg ?_ | refine p8.cons ?_ ?_)))) rfl)
def a3P : L9 := ⟨58, [.tmp 4], .seq (.reg [OA 2 (.box 60 (TT 0)), OA 4 (.mv (.const (.slice none 0 0)))]) (.seq (.reg [OA 5 (.mv (.const (.slice none 0 0)))]) (.seq (.seq (.reg [FF 13 11 2, VV 14 13, OA 15 (.len false (TT 14)), OA 16 (.mv (II
 0))]) (.block 0 (.loop (.seq (.reg [OA 17 (.bin .lss (TT 16) (TT 15))]) (.seq (.cond (TT 17) .skip (.exit 0)) (.seq (.block 1 (.seq (.reg [OA 18 (.p9 16 (TT 14) (TT 16)), LL 19 16 18, OA 7 (.alloc 127 [.bool false, .string
 ⟨#[]⟩, .string ⟨#[]⟩, .bool false, .string ⟨#[]⟩, .string ⟨#[]⟩, .bool false, .string ⟨#[]⟩, .string ⟨#[]⟩, .bool false, .string ⟨#[]⟩, .string ⟨#[]⟩, .bool false, .string ⟨#[]⟩, .string ⟨#[]⟩, .slice none 0 0]), OB (.store 16
 (TT 7) (TT 19))]) (.seq (.reg [FF 21 3 7, LL 22 3 21, OA 23 (.call 202 [TT 22]), MM 20 23, OA 24 (.ext (TT 20) 0), OA 25 (.ext (TT 20) 1), MM 8 24, MM 9 25]) (.seq (.reg [FF 27 6 7, LL 28 3 27, OA 29 (.call 202 [TT 28]), MM 26
 29, OA 30 (.ext (TT 26) 0), OA 31 (.ext (TT 26) 1), MM 10 30, MM 11 31]) (.seq (.reg [MM 32 1, OA 33 (.call 151 [TT 32, II 9]), MM 12 33]) (.reg [MM 34 5, MM 35 8, OA 36 (.bin .mul (II 8) (TT 35)), MM 37 11, OA 38 (.bin .mul (TT
 36) (TT 37)), MM 39 10, MM 40 9, OA 41 (.bin .mul (TT 39) (TT 40)), MM 42 8, MM 43 11, OA 44 (.bin .mul (TT 42) (TT 43)), OA 45 (.bin .sub (TT 41) (TT 44)), MM 46 12, OA 47 (.bin .mul (TT 45) (TT 46)), OA 48 (.bin .add (TT 38)
 (TT 47)), MM 49 9, OA 50 (.bin .mul (II 8) (TT 49)), MM 51 11, OA 52 (.bin .mul (TT 50) (TT 51)), OA 53 (.call 156 [TT 48, TT 52]), OA 54 (.bsl 28 3 1 [.bool false, .string ⟨#[]⟩, .string ⟨#[]⟩] [(0, TT 53)]), OA 55 (.app 28 3
 40 (TT 34) (TT 54)), MM 5 55])))))) (.reg [OA 56 (.bin .add (TT 16) (II 1)), MM 16 56]))))))) (.seq (.reg [MM 57 5, MM 4 57]) .ret)))⟩
theorem a7U : J2 eff Tryz.prog Tryz.f164 = some a3P := by kernel_rfl
theorem a7J : Tryz.prog.funcs[164]? = some Tryz.f164 := Tryz.func164
theorem c0g {E : Ctx} (hP : E.P = Tryz.prog) (a : Am) (l : List Int) (ha : J6 a = 0) :
  l6 E [.box 209 [A8 l]] 164 [a.c, .bp 0 0] (rts (Y2 a.links l)) [.box 209 [A8 (l.drop a.links.length)]] [] := by
 obtain ⟨P, eff', N, w0, own0, av0, nu0, pk0⟩ := E
 simp only at hP
 subst hP
 refine l6.of (eff := eff) a7J a7U (by exact c1E rfl) fun w own av ν hν => ?_
 have hν0 : ν.length <= 1 := by rw [hν]; exact c1w _
 have hl := (Q9 ha).2
 have h3 := (V8 ha).2
 obtain ⟨name, base, links⟩ := a
 simp only at hl h3 ⊢
 simp only [a3P, j6, TT, II, OA, OB, OC, MM, LL, VV, FF, MG, LG, VG, FG]
 simp only [Am.c, Am.enc, lks, rts, A8, sb, ints]
 (repeat first | refine uA ?_ | (refine uK ?_ ?_; focus first | omega | (intros; simp_all <;> omega)) | simp (disch := omega) only [go_sem, Nat.reduceBEq, Nat.reduceAdd, ww, c1o])
 refine S.loop (X := Nat) (fun i => ⟨[(1, .bp 0 0), (5, .rv 2), (14, lks links), (15, ints links.length), (16, ints i)], [.box 209 [A8 (l.drop i)], .gone, .row 28 3 ((Y2 (links.take i) l).map rcs)]⟩) (fun i => i <= links.length) (fun i => links.length - i) 0 (c1u _)
  (Ent.trans (Ent.pack 5 28 3 rfl) (by (repeat first | refine uA ?_ | (refine ⟨?_, ?_⟩; focus first | rfl | simp [slot]) | rfl | simp | exact c1s hν0 (by simp)))) ?_
 intro i hi
 simp only [lks, A8, ints]
 (repeat first | refine uA ?_ | (refine uK ?_ ?_; focus first | omega | (intros; simp_all <;> omega)) | simp (disch := omega) only [go_sem, Nat.reduceBEq, Nat.reduceAdd, ww])
 (refine uJ rfl (fun hc => ?_) fun hc => ?_)
 ·have hi' : i < links.length := by omega
  have hgi := c1n hi'
  have hsn := a8Q links l i _ hgi
  have hln : (Y2 (links.take i) l).length = i := by rw [a4s, c1y]; omega
  have hx := hl _ (c1q hgi)
  generalize links[i] = x at hgi hsn hx
  obtain ⟨s1, s2⟩ := b4h hx
  have k := fun (E : Ctx) (hP : E.P = Tryz.prog) => G8 hP (l.drop i) 9 (by decide)
  have f1 := a8X x.low s1
  have f2 := a8X x.high s2
  have hb := b3Q s1 s2 (nx9 (l.drop i))
  have hk := nx9 (l.drop i)
  have hcr : a8A x (nx (l.drop i) 9) = Q (8 * nuI x.low * deI x.high + (nuI x.high * deI x.low - nuI x.low * deI x.high) * nx (l.drop i) 9) (8 * deI x.low * deI x.high) := rfl
  obtain ⟨b1, b2, b3, b4, b5, b6, b7, b8, b9, b10⟩ := hb
  have o := a1l (8 * nuI x.low * deI x.high + (nuI x.high * deI x.low - nuI x.low * deI x.high) * nx (l.drop i) 9) (8 * deI x.low * deI x.high) (by omega) (by omega)
  rw [<- hcr] at o
  rw [List.drop_drop] at k
  generalize a8A x (nx (l.drop i) 9) = r at *
  generalize nx (l.drop i) 9 = y at *
  generalize nuI x.low = m1 at *
  generalize nuI x.high = m2 at *
  generalize deI x.low = d1 at *
  generalize deI x.high = d2 at *
  simp only [rc, A8, sb, ints] at k f1 f2 o
  (repeat first | refine uA ?_ | (refine uK ?_ ?_; focus first | omega | (intros; simp_all <;> omega)) | simp (disch := omega) only [go_sem, Nat.reduceBEq, Nat.reduceAdd, ww, hgi, c1p, c1o, hln, Lk.enc, vts, sb, c1x] | refine l8.t (l6.lift (k := 0) rfl (k _ rfl) rfl rfl rfl) ?_ | (refine uB f1 ?_ ?_; exact rfl) | (refine uB f2 ?_ ?_; exact rfl) | (refine uB o ?_ ?_; exact rfl))
  refine S.next (i + 1) (by omega) (by omega) (by simp only [hsn, c2f, c1F, c2b, rcs, sb]; exact (by (repeat first | refine uA ?_ | (refine ⟨?_, ?_⟩; focus first | rfl | simp [slot]) | rfl | simp | exact c1s hν0 (by simp))))
 have hi' : i = links.length := by omega
 subst hi'
 rw [c1N]
 (repeat first | refine uA ?_ | (refine uK ?_ ?_; focus first | omega | (intros; simp_all <;> omega)) | simp (disch := omega) only [go_sem, Nat.reduceBEq, Nat.reduceAdd, ww])
 (refine S.done ?_; simp only [q8, l9, go_sem, Nat.reduceBEq, Nat.reduceAdd, Nat.reduceLeDiff, Int.reduceToNat, Int.reducePow]; (repeat (refine ⟨?_, ?_⟩; focus first | trivial | omega | simp)); exact j3.O0 (Imp.frz rfl rfl rfl) (by (repeat first | refine uA ?_ | (refine ⟨?_, ?_⟩; focus first | rfl | simp [slot]) | rfl | simp)) (c1s hν0 (by simp)))
theorem b9U (a : Am) (l : List Int) (ha : J6 a = 0) : F7 Tryz.prog 102 [a.c, A8 l] (rts (Y2 a.links l)) := by
 refine kS Tryz.func102 (by cbv) (by rfl) fun w O => ?_
 have k := fun (E : Ctx) (hP : E.P = Tryz.prog) => c0g hP a l ha
 generalize Y2 a.links l = r at *
 obtain ⟨name, base, links⟩ := a
 simp only [j6]
 simp only [Am.c, Am.enc, lks, rts, A8, sb, ints] at k ⊢
 (repeat first | refine uA ?_ | (refine uK ?_ ?_; focus first | omega | (intros; simp_all <;> omega)) | simp (disch := omega) only [go_sem, Nat.reduceBEq, Nat.reduceAdd, ww] | refine l8.t (l6.lift (k := 1) rfl (k _ rfl) rfl rfl rfl) ?_)
 exact S.done (j3.out rfl (Imp.refl rfl) rfl)
def a2p : L9 := ⟨74, [.tmp 6], .seq (.reg [OA 3 (.box 30 (TT 0)), OA 4 (.box 47 (TT 1)), OA 6 (.mv (.const (.slice none 0 0)))]) (.seq (.reg [OA 7 (.mv (.const (.slice none 0 0)))]) (.seq (.seq (.reg [FF 14 0 3, VV 15 14, OA 16 (.len false (TT
 15)), OA 17 (.mv (II 0))]) (.block 0 (.loop (.seq (.reg [OA 18 (.bin .lss (TT 17) (TT 16))]) (.seq (.cond (TT 18) .skip (.exit 0)) (.seq (.block 1 (.seq (.reg [MM 19 17, OA 20 (.p9 12 (TT 15) (TT 17)), LL 21 12 20, OA 9
 (.alloc 60 [.string ⟨#[]⟩, .bool false, .string ⟨#[]⟩, .string ⟨#[]⟩, .bool false, .string ⟨#[]⟩, .string ⟨#[]⟩, .bool false, .bool false, .string ⟨#[]⟩, .string ⟨#[]⟩, .slice none 0 0]), MM 8 19, OB (.store 12 (TT 9) (TT 21))])
 (.seq (.reg [OA 10 (.mv (.const (.slice none 0 0)))]) (.seq (.seq (.F4 [.q, .q, .q, .q, .q, .q, .q, .q, .q, .q, .q] [LL 22 12 9, MM 23 2, MM 24 2, OA 25 (.len false (TT 24)), MM 26 8, OA 27 (.bin .mul (II 3) (TT 26)), OA 28
 (.min (TT 25) (TT 27)), OA 29 (.a3g 1 (TT 23) (some (TT 28)) none), OA 30 (.call 102 [TT 22, TT 29]), OA 31 (.len false (TT 30)), OA 32 (.mv (II 0))]) (.block 2 (.loop (.seq (.reg [OA 33 (.bin .lss (TT 32) (TT 31))]) (.seq
 (.cond (TT 33) .skip (.exit 2)) (.seq (.block 3 (.seq (.reg [MM 34 32, OA 35 (.p9 3 (TT 30) (TT 32)), LL 36 3 35, OA 12 (.alloc 28 [.bool false, .string ⟨#[]⟩, .string ⟨#[]⟩]), MM 11 34, OB (.store 3 (TT 12) (TT 36))]) (.seq
 (.F4 [.q, .q, .q, .q, .q, .q, .q, .q, .q, .q, .q, .a, .e (some 13) true] [LL 37 3 12, FF 38 1 4, VV 39 38, MM 40 8, OA 41 (.p9 4 (TT 39) (TT 40)), FF 42 0 41, VV 43 42, MM 44 11, OA 45 (.p9 3 (TT 43) (TT 44)), LL 46 3
 45, OA 47 (.call 103 [TT 37, TT 46]), OA 13 (.alloc 28 [.bool false, .string ⟨#[]⟩, .string ⟨#[]⟩]), OB (.store 3 (TT 13) (TT 47))]) (.F4 [.q, .q, .q, .q, .q, .q, .q, .q, .q, .q, .q, .q, .q, .q, .q, .q, .q, .q, .e none true,
 .q] [MM 48 10, FF 49 11 9, VV 50 49, MM 51 11, OA 52 (.p9 16 (TT 50) (TT 51)), FF 53 9 52, LL 54 3 53, OA 55 (.call 105 [TT 54]), FF 56 11 9, VV 57 56, MM 58 11, OA 59 (.p9 16 (TT 57) (TT 58)), FF 60 9 59, LL 61 3 60, LL
 62 3 13, OA 63 (.call 106 [TT 61, TT 62]), OA 64 (.call 104 [TT 55, TT 63]), OA 65 (.bsl 28 3 1 [.bool false, .string ⟨#[]⟩, .string ⟨#[]⟩] [(0, TT 64)]), OA 66 (.app 28 3 40 (TT 48) (TT 65)), MM 10 66])))) (.reg [OA 67 (.bin
 .add (TT 32) (II 1)), MM 32 67]))))))) (.reg [MM 68 7, MM 69 10, OA 70 (.bsl 79 1 1 [.slice none 0 0] [(0, TT 69)]), OA 71 (.app 79 1 24 (TT 68) (TT 70)), MM 7 71]))))) (.reg [OA 72 (.bin .add (TT 17) (II 1)), MM 17 72])))))))
 (.seq (.reg [MM 73 7, MM 6 73]) .ret)))⟩
theorem a5U : J2 eff Tryz.prog Tryz.f27 = some a2p := by kernel_rfl
theorem a5W : Tryz.prog.funcs[27]? = some Tryz.f27 := Tryz.func27
theorem b1K (w : Wk) (s : Stt) (to : List Int) (k : Nat) (h : b1h w s k) (hk : k <= 10) (hn : to.length <= 1048576) : FZ 27 [w.c, s.c, A8 to] (wss (U9 (w.arms.zip s.arms) to w.arms.length)) := by
 refine kW a5W a5U (by rfl) fun w' O hw => ?_
 have hok := O9 h.st
 have hone := hok.one
 have hla := hok.arms
 have hbig := hok.big.2.1
 have hq := h.q
 have hwl := fun (i : Nat) (a : Am) (ha : w.arms[i]? = some a) => b0h (to := to) h ha
 obtain ⟨arms, walls, parts, slots, gates, walk⟩ := w
 obtain ⟨tick, sarms, sparts, people, sgates⟩ := s
 simp only at hone hla hbig hq hwl ⊢
 generalize hz : arms.zip sarms = z at *
 simp only [a2p, j6, TT, II, OA, OB, OC, MM, LL, VV, FF, MG, LG, VG, FG]
 simp only [Wk.c, Wk.enc, Stt.c, Stt.enc, ams, wls, pts, sls, gts, J9, frs, vts, bls, wss, A8, sb, ints]
 (repeat first | refine uA ?_ | (refine uK ?_ ?_; focus first | omega | (intros; simp_all <;> omega)) | simp (disch := omega) only [go_sem, Nat.reduceBEq, Nat.reduceAdd, ww, c1o])
 refine S.loop (X := Nat) (fun i => ⟨[(2, A8 to), (4, .bp 1 0), (7, .rv 2), (15, ams arms), (16, ints arms.length), (17, ints i)], [.gone, .box 47 [ints tick, J9 sarms, frs sparts, vts people, bls sgates], .row 79 1 ((U9 z to i).map fun l => [rts l])]⟩) (fun i => i <= arms.length) (fun i => arms.length - i) 0 (c1u _)
  (Ent.trans (Ent.pack 7 79 1 rfl) (by (repeat first | refine uA ?_ | (refine ⟨?_, ?_⟩; focus first | rfl | simp [slot]) | rfl | simp))) ?_
 intro i hi
 simp only [ams, A8, J9, frs, vts, bls, sb, ints]
 (repeat first | refine uA ?_ | (refine uK ?_ ?_; focus first | omega | (intros; simp_all <;> omega)) | simp (disch := omega) only [go_sem, Nat.reduceBEq, Nat.reduceAdd, ww])
 (refine uJ rfl (fun hc => ?_) fun hc => ?_)
 ·have hi' : i < arms.length := by omega
  have hga := c1n hi'
  have hgx := c1n (show i < sarms.length by omega)
  have hsn := b4L z to i
  have hsl := a1e z to i
  have hzi : z[i]? = some (arms[i], sarms[i]) := by have h9 := H6 hga hgx; rw [hz] at h9; exact h9
  have ho := a1x (hone _ (c1q hzi))
  have hwi : a3q z to i = a6U arms[i].links (Y2 arms[i].links (to.drop (3 * i))) sarms[i].q := by unfold a3q; rw [hzi]
  have hwl := hwl i _ hga
  have hqx := hq _ (c1q hgx)
  generalize arms[i] = a at *
  generalize sarms[i] = x at *
  simp only at ho
  have hlk := (Q9 ho.arm).2
  have h3 := (V8 ho.arm).2
  have hxq := ho.q
  have hcl := a4s a.links (to.drop (3 * i))
  have hcr := a7Y a.links (to.drop (3 * i)) hlk
  have hC := b9U a (to.drop (3 * i)) ho.arm
  generalize Y2 a.links (to.drop (3 * i)) = c at *
  have hxl : x.q.length <= 3 := by omega
  have hdl : (to.drop (3 * i)).length <= 1048576 := by rw [c1Y]; omega
  generalize U9 z to i = W0 at *
  generalize a3q z to i = WI at *
  have hmn : (if 3 * (i : Int) < (to.length : Int) then 3 * (i : Int) else (to.length : Int)) = ((min to.length (3 * i) : Nat) : Int) := by split <;> omega
  have hdm : (to.drop (min to.length (3 * i))).take (to.length - min to.length (3 * i)) = to.drop (3 * i) := by
   rw [b8g, c1H (by rw [c1Y]; omega)]
  have hml : min to.length (3 * i) <= to.length := Nat.min_le_left _ _
  generalize min to.length (3 * i) = mm at *
  generalize to.drop (3 * i) = td at *
  simp only [Am.c, Am.enc, lks, rts, A8, sb, ints] at hC
  (repeat first | refine uA ?_ | (refine uK ?_ ?_; focus first | omega | (intros; simp_all <;> omega)) | simp (disch := omega) only [go_sem, Nat.reduceBEq, Nat.reduceAdd, ww, hga, c1p, c1o, Am.enc, lks, sb, hmn, hdm, c1x] | (refine uB hC ?_ ?_; exact rfl))
  refine S.loop (X := Nat) (fun j => ⟨[(2, A8 to), (4, .bp 1 0), (7, .rv 2), (8, ints i), (9, .bp 3 0), (10, .rv 4), (15, ams arms), (16, ints arms.length), (17, ints i), (30, rts c), (31, ints c.length), (32, ints j)], [.gone, .box 47 [ints tick, J9 sarms, frs sparts, vts people, bls sgates], .row 79 1 (W0.map fun l => [rts l]), .box 60 [sb a.name, .v (.bool a.base.x.neg), sb a.base.x.num, sb a.base.x.den, .v (.bool a.base.y.neg), sb a.base.y.num, sb a.base.y.den, .v (.bool a.base.half), .v (.bool a.base.t.neg), sb a.base.t.num, sb a.base.t.den, lks a.links], .row 28 3 ((WI.take j).map rcs)]⟩) (fun j => j <= c.length) (fun j => c.length - j) 0 (c1u _)
   (Ent.trans (Ent.pack 10 28 3 rfl) (by (repeat first | refine uA ?_ | (refine ⟨?_, ?_⟩; focus first | rfl | simp [slot]) | rfl | simp))) ?_
  intro j hj
  simp only [ams, A8, J9, frs, vts, bls, rts, lks, sb, ints]
  (repeat first | refine uA ?_ | (refine uK ?_ ?_; focus first | omega | (intros; simp_all <;> omega)) | simp (disch := omega) only [go_sem, Nat.reduceBEq, Nat.reduceAdd, ww])
  (refine uJ rfl (fun hc => ?_) fun hc => ?_)
  ·have hj' : j < c.length := by omega
   have hgc := c1n hj'
   have hgl := c1n (show j < a.links.length by omega)
   have hgq := c1n (show j < x.q.length by omega)
   have hgw : WI[j]? = some (a5G a.links[j] c[j] x.q[j]) := by have h9 := b5H hgl hgc hgq; rw [<- hwi] at h9; exact h9
   have hap := take_at hgw
   have hwtl : (WI.take j).length = j := by rw [c1y]; omega
   have rc1 := hcr _ (c1q hgc)
   have rq1 := hqx _ (c1q hgq)
   have rl1 := (a8j (hlk _ (c1q hgl))).2.2.1
   generalize c[j] = cj at *
   generalize a.links[j] = lj at *
   generalize x.q[j] = qj at *
   have o1 := a5e cj qj (rc1.mono (by decide)) (rq1.mono (by omega))
   have rd := (M9 (rc1.fit (by decide)) (rq1.fit (by omega)))
   have o2 := b2D lj.speed (rl1.mono (by decide))
   have o3 := b2m lj.speed (Nm.ofQ (Nm.d9 cj - Nm.d9 qj)) (rl1.mono (by decide)) (rd.mono (by omega))
   rw [Nm.E8] at o3
   have rm : Rb 1048576 (Nm.ofQ (a0e (Nm.d9 lj.speed) (Nm.d9 cj - Nm.d9 qj))) := by
    unfold a0e
    split
    ·exact (rl1.fit (by decide)).mono (by decide)
    ·exact rd.mono (by omega)
   have rn := b2V rl1 (by decide)
   have o4 := b5z (Nm.ofQ (-(Nm.d9 lj.speed))) (Nm.ofQ (a0e (Nm.d9 lj.speed) (Nm.d9 cj - Nm.d9 qj))) (rn.mono (by decide)) (rm.mono (by decide))
   rw [Nm.E8, Nm.E8] at o4
   have hwr : a5G lj cj qj = Nm.ofQ (a1v (-(Nm.d9 lj.speed)) (a0e (Nm.d9 lj.speed) (Nm.d9 cj - Nm.d9 qj))) := rfl
   unfold rq at o1 o2 o3 o4
   rw [<- hwr] at o4
   clear hwr
   generalize a5G lj cj qj = z1 at *
   generalize Nm.ofQ (a0e (Nm.d9 lj.speed) (Nm.d9 cj - Nm.d9 qj)) = z2 at *
   generalize Nm.ofQ (-(Nm.d9 lj.speed)) = z3 at *
   generalize Nm.ofQ (Nm.d9 cj - Nm.d9 qj) = z4 at *
   simp only [rc, sb] at o1 o2 o3 o4
   (repeat first | refine uA ?_ | (refine uK ?_ ?_; focus first | omega | (intros; simp_all <;> omega)) | simp (disch := omega) only [go_sem, Nat.reduceBEq, Nat.reduceAdd, ww, hgc, hgl, hgq, hgx, c1p, c1o, hwtl, rcs, Lk.enc, Ast.enc, rts, vts, sb, ints, c1x] | (refine uD o1 ?_ ?_ ?_; exact tz hw; exact rfl) | (refine uD o2 ?_ ?_ ?_; exact tz hw; exact rfl) | (refine uD o3 ?_ ?_ ?_; exact tz hw; exact rfl) | (refine uD o4 ?_ ?_ ?_; exact tz hw; exact rfl))
   refine S.next (j + 1) (by omega) (by omega) (by simp only [hap, c2f, c1F, c2b, rcs, sb]; exact (by (repeat first | refine uA ?_ | (refine ⟨?_, ?_⟩; focus first | rfl | simp [slot]) | rfl | simp)))
  ·have hj' : j = c.length := by omega
   subst hj'
   have hwt : WI.take c.length = WI := c1H (by omega)
   rw [hwt]
   refine S.exit rfl ?_
   refine S.weaken (st' := ⟨[(2, A8 to), (4, .bp 1 0), (7, .rv 2), (10, .sl 3 (WI.map rcs)), (15, ams arms), (16, ints arms.length), (17, ints i)], [.gone, .box 47 [ints tick, J9 sarms, frs sparts, vts people, bls sgates], .row 79 1 (W0.map fun l => [rts l])]⟩) (Ent.mk _ _ (by (repeat' (first | exact V4.nil | exact Imp.junk | exact Imp.refl rfl | exact Imp.frz rfl rfl rfl | exact Imp.eq (by simp [slot]; done) rfl | refine V4.cons ?_ ?_))) (by (repeat' (first | exact L8.nil | exact RI.gone _ | exact RI.row _ _ _ _ rfl | exact RI.map _ _ _ rfl | exact RI.box _ _ _ (p8.refl rfl) | (refine RI.box _ _ _ ?_; (repeat' (first | exact p8.nil | exact Imp.refl rfl | exact Imp.frz rfl rfl rfl | exact Imp.P5 | refine p8.cons ?_ ?_))) | refine L8.cons ?_ ?_))) (c1u _)) ?_
   simp only [ams, A8, J9, frs, vts, bls, sb, ints, rts]
   (repeat first | refine uA ?_ | (refine uK ?_ ?_; focus first | omega | (intros; simp_all <;> omega)) | simp (disch := omega) only [go_sem, Nat.reduceBEq, Nat.reduceAdd, ww, c1o, hsl])
   refine S.next (i + 1) (by omega) (by omega) (by simp only [hsn, c2f, c1F, c2b, rts]; exact (by (repeat first | refine uA ?_ | (refine ⟨?_, ?_⟩; focus first | rfl | simp [slot]) | rfl | simp)))
 have hi' : i = arms.length := by omega
 subst hi'
 (repeat first | refine uA ?_ | (refine uK ?_ ?_; focus first | omega | (intros; simp_all <;> omega)) | simp (disch := omega) only [go_sem, Nat.reduceBEq, Nat.reduceAdd, ww])
 exact S.done (j3.out rfl (Imp.frz rfl rfl rfl) rfl)
set_option maxHeartbeats 4000000
structure c0z (y b : Ast) (j : Nat) (v : Nm.Rt) : Prop where
 ex : ∃ bv q bq, b.v[j]? = some bv /\ y.q[j]? = some q /\ b.q[j]? = some bq /\ ¬ 0 < Nm.C8 (G7 (Nm.d9 v)) (G7 (Nm.d9 bv)) /\ (F3 (Nm.d9 bv) = 0 -> q = bq) /\ Rb 1048576 bv /\ Rb 1048576 v
structure c1g (y b : Ast) : Prop where
 power : y.power = false
 vlen : y.v.length = b.v.length
 qlen : y.q.length = y.v.length
 small : y.v.length <= 3
 joint : ∀ j v, y.v[j]? = some v -> c0z y b j v
theorem b3e {w : Wk} {s : Stt} {k : Nat} {u : List (List Nm.Rt)} (h : Calm w s k) (hk : k <= 10) (h2 : u.length = w.arms.length) :
  (Y1 w s u (List.replicate w.arms.length false) []).arms.length = s.arms.length /\ (Y1 w s u (List.replicate w.arms.length false) []).tick = s.tick + 1 /\ (Y1 w s u (List.replicate w.arms.length false) []).parts = s.parts /\
   ∀ (i : Nat) (y : Ast), (Y1 w s u (List.replicate w.arms.length false) []).arms[i]? = some y -> ∃ b, s.arms[i]? = some b /\ c1g y b := by
 have hok := O9 h.st
 have h3 : (List.replicate w.arms.length false).length = w.arms.length := List.length_replicate
 have hl := a2s (u := u) (p := List.replicate w.arms.length false) hok.arms h2 h3
 refine ⟨by show (a0A _ _ _ _).length = _; rw [hl, hok.arms], rfl, a3m h h2 h3, fun i y hy => ?_⟩
 have hy : (a0A w s u (List.replicate w.arms.length false))[i]? = some y := hy
 have hil := (c1r.1 hy).1
 have x0 := c1n (show i < w.arms.length by omega)
 have x1 := c1n (show i < s.arms.length by have := hok.arms; omega)
 have x2 := c1n (show i < u.length by omega)
 have x3 : (List.replicate w.arms.length false)[i]? = some false := by rw [List.getElem?_replicate, if_pos (by omega)]
 rw [a2E x0 x1 x2 x3] at hy
 injection hy with hy
 have m1 := c1q x1
 have hone := hok.one _ (c1q (H6 x0 x1))
 generalize w.arms[i]'_ = a at *
 generalize s.arms[i]'_ = x at *
 generalize u[i]'_ = l at *
 have ho := a1x hone
 obtain ⟨⟨g1, g2⟩, _, _⟩ := b3R hone
 simp only at ho
 have e : Y4 a x l false = a8g a x := by unfold Y4; simp
 rw [e] at hy
 subst hy
 have hn := (V8 ho.arm).2
 have hlen := a9F ho.q ho.v
 have hlk := (Q9 ho.arm).2
 have hb := b2u ho.arm (by omega) (by omega) (h.q x m1) (h.v x m1)
 refine ⟨x, x1, rfl, by show (Y3 a x).length = _; rw [hlen.1, ho.v], by show (a1t a x).length = (Y3 a x).length; rw [hlen.1, hlen.2], by show (Y3 a x).length <= 3; omega, fun j v hv => ?_⟩
 have hv : (Y3 a x)[j]? = some v := hv
 have hj := (c1r.1 hv).1
 have e0 := c1n (show j < a.links.length by omega)
 have e1 := c1n (show j < x.q.length by have := ho.q; omega)
 have e2 := c1n (show j < x.v.length by have := ho.v; omega)
 have hg := a7c e0 e2 e1
 have hbr := a5i (hlk _ (c1q e0))
 have hgq := List.all_eq_true.1 g1 _ (c1q e1)
 have hmv := hb.1 _ (c1q hv)
 have hmb := h.v x m1 _ (c1q e2)
 rw [hg.1] at hv
 injection hv with hv
 subst hv
 refine ⟨⟨_, _, _, e2, hg.2, e1, b7x hbr, fun hz => ?_, hmb.mono (by omega), hmv.mono (by omega)⟩⟩
 rw [b0s hbr hz, b1X hgq]
theorem b3i {w : Wk} {s : Stt} (h : N9 w s = 0) : s.parts.all a0Q = true := by
 unfold N9 at h
 split at h
 ·rename_i h1; exact absurd h h1
 split at h
 ·cases h
 split at h
 ·cases h
 split at h
 ·rename_i h1; exact absurd h h1
 split at h
 ·rename_i h2
  simp only [c1t] at h2
  exact h2.1
 ·cases h
theorem b6X {w : Wk} {s : Stt} {k : Nat} {u : List (List Nm.Rt)} (h : Calm w s k) (hk : k <= 10) (h2 : u.length = w.arms.length) : Stb 1048576 (Y1 w s u (List.replicate w.arms.length false) []) := by
 have ho := O9 h.st
 have h3 : (List.replicate w.arms.length false).length = w.arms.length := List.length_replicate
 have hl := a2s (u := u) (p := List.replicate w.arms.length false) ho.arms h2 h3
 have hb := b2p h hk
 have hp := a3m h h2 h3
 refine ⟨⟨?_, fun x hx => ?_⟩, ?_, ?_, hb.gates⟩
 ·show (a0A _ _ _ _).length <= _
  have := ho.big
  omega
 ·obtain ⟨i, hi⟩ := List.getElem?_of_mem (show x ∈ a0A w s u (List.replicate w.arms.length false) from hx)
  have hil := (c1r.1 hi).1
  have x0 := c1n (show i < w.arms.length by omega)
  have x1 := c1n (show i < s.arms.length by have := ho.arms; omega)
  have x2 := c1n (show i < u.length by omega)
  have x3 : (List.replicate w.arms.length false)[i]? = some false := by rw [List.getElem?_replicate, if_pos (by omega)]
  rw [a2E x0 x1 x2 x3] at hi
  injection hi with hi
  have m1 := c1q x1
  have h1 := a1x (ho.one _ (c1q (H6 x0 x1)))
  simp only at h1
  generalize w.arms[i]'_ = a at *
  generalize s.arms[i]'_ = y at *
  generalize u[i]'_ = l at *
  have e : Y4 a y l false = a8g a y := by unfold Y4; simp
  rw [e] at hi
  subst hi
  have hr := b2u h1.arm (by omega) (by omega) (h.q y m1) (h.v y m1)
  have hn := (V8 h1.arm).2
  have hlen := a9F h1.q h1.v
  refine ⟨⟨by show (a1t a y).length <= _; omega, fun r hr' => (hr.2 r hr').mono (by omega)⟩, by show (Y3 a y).length <= _; omega, fun r hr' => (hr.1 r hr').mono (by omega)⟩
 ·have e : (Y1 w s u (List.replicate w.arms.length false) []).parts = s.parts := hp
  rw [e]
  exact hb.parts
 ·show Vbs 1048576 ((s.people.zip []).map a7Q)
  rw [h.people]
  exact ⟨c1u _, fun v hv => by cases hv⟩
def a0T (n i : Nat) : List Bool := List.replicate i true ++ List.replicate (n - i) false
theorem b7B {n i : Nat} (h : i < n) : (a0T n i)[i]? = some false := by
 unfold a0T
 rw [c1G (by simp), List.length_replicate, Nat.sub_self, List.getElem?_replicate, if_pos (by omega)]
theorem b8d {n i : Nat} (h : i < n) : (a0T n i).set i true = a0T n (i + 1) := by
 unfold a0T
 rw [List.set_append_right _ _ (by simp), List.length_replicate, Nat.sub_self, show n - i = (n - (i + 1)) + 1 by omega, List.replicate_succ, List.set_cons_zero, List.replicate_succ', c1U]
 rfl
theorem b7K {n i : Nat} (h : i <= n) : (a0T n i).length = n := by unfold a0T; simp; omega
theorem b7r (n : Nat) : a0T n n = List.replicate n true := by unfold a0T; simp
theorem b6E (n : Nat) : a0T n 0 = List.replicate n false := by unfold a0T; simp
structure c0H (w : Wk) (s : Stt) (to : List Int) : Prop where
 step : a2H w s (U9 (w.arms.zip s.arms) to w.arms.length) (List.replicate w.arms.length true) [] = 0
 next : Calm w (Y1 w s (U9 (w.arms.zip s.arms) to w.arms.length) (List.replicate w.arms.length true) []) 1
theorem b7G {w : Wk} {s : Stt} {to : List Int} (h : Calm w s 0) (hr : ∀ x ∈ s.arms, ∀ r ∈ x.v, Nm.d9 r = 0) : c0H w s to := by
 have h2 := a1e (w.arms.zip s.arms) to w.arms.length
 have h3 : (List.replicate w.arms.length true).length = w.arms.length := List.length_replicate
 refine ⟨b6V h (by decide) h2 h3, b0y h h2 h3 (fun l hl r hr' _ => ?_) (by decide) (b9s h.st h.people (by rw [h.tick]; decide) hr h2 h3 (by rw [a3m h h2 h3]; exact b3i h.st))⟩
 obtain ⟨i, _, rfl⟩ := List.mem_map.1 hl
 exact (b2J h.b2o hr').mono (by decide)
def a3D : L9 := ⟨173, [.cell 10 true 5, .tmp 11], .seq (.reg [OA 5 (.box 30 (TT 0)), OA 6 (.box 47 (TT 1)), OA 10 (.alloc 47 [.int .i64 0, .slice none 0 0, .slice none 0 0, .slice none 0 0, .slice none 0 0]), OA 11 (.mv (II 0))]) (.seq (.seq
 (.reg [LL 22 8 5, LL 23 5 6, OA 24 (.call 32 [TT 22, TT 23]), MM 12 24]) (.seq (.reg [MM 25 12, OA 26 (.bin .neq (TT 25) (II 0))]) (.cond (TT 26) (.seq (.reg [OA 27 (.build [.int .i64 0, .slice none 0 0, .slice none 0 0, .slice
 none 0 0, .slice none 0 0] []), MM 28 12, OB (.store 5 (TT 10) (TT 27)), MM 11 28]) .ret) .skip))) (.seq (.seq (.reg [MM 29 2, OA 30 (.len false (TT 29)), FF 31 0 5, VV 32 31, OA 33 (.len false (TT 32)), OA 34 (.bin .neq (TT 30)
 (TT 33)), MM 35 34, MG 36 3 35 false, OC 37 (.len false (TT 36)) 35 false, FG 38 0 5 35 false, VG 39 38 35 false, OC 40 (.len false (TT 39)) 35 false, OC 41 (.bin .neq (TT 37) (TT 40)) 35 false, OA 42 (.pick (TT 35) (.const
 (.bool true)) (TT 41)), MM 43 42, MG 44 4 43 false, OC 45 (.len false (TT 44)) 43 false, FG 46 3 6 43 false, VG 47 46 43 false, OC 48 (.len false (TT 47)) 43 false, OC 49 (.bin .neq (TT 45) (TT 48)) 43 false, OA 50 (.pick (TT
 43) (.const (.bool true)) (TT 49))]) (.cond (TT 50) (.seq (.reg [OA 51 (.build [.int .i64 0, .slice none 0 0, .slice none 0 0, .slice none 0 0, .slice none 0 0] []), OB (.store 5 (TT 10) (TT 51)), OA 11 (.mv (II 1))]) .ret)
 .skip)) (.seq (.seq (.reg [MM 52 4, OA 53 (.len false (TT 52)), OA 54 (.mv (II 0))]) (.block 0 (.loop (.seq (.reg [OA 55 (.bin .lss (TT 54) (TT 53))]) (.seq (.cond (TT 55) .skip (.exit 0)) (.seq (.block 1 (.seq (.reg [OA 56
 (.p9 6 (TT 52) (TT 54)), LL 57 6 56, OA 14 (.alloc 32 [.bool false, .string ⟨#[]⟩, .string ⟨#[]⟩, .bool false, .string ⟨#[]⟩, .string ⟨#[]⟩]), OB (.store 6 (TT 14) (TT 57))]) (.seq (.F4 [.q, .q, .q, .q, .q, .q, .q, .q, .q,
 .q, .q, .q, .q, .q, .q, .q, .q, .q, .q, .q, .q, .q, .q, .q, .q, .q, .q, .q] [FF 58 0 14, LL 59 3 58, OA 60 (.call 45 [TT 59]), OA 61 (.un .not (TT 60)), MM 62 61, FG 63 3 14 62 false, LG 64 3 63 62 false, OC 65 (.call 45 [TT
 64]) 62 false, OC 66 (.un .not (TT 65)) 62 false, OA 67 (.pick (TT 62) (.const (.bool true)) (TT 66)), MM 68 67, FG 69 0 14 68 false, LG 70 3 69 68 false, OC 71 (.call 30 [TT 70]) 68 false, FG 72 5 5 68 false, LG 73 3 72 68
 false, OC 74 (.call 29 [TT 71, TT 73]) 68 false, OC 75 (.bin .gtr (TT 74) (II 0)) 68 false, OA 76 (.pick (TT 68) (.const (.bool true)) (TT 75)), MM 77 76, FG 78 3 14 77 false, LG 79 3 78 77 false, OC 80 (.call 30 [TT 79]) 77
 false, FG 81 5 5 77 false, LG 82 3 81 77 false, OC 83 (.call 29 [TT 80, TT 82]) 77 false, OC 84 (.bin .gtr (TT 83) (II 0)) 77 false, OA 85 (.pick (TT 77) (.const (.bool true)) (TT 84))]) (.cond (TT 85) (.seq (.reg [OA 86 (.build
 [.int .i64 0, .slice none 0 0, .slice none 0 0, .slice none 0 0, .slice none 0 0] []), OB (.store 5 (TT 10) (TT 86)), OA 11 (.mv (II 1))]) .ret) .skip)))) (.reg [OA 87 (.bin .add (TT 54) (II 1)), MM 54 87]))))))) (.seq (.seq
 (.reg [FF 88 0 6, VV 89 88, OA 90 (.bin .eql (TT 89) (II 2000))]) (.cond (TT 90) (.seq (.reg [OA 91 (.build [.int .i64 0, .slice none 0 0, .slice none 0 0, .slice none 0 0, .slice none 0 0] []), OB (.store 5 (TT 10) (TT 91)), OA
 11 (.mv (II 7))]) .ret) .skip)) (.seq (.reg [LL 92 5 6, OA 93 (.call 98 [TT 92]), OA 15 (.alloc 47 [.int .i64 0, .slice none 0 0, .slice none 0 0, .slice none 0 0, .slice none 0 0]), OB (.store 5 (TT 15) (TT 93))]) (.seq (.reg
 [FF 94 0 15, VV 95 94, OA 96 (.bin .add (TT 95) (II 1)), FF 97 0 15, OB (.store 1 (TT 97) (TT 96))]) (.seq (.seq (.reg [FF 98 0 5, VV 99 98, OA 100 (.len false (TT 99)), OA 101 (.mv (II 0))]) (.block 2 (.loop (.seq (.reg [OA 102
 (.bin .lss (TT 101) (TT 100))]) (.seq (.cond (TT 102) .skip (.exit 2)) (.seq (.block 3 (.seq (.reg [MM 103 101, OA 104 (.p9 12 (TT 99) (TT 101)), LL 105 12 104, OA 17 (.alloc 60 [.string ⟨#[]⟩, .bool false, .string ⟨#[]⟩,
 .string ⟨#[]⟩, .bool false, .string ⟨#[]⟩, .string ⟨#[]⟩, .bool false, .bool false, .string ⟨#[]⟩, .string ⟨#[]⟩, .slice none 0 0]), MM 16 103, OB (.store 12 (TT 17) (TT 105))]) (.seq (.F4 [.q, .q, .q, .q, .q, .q, .q, .q, .q,
 .q, .q, .q, .q, .q, .q, .q, .q, .l, .a, .e (some 18) false, .q] [LL 107 12 17, FF 108 1 6, VV 109 108, MM 110 16, OA 111 (.p9 4 (TT 109) (TT 110)), LL 112 4 111, MM 113 2, MM 114 16, OA 115 (.p9 1 (TT 113) (TT 114)), VV
 116 115, MM 117 3, MM 118 16, OA 119 (.p9 1 (TT 117) (TT 118)), VV 120 119, OA 121 (.call 99 [TT 107, TT 112, TT 116, TT 120]), MM 106 121, OA 122 (.ext (TT 106) 0), OA 123 (.ext (TT 106) 1), OA 18 (.alloc 81 [.slice none 0
 0, .slice none 0 0, .bool false, .int .i64 0]), OB (.store 4 (TT 18) (TT 122)), MM 19 123]) (.seq (.seq (.reg [MM 124 19, OA 125 (.bin .neq (TT 124) (II 0))]) (.cond (TT 125) (.seq (.reg [OA 126 (.build [.int .i64 0, .slice none
 0 0, .slice none 0 0, .slice none 0 0, .slice none 0 0] []), MM 127 19, OB (.store 5 (TT 10) (TT 126)), MM 11 127]) .ret) .skip)) (.seq (.reg [FF 128 1 15, VV 129 128, MM 130 16, LL 131 4 18, OA 132 (.p9 4 (TT 129) (TT 130)),
 OB (.store 4 (TT 132) (TT 131))]) (.seq (.reg [FF 133 3 18, VV 134 133, OA 135 (.bin .geq (TT 134) (II 0))]) (.cond (TT 135) (.seq (.F4 [.q, .q, .q, .q, .q, .q, .q, .q, .q, .q, .l, .q, .e none false, .q] [FF 137 2 15, VV 138
 137, FF 139 3 18, VV 140 139, LL 141 8 5, MM 142 16, LL 143 4 18, OA 144 (.call 100 [TT 141, TT 142, TT 143]), MM 136 144, OA 145 (.ext (TT 136) 0), OA 146 (.ext (TT 136) 1), OA 147 (.p9 10 (TT 138) (TT 140)), OB (.store 10
 (TT 147) (TT 145)), MM 19 146]) (.seq (.reg [MM 148 19, OA 149 (.bin .neq (TT 148) (II 0))]) (.cond (TT 149) (.seq (.reg [OA 150 (.build [.int .i64 0, .slice none 0 0, .slice none 0 0, .slice none 0 0, .slice none 0 0] []), MM
 151 19, OB (.store 5 (TT 10) (TT 150)), MM 11 151]) .ret) .skip))) .skip))))))) (.reg [OA 152 (.bin .add (TT 101) (II 1)), MM 101 152]))))))) (.seq (.seq (.reg [MM 153 4, OA 154 (.len false (TT 153)), OA 155 (.mv (II 0))])
 (.block 4 (.loop (.seq (.reg [OA 156 (.bin .lss (TT 155) (TT 154))]) (.seq (.cond (TT 156) .skip (.exit 4)) (.seq (.block 5 (.seq (.reg [MM 157 155, OA 158 (.p9 6 (TT 153) (TT 155)), LL 159 6 158, OA 21 (.alloc 32 [.bool
 false, .string ⟨#[]⟩, .string ⟨#[]⟩, .bool false, .string ⟨#[]⟩, .string ⟨#[]⟩]), MM 20 157, OB (.store 6 (TT 21) (TT 159))]) (.F4 [.q, .q, .q, .q, .q, .q, .q, .q, .q, .q, .q, .e none true] [FF 160 3 15, VV 161 160, MM 162 20,
 FF 163 3 6, VV 164 163, MM 165 20, OA 166 (.p9 6 (TT 164) (TT 165)), LL 167 6 166, LL 168 6 21, OA 169 (.call 101 [TT 167, TT 168]), OA 170 (.p9 6 (TT 161) (TT 162)), OB (.store 6 (TT 170) (TT 169))]))) (.reg [OA 171 (.bin
 .add (TT 155) (II 1)), MM 155 171]))))))) (.seq (.reg [LL 172 5 15, OB (.store 5 (TT 10) (TT 172)), OA 11 (.mv (II 0))]) .ret)))))))))⟩
theorem b2c : J2 eff Tryz.prog Tryz.f26 = some a3D := by kernel_rfl
theorem b2C : Tryz.prog.funcs[26]? = some Tryz.f26 := Tryz.func26
set_option maxHeartbeats 32000000
def a7g (w : Wk) (s : Stt) (u : List (List Nm.Rt)) (p : List Bool) (v : List Vt) : C := if a2H w s u p v = 0 then .tup [(Y1 w s u p v).c, ints 0] else .tup [.agg b4O, ints (a2H w s u p v)]
theorem c0x (w : Wk) (s : Stt) (u : List (List Nm.Rt)) (p : List Bool) (v : List Vt) (hwb : Wb 1048576 w) (hs : Stb 1048576 s) (hu : Wsb 1048576 u) (hp : p.length <= 1048576) (hv : Vbs 1048576 v) :
    FZ 26 [w.c, s.c, wss u, bls p, vts v] (a7g w s u p v) := by
  refine kW b2C b2c (by rfl) fun w' O hw => ?_
  have hck := a8e w s (hwb.mono (by decide)) (hs.mono (by decide))
  have hcp := fun (E : Ctx) (hP : E.P = Tryz.prog) => b9i hP s (hs.mono (by decide))
  have n1 := hs.arms.1
  have n2 := hs.parts.1
  have n3 := hs.people.1
  have n4 := hs.gates
  have n5 := hwb.arms.1
  have n6 := hu.1
  have n7 := hv.1
  by_cases h0 : N9 w s = 0
  · have hok := O9 h0
    have hE : a2H w s u p v = if u.length ≠ w.arms.length \/ p.length ≠ w.arms.length \/ v.length ≠ s.people.length then 1 else if v.all (a5K w.walk) = false then 1 else if s.tick = 2000 then 7 else 0 := by
      unfold a2H; rw [if_neg (by simpa using h0)]
    have hcar := fun (n : Nat) (x : Ast) (a : Am) (q : Nat) (pt : Pt) => b6G w n x a q pt hwb
    have hone := fun (z : Am × Ast) hz => a1x (hok.one z hz)
    have hbs := hs.arms.2
    have hba := hwb.arms.2
    have hbu := hu.2
    have hbv := hv.2
    have hbp := hs.people.2
    have hkw := hwb.walk
    have hal := a2s (u := u) (p := p) hok.arms
    have hag := @a2E w s u p
    have hpl := a7T w
    have hput : ∀ P z, a3h w P z = if z.2.holds < 0 then P else match w.parts[z.2.holds.toNat]? with | some pt => P.set z.2.holds.toNat (a6N z.1 z.2.q pt.grasp) | none => P := fun _ _ => rfl
    have e1 := hok.arms
    have e2 := hok.parts
    have e3 := hok.tick
    rw [h0] at hck
    unfold a7g Y1
    generalize a0A w s u p = A at *
    generalize a3h w = pP at *
    generalize a2H w s u p v = se at *
    clear hok h0
    obtain ⟨arms, walls, parts, slots, gates, walk⟩ := w
    obtain ⟨tick, sarms, sparts, people, sgates⟩ := s
    simp only at n1 n2 n3 n4 n5 hE hbs hba hbp hkw hal hag hput e1 e2 e3 hone ⊢
    simp only [a3D, j6, TT, II, OA, OB, OC, MM, LL, VV, FF, MG, LG, VG, FG]
    simp only [Wk.c, Wk.enc, Stt.c, Stt.enc, b4O, ams, wls, pts, sls, gts, J9, frs, vts, bls, wss, rts, sb, ints] at hck hcp hcar ⊢
    (repeat first | refine uA ?_ | (refine uK ?_ ?_; focus first | omega | (intros; simp_all <;> omega)) | simp (disch := omega) only [go_sem, Nat.reduceBEq, Nat.reduceAdd, ww] | (refine uD hck ?_ ?_ ?_; exact tz hw; exact rfl))
    refine S.cond rfl (fun hc => by simp at hc) (fun hc => ?_)
    (repeat first | refine uA ?_ | (refine uK ?_ ?_; focus first | omega | (intros; simp_all <;> omega)) | simp (disch := omega) only [go_sem, Nat.reduceBEq, Nat.reduceAdd, ww, c1o])
    refine S.cond rfl (fun hc => ?_) (fun hc => ?_)
    · have hl : u.length ≠ arms.length \/ p.length ≠ arms.length \/ v.length ≠ people.length := by simp only [c2d, Bool.not_eq_true', c1A] at hc; omega
      rw [if_pos hl] at hE
      subst hE
      rw [if_neg (by decide)]
      (repeat first | refine uA ?_ | (refine uK ?_ ?_; focus first | omega | (intros; simp_all <;> omega)) | simp (disch := omega) only [go_sem, Nat.reduceBEq, Nat.reduceAdd, ww])
      (refine S.done ?_; simp only [q8, l9, go_sem, Nat.reduceBEq, Nat.reduceAdd, Nat.reduceLeDiff, Int.reduceToNat, Int.reducePow]; (repeat (refine ⟨?_, ?_⟩; focus first | trivial | omega | simp)); exact j3.out rfl (Imp.tup (by (repeat' (first | exact p8.nil | exact Imp.refl rfl | exact Imp.frz rfl rfl rfl | exact Imp.P5 | refine Imp.agg ?_ | refine p8.cons ?_ ?_)))) rfl)
    have hl : ¬ (u.length ≠ arms.length \/ p.length ≠ arms.length \/ v.length ≠ people.length) := by simp only [c1J, Bool.not_eq_false', c1v] at hc; omega
    rw [if_neg hl] at hE
    have hl1 : u.length = arms.length := by omega
    have hl2 : p.length = arms.length := by omega
    have hl3 : v.length = people.length := by omega
    clear hl
    have hal := hal hl1 hl2
    (repeat first | refine uA ?_ | (refine uK ?_ ?_; focus first | omega | (intros; simp_all <;> omega)) | simp (disch := omega) only [go_sem, Nat.reduceBEq, Nat.reduceAdd, ww, c1o])
    refine S.loop (X := Nat) (fun i => ⟨[(2, wss u), (3, bls p), (4, vts v), (5, .bp 0 0), (6, .bp 1 0), (10, .bp 2 0), (52, vts v), (53, ints v.length), (54, ints i)], [.box 30 [ams arms, wls walls, pts parts, sls slots, gts gates, .v (.bool walk.neg), sb walk.num, sb walk.den], .box 47 [ints tick, J9 sarms, frs sparts, vts people, bls sgates], .box 47 [.v (.int .i64 0), .v (.slice none 0 0), .v (.slice none 0 0), .v (.slice none 0 0), .v (.slice none 0 0)]]⟩) (fun i => i <= v.length /\ v.all (a5K walk) = (v.drop i).all (a5K walk)) (fun i => v.length - i) 0 ⟨c1u _, rfl⟩ (by (repeat first | refine uA ?_ | (refine ⟨?_, ?_⟩; focus first | rfl | simp [slot]) | rfl | simp)) ?_
    rintro i ⟨hi, hg⟩
    simp only [ams, wls, pts, sls, gts, J9, frs, vts, bls, wss, rts, sb, ints] at hi ⊢
    (repeat first | refine uA ?_ | (refine uK ?_ ?_; focus first | omega | (intros; simp_all <;> omega)) | simp (disch := omega) only [go_sem, Nat.reduceBEq, Nat.reduceAdd, ww])
    (refine uJ rfl (fun hc => ?_) fun hc => ?_)
    · have hgv := c1n (show i < v.length by omega)
      generalize v[i]'_ = y at hgv
      have hd := b2Q (f := a5K walk) hgv
      obtain ⟨by1, by2⟩ := hbv y (c1q hgv)
      have o1 := a1b y.x (by1.mono (by decide))
      have o2 := a1b y.y (by2.mono (by decide))
      have o3 := a5z y.x (by1.mono (by decide))
      have o4 := a5z y.y (by2.mono (by decide))
      have o5 := X5 (Nm.ofQ (G7 (Nm.d9 y.x))) walk (a3W ((by1.mono (m := 17179869184) (by decide)).fit (by decide))) (hkw.mono (by decide))
      have o6 := X5 (Nm.ofQ (G7 (Nm.d9 y.y))) walk (a3W ((by2.mono (m := 17179869184) (by decide)).fit (by decide))) (hkw.mono (by decide))
      rw [Nm.E8] at o5 o6
      have hm := b9f (G7 (Nm.d9 y.x)) (G7 (Nm.d9 y.y)) (Nm.d9 walk)
      have hv : a5K walk y = (decide y.x.G5 && decide y.y.G5 && !decide (0 < Nm.C8 (a1v (G7 (Nm.d9 y.x)) (G7 (Nm.d9 y.y))) (Nm.d9 walk))) := rfl
      rw [hv] at hd
      clear hv
      generalize Nm.C8 (a1v (G7 (Nm.d9 y.x)) (G7 (Nm.d9 y.y))) (Nm.d9 walk) = c0 at *
      generalize decide y.x.G5 = g1 at *
      generalize decide y.y.G5 = g2 at *
      generalize Nm.C8 (G7 (Nm.d9 y.x)) (Nm.d9 walk) = c1 at *
      generalize Nm.C8 (G7 (Nm.d9 y.y)) (Nm.d9 walk) = c2 at *
      unfold rq at o3 o4
      generalize Nm.ofQ (G7 (Nm.d9 y.x)) = a1 at *
      generalize Nm.ofQ (G7 (Nm.d9 y.y)) = a2 at *
      simp only [rc, sb, ints] at o1 o2 o3 o4 o5 o6
      (repeat first | refine uA ?_ | (refine uK ?_ ?_; focus first | omega | (intros; simp_all <;> omega)) | simp (disch := omega) only [go_sem, Nat.reduceBEq, Nat.reduceAdd, ww, hgv, c1p, c1o, Vt.enc, sb, c1x] | (refine uD o1 ?_ ?_ ?_; exact tz hw; exact rfl) | (refine uD o2 ?_ ?_ ?_; exact tz hw; exact rfl) | (refine uD o3 ?_ ?_ ?_; exact tz hw; exact rfl) | (refine uD o4 ?_ ?_ ?_; exact tz hw; exact rfl) | (refine uD o5 ?_ ?_ ?_; exact tz hw; exact rfl) | (refine uD o6 ?_ ?_ ?_; exact tz hw; exact rfl))
      refine S.cond rfl (fun hc2 => ?_) (fun hc2 => ?_)
      · have hf : v.all (a5K walk) = false := by
          rw [hg, hd]
          cases g1
          · rfl
          cases g2
          · rfl
          simp only [Bool.not_true, Bool.false_or, c2d, c1v] at hc2
          rw [decide_eq_true (show 0 < c0 from hm.2 hc2)]; rfl
        rw [if_pos hf] at hE
        subst hE
        rw [if_neg (by decide)]
        (repeat first | refine uA ?_ | (refine uK ?_ ?_; focus first | omega | (intros; simp_all <;> omega)) | simp (disch := omega) only [go_sem, Nat.reduceBEq, Nat.reduceAdd, ww])
        (refine S.done ?_; simp only [q8, l9, go_sem, Nat.reduceBEq, Nat.reduceAdd, Nat.reduceLeDiff, Int.reduceToNat, Int.reducePow]; (repeat (refine ⟨?_, ?_⟩; focus first | trivial | omega | simp)); exact j3.out rfl (Imp.tup (by (repeat' (first | exact p8.nil | exact Imp.refl rfl | exact Imp.frz rfl rfl rfl | exact Imp.P5 | refine Imp.agg ?_ | refine p8.cons ?_ ?_)))) rfl)
      · (repeat first | refine uA ?_ | (refine uK ?_ ?_; focus first | omega | (intros; simp_all <;> omega)) | simp (disch := omega) only [go_sem, Nat.reduceBEq, Nat.reduceAdd, ww])
        refine S.next (i + 1) ⟨by omega, ?_⟩ (by omega) (by (repeat first | refine uA ?_ | (refine ⟨?_, ?_⟩; focus first | rfl | simp [slot]) | rfl | simp))
        rw [hg, hd]
        cases g1
        · simp at hc2
        cases g2
        · simp at hc2
        simp only [Bool.not_true, Bool.false_or, c1J, c1A] at hc2
        rw [decide_eq_false (show ¬ 0 < c0 from fun h => by have := hm.1 h; omega)]; rfl
    rw [List.drop_eq_nil_of_le (by omega), List.all_nil] at hg
    rw [hg, if_neg (by decide)] at hE
    (repeat first | refine uA ?_ | (refine uK ?_ ?_; focus first | omega | (intros; simp_all <;> omega)) | simp (disch := omega) only [go_sem, Nat.reduceBEq, Nat.reduceAdd, ww])
    refine S.cond rfl (fun hc => ?_) (fun hc => ?_)
    · rw [if_pos (by simpa using hc)] at hE
      subst hE
      rw [if_neg (by decide)]
      (repeat first | refine uA ?_ | (refine uK ?_ ?_; focus first | omega | (intros; simp_all <;> omega)) | simp (disch := omega) only [go_sem, Nat.reduceBEq, Nat.reduceAdd, ww])
      (refine S.done ?_; simp only [q8, l9, go_sem, Nat.reduceBEq, Nat.reduceAdd, Nat.reduceLeDiff, Int.reduceToNat, Int.reducePow]; (repeat (refine ⟨?_, ?_⟩; focus first | trivial | omega | simp)); exact j3.out rfl (Imp.tup (by (repeat' (first | exact p8.nil | exact Imp.refl rfl | exact Imp.frz rfl rfl rfl | exact Imp.P5 | refine Imp.agg ?_ | refine p8.cons ?_ ?_)))) rfl)
    rw [if_neg (by simpa using hc)] at hE
    subst hE
    rw [if_pos rfl]
    have htk : IntKind.i64.wrap (tick + 1) = tick + 1 := wrap_i64 (by omega)
    (repeat first | refine uA ?_ | (refine uK ?_ ?_; focus first | omega | (intros; simp_all <;> omega)) | simp (disch := omega) only [go_sem, Nat.reduceBEq, Nat.reduceAdd, ww, C.sh, C.shL, c1I, List.length_nil, c1o, htk] | refine l8.t (l6.pre (hcp _ rfl) rfl rfl rfl) ?_)
    refine S.loop (X := Nat) (fun i => ⟨[(2, wss u), (3, bls p), (4, vts v), (5, .bp 0 0), (6, .bp 1 0), (10, .bp 2 0), (15, .bp 9 0), (99, ams arms), (100, ints arms.length), (101, ints i)], [.box 30 [ams arms, wls walls, pts parts, sls slots, gts gates, .v (.bool walk.neg), sb walk.num, sb walk.den], .box 47 [ints tick, J9 sarms, frs sparts, vts people, bls sgates], .box 47 [.v (.int .i64 0), .v (.slice none 0 0), .v (.slice none 0 0), .v (.slice none 0 0), .v (.slice none 0 0)], .gone, .gone, .row 36 10 ((((arms.zip A).take i).foldl pP sparts).map Fr.enc), .row 32 6 (people.map Vt.enc), .gone, .row 81 4 ((A.take i ++ sarms.drop i).map Ast.enc), .box 47 [ints (tick + 1), .rv 8, .rv 5, .rv 6, bls sgates]]⟩) (fun i => i <= arms.length) (fun i => arms.length - i) 0 (c1u _) (by (repeat first | refine uA ?_ | (refine ⟨?_, ?_⟩; focus first | rfl | simp [slot]) | rfl | simp)) ?_
    intro i hi
    simp only [ams, wls, pts, sls, gts, J9, frs, vts, bls, wss, rts, sb, ints] at hi ⊢
    (repeat first | refine uA ?_ | (refine uK ?_ ?_; focus first | omega | (intros; simp_all <;> omega)) | simp (disch := omega) only [go_sem, Nat.reduceBEq, Nat.reduceAdd, ww])
    (refine uJ rfl (fun hc => ?_) fun hc => ?_)
    · have hga := c1n (show i < arms.length by omega)
      have hgx := c1n (show i < sarms.length by omega)
      have hgu := c1n (show i < u.length by omega)
      have hgp := c1n (show i < p.length by omega)
      generalize arms[i]'_ = a at hga
      generalize sarms[i]'_ = x at hgx
      generalize u[i]'_ = ui at hgu
      generalize p[i]'_ = b at hgp
      have hgA := hag hga hgx hgu hgp
      have hz := c1q (H6 hga hgx)
      obtain ⟨k1, k2, k3, k4⟩ := hone _ hz
      simp only at k1 k2 k3 k4
      have bx := hbs x (c1q hgx)
      have bu := hbu ui (c1q hgu)
      have ba := hba a (c1q hga)
      have o1 := c0m a x ui b (ba.mono (by decide)) ⟨⟨c1s bx.1.1 (by decide), fun r hr => (bx.1.2 r hr).mono (by decide)⟩, c1s bx.2.1 (by decide), fun r hr => (bx.2.2 r hr).mono (by decide)⟩ ⟨c1s bu.1 (by decide), fun r hr => (bu.2 r hr).mono (by decide)⟩ k1 k2 k3
      have hfa := fold_at (f := pP) (H6 hga hgA) sparts
      rw [hput] at hfa
      have hh := holds_one a x ui b
      have hql := (b4q (u := ui) (p := b) ⟨k1, k2, k3, k4⟩).1
      have hqb := (c0j (u := ui) (p := b) k1 bx bu.2).1
      have hcar := fun q pt => hcar i (Y4 a x ui b) a q pt hga
      have hPl := hpl ((arms.zip A).take i) sparts
      have s1 := a7a Ast.enc (by omega) hgA (m := sarms)
      have m1 := a5b (l := A) (m := sarms) (i := i) (by omega) (by omega)
      generalize hA1 : A.take (i + 1) ++ sarms.drop (i + 1) = A1 at *
      generalize A.take i ++ sarms.drop i = A0 at *
      generalize hP1 : ((arms.zip A).take (i + 1)).foldl pP sparts = P1 at *
      generalize ((arms.zip A).take i).foldl pP sparts = P0 at *
      obtain ⟨z0, hz0⟩ : ∃ z0, A0[i]? = some z0 := ⟨_, c1n (show i < A0.length by omega)⟩
      generalize hy : Y4 a x ui b = y at *
      have hxi : (i : Int) < sarms.length := by omega
      have hui : (i : Int) < u.length := by omega
      have hpi : (i : Int) < p.length := by omega
      simp only [Am.c, Am.enc, Ast.c, Ast.enc, lks, rts, sb, ints] at o1 s1 hcar
      (repeat first | refine uA ?_ | (refine uK ?_ ?_; focus first | omega | (intros; simp_all <;> omega)) | simp (disch := omega) only [go_sem, Nat.reduceBEq, Nat.reduceAdd, ww, hga, hgx, hgu, hgp, hz0, m1, s1, c1p, c1o, Am.enc, Ast.enc, lks, rts, sb, ints, c1x] | (refine uD o1 ?_ ?_ ?_; exact tz hw; exact rfl))
      refine S.cond rfl (fun hc2 => by simp at hc2) (fun hc2 => ?_)
      (repeat first | refine uA ?_ | (refine uK ?_ ?_; focus first | omega | (intros; simp_all <;> omega)) | simp (disch := omega) only [go_sem, Nat.reduceBEq, Nat.reduceAdd, ww, hz0, m1, s1, c1p, c1o, Ast.enc, rts, ints, c1x])
      refine S.cond rfl (fun hc3 => ?_) (fun hc3 => ?_)
      · have hp0 : 0 <= y.holds := by simpa using hc3
        obtain ⟨q, hq⟩ : ∃ q : Nat, y.holds = q := ⟨y.holds.toNat, by omega⟩
        have hqp : q < parts.length := by omega
        have hgq := c1n hqp
        generalize parts[q] = pt at hgq
        have o2 := hcar q pt hgq hq k1 hql hqb
        rw [if_neg (by simp only; omega)] at hfa
        simp only [hq, c1x, hgq] at hfa
        have s2 : (P0.map Fr.enc).set q (a6N a y.q pt.grasp).enc = P1.map Fr.enc := by rw [<- List.map_set, <- hfa]
        obtain ⟨z1, hz1⟩ : ∃ z1, P0[q]? = some z1 := ⟨_, c1n (show q < P0.length by omega)⟩
        have hq2 : (q : Int) < P0.length := by omega
        generalize a6N a y.q pt.grasp = R at *
        simp only [Fr.c, Fr.enc, hq, sb] at o2 s2
        simp only [hq]
        (repeat first | refine uA ?_ | (refine uK ?_ ?_; focus first | omega | (intros; simp_all <;> omega)) | simp (disch := omega) only [go_sem, Nat.reduceBEq, Nat.reduceAdd, ww, hz1, s2, hPl, Fr.enc, sb, c1p, c1o, c1x] | (refine uD o2 ?_ ?_ ?_; exact tz hw; exact rfl))
        refine S.cond rfl (fun hc2 => by simp at hc2) (fun hc2 => ?_)
        (repeat first | refine uA ?_ | (refine uK ?_ ?_; focus first | omega | (intros; simp_all <;> omega)) | simp (disch := omega) only [go_sem, Nat.reduceBEq, Nat.reduceAdd, ww])
        refine S.next (i + 1) (by omega) (by omega) (by simp only [hA1, hP1]; exact (by (repeat first | refine uA ?_ | (refine ⟨?_, ?_⟩; focus first | rfl | simp [slot]) | rfl | simp)))
      · have hp0 : y.holds < 0 := by simp only [c1A] at hc3; omega
        rw [if_pos (by simpa using hp0)] at hfa
        subst hfa
        (repeat first | refine uA ?_ | (refine uK ?_ ?_; focus first | omega | (intros; simp_all <;> omega)) | simp (disch := omega) only [go_sem, Nat.reduceBEq, Nat.reduceAdd, ww])
        refine S.next (i + 1) (by omega) (by omega) (by simp only [hA1, hP1]; exact (by (repeat first | refine uA ?_ | (refine ⟨?_, ?_⟩; focus first | rfl | simp [slot]) | rfl | simp)))
    have hi' : i = arms.length := by omega
    subst hi'
    rw [show (arms.zip A).take arms.length = arms.zip A from c1H (by rw [List.length_zip]; omega), show A.take arms.length ++ sarms.drop arms.length = A by rw [<- e1]; exact mid_end (by omega)]
    have hMl : ((people.zip v).map a7Q).length = people.length := by rw [c1o, List.length_zip]; omega
    have hMg : ∀ (i : Nat) (a b : Vt), people[i]? = some a -> v[i]? = some b -> ((people.zip v).map a7Q)[i]? = some (a7Q (a, b)) := fun i a b h1 h2 => by rw [c1Z, H6 h1 h2]; rfl
    generalize (arms.zip A).foldl pP sparts = PP at *
    generalize (people.zip v).map a7Q = M at *
    (repeat first | refine uA ?_ | (refine uK ?_ ?_; focus first | omega | (intros; simp_all <;> omega)) | simp (disch := omega) only [go_sem, Nat.reduceBEq, Nat.reduceAdd, ww, c1o])
    refine S.loop (X := Nat) (fun i => ⟨[(6, .bp 1 0), (10, .bp 2 0), (15, .bp 9 0), (153, vts v), (154, ints v.length), (155, ints i)], [.gone, .box 47 [ints tick, J9 sarms, frs sparts, vts people, bls sgates], .box 47 [.v (.int .i64 0), .v (.slice none 0 0), .v (.slice none 0 0), .v (.slice none 0 0), .v (.slice none 0 0)], .gone, .gone, .row 36 10 (PP.map Fr.enc), .row 32 6 ((M.take i ++ people.drop i).map Vt.enc), .gone, .row 81 4 (A.map Ast.enc), .box 47 [ints (tick + 1), .rv 8, .rv 5, .rv 6, bls sgates]]⟩) (fun i => i <= v.length) (fun i => v.length - i) 0 (c1u _) (by (repeat first | refine uA ?_ | (refine ⟨?_, ?_⟩; focus first | rfl | simp [slot]) | rfl | simp)) ?_
    intro i hi
    simp only [ams, wls, pts, sls, gts, J9, frs, vts, bls, wss, rts, sb, ints] at hi ⊢
    (repeat first | refine uA ?_ | (refine uK ?_ ?_; focus first | omega | (intros; simp_all <;> omega)) | simp (disch := omega) only [go_sem, Nat.reduceBEq, Nat.reduceAdd, ww])
    (refine uJ rfl (fun hc => ?_) fun hc => ?_)
    · have hgv := c1n (show i < v.length by omega)
      have hgw := c1n (show i < people.length by omega)
      generalize v[i]'_ = b at hgv
      generalize people[i]'_ = a at hgw
      have hgM := hMg i a b hgw hgv
      obtain ⟨ba1, ba2⟩ := hbp a (c1q hgw)
      obtain ⟨bb1, bb2⟩ := hbv b (c1q hgv)
      have o1 := b6K a.x a.y b.x b.y (ba1.mono (by decide)) (ba2.mono (by decide)) (bb1.mono (by decide)) (bb2.mono (by decide))
      have s1 := a7a Vt.enc (by omega) hgM (m := people)
      have m1 := a5b (l := M) (m := people) (i := i) (by omega) (by omega)
      have hV : a7Q (a, b) = ⟨Nm.ofQ (Nm.d9 a.x + Nm.d9 b.x), Nm.ofQ (Nm.d9 a.y + Nm.d9 b.y)⟩ := rfl
      rw [hV] at s1
      unfold vq at o1
      generalize Nm.ofQ (Nm.d9 a.x + Nm.d9 b.x) = r1 at *
      generalize Nm.ofQ (Nm.d9 a.y + Nm.d9 b.y) = r2 at *
      generalize hM1 : M.take (i + 1) ++ people.drop (i + 1) = M1 at *
      generalize M.take i ++ people.drop i = M0 at *
      obtain ⟨z0, hz0⟩ : ∃ z0, M0[i]? = some z0 := ⟨_, c1n (show i < M0.length by omega)⟩
      have hwi : (i : Int) < people.length := by omega
      simp only [vc, Vt.enc, sb] at o1 s1
      (repeat first | refine uA ?_ | (refine uK ?_ ?_; focus first | omega | (intros; simp_all <;> omega)) | simp (disch := omega) only [go_sem, Nat.reduceBEq, Nat.reduceAdd, ww, hgv, hgw, hz0, m1, s1, c1p, c1o, Vt.enc, sb, c1x] | (refine uD o1 ?_ ?_ ?_; exact tz hw; exact rfl))
      refine S.next (i + 1) (by omega) (by omega) (by simp only [hM1]; exact (by (repeat first | refine uA ?_ | (refine ⟨?_, ?_⟩; focus first | rfl | simp [slot]) | rfl | simp)))
    have hi' : i = v.length := by omega
    subst hi'
    rw [show M.take v.length ++ people.drop v.length = M by rw [hl3]; exact mid_end (by omega)]
    (repeat first | refine uA ?_ | (refine uK ?_ ?_; focus first | omega | (intros; simp_all <;> omega)) | simp (disch := omega) only [go_sem, Nat.reduceBEq, Nat.reduceAdd, ww])
    (refine S.done ?_; simp only [q8, l9, go_sem, Nat.reduceBEq, Nat.reduceAdd, Nat.reduceLeDiff, Int.reduceToNat, Int.reducePow]; (repeat (refine ⟨?_, ?_⟩; focus first | trivial | omega | simp)); exact j3.out rfl (Imp.tup (by (repeat' (first | exact p8.nil | exact Imp.refl rfl | exact Imp.frz rfl rfl rfl | exact Imp.P5 | refine Imp.agg ?_ | refine p8.cons ?_ ?_)))) rfl)
  · have hE : a2H w s u p v = N9 w s := by unfold a2H; rw [if_pos h0]
    unfold a7g
    rw [hE, if_neg h0]
    generalize N9 w s = e at *
    obtain ⟨arms, walls, parts, slots, gates, walk⟩ := w
    obtain ⟨tick, sarms, sparts, people, sgates⟩ := s
    simp only [a3D, j6, TT, II, OA, OB, OC, MM, LL, VV, FF, MG, LG, VG, FG]
    simp only [Wk.c, Wk.enc, Stt.c, Stt.enc, b4O, ams, wls, pts, sls, gts, J9, frs, vts, bls, wss, rts, sb, ints] at hck ⊢
    (repeat first | refine uA ?_ | (refine uK ?_ ?_; focus first | omega | (intros; simp_all <;> omega)) | simp (disch := omega) only [go_sem, Nat.reduceBEq, Nat.reduceAdd, ww] | (refine uD hck ?_ ?_ ?_; exact tz hw; exact rfl))
    refine S.cond rfl (fun hc => ?_) (fun hc => by simp at hc; exact absurd hc h0)
    (repeat first | refine uA ?_ | (refine uK ?_ ?_; focus first | omega | (intros; simp_all <;> omega)) | simp (disch := omega) only [go_sem, Nat.reduceBEq, Nat.reduceAdd, ww])
    (refine S.done ?_; simp only [q8, l9, go_sem, Nat.reduceBEq, Nat.reduceAdd, Nat.reduceLeDiff, Int.reduceToNat, Int.reducePow]; (repeat (refine ⟨?_, ?_⟩; focus first | trivial | omega | simp)); exact j3.out rfl (Imp.tup (by (repeat' (first | exact p8.nil | exact Imp.refl rfl | exact Imp.frz rfl rfl rfl | exact Imp.P5 | refine Imp.agg ?_ | refine p8.cons ?_ ?_)))) rfl)
set_option maxRecDepth 10000
set_option maxHeartbeats 4000000
end Go.Proofs.YtpjjiegfigpgnaaGreatDoor
namespace Go.Proofs.YtpjjiegfigpgnaaGreatDoor.Eng
open Go Go.RowKit
theorem l6.quiet {P : Program} {f : Nat} {args : List C} {s s' : C} {rs' : List Res} (h : ∀ E : Ctx, E.P = P -> l6 E [] f args s rs' []) (hi : Imp rs' [] s s') (hc : s'.cl = true) : F7 P f args s' := by
 intro O w vs hO hA
 have ho0 : ∀ b, ¬ owned [] [] b := fun b ⟨k, r, x, hk, _⟩ => by simp at hk
 have hRG : RG O (fun _ => False) w.heap.size [] [] w := ⟨rfl, fun k r hk => by simp at hk, fun k l r r' x x' b _ hk => by simp at hk, fun b hb => (ho0 b hb).elim, hO, c1w _⟩
 have hsub : ∀ b, OO O [] [] b -> O b := fun b hb => hb.elim id fun h => (ho0 b h).elim
 refine (h ⟨P, fun _ => false, 0, w, fun _ => False, O, [], []⟩ rfl O [] w vs hRG (fun b hb => hb) ⟨rfl, rfl, rfl, c1w _, fun _ _ _ => rfl⟩ ((FzL.keep (Keeps.sub hsub) hA).den [])).mono ?_
 rintro e w' ⟨y, ν', rfl, h1, h2, h3⟩
 have hC : Cut O rs' [] ν' := Cut.of h1 (by simp [R7])
 have h4 := hi O (fun _ => False) w.heap.size ν' w' y h1 hC h3
 exact ⟨y, rfl, ⟨h2.os, h2.tape, h2.output, h2.size, fun b hb => h2.block b hb (ho0 b)⟩, Fz.keep (Keeps.sub fun b hb => .inl hb) (Den.fz hc h4)⟩
end Go.Proofs.YtpjjiegfigpgnaaGreatDoor.Eng
namespace Go.Proofs.YtpjjiegfigpgnaaGreatDoor
open Go Go.RowKit Eng
set_option maxRecDepth 10000
set_option maxHeartbeats 16000000
open Go Eng
set_option maxRecDepth 100000
set_option maxRecDepth 10000
set_option maxHeartbeats 8000000
instance : DecidableEq Nm.Rt := fun ⟨a, b, c⟩ ⟨d, e, f⟩ => decidable_of_iff (a = d /\ b = e /\ c = f) ⟨fun ⟨h1, h2, h3⟩ => by rw [h1, h2, h3], fun h => by injection h with h1 h2 h3; exact ⟨h1, h2, h3⟩⟩
instance : DecidableEq Vt := fun ⟨a, b⟩ ⟨d, e⟩ => decidable_of_iff (a = d /\ b = e) ⟨fun ⟨h1, h2⟩ => by rw [h1, h2], fun h => by injection h with h1 h2; exact ⟨h1, h2⟩⟩
instance : DecidableEq Fr := fun ⟨a, b, c, g⟩ ⟨d, e, f, h⟩ => decidable_of_iff (a = d /\ b = e /\ c = f /\ g = h) ⟨fun ⟨h1, h2, h3, h4⟩ => by rw [h1, h2, h3, h4], fun h => by injection h with h1 h2 h3 h4; exact ⟨h1, h2, h3, h4⟩⟩
instance : DecidableEq Ast := fun ⟨a, b, c, g⟩ ⟨d, e, f, h⟩ => decidable_of_iff (a = d /\ b = e /\ c = f /\ g = h) ⟨fun ⟨h1, h2, h3, h4⟩ => by rw [h1, h2, h3, h4], fun h => by injection h with h1 h2 h3 h4; exact ⟨h1, h2, h3, h4⟩⟩
instance : DecidableEq Stt := fun ⟨a, b, c, g, i⟩ ⟨d, e, f, h, j⟩ => decidable_of_iff (a = d /\ b = e /\ c = f /\ g = h /\ i = j) ⟨fun ⟨h1, h2, h3, h4, h5⟩ => by rw [h1, h2, h3, h4, h5], fun h => by injection h with h1 h2 h3 h4 h5; exact ⟨h1, h2, h3, h4, h5⟩⟩
theorem c0c (a b : List Fr) (hn : a.length <= 1000000000000) (hb : b.length <= 1000000000000) : F7 Tryz.prog 28 [frs a, frs b] (.v (.bool (decide (a = b)))) := by
  refine kS Tryz.func28 (by cbv) (by rfl) fun w O => ?_
  simp only [j6, ints, frs]
  (repeat first | refine uA ?_ | (refine uK ?_ ?_; focus first | omega | (intros; simp_all <;> omega)) | simp (disch := omega) only [go_sem, Nat.reduceBEq, Nat.reduceAdd, ww, c1o])
  (refine uJ rfl (fun hc => ?_) fun hc => ?_)
  · have hne : ¬ a = b := fun e => hc (by rw [e])
    rw [decide_eq_false hne]
    (repeat first | refine uA ?_ | (refine uK ?_ ?_; focus first | omega | (intros; simp_all <;> omega)) | simp (disch := omega) only [go_sem, Nat.reduceBEq, Nat.reduceAdd, ww])
    exact S.done (j3.out rfl (Imp.refl rfl) rfl)
  have hlen : a.length = b.length := by omega
  (repeat first | refine uA ?_ | (refine uK ?_ ?_; focus first | omega | (intros; simp_all <;> omega)) | simp (disch := omega) only [go_sem, Nat.reduceBEq, Nat.reduceAdd, ww, c1o])
  refine S.loop (X := Nat) (fun i => ⟨[(0, frs a), (1, frs b), (12, ints a.length), (13, ints i)], []⟩)
    (fun i => i <= a.length /\ a.take i = b.take i) (fun i => a.length - i) 0 ⟨c1u _, by simp⟩ (by (repeat first | refine uA ?_ | (refine ⟨?_, ?_⟩; focus first | rfl | simp [slot]) | rfl | simp)) ?_
  rintro i ⟨hi, he⟩
  simp only [ints, frs] at hi ⊢
  (repeat first | refine uA ?_ | (refine uK ?_ ?_; focus first | omega | (intros; simp_all <;> omega)) | simp (disch := omega) only [go_sem, Nat.reduceBEq, Nat.reduceAdd, ww])
  (refine uJ rfl (fun hc => ?_) fun hc => ?_)
  · have hgi := c1n (show i < a.length by omega)
    have hgj := c1n (show i < b.length by omega)
    have hti := c2e (show i < a.length by omega)
    have htj := c2e (show i < b.length by omega)
    generalize a[i]'_ = z at hgi hti
    generalize b[i]'_ = y at hgj htj
    by_cases hzy : z = y
    · subst hzy
      (repeat first | refine uA ?_ | (refine uK ?_ ?_; focus first | omega | (intros; simp_all <;> omega)) | simp (disch := omega) only [go_sem, Nat.reduceBEq, Nat.reduceAdd, ww, hgi, hgj, c1p, c1o, Fr.enc, sb, c1x, a8K, beq_self_eq_true, decide_true])
      refine S.cond rfl (fun hc2 => by simp at hc2) (fun hc2 => ?_)
      (repeat first | refine uA ?_ | (refine uK ?_ ?_; focus first | omega | (intros; simp_all <;> omega)) | simp (disch := omega) only [go_sem, Nat.reduceBEq, Nat.reduceAdd, ww])
      refine S.next (i + 1) ⟨by omega, by rw [hti, htj, he]⟩ (by omega) (by (repeat first | refine uA ?_ | (refine ⟨?_, ?_⟩; focus first | rfl | simp [slot]) | rfl | simp))
    · have hne : ¬ a = b := fun e => by
        subst e
        rw [hgi] at hgj
        injection hgj with hgj
        exact hzy hgj
      obtain ⟨⟨z1, z2, z3⟩, ⟨z4, z5, z6⟩, z7, ⟨z8, z9, z10⟩⟩ := z
      obtain ⟨⟨y1, y2, y3⟩, ⟨y4, y5, y6⟩, y7, ⟨y8, y9, y10⟩⟩ := y
      (repeat first | refine uA ?_ | (refine uK ?_ ?_; focus first | omega | (intros; simp_all <;> omega)) | simp (disch := omega) only [go_sem, Nat.reduceBEq, Nat.reduceAdd, ww, hgi, hgj, c1p, c1o, Fr.enc, sb, c1x, a8K])
      refine S.cond rfl (fun hc2 => ?_) (fun hc2 => by simp at hc2 hzy; simp_all)
      rw [decide_eq_false hne]
      (repeat first | refine uA ?_ | (refine uK ?_ ?_; focus first | omega | (intros; simp_all <;> omega)) | simp (disch := omega) only [go_sem, Nat.reduceBEq, Nat.reduceAdd, ww])
      exact S.done (j3.out rfl (Imp.refl rfl) rfl)
  have hi' : i = a.length := by omega
  subst hi'
  have hab : a = b := by
    rw [c1N] at he
    rw [hlen, c1N] at he
    exact he
  rw [decide_eq_true hab]
  (repeat first | refine uA ?_ | (refine uK ?_ ?_; focus first | omega | (intros; simp_all <;> omega)) | simp (disch := omega) only [go_sem, Nat.reduceBEq, Nat.reduceAdd, ww])
  exact S.done (j3.out rfl (Imp.refl rfl) rfl)
theorem R3 (x y : Int) (hx : -1000000 <= x /\ x <= 1000000) (hy : -1000000 <= y /\ y <= 1000000) : F7 Tryz.prog 155 [ints x, ints y] (atV x y).c := by
 refine kS Tryz.func155 (by cbv) (by rfl) fun w O => ?_
 have h1 := a1l x 4 (by omega) (by omega)
 have h2 := a1l y 4 (by omega) (by omega)
 unfold atV
 generalize Q x 4 = qx at *
 generalize Q y 4 = qy at *
 simp only [j6]
 simp only [rc, sb, ints, Vt.c, Vt.enc] at *
 (repeat first | refine uA ?_ | (refine uK ?_ ?_; focus first | omega | (intros; simp_all <;> omega)) | simp (disch := omega) only [go_sem, Nat.reduceBEq, Nat.reduceAdd, ww] | (refine uB h1 ?_ ?_; exact rfl) | (refine uB h2 ?_ ?_; exact rfl))
 (refine S.done ?_; simp only [q8, l9, go_sem, Nat.reduceBEq, Nat.reduceAdd, Nat.reduceLeDiff, Int.reduceToNat, Int.reducePow]; (repeat (refine ⟨?_, ?_⟩; focus first | trivial | omega | simp)); exact j3.out rfl (Imp.refl rfl) rfl)
theorem b5W (x y u v : Int) (hx : -100000 <= x /\ x <= 100000) (hy : -100000 <= y /\ y <= 100000) (hu : -100000 <= u /\ u <= 100000) (hv : -100000 <= v /\ v <= 100000) : F7 Tryz.prog 153 [ints x, ints y, ints u, ints v] (vts (a4n x y u v)) := by
 refine kS Tryz.func153 (by cbv) (by rfl) fun w O => ?_
 have h1 := R3 x y (by omega) (by omega)
 have h2 := R3 u y (by omega) (by omega)
 have h3 := R3 u v (by omega) (by omega)
 have h4 := R3 x v (by omega) (by omega)
 unfold a4n
 generalize atV x y = p1 at *
 generalize atV u y = p2 at *
 generalize atV u v = p3 at *
 generalize atV x v = p4 at *
 simp only [j6]
 simp only [vts, Vt.c, Vt.enc, sb, ints] at *
 (repeat first | refine uA ?_ | (refine uK ?_ ?_; focus first | omega | (intros; simp_all <;> omega)) | simp (disch := omega) only [go_sem, Nat.reduceBEq, Nat.reduceAdd, ww] | (refine uB h1 ?_ ?_; exact rfl) | (refine uB h2 ?_ ?_; exact rfl) | (refine uB h3 ?_ ?_; exact rfl) | (refine uB h4 ?_ ?_; exact rfl))
 exact S.done (j3.out rfl (Imp.frz rfl rfl rfl) rfl)
theorem b7Q (l : List Int) : a1h l = if nx (l.drop 2) 4 = 1 then (a1i (1 + nx l 6) (1 + nx (l.drop 1) 6) 1 (nx (l.drop 3) (2 * (1 + nx l 6) + 1)), l.drop 4) else (a1i (1 + nx l 6) (1 + nx (l.drop 1) 6) (nx (l.drop 2) 4) 0, l.drop 3) := by
 unfold a1h
 by_cases h : nx (l.drop 2) 4 = 1
 ·simp only [h, if_true]
 ·simp only [if_neg h]
theorem b9R {E : Ctx} (hP : E.P = Tryz.prog) (l : List Int) :
  l6 E [.box 209 [A8 l]] 154 [.bp 0 0] (vts (a1h l).1) [.box 209 [A8 (a1h l).2]] [] := by
 obtain ⟨P, eff', N, w0, own0, av0, nu0, pk0⟩ := E
 simp only at hP
 subst hP
 refine l6.of (eff := eff) a7I a8h (by exact c1E rfl) fun w own av ν hν => ?_
 have hν0 : ν.length <= 1 := by rw [hν]; exact c1w _
 have n1 := fun (E : Ctx) (hP : E.P = Tryz.prog) => G8 hP l 6 (by decide)
 have n2 := fun (E : Ctx) (hP : E.P = Tryz.prog) => G8 hP (l.drop 1) 6 (by decide)
 have n3 := fun (E : Ctx) (hP : E.P = Tryz.prog) => G8 hP (l.drop 2) 4 (by decide)
 have b1 := l7 l (n := 6) (by decide)
 have b2 := C9 l (n := 6) (by decide)
 have b3 := l7 (l.drop 1) (n := 6) (by decide)
 have b4 := C9 (l.drop 1) (n := 6) (by decide)
 have b5 := l7 (l.drop 2) (n := 4) (by decide)
 have b6 := C9 (l.drop 2) (n := 4) (by decide)
 rw [b7Q]
 generalize hw : nx l 6 = w' at *
 generalize hh : nx (l.drop 1) 6 = h' at *
 have n4 := fun (E : Ctx) (hP : E.P = Tryz.prog) => G8 hP (l.drop 3) (2 * (1 + w') + 1) (by omega)
 have b7 := l7 (l.drop 3) (n := 2 * (1 + w') + 1) (by omega)
 have b8 := C9 (l.drop 3) (n := 2 * (1 + w') + 1) (by omega)
 generalize hk : nx (l.drop 2) 4 = k at *
 generalize hs : nx (l.drop 3) (2 * (1 + w') + 1) = s at *
 rw [List.drop_drop] at n2 n3 n4
 generalize hu1 : 1 + w' = u at *
 generalize hv1 : 1 + h' = v at *
 have ru : IntKind.i64.wrap (0 - u) = -u := by rw [Eng.wrap_i64 (by omega)]; omega
 have rv : IntKind.i64.wrap (0 - v) = -v := by rw [Eng.wrap_i64 (by omega)]; omega
 simp only [a3M, j6, TT, II, OA, OB, OC, MM, LL, VV, FF, MG, LG, VG, FG]
 simp only [A8, ints] at n1 n2 n3 n4 ⊢
 (repeat first | refine uA ?_ | (refine uK ?_ ?_; focus first | omega | (intros; simp_all <;> omega)) | simp (disch := omega) only [go_sem, Nat.reduceBEq, Nat.reduceAdd, ww, hu1, hv1] | refine l8.t (l6.lift (k := 0) rfl (n1 _ rfl) rfl rfl rfl) ?_ | refine l8.t (l6.lift (k := 0) rfl (n2 _ rfl) rfl rfl rfl) ?_)
 (repeat first | refine uA ?_ | (refine uK ?_ ?_; focus first | omega | (intros; simp_all <;> omega)) | simp (disch := omega) only [go_sem, Nat.reduceBEq, Nat.reduceAdd, ww] | refine l8.t (l6.lift (k := 0) rfl (n3 _ rfl) rfl rfl rfl) ?_)
 by_cases k0 : k = 0
 ·subst k0
  rw [if_neg (by decide), show a1i u v 0 0 = [atV (-u) (-v), atV u (-v), atV u v, atV (-u) v] from rfl]
  have h1 := R3 (-u) (-v) (by omega) (by omega)
  have h2 := R3 (u) (-v) (by omega) (by omega)
  have h3 := R3 (u) (v) (by omega) (by omega)
  have h4 := R3 (-u) (v) (by omega) (by omega)
  generalize hq1 : atV (-u) (-v) = p1 at *
  generalize hq2 : atV (u) (-v) = p2 at *
  generalize hq3 : atV (u) (v) = p3 at *
  generalize hq4 : atV (-u) (v) = p4 at *
  simp only [vts, Vt.c, Vt.enc, sb, ints] at h1 h2 h3 h4 ⊢
  refine S.cond rfl (fun hc => ?_) (fun hc => by simp at hc)
  (repeat first | refine uA ?_ | (refine uK ?_ ?_; focus first | omega | (intros; simp_all <;> omega)) | simp (disch := omega) only [go_sem, Nat.reduceBEq, Nat.reduceAdd, ww, ru, rv] | (refine uB h1 ?_ ?_; exact rfl) | (refine uB h2 ?_ ?_; exact rfl) | (refine uB h3 ?_ ?_; exact rfl) | (refine uB h4 ?_ ?_; exact rfl))
  (refine S.done ?_; simp only [q8, l9, go_sem, Nat.reduceBEq, Nat.reduceAdd, Nat.reduceLeDiff, Int.reduceToNat, Int.reducePow]; (repeat (refine ⟨?_, ?_⟩; focus first | trivial | omega | simp)); exact j3.O0 (Imp.frz rfl rfl rfl) (by (repeat first | refine uA ?_ | (refine ⟨?_, ?_⟩; focus first | rfl | simp [slot]) | rfl | simp)) (c1s hν0 (by simp)))
 refine S.cond rfl (fun hc => by simp at hc; exact absurd hc k0) (fun hc => ?_)
 (repeat first | refine uA ?_ | (refine uK ?_ ?_; focus first | omega | (intros; simp_all <;> omega)) | simp (disch := omega) only [go_sem, Nat.reduceBEq, Nat.reduceAdd, ww])
 by_cases k1 : k = 1
 ·subst k1
  rw [if_pos rfl, show a1i u v 1 s = [atV (-u) (-v), atV u (-v), atV (s - u) v] from rfl]
  have h1 := R3 (-u) (-v) (by omega) (by omega)
  have h2 := R3 (u) (-v) (by omega) (by omega)
  have h3 := R3 (s - u) (v) (by omega) (by omega)
  generalize hq1 : atV (-u) (-v) = p1 at *
  generalize hq2 : atV (u) (-v) = p2 at *
  generalize hq3 : atV (s - u) (v) = p3 at *
  simp only [vts, Vt.c, Vt.enc, sb, ints] at h1 h2 h3 ⊢
  refine S.cond rfl (fun hc => ?_) (fun hc => by simp at hc)
  (repeat first | refine uA ?_ | (refine uK ?_ ?_; focus first | omega | (intros; simp_all <;> omega)) | simp (disch := omega) only [go_sem, Nat.reduceBEq, Nat.reduceAdd, ww, ru, rv] | refine l8.t (l6.lift (k := 0) rfl (n4 _ rfl) rfl rfl rfl) ?_ | (refine uB h1 ?_ ?_; exact rfl) | (refine uB h2 ?_ ?_; exact rfl) | (refine uB h3 ?_ ?_; exact rfl))
  (refine S.done ?_; simp only [q8, l9, go_sem, Nat.reduceBEq, Nat.reduceAdd, Nat.reduceLeDiff, Int.reduceToNat, Int.reducePow]; (repeat (refine ⟨?_, ?_⟩; focus first | trivial | omega | simp)); exact j3.O0 (Imp.frz rfl rfl rfl) (by (repeat first | refine uA ?_ | (refine ⟨?_, ?_⟩; focus first | rfl | simp [slot]) | rfl | simp)) (c1s hν0 (by simp)))
 rw [if_neg k1]
 refine S.cond rfl (fun hc => by simp at hc; exact absurd hc k1) (fun hc => ?_)
 (repeat first | refine uA ?_ | (refine uK ?_ ?_; focus first | omega | (intros; simp_all <;> omega)) | simp (disch := omega) only [go_sem, Nat.reduceBEq, Nat.reduceAdd, ww])
 by_cases k2 : k = 2
 ·subst k2
  rw [show a1i u v 2 0 = [atV (-u - 1) (-v - 1), atV u (-v - 1), atV (u + 1) (-v), atV (u + 1) v, atV (-u - 1) v] from rfl]
  have h1 := R3 (-u - 1) (-v - 1) (by omega) (by omega)
  have h2 := R3 (u) (-v - 1) (by omega) (by omega)
  have h3 := R3 (u + 1) (-v) (by omega) (by omega)
  have h4 := R3 (u + 1) (v) (by omega) (by omega)
  have h5 := R3 (-u - 1) (v) (by omega) (by omega)
  generalize hq1 : atV (-u - 1) (-v - 1) = p1 at *
  generalize hq2 : atV (u) (-v - 1) = p2 at *
  generalize hq3 : atV (u + 1) (-v) = p3 at *
  generalize hq4 : atV (u + 1) (v) = p4 at *
  generalize hq5 : atV (-u - 1) (v) = p5 at *
  simp only [vts, Vt.c, Vt.enc, sb, ints] at h1 h2 h3 h4 h5 ⊢
  refine S.cond rfl (fun hc => ?_) (fun hc => by simp at hc)
  (repeat first | refine uA ?_ | (refine uK ?_ ?_; focus first | omega | (intros; simp_all <;> omega)) | simp (disch := omega) only [go_sem, Nat.reduceBEq, Nat.reduceAdd, ww, ru, rv] | (refine uB h1 ?_ ?_; exact rfl) | (refine uB h2 ?_ ?_; exact rfl) | (refine uB h3 ?_ ?_; exact rfl) | (refine uB h4 ?_ ?_; exact rfl) | (refine uB h5 ?_ ?_; exact rfl))
  (refine S.done ?_; simp only [q8, l9, go_sem, Nat.reduceBEq, Nat.reduceAdd, Nat.reduceLeDiff, Int.reduceToNat, Int.reducePow]; (repeat (refine ⟨?_, ?_⟩; focus first | trivial | omega | simp)); exact j3.O0 (Imp.frz rfl rfl rfl) (by (repeat first | refine uA ?_ | (refine ⟨?_, ?_⟩; focus first | rfl | simp [slot]) | rfl | simp)) (c1s hν0 (by simp)))
 ·rw [show a1i u v k 0 = [atV (-u) 0, atV 0 (-v), atV u 0, atV 0 v] by unfold a1i; rw [if_neg k0, if_neg k1, if_neg k2]]
  have h1 := R3 (-u) (0) (by omega) (by omega)
  have h2 := R3 (0) (-v) (by omega) (by omega)
  have h3 := R3 (u) (0) (by omega) (by omega)
  have h4 := R3 (0) (v) (by omega) (by omega)
  generalize hq1 : atV (-u) (0) = p1 at *
  generalize hq2 : atV (0) (-v) = p2 at *
  generalize hq3 : atV (u) (0) = p3 at *
  generalize hq4 : atV (0) (v) = p4 at *
  simp only [vts, Vt.c, Vt.enc, sb, ints] at h1 h2 h3 h4 ⊢
  refine S.cond rfl (fun hc => by simp at hc; exact absurd hc k2) (fun hc => ?_)
  (repeat first | refine uA ?_ | (refine uK ?_ ?_; focus first | omega | (intros; simp_all <;> omega)) | simp (disch := omega) only [go_sem, Nat.reduceBEq, Nat.reduceAdd, ww, ru, rv] | (refine uB h1 ?_ ?_; exact rfl) | (refine uB h2 ?_ ?_; exact rfl) | (refine uB h3 ?_ ?_; exact rfl) | (refine uB h4 ?_ ?_; exact rfl))
  (refine S.done ?_; simp only [q8, l9, go_sem, Nat.reduceBEq, Nat.reduceAdd, Nat.reduceLeDiff, Int.reduceToNat, Int.reducePow]; (repeat (refine ⟨?_, ?_⟩; focus first | trivial | omega | simp)); exact j3.O0 (Imp.frz rfl rfl rfl) (by (repeat first | refine uA ?_ | (refine ⟨?_, ?_⟩; focus first | rfl | simp [slot]) | rfl | simp)) (c1s hν0 (by simp)))
set_option maxRecDepth 100000
set_option maxHeartbeats 16000000
theorem b7X (n : Nat) (h : n <= 3) : ([[C.v (.string ⟨#[111, 110, 101]⟩)], [C.v (.string ⟨#[116, 119, 111]⟩)], [C.v (.string ⟨#[116, 104, 114, 101, 101]⟩)], [C.v (.string ⟨#[102, 111, 117, 114]⟩)]] : List (List C))[n]? = some [C.v (.string (bs (a3J n)))] := by
 match n, h with
 | 0, _ => rfl
 | 1, _ => rfl
 | 2, _ => rfl
 | 3, _ => rfl
theorem b8Y (k : Int) (h0 : 0 <= k) (h1 : k < 4) : ([[C.v (.int .i64 0)], [C.v (.int .i64 1)], [C.v (.int .i64 (-1))], [C.v (.int .i64 1)]] : List (List C))[k.toNat]? = some [C.v (.int .i64 (a2G k))] := by
 have : k = 0 \/ k = 1 \/ k = 2 \/ k = 3 := by omega
 rcases this with rfl | rfl | rfl | rfl <;> rfl
theorem b5G (k : Int) : -1 <= a2G k /\ a2G k <= 1 := by unfold a2G; split; omega; split <;> omega
theorem c0K {E : Ctx} (hP : E.P = Tryz.prog) (l : List Int) (n : Nat) (hn : n <= 3) :
  l6 E [.box 209 [A8 l]] 152 [.bp 0 0, .v (.int .i64 (n : Int))] (a9v l n).c [.box 209 [A8 (a9q l)]] [] := by
 obtain ⟨P, eff', N, w0, own0, av0, nu0, pk0⟩ := E
 simp only at hP
 subst hP
 refine l6.of (eff := eff) a8Y a8t (by exact c1E rfl) fun w own av ν hν => ?_
 have hν0 : ν.length <= 1 := by rw [hν]; exact c1w _
 have hnm := b7X n hn
 have h1 := R3 (40 * (n : Int)) 0 (by omega) (by omega)
 have k1 := fun (E : Ctx) (hP : E.P = Tryz.prog) => G8 hP l 4 (by decide)
 have k2 := fun (E : Ctx) (hP : E.P = Tryz.prog) => G8 hP (l.drop 1) 3 (by decide)
 have k3 := fun (E : Ctx) (hP : E.P = Tryz.prog) => G8 hP (l.drop 2) 3 (by decide)
 have a1 := l7 l (n := 4) (by decide)
 have a2 := C9 l (n := 4) (by decide)
 have a3 := l7 (l.drop 1) (n := 3) (by decide)
 have a4 := C9 (l.drop 1) (n := 3) (by decide)
 have a5 := l7 (l.drop 2) (n := 3) (by decide)
 have a6 := C9 (l.drop 2) (n := 3) (by decide)
 have htn := b8Y (nx l 4) a1 a2
 have htr := b5G (nx l 4)
 have h2 := a1l (a2G (nx l 4)) (1 + nx (l.drop 1) 3) (by omega) (by omega)
 rw [List.drop_drop] at k2 k3
 have hc : ((a3l l : Nat) : Int) = 1 + nx (l.drop 2) 3 := by unfold a3l; omega
 have hc3 : a3l l <= 3 := by omega
 have hR : a9q l = (l.drop 3).drop (6 * a3l l) := by unfold a9q; rw [List.drop_drop]
 unfold a9v
 rw [hR]
 generalize a3l l = c at *
 generalize l.drop 3 = l0 at *
 unfold atV at h1
 generalize Q (40 * (n : Int)) 4 = q1 at *
 generalize Q 0 4 = q2 at *
 generalize a2G (nx l 4) = tn at *
 generalize Q tn (1 + nx (l.drop 1) 3) = q3 at *
 generalize nx l 4 = x1 at *
 generalize nx (l.drop 1) 3 = x2 at *
 generalize nx (l.drop 2) 3 = x3 at *
 generalize a3J n = nm at *
 simp only [a4g, j6, TT, II, OA, OB, OC, MM, LL, VV, FF, MG, LG, VG, FG]
 simp only [Am.c, Am.enc, Vt.c, Vt.enc, rc, A8, sb, ints, lks] at h1 h2 k1 k2 k3 ⊢
 (repeat first | refine uA ?_ | (refine uK ?_ ?_; focus first | omega | trivial | (intros; simp_all <;> omega)) | simp (disch := omega) only [go_sem, Nat.reduceBEq, Nat.reduceAdd, Nat.reduceLeDiff, Int.reduceToNat, Int.reducePow, ww, hnm, htn, c1x] | refine l8.t (l6.lift (k := 0) rfl (k1 _ rfl) rfl rfl rfl) ?_ | refine l8.t (l6.lift (k := 0) rfl (k2 _ rfl) rfl rfl rfl) ?_ | (refine uB h1 ?_ ?_; exact rfl) | (refine uB h2 ?_ ?_; exact rfl))
 (repeat first | refine uA ?_ | (refine uK ?_ ?_; focus first | omega | trivial | (intros; simp_all <;> omega)) | simp (disch := omega) only [go_sem, Nat.reduceBEq, Nat.reduceAdd, Nat.reduceLeDiff, Int.reduceToNat, Int.reducePow, ww] | refine l8.t (l6.lift (k := 0) rfl (k3 _ rfl) rfl rfl rfl) ?_)
 rw [<- hc]
 refine S.loop (X := Nat × List Lk × List Int) (fun x => ⟨[(0, .bp 0 0), (4, .bp 1 0), (5, .bp 3 0), (30, ints c), (31, ints x.1)], [.box 209 [A8 x.2.2], .box 60 [.v (.string ⟨#[]⟩), .v (.bool false), .v (.string ⟨#[]⟩), .v (.string ⟨#[]⟩), .v (.bool false), .v (.string ⟨#[]⟩), .v (.string ⟨#[]⟩), .v (.bool false), .v (.bool false), .v (.string ⟨#[]⟩), .v (.string ⟨#[]⟩), .v (.slice none 0 0)], .gone, .box 60 [.v (.string (bs nm)), .v (.bool q1.neg), .v (.string (bs q1.num)), .v (.string (bs q1.den)), .v (.bool q2.neg), .v (.string (bs q2.num)), .v (.string (bs q2.den)), .v (.bool false), .v (.bool q3.neg), .v (.string (bs q3.num)), .v (.string (bs q3.den)), .rv 4], .row 127 16 (x.2.1.map Lk.enc)]⟩)
  (fun x => x.1 <= c /\ x.2.1.length = x.1 /\ x.2.1 ++ a2d (c - x.1) x.2.2 = a2d c l0 /\ x.2.2.drop (6 * (c - x.1)) = l0.drop (6 * c)) (fun x => c - x.1) (0, [], l0) ⟨c1u _, rfl, rfl, rfl⟩ (Ent.trans (Ent.a1E 3 11 127 16 rfl rfl rfl) (by (repeat first | refine uA ?_ | (refine ⟨?_, ?_⟩; focus first | rfl | trivial | (simp [slot]; done)) | rfl | trivial | simp | exact c1s hν0 (by simp)))) ?_
 rintro ⟨i, ls, m⟩ ⟨hi, hls, hL, hM⟩
 simp only [ints, A8] at hi hls hL hM ⊢
 (repeat first | refine uA ?_ | (refine uK ?_ ?_; focus first | omega | trivial | (intros; simp_all <;> omega)) | simp (disch := omega) only [go_sem, Nat.reduceBEq, Nat.reduceAdd, Nat.reduceLeDiff, Int.reduceToNat, Int.reducePow, ww])
 (refine uJ rfl (fun hc => ?_) fun hc => ?_)
 ·have hi' : c - i = (c - i - 1) + 1 := by omega
  have n0 := fun (E : Ctx) (hP : E.P = Tryz.prog) => G8 hP (m.drop 0) 4 (by decide)
  have a0 := l7 (m.drop 0) (n := 4) (by decide)
  have b0 := C9 (m.drop 0) (n := 4) (by decide)
  have n1 := fun (E : Ctx) (hP : E.P = Tryz.prog) => G8 hP (m.drop 1) 6 (by decide)
  have a1 := l7 (m.drop 1) (n := 6) (by decide)
  have b1 := C9 (m.drop 1) (n := 6) (by decide)
  have n2 := fun (E : Ctx) (hP : E.P = Tryz.prog) => G8 hP (m.drop 2) 6 (by decide)
  have a2 := l7 (m.drop 2) (n := 6) (by decide)
  have b2 := C9 (m.drop 2) (n := 6) (by decide)
  have n3 := fun (E : Ctx) (hP : E.P = Tryz.prog) => G8 hP (m.drop 3) 8 (by decide)
  have a3 := l7 (m.drop 3) (n := 8) (by decide)
  have b3 := C9 (m.drop 3) (n := 8) (by decide)
  have n4 := fun (E : Ctx) (hP : E.P = Tryz.prog) => G8 hP (m.drop 4) 20 (by decide)
  have a4 := l7 (m.drop 4) (n := 20) (by decide)
  have b4 := C9 (m.drop 4) (n := 20) (by decide)
  have n5 := fun (E : Ctx) (hP : E.P = Tryz.prog) => G8 hP (m.drop 5) 3 (by decide)
  have a5 := l7 (m.drop 5) (n := 3) (by decide)
  have b5 := C9 (m.drop 5) (n := 3) (by decide)
  rw [hi', a2d] at hL
  have hM2 : (m.drop 6).drop (6 * (c - (i + 1))) = l0.drop (6 * c) := by rw [List.drop_drop, <- hM]; congr 1; omega
  rw [show c - i - 1 = c - (i + 1) by omega] at hL
  simp only [List.drop_drop, List.drop_zero] at n0 n1 n2 n3 n4 n5 a0 b0
  unfold b4X a4k at hL
  have o1 := a1l (4 + 2 * nx m 4) 4 (by omega) (by omega)
  have o2 := a1l (-1 - nx (m.drop 1) 6) 3 (by omega) (by omega)
  have o3 := a1l (1 + nx (m.drop 2) 6) 3 (by omega) (by omega)
  have o4 := a1l 1 (4 + nx (m.drop 3) 8) (by omega) (by omega)
  have o5 := a1l 1 (10 + nx (m.drop 4) 20) (by omega) (by omega)
  have o6 := b5W (-1) (-1) (4 + 2 * nx m 4 + 1) 1 (by omega) (by omega) (by omega) (by omega)
  have o7 := R3 (-1) (-1) (by omega) (by omega)
  have o8 := R3 (4 + 2 * nx m 4 + 1) 0 (by omega) (by omega)
  have o9 := R3 (-1) 1 (by omega) (by omega)
  generalize Q (4 + 2 * nx m 4) 4 = p1 at *
  generalize Q (-1 - nx (m.drop 1) 6) 3 = p2 at *
  generalize Q (1 + nx (m.drop 2) 6) 3 = p3 at *
  generalize Q 1 (4 + nx (m.drop 3) 8) = p4 at *
  generalize Q 1 (10 + nx (m.drop 4) 20) = p5 at *
  generalize a4n (-1) (-1) (4 + 2 * nx m 4 + 1) 1 = r6 at *
  generalize atV (-1) (-1) = v7 at *
  generalize atV (4 + 2 * nx m 4 + 1) 0 = v8 at *
  generalize atV (-1) 1 = v9 at *
  generalize nx m 4 = y0 at *
  generalize nx (m.drop 1) 6 = y1 at *
  generalize nx (m.drop 2) 6 = y2 at *
  generalize nx (m.drop 3) 8 = y3 at *
  generalize nx (m.drop 4) 20 = y4 at *
  generalize nx (m.drop 5) 3 = y5 at *
  simp only [A8, ints, rc, sb, vts, Vt.c, Vt.enc] at n0 n1 n2 n3 n4 n5 o1 o2 o3 o4 o5 o6 o7 o8 o9
  (repeat first | refine uA ?_ | (refine uK ?_ ?_; focus first | omega | trivial | (intros; simp_all <;> omega)) | simp (disch := omega) only [go_sem, Nat.reduceBEq, Nat.reduceAdd, Nat.reduceLeDiff, Int.reduceToNat, Int.reducePow, ww] | refine l8.t (l6.lift (k := 0) rfl (n0 _ rfl) rfl rfl rfl) ?_ | refine l8.t (l6.lift (k := 0) rfl (n1 _ rfl) rfl rfl rfl) ?_ | refine l8.t (l6.lift (k := 0) rfl (n2 _ rfl) rfl rfl rfl) ?_ | refine l8.t (l6.lift (k := 0) rfl (n3 _ rfl) rfl rfl rfl) ?_ | refine l8.t (l6.lift (k := 0) rfl (n4 _ rfl) rfl rfl rfl) ?_ | refine l8.t (l6.lift (k := 0) rfl (n5 _ rfl) rfl rfl rfl) ?_ | (refine uB o1 ?_ ?_; exact rfl) | (refine uB o2 ?_ ?_; exact rfl) | (refine uB o3 ?_ ?_; exact rfl) | (refine uB o4 ?_ ?_; exact rfl) | (refine uB o5 ?_ ?_; exact rfl) | (refine uB o6 ?_ ?_; exact rfl))
  refine S.join (Y := List Vt) (fun sh => ⟨[(0, .bp 0 0), (4, .bp 1 0), (5, .bp 3 0), (7, .bp 5 0), (30, ints c), (31, ints i)], [.box 209 [A8 (m.drop 6)], .box 60 [.v (.string ⟨#[]⟩), .v (.bool false), .v (.string ⟨#[]⟩), .v (.string ⟨#[]⟩), .v (.bool false), .v (.string ⟨#[]⟩), .v (.string ⟨#[]⟩), .v (.bool false), .v (.bool false), .v (.string ⟨#[]⟩), .v (.string ⟨#[]⟩), .v (.slice none 0 0)], .gone, .box 60 [.v (.string (bs nm)), .v (.bool q1.neg), .v (.string (bs q1.num)), .v (.string (bs q1.den)), .v (.bool q2.neg), .v (.string (bs q2.num)), .v (.string (bs q2.den)), .v (.bool false), .v (.bool q3.neg), .v (.string (bs q3.num)), .v (.string (bs q3.den)), .rv 4], .row 127 16 (ls.map Lk.enc), .box 127 (Lk.enc ⟨p1, p2, p3, p4, p5, sh⟩)]⟩) (fun sh => sh = if y5 = 2 then [v7, v8, v9] else r6) ?_ ?_
  ·refine S.cond rfl (fun hc => ?_) (fun hc => ?_)
   ·(repeat first | refine uA ?_ | (refine uK ?_ ?_; focus first | omega | trivial | (intros; simp_all <;> omega)) | simp (disch := omega) only [go_sem, Nat.reduceBEq, Nat.reduceAdd, Nat.reduceLeDiff, Int.reduceToNat, Int.reducePow, ww] | (refine uB o7 ?_ ?_; exact rfl) | (refine uB o8 ?_ ?_; exact rfl) | (refine uB o9 ?_ ?_; exact rfl))
    exact S.met [v7, v8, v9] (by simp at hc; rw [if_pos hc]) (Ent.mk _ _ (by (repeat' (first | exact V4.nil | exact Imp.junk | exact Imp.refl rfl | exact Imp.eq (by simp [slot]; done) rfl | refine V4.cons ?_ ?_))) (by (repeat' (first | exact L8.nil | exact RI.gone _ | exact RI.row _ _ _ _ rfl | exact RI.map _ _ _ rfl | exact RI.box _ _ _ (p8.refl rfl) | (refine RI.box _ _ _ ?_; (repeat' (first | exact p8.nil | exact Imp.refl rfl | exact Imp.frz rfl rfl rfl | exact Imp.P5 | refine p8.cons ?_ ?_))) | refine L8.cons ?_ ?_))) (c1s hν0 (by simp)))
   ·(repeat first | refine uA ?_ | (refine uK ?_ ?_; focus first | omega | trivial | (intros; simp_all <;> omega)) | simp (disch := omega) only [go_sem, Nat.reduceBEq, Nat.reduceAdd, Nat.reduceLeDiff, Int.reduceToNat, Int.reducePow, ww])
    exact S.met r6 (by simp at hc; rw [if_neg hc]) (by (repeat first | refine uA ?_ | (refine ⟨?_, ?_⟩; focus first | rfl | trivial | (simp [slot]; done)) | rfl | trivial | simp | exact c1s hν0 (by simp)))
  rintro sh hsh
  rw [<- hsh] at hL
  simp only [A8, ints, Lk.enc, vts]
  (repeat first | refine uA ?_ | (refine uK ?_ ?_; focus first | omega | trivial | (intros; simp_all <;> omega)) | simp (disch := omega) only [go_sem, Nat.reduceBEq, Nat.reduceAdd, Nat.reduceLeDiff, Int.reduceToNat, Int.reducePow, ww, c1o, hls])
  refine S.next (x := (i, ls, m)) (i + 1, ls ++ [⟨p1, p2, p3, p4, p5, sh⟩], m.drop 6) ⟨by simp only; omega, by simp [hls], by simp only; rw [c1U]; exact hL, by simp only; exact hM2⟩ (by simp only; omega) (by simp only [c2f, c1F, c2b]; exact (by (repeat first | refine uA ?_ | (refine ⟨?_, ?_⟩; focus first | rfl | trivial | (simp [slot]; done)) | rfl | trivial | simp | exact c1s hν0 (by simp))))
 ·have hi' : i = c := by omega
  subst hi'
  rw [Nat.sub_self, a2d, List.append_nil] at hL
  rw [Nat.sub_self, Nat.mul_zero, List.drop_zero] at hM
  subst hL
  subst hM
  (repeat first | refine uA ?_ | (refine uK ?_ ?_; focus first | omega | trivial | (intros; simp_all <;> omega)) | simp (disch := omega) only [go_sem, Nat.reduceBEq, Nat.reduceAdd, Nat.reduceLeDiff, Int.reduceToNat, Int.reducePow, ww])
  (refine S.done ?_; simp only [q8, l9, go_sem, Nat.reduceBEq, Nat.reduceAdd, Nat.reduceLeDiff, Int.reduceToNat, Int.reducePow]; (repeat (refine ⟨?_, ?_⟩; focus first | trivial | omega | simp)); exact j3.O0 (Imp.agg (by (repeat' (first | exact p8.nil | exact Imp.refl rfl | exact Imp.frz rfl rfl rfl | exact Imp.P5 | refine p8.cons ?_ ?_)))) (by (repeat first | refine uA ?_ | (refine ⟨?_, ?_⟩; focus first | rfl | trivial | (simp [slot]; done)) | rfl | trivial | simp)) (c1s hν0 (by simp)))
def b5d : Wk := ⟨[], [], [], [], [], ⟨false, [], []⟩⟩
theorem a5c {w : World} {O : Nat -> Prop} {sz : Nat} : Fz w O (.sl sz []) (.slice none 0 0) := by
 simp only [Fz]
 exact ⟨none, 0, rfl, c1w _, c1u _, fun h => absurd h (by simp)⟩
theorem b7n : FZ 11 [.agg [.v (.slice none 0 0), .v (.slice none 0 0), .v (.slice none 0 0), .v (.slice none 0 0), .v (.slice none 0 0), .v (.bool false), .v (.string ⟨#[]⟩), .v (.string ⟨#[]⟩)]] (ints 4) := by
 have h := a7P b5d ⟨⟨c1u _, fun x hx => (by cases hx)⟩, ⟨c1u _, fun x hx => (by cases hx)⟩, ⟨c1u _, fun x hx => (by cases hx)⟩, ⟨c1u _, fun x hx => (by cases hx)⟩, ⟨c1u _, fun x hx => (by cases hx)⟩, ⟨c1u _, c1u _⟩⟩
 have he : a0p b5d = 4 := rfl
 rw [he] at h
 intro O w vs hw hO hA
 refine h O w vs hw hO ?_
 simp only [FzL, Fz] at hA
 obtain ⟨y, ys, rfl, ⟨us, ⟨y1, r1, rfl, rfl, y2, r2, rfl, rfl, y3, r3, rfl, rfl, y4, r4, rfl, rfl, y5, r5, rfl, rfl, y6, r6, rfl, rfl, y7, r7, rfl, rfl, y8, r8, rfl, rfl, rfl⟩, rfl⟩, rfl⟩ := hA
 refine ⟨_, _, rfl, ?_, rfl⟩
 simp only [Wk.c, Wk.enc, b5d, Fz]
 exact ⟨_, ⟨_, _, rfl, a5c, _, _, rfl, a5c, _, _, rfl, a5c, _, _, rfl, a5c, _, _, rfl, a5c, _, _, rfl, by simp only [Fz], _, _, rfl, by simp only [sb, Fz]; rfl, _, _, rfl, by simp only [sb, Fz]; rfl, rfl⟩, rfl⟩
set_option maxRecDepth 10000
set_option maxHeartbeats 4000000
structure Stw (s : Stt) : Prop where
 arms : s.arms.length <= 1073741824 /\ ∀ x ∈ s.arms, Asb 1073741824 x
 parts : s.parts.length <= 1073741824
 people : s.people.length <= 1073741824
 gates : s.gates.length <= 1073741824
theorem Stb.w {s : Stt} (h : Stb 1073741824 s) : Stw s := ⟨h.arms, h.parts.1, h.people.1, h.gates⟩
open Go Go.RowKit Go.ChangeShapes Go.WideShapes Eng
theorem b7s {H : Type} {l : List (DataW H)} (hk : Rows.uptoSmall H l = true) : Rows.uptoBulkAll l <= 1048576 := of_decide_eq_true hk
theorem b8a {H : Type} (l r : List (DataW H)) : Rows.uptoBulkAll (l ++ r) = Rows.uptoBulkAll l + Rows.uptoBulkAll r := by
 induction l with
 | nil => simp [Rows.uptoBulkAll]
 | cons x l ih => simp only [List.cons_append, Rows.uptoBulkAll, ih]; omega
def noB : Nat -> Prop := fun _ => False
section
variable {H : Type} {enc : TypeId × Value -> H} {P : Program} {W : World}
def Opens (enc : TypeId × Value -> H) (P : Program) (W : World) (t : TypeId) {α : Type} (tc : α -> List C) (ok : α -> Prop) (ms : α -> Nat) : Prop :=
 ∀ (fuel : Nat) (cs : List Value) (x : DataW H × List MemPlace), DataW.trod enc P W 0 (fun _ => true) true fuel t cs = some x -> ∃ a : α, FzL W noB (tc a) cs /\ (∀ u ∈ cs, u.oneCell' = true) /\ ok a /\ ms a <= Rows.uptoBulk x.1
def I64 (n : Int) : Prop := -9223372036854775808 <= n /\ n <= 9223372036854775807
theorem b6T {t : TypeId} (ht : P.underlying t = some (.int .i64)) : Opens enc P W t (fun n : Int => [.v (.int .i64 n)]) I64 fun _ => 1 := by
 intro fuel cs x h
 obtain ⟨n, rfl, rfl, hw⟩ := DataW.trod_int ht h
 refine ⟨n, by simp [FzL, Fz], by simp [Value.oneCell'], ?_, by simp [Rows.uptoBulk]⟩
 simpa [Lit.wf, IntKind.min, IntKind.max, IntKind.signed, IntKind.bits, I64] using hw
theorem Opens.imp {t : TypeId} {α β : Type} {tc : α -> List C} {ok : α -> Prop} {ms : α -> Nat} {tc' : β -> List C} {ok' : β -> Prop} {ms' : β -> Nat} (h : Opens enc P W t tc ok ms)
  (f : ∀ a, ok a -> ∃ b, tc a = tc' b /\ ok' b /\ ms' b <= ms a) : Opens enc P W t tc' ok' ms' := by
 intro fuel cs x hx
 obtain ⟨a, h0, h01, h1, h2⟩ := h fuel cs x hx
 obtain ⟨b, h3, h4, h5⟩ := f a h1
 exact ⟨b, by rw [<- h3]; exact h0, h01, h4, c1s h5 h2⟩
theorem b5X {w : World} {O : Nat -> Prop} {q : List C} {vs : List Value} {ad : Addr} {j : Nat} (hF : FzL w O q vs) (h1 : ∀ u ∈ vs, u.oneCell' = true) (hc : ∀ i v, vs[i]? = some v -> w.cell? (ad.add (j + i)) = some v) : FzA w O q ad j := FzA.of hF h1 hc
theorem b3q {t e : TypeId} {α : Type} {tc : α -> List C} {ok : α -> Prop} {ms : α -> Nat} {sz : Nat} (ht : P.underlying t = some (.slice e)) (hc : P.cellsOf e = sz) (hsz : 0 < sz) (hlen : ∀ a, (tc a).length = sz)
  (he : Opens enc P W e tc ok ms) : Opens enc P W t (fun xs : List α => [.sl sz (xs.map tc)]) (fun xs => ∀ a ∈ xs, ok a) fun xs => 1 + (xs.map ms).sum := by
 intro fuel cs x h
 rcases Deep.open_slice ht h with ⟨rfl, rfl⟩ | ⟨a, len, cap, m, n, D, Pl, rfl, _, hl, hm, hmm, rfl, hx⟩
 ·refine ⟨[], ?_, by simp [Value.oneCell'], (fun a ha => by cases ha), by simp [Rows.uptoBulk]⟩
  simp only [FzL, Fz]
  exact ⟨_, _, rfl, ⟨none, 0, rfl, c1w _, c1u _, fun h => by simp at h⟩, rfl⟩
 ·have hlm : len <= m := by rw [hmm]; split <;> omega
  have key : ∀ i, i < len -> ∃ (y : α) (vs : List Value), W.cells? 0 (a.add (i * sz)) sz = some vs /\ FzL W noB (tc y) vs /\ (∀ u ∈ vs, u.oneCell' = true) /\ ok y /\ ms y <= Rows.uptoBulk (D i) := by
   intro i hi
   obtain ⟨cs', h1, h2⟩ := hx i (by omega)
   obtain ⟨y, h31, h32, h3, h4⟩ := he _ _ _ h2
   rw [hc] at h1
   exact ⟨y, cs', h1, h31, h32, h3, h4⟩
  have build : ∀ k, k <= len -> ∃ xs : List α, xs.length = k /\ (∀ i y, xs[i]? = some y -> ∃ vs, W.cells? 0 (a.add (i * sz)) sz = some vs /\ FzL W noB (tc y) vs /\ (∀ u ∈ vs, u.oneCell' = true) /\ ok y) /\ (xs.map ms).sum <= Rows.uptoBulkAll ((List.range k).map D) := by
   intro k
   induction k with
   | zero => intro _; exact ⟨[], rfl, (fun i y h => by simp at h), by simp⟩
   | succ k ih =>
    intro hk
    obtain ⟨xs, h1, h2, h3⟩ := ih (by omega)
    obtain ⟨y, vs, h4, h41, h42, h5, h6⟩ := key k (by omega)
    refine ⟨xs ++ [y], by simp [h1], fun i z hz => ?_, ?_⟩
    ·rcases c1Q i xs.length with hlt | hge
     ·rw [c1D hlt] at hz
      exact h2 i z hz
     ·rw [c1G hge] at hz
      have : i - xs.length = 0 := by
       rcases c1K (i - xs.length) with h0 | h0
       ·exact h0
       ·obtain ⟨d, hd⟩ : ∃ d, i - xs.length = d + 1 := ⟨i - xs.length - 1, by omega⟩
        rw [hd] at hz; simp at hz
      rw [this] at hz
      simp at hz
      subst hz
      have : i = k := by omega
      subst this
      exact ⟨vs, h4, h41, h42, h5⟩
    ·rw [c2f, List.sum_append, List.range_succ, c2f, b8a]
     simp only [c1F, c2b, List.sum_cons, List.sum_nil, Rows.uptoBulkAll]
     omega
  obtain ⟨xs, h1, h2, h3⟩ := build len (c1w _)
  have hcell : ∀ (i : Nat) (y : α), xs[i]? = some y -> (tc y).length = sz /\ FzA W noB (tc y) a (i * sz) := by
   intro i y hy
   obtain ⟨vs, h4, h41, h42, _⟩ := h2 i y hy
   obtain ⟨_, h5, h6⟩ := World.cells?_some h4
   refine ⟨hlen _, b5X h41 h42 fun j v hv => ?_⟩
   have hj : j < sz := by
    have := (c1r.1 hv).1
    rwa [h5] at this
   have h7 := h6 j hj
   rw [hv, Deep.add_add] at h7
   exact h7
  refine ⟨xs, ?_, by simp [Value.oneCell'], fun y hy => ?_, ?_⟩
  ·simp only [FzL]
   refine ⟨_, _, rfl, ?_, rfl⟩
   simp only [Fz]
   refine ⟨some a, cap, by simp [h1], by simp; omega, hm, fun h0 => ⟨a, rfl, ?_, (fun h => h), FzE.of fun k q hq => ?_⟩⟩
   ·have hi : 0 < xs.length := by simpa using h0
    obtain ⟨hq1, hq2⟩ := hcell 0 xs[0] (c1n hi)
    have h9 : 0 < (tc xs[0]).length := by omega
    match htc : tc xs[0], h9, hq2 with
    | c :: cs, _, hq2 =>
     simp only [FzA] at hq2
     obtain ⟨⟨v, hv, _⟩, _⟩ := hq2
     have h10 := block_lt_of_cell hv
     rwa [add_block] at h10
   ·rw [c1Z] at hq
    obtain ⟨y, hy, rfl⟩ := Option.map_eq_some_iff.1 hq
    rw [c1T]; exact hcell k y hy
  ·obtain ⟨i, hi⟩ := List.mem_iff_getElem?.1 hy
   exact (h2 i y hi).choose_spec.2.2.2
  ·simp only [Rows.uptoBulk]
   omega
theorem FzL.app {w : World} {O : Nat -> Prop} : ∀ {cs ds : List C} {vs us : List Value}, FzL w O cs vs -> FzL w O ds us -> FzL w O (cs ++ ds) (vs ++ us)
 | [], ds, vs, us, h, k => by simp only [FzL] at h; subst h; simpa using k
 | c :: cs, ds, vs, us, h, k => by
  simp only [FzL] at h
  obtain ⟨y, ys, rfl, h1, h2⟩ := h
  exact ⟨y, ys ++ us, rfl, h1, FzL.app h2 k⟩
theorem b8i {f : Func} {s : ChangeSpec} {apart fresh handsOn again : Bool} {W' : World} {args : Array Value} {ds gs : List (DataW H)} {before : List MemPlace} {tb : TypeId} (hl : laidOutB P = true) (hpar : ∀ t ∈ f.params.toList, P.readableRec t = true /\ t < P.types.size)
  (hrt : f.resultTypes = #[tb]) (htb : P.underlying tb = some .bool) (hv : s.vars = []) (hfn : s.fn H (ds ++ gs) = { results := [.lit (.bool true)], args := ds }) (hW : DataW.Whole enc P f.params.toList s.vars apart W args.toList ds gs before) (hb : Below W.heap.size W W') :
  s.post enc P f apart fresh handsOn again W args (.bool true) W' := by
 have hlt : ∀ p ∈ before, p.block < W.heap.size := fun p hp => hW.lt p hp
 obtain ⟨p, q, hA, hV, hps, hz, hn⟩ := id hW
 rw [hv] at hV
 obtain ⟨rfl, rfl⟩ := trodVars_none hV
 rw [List.append_nil] at hps
 subst hps
 have all : ∀ (sp : Nat -> Bool) (ts : List TypeId) (vs : List Value) (es : List (DataW H)) (pl : List MemPlace), (∀ t ∈ ts, P.readableRec t = true /\ t < P.types.size) -> (∀ x ∈ pl, x.block < W.heap.size /\ sp x.block = true) -> DataW.TrodAll enc P W 0 (fun _ => true) true ts vs es pl -> DataW.TrodAll enc P W' 0 sp true ts vs es pl := by
  intro sp ts
  induction ts with
  | nil =>
   intro vs es pl _ _ h
   cases vs <;> cases es <;> simp only [DataW.TrodAll] at h ⊢ <;> exact h
  | cons t ts ih =>
   intro vs es pl hts hpl h
   cases vs <;> cases es <;> simp only [DataW.TrodAll] at h ⊢
   obtain ⟨p1, p2, h1, h2, rfl⟩ := h
   refine ⟨p1, p2, ?_, ih _ _ _ (fun t ht => hts t (List.mem_cons_of_mem _ ht)) (fun x hx => hpl x (List.mem_append_right _ hx)) h2, rfl⟩
   exact WideElems.Trod_stays hl (hts t (List.mem_cons_self ..)).1 (hts t (List.mem_cons_self ..)).2 h1 (fun x hx => hb.same (hpl x (List.mem_append_left _ hx)).1) fun x hx => (hpl x (List.mem_append_left _ hx)).2
 have hres : ∀ (b : Nat) (sp : Nat -> Bool) (hd : Bool), DataW.TrodAll enc P W' b sp hd f.resultTypes.toList ((Value.bool true).resultList f.resultTypes.size) (s.fn H (ds ++ [])).results [] := by
  intro b sp hd
  rw [hrt, hfn]
  exact trodAll_cons_mk (shut_bool htb true) trodAll_mk0
 have hargs : ∀ sp : Nat -> Bool, (∀ p' ∈ before, sp p'.block = true) -> DataW.TrodAll enc P W' 0 sp true f.params.toList args.toList (s.fn H (ds ++ [])).args before := fun sp hsp => by
  rw [hfn]
  exact all sp _ _ _ _ hpar (fun x hx => ⟨hlt x hx, hsp x hx⟩) hA
 have hvars : ∀ sp : Nat -> Bool, DataW.TrodVars enc P W' sp s.vars (s.fn H (ds ++ [])).vars [] := fun sp => by rw [hv, hfn]; rfl
 have hold : ∀ p' ∈ before, (fun b => decide (b < W.heap.size)) p'.block = true := fun p' hp => by simpa using hlt p' hp
 refine ⟨ds, [], before, [], before, [], hW, hres _ _ _, hargs _ hold, hvars _, World.keptBut_mono (fun p' hp => ⟨hp, ?_⟩) (hb.frame (· ∈ before)), fun _ => ⟨ok_one hrt rfl (okWide_bool_mk htb _), _, _, ([] ++ before) ++ [], ⟨[] ++ before, [], trodAll_append (hargs _ (fun _ _ => rfl)) (hres _ _ _), hvars _, rfl, ?_, ?_⟩, ?_⟩⟩
 ·exact Or.inr (by simpa using hp)
 ·intro b off hp
  have hin : MemPlace.cell b off ∈ before := by simpa using hp
  rw [hb.frozen (hlt _ hin)]
  exact hz b off hin
 ·intro ha
  have := hn ha
  simpa using this
 ·intro p' hp _
  simpa using hp
end
open Go Go.RowKit Go.ChangeShapes Go.WideShapes Go.ChangeAt Eng
theorem b7F : ownKnob Tryz.prog.godebug = none := by kernel_rfl
theorem b7q : laidOutB Tryz.prog = true := by kernel_rfl
theorem gDb : Tryz.prog.globalNamed "math/bits.deBruijn64tab" = some 3 := by kernel_rfl
theorem b8G : (Tryz.prog.globals[3]?).map (·.type) = some 283 := by kernel_rfl
theorem b7d : Tryz.prog.cellsOf 283 = 64 := by kernel_rfl
theorem b8K : Tryz.prog.cellsOf 5 = 1 := by kernel_rfl
theorem b7U : Tryz.prog.underlying 283 = some (.array 64 5) := by kernel_rfl
theorem b9W : Tryz.prog.underlying 5 = some (.int .u8) := by kernel_rfl
theorem b9c : (Rows.laid_math_bits_deBruijn64tab : DataW Unit) = Lib.tabData .u8 (Lib.deBruijn64tab.map fun n : Nat => (n : Int)) := by rfl
theorem c0Z {W : World} {rest : List (String × DataW Unit)} (h : laidMet Tryz.prog (("math/bits.deBruijn64tab", Rows.laid_math_bits_deBruijn64tab) :: rest) W) : Wz W := by
 rw [b9c] at h
 have ht := Lib.tabIs_of_head gDb b8G b7U b9W b8K b7d h
 intro j hj
 have := ht.cell gDb j (by rw [c1o]; exact hj)
 rw [this]
 congr 2
 rw [c1z, c1z, c1Z, c1n hj]
 rfl
section
variable {H : Type} {enc : TypeId × Value -> H} {W : World}
theorem b2Z {α : Type} : ∀ l : List α, l.length = (l.map fun _ => 1).sum
 | [] => rfl
 | x :: l => by simp only [c1I, c1F, List.sum_cons, <- b2Z l]; omega
theorem b5C : Tryz.prog.cellsOf 3 = 1 := by kernel_rfl
theorem b6b : Opens enc Tryz.prog W 71 (fun l : List Int => [.sl 1 (l.map fun n => [.v (.int .i64 n)])]) (fun l => ∀ x ∈ l, I64 x) fun l => 1 + l.length :=
 (b3q Tryz.underlying71 b5C (by decide) (fun _ => rfl) (b6T Tryz.underlying3)).imp fun f hf => ⟨f, rfl, hf, by rw [<- b2Z]; exact c1w _⟩
end
noncomputable def laidWorld (os : Os) : World := World.doorLaid Tryz.prog 400 os
section
variable {H : Type} {enc : TypeId × Value -> H} {W : World}
end
structure Stc (k : Nat) (s : Stt) : Prop where
 arms : s.arms.length <= 4 /\ ∀ x ∈ s.arms, (x.q.length <= 3 /\ ∀ r ∈ x.q, Rb k r) /\ (x.v.length <= 3 /\ ∀ r ∈ x.v, Rb k r)
 parts : s.parts.length <= 6 /\ ∀ f ∈ s.parts, Fb k f
 people : s.people.length <= 4 /\ ∀ v ∈ s.people, Vb k v
 gates : s.gates.length <= 4
set_option maxRecDepth 100000
set_option maxHeartbeats 16000000
theorem b4d (w : Wk) (s : Stt) (u : List (List Nm.Rt)) (p : List Bool) (hwb : Wb 1048576 w) (hs : Stb 1048576 s) (hu : Wsb 1048576 u) (hp : p.length <= 1048576) :
  FZ 26 [w.c, s.c, wss u, bls p, .v (.slice none 0 0)] (a7g w s u p []) := by
 have h := c0x w s u p [] hwb hs hu hp ⟨c1u _, fun x hx => by cases hx⟩
 intro O w' vs hw hO hA
 refine h O w' vs hw hO ?_
 simp only [FzL] at hA ⊢
 obtain ⟨y1, r1, rfl, f1, y2, r2, rfl, f2, y3, r3, rfl, f3, y4, r4, rfl, f4, y5, r5, rfl, f5, rfl⟩ := hA
 simp only [Fz] at f5
 subst f5
 exact ⟨_, _, rfl, f1, _, _, rfl, f2, _, _, rfl, f3, _, _, rfl, f4, _, _, rfl, a5c, rfl⟩
set_option maxHeartbeats 32000000
def X3 : List C := [.v (.slice none 0 0), .v (.slice none 0 0), .v (.slice none 0 0), .v (.slice none 0 0), .v (.slice none 0 0), .v (.bool false), .v (.string ⟨#[]⟩), .v (.string ⟨#[]⟩)]
def rsM (m : List Int) (a : List Am) (w : List (List Vt)) (p : List Pt) (s : List Sl) (g : List Gt) : List Res :=
 [.box 30 X3, .box 209 [A8 m], .box 30 [.rv 3, .rv 4, .rv 5, .rv 6, .rv 7, .v (.bool false), .v (.string ⟨#[]⟩), .v (.string ⟨#[]⟩)], .row 60 12 (a.map Am.enc), .row 44 1 (w.map fun s => [vts s]), .row 64 12 (p.map Pt.enc), .row 68 14 (s.map Sl.enc), .row 119 13 (g.map Gt.enc)]
theorem b6m (n : Nat) (h : n < 2) : ([[C.v (.string ⟨#[98, 111, 108, 116]⟩)], [C.v (.string ⟨#[110, 117, 116]⟩)]] : List (List C))[n]? = some [C.v (.string (bs (a3j n)))] := by
 match n, h with
 | 0, _ => rfl
 | 1, _ => rfl
theorem b5B (n : Nat) (h : n < 3) : ([[C.v (.string ⟨#[104, 101, 114, 101]⟩)], [C.v (.string ⟨#[116, 104, 101, 114, 101]⟩)], [C.v (.string ⟨#[98, 101, 121, 111, 110, 100]⟩)]] : List (List C))[n]? = some [C.v (.string (bs (a4d n)))] := by
 match n, h with
 | 0, _ => rfl
 | 1, _ => rfl
 | 2, _ => rfl
theorem b8V (l : List Int) : F7 Tryz.prog 96 [A8 l] (J5 l).c := by
 refine kS a7i a7l (by rfl) fun w O => ?_
 have k0 := fun (E : Ctx) (hP : E.P = Tryz.prog) => G8 hP l 2 (by decide)
 have c0 := l7 l (n := 2) (by decide)
 have d0 := C9 l (n := 2) (by decide)
 have hc1 : ((nA l : Nat) : Int) = 1 + nx l 2 := by unfold nA; omega
 have z2 := l7 (l1 l) (n := 3) (by decide)
 have z3 := l7 (l2 l) (n := 3) (by decide)
 have z4 := l7 (l3 l) (n := 2) (by decide)
 have z5 := l7 (l4 l) (n := 2) (by decide)
 have z6 := l7 (l5 l) (n := 4) (by decide)
 have y6 := C9 (l5 l) (n := 4) (by decide)
 have hc2 : ((nW l : Nat) : Int) = nx (l1 l) 3 := by unfold nW; omega
 have hc3 : ((nP l : Nat) : Int) = nx (l2 l) 3 := by unfold nP; omega
 have hc4 : ((nS l : Nat) : Int) = (nP l : Int) + nx (l3 l) 2 := by unfold nS; omega
 have hc5 : ((nG l : Nat) : Int) = nx (l4 l) 2 := by unfold nG; omega
 obtain ⟨cc1, cc2, cc3, cc4, cc5⟩ := counts l
 have q1 : l1 l = a5x (nA l) (l.drop 1) := rfl
 have q2 : l2 l = (l1 l).drop (1 + 5 * nW l) := rfl
 have q3 : l3 l = a3L (nP l) ((l2 l).drop 1) := rfl
 have q4 : l4 l = (l3 l).drop (1 + 4 * nS l) := rfl
 have q5 : l5 l = (l4 l).drop (1 + 4 * nG l) := rfl
 unfold J5
 generalize nA l = cA at *
 generalize nW l = cW at *
 generalize nP l = cP at *
 generalize nS l = cS at *
 generalize nG l = cG at *
 generalize l5 l = L5 at *
 generalize l4 l = L4 at *
 generalize l3 l = L3 at *
 generalize l2 l = L2 at *
 generalize l1 l = L1 at *
 generalize l.drop 1 = s0 at *
 generalize nx l 2 = x0 at *
 have k1 := fun (E : Ctx) (hP : E.P = Tryz.prog) => G8 hP L1 3 (by decide)
 have k2 := fun (E : Ctx) (hP : E.P = Tryz.prog) => G8 hP L2 3 (by decide)
 have k3 := fun (E : Ctx) (hP : E.P = Tryz.prog) => G8 hP L3 2 (by decide)
 have k4 := fun (E : Ctx) (hP : E.P = Tryz.prog) => G8 hP L4 2 (by decide)
 have k5 := fun (E : Ctx) (hP : E.P = Tryz.prog) => G8 hP L5 4 (by decide)
 simp only [A8, ints] at k1 k2 k3 k4 k5
 simp only [a3i, j6, TT, II, OA, OB, OC, MM, LL, VV, FF, MG, LG, VG, FG]
 simp only [A8, ints] at k0 ⊢
 (repeat first | refine uA ?_ | (refine uK ?_ ?_; focus first | omega | (intros; simp_all <;> omega)) | simp (disch := omega) only [go_sem, Nat.reduceBEq, Nat.reduceAdd, ww] | refine l8.t (l6.lift (k := 1) rfl (k0 _ rfl) rfl rfl rfl) ?_)
 rw [<- hc1]
 refine S.loop (X := Nat × List Am × List Int) (fun x => ⟨[(2, .bp 0 0), (3, .bp 1 0), (4, .bp 2 0), (17, ints cA), (18, ints x.1)], rsM x.2.2 x.2.1 [] [] [] []⟩)
  (fun x => x.1 <= cA /\ x.2.1.length = x.1 /\ x.2.1 ++ a1D (cA - x.1) x.1 x.2.2 = a1D cA 0 s0 /\ a5x (cA - x.1) x.2.2 = a5x cA s0) (fun x => cA - x.1) (0, [], s0) ⟨c1u _, rfl, rfl, rfl⟩
  (Ent.trans (Ent.a1E 2 0 60 12 rfl rfl rfl) (Ent.trans (Ent.a1E 2 1 44 1 rfl rfl rfl) (Ent.trans (Ent.a1E 2 2 64 12 rfl rfl rfl) (Ent.trans (Ent.a1E 2 3 68 14 rfl rfl rfl) (Ent.trans (Ent.a1E 2 4 119 13 rfl rfl rfl) (by simp only [rsM, A8, X3]; exact (by (repeat first | refine uA ?_ | (refine ⟨?_, ?_⟩; focus first | rfl | simp [slot]) | rfl | simp)))))))) ?_
 rintro ⟨i, am, ma⟩ ⟨hi, hl, hL, hM⟩
 simp only [rsM, X3, A8, ints] at hi hl hL hM ⊢
 (repeat first | refine uA ?_ | (refine uK ?_ ?_; focus first | omega | (intros; simp_all <;> omega)) | simp (disch := omega) only [go_sem, Nat.reduceBEq, Nat.reduceAdd, ww])
 (refine uJ rfl (fun hc => ?_) fun hc => ?_)
 ·have hi' : i < cA := by omega
  rw [show cA - i = (cA - (i + 1)) + 1 by omega, a1D] at hL
  rw [show cA - i = (cA - (i + 1)) + 1 by omega, a5x] at hM
  have ha := fun (E : Ctx) (hP : E.P = Tryz.prog) => c0K hP ma i (by omega)
  generalize a9v ma i = A at *
  generalize a9q ma = m' at *
  simp only [A8, Am.c, Am.enc, lks, sb] at ha
  (repeat first | refine uI ?_ | (refine uK ?_ ?_; focus first | omega | (intros; simp_all <;> omega)) | simp (disch := omega) only [go_sem, Nat.reduceBEq, Nat.reduceAdd, ww])
  refine S.F4 [.gone, .gone, .box 30 [.rv 3, .rv 4, .rv 5, .rv 6, .rv 7, .v (.bool false), .v (.string ⟨#[]⟩), .v (.string ⟨#[]⟩)]] (by simp [Eng.F5, Eng.P8]) ?_
  (repeat first | refine uA ?_ | (refine uK ?_ ?_; focus first | omega | (intros; simp_all <;> omega)) | simp (disch := omega) only [go_sem, Nat.reduceBEq, Nat.reduceAdd, ww, c1o, hl, F5] | refine l8.t (l6.lift (k := 1) rfl (ha _ rfl) rfl rfl rfl) ?_)
  refine S.next (x := (i, am, ma)) (i + 1, am ++ [A], m') ⟨by simp only; omega, by simp [hl], by simp only; rw [c1U]; exact hL, by simp only; exact hM⟩ (by simp only; omega) (by simp only [rsM, A8, X3, c2f, c1F, c2b]; exact (by (repeat first | refine uA ?_ | (refine ⟨?_, ?_⟩; focus first | rfl | simp [slot]) | rfl | simp)))
 have hi' : i = cA := by omega
 subst hi'
 rw [Nat.sub_self, a1D, List.append_nil] at hL
 rw [Nat.sub_self, a5x] at hM
 have hm : ma = L1 := by rw [q1]; exact hM
 subst hm
 rw [<- hL]
 (repeat first | refine uA ?_ | (refine uK ?_ ?_; focus first | omega | (intros; simp_all <;> omega)) | simp (disch := omega) only [go_sem, Nat.reduceBEq, Nat.reduceAdd, ww] | refine l8.t (l6.lift (k := 1) rfl (k1 _ rfl) rfl rfl rfl) ?_)
 rw [<- hc2]
 refine S.loop (X := Nat × List (List Vt) × List Int) (fun x => ⟨[(2, .bp 0 0), (3, .bp 1 0), (4, .bp 2 0), (31, ints cW), (32, ints x.1)], rsM x.2.2 am x.2.1 [] [] []⟩)
  (fun x => x.1 <= cW /\ x.2.1.length = x.1 /\ x.2.1 ++ a1A (cW - x.1) x.2.2 = a1A cW (ma.drop 1) /\ x.2.2.drop (5 * (cW - x.1)) = (ma.drop 1).drop (5 * cW)) (fun x => cW - x.1) (0, [], ma.drop 1) ⟨c1u _, rfl, rfl, rfl⟩ (by simp only [rsM, A8, X3]; exact (by (repeat first | refine uA ?_ | (refine ⟨?_, ?_⟩; focus first | rfl | simp [slot]) | rfl | simp))) ?_
 rintro ⟨i, ws, mw⟩ ⟨hi, hl, hL, hM⟩
 simp only [rsM, X3, A8, ints] at hi hl hL hM ⊢
 (repeat first | refine uA ?_ | (refine uK ?_ ?_; focus first | omega | (intros; simp_all <;> omega)) | simp (disch := omega) only [go_sem, Nat.reduceBEq, Nat.reduceAdd, ww])
 (refine uJ rfl (fun hc => ?_) fun hc => ?_)
 ·have hi' : i < cW := by omega
  rw [show cW - i = (cW - (i + 1)) + 1 by omega, a1A] at hL
  have hM2 : (mw.drop 5).drop (5 * (cW - (i + 1))) = (ma.drop 1).drop (5 * cW) := by rw [<- hM, List.drop_drop]; congr 1; omega
  have n0 := fun (E : Ctx) (hP : E.P = Tryz.prog) => G8 hP mw 80 (by decide)
  have a0 := l7 mw (n := 80) (by decide)
  have b0 := C9 mw (n := 80) (by decide)
  have n1 := fun (E : Ctx) (hP : E.P = Tryz.prog) => G8 hP (mw.drop 1) 30 (by decide)
  have a1 := l7 (mw.drop 1) (n := 30) (by decide)
  have b1 := C9 (mw.drop 1) (n := 30) (by decide)
  have n2 := fun (E : Ctx) (hP : E.P = Tryz.prog) => G8 hP (mw.drop 2) 2 (by decide)
  have a2 := l7 (mw.drop 2) (n := 2) (by decide)
  have b2 := C9 (mw.drop 2) (n := 2) (by decide)
  have n3 := fun (E : Ctx) (hP : E.P = Tryz.prog) => G8 hP (mw.drop 3) 20 (by decide)
  have a3 := l7 (mw.drop 3) (n := 20) (by decide)
  have b3 := C9 (mw.drop 3) (n := 20) (by decide)
  have n4 := fun (E : Ctx) (hP : E.P = Tryz.prog) => G8 hP (mw.drop 4) 5 (by decide)
  have a4 := l7 (mw.drop 4) (n := 5) (by decide)
  have b4 := C9 (mw.drop 4) (n := 5) (by decide)
  simp only [List.drop_drop, A8, ints] at n0 n1 n2 n3 n4
  have hwy : -1000 <= a0P mw /\ a0P mw <= 1000 := by unfold a0P; split <;> omega
  have o1 := b5W (nx mw 80 - 30) (a0P mw) (nx mw 80 - 30 + 1 + nx (mw.drop 3) 20) (a0P mw + 1 + nx (mw.drop 4) 5) (by omega) (by omega) (by omega) (by omega)
  unfold b1a at hL
  generalize a4n (nx mw 80 - 30) (a0P mw) (nx mw 80 - 30 + 1 + nx (mw.drop 3) 20) (a0P mw + 1 + nx (mw.drop 4) 5) = R at *
  have hwe : a0P mw = if nx (mw.drop 2) 2 = 1 then -(12 + nx (mw.drop 1) 30) - 6 else 12 + nx (mw.drop 1) 30 := rfl
  generalize a0P mw = Y at *
  generalize nx mw 80 = x1 at *
  generalize nx (mw.drop 1) 30 = x2 at *
  generalize nx (mw.drop 2) 2 = x3 at *
  generalize nx (mw.drop 3) 20 = x4 at *
  generalize nx (mw.drop 4) 5 = x5 at *
  simp only [ints, vts] at o1
  (repeat first | refine uA ?_ | (refine uK ?_ ?_; focus first | omega | (intros; simp_all <;> omega)) | simp (disch := omega) only [go_sem, Nat.reduceBEq, Nat.reduceAdd, ww] | refine l8.t (l6.lift (k := 1) rfl (n0 _ rfl) rfl rfl rfl) ?_ | refine l8.t (l6.lift (k := 1) rfl (n1 _ rfl) rfl rfl rfl) ?_ | refine l8.t (l6.lift (k := 1) rfl (n2 _ rfl) rfl rfl rfl) ?_)
  refine S.join (Y := Int) (fun y => ⟨[(2, .bp 0 0), (3, .bp 1 0), (4, .bp 2 0), (6, ints (x1 - 30)), (7, ints y), (31, ints cW), (32, ints i)], rsM (mw.drop 3) am ws [] [] []⟩) (fun y => y = Y) ?_ ?_
  ·refine S.cond rfl (fun hc => ?_) (fun hc => ?_)
   ·have hn2 : IntKind.i64.wrap (0 - (12 + x2)) = -(12 + x2) := by rw [Eng.wrap_i64 (by omega)]; omega
    (repeat first | refine uA ?_ | (refine uK ?_ ?_; focus first | omega | (intros; simp_all <;> omega)) | simp (disch := omega) only [go_sem, Nat.reduceBEq, Nat.reduceAdd, ww, hn2])
    exact S.met (-(12 + x2) - 6) (by simp at hc; rw [hwe, if_pos hc]) (by simp only [rsM, A8, X3]; exact (by (repeat first | refine uA ?_ | (refine ⟨?_, ?_⟩; focus first | rfl | simp [slot]) | rfl | simp)))
   ·(repeat first | refine uA ?_ | (refine uK ?_ ?_; focus first | omega | (intros; simp_all <;> omega)) | simp (disch := omega) only [go_sem, Nat.reduceBEq, Nat.reduceAdd, ww])
    exact S.met (12 + x2) (by simp at hc; rw [hwe, if_neg hc]) (by simp only [rsM, A8, X3]; exact (by (repeat first | refine uA ?_ | (refine ⟨?_, ?_⟩; focus first | rfl | simp [slot]) | rfl | simp)))
  rintro y rfl
  simp only [rsM, X3, A8, ints]
  (repeat first | refine uI ?_ | (refine uK ?_ ?_; focus first | omega | (intros; simp_all <;> omega)) | simp (disch := omega) only [go_sem, Nat.reduceBEq, Nat.reduceAdd, ww])
  refine S.F4 [.gone, .gone, .box 30 [.rv 3, .rv 4, .rv 5, .rv 6, .rv 7, .v (.bool false), .v (.string ⟨#[]⟩), .v (.string ⟨#[]⟩)]] (by simp [Eng.F5, Eng.P8]) ?_
  (repeat first | refine uA ?_ | (refine uK ?_ ?_; focus first | omega | (intros; simp_all <;> omega)) | simp (disch := omega) only [go_sem, Nat.reduceBEq, Nat.reduceAdd, ww, c1o, hl, F5] | refine l8.t (l6.lift (k := 1) rfl (n3 _ rfl) rfl rfl rfl) ?_ | refine l8.t (l6.lift (k := 1) rfl (n4 _ rfl) rfl rfl rfl) ?_ | (refine uB o1 ?_ ?_; exact rfl))
  refine S.next (x := (i, ws, mw)) (i + 1, ws ++ [R], mw.drop 5) ⟨by simp only; omega, by simp [hl], by simp only; rw [c1U]; exact hL, by simp only; exact hM2⟩ (by simp only; omega) (by simp only [rsM, A8, X3, c2f, c1F, c2b]; exact (by (repeat first | refine uA ?_ | (refine ⟨?_, ?_⟩; focus first | rfl | simp [slot]) | rfl | simp)))
 have hi' : i = cW := by omega
 subst hi'
 rw [Nat.sub_self, a1A, List.append_nil] at hL
 rw [Nat.sub_self, Nat.mul_zero, List.drop_zero, List.drop_drop] at hM
 have hm : mw = L2 := by rw [q2]; exact hM
 subst hm
 rw [<- hL]
 (repeat first | refine uA ?_ | (refine uK ?_ ?_; focus first | omega | (intros; simp_all <;> omega)) | simp (disch := omega) only [go_sem, Nat.reduceBEq, Nat.reduceAdd, ww] | refine l8.t (l6.lift (k := 1) rfl (k2 _ rfl) rfl rfl rfl) ?_)
 rw [<- hc3]
 refine S.loop (X := Nat × List Pt × List Int) (fun x => ⟨[(2, .bp 0 0), (3, .bp 1 0), (4, .bp 2 0), (66, ints cP), (67, ints x.1)], rsM x.2.2 am ws x.2.1 [] []⟩)
  (fun x => x.1 <= cP /\ x.2.1.length = x.1 /\ x.2.1 ++ a0s (cP - x.1) x.1 x.2.2 = a0s cP 0 (mw.drop 1) /\ a3L (cP - x.1) x.2.2 = a3L cP (mw.drop 1)) (fun x => cP - x.1) (0, [], mw.drop 1) ⟨c1u _, rfl, rfl, rfl⟩ (by simp only [rsM, A8, X3]; exact (by (repeat first | refine uA ?_ | (refine ⟨?_, ?_⟩; focus first | rfl | simp [slot]) | rfl | simp))) ?_
 rintro ⟨i, ps, mp⟩ ⟨hi, hl, hL, hM⟩
 simp only [rsM, X3, A8, ints] at hi hl hL hM ⊢
 (repeat first | refine uA ?_ | (refine uK ?_ ?_; focus first | omega | (intros; simp_all <;> omega)) | simp (disch := omega) only [go_sem, Nat.reduceBEq, Nat.reduceAdd, ww])
 (refine uJ rfl (fun hc => ?_) fun hc => ?_)
 ·have hi' : i < cP := by omega
  rw [show cP - i = (cP - (i + 1)) + 1 by omega, a0s] at hL
  rw [show cP - i = (cP - (i + 1)) + 1 by omega, a3L] at hM
  have hp := fun (E : Ctx) (hP : E.P = Tryz.prog) => b9R hP mp
  have hnm := b6m i (by omega)
  have o1 := R3 0 0 (by decide) (by decide)
  have o2 := a1l 0 1 (by decide) (by decide)
  unfold b8p at hL
  unfold atV at o1
  generalize (a1h mp).1 = sh at *
  generalize (a1h mp).2 = m' at *
  generalize Q 0 4 = qa at *
  generalize Q 0 1 = qb at *
  generalize a3j i = nm at *
  simp only [A8, vts, Vt.c, Vt.enc, rc, sb, ints] at hp o1 o2
  (repeat first | refine uI ?_ | (refine uK ?_ ?_; focus first | omega | (intros; simp_all <;> omega)) | simp (disch := omega) only [go_sem, Nat.reduceBEq, Nat.reduceAdd, ww])
  refine S.F4 [.gone, .gone, .box 30 [.rv 3, .rv 4, .rv 5, .rv 6, .rv 7, .v (.bool false), .v (.string ⟨#[]⟩), .v (.string ⟨#[]⟩)]] (by simp [Eng.F5, Eng.P8]) ?_
  (repeat first | refine uA ?_ | (refine uK ?_ ?_; focus first | omega | (intros; simp_all <;> omega)) | simp (disch := omega) only [go_sem, Nat.reduceBEq, Nat.reduceAdd, ww, c1o, hl, F5, hnm, c1x] | refine l8.t (l6.lift (k := 1) rfl (hp _ rfl) rfl rfl rfl) ?_ | (refine uB o1 ?_ ?_; exact rfl) | (refine uB o2 ?_ ?_; exact rfl))
  refine S.next (x := (i, ps, mp)) (i + 1, ps ++ [⟨nm, sh, ⟨qa, qa, false, qb⟩⟩], m') ⟨by simp only; omega, by simp [hl], by simp only; rw [c1U]; exact hL, by simp only; exact hM⟩ (by simp only; omega) (by simp only [rsM, A8, X3, c2f, c1F, c2b]; exact (by (repeat first | refine uA ?_ | (refine ⟨?_, ?_⟩; focus first | rfl | simp [slot]) | rfl | simp)))
 have hi' : i = cP := by omega
 subst hi'
 rw [Nat.sub_self, a0s, List.append_nil] at hL
 rw [Nat.sub_self, a3L] at hM
 have hm : mp = L3 := by rw [q3]; exact hM
 subst hm
 rw [<- hL]
 (repeat first | refine uI ?_ | (refine uK ?_ ?_; focus first | omega | (intros; simp_all <;> omega)) | simp (disch := omega) only [go_sem, Nat.reduceBEq, Nat.reduceAdd, ww])
 refine S.F4 [.gone, .gone, .box 30 [.rv 3, .rv 4, .rv 5, .rv 6, .rv 7, .v (.bool false), .v (.string ⟨#[]⟩), .v (.string ⟨#[]⟩)], .gone, .gone, .row 64 12 (ps.map Pt.enc)] (by simp [Eng.F5, Eng.P8]) ?_
 (repeat first | refine uA ?_ | (refine uK ?_ ?_; focus first | omega | (intros; simp_all <;> omega)) | simp (disch := omega) only [go_sem, Nat.reduceBEq, Nat.reduceAdd, ww, c1o, hl, F5] | refine l8.t (l6.lift (k := 1) rfl (k3 _ rfl) rfl rfl rfl) ?_)
 rw [<- hc4]
 refine S.loop (X := Nat × List Sl × List Int) (fun x => ⟨[(2, .bp 0 0), (3, .bp 1 0), (4, .bp 2 0), (92, ints cS), (93, ints x.1)], rsM x.2.2 am ws ps x.2.1 []⟩)
  (fun x => x.1 <= cS /\ x.2.1.length = x.1 /\ x.2.1 ++ a0n (cS - x.1) x.1 x.2.2 = a0n cS 0 (mp.drop 1) /\ x.2.2.drop (4 * (cS - x.1)) = (mp.drop 1).drop (4 * cS)) (fun x => cS - x.1) (0, [], mp.drop 1) ⟨c1u _, rfl, rfl, rfl⟩ (by simp only [rsM, A8, X3]; exact (by (repeat first | refine uA ?_ | (refine ⟨?_, ?_⟩; focus first | rfl | simp [slot]) | rfl | simp))) ?_
 rintro ⟨i, ss, ms⟩ ⟨hi, hl, hL, hM⟩
 simp only [rsM, X3, A8, ints] at hi hl hL hM ⊢
 (repeat first | refine uA ?_ | (refine uK ?_ ?_; focus first | omega | (intros; simp_all <;> omega)) | simp (disch := omega) only [go_sem, Nat.reduceBEq, Nat.reduceAdd, ww])
 (refine uJ rfl (fun hc => ?_) fun hc => ?_)
 ·have hi' : i < cS := by omega
  rw [show cS - i = (cS - (i + 1)) + 1 by omega, a0n] at hL
  have hM2 : (ms.drop 4).drop (4 * (cS - (i + 1))) = (mp.drop 1).drop (4 * cS) := by rw [<- hM, List.drop_drop]; congr 1; omega
  have n0 := fun (E : Ctx) (hP : E.P = Tryz.prog) => G8 hP ms 40 (by decide)
  have a0 := l7 ms (n := 40) (by decide)
  have b0 := C9 ms (n := 40) (by decide)
  have n1 := fun (E : Ctx) (hP : E.P = Tryz.prog) => G8 hP (ms.drop 1) 24 (by decide)
  have a1 := l7 (ms.drop 1) (n := 24) (by decide)
  have b1 := C9 (ms.drop 1) (n := 24) (by decide)
  have n2 := fun (E : Ctx) (hP : E.P = Tryz.prog) => G8 hP (ms.drop 2) 5 (by decide)
  have a2 := l7 (ms.drop 2) (n := 5) (by decide)
  have b2 := C9 (ms.drop 2) (n := 5) (by decide)
  have n3 := fun (E : Ctx) (hP : E.P = Tryz.prog) => G8 hP (ms.drop 3) 20 (by decide)
  have a3 := l7 (ms.drop 3) (n := 20) (by decide)
  have b3 := C9 (ms.drop 3) (n := 20) (by decide)
  simp only [List.drop_drop, A8, ints] at n0 n1 n2 n3
  have hnm := b5B i (by omega)
  have o1 := R3 (nx ms 40 - 20) (nx (ms.drop 1) 24 - 12) (by omega) (by omega)
  have o2 := a1l (nx (ms.drop 2) 5 - 2) 2 (by omega) (by decide)
  have o3 := a1l 1 (8 + nx (ms.drop 3) 20) (by decide) (by omega)
  unfold b4x at hL
  unfold atV at o1
  generalize Q (nx ms 40 - 20) 4 = qa at *
  generalize Q (nx (ms.drop 1) 24 - 12) 4 = qb at *
  generalize Q (nx (ms.drop 2) 5 - 2) 2 = qc at *
  generalize Q 1 (8 + nx (ms.drop 3) 20) = qd at *
  generalize a4d i = nm at *
  generalize nx ms 40 = x1 at *
  generalize nx (ms.drop 1) 24 = x2 at *
  generalize nx (ms.drop 2) 5 = x3 at *
  generalize nx (ms.drop 3) 20 = x4 at *
  simp only [Vt.c, Vt.enc, rc, sb, ints] at o1 o2 o3
  (repeat first | refine uI ?_ | (refine uK ?_ ?_; focus first | omega | (intros; simp_all <;> omega)) | simp (disch := omega) only [go_sem, Nat.reduceBEq, Nat.reduceAdd, ww])
  refine S.F4 [.gone, .gone, .box 30 [.rv 3, .rv 4, .rv 5, .rv 6, .rv 7, .v (.bool false), .v (.string ⟨#[]⟩), .v (.string ⟨#[]⟩)]] (by simp [Eng.F5, Eng.P8]) ?_
  (repeat first | refine uA ?_ | (refine uK ?_ ?_; focus first | omega | (intros; simp_all <;> omega)) | simp (disch := omega) only [go_sem, Nat.reduceBEq, Nat.reduceAdd, ww, c1o, hl, F5, hnm, c1x] | refine l8.t (l6.lift (k := 1) rfl (n0 _ rfl) rfl rfl rfl) ?_ | refine l8.t (l6.lift (k := 1) rfl (n1 _ rfl) rfl rfl rfl) ?_ | refine l8.t (l6.lift (k := 1) rfl (n2 _ rfl) rfl rfl rfl) ?_ | refine l8.t (l6.lift (k := 1) rfl (n3 _ rfl) rfl rfl rfl) ?_ | (refine uB o1 ?_ ?_; exact rfl) | (refine uB o2 ?_ ?_; exact rfl) | (refine uB o3 ?_ ?_; exact rfl))
  refine S.next (x := (i, ss, ms)) (i + 1, ss ++ [⟨nm, ⟨qa, qb, false, qc⟩, qd⟩], ms.drop 4) ⟨by simp only; omega, by simp [hl], by simp only; rw [c1U]; exact hL, by simp only; exact hM2⟩ (by simp only; omega) (by simp only [rsM, A8, X3, c2f, c1F, c2b]; exact (by (repeat first | refine uA ?_ | (refine ⟨?_, ?_⟩; focus first | rfl | simp [slot]) | rfl | simp)))
 have hi' : i = cS := by omega
 subst hi'
 rw [Nat.sub_self, a0n, List.append_nil] at hL
 rw [Nat.sub_self, Nat.mul_zero, List.drop_zero, List.drop_drop] at hM
 have hm : ms = L4 := by rw [q4]; exact hM
 subst hm
 rw [<- hL]
 (repeat first | refine uA ?_ | (refine uK ?_ ?_; focus first | omega | (intros; simp_all <;> omega)) | simp (disch := omega) only [go_sem, Nat.reduceBEq, Nat.reduceAdd, ww] | refine l8.t (l6.lift (k := 1) rfl (k4 _ rfl) rfl rfl rfl) ?_)
 rw [<- hc5]
 refine S.loop (X := Nat × List Gt × List Int) (fun x => ⟨[(2, .bp 0 0), (3, .bp 1 0), (4, .bp 2 0), (125, ints cG), (126, ints x.1)], rsM x.2.2 am ws ps ss x.2.1⟩)
  (fun x => x.1 <= cG /\ x.2.1.length = x.1 /\ x.2.1 ++ a0m (cG - x.1) x.2.2 = a0m cG (ms.drop 1) /\ x.2.2.drop (4 * (cG - x.1)) = (ms.drop 1).drop (4 * cG)) (fun x => cG - x.1) (0, [], ms.drop 1) ⟨c1u _, rfl, rfl, rfl⟩ (by simp only [rsM, A8, X3]; exact (by (repeat first | refine uA ?_ | (refine ⟨?_, ?_⟩; focus first | rfl | simp [slot]) | rfl | simp))) ?_
 rintro ⟨i, gs, mg⟩ ⟨hi, hl, hL, hM⟩
 simp only [rsM, X3, A8, ints] at hi hl hL hM ⊢
 (repeat first | refine uA ?_ | (refine uK ?_ ?_; focus first | omega | (intros; simp_all <;> omega)) | simp (disch := omega) only [go_sem, Nat.reduceBEq, Nat.reduceAdd, ww])
 (refine uJ rfl (fun hc => ?_) fun hc => ?_)
 ·have hi' : i < cG := by omega
  rw [show cG - i = (cG - (i + 1)) + 1 by omega, a0m] at hL
  have hM2 : (mg.drop 4).drop (4 * (cG - (i + 1))) = (ms.drop 1).drop (4 * cG) := by rw [<- hM, List.drop_drop]; congr 1; omega
  have n0 := fun (E : Ctx) (hP : E.P = Tryz.prog) => G8 hP mg 60 (by decide)
  have a0 := l7 mg (n := 60) (by decide)
  have b0 := C9 mg (n := 60) (by decide)
  have n1 := fun (E : Ctx) (hP : E.P = Tryz.prog) => G8 hP (mg.drop 1) 60 (by decide)
  have a1 := l7 (mg.drop 1) (n := 60) (by decide)
  have b1 := C9 (mg.drop 1) (n := 60) (by decide)
  have n2 := fun (E : Ctx) (hP : E.P = Tryz.prog) => G8 hP (mg.drop 2) 12 (by decide)
  have a2 := l7 (mg.drop 2) (n := 12) (by decide)
  have b2 := C9 (mg.drop 2) (n := 12) (by decide)
  have n3 := fun (E : Ctx) (hP : E.P = Tryz.prog) => G8 hP (mg.drop 3) 12 (by decide)
  have a3 := l7 (mg.drop 3) (n := 12) (by decide)
  have b3 := C9 (mg.drop 3) (n := 12) (by decide)
  simp only [List.drop_drop, A8, ints] at n0 n1 n2 n3
  have o1 := R3 (nx mg 60 - 30) (nx (mg.drop 1) 60 - 30) (by omega) (by omega)
  have o2 := R3 (nx mg 60 - 30 + nx (mg.drop 2) 12) (nx (mg.drop 1) 60 - 30 + nx (mg.drop 3) 12) (by omega) (by omega)
  unfold b5k at hL
  generalize atV (nx mg 60 - 30) (nx (mg.drop 1) 60 - 30) = va at *
  generalize atV (nx mg 60 - 30 + nx (mg.drop 2) 12) (nx (mg.drop 1) 60 - 30 + nx (mg.drop 3) 12) = vb at *
  generalize nx mg 60 = x1 at *
  generalize nx (mg.drop 1) 60 = x2 at *
  generalize nx (mg.drop 2) 12 = x3 at *
  generalize nx (mg.drop 3) 12 = x4 at *
  simp only [Vt.c, Vt.enc, rc, sb, ints] at o1 o2
  (repeat first | refine uI ?_ | (refine uK ?_ ?_; focus first | omega | (intros; simp_all <;> omega)) | simp (disch := omega) only [go_sem, Nat.reduceBEq, Nat.reduceAdd, ww] | refine l8.t (l6.lift (k := 1) rfl (n0 _ rfl) rfl rfl rfl) ?_ | refine l8.t (l6.lift (k := 1) rfl (n1 _ rfl) rfl rfl rfl) ?_)
  refine S.F4 [.gone, .gone, .box 30 [.rv 3, .rv 4, .rv 5, .rv 6, .rv 7, .v (.bool false), .v (.string ⟨#[]⟩), .v (.string ⟨#[]⟩)]] (by simp [Eng.F5, Eng.P8]) ?_
  (repeat first | refine uA ?_ | (refine uK ?_ ?_; focus first | omega | (intros; simp_all <;> omega)) | simp (disch := omega) only [go_sem, Nat.reduceBEq, Nat.reduceAdd, ww, c1o, hl, F5] | refine l8.t (l6.lift (k := 1) rfl (n2 _ rfl) rfl rfl rfl) ?_ | refine l8.t (l6.lift (k := 1) rfl (n3 _ rfl) rfl rfl rfl) ?_ | (refine uB o1 ?_ ?_; exact rfl) | (refine uB o2 ?_ ?_; exact rfl))
  refine S.next (x := (i, gs, mg)) (i + 1, gs ++ [⟨[100, 111, 111, 114], va, vb⟩], mg.drop 4) ⟨by simp only; omega, by simp [hl], by simp only; rw [c1U]; exact hL, by simp only; exact hM2⟩ (by simp only; omega) (by simp only [rsM, A8, X3, c2f, c1F, c2b]; exact (by (repeat first | refine uA ?_ | (refine ⟨?_, ?_⟩; focus first | rfl | simp [slot]) | rfl | simp)))
 have hi' : i = cG := by omega
 subst hi'
 rw [Nat.sub_self, a0m, List.append_nil] at hL
 rw [Nat.sub_self, Nat.mul_zero, List.drop_zero, List.drop_drop] at hM
 have hm : mg = L5 := by rw [q5]; exact hM
 subst hm
 rw [<- hL]
 have o1 := a1l (nx mg 4) 8 (by omega) (by decide)
 generalize Q (nx mg 4) 8 = qw at *
 generalize nx mg 4 = x6 at *
 simp only [Wk.c, Wk.enc, ams, wls, pts, sls, gts, rc, sb, ints] at o1 ⊢
 (repeat first | refine uA ?_ | (refine uK ?_ ?_; focus first | omega | (intros; simp_all <;> omega)) | simp (disch := omega) only [go_sem, Nat.reduceBEq, Nat.reduceAdd, ww] | refine l8.t (l6.lift (k := 1) rfl (k5 _ rfl) rfl rfl rfl) ?_ | (refine uB o1 ?_ ?_; exact rfl))
 (refine S.done ?_; simp only [q8, l9, go_sem, Nat.reduceBEq, Nat.reduceAdd, Nat.reduceLeDiff, Int.reduceToNat, Int.reducePow]; (repeat (refine ⟨?_, ?_⟩; focus first | trivial | omega | simp)); exact j3.out rfl (Imp.agg (by (repeat' (first | exact p8.nil | exact Imp.refl rfl | exact Imp.frz rfl rfl rfl | exact Imp.P5 | refine p8.cons ?_ ?_)))) rfl)
set_option maxHeartbeats 16000000
theorem b8F (l : List Int) : FZ 25 [A8 l] (.tup [(J5 l).c, (K7 (J5 l)).c, .v (.bool true)]) := by
 refine kW a6u a6m (by rfl) fun w' O hw => ?_
 have hk := b1A l
 obtain ⟨ha, hs⟩ := a7H l
 have hb := b6l l
 have h1 := b8V l
 have h2 := b9x (J5 l) hb hk
 have h3 := a8e (J5 l) (K7 (J5 l)) hb (b6C hb ha hs)
 rw [b2n hk ha hs] at h3
 have h4 := b7n
 have e1 : (K7 (J5 l)).arms.length = (J5 l).arms.length := by simp [K7]
 have e2 : (K7 (J5 l)).parts.length = (J5 l).parts.length := by simp [K7]
 generalize K7 (J5 l) = s at *
 generalize J5 l = w at *
 obtain ⟨arms, walls, parts, slots, gates, walk⟩ := w
 obtain ⟨tick, sarms, sparts, people, sgates⟩ := s
 simp only at e1 e2
 have d1 : decide ((sarms.length : Int) = (arms.length : Int)) = true := decide_eq_true (by omega)
 have d2 : decide ((sparts.length : Int) = (parts.length : Int)) = true := decide_eq_true (by omega)
 simp only [a2X, j6, TT, II, OA, OB, OC, MM, LL, VV, FF, MG, LG, VG, FG]
 simp only [Wk.c, Wk.enc, Stt.c, Stt.enc, ams, wls, pts, sls, gts, J9, frs, vts, bls, rc, sb, ints, A8] at h1 h2 h3 h4 ⊢
 (repeat first | refine uI ?_ | (refine uK ?_ ?_; focus first | omega | (intros; simp_all <;> omega)) | simp (disch := omega) only [go_sem, Nat.reduceBEq, Nat.reduceAdd, ww] | (refine uB h1 ?_ ?_; exact rfl) | (refine uD h2 ?_ ?_ ?_; exact tz hw; exact rfl))
 refine S.F4 [.gone, .gone, .gone, .box 47 [.v (.int .i64 tick), .sl 4 (sarms.map Ast.enc), .sl 10 (sparts.map Fr.enc), .sl 6 (people.map Vt.enc), .sl 1 (sgates.map fun b => [.v (.bool b)])]] (by simp [Eng.F5, Eng.P8]) ?_
 (repeat first | refine uA ?_ | (refine uK ?_ ?_; focus first | omega | (intros; simp_all <;> omega)) | simp (disch := omega) only [go_sem, Nat.reduceBEq, Nat.reduceAdd, ww, F5, c1o, e1, e2, d1, d2, decide_true, Bool.and_self] | (refine uD h3 ?_ ?_ ?_; exact tz hw; exact rfl) | (refine uD h4 ?_ ?_ ?_; exact tz hw; exact rfl))
 (refine S.done ?_; simp only [q8, l9, go_sem, Nat.reduceBEq, Nat.reduceAdd, Nat.reduceLeDiff, Int.reduceToNat, Int.reducePow]; (repeat (refine ⟨?_, ?_⟩; focus first | trivial | omega | simp)); exact j3.out rfl (Imp.tup (by (repeat' (first | exact p8.nil | exact Imp.refl rfl | exact Imp.frz rfl rfl rfl | exact Imp.P5 | refine Imp.agg ?_ | refine p8.cons ?_ ?_)))) rfl)
def a1s : L9 := ⟨195, [.tmp 4], .seq (.reg [OA 4 (.mv (.const (.bool false)))]) (.seq (.reg [MM 18 0, OA 19 (.call 25 [TT 18]), MM 17 19, OA 20 (.ext (TT 17) 0), OA 21 (.ext (TT 17) 1), OA 22 (.ext (TT 17) 2), OA 5 (.alloc 30 [.slice none 0 0,
 .slice none 0 0, .slice none 0 0, .slice none 0 0, .slice none 0 0, .bool false, .string ⟨#[]⟩, .string ⟨#[]⟩]), OA 6 (.alloc 47 [.int .i64 0, .slice none 0 0, .slice none 0 0, .slice none 0 0, .slice none 0 0]), OB (.store 8
 (TT 5) (TT 20)), OB (.store 5 (TT 6) (TT 21)), MM 7 22]) (.seq (.seq (.reg [MM 23 7, OA 24 (.un .not (TT 23))]) (.cond (TT 24) (.seq (.reg [OA 4 (.mv (.const (.bool false)))]) .ret) .skip)) (.seq (.reg [FF 25 0 5, VV 26 25, OA
 27 (.len false (TT 26)), OA 28 (.a0F 4 1 [.bool false] (TT 27) (TT 27)), MM 8 28]) (.seq (.seq (.reg [MM 29 8, OA 30 (.len false (TT 29)), OA 31 (.mv (II 0))]) (.block 0 (.loop (.seq (.reg [OA 32 (.bin .lss (TT 31) (TT 30))])
 (.seq (.cond (TT 32) .skip (.exit 0)) (.seq (.block 1 (.seq (.reg [MM 33 31, MM 9 33]) (.reg [MM 34 8, MM 35 9, OA 36 (.p9 1 (TT 34) (TT 35)), OB (.store 1 (TT 36) (.const (.bool true)))]))) (.reg [OA 37 (.bin .add (TT 31)
 (II 1)), MM 31 37]))))))) (.seq (.F4 [.q, .q, .q, .q, .q, .q, .q, .q, .q, .q, .l, .e none false, .q] [LL 39 8 5, LL 40 5 6, LL 41 8 5, LL 42 5 6, MM 43 1, OA 44 (.call 27 [TT 41, TT 42, TT 43]), MM 45 8, OA 46 (.call 26 [TT
 39, TT 40, TT 44, TT 45, .const (.slice none 0 0)]), MM 38 46, OA 47 (.ext (TT 38) 0), OA 48 (.ext (TT 38) 1), OB (.store 5 (TT 6) (TT 47)), MM 10 48]) (.seq (.seq (.reg [MM 49 10, OA 50 (.bin .neq (TT 49) (II 0)), MM 51 50, FG
 52 1 6 51 false, VG 53 52 51 false, OC 54 (.len false (TT 53)) 51 false, FG 55 0 5 51 false, VG 56 55 51 false, OC 57 (.len false (TT 56)) 51 false, OC 58 (.bin .neq (TT 54) (TT 57)) 51 false, OA 59 (.pick (TT 51) (.const (.bool
 true)) (TT 58))]) (.cond (TT 59) (.seq (.reg [OA 4 (.mv (.const (.bool false)))]) .ret) .skip)) (.seq (.seq (.reg [OA 60 (.mv (II 0))]) (.block 2 (.loop (.seq (.reg [OA 61 (.bin .lss (TT 60) (II 6))]) (.seq (.cond (TT 61) .skip
 (.exit 2)) (.seq (.block 3 (.seq (.F4 [.q, .q, .q, .q, .q, .q, .q, .q, .q, .q, .q, .q, .q, .l, .a, .e (some 11) false, .q] [LL 63 8 5, LL 64 5 6, LL 65 8 5, LL 66 5 6, MM 67 1, OA 68 (.call 27 [TT 65, TT 66, TT 67]), FF 69 0
 5, VV 70 69, OA 71 (.len false (TT 70)), OA 72 (.a0F 4 1 [.bool false] (TT 71) (TT 71)), OA 73 (.call 26 [TT 63, TT 64, TT 68, TT 72, .const (.slice none 0 0)]), MM 62 73, OA 74 (.ext (TT 62) 0), OA 75 (.ext (TT 62) 1), OA 11
 (.alloc 47 [.int .i64 0, .slice none 0 0, .slice none 0 0, .slice none 0 0, .slice none 0 0]), OB (.store 5 (TT 11) (TT 74)), MM 12 75]) (.seq (.seq (.reg [MM 76 12, OA 77 (.bin .neq (TT 76) (II 0))]) (.cond (TT 77) (.seq (.reg
 [MM 78 12, OA 79 (.bin .eql (TT 78) (II 17)), MM 4 79]) .ret) .skip)) (.seq (.seq (.reg [FF 80 1 11, VV 81 80, OA 82 (.len false (TT 81)), FF 83 1 6, VV 84 83, OA 85 (.len false (TT 84)), OA 86 (.bin .neq (TT 82) (TT 85)), MM 87
 86, FG 88 0 11 87 false, VG 89 88 87 false, FG 90 0 6 87 false, VG 91 90 87 false, OC 92 (.bin .add (TT 91) (II 1)) 87 false, OC 93 (.bin .neq (TT 89) (TT 92)) 87 false, OA 94 (.pick (TT 87) (.const (.bool true)) (TT 93)), MM 95
 94, FG 96 2 11 95 false, VG 97 96 95 false, FG 98 2 6 95 false, VG 99 98 95 false, OC 100 (.call 28 [TT 97, TT 99]) 95 false, OC 101 (.un .not (TT 100)) 95 false, OA 102 (.pick (TT 95) (.const (.bool true)) (TT 101))]) (.cond
 (TT 102) (.seq (.reg [OA 4 (.mv (.const (.bool false)))]) .ret) .skip)) (.seq (.seq (.reg [FF 103 1 11, VV 104 103, OA 105 (.len false (TT 104)), OA 106 (.mv (II 0))]) (.block 4 (.loop (.seq (.reg [OA 107 (.bin .lss (TT 106) (TT
 105))]) (.seq (.cond (TT 107) .skip (.exit 4)) (.seq (.block 5 (.seq (.reg [MM 108 106, OA 109 (.p9 4 (TT 104) (TT 106)), LL 110 4 109, OA 14 (.alloc 81 [.slice none 0 0, .slice none 0 0, .bool false, .int .i64 0]), MM 13
 108, OB (.store 4 (TT 14) (TT 110))]) (.seq (.seq (.F4 [.q, .q, .q, .q, .q, .q, .q, .q, .q, .q, .q, .q, .q, .q, .q, .q, .q, .q, .q, .q, .q, .q, .q, .q] [FF 111 2 14, VV 112 111, MM 113 112, FG 114 1 14 113 false, VG 115 114
 113 false, OC 116 (.len false (TT 115)) 113 false, FG 117 1 6 113 false, VG 118 117 113 false, MG 119 13 113 false, OC 120 (.p9 4 (TT 118) (TT 119)) 113 false, FG 121 1 120 113 false, VG 122 121 113 false, OC 123 (.len false
 (TT 122)) 113 false, OC 124 (.bin .neq (TT 116) (TT 123)) 113 false, OA 125 (.pick (TT 113) (.const (.bool true)) (TT 124)), MM 126 125, FG 127 0 14 126 false, VG 128 127 126 false, OC 129 (.len false (TT 128)) 126 false, FG 130
 1 14 126 false, VG 131 130 126 false, OC 132 (.len false (TT 131)) 126 false, OC 133 (.bin .neq (TT 129) (TT 132)) 126 false, OA 134 (.pick (TT 126) (.const (.bool true)) (TT 133))]) (.cond (TT 134) (.seq (.reg [OA 4 (.mv
 (.const (.bool false)))]) .ret) .skip)) (.seq (.reg [FF 135 1 14, VV 136 135, OA 137 (.len false (TT 136)), OA 138 (.mv (II 0))]) (.block 6 (.loop (.seq (.reg [OA 139 (.bin .lss (TT 138) (TT 137))]) (.seq (.cond (TT 139) .skip
 (.exit 6)) (.seq (.block 7 (.seq (.reg [MM 140 138, OA 141 (.p9 3 (TT 136) (TT 138)), LL 142 3 141, OA 16 (.alloc 28 [.bool false, .string ⟨#[]⟩, .string ⟨#[]⟩]), MM 15 140, OB (.store 3 (TT 16) (TT 142))]) (.seq (.F4 [.q,
 .q, .q, .q, .q, .q, .q, .q, .q, .q, .q, .q, .q, .q, .q, .q, .q, .q, .q, .q, .q, .q, .q, .q, .q, .q, .q, .q, .q, .q, .q, .q, .q, .q, .q, .q, .q, .q, .q, .q, .q, .q, .q, .q] [LL 143 3 16, OA 144 (.call 30 [TT 143]), FF 145 1 6, VV
 146 145, MM 147 13, OA 148 (.p9 4 (TT 146) (TT 147)), FF 149 1 148, VV 150 149, MM 151 15, OA 152 (.p9 3 (TT 150) (TT 151)), LL 153 3 152, OA 154 (.call 30 [TT 153]), OA 155 (.call 29 [TT 144, TT 154]), OA 156 (.bin .gtr
 (TT 155) (II 0)), MM 157 156, FG 158 1 6 157 false, VG 159 158 157 false, MG 160 13 157 false, OC 161 (.p9 4 (TT 159) (TT 160)) 157 false, FG 162 1 161 157 false, VG 163 162 157 false, MG 164 15 157 false, OC 165 (.p9 3
 (TT 163) (TT 164)) 157 false, LG 166 3 165 157 false, OC 167 (.call 31 [TT 166]) 157 false, OC 168 (.bin .eql (TT 167) (II 0)) 157 false, MG 169 168 157 false, FG 170 0 14 169 true, VG 171 170 169 true, MG 172 15 169 true, OC
 173 (.p9 3 (TT 171) (TT 172)) 169 true, LG 174 3 173 169 true, FG 175 1 6 169 true, VG 176 175 169 true, MG 177 13 169 true, OC 178 (.p9 4 (TT 176) (TT 177)) 169 true, FG 179 0 178 169 true, VG 180 179 169 true, MG 181 15
 169 true, OC 182 (.p9 3 (TT 180) (TT 181)) 169 true, LG 183 3 182 169 true, OC 184 (.aeq true [.b, .s, .s] (TT 174) (TT 183)) 169 true, OC 185 (.pick (TT 169) (TT 184) (.const (.bool false))) 157 false, OA 186 (.pick (TT 157)
 (.const (.bool true)) (TT 185))]) (.cond (TT 186) (.seq (.reg [OA 4 (.mv (.const (.bool false)))]) .ret) .skip)))) (.reg [OA 187 (.bin .add (TT 138) (II 1)), MM 138 187])))))))))) (.reg [OA 188 (.bin .add (TT 106) (II 1)), MM
 106 188]))))))) (.seq (.seq (.reg [LL 189 8 5, LL 190 5 11, OA 191 (.call 32 [TT 189, TT 190]), OA 192 (.bin .neq (TT 191) (II 0))]) (.cond (TT 192) (.seq (.reg [OA 4 (.mv (.const (.bool true)))]) .ret) .skip)) (.reg [LL 193 5
 11, OB (.store 5 (TT 6) (TT 193))]))))))) (.reg [OA 194 (.bin .add (TT 60) (II 1)), MM 60 194]))))))) (.seq (.reg [OA 4 (.mv (.const (.bool true)))]) .ret))))))))⟩
theorem a4c : J2 eff Tryz.prog Tryz.f4 = some a1s := by kernel_rfl
theorem a4b : Tryz.prog.funcs[4]? = some Tryz.f4 := Tryz.func4
set_option maxHeartbeats 32000000
theorem b2H (l to : List Int) (hn : to.length <= 1048576) : FZ 4 [A8 l, A8 to] (.v (.bool true)) := by
 refine kW a4b a4c (by rfl) fun w' O hw => ?_
 have hk := b1A l
 obtain ⟨ha, hs⟩ := a7H l
 have hwb := b2P l
 have hbg := b8F l
 have hC0 := b4I hwb hk ha hs
 have hrest := b5v (w := J5 l)
 generalize K7 (J5 l) = s at *
 generalize J5 l = w at *
 have hB := b7G (to := to) hC0 hrest
 have hwi := b1K w s to 0 hC0.b2o (by decide) hn
 have hst := b4d w s (U9 (w.arms.zip s.arms) to w.arms.length) (List.replicate w.arms.length true) hwb (b2p hC0 (by decide)) (b3W hC0.b2o (by decide)) (by rw [List.length_replicate]; exact hwb.arms.1)
 unfold a7g at hst
 rw [if_pos hB.step] at hst
 have hC1 := hB.next
 have hok := O9 hC0.st
 have hbig := hok.big.2.1
 have hok1 := O9 hC1.st
 have hal1 := hok1.arms
 clear hB hrest hk ha hs
 have hwis := fun (s : Stt) (k : Nat) (h : Calm w s k) (hk : k <= 10) => b1K w s to k h.b2o hk hn
 have hsts := fun (s : Stt) (k : Nat) (h : Calm w s k) (hk : k <= 10) => b4d w s (U9 (w.arms.zip s.arms) to w.arms.length) (List.replicate w.arms.length false) hwb (b2p h hk) (b3W h.b2o hk) (by rw [List.length_replicate]; exact hwb.arms.1)
 have hcks := fun (s : Stt) (k : Nat) (h : Calm w s k) (hk : k <= 10) => a8e w (Y1 w s (U9 (w.arms.zip s.arms) to w.arms.length) (List.replicate w.arms.length false) []) (hwb.mono (by decide)) ((b6X h hk (a1e _ _ _)).mono (by decide))
 have hbf := fun (s : Stt) (k : Nat) (h : Calm w s k) (hk : k <= 10) => b3e (u := U9 (w.arms.zip s.arms) to w.arms.length) h hk (a1e _ _ _)
 have hnx := fun (s : Stt) (k : Nat) (h : Calm w s k) (hk : k <= 10) => b0y (p := List.replicate w.arms.length false) h (a1e (w.arms.zip s.arms) to w.arms.length) List.length_replicate (fun l _ r _ hp => by simp at hp) hk
 have hEs := fun (s : Stt) (k : Nat) (h : Calm w s k) (hk : k <= 10) => b6V (u := U9 (w.arms.zip s.arms) to w.arms.length) (p := List.replicate w.arms.length false) h hk (a1e _ _ _) List.length_replicate
 unfold a7g at hsts
 generalize Y1 w s (U9 (w.arms.zip s.arms) to w.arms.length) (List.replicate w.arms.length true) [] = S1 at *
 generalize U9 (w.arms.zip s.arms) to w.arms.length = U0 at *
 have hcC : ∀ k s, Calm w s k -> True := fun _ _ _ => trivial
 generalize hw0 : w = w0 at hwis hsts hcks hbf hnx hEs hC1 hcC
 obtain ⟨arms, walls, parts, slots, gates, walk⟩ := w
 obtain ⟨tick, sarms, sparts, people, sgates⟩ := s
 obtain ⟨tick1, sarms1, sparts1, people1, sgates1⟩ := S1
 simp only at hbig hal1
 simp only [a1s, j6, TT, II, OA, OB, OC, MM, LL, VV, FF, MG, LG, VG, FG]
 simp only [Wk.c, Wk.enc, Stt.c, Stt.enc, ams, wls, pts, sls, gts, J9, frs, vts, bls, wss, A8, rc, sb, ints] at hbg hwi hst ⊢
 (repeat first | refine uA ?_ | (refine uK ?_ ?_; focus first | omega | (intros; simp_all <;> omega)) | simp (disch := omega) only [go_sem, Nat.reduceBEq, Nat.reduceAdd, ww] | (refine uD hbg ?_ ?_ ?_; exact tz hw; exact rfl))
 refine S.cond rfl (fun hc => by simp at hc) (fun hc => ?_)
 (repeat first | refine uA ?_ | (refine uK ?_ ?_; focus first | omega | (intros; simp_all <;> omega)) | simp (disch := omega) only [go_sem, Nat.reduceBEq, Nat.reduceAdd, ww, c1o])
 refine S.loop (X := Nat) (fun i => ⟨[(1, A8 to), (5, .bp 0 0), (6, .bp 1 0), (8, .rv 2), (30, ints arms.length), (31, ints i)], [.box 30 [ams arms, wls walls, pts parts, sls slots, gts gates, .v (.bool walk.neg), sb walk.num, sb walk.den], .box 47 [ints tick, J9 sarms, frs sparts, vts people, bls sgates], .row 4 1 ((a0T arms.length i).map fun b => [.v (.bool b)])]⟩) (fun i => i <= arms.length) (fun i => arms.length - i) 0 (c1u _) (by simp only [b6E, List.map_replicate]; exact (by (repeat first | refine uA ?_ | (refine ⟨?_, ?_⟩; focus first | rfl | simp [slot]) | rfl | simp))) ?_
 intro i hi
 simp only [ams, wls, pts, sls, gts, J9, frs, vts, bls, A8, sb, ints]
 have hfl := b7K hi
 (repeat first | refine uA ?_ | (refine uK ?_ ?_; focus first | omega | (intros; simp_all <;> omega)) | simp (disch := omega) only [go_sem, Nat.reduceBEq, Nat.reduceAdd, ww, c1o, hfl])
 (refine uJ rfl (fun hc => ?_) fun hc => ?_)
 ·have hi' : i < arms.length := by omega
  have hg := b7B hi'
  have hset : ((a0T arms.length i).map fun b => [C.v (.bool b)]).set i [.v (.bool true)] = (a0T arms.length (i + 1)).map fun b => [C.v (.bool b)] := by rw [<- b8d hi', List.map_set]
  (repeat first | refine uA ?_ | (refine uK ?_ ?_; focus first | omega | (intros; simp_all <;> omega)) | simp (disch := omega) only [go_sem, Nat.reduceBEq, Nat.reduceAdd, ww, hg, hset, c1p, c1o, hfl, c1x])
  refine S.next (i + 1) (by omega) (by omega) (by (repeat first | refine uA ?_ | (refine ⟨?_, ?_⟩; focus first | rfl | simp [slot]) | rfl | simp))
 have hi' : i = arms.length := by omega
 subst hi'
 rw [b7r]
 refine S.exit rfl ?_
 refine S.weaken (st' := ⟨[(1, A8 to), (5, .bp 0 0), (6, .bp 1 0), (8, .sl 1 ((List.replicate arms.length true).map fun b => [.v (.bool b)]))], [.box 30 [ams arms, wls walls, pts parts, sls slots, gts gates, .v (.bool walk.neg), sb walk.num, sb walk.den], .box 47 [ints tick, J9 sarms, frs sparts, vts people, bls sgates]]⟩) (Ent.mk _ _ (by (repeat' (first | exact V4.nil | exact Imp.junk | exact Imp.refl rfl | exact Imp.frz rfl rfl rfl | exact Imp.eq (by simp [slot]; done) rfl | refine V4.cons ?_ ?_))) (by (repeat' (first | exact L8.nil | exact RI.gone _ | exact RI.row _ _ _ _ rfl | exact RI.map _ _ _ rfl | exact RI.box _ _ _ (p8.refl rfl) | (refine RI.box _ _ _ ?_; (repeat' (first | exact p8.nil | exact Imp.refl rfl | exact Imp.frz rfl rfl rfl | exact Imp.P5 | refine p8.cons ?_ ?_))) | refine L8.cons ?_ ?_))) (c1u _)) ?_
 simp only [ams, wls, pts, sls, gts, J9, frs, vts, bls, A8, sb, ints]
 (repeat first | refine uA ?_ | (refine uK ?_ ?_; focus first | omega | (intros; simp_all <;> omega)) | simp (disch := omega) only [go_sem, Nat.reduceBEq, Nat.reduceAdd, ww, c1o] | (refine uD hwi ?_ ?_ ?_; exact tz hw; exact rfl) | (refine uD hst ?_ ?_ ?_; exact tz hw; exact rfl))
 refine S.cond rfl (fun hc => by simp [hal1] at hc) (fun hc => ?_)
 (repeat first | refine uA ?_ | (refine uK ?_ ?_; focus first | omega | (intros; simp_all <;> omega)) | simp (disch := omega) only [go_sem, Nat.reduceBEq, Nat.reduceAdd, ww])
 refine S.loop (X := Nat × Stt) (fun x => ⟨[(1, A8 to), (5, .bp 0 0), (6, .bp 1 0), (60, ints x.1)], [.box 30 [ams arms, wls walls, pts parts, sls slots, gts gates, .v (.bool walk.neg), sb walk.num, sb walk.den], .box 47 x.2.enc]⟩) (fun x => x.1 <= 6 /\ Calm w0 x.2 (x.1 + 1)) (fun x => 6 - x.1) (0, ⟨tick1, sarms1, sparts1, people1, sgates1⟩) ⟨c1u 6, hC1⟩ (by simp only [Stt.enc, J9, frs, vts, bls, ints]; exact (by (repeat first | refine uA ?_ | (refine ⟨?_, ?_⟩; focus first | rfl | simp [slot]) | rfl | simp))) ?_
 clear hbg hwi hst hC1 hC0 hok hok1 hcC
 rintro ⟨i, s⟩ ⟨hi, hC⟩
 simp only at hi hC ⊢
 have hi10 : i + 1 <= 10 := by omega
 have hwi := hwis s (i + 1) hC hi10
 have hst := hsts s (i + 1) hC hi10
 rw [if_pos (hEs s (i + 1) hC hi10)] at hst
 have hck := hcks s (i + 1) hC hi10
 have hbf := hbf s (i + 1) hC hi10
 have hnx := hnx s (i + 1) hC hi10
 have hok := O9 hC.st
 have hal := hok.arms
 have hpl := hok.parts
 have hpb := hok.big
 have htk := hC.tick
 clear hwis hsts hcks hEs hC hok
 generalize Y1 w0 s (U9 (w0.arms.zip s.arms) to w0.arms.length) (List.replicate w0.arms.length false) [] = X at *
 generalize U9 (w0.arms.zip s.arms) to w0.arms.length = U at *
 generalize hE : N9 w0 X = E at *
 clear hE
 subst hw0
 obtain ⟨tick, sarms, sparts, people, sgates⟩ := s
 obtain ⟨xt, xa, xp, xpe, xg⟩ := X
 obtain ⟨f1, f2, f3, f4⟩ := hbf
 simp only at f1 f2 f3 f4 hal hpl hpb htk
 subst f2 f3
 have heq := c0c xp xp (by omega) (by omega)
 rw [decide_eq_true rfl] at heq
 simp only [Wk.c, Wk.enc, Stt.c, Stt.enc, ams, wls, pts, sls, gts, J9, frs, vts, bls, wss, A8, rc, sb, ints, List.map_replicate] at hwi hst hck heq ⊢
 (repeat first | refine uA ?_ | (refine uK ?_ ?_; focus first | omega | (intros; simp_all <;> omega)) | simp (disch := omega) only [go_sem, Nat.reduceBEq, Nat.reduceAdd, ww])
 (refine uJ rfl (fun hc => ?_) fun hc => ?_)
 ·(repeat first | refine uA ?_ | (refine uK ?_ ?_; focus first | omega | (intros; simp_all <;> omega)) | simp (disch := omega) only [go_sem, Nat.reduceBEq, Nat.reduceAdd, ww, c1o, c1x, c1F, c2b] | (refine uD hwi ?_ ?_ ?_; exact tz hw; exact rfl) | (refine uD hst ?_ ?_ ?_; exact tz hw; exact rfl))
  refine S.cond rfl (fun hc => by simp at hc) (fun hc => ?_)
  (repeat first | refine uA ?_ | (refine uK ?_ ?_; focus first | omega | (intros; simp_all <;> omega)) | simp (disch := omega) only [go_sem, Nat.reduceBEq, Nat.reduceAdd, ww, c1o, f1] | (refine uB heq ?_ ?_; exact rfl))
  refine S.cond rfl (fun hc => by simp at hc) (fun hc => ?_)
  (repeat first | refine uA ?_ | (refine uK ?_ ?_; focus first | omega | (intros; simp_all <;> omega)) | simp (disch := omega) only [go_sem, Nat.reduceBEq, Nat.reduceAdd, ww, c1o])
  refine S.loop (X := Nat) (fun n => ⟨[(1, A8 to), (5, .bp 0 0), (6, .bp 1 0), (11, .bp 2 0), (60, ints i), (104, J9 xa), (105, ints xa.length), (106, ints n)], [.box 30 [ams arms, wls walls, pts parts, sls slots, gts gates, .v (.bool walk.neg), sb walk.num, sb walk.den], .box 47 [ints tick, J9 sarms, frs xp, vts people, bls sgates], .box 47 [ints (tick + 1), J9 xa, frs xp, vts xpe, bls xg]]⟩) (fun n => n <= xa.length) (fun n => xa.length - n) 0 (c1u _) (by (repeat first | refine uA ?_ | (refine ⟨?_, ?_⟩; focus first | rfl | simp [slot]) | rfl | simp)) ?_
  intro n hn'
  simp only [ams, wls, pts, sls, gts, J9, frs, vts, bls, A8, sb, ints]
  (repeat first | refine uA ?_ | (refine uK ?_ ?_; focus first | omega | (intros; simp_all <;> omega)) | simp (disch := omega) only [go_sem, Nat.reduceBEq, Nat.reduceAdd, ww])
  (refine uJ rfl (fun hc => ?_) fun hc => ?_)
  ·have hn2 : n < xa.length := by omega
   have gy := c1n hn2
   obtain ⟨b, gb, fa⟩ := f4 n _ gy
   generalize xa[n] = y at *
   obtain ⟨hp, hvl, hql, hsm, hj⟩ := fa
   have kb := (c1r.1 gb).1
   obtain ⟨yq, yv, yp, yh⟩ := y
   simp only at hp hvl hql hsm hj
   subst hp
   (repeat first | refine uA ?_ | (refine uK ?_ ?_; focus first | omega | (intros; simp_all <;> omega)) | simp (disch := omega) only [go_sem, Nat.reduceBEq, Nat.reduceAdd, ww, gy, gb, c1p, c1o, Ast.enc, rts, ints, hvl, hql, c1x])
   refine S.cond rfl (fun hc => by simp at hc) (fun hc => ?_)
   (repeat first | refine uA ?_ | (refine uK ?_ ?_; focus first | omega | (intros; simp_all <;> omega)) | simp (disch := omega) only [go_sem, Nat.reduceBEq, Nat.reduceAdd, ww, c1o])
   refine S.loop (X := Nat) (fun m => ⟨[(1, A8 to), (5, .bp 0 0), (6, .bp 1 0), (11, .bp 2 0), (60, ints i), (13, ints n), (14, .bp 3 0), (104, J9 xa), (105, ints xa.length), (106, ints n), (136, rts yv), (137, ints yv.length), (138, ints m)], [.box 30 [ams arms, wls walls, pts parts, sls slots, gts gates, .v (.bool walk.neg), sb walk.num, sb walk.den], .box 47 [ints tick, J9 sarms, frs xp, vts people, bls sgates], .box 47 [ints (tick + 1), J9 xa, frs xp, vts xpe, bls xg], .box 81 [rts yq, rts yv, .v (.bool false), ints yh]]⟩) (fun m => m <= yv.length) (fun m => yv.length - m) 0 (c1u _) (by first | exact (by (repeat first | refine uA ?_ | (refine ⟨?_, ?_⟩; focus first | rfl | simp [slot]) | rfl | simp)) | (simp only [hvl]; exact (by (repeat first | refine uA ?_ | (refine ⟨?_, ?_⟩; focus first | rfl | simp [slot]) | rfl | simp)))) ?_
   intro m hm
   simp only [ams, wls, pts, sls, gts, J9, frs, vts, bls, A8, sb, ints, rts]
   (repeat first | refine uA ?_ | (refine uK ?_ ?_; focus first | omega | (intros; simp_all <;> omega)) | simp (disch := omega) only [go_sem, Nat.reduceBEq, Nat.reduceAdd, ww])
   (refine uJ rfl (fun hc => ?_) fun hc => ?_)
   ·have hm2 : m < yv.length := by omega
    have gv := c1n hm2
    obtain ⟨bv, q, bq, e1, e2, e3, c1, c2, r1, r2⟩ := (hj m _ gv).ex
    generalize yv[m] = v at *
    have k1 := (c1r.1 e1).1
    have k2 := (c1r.1 e2).1
    have k3 := (c1r.1 e3).1
    have o1 := a5z v (r2.mono (by decide))
    have o2 := a5z bv (r1.mono (by decide))
    have o3 := X5 (Nm.ofQ (G7 (Nm.d9 v))) (Nm.ofQ (G7 (Nm.d9 bv))) ((a3W (r2.fit (by decide))).mono (by decide)) ((a3W (r1.fit (by decide))).mono (by decide))
    rw [Nm.E8, Nm.E8] at o3
    have o4 := Z4 bv (r1.mono (by decide))
    unfold rq at o1 o2
    generalize Nm.C8 (G7 (Nm.d9 v)) (G7 (Nm.d9 bv)) = cg at *
    generalize Nm.ofQ (G7 (Nm.d9 v)) = z1 at *
    generalize Nm.ofQ (G7 (Nm.d9 bv)) = z2 at *
    generalize F3 (Nm.d9 bv) = sg at *
    simp only [rc, sb, ints] at o1 o2 o3 o4
    have g1 : decide (0 < cg) = false := decide_eq_false c1
    by_cases hsg : sg = 0
    ·have hq := c2 hsg
     subst hq
     subst hsg
     (repeat first | refine uA ?_ | (refine uK ?_ ?_; focus first | omega | (intros; simp_all <;> omega)) | simp (disch := omega) only [go_sem, Nat.reduceBEq, Nat.reduceAdd, ww, gv, gb, e1, e2, e3, g1, c1p, c1o, Ast.enc, rcs, rts, sb, ints, c1x] | (refine uD o1 ?_ ?_ ?_; exact tz hw; exact rfl) | (refine uD o2 ?_ ?_ ?_; exact tz hw; exact rfl) | (refine uD o3 ?_ ?_ ?_; exact tz hw; exact rfl) | (refine uD o4 ?_ ?_ ?_; exact tz hw; exact rfl))
     refine S.cond rfl (fun hc => by simp at hc) (fun hc => ?_)
     (repeat first | refine uA ?_ | (refine uK ?_ ?_; focus first | omega | (intros; simp_all <;> omega)) | simp (disch := omega) only [go_sem, Nat.reduceBEq, Nat.reduceAdd, ww])
     refine S.next (m + 1) (by omega) (by omega) (by (repeat first | refine uA ?_ | (refine ⟨?_, ?_⟩; focus first | rfl | simp [slot]) | rfl | simp))
    ·have g2 : decide (sg = 0) = false := decide_eq_false hsg
     (repeat first | refine uA ?_ | (refine uK ?_ ?_; focus first | omega | (intros; simp_all <;> omega)) | simp (disch := omega) only [go_sem, Nat.reduceBEq, Nat.reduceAdd, ww, gv, gb, e1, e2, e3, g1, g2, c1p, c1o, Ast.enc, rcs, rts, sb, ints, c1x] | (refine uD o1 ?_ ?_ ?_; exact tz hw; exact rfl) | (refine uD o2 ?_ ?_ ?_; exact tz hw; exact rfl) | (refine uD o3 ?_ ?_ ?_; exact tz hw; exact rfl) | (refine uD o4 ?_ ?_ ?_; exact tz hw; exact rfl))
     refine S.cond rfl (fun hc => by simp at hc) (fun hc => ?_)
     (repeat first | refine uA ?_ | (refine uK ?_ ?_; focus first | omega | (intros; simp_all <;> omega)) | simp (disch := omega) only [go_sem, Nat.reduceBEq, Nat.reduceAdd, ww])
     refine S.next (m + 1) (by omega) (by omega) (by (repeat first | refine uA ?_ | (refine ⟨?_, ?_⟩; focus first | rfl | simp [slot]) | rfl | simp))
   ·(repeat first | refine uA ?_ | (refine uK ?_ ?_; focus first | omega | (intros; simp_all <;> omega)) | simp (disch := omega) only [go_sem, Nat.reduceBEq, Nat.reduceAdd, ww])
    refine S.next (n + 1) (by omega) (by omega) (by (repeat first | refine uA ?_ | (refine ⟨?_, ?_⟩; focus first | rfl | simp [slot]) | rfl | simp))
  ·(repeat first | refine uA ?_ | (refine uK ?_ ?_; focus first | omega | (intros; simp_all <;> omega)) | simp (disch := omega) only [go_sem, Nat.reduceBEq, Nat.reduceAdd, ww] | (refine uD hck ?_ ?_ ?_; exact tz hw; exact rfl))
   by_cases h0 : E = 0
   ·subst h0
    refine S.cond rfl (fun hc => by simp at hc) (fun hc => ?_)
    (repeat first | refine uA ?_ | (refine uK ?_ ?_; focus first | omega | (intros; simp_all <;> omega)) | simp (disch := omega) only [go_sem, Nat.reduceBEq, Nat.reduceAdd, ww])
    refine S.next (x := (i, ⟨tick, sarms, xp, people, sgates⟩)) (i + 1, ⟨tick + 1, xa, xp, xpe, xg⟩) ⟨by simp only; omega, hnx rfl⟩ (by simp only; omega) (by simp only [Stt.enc, J9, frs, vts, bls, ints]; exact (by (repeat first | refine uA ?_ | (refine ⟨?_, ?_⟩; focus first | rfl | simp [slot]) | rfl | simp)))
   ·refine S.cond rfl (fun hc => ?_) (fun hc => by simp at hc; exact absurd hc h0)
    (repeat first | refine uA ?_ | (refine uK ?_ ?_; focus first | omega | (intros; simp_all <;> omega)) | simp (disch := omega) only [go_sem, Nat.reduceBEq, Nat.reduceAdd, ww])
    exact S.done (j3.out rfl (Imp.refl rfl) rfl)
 ·(repeat first | refine uA ?_ | (refine uK ?_ ?_; focus first | omega | (intros; simp_all <;> omega)) | simp (disch := omega) only [go_sem, Nat.reduceBEq, Nat.reduceAdd, ww])
  exact S.done (j3.out rfl (Imp.refl rfl) rfl)
set_option maxRecDepth 10000
theorem a9H (os : Os) (args : Array Value) : laidMet Tryz.prog Rows.moveBrakesUptoRow.laid ((laidWorld os).forCall (fun _ _ => 0) ⟨#[], args, []⟩).memory :=
 laidMet_of_run' 8 (by kernel_rfl) (by kernel_rfl)
theorem a5V (H : Type) (enc : TypeId × Value -> H) (W : World) (base : Nat) (args : Array Value) (ds gs : List (DataW H)) (before : List MemPlace)
  (hval : ∀ (j : Nat) t v, Tryz.f4.params[j]? = some t -> args[j]? = some v -> Value.okWide Tryz.prog W .any base t v)
  (hW : DataW.Whole enc Tryz.prog Tryz.f4.params.toList Rows.moveBrakesSpec.vars false W args.toList ds gs before) (hk : Rows.uptoSmall H (ds ++ gs) = true) (hL : laidMetH Tryz.prog Rows.moveBrakesUptoRow.laid W) (hS : W.ShapedOpen Tryz.prog) :
  Calls Tryz.prog 4 args W fun e W' => ∃ v, e = .returned v /\ Rows.moveBrakesSpec.post enc Tryz.prog Tryz.f4 false true false false W args v W' := by
 have hW' := hW
 obtain ⟨p, q, hA0, hV, rfl, hfz, hnd⟩ := hW
 have hA : DataW.TrodAll enc Tryz.prog W 0 (fun _ => true) true Tryz.f4.params.toList args.toList ds p := hA0
 rw [Tryz.params4] at hA hval
 obtain ⟨v0, vs0, d0, ds0, p0, q0, hargs, rfl, rfl, h0, r0⟩ := trodAll_cons hA
 obtain ⟨v1, vs1, d1, ds1, p1, q1, rfl, rfl, rfl, h1, r1⟩ := trodAll_cons r0
 obtain ⟨rfl, rfl, rfl⟩ := trodAll_nil r1
 obtain rfl : args = #[v0, v1] := by cases args; simp_all
 obtain ⟨rfl, rfl⟩ := trodVars_none hV
 have hb := b7s hk
 obtain ⟨A0, n0, c0, rfl⟩ := okWide_slice Tryz.underlying71 (hval 0 71 v0 rfl rfl)
 obtain ⟨m0, h0⟩ := h0
 obtain ⟨raw, e0, _, k0, b0⟩ := b6b _ _ _ h0
 have b0 : 1 + raw.length <= Rows.uptoBulk d0 := b0
 have e0 : FzL W noB [A8 raw] [.slice A0 n0 c0] := e0
 simp only [FzL] at e0
 obtain ⟨y0, ys0, f0, g0, rfl⟩ := e0
 injection f0 with f0 _
 subst f0
 obtain ⟨A1, n1, c1, rfl⟩ := okWide_slice Tryz.underlying71 (hval 1 71 v1 rfl rfl)
 obtain ⟨m1, h1⟩ := h1
 obtain ⟨to, e1, _, k1, b1⟩ := b6b _ _ _ h1
 have b1 : 1 + to.length <= Rows.uptoBulk d1 := b1
 have e1 : FzL W noB [A8 to] [.slice A1 n1 c1] := e1
 simp only [FzL] at e1
 obtain ⟨y1, ys1, f1, g1, rfl⟩ := e1
 injection f1 with f1 _
 subst f1
 simp only [List.append_nil, List.cons_append, List.nil_append, Rows.uptoBulkAll] at hb
 have hF : FzL W noB [A8 raw, A8 to] [.slice A0 n0 c0, .slice A1 n1 c1] := by
  simp only [FzL]
  exact ⟨_, _, rfl, g0, ⟨_, _, rfl, g1, rfl⟩⟩
 refine (b2H raw to (by omega) noB W _ (c0Z hL) (fun _ h => h.elim) hF).mono fun e W' ⟨y, he, hbl, hy⟩ => ?_
 subst he
 simp only [Fz] at hy
 subst hy
 refine ⟨_, rfl, b8i b7q (by
  intro t ht
  rw [Tryz.params4] at ht
  simp only [List.mem_cons, List.not_mem_nil, or_false] at ht
  rcases ht with rfl | rfl
  ·exact ⟨by kernel_rfl, of_decide_eq_true (by kernel_rfl)⟩
  ·exact ⟨by kernel_rfl, of_decide_eq_true (by kernel_rfl)⟩) (tb := 4) rfl Tryz.underlying4 rfl rfl hW' hbl⟩
theorem a7O (os : Os) {H : Type} (enc : TypeId × Value -> H) : ∃ places, DataW.whole enc Tryz.prog ((laidWorld os).forCall (fun _ _ => 0) ⟨#[], #[.slice none 0 0, .slice none 0 0], []⟩).memory Tryz.f4.params.toList Rows.moveBrakesSpec.vars false (#[.slice none 0 0, .slice none 0 0] : Array Value).toList 8 = some ([.nil, .nil], [], places) :=
 ⟨[], by kernel_rfl⟩
set_option maxRecDepth 100000 in
theorem a7k (os : Os) (started : os.Started) (H : Type) (enc : TypeId × Value -> H) (F : Stop.Interp) :
  ReturnsInHanded {} Tryz.checked os 4 .any ((Rows.OpenSpec.upto Rows.moveBrakesSpec).preRow enc Tryz.prog Tryz.f4 Rows.moveBrakesUptoRow.domain false Rows.moveBrakesUptoRow.laid) (((Rows.OpenSpec.upto Rows.moveBrakesSpec).at F).post enc Tryz.prog Tryz.f4 false true false false) := by
 obtain ⟨places, hx⟩ := a7O os enc
 refine returnsInHanded_of_row (C := Tryz.checked) (s := Rows.OpenSpec.upto Rows.moveBrakesSpec) b7F started (by kernel_rfl) Tryz.func4
  (witness_row_at (enc := enc) (C := Tryz.checked) false (laidWorld os) #[.slice none 0 0, .slice none 0 0] rfl (by kernel_rfl) (by kernel_rfl) (by kernel_rfl)
   (OpenSpec.preRow_of_cond 8 hx (by kernel_rfl) (fun k hk => by cases hk; kernel_rfl) (by kernel_rfl) (a9H os _))) ?_
 intro W base args ds gs before hval hW _ hcond _ hL hS _
 exact a5V H enc W base args ds gs before hval hW (hcond _ rfl) hL hS
theorem c1j {a b : Bool} (h : a = true) (k : b = true) : (a && b) = true := by rw [h, k]; rfl
set_option maxHeartbeats 40000000 in
theorem a7m : joinedFacts Tryz.pinned.checked.prog 4 Tryz.f4 (Rows.OpenSpec.upto Rows.moveBrakesSpec).bare Rows.moveBrakesUptoRow = true := by
 unfold joinedFacts
 repeat' (with_reducible refine c1j ?_ ?_)
 all_goals (as_aux_lemma => kernel_rfl)
end Go.Proofs.YtpjjiegfigpgnaaGreatDoor
