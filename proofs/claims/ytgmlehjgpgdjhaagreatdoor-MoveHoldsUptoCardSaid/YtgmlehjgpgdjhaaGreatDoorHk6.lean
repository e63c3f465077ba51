/- A part of the proof: lemmas only, with the conditions that each names. -/
import Derived.Test.YtgmlehjgpgdjhaaGreatDoorProg
import Derived.KernelRfl
import Derived.Laws.Bits64b
import Derived.Test.YtgmlehjgpgdjhaaGreatDoorRows
import Derived.Carry
import Derived.ChangeArms
import Derived.ChangeSame
import Derived.Deep.Slices
import Derived.WalkKit
import Derived.ProofKit
import Derived.OpenShut
import Derived.JoinedCond
import Derived.Test.YtgmlehjgpgdjhaaGreatDoorCards
import Derived.Test.YtgmlehjgpgdjhaaGreatDoorTie
import Derived.Deep.DeepHandedRow
import Derived.Deep.DeepWitnessRowRef
import Derived.Lib.LaidTab
import Derived.LaidMore
import Derived.Test.YtgmlehjgpgdjhaaGreatDoorHk5
set_option linter.all false
namespace Go.Proofs.YtgmlehjgpgdjhaaGreatDoor
open Go Go.RowKit Eng
set_option maxRecDepth 100000
set_option maxHeartbeats 16000000
theorem b8X {E : Ctx} (hP : E.P = Tryz.prog) (ht0 : Tz E) (w : Wk) (hwb : Wb 1073741824 w) (h : a0d w = 0) :
  j5 E [] 24 [w.c] (.tup [.agg [ints 0, .rv 3, .rv 4, .v (.slice none 0 0), .rv 5], ints 0]) [.gone, .gone, .gone, .row 61 4 ((G9 w).arms.map Ast.enc), .row 48 10 ((G9 w).parts.map Fr.enc), .row 4 1 ((G9 w).gates.map fun b => [.v (.bool b)])] [] := by
 obtain ⟨P, eff', N, w0, own0, av0, nu0, pk0⟩ := E
 simp only at hP
 subst hP
 refine j5.ofT (eff := eff) ht0 a9P a9A (by exact c2a rfl) fun w' own av ν hν ht => ?_
 have hν0 : ν.length <= 0 := by rw [hν]; exact c1T _
 have hck := a8f w hwb
 rw [h] at hck
 obtain ⟨n1, b1⟩ := hwb.arms
 have n3 := hwb.parts.1
 have n4 := hwb.slots.1
 have n5 := hwb.gates.1
 have hz := b1n
 have hfz := b4p
 have hpe : ∀ i, a6h w i = if h : i < w.slots.length then (w.slots[i]).frame else a0W := fun _ => rfl
 unfold G9
 generalize hfp : a6h w = fP at *
 obtain ⟨arms, walls, parts, slots, gates, walk⟩ := w
 simp only at n1 b1 n3 n4 n5 hpe ⊢
 simp only [a5l, l6, TT, II, OA, OB, OC, MM, LL, VV, FF, MG, LG, VG, FG]
 simp only [Wk.c, Wk.enc, Stt.c, Stt.enc, ams, wls, pts, sls, gts, L8, frs, vts, bls, rc, sb, ints] at hck ⊢
 (repeat first | refine uA ?_ | (refine uK ?_ ?_; focus first | omega | (intros; simp_all <;> omega)) | simp (disch := omega) only [go_sem, Nat.reduceBEq, Nat.reduceAdd, ww] | (refine uD hck ?_ ?_ ?_; exact ht; exact rfl))
 refine S.cond rfl (fun hc => by simp at hc) (fun hc => ?_)
 (repeat first | refine uA ?_ | (refine uK ?_ ?_; focus first | omega | (intros; simp_all <;> omega)) | simp (disch := omega) only [go_sem, Nat.reduceBEq, Nat.reduceAdd, ww, c1J])
 refine S.loop (X := Nat) (fun i => ⟨[(1, .bp 0 0), (2, .bp 1 0), (5, .bp 2 0), (20, ams arms), (21, ints arms.length), (22, ints i)], [.box 31 [ams arms, wls walls, pts parts, sls slots, gts gates, .v (.bool walk.neg), sb walk.num, sb walk.den], .box 37 [.v (.int .i64 0), .v (.slice none 0 0), .v (.slice none 0 0), .v (.slice none 0 0), .v (.slice none 0 0)], .box 37 [.v (.int .i64 0), .rv 3, .rv 4, .v (.slice none 0 0), .v (.slice none 0 0)], .row 61 4 (((arms.take i).map Q6).map Ast.enc), .row 48 10 []]⟩) (fun i => i <= arms.length) (fun i => arms.length - i) 0 (c1Q _)
  (Ent.trans (Ent.a1M 2 1 61 4 rfl rfl rfl) (Ent.trans (Ent.a1M 2 2 48 10 rfl rfl rfl) (by (repeat first | refine uA ?_ | (refine ⟨?_, ?_⟩; focus first | rfl | simp [slot]) | rfl | simp | exact c1M hν0 (by simp))))) ?_
 intro i hi
 simp only [ams, wls, pts, sls, gts, vts, sb, ints]
 (repeat first | refine uA ?_ | (refine uK ?_ ?_; focus first | omega | (intros; simp_all <;> omega)) | simp (disch := omega) only [go_sem, Nat.reduceBEq, Nat.reduceAdd, ww])
 (refine uJ rfl (fun hc => ?_) fun hc => ?_)
 ·have hi' : i < arms.length := by omega
  have hgi := c1I hi'
  have hap : arms.take (i + 1) = arms.take i ++ [arms[i]] := c2A hi'
  have htl : (arms.take i).length = i := by rw [c1V]; omega
  generalize arms[i] = a at hgi hap
  obtain ⟨b0, _, nl, bl⟩ := b1 a (c1L hgi)
  (repeat first | refine uA ?_ | (refine uK ?_ ?_; focus first | omega | (intros; simp_all <;> omega)) | simp (disch := omega) only [go_sem, Nat.reduceBEq, Nat.reduceAdd, ww, hgi, c1K, c1J, Am.enc, lks, sb])
  refine S.loop (X := Nat) (fun k => ⟨[(1, .bp 0 0), (2, .bp 1 0), (5, .bp 2 0), (8, .bp 6 0), (20, ams arms), (21, ints arms.length), (22, ints i), (28, lks a.links), (29, ints a.links.length), (30, ints k)], [.box 31 [ams arms, wls walls, pts parts, sls slots, gts gates, .v (.bool walk.neg), sb walk.num, sb walk.den], .box 37 [.v (.int .i64 0), .v (.slice none 0 0), .v (.slice none 0 0), .v (.slice none 0 0), .v (.slice none 0 0)], .box 37 [.v (.int .i64 0), .rv 3, .rv 4, .v (.slice none 0 0), .v (.slice none 0 0)], .row 61 4 (((arms.take i).map Q6).map Ast.enc), .row 48 10 [], .gone, .box 61 [.rv 7, .rv 8, .v (.bool false), .v (.int .i64 (-1))], .row 29 3 (((a.links.take k).map a0v).map rcs), .row 29 3 (((a.links.take k).map fun _ => Nm.ofQ 0).map rcs)]⟩) (fun k => k <= a.links.length) (fun k => a.links.length - k) 0 (c1Q _)
   (Ent.trans (Ent.a1M 6 0 29 3 rfl rfl rfl) (Ent.trans (Ent.a1M 6 1 29 3 rfl rfl rfl) (by (repeat first | refine uA ?_ | (refine ⟨?_, ?_⟩; focus first | rfl | simp [slot]) | rfl | simp | exact c1M hν0 (by simp))))) ?_
  intro k hk
  simp only [ams, wls, pts, sls, gts, lks, vts, sb, ints]
  (repeat first | refine uA ?_ | (refine uK ?_ ?_; focus first | omega | (intros; simp_all <;> omega)) | simp (disch := omega) only [go_sem, Nat.reduceBEq, Nat.reduceAdd, ww])
  (refine uJ rfl (fun hc => ?_) fun hc => ?_)
  ·have hk' : k < a.links.length := by omega
   have hgk := c1I hk'
   have hak : a.links.take (k + 1) = a.links.take k ++ [a.links[k]] := c2A hk'
   have htk : (a.links.take k).length = k := by rw [c1V]; omega
   generalize a.links[k] = l at hgk hak
   obtain ⟨_, l2, l3, _⟩ := bl l (c1L hgk)
   have z1 := H6
   have z2 := l3.fit (by decide)
   have o1 := b2x l.high (Nm.ofQ 0) (l3.mono (by decide)) (H6.mono (by decide))
   rw [Nm.D7] at o1
   have z3 : Rb 1073741824 (Nm.ofQ (a0k (Nm.d9 l.high) 0)) := by unfold a0k; split; exact z2; exact z1.mono (by decide)
   have o2 := b5H l.low (Nm.ofQ (a0k (Nm.d9 l.high) 0)) (l2.mono (by decide)) (z3.mono (by decide))
   rw [Nm.D7] at o2
   have hq : a0v l = Nm.ofQ (a1D (Nm.d9 l.low) (a0k (Nm.d9 l.high) 0)) := rfl
   unfold rq at o1 o2 hz
   generalize Nm.ofQ (a1D (Nm.d9 l.low) (a0k (Nm.d9 l.high) 0)) = r2 at *
   generalize Nm.ofQ (a0k (Nm.d9 l.high) 0) = r1 at *
   generalize Nm.ofQ 0 = r0 at *
   simp only [rc, sb] at o1 o2 hz
   (repeat first | refine uA ?_ | (refine uK ?_ ?_; focus first | omega | (intros; simp_all <;> omega)) | simp (disch := omega) only [go_sem, Nat.reduceBEq, Nat.reduceAdd, ww, hgk, c1K, c1J, htk, Lk.enc, vts, sb] | (refine uD hz ?_ ?_ ?_; exact ht; exact rfl) | (refine uD o1 ?_ ?_ ?_; exact ht; exact rfl) | (refine uD o2 ?_ ?_ ?_; exact ht; exact rfl))
   refine S.next (k + 1) (by omega) (by omega) (by simp only [hak, hq, c2z, c2b, c2w, rcs, sb]; exact (by (repeat first | refine uA ?_ | (refine ⟨?_, ?_⟩; focus first | rfl | simp [slot]) | rfl | simp | exact c1M hν0 (by simp))))
  ·have hk' : k = a.links.length := by omega
   subst hk'
   rw [c2i]
   refine S.exit rfl ?_
   refine S.weaken (st' := ⟨[(1, .bp 0 0), (2, .bp 1 0), (5, .bp 2 0), (8, .bp 6 0), (20, ams arms), (21, ints arms.length), (22, ints i)], [.box 31 [ams arms, wls walls, pts parts, sls slots, gts gates, .v (.bool walk.neg), sb walk.num, sb walk.den], .box 37 [.v (.int .i64 0), .v (.slice none 0 0), .v (.slice none 0 0), .v (.slice none 0 0), .v (.slice none 0 0)], .box 37 [.v (.int .i64 0), .rv 3, .rv 4, .v (.slice none 0 0), .v (.slice none 0 0)], .row 61 4 (((arms.take i).map Q6).map Ast.enc), .row 48 10 [], .gone, .box 61 (Q6 a).enc]⟩) (Ent.mk _ _ (by (repeat' (first | exact U7.nil | exact Imp.junk | exact Imp.refl rfl | exact Imp.eq (by simp [slot]; done) rfl | refine U7.cons ?_ ?_))) (by (repeat' (first | exact J7.nil | exact RI.gone _ | exact RI.row _ _ _ _ rfl | exact RI.map _ _ _ rfl | exact RI.box _ _ _ (l7.refl rfl) | (refine RI.box _ _ _ ?_; (repeat' (first | exact l7.nil | exact Imp.refl rfl | exact Imp.frz rfl rfl rfl | exact Imp.I9 | refine l7.cons ?_ ?_))) | refine J7.cons ?_ ?_))) (c1M hν0 (by simp))) ?_
   simp only [ams, wls, pts, sls, gts, vts, sb, ints, Ast.enc, rts]
   (repeat first | refine uA ?_ | (refine uK ?_ ?_; focus first | omega | (intros; simp_all <;> omega)) | simp (disch := omega) only [go_sem, Nat.reduceBEq, Nat.reduceAdd, ww, c1J, htl])
   refine S.next (i + 1) (by omega) (by omega) (by simp only [hap, c2z, c2b, c2w, Ast.enc, rts, ints]; exact (by (repeat first | refine uA ?_ | (refine ⟨?_, ?_⟩; focus first | rfl | simp [slot]) | rfl | simp | exact c1M hν0 (by simp))))
 ·have hi' : i = arms.length := by omega
  subst hi'
  rw [c2i]
  (repeat first | refine uA ?_ | (refine uK ?_ ?_; focus first | omega | (intros; simp_all <;> omega)) | simp (disch := omega) only [go_sem, Nat.reduceBEq, Nat.reduceAdd, ww, c1J])
  refine S.loop (X := Nat) (fun i => ⟨[(1, .bp 0 0), (2, .bp 1 0), (5, .bp 2 0), (62, ints parts.length), (63, ints i)], [.box 31 [ams arms, wls walls, pts parts, sls slots, gts gates, .v (.bool walk.neg), sb walk.num, sb walk.den], .box 37 [.v (.int .i64 0), .v (.slice none 0 0), .v (.slice none 0 0), .v (.slice none 0 0), .v (.slice none 0 0)], .box 37 [.v (.int .i64 0), .rv 3, .rv 4, .v (.slice none 0 0), .v (.slice none 0 0)], .row 61 4 ((arms.map Q6).map Ast.enc), .row 48 10 (((List.range i).map fP).map Fr.enc)]⟩) (fun i => i <= parts.length) (fun i => parts.length - i) 0 (c1Q _) (by (repeat first | refine uA ?_ | (refine ⟨?_, ?_⟩; focus first | rfl | simp [slot]) | rfl | simp | exact c1M hν0 (by simp))) ?_
  intro i hi
  simp only [ams, wls, pts, sls, gts, vts, sb, ints]
  (repeat first | refine uA ?_ | (refine uK ?_ ?_; focus first | omega | (intros; simp_all <;> omega)) | simp (disch := omega) only [go_sem, Nat.reduceBEq, Nat.reduceAdd, ww])
  (refine uJ rfl (fun hc => ?_) fun hc => ?_)
  ·have hrl : ((List.range i).map fP).length = i := by simp
   simp only [a0W, Fr.c, Fr.enc, sb] at hfz
   (repeat first | refine uA ?_ | (refine uK ?_ ?_; focus first | omega | (intros; simp_all <;> omega)) | simp (disch := omega) only [go_sem, Nat.reduceBEq, Nat.reduceAdd, ww] | (refine uD hfz ?_ ?_ ?_; exact ht; exact rfl))
   refine S.join (Y := Fr) (fun f => ⟨[(1, .bp 0 0), (2, .bp 1 0), (5, .bp 2 0), (12, .bp 5 0), (62, ints parts.length), (63, ints i)], [.box 31 [ams arms, wls walls, pts parts, sls slots, gts gates, .v (.bool walk.neg), sb walk.num, sb walk.den], .box 37 [.v (.int .i64 0), .v (.slice none 0 0), .v (.slice none 0 0), .v (.slice none 0 0), .v (.slice none 0 0)], .box 37 [.v (.int .i64 0), .rv 3, .rv 4, .v (.slice none 0 0), .v (.slice none 0 0)], .row 61 4 ((arms.map Q6).map Ast.enc), .row 48 10 (((List.range i).map fP).map Fr.enc), .box 48 f.enc]⟩) (fun f => f = fP i) ?_ ?_
   ·refine S.cond rfl (fun hc => ?_) (fun hc => ?_)
    ·have hsi : i < slots.length := by simp at hc; omega
     have hgs := c1I hsi
     have hf : fP i = (slots[i]).frame := by rw [hpe i, dif_pos hsi]
     generalize slots[i] = s at hgs hf
     (repeat first | refine uA ?_ | (refine uK ?_ ?_; focus first | omega | (intros; simp_all <;> omega)) | simp (disch := omega) only [go_sem, Nat.reduceBEq, Nat.reduceAdd, ww, hgs, c1K, c1J, Sl.enc, sb, c1R])
     exact S.met s.frame hf.symm (by simp only [ams, wls, pts, sls, gts, vts, sb, ints, Fr.enc]; exact (by (repeat first | refine uA ?_ | (refine ⟨?_, ?_⟩; focus first | rfl | simp [slot]) | rfl | simp | exact c1M hν0 (by simp))))
    ·have hf : fP i = a0W := by rw [hpe i, dif_neg (by simp at hc; omega)]
     (repeat first | refine uA ?_ | (refine uK ?_ ?_; focus first | omega | (intros; simp_all <;> omega)) | simp (disch := omega) only [go_sem, Nat.reduceBEq, Nat.reduceAdd, ww])
     exact S.met a0W hf.symm (by simp only [ams, wls, pts, sls, gts, vts, sb, ints, Fr.enc, a0W]; exact (by (repeat first | refine uA ?_ | (refine ⟨?_, ?_⟩; focus first | rfl | simp [slot]) | rfl | simp | exact c1M hν0 (by simp))))
   rintro f hf
   simp only [ams, wls, pts, sls, gts, vts, sb, ints, Fr.enc]
   (repeat first | refine uA ?_ | (refine uK ?_ ?_; focus first | omega | (intros; simp_all <;> omega)) | simp (disch := omega) only [go_sem, Nat.reduceBEq, Nat.reduceAdd, ww, c1J, hrl, List.length_range])
   refine S.next (i + 1) (by omega) (by omega) (by simp only [List.range_succ, c2z, c2b, c2w, <- hf, Fr.enc, sb]; exact (by (repeat first | refine uA ?_ | (refine ⟨?_, ?_⟩; focus first | rfl | simp [slot]) | rfl | simp | exact c1M hν0 (by simp))))
  ·have hi' : i = parts.length := by omega
   subst hi'
   simp only [List.map_replicate]
   (repeat first | refine uA ?_ | (refine uK ?_ ?_; focus first | omega | (intros; simp_all <;> omega)) | simp (disch := omega) only [go_sem, Nat.reduceBEq, Nat.reduceAdd, ww, c1J, c1R])
   (refine S.done ?_; simp only [q8, l9, go_sem, Nat.reduceBEq, Nat.reduceAdd, Nat.reduceLeDiff, Int.reduceToNat, Int.reducePow]; (repeat (refine ⟨?_, ?_⟩; focus first | trivial | omega | simp)); exact j3.N9 (Imp.tup (by (repeat' (first | exact l7.nil | exact Imp.refl rfl | exact Imp.frz rfl rfl rfl | exact Imp.I9 | refine Imp.agg ?_ | refine l7.cons ?_ ?_)))) (by (repeat first | refine uA ?_ | (refine ⟨?_, ?_⟩; focus first | rfl | simp [slot]) | rfl | simp)) (c1M hν0 (by simp)))
set_option maxRecDepth 10000
set_option maxHeartbeats 8000000
def a6r (l : List UInt8) (i : Nat) (out : List UInt8) : Prop :=
 out.length = l.length /\ ∀ k, k < l.length -> out[k]? = if k < i \/ l.length - i <= k then l[l.length - 1 - k]? else l[k]?
theorem b3w (l : List UInt8) : a6r l 0 l := ⟨rfl, fun k hk => by rw [if_neg (by omega)]⟩
theorem b3E {l out : List UInt8} {i : Nat} {x y : UInt8} (h : a6r l i out) (hi : i + 1 < l.length - i) (hx : out[i]? = some x) (hy : out[l.length - 1 - i]? = some y) : a6r l (i + 1) ((out.set i y).set (l.length - 1 - i) x) := by
 obtain ⟨h1, h2⟩ := h
 have e1 := h2 i (by omega)
 have e2 := h2 (l.length - 1 - i) (by omega)
 rw [if_neg (by omega), hx] at e1
 rw [if_neg (by omega), hy] at e2
 refine ⟨by simp [h1], fun k hk => ?_⟩
 by_cases k1 : k = l.length - 1 - i
 ·subst k1
  rw [List.getElem?_set_self (by simp; omega), if_pos (by omega), e1]
  congr 1
  omega
 ·rw [List.getElem?_set_ne (fun e => k1 e.symm)]
  by_cases k2 : k = i
  ·subst k2
   rw [List.getElem?_set_self (by omega), if_pos (by omega), e2]
  ·rw [List.getElem?_set_ne (fun e => k2 e.symm), h2 k hk]
   by_cases k3 : k < i \/ l.length - i <= k
   ·rw [if_pos k3, if_pos (by omega)]
   ·rw [if_neg k3, if_neg (by omega)]
theorem b4Z {l out : List UInt8} {i : Nat} (h : a6r l i out) (hi : l.length - i <= i + 1) : out = l.reverse := by
 obtain ⟨h1, h2⟩ := h
 apply List.ext_getElem?
 intro k
 rcases c2o k l.length with hk | hk
 ·rw [h2 k hk, List.getElem?_reverse hk]
  by_cases k3 : k < i \/ l.length - i <= k
  ·rw [if_pos k3]
  ·rw [if_neg k3, show l.length - 1 - k = k by omega]
 ·rw [c2u (by omega), c2u (by simp; omega)]
theorem c1k {E : Ctx} (hP : E.P = Tryz.prog) (l : List UInt8) (hl : l.length <= 1099511627776) : j5 E [.row 5 1 (l.map F6)] 145 [.rv 0] (.tup []) [.row 5 1 (l.reverse.map F6)] [] := by
 obtain ⟨P, eff', N, w0, own0, av0, nu0, pk0⟩ := E
 simp only at hP
 subst hP
 refine j5.of (eff := eff) Tryz.func145 (by cbv) (by exact c2a rfl) fun w own av ν hν => ?_
 have hν0 : ν.length <= 1 := by rw [hν]; exact c1T _
 simp only [l6]
 (repeat first | refine uA ?_ | (refine uK ?_ ?_; focus first | omega | (intros; simp_all <;> omega)) | simp (disch := omega) only [go_sem, Nat.reduceBEq, Nat.reduceAdd, ww, c1J])
 refine S.loop (X := Nat × List UInt8) (fun x => ⟨[(0, .rv 0), (2, ints x.1), (3, ints ((l.length : Int) - 1 - (x.1 : Int)))], [.row 5 1 (x.2.map F6)]⟩) (fun x => x.1 <= l.length /\ a6r l x.1 x.2) (fun x => l.length - x.1) (0, l) ⟨c1Q _, b3w l⟩ (by simp only [Int.natCast_zero, Int.sub_zero]; exact (by (repeat first | refine uA ?_ | (refine ⟨?_, ?_⟩; focus first | rfl | simp [slot]) | rfl | simp | exact c1M hν0 (by simp)))) ?_
 rintro ⟨i, out⟩ ⟨hi, hinv⟩
 simp only [ints] at hi hinv ⊢
 have hol := hinv.1
 (repeat first | refine uA ?_ | (refine uK ?_ ?_; focus first | omega | (intros; simp_all <;> omega)) | simp (disch := omega) only [go_sem, Nat.reduceBEq, Nat.reduceAdd, ww])
 (refine uJ rfl (fun hc => ?_) fun hc => ?_)
 ·have gi : out[i]? = some (out[i]'(by omega)) := c1I (by omega)
  have gj : out[l.length - 1 - i]? = some (out[l.length - 1 - i]'(by omega)) := c1I (by omega)
  have hst := b3E hinv (by omega) gi gj
  have hsk : l.length - 1 - i ≠ i := by omega
  generalize out[i]'_ = xi at *
  generalize out[l.length - 1 - i]'_ = xj at *
  have gj2 : (out.set i xj)[l.length - 1 - i]? = some xj := by rw [List.getElem?_set_ne (Ne.symm hsk)]; exact gj
  have n0 : ((l.length : Int) - 1 - (i : Int)).toNat = l.length - 1 - i := by omega
  have e1 : (out.map F6).set i [.v (.int .u8 ((xj.toNat : Nat) : Int))] = (out.set i xj).map F6 := a3f out i xj
  have e2 : ((out.set i xj).map F6).set (l.length - 1 - i) [.v (.int .u8 ((xi.toNat : Nat) : Int))] = ((out.set i xj).set (l.length - 1 - i) xi).map F6 := a3f _ _ _
  have hr : (l.length : Int) - 1 - ((i + 1 : Nat) : Int) = (l.length : Int) - 1 - (i : Int) - 1 := by omega
  (repeat first | refine uA ?_ | (refine uK ?_ ?_; focus first | omega | (intros; simp_all <;> omega)) | simp (disch := omega) only [go_sem, Nat.reduceBEq, Nat.reduceAdd, ww, c1J, gi, gj, gj2, n0, e1, e2, F6, c1K, c1R, c2l])
  refine S.next (x := (i, out)) (i + 1, _) ⟨by simp only; omega, hst⟩ (by simp only; omega) (by simp only [hr]; exact (by (repeat first | refine uA ?_ | (refine ⟨?_, ?_⟩; focus first | rfl | simp [slot]) | rfl | simp | exact c1M hν0 (by simp))))
 ·have := b4Z hinv (by omega)
  subst this
  (repeat first | refine uA ?_ | (refine uK ?_ ?_; focus first | omega | (intros; simp_all <;> omega)) | simp (disch := omega) only [go_sem, Nat.reduceBEq, Nat.reduceAdd, ww])
  exact S.end_ (j3.own rfl)
theorem b1v (n : Nat) (hn : n < 4611686018427387904) : F7 Tryz.prog 131 [.v (.int .i64 (n : Int))] (sb (Nm.enc n)) := by
  refine kS Tryz.func131 (by cbv) (by rfl) fun w O => ?_
  have h8 : (Nm.enc n).length <= 8 := Nm.E8 (by omega)
  simp only [l6, sb]
  (repeat first | refine uA ?_ | (refine uK ?_ ?_; focus first | omega | (intros; simp_all <;> omega)) | simp (disch := omega) only [go_sem, Nat.reduceBEq, Nat.reduceAdd, ww])
  refine S.loop (X := Nat × List UInt8) (fun x => ⟨[(0, ints x.1), (3, .rv 0)], [.row 5 1 (x.2.map F6)]⟩) (fun x => x.1 <= n /\ Nm.enc x.1 ++ x.2.reverse = Nm.enc n) (fun x => x.1) (n, []) ⟨c1T _, by simp⟩ (Ent.trans (Ent.pack 3 5 1 rfl) (by (repeat first | refine uA ?_ | (refine ⟨?_, ?_⟩; focus first | rfl | simp [slot]) | rfl | simp))) ?_
  rintro ⟨m, out⟩ ⟨hm, hinv⟩
  simp only [ints] at hm hinv ⊢
  have hol : out.length <= 8 := by
    have := congrArg List.length hinv
    simp only [c1Y, List.length_reverse] at this
    omega
  (repeat first | refine uA ?_ | (refine uK ?_ ?_; focus first | omega | (intros; simp_all <;> omega)) | simp (disch := omega) only [go_sem, Nat.reduceBEq, Nat.reduceAdd, ww])
  (refine uJ rfl (fun hc => ?_) fun hc => ?_)
  · have he : Nm.enc m = Nm.enc (m / 256) ++ [UInt8.ofNat (m % 256)] := by
      conv => lhs; unfold Nm.enc
      rw [if_neg (by omega)]
    have hb : (UInt8.ofNat (m % 256)).toNat = m % 256 := by simp
    have h1 : IntKind.u8.wrap (Int.tmod (m : Int) 256) = (((UInt8.ofNat (m % 256)).toNat : Nat) : Int) := by
      rw [hb, show Int.tmod (m : Int) 256 = ((m % 256 : Nat) : Int) from rfl, a1H]
      omega
    have h2 : Int.tdiv (m : Int) 256 = ((m / 256 : Nat) : Int) := rfl
    have hap : Nm.enc (m / 256) ++ (out ++ [UInt8.ofNat (m % 256)]).reverse = Nm.enc n := by
      rw [List.reverse_append, <- hinv, he]
      simp
    generalize UInt8.ofNat (m % 256) = b at *
    (repeat first | refine uA ?_ | (refine uK ?_ ?_; focus first | omega | (intros; simp_all <;> omega)) | simp (disch := omega) only [go_sem, Nat.reduceBEq, Nat.reduceAdd, ww, c1J, h1, h2])
    refine S.next (x := (m, out)) (m / 256, out ++ [b]) ⟨by simp only; omega, hap⟩ (by simp only; omega) (by simp only [c2z, c2b, c2w, F6]; exact (by (repeat first | refine uA ?_ | (refine ⟨?_, ?_⟩; focus first | rfl | simp [slot]) | rfl | simp)))
  · have h0 : m = 0 := by omega
    subst h0
    rw [Nm.a1k, List.nil_append] at hinv
    have hr := fun (E : Ctx) (hP : E.P = Tryz.prog) => c1k hP out (by omega)
    rw [hinv] at hr
    (repeat first | refine uA ?_ | (refine uK ?_ ?_; focus first | omega | (intros; simp_all <;> omega)) | simp (disch := omega) only [go_sem, Nat.reduceBEq, Nat.reduceAdd, ww, V3, a3t] | refine l8.t (j5.lift (k := 0) rfl (hr _ rfl) rfl rfl rfl) ?_)
    exact S.done (j3.out rfl (Imp.refl rfl) rfl)
theorem b7H (a b : Nat) (h : 0 < b) : Nat.gcd b (a % b) = Nat.gcd a b := by
 rw [Nat.gcd_comm b, <- Nat.gcd_rec, Nat.gcd_comm]
theorem a1n (n d : Int) (hn : -1099511627776 <= n /\ n <= 1099511627776) (hd : 1 <= d /\ d <= 1099511627776) : F7 Tryz.prog 85 [ints n, ints d] (rc (Q n d)) := by
 refine kS Tryz.func85 (by cbv) (by rfl) fun w O => ?_
 obtain ⟨m, rfl⟩ : ∃ m : Nat, d = m := ⟨d.toNat, by omega⟩
 have hq : Q n m = Nm.ofQ (mkRat (Nm.sgn (decide (n < 0)) n.natAbs) m) := by
  unfold Q
  have : Nm.sgn (decide (n < 0)) n.natAbs = n := by unfold Nm.sgn; by_cases h : n < 0 <;> simp [h] <;> omega
  rw [this, c1R]
 rw [hq, <- Nm.a9r _ (by omega)]
 have hmx : (if n < -n then -n else n) = ((n.natAbs : Nat) : Int) := by split <;> omega
 have hwn : IntKind.i64.wrap (0 - n) = -n := by rw [Eng.wrap_i64 (by omega)]; omega
 have hgp : 0 < Nat.gcd n.natAbs m := Nat.gcd_pos_of_pos_right _ (by omega)
 simp only [l6, ints]
 (repeat first | refine uA ?_ | (refine uK ?_ ?_; focus first | omega | (intros; simp_all <;> omega)) | simp (disch := omega) only [go_sem, Nat.reduceBEq, Nat.reduceAdd, ww, hwn, hmx])
 refine S.loop (X := Nat × Nat) (fun x => ⟨[(0, ints n), (1, ints m), (4, .bp 0 0), (5, ints x.1), (6, ints x.2)], [.box 29 [.v (.bool false), .v (.string ⟨#[]⟩), .v (.string ⟨#[]⟩)]]⟩) (fun x => Nat.gcd x.1 x.2 = Nat.gcd n.natAbs m /\ x.1 <= 1099511627776 /\ x.2 <= 1099511627776) (fun x => x.2) (n.natAbs, m) ⟨rfl, by omega, by omega⟩ (by (repeat first | refine uA ?_ | (refine ⟨?_, ?_⟩; focus first | rfl | simp [slot]) | rfl | simp)) ?_
 rintro ⟨a, b⟩ ⟨hg, ha, hb⟩
 simp only [ints] at hg ha hb ⊢
 (repeat first | refine uA ?_ | (refine uK ?_ ?_; focus first | omega | (intros; simp_all <;> omega)) | simp (disch := omega) only [go_sem, Nat.reduceBEq, Nat.reduceAdd, ww])
 (refine uJ rfl (fun hc => ?_) fun hc => ?_)
 ·have h1 : Int.tmod (a : Int) (b : Int) = ((a % b : Nat) : Int) := rfl
  have hlt : a % b < b := Nat.mod_lt _ (by omega)
  have hb0 : ¬ ((b : Int) = 0) := by omega
  (repeat first | refine uA ?_ | (refine uK ?_ ?_; focus first | omega | (intros; simp_all <;> omega)) | simp (disch := omega) only [go_sem, Nat.reduceBEq, Nat.reduceAdd, ww, h1, hb0])
  refine S.next (x := (a, b)) (b, a % b) ⟨by simp only; rw [b7H a b (by omega)]; exact hg, by simp only; omega, by simp only; omega⟩ (by simp only; omega) (by (repeat first | refine uA ?_ | (refine ⟨?_, ?_⟩; focus first | rfl | simp [slot]) | rfl | simp))
 ·have hb0 : b = 0 := by omega
  subst hb0
  rw [Nat.gcd_zero_right] at hg
  subst hg
  have ha0 : ¬ (((Nat.gcd n.natAbs m : Nat) : Int) = 0) := by omega
  generalize hgg : Nat.gcd n.natAbs m = g at *
  have hdvn : g ∣ n.natAbs := by rw [<- hgg]; exact Nat.gcd_dvd_left ..
  have e2 : Int.tdiv (m : Int) (g : Int) = ((m / g : Nat) : Int) := rfl
  obtain ⟨k, hk⟩ := hdvn
  have hkq : n.natAbs / g = k := by rw [hk]; exact Nat.mul_div_cancel_left _ hgp
  have e1 : Int.tdiv n (g : Int) = Nm.sgn (decide (n < 0)) k := by
   have h3 : (n : Int) = (g : Int) * Nm.sgn (decide (n < 0)) k := by
    have h4 : ((n.natAbs : Nat) : Int) = (g : Int) * (k : Int) := by rw [hk]; simp
    unfold Nm.sgn
    by_cases h : n < 0
    ·simp only [h, decide_true, if_true, Int.mul_neg]; omega
    ·simp only [h, decide_false, c2m, if_false]; omega
   rw [show Int.tdiv n (g : Int) = Int.tdiv ((g : Int) * Nm.sgn (decide (n < 0)) k) (g : Int) from congrArg (fun z => Int.tdiv z (g : Int)) h3]
   exact Int.mul_tdiv_cancel_left _ (by omega)
  have hkb : k <= 1099511627776 := by
   have : k <= g * k := Nat.le_mul_of_pos_left k hgp
   omega
  have hmb : m / g <= m := Nat.div_le_self _ _
  have hs : -1099511627776 <= Nm.sgn (decide (n < 0)) k /\ Nm.sgn (decide (n < 0)) k <= 1099511627776 := by unfold Nm.sgn; split <;> omega
  have hneg : decide (Nm.sgn (decide (n < 0)) k < 0) = (decide (n < 0) && !decide (k = 0)) := by
   unfold Nm.sgn
   by_cases h : n < 0
   ·by_cases h0 : k = 0
    ·subst h0; simp [h]
    ·simp [h, h0]; try omega
   ·simp [h]; try omega
  have hab : (if Nm.sgn (decide (n < 0)) k < -(Nm.sgn (decide (n < 0)) k) then -(Nm.sgn (decide (n < 0)) k) else Nm.sgn (decide (n < 0)) k) = ((k : Nat) : Int) := by unfold Nm.sgn; split <;> split <;> omega
  have hws : IntKind.i64.wrap (0 - Nm.sgn (decide (n < 0)) k) = -(Nm.sgn (decide (n < 0)) k) := by rw [Eng.wrap_i64 (by omega)]; omega
  have hwm : IntKind.i64.wrap ((m / g : Nat) : Int) = ((m / g : Nat) : Int) := by
   generalize m / g = z at *
   exact Eng.wrap_i64 (by omega)
  have d1 := b1v k (by omega)
  have d2 := b1v (m / g) (by omega)
  have hres : (if n.natAbs = 0 then Nm.a2X else ⟨decide (n < 0), Nm.enc (n.natAbs / g), Nm.enc (m / g)⟩ : Nm.Rt) = ⟨decide (n < 0) && !decide (k = 0), Nm.enc k, Nm.enc (m / g)⟩ := by
   rw [hkq]
   by_cases h0 : n.natAbs = 0
   ·have hn0 : n = 0 := by omega
    subst hn0
    have hk0 : k = 0 := by
     rcases c2f k with h | h
     ·exact h
     ·have := Nat.mul_pos hgp h; omega
    have hgm : g = m := by rw [<- hgg]; simp
    subst hk0
    have h1 : m / g = 1 := by rw [hgm]; exact Nat.div_self (by omega)
    rw [h1, Nm.a2d, Nm.a1k]
    rfl
   ·have hk0 : k ≠ 0 := by intro h; subst h; omega
    rw [if_neg h0]
    simp [hk0]
  rw [hres]
  rw [<- hneg]
  simp only [rc, sb] at d1 d2 ⊢
  generalize Nm.sgn (decide (n < 0)) k = s at *
  (repeat first | refine uA ?_ | (refine uK ?_ ?_; focus first | omega | (intros; simp_all <;> omega)) | simp (disch := omega) only [go_sem, Nat.reduceBEq, Nat.reduceAdd, ww, ha0, e1, e2, hws, hab, hwm] | (refine uB d1 ?_ ?_; exact rfl) | (refine uB d2 ?_ ?_; exact rfl))
  (refine S.done ?_; simp only [q8, l9, go_sem, Nat.reduceBEq, Nat.reduceAdd, Nat.reduceLeDiff, Int.reduceToNat, Int.reducePow]; (repeat (refine ⟨?_, ?_⟩; focus first | trivial | omega | simp)); exact j3.out rfl (Imp.refl rfl) rfl)
theorem R9 (x y : Int) (hx : -1000000 <= x /\ x <= 1000000) (hy : -1000000 <= y /\ y <= 1000000) : F7 Tryz.prog 84 [ints x, ints y] (atV x y).c := by
 refine kS Tryz.func84 (by cbv) (by rfl) fun w O => ?_
 have h1 := a1n x 4 (by omega) (by omega)
 have h2 := a1n y 4 (by omega) (by omega)
 unfold atV
 generalize Q x 4 = qx at *
 generalize Q y 4 = qy at *
 simp only [l6]
 simp only [rc, sb, ints, Vt.c, Vt.enc] at *
 (repeat first | refine uA ?_ | (refine uK ?_ ?_; focus first | omega | (intros; simp_all <;> omega)) | simp (disch := omega) only [go_sem, Nat.reduceBEq, Nat.reduceAdd, ww] | (refine uB h1 ?_ ?_; exact rfl) | (refine uB h2 ?_ ?_; exact rfl))
 (refine S.done ?_; simp only [q8, l9, go_sem, Nat.reduceBEq, Nat.reduceAdd, Nat.reduceLeDiff, Int.reduceToNat, Int.reducePow]; (repeat (refine ⟨?_, ?_⟩; focus first | trivial | omega | simp)); exact j3.out rfl (Imp.refl rfl) rfl)
theorem b6C (x y u v : Int) (hx : -100000 <= x /\ x <= 100000) (hy : -100000 <= y /\ y <= 100000) (hu : -100000 <= u /\ u <= 100000) (hv : -100000 <= v /\ v <= 100000) : F7 Tryz.prog 82 [ints x, ints y, ints u, ints v] (vts (a4w x y u v)) := by
 refine kS Tryz.func82 (by cbv) (by rfl) fun w O => ?_
 have h1 := R9 x y (by omega) (by omega)
 have h2 := R9 u y (by omega) (by omega)
 have h3 := R9 u v (by omega) (by omega)
 have h4 := R9 x v (by omega) (by omega)
 unfold a4w
 generalize atV x y = p1 at *
 generalize atV u y = p2 at *
 generalize atV u v = p3 at *
 generalize atV x v = p4 at *
 simp only [l6]
 simp only [vts, Vt.c, Vt.enc, sb, ints] at *
 (repeat first | refine uA ?_ | (refine uK ?_ ?_; focus first | omega | (intros; simp_all <;> omega)) | simp (disch := omega) only [go_sem, Nat.reduceBEq, Nat.reduceAdd, ww] | (refine uB h1 ?_ ?_; exact rfl) | (refine uB h2 ?_ ?_; exact rfl) | (refine uB h3 ?_ ?_; exact rfl) | (refine uB h4 ?_ ?_; exact rfl))
 exact S.done (j3.out rfl (Imp.frz rfl rfl rfl) rfl)
theorem b7q (l : List Int) : a1v l = if nx (l.drop 2) 4 = 1 then (a1o (1 + nx l 6) (1 + nx (l.drop 1) 6) 1 (nx (l.drop 3) (2 * (1 + nx l 6) + 1)), l.drop 4) else (a1o (1 + nx l 6) (1 + nx (l.drop 1) 6) (nx (l.drop 2) 4) 0, l.drop 3) := by
 unfold a1v
 by_cases h : nx (l.drop 2) 4 = 1
 ·simp only [h, if_true]
 ·simp only [if_neg h]
theorem c0z {E : Ctx} (hP : E.P = Tryz.prog) (l : List Int) :
  j5 E [.box 145 [A8 l]] 83 [.bp 0 0] (vts (a1v l).1) [.box 145 [A8 (a1v l).2]] [] := by
 obtain ⟨P, eff', N, w0, own0, av0, nu0, pk0⟩ := E
 simp only at hP
 subst hP
 refine j5.of (eff := eff) a7M a8k (by exact c2a rfl) fun w own av ν hν => ?_
 have hν0 : ν.length <= 1 := by rw [hν]; exact c1T _
 have n1 := fun (E : Ctx) (hP : E.P = Tryz.prog) => H9 hP l 6 (by decide)
 have n2 := fun (E : Ctx) (hP : E.P = Tryz.prog) => H9 hP (l.drop 1) 6 (by decide)
 have n3 := fun (E : Ctx) (hP : E.P = Tryz.prog) => H9 hP (l.drop 2) 4 (by decide)
 have b1 := p8 l (n := 6) (by decide)
 have b2 := D5 l (n := 6) (by decide)
 have b3 := p8 (l.drop 1) (n := 6) (by decide)
 have b4 := D5 (l.drop 1) (n := 6) (by decide)
 have b5 := p8 (l.drop 2) (n := 4) (by decide)
 have b6 := D5 (l.drop 2) (n := 4) (by decide)
 rw [b7q]
 generalize hw : nx l 6 = w' at *
 generalize hh : nx (l.drop 1) 6 = h' at *
 have n4 := fun (E : Ctx) (hP : E.P = Tryz.prog) => H9 hP (l.drop 3) (2 * (1 + w') + 1) (by omega)
 have b7 := p8 (l.drop 3) (n := 2 * (1 + w') + 1) (by omega)
 have b8 := D5 (l.drop 3) (n := 2 * (1 + w') + 1) (by omega)
 generalize hk : nx (l.drop 2) 4 = k at *
 generalize hs : nx (l.drop 3) (2 * (1 + w') + 1) = s at *
 rw [List.drop_drop] at n2 n3 n4
 generalize hu1 : 1 + w' = u at *
 generalize hv1 : 1 + h' = v at *
 have ru : IntKind.i64.wrap (0 - u) = -u := by rw [Eng.wrap_i64 (by omega)]; omega
 have rv : IntKind.i64.wrap (0 - v) = -v := by rw [Eng.wrap_i64 (by omega)]; omega
 simp only [a4b, l6, TT, II, OA, OB, OC, MM, LL, VV, FF, MG, LG, VG, FG]
 simp only [A8, ints] at n1 n2 n3 n4 ⊢
 (repeat first | refine uA ?_ | (refine uK ?_ ?_; focus first | omega | (intros; simp_all <;> omega)) | simp (disch := omega) only [go_sem, Nat.reduceBEq, Nat.reduceAdd, ww, hu1, hv1] | refine l8.t (j5.lift (k := 0) rfl (n1 _ rfl) rfl rfl rfl) ?_ | refine l8.t (j5.lift (k := 0) rfl (n2 _ rfl) rfl rfl rfl) ?_)
 (repeat first | refine uA ?_ | (refine uK ?_ ?_; focus first | omega | (intros; simp_all <;> omega)) | simp (disch := omega) only [go_sem, Nat.reduceBEq, Nat.reduceAdd, ww] | refine l8.t (j5.lift (k := 0) rfl (n3 _ rfl) rfl rfl rfl) ?_)
 by_cases k0 : k = 0
 ·subst k0
  rw [if_neg (by decide), show a1o u v 0 0 = [atV (-u) (-v), atV u (-v), atV u v, atV (-u) v] from rfl]
  have h1 := R9 (-u) (-v) (by omega) (by omega)
  have h2 := R9 (u) (-v) (by omega) (by omega)
  have h3 := R9 (u) (v) (by omega) (by omega)
  have h4 := R9 (-u) (v) (by omega) (by omega)
  generalize hq1 : atV (-u) (-v) = p1 at *
  generalize hq2 : atV (u) (-v) = p2 at *
  generalize hq3 : atV (u) (v) = p3 at *
  generalize hq4 : atV (-u) (v) = p4 at *
  simp only [vts, Vt.c, Vt.enc, sb, ints] at h1 h2 h3 h4 ⊢
  refine S.cond rfl (fun hc => ?_) (fun hc => by simp at hc)
  (repeat first | refine uA ?_ | (refine uK ?_ ?_; focus first | omega | (intros; simp_all <;> omega)) | simp (disch := omega) only [go_sem, Nat.reduceBEq, Nat.reduceAdd, ww, ru, rv] | (refine uB h1 ?_ ?_; exact rfl) | (refine uB h2 ?_ ?_; exact rfl) | (refine uB h3 ?_ ?_; exact rfl) | (refine uB h4 ?_ ?_; exact rfl))
  (refine S.done ?_; simp only [q8, l9, go_sem, Nat.reduceBEq, Nat.reduceAdd, Nat.reduceLeDiff, Int.reduceToNat, Int.reducePow]; (repeat (refine ⟨?_, ?_⟩; focus first | trivial | omega | simp)); exact j3.N9 (Imp.frz rfl rfl rfl) (by (repeat first | refine uA ?_ | (refine ⟨?_, ?_⟩; focus first | rfl | simp [slot]) | rfl | simp)) (c1M hν0 (by simp)))
 refine S.cond rfl (fun hc => by simp at hc; exact absurd hc k0) (fun hc => ?_)
 (repeat first | refine uA ?_ | (refine uK ?_ ?_; focus first | omega | (intros; simp_all <;> omega)) | simp (disch := omega) only [go_sem, Nat.reduceBEq, Nat.reduceAdd, ww])
 by_cases k1 : k = 1
 ·subst k1
  rw [if_pos rfl, show a1o u v 1 s = [atV (-u) (-v), atV u (-v), atV (s - u) v] from rfl]
  have h1 := R9 (-u) (-v) (by omega) (by omega)
  have h2 := R9 (u) (-v) (by omega) (by omega)
  have h3 := R9 (s - u) (v) (by omega) (by omega)
  generalize hq1 : atV (-u) (-v) = p1 at *
  generalize hq2 : atV (u) (-v) = p2 at *
  generalize hq3 : atV (s - u) (v) = p3 at *
  simp only [vts, Vt.c, Vt.enc, sb, ints] at h1 h2 h3 ⊢
  refine S.cond rfl (fun hc => ?_) (fun hc => by simp at hc)
  (repeat first | refine uA ?_ | (refine uK ?_ ?_; focus first | omega | (intros; simp_all <;> omega)) | simp (disch := omega) only [go_sem, Nat.reduceBEq, Nat.reduceAdd, ww, ru, rv] | refine l8.t (j5.lift (k := 0) rfl (n4 _ rfl) rfl rfl rfl) ?_ | (refine uB h1 ?_ ?_; exact rfl) | (refine uB h2 ?_ ?_; exact rfl) | (refine uB h3 ?_ ?_; exact rfl))
  (refine S.done ?_; simp only [q8, l9, go_sem, Nat.reduceBEq, Nat.reduceAdd, Nat.reduceLeDiff, Int.reduceToNat, Int.reducePow]; (repeat (refine ⟨?_, ?_⟩; focus first | trivial | omega | simp)); exact j3.N9 (Imp.frz rfl rfl rfl) (by (repeat first | refine uA ?_ | (refine ⟨?_, ?_⟩; focus first | rfl | simp [slot]) | rfl | simp)) (c1M hν0 (by simp)))
 rw [if_neg k1]
 refine S.cond rfl (fun hc => by simp at hc; exact absurd hc k1) (fun hc => ?_)
 (repeat first | refine uA ?_ | (refine uK ?_ ?_; focus first | omega | (intros; simp_all <;> omega)) | simp (disch := omega) only [go_sem, Nat.reduceBEq, Nat.reduceAdd, ww])
 by_cases k2 : k = 2
 ·subst k2
  rw [show a1o u v 2 0 = [atV (-u - 1) (-v - 1), atV u (-v - 1), atV (u + 1) (-v), atV (u + 1) v, atV (-u - 1) v] from rfl]
  have h1 := R9 (-u - 1) (-v - 1) (by omega) (by omega)
  have h2 := R9 (u) (-v - 1) (by omega) (by omega)
  have h3 := R9 (u + 1) (-v) (by omega) (by omega)
  have h4 := R9 (u + 1) (v) (by omega) (by omega)
  have h5 := R9 (-u - 1) (v) (by omega) (by omega)
  generalize hq1 : atV (-u - 1) (-v - 1) = p1 at *
  generalize hq2 : atV (u) (-v - 1) = p2 at *
  generalize hq3 : atV (u + 1) (-v) = p3 at *
  generalize hq4 : atV (u + 1) (v) = p4 at *
  generalize hq5 : atV (-u - 1) (v) = p5 at *
  simp only [vts, Vt.c, Vt.enc, sb, ints] at h1 h2 h3 h4 h5 ⊢
  refine S.cond rfl (fun hc => ?_) (fun hc => by simp at hc)
  (repeat first | refine uA ?_ | (refine uK ?_ ?_; focus first | omega | (intros; simp_all <;> omega)) | simp (disch := omega) only [go_sem, Nat.reduceBEq, Nat.reduceAdd, ww, ru, rv] | (refine uB h1 ?_ ?_; exact rfl) | (refine uB h2 ?_ ?_; exact rfl) | (refine uB h3 ?_ ?_; exact rfl) | (refine uB h4 ?_ ?_; exact rfl) | (refine uB h5 ?_ ?_; exact rfl))
  (refine S.done ?_; simp only [q8, l9, go_sem, Nat.reduceBEq, Nat.reduceAdd, Nat.reduceLeDiff, Int.reduceToNat, Int.reducePow]; (repeat (refine ⟨?_, ?_⟩; focus first | trivial | omega | simp)); exact j3.N9 (Imp.frz rfl rfl rfl) (by (repeat first | refine uA ?_ | (refine ⟨?_, ?_⟩; focus first | rfl | simp [slot]) | rfl | simp)) (c1M hν0 (by simp)))
 ·rw [show a1o u v k 0 = [atV (-u) 0, atV 0 (-v), atV u 0, atV 0 v] by unfold a1o; rw [if_neg k0, if_neg k1, if_neg k2]]
  have h1 := R9 (-u) (0) (by omega) (by omega)
  have h2 := R9 (0) (-v) (by omega) (by omega)
  have h3 := R9 (u) (0) (by omega) (by omega)
  have h4 := R9 (0) (v) (by omega) (by omega)
  generalize hq1 : atV (-u) (0) = p1 at *
  generalize hq2 : atV (0) (-v) = p2 at *
  generalize hq3 : atV (u) (0) = p3 at *
  generalize hq4 : atV (0) (v) = p4 at *
  simp only [vts, Vt.c, Vt.enc, sb, ints] at h1 h2 h3 h4 ⊢
  refine S.cond rfl (fun hc => by simp at hc; exact absurd hc k2) (fun hc => ?_)
  (repeat first | refine uA ?_ | (refine uK ?_ ?_; focus first | omega | (intros; simp_all <;> omega)) | simp (disch := omega) only [go_sem, Nat.reduceBEq, Nat.reduceAdd, ww, ru, rv] | (refine uB h1 ?_ ?_; exact rfl) | (refine uB h2 ?_ ?_; exact rfl) | (refine uB h3 ?_ ?_; exact rfl) | (refine uB h4 ?_ ?_; exact rfl))
  (refine S.done ?_; simp only [q8, l9, go_sem, Nat.reduceBEq, Nat.reduceAdd, Nat.reduceLeDiff, Int.reduceToNat, Int.reducePow]; (repeat (refine ⟨?_, ?_⟩; focus first | trivial | omega | simp)); exact j3.N9 (Imp.frz rfl rfl rfl) (by (repeat first | refine uA ?_ | (refine ⟨?_, ?_⟩; focus first | rfl | simp [slot]) | rfl | simp)) (c1M hν0 (by simp)))
set_option maxRecDepth 100000
set_option maxHeartbeats 16000000
theorem b7y (n : Nat) (h : n <= 3) : ([[C.v (.string ⟨#[111, 110, 101]⟩)], [C.v (.string ⟨#[116, 119, 111]⟩)], [C.v (.string ⟨#[116, 104, 114, 101, 101]⟩)], [C.v (.string ⟨#[102, 111, 117, 114]⟩)]] : List (List C))[n]? = some [C.v (.string (bs (a4d n)))] := by
 match n, h with
 | 0, _ => rfl
 | 1, _ => rfl
 | 2, _ => rfl
 | 3, _ => rfl
theorem b9g (k : Int) (h0 : 0 <= k) (h1 : k < 4) : ([[C.v (.int .i64 0)], [C.v (.int .i64 1)], [C.v (.int .i64 (-1))], [C.v (.int .i64 1)]] : List (List C))[k.toNat]? = some [C.v (.int .i64 (a2R k))] := by
 have : k = 0 \/ k = 1 \/ k = 2 \/ k = 3 := by omega
 rcases this with rfl | rfl | rfl | rfl <;> rfl
theorem b6m (k : Int) : -1 <= a2R k /\ a2R k <= 1 := by unfold a2R; split; omega; split <;> omega
theorem c1q {E : Ctx} (hP : E.P = Tryz.prog) (l : List Int) (n : Nat) (hn : n <= 3) :
  j5 E [.box 145 [A8 l]] 81 [.bp 0 0, .v (.int .i64 (n : Int))] (a9N l n).c [.box 145 [A8 (a9E l)]] [] := by
 obtain ⟨P, eff', N, w0, own0, av0, nu0, pk0⟩ := E
 simp only at hP
 subst hP
 refine j5.of (eff := eff) a9b a8B (by exact c2a rfl) fun w own av ν hν => ?_
 have hν0 : ν.length <= 1 := by rw [hν]; exact c1T _
 have hnm := b7y n hn
 have h1 := R9 (40 * (n : Int)) 0 (by omega) (by omega)
 have k1 := fun (E : Ctx) (hP : E.P = Tryz.prog) => H9 hP l 4 (by decide)
 have k2 := fun (E : Ctx) (hP : E.P = Tryz.prog) => H9 hP (l.drop 1) 3 (by decide)
 have k3 := fun (E : Ctx) (hP : E.P = Tryz.prog) => H9 hP (l.drop 2) 3 (by decide)
 have a1 := p8 l (n := 4) (by decide)
 have a2 := D5 l (n := 4) (by decide)
 have a3 := p8 (l.drop 1) (n := 3) (by decide)
 have a4 := D5 (l.drop 1) (n := 3) (by decide)
 have a5 := p8 (l.drop 2) (n := 3) (by decide)
 have a6 := D5 (l.drop 2) (n := 3) (by decide)
 have htn := b9g (nx l 4) a1 a2
 have htr := b6m (nx l 4)
 have h2 := a1n (a2R (nx l 4)) (1 + nx (l.drop 1) 3) (by omega) (by omega)
 rw [List.drop_drop] at k2 k3
 have hc : ((a3s l : Nat) : Int) = 1 + nx (l.drop 2) 3 := by unfold a3s; omega
 have hc3 : a3s l <= 3 := by omega
 have hR : a9E l = (l.drop 3).drop (6 * a3s l) := by unfold a9E; rw [List.drop_drop]
 unfold a9N
 rw [hR]
 generalize a3s l = c at *
 generalize l.drop 3 = l0 at *
 unfold atV at h1
 generalize Q (40 * (n : Int)) 4 = q1 at *
 generalize Q 0 4 = q2 at *
 generalize a2R (nx l 4) = tn at *
 generalize Q tn (1 + nx (l.drop 1) 3) = q3 at *
 generalize nx l 4 = x1 at *
 generalize nx (l.drop 1) 3 = x2 at *
 generalize nx (l.drop 2) 3 = x3 at *
 generalize a4d n = nm at *
 simp only [a4y, l6, TT, II, OA, OB, OC, MM, LL, VV, FF, MG, LG, VG, FG]
 simp only [Am.c, Am.enc, Vt.c, Vt.enc, rc, A8, sb, ints, lks] at h1 h2 k1 k2 k3 ⊢
 (repeat first | refine uA ?_ | (refine uK ?_ ?_; focus first | omega | trivial | (intros; simp_all <;> omega)) | simp (disch := omega) only [go_sem, Nat.reduceBEq, Nat.reduceAdd, Nat.reduceLeDiff, Int.reduceToNat, Int.reducePow, ww, hnm, htn, c1R] | refine l8.t (j5.lift (k := 0) rfl (k1 _ rfl) rfl rfl rfl) ?_ | refine l8.t (j5.lift (k := 0) rfl (k2 _ rfl) rfl rfl rfl) ?_ | (refine uB h1 ?_ ?_; exact rfl) | (refine uB h2 ?_ ?_; exact rfl))
 (repeat first | refine uA ?_ | (refine uK ?_ ?_; focus first | omega | trivial | (intros; simp_all <;> omega)) | simp (disch := omega) only [go_sem, Nat.reduceBEq, Nat.reduceAdd, Nat.reduceLeDiff, Int.reduceToNat, Int.reducePow, ww] | refine l8.t (j5.lift (k := 0) rfl (k3 _ rfl) rfl rfl rfl) ?_)
 rw [<- hc]
 refine S.loop (X := Nat × List Lk × List Int) (fun x => ⟨[(0, .bp 0 0), (4, .bp 1 0), (5, .bp 3 0), (30, ints c), (31, ints x.1)], [.box 145 [A8 x.2.2], .box 51 [.v (.string ⟨#[]⟩), .v (.bool false), .v (.string ⟨#[]⟩), .v (.string ⟨#[]⟩), .v (.bool false), .v (.string ⟨#[]⟩), .v (.string ⟨#[]⟩), .v (.bool false), .v (.bool false), .v (.string ⟨#[]⟩), .v (.string ⟨#[]⟩), .v (.slice none 0 0)], .gone, .box 51 [.v (.string (bs nm)), .v (.bool q1.neg), .v (.string (bs q1.num)), .v (.string (bs q1.den)), .v (.bool q2.neg), .v (.string (bs q2.num)), .v (.string (bs q2.den)), .v (.bool false), .v (.bool q3.neg), .v (.string (bs q3.num)), .v (.string (bs q3.den)), .rv 4], .row 53 16 (x.2.1.map Lk.enc)]⟩)
  (fun x => x.1 <= c /\ x.2.1.length = x.1 /\ x.2.1 ++ a2t (c - x.1) x.2.2 = a2t c l0 /\ x.2.2.drop (6 * (c - x.1)) = l0.drop (6 * c)) (fun x => c - x.1) (0, [], l0) ⟨c1Q _, rfl, rfl, rfl⟩ (Ent.trans (Ent.a1M 3 11 53 16 rfl rfl rfl) (by (repeat first | refine uA ?_ | (refine ⟨?_, ?_⟩; focus first | rfl | trivial | (simp [slot]; done)) | rfl | trivial | simp | exact c1M hν0 (by simp)))) ?_
 rintro ⟨i, ls, m⟩ ⟨hi, hls, hL, hM⟩
 simp only [ints, A8] at hi hls hL hM ⊢
 (repeat first | refine uA ?_ | (refine uK ?_ ?_; focus first | omega | trivial | (intros; simp_all <;> omega)) | simp (disch := omega) only [go_sem, Nat.reduceBEq, Nat.reduceAdd, Nat.reduceLeDiff, Int.reduceToNat, Int.reducePow, ww])
 (refine uJ rfl (fun hc => ?_) fun hc => ?_)
 ·have hi' : c - i = (c - i - 1) + 1 := by omega
  have n0 := fun (E : Ctx) (hP : E.P = Tryz.prog) => H9 hP (m.drop 0) 4 (by decide)
  have a0 := p8 (m.drop 0) (n := 4) (by decide)
  have b0 := D5 (m.drop 0) (n := 4) (by decide)
  have n1 := fun (E : Ctx) (hP : E.P = Tryz.prog) => H9 hP (m.drop 1) 6 (by decide)
  have a1 := p8 (m.drop 1) (n := 6) (by decide)
  have b1 := D5 (m.drop 1) (n := 6) (by decide)
  have n2 := fun (E : Ctx) (hP : E.P = Tryz.prog) => H9 hP (m.drop 2) 6 (by decide)
  have a2 := p8 (m.drop 2) (n := 6) (by decide)
  have b2 := D5 (m.drop 2) (n := 6) (by decide)
  have n3 := fun (E : Ctx) (hP : E.P = Tryz.prog) => H9 hP (m.drop 3) 8 (by decide)
  have a3 := p8 (m.drop 3) (n := 8) (by decide)
  have b3 := D5 (m.drop 3) (n := 8) (by decide)
  have n4 := fun (E : Ctx) (hP : E.P = Tryz.prog) => H9 hP (m.drop 4) 20 (by decide)
  have a4 := p8 (m.drop 4) (n := 20) (by decide)
  have b4 := D5 (m.drop 4) (n := 20) (by decide)
  have n5 := fun (E : Ctx) (hP : E.P = Tryz.prog) => H9 hP (m.drop 5) 3 (by decide)
  have a5 := p8 (m.drop 5) (n := 3) (by decide)
  have b5 := D5 (m.drop 5) (n := 3) (by decide)
  rw [hi', a2t] at hL
  have hM2 : (m.drop 6).drop (6 * (c - (i + 1))) = l0.drop (6 * c) := by rw [List.drop_drop, <- hM]; congr 1; omega
  rw [show c - i - 1 = c - (i + 1) by omega] at hL
  simp only [List.drop_drop, List.drop_zero] at n0 n1 n2 n3 n4 n5 a0 b0
  unfold b5D a4i at hL
  have o1 := a1n (4 + 2 * nx m 4) 4 (by omega) (by omega)
  have o2 := a1n (-1 - nx (m.drop 1) 6) 3 (by omega) (by omega)
  have o3 := a1n (1 + nx (m.drop 2) 6) 3 (by omega) (by omega)
  have o4 := a1n 1 (4 + nx (m.drop 3) 8) (by omega) (by omega)
  have o5 := a1n 1 (10 + nx (m.drop 4) 20) (by omega) (by omega)
  have o6 := b6C (-1) (-1) (4 + 2 * nx m 4 + 1) 1 (by omega) (by omega) (by omega) (by omega)
  have o7 := R9 (-1) (-1) (by omega) (by omega)
  have o8 := R9 (4 + 2 * nx m 4 + 1) 0 (by omega) (by omega)
  have o9 := R9 (-1) 1 (by omega) (by omega)
  generalize Q (4 + 2 * nx m 4) 4 = p1 at *
  generalize Q (-1 - nx (m.drop 1) 6) 3 = p2 at *
  generalize Q (1 + nx (m.drop 2) 6) 3 = p3 at *
  generalize Q 1 (4 + nx (m.drop 3) 8) = p4 at *
  generalize Q 1 (10 + nx (m.drop 4) 20) = p5 at *
  generalize a4w (-1) (-1) (4 + 2 * nx m 4 + 1) 1 = r6 at *
  generalize atV (-1) (-1) = v7 at *
  generalize atV (4 + 2 * nx m 4 + 1) 0 = v8 at *
  generalize atV (-1) 1 = v9 at *
  generalize nx m 4 = y0 at *
  generalize nx (m.drop 1) 6 = y1 at *
  generalize nx (m.drop 2) 6 = y2 at *
  generalize nx (m.drop 3) 8 = y3 at *
  generalize nx (m.drop 4) 20 = y4 at *
  generalize nx (m.drop 5) 3 = y5 at *
  simp only [A8, ints, rc, sb, vts, Vt.c, Vt.enc] at n0 n1 n2 n3 n4 n5 o1 o2 o3 o4 o5 o6 o7 o8 o9
  (repeat first | refine uA ?_ | (refine uK ?_ ?_; focus first | omega | trivial | (intros; simp_all <;> omega)) | simp (disch := omega) only [go_sem, Nat.reduceBEq, Nat.reduceAdd, Nat.reduceLeDiff, Int.reduceToNat, Int.reducePow, ww] | refine l8.t (j5.lift (k := 0) rfl (n0 _ rfl) rfl rfl rfl) ?_ | refine l8.t (j5.lift (k := 0) rfl (n1 _ rfl) rfl rfl rfl) ?_ | refine l8.t (j5.lift (k := 0) rfl (n2 _ rfl) rfl rfl rfl) ?_ | refine l8.t (j5.lift (k := 0) rfl (n3 _ rfl) rfl rfl rfl) ?_ | refine l8.t (j5.lift (k := 0) rfl (n4 _ rfl) rfl rfl rfl) ?_ | refine l8.t (j5.lift (k := 0) rfl (n5 _ rfl) rfl rfl rfl) ?_ | (refine uB o1 ?_ ?_; exact rfl) | (refine uB o2 ?_ ?_; exact rfl) | (refine uB o3 ?_ ?_; exact rfl) | (refine uB o4 ?_ ?_; exact rfl) | (refine uB o5 ?_ ?_; exact rfl) | (refine uB o6 ?_ ?_; exact rfl))
  refine S.join (Y := List Vt) (fun sh => ⟨[(0, .bp 0 0), (4, .bp 1 0), (5, .bp 3 0), (7, .bp 5 0), (30, ints c), (31, ints i)], [.box 145 [A8 (m.drop 6)], .box 51 [.v (.string ⟨#[]⟩), .v (.bool false), .v (.string ⟨#[]⟩), .v (.string ⟨#[]⟩), .v (.bool false), .v (.string ⟨#[]⟩), .v (.string ⟨#[]⟩), .v (.bool false), .v (.bool false), .v (.string ⟨#[]⟩), .v (.string ⟨#[]⟩), .v (.slice none 0 0)], .gone, .box 51 [.v (.string (bs nm)), .v (.bool q1.neg), .v (.string (bs q1.num)), .v (.string (bs q1.den)), .v (.bool q2.neg), .v (.string (bs q2.num)), .v (.string (bs q2.den)), .v (.bool false), .v (.bool q3.neg), .v (.string (bs q3.num)), .v (.string (bs q3.den)), .rv 4], .row 53 16 (ls.map Lk.enc), .box 53 (Lk.enc ⟨p1, p2, p3, p4, p5, sh⟩)]⟩) (fun sh => sh = if y5 = 2 then [v7, v8, v9] else r6) ?_ ?_
  ·refine S.cond rfl (fun hc => ?_) (fun hc => ?_)
   ·(repeat first | refine uA ?_ | (refine uK ?_ ?_; focus first | omega | trivial | (intros; simp_all <;> omega)) | simp (disch := omega) only [go_sem, Nat.reduceBEq, Nat.reduceAdd, Nat.reduceLeDiff, Int.reduceToNat, Int.reducePow, ww] | (refine uB o7 ?_ ?_; exact rfl) | (refine uB o8 ?_ ?_; exact rfl) | (refine uB o9 ?_ ?_; exact rfl))
    exact S.met [v7, v8, v9] (by simp at hc; rw [if_pos hc]) (Ent.mk _ _ (by (repeat' (first | exact U7.nil | exact Imp.junk | exact Imp.refl rfl | exact Imp.eq (by simp [slot]; done) rfl | refine U7.cons ?_ ?_))) (by (repeat' (first | exact J7.nil | exact RI.gone _ | exact RI.row _ _ _ _ rfl | exact RI.map _ _ _ rfl | exact RI.box _ _ _ (l7.refl rfl) | (refine RI.box _ _ _ ?_; (repeat' (first | exact l7.nil | exact Imp.refl rfl | exact Imp.frz rfl rfl rfl | exact Imp.I9 | refine l7.cons ?_ ?_))) | refine J7.cons ?_ ?_))) (c1M hν0 (by simp)))
   ·(repeat first | refine uA ?_ | (refine uK ?_ ?_; focus first | omega | trivial | (intros; simp_all <;> omega)) | simp (disch := omega) only [go_sem, Nat.reduceBEq, Nat.reduceAdd, Nat.reduceLeDiff, Int.reduceToNat, Int.reducePow, ww])
    exact S.met r6 (by simp at hc; rw [if_neg hc]) (by (repeat first | refine uA ?_ | (refine ⟨?_, ?_⟩; focus first | rfl | trivial | (simp [slot]; done)) | rfl | trivial | simp | exact c1M hν0 (by simp)))
  rintro sh hsh
  rw [<- hsh] at hL
  simp only [A8, ints, Lk.enc, vts]
  (repeat first | refine uA ?_ | (refine uK ?_ ?_; focus first | omega | trivial | (intros; simp_all <;> omega)) | simp (disch := omega) only [go_sem, Nat.reduceBEq, Nat.reduceAdd, Nat.reduceLeDiff, Int.reduceToNat, Int.reducePow, ww, c1J, hls])
  refine S.next (x := (i, ls, m)) (i + 1, ls ++ [⟨p1, p2, p3, p4, p5, sh⟩], m.drop 6) ⟨by simp only; omega, by simp [hls], by simp only; rw [c2r]; exact hL, by simp only; exact hM2⟩ (by simp only; omega) (by simp only [c2z, c2b, c2w]; exact (by (repeat first | refine uA ?_ | (refine ⟨?_, ?_⟩; focus first | rfl | trivial | (simp [slot]; done)) | rfl | trivial | simp | exact c1M hν0 (by simp))))
 ·have hi' : i = c := by omega
  subst hi'
  rw [Nat.sub_self, a2t, List.append_nil] at hL
  rw [Nat.sub_self, Nat.mul_zero, List.drop_zero] at hM
  subst hL
  subst hM
  (repeat first | refine uA ?_ | (refine uK ?_ ?_; focus first | omega | trivial | (intros; simp_all <;> omega)) | simp (disch := omega) only [go_sem, Nat.reduceBEq, Nat.reduceAdd, Nat.reduceLeDiff, Int.reduceToNat, Int.reducePow, ww])
  (refine S.done ?_; simp only [q8, l9, go_sem, Nat.reduceBEq, Nat.reduceAdd, Nat.reduceLeDiff, Int.reduceToNat, Int.reducePow]; (repeat (refine ⟨?_, ?_⟩; focus first | trivial | omega | simp)); exact j3.N9 (Imp.agg (by (repeat' (first | exact l7.nil | exact Imp.refl rfl | exact Imp.frz rfl rfl rfl | exact Imp.I9 | refine l7.cons ?_ ?_)))) (by (repeat first | refine uA ?_ | (refine ⟨?_, ?_⟩; focus first | rfl | trivial | (simp [slot]; done)) | rfl | trivial | simp)) (c1M hν0 (by simp)))
set_option maxHeartbeats 32000000
def X4 : List C := [.v (.slice none 0 0), .v (.slice none 0 0), .v (.slice none 0 0), .v (.slice none 0 0), .v (.slice none 0 0), .v (.bool false), .v (.string ⟨#[]⟩), .v (.string ⟨#[]⟩)]
def rsM (m : List Int) (a : List Am) (w : List (List Vt)) (p : List Pt) (s : List Sl) (g : List Gt) : List Res :=
 [.box 31 X4, .box 145 [A8 m], .box 31 [.rv 3, .rv 4, .rv 5, .rv 6, .rv 7, .v (.bool false), .v (.string ⟨#[]⟩), .v (.string ⟨#[]⟩)], .row 51 12 (a.map Am.enc), .row 34 1 (w.map fun s => [vts s]), .row 65 12 (p.map Pt.enc), .row 86 14 (s.map Sl.enc), .row 91 13 (g.map Gt.enc)]
theorem b6x (n : Nat) (h : n < 2) : ([[C.v (.string ⟨#[98, 111, 108, 116]⟩)], [C.v (.string ⟨#[110, 117, 116]⟩)]] : List (List C))[n]? = some [C.v (.string (bs (a3z n)))] := by
 match n, h with
 | 0, _ => rfl
 | 1, _ => rfl
theorem b7i (n : Nat) (h : n < 3) : ([[C.v (.string ⟨#[104, 101, 114, 101]⟩)], [C.v (.string ⟨#[116, 104, 101, 114, 101]⟩)], [C.v (.string ⟨#[98, 101, 121, 111, 110, 100]⟩)]] : List (List C))[n]? = some [C.v (.string (bs (a4v n)))] := by
 match n, h with
 | 0, _ => rfl
 | 1, _ => rfl
 | 2, _ => rfl
theorem b9L (l : List Int) : F7 Tryz.prog 23 [A8 l] (D6 l).c := by
 refine kS a7p a7r (by rfl) fun w O => ?_
 have k0 := fun (E : Ctx) (hP : E.P = Tryz.prog) => H9 hP l 2 (by decide)
 have c0 := p8 l (n := 2) (by decide)
 have d0 := D5 l (n := 2) (by decide)
 have hc1 : ((nA l : Nat) : Int) = 1 + nx l 2 := by unfold nA; omega
 have z2 := p8 (l1 l) (n := 3) (by decide)
 have z3 := p8 (l2 l) (n := 3) (by decide)
 have z4 := p8 (l3 l) (n := 2) (by decide)
 have z5 := p8 (l4 l) (n := 2) (by decide)
 have z6 := p8 (l5 l) (n := 4) (by decide)
 have y6 := D5 (l5 l) (n := 4) (by decide)
 have hc2 : ((nW l : Nat) : Int) = nx (l1 l) 3 := by unfold nW; omega
 have hc3 : ((nP l : Nat) : Int) = nx (l2 l) 3 := by unfold nP; omega
 have hc4 : ((nS l : Nat) : Int) = (nP l : Int) + nx (l3 l) 2 := by unfold nS; omega
 have hc5 : ((nG l : Nat) : Int) = nx (l4 l) 2 := by unfold nG; omega
 obtain ⟨cc1, cc2, cc3, cc4, cc5⟩ := counts l
 have q1 : l1 l = a5P (nA l) (l.drop 1) := rfl
 have q2 : l2 l = (l1 l).drop (1 + 5 * nW l) := rfl
 have q3 : l3 l = a4g (nP l) ((l2 l).drop 1) := rfl
 have q4 : l4 l = (l3 l).drop (1 + 4 * nS l) := rfl
 have q5 : l5 l = (l4 l).drop (1 + 4 * nG l) := rfl
 unfold D6
 generalize nA l = cA at *
 generalize nW l = cW at *
 generalize nP l = cP at *
 generalize nS l = cS at *
 generalize nG l = cG at *
 generalize l5 l = L5 at *
 generalize l4 l = L4 at *
 generalize l3 l = L3 at *
 generalize l2 l = L2 at *
 generalize l1 l = L1 at *
 generalize l.drop 1 = s0 at *
 generalize nx l 2 = x0 at *
 have k1 := fun (E : Ctx) (hP : E.P = Tryz.prog) => H9 hP L1 3 (by decide)
 have k2 := fun (E : Ctx) (hP : E.P = Tryz.prog) => H9 hP L2 3 (by decide)
 have k3 := fun (E : Ctx) (hP : E.P = Tryz.prog) => H9 hP L3 2 (by decide)
 have k4 := fun (E : Ctx) (hP : E.P = Tryz.prog) => H9 hP L4 2 (by decide)
 have k5 := fun (E : Ctx) (hP : E.P = Tryz.prog) => H9 hP L5 4 (by decide)
 simp only [A8, ints] at k1 k2 k3 k4 k5
 simp only [a3q, l6, TT, II, OA, OB, OC, MM, LL, VV, FF, MG, LG, VG, FG]
 simp only [A8, ints] at k0 ⊢
 (repeat first | refine uA ?_ | (refine uK ?_ ?_; focus first | omega | (intros; simp_all <;> omega)) | simp (disch := omega) only [go_sem, Nat.reduceBEq, Nat.reduceAdd, ww] | refine l8.t (j5.lift (k := 1) rfl (k0 _ rfl) rfl rfl rfl) ?_)
 rw [<- hc1]
 refine S.loop (X := Nat × List Am × List Int) (fun x => ⟨[(2, .bp 0 0), (3, .bp 1 0), (4, .bp 2 0), (17, ints cA), (18, ints x.1)], rsM x.2.2 x.2.1 [] [] [] []⟩)
  (fun x => x.1 <= cA /\ x.2.1.length = x.1 /\ x.2.1 ++ a1A (cA - x.1) x.1 x.2.2 = a1A cA 0 s0 /\ a5P (cA - x.1) x.2.2 = a5P cA s0) (fun x => cA - x.1) (0, [], s0) ⟨c1Q _, rfl, rfl, rfl⟩
  (Ent.trans (Ent.a1M 2 0 51 12 rfl rfl rfl) (Ent.trans (Ent.a1M 2 1 34 1 rfl rfl rfl) (Ent.trans (Ent.a1M 2 2 65 12 rfl rfl rfl) (Ent.trans (Ent.a1M 2 3 86 14 rfl rfl rfl) (Ent.trans (Ent.a1M 2 4 91 13 rfl rfl rfl) (by simp only [rsM, A8, X4]; exact (by (repeat first | refine uA ?_ | (refine ⟨?_, ?_⟩; focus first | rfl | simp [slot]) | rfl | simp)))))))) ?_
 rintro ⟨i, am, ma⟩ ⟨hi, hl, hL, hM⟩
 simp only [rsM, X4, A8, ints] at hi hl hL hM ⊢
 (repeat first | refine uA ?_ | (refine uK ?_ ?_; focus first | omega | (intros; simp_all <;> omega)) | simp (disch := omega) only [go_sem, Nat.reduceBEq, Nat.reduceAdd, ww])
 (refine uJ rfl (fun hc => ?_) fun hc => ?_)
 ·have hi' : i < cA := by omega
  rw [show cA - i = (cA - (i + 1)) + 1 by omega, a1A] at hL
  rw [show cA - i = (cA - (i + 1)) + 1 by omega, a5P] at hM
  have ha := fun (E : Ctx) (hP : E.P = Tryz.prog) => c1q hP ma i (by omega)
  generalize a9N ma i = A at *
  generalize a9E ma = m' at *
  simp only [A8, Am.c, Am.enc, lks, sb] at ha
  (repeat first | refine uI ?_ | (refine uK ?_ ?_; focus first | omega | (intros; simp_all <;> omega)) | simp (disch := omega) only [go_sem, Nat.reduceBEq, Nat.reduceAdd, ww])
  refine S.F5 [.gone, .gone, .box 31 [.rv 3, .rv 4, .rv 5, .rv 6, .rv 7, .v (.bool false), .v (.string ⟨#[]⟩), .v (.string ⟨#[]⟩)]] (by simp [Eng.F4, Eng.P5]) ?_
  (repeat first | refine uA ?_ | (refine uK ?_ ?_; focus first | omega | (intros; simp_all <;> omega)) | simp (disch := omega) only [go_sem, Nat.reduceBEq, Nat.reduceAdd, ww, c1J, hl, F4] | refine l8.t (j5.lift (k := 1) rfl (ha _ rfl) rfl rfl rfl) ?_)
  refine S.next (x := (i, am, ma)) (i + 1, am ++ [A], m') ⟨by simp only; omega, by simp [hl], by simp only; rw [c2r]; exact hL, by simp only; exact hM⟩ (by simp only; omega) (by simp only [rsM, A8, X4, c2z, c2b, c2w]; exact (by (repeat first | refine uA ?_ | (refine ⟨?_, ?_⟩; focus first | rfl | simp [slot]) | rfl | simp)))
 have hi' : i = cA := by omega
 subst hi'
 rw [Nat.sub_self, a1A, List.append_nil] at hL
 rw [Nat.sub_self, a5P] at hM
 have hm : ma = L1 := by rw [q1]; exact hM
 subst hm
 rw [<- hL]
 (repeat first | refine uA ?_ | (refine uK ?_ ?_; focus first | omega | (intros; simp_all <;> omega)) | simp (disch := omega) only [go_sem, Nat.reduceBEq, Nat.reduceAdd, ww] | refine l8.t (j5.lift (k := 1) rfl (k1 _ rfl) rfl rfl rfl) ?_)
 rw [<- hc2]
 refine S.loop (X := Nat × List (List Vt) × List Int) (fun x => ⟨[(2, .bp 0 0), (3, .bp 1 0), (4, .bp 2 0), (31, ints cW), (32, ints x.1)], rsM x.2.2 am x.2.1 [] [] []⟩)
  (fun x => x.1 <= cW /\ x.2.1.length = x.1 /\ x.2.1 ++ a1J (cW - x.1) x.2.2 = a1J cW (ma.drop 1) /\ x.2.2.drop (5 * (cW - x.1)) = (ma.drop 1).drop (5 * cW)) (fun x => cW - x.1) (0, [], ma.drop 1) ⟨c1Q _, rfl, rfl, rfl⟩ (by simp only [rsM, A8, X4]; exact (by (repeat first | refine uA ?_ | (refine ⟨?_, ?_⟩; focus first | rfl | simp [slot]) | rfl | simp))) ?_
 rintro ⟨i, ws, mw⟩ ⟨hi, hl, hL, hM⟩
 simp only [rsM, X4, A8, ints] at hi hl hL hM ⊢
 (repeat first | refine uA ?_ | (refine uK ?_ ?_; focus first | omega | (intros; simp_all <;> omega)) | simp (disch := omega) only [go_sem, Nat.reduceBEq, Nat.reduceAdd, ww])
 (refine uJ rfl (fun hc => ?_) fun hc => ?_)
 ·have hi' : i < cW := by omega
  rw [show cW - i = (cW - (i + 1)) + 1 by omega, a1J] at hL
  have hM2 : (mw.drop 5).drop (5 * (cW - (i + 1))) = (ma.drop 1).drop (5 * cW) := by rw [<- hM, List.drop_drop]; congr 1; omega
  have n0 := fun (E : Ctx) (hP : E.P = Tryz.prog) => H9 hP mw 80 (by decide)
  have a0 := p8 mw (n := 80) (by decide)
  have b0 := D5 mw (n := 80) (by decide)
  have n1 := fun (E : Ctx) (hP : E.P = Tryz.prog) => H9 hP (mw.drop 1) 30 (by decide)
  have a1 := p8 (mw.drop 1) (n := 30) (by decide)
  have b1 := D5 (mw.drop 1) (n := 30) (by decide)
  have n2 := fun (E : Ctx) (hP : E.P = Tryz.prog) => H9 hP (mw.drop 2) 2 (by decide)
  have a2 := p8 (mw.drop 2) (n := 2) (by decide)
  have b2 := D5 (mw.drop 2) (n := 2) (by decide)
  have n3 := fun (E : Ctx) (hP : E.P = Tryz.prog) => H9 hP (mw.drop 3) 20 (by decide)
  have a3 := p8 (mw.drop 3) (n := 20) (by decide)
  have b3 := D5 (mw.drop 3) (n := 20) (by decide)
  have n4 := fun (E : Ctx) (hP : E.P = Tryz.prog) => H9 hP (mw.drop 4) 5 (by decide)
  have a4 := p8 (mw.drop 4) (n := 5) (by decide)
  have b4 := D5 (mw.drop 4) (n := 5) (by decide)
  simp only [List.drop_drop, A8, ints] at n0 n1 n2 n3 n4
  have hwy : -1000 <= a0V mw /\ a0V mw <= 1000 := by unfold a0V; split <;> omega
  have o1 := b6C (nx mw 80 - 30) (a0V mw) (nx mw 80 - 30 + 1 + nx (mw.drop 3) 20) (a0V mw + 1 + nx (mw.drop 4) 5) (by omega) (by omega) (by omega) (by omega)
  unfold b1i at hL
  generalize a4w (nx mw 80 - 30) (a0V mw) (nx mw 80 - 30 + 1 + nx (mw.drop 3) 20) (a0V mw + 1 + nx (mw.drop 4) 5) = R at *
  have hwe : a0V mw = if nx (mw.drop 2) 2 = 1 then -(12 + nx (mw.drop 1) 30) - 6 else 12 + nx (mw.drop 1) 30 := rfl
  generalize a0V mw = Y at *
  generalize nx mw 80 = x1 at *
  generalize nx (mw.drop 1) 30 = x2 at *
  generalize nx (mw.drop 2) 2 = x3 at *
  generalize nx (mw.drop 3) 20 = x4 at *
  generalize nx (mw.drop 4) 5 = x5 at *
  simp only [ints, vts] at o1
  (repeat first | refine uA ?_ | (refine uK ?_ ?_; focus first | omega | (intros; simp_all <;> omega)) | simp (disch := omega) only [go_sem, Nat.reduceBEq, Nat.reduceAdd, ww] | refine l8.t (j5.lift (k := 1) rfl (n0 _ rfl) rfl rfl rfl) ?_ | refine l8.t (j5.lift (k := 1) rfl (n1 _ rfl) rfl rfl rfl) ?_ | refine l8.t (j5.lift (k := 1) rfl (n2 _ rfl) rfl rfl rfl) ?_)
  refine S.join (Y := Int) (fun y => ⟨[(2, .bp 0 0), (3, .bp 1 0), (4, .bp 2 0), (6, ints (x1 - 30)), (7, ints y), (31, ints cW), (32, ints i)], rsM (mw.drop 3) am ws [] [] []⟩) (fun y => y = Y) ?_ ?_
  ·refine S.cond rfl (fun hc => ?_) (fun hc => ?_)
   ·have hn2 : IntKind.i64.wrap (0 - (12 + x2)) = -(12 + x2) := by rw [Eng.wrap_i64 (by omega)]; omega
    (repeat first | refine uA ?_ | (refine uK ?_ ?_; focus first | omega | (intros; simp_all <;> omega)) | simp (disch := omega) only [go_sem, Nat.reduceBEq, Nat.reduceAdd, ww, hn2])
    exact S.met (-(12 + x2) - 6) (by simp at hc; rw [hwe, if_pos hc]) (by simp only [rsM, A8, X4]; exact (by (repeat first | refine uA ?_ | (refine ⟨?_, ?_⟩; focus first | rfl | simp [slot]) | rfl | simp)))
   ·(repeat first | refine uA ?_ | (refine uK ?_ ?_; focus first | omega | (intros; simp_all <;> omega)) | simp (disch := omega) only [go_sem, Nat.reduceBEq, Nat.reduceAdd, ww])
    exact S.met (12 + x2) (by simp at hc; rw [hwe, if_neg hc]) (by simp only [rsM, A8, X4]; exact (by (repeat first | refine uA ?_ | (refine ⟨?_, ?_⟩; focus first | rfl | simp [slot]) | rfl | simp)))
  rintro y rfl
  simp only [rsM, X4, A8, ints]
  (repeat first | refine uI ?_ | (refine uK ?_ ?_; focus first | omega | (intros; simp_all <;> omega)) | simp (disch := omega) only [go_sem, Nat.reduceBEq, Nat.reduceAdd, ww])
  refine S.F5 [.gone, .gone, .box 31 [.rv 3, .rv 4, .rv 5, .rv 6, .rv 7, .v (.bool false), .v (.string ⟨#[]⟩), .v (.string ⟨#[]⟩)]] (by simp [Eng.F4, Eng.P5]) ?_
  (repeat first | refine uA ?_ | (refine uK ?_ ?_; focus first | omega | (intros; simp_all <;> omega)) | simp (disch := omega) only [go_sem, Nat.reduceBEq, Nat.reduceAdd, ww, c1J, hl, F4] | refine l8.t (j5.lift (k := 1) rfl (n3 _ rfl) rfl rfl rfl) ?_ | refine l8.t (j5.lift (k := 1) rfl (n4 _ rfl) rfl rfl rfl) ?_ | (refine uB o1 ?_ ?_; exact rfl))
  refine S.next (x := (i, ws, mw)) (i + 1, ws ++ [R], mw.drop 5) ⟨by simp only; omega, by simp [hl], by simp only; rw [c2r]; exact hL, by simp only; exact hM2⟩ (by simp only; omega) (by simp only [rsM, A8, X4, c2z, c2b, c2w]; exact (by (repeat first | refine uA ?_ | (refine ⟨?_, ?_⟩; focus first | rfl | simp [slot]) | rfl | simp)))
 have hi' : i = cW := by omega
 subst hi'
 rw [Nat.sub_self, a1J, List.append_nil] at hL
 rw [Nat.sub_self, Nat.mul_zero, List.drop_zero, List.drop_drop] at hM
 have hm : mw = L2 := by rw [q2]; exact hM
 subst hm
 rw [<- hL]
 (repeat first | refine uA ?_ | (refine uK ?_ ?_; focus first | omega | (intros; simp_all <;> omega)) | simp (disch := omega) only [go_sem, Nat.reduceBEq, Nat.reduceAdd, ww] | refine l8.t (j5.lift (k := 1) rfl (k2 _ rfl) rfl rfl rfl) ?_)
 rw [<- hc3]
 refine S.loop (X := Nat × List Pt × List Int) (fun x => ⟨[(2, .bp 0 0), (3, .bp 1 0), (4, .bp 2 0), (66, ints cP), (67, ints x.1)], rsM x.2.2 am ws x.2.1 [] []⟩)
  (fun x => x.1 <= cP /\ x.2.1.length = x.1 /\ x.2.1 ++ Y0 (cP - x.1) x.1 x.2.2 = Y0 cP 0 (mw.drop 1) /\ a4g (cP - x.1) x.2.2 = a4g cP (mw.drop 1)) (fun x => cP - x.1) (0, [], mw.drop 1) ⟨c1Q _, rfl, rfl, rfl⟩ (by simp only [rsM, A8, X4]; exact (by (repeat first | refine uA ?_ | (refine ⟨?_, ?_⟩; focus first | rfl | simp [slot]) | rfl | simp))) ?_
 rintro ⟨i, ps, mp⟩ ⟨hi, hl, hL, hM⟩
 simp only [rsM, X4, A8, ints] at hi hl hL hM ⊢
 (repeat first | refine uA ?_ | (refine uK ?_ ?_; focus first | omega | (intros; simp_all <;> omega)) | simp (disch := omega) only [go_sem, Nat.reduceBEq, Nat.reduceAdd, ww])
 (refine uJ rfl (fun hc => ?_) fun hc => ?_)
 ·have hi' : i < cP := by omega
  rw [show cP - i = (cP - (i + 1)) + 1 by omega, Y0] at hL
  rw [show cP - i = (cP - (i + 1)) + 1 by omega, a4g] at hM
  have hp := fun (E : Ctx) (hP : E.P = Tryz.prog) => c0z hP mp
  have hnm := b6x i (by omega)
  have o1 := R9 0 0 (by decide) (by decide)
  have o2 := a1n 0 1 (by decide) (by decide)
  unfold b8F at hL
  unfold atV at o1
  generalize (a1v mp).1 = sh at *
  generalize (a1v mp).2 = m' at *
  generalize Q 0 4 = qa at *
  generalize Q 0 1 = qb at *
  generalize a3z i = nm at *
  simp only [A8, vts, Vt.c, Vt.enc, rc, sb, ints] at hp o1 o2
  (repeat first | refine uI ?_ | (refine uK ?_ ?_; focus first | omega | (intros; simp_all <;> omega)) | simp (disch := omega) only [go_sem, Nat.reduceBEq, Nat.reduceAdd, ww])
  refine S.F5 [.gone, .gone, .box 31 [.rv 3, .rv 4, .rv 5, .rv 6, .rv 7, .v (.bool false), .v (.string ⟨#[]⟩), .v (.string ⟨#[]⟩)]] (by simp [Eng.F4, Eng.P5]) ?_
  (repeat first | refine uA ?_ | (refine uK ?_ ?_; focus first | omega | (intros; simp_all <;> omega)) | simp (disch := omega) only [go_sem, Nat.reduceBEq, Nat.reduceAdd, ww, c1J, hl, F4, hnm, c1R] | refine l8.t (j5.lift (k := 1) rfl (hp _ rfl) rfl rfl rfl) ?_ | (refine uB o1 ?_ ?_; exact rfl) | (refine uB o2 ?_ ?_; exact rfl))
  refine S.next (x := (i, ps, mp)) (i + 1, ps ++ [⟨nm, sh, ⟨qa, qa, false, qb⟩⟩], m') ⟨by simp only; omega, by simp [hl], by simp only; rw [c2r]; exact hL, by simp only; exact hM⟩ (by simp only; omega) (by simp only [rsM, A8, X4, c2z, c2b, c2w]; exact (by (repeat first | refine uA ?_ | (refine ⟨?_, ?_⟩; focus first | rfl | simp [slot]) | rfl | simp)))
 have hi' : i = cP := by omega
 subst hi'
 rw [Nat.sub_self, Y0, List.append_nil] at hL
 rw [Nat.sub_self, a4g] at hM
 have hm : mp = L3 := by rw [q3]; exact hM
 subst hm
 rw [<- hL]
 (repeat first | refine uI ?_ | (refine uK ?_ ?_; focus first | omega | (intros; simp_all <;> omega)) | simp (disch := omega) only [go_sem, Nat.reduceBEq, Nat.reduceAdd, ww])
 refine S.F5 [.gone, .gone, .box 31 [.rv 3, .rv 4, .rv 5, .rv 6, .rv 7, .v (.bool false), .v (.string ⟨#[]⟩), .v (.string ⟨#[]⟩)], .gone, .gone, .row 65 12 (ps.map Pt.enc)] (by simp [Eng.F4, Eng.P5]) ?_
 (repeat first | refine uA ?_ | (refine uK ?_ ?_; focus first | omega | (intros; simp_all <;> omega)) | simp (disch := omega) only [go_sem, Nat.reduceBEq, Nat.reduceAdd, ww, c1J, hl, F4] | refine l8.t (j5.lift (k := 1) rfl (k3 _ rfl) rfl rfl rfl) ?_)
 rw [<- hc4]
 refine S.loop (X := Nat × List Sl × List Int) (fun x => ⟨[(2, .bp 0 0), (3, .bp 1 0), (4, .bp 2 0), (92, ints cS), (93, ints x.1)], rsM x.2.2 am ws ps x.2.1 []⟩)
  (fun x => x.1 <= cS /\ x.2.1.length = x.1 /\ x.2.1 ++ a0y (cS - x.1) x.1 x.2.2 = a0y cS 0 (mp.drop 1) /\ x.2.2.drop (4 * (cS - x.1)) = (mp.drop 1).drop (4 * cS)) (fun x => cS - x.1) (0, [], mp.drop 1) ⟨c1Q _, rfl, rfl, rfl⟩ (by simp only [rsM, A8, X4]; exact (by (repeat first | refine uA ?_ | (refine ⟨?_, ?_⟩; focus first | rfl | simp [slot]) | rfl | simp))) ?_
 rintro ⟨i, ss, ms⟩ ⟨hi, hl, hL, hM⟩
 simp only [rsM, X4, A8, ints] at hi hl hL hM ⊢
 (repeat first | refine uA ?_ | (refine uK ?_ ?_; focus first | omega | (intros; simp_all <;> omega)) | simp (disch := omega) only [go_sem, Nat.reduceBEq, Nat.reduceAdd, ww])
 (refine uJ rfl (fun hc => ?_) fun hc => ?_)
 ·have hi' : i < cS := by omega
  rw [show cS - i = (cS - (i + 1)) + 1 by omega, a0y] at hL
  have hM2 : (ms.drop 4).drop (4 * (cS - (i + 1))) = (mp.drop 1).drop (4 * cS) := by rw [<- hM, List.drop_drop]; congr 1; omega
  have n0 := fun (E : Ctx) (hP : E.P = Tryz.prog) => H9 hP ms 40 (by decide)
  have a0 := p8 ms (n := 40) (by decide)
  have b0 := D5 ms (n := 40) (by decide)
  have n1 := fun (E : Ctx) (hP : E.P = Tryz.prog) => H9 hP (ms.drop 1) 24 (by decide)
  have a1 := p8 (ms.drop 1) (n := 24) (by decide)
  have b1 := D5 (ms.drop 1) (n := 24) (by decide)
  have n2 := fun (E : Ctx) (hP : E.P = Tryz.prog) => H9 hP (ms.drop 2) 5 (by decide)
  have a2 := p8 (ms.drop 2) (n := 5) (by decide)
  have b2 := D5 (ms.drop 2) (n := 5) (by decide)
  have n3 := fun (E : Ctx) (hP : E.P = Tryz.prog) => H9 hP (ms.drop 3) 20 (by decide)
  have a3 := p8 (ms.drop 3) (n := 20) (by decide)
  have b3 := D5 (ms.drop 3) (n := 20) (by decide)
  simp only [List.drop_drop, A8, ints] at n0 n1 n2 n3
  have hnm := b7i i (by omega)
  have o1 := R9 (nx ms 40 - 20) (nx (ms.drop 1) 24 - 12) (by omega) (by omega)
  have o2 := a1n (nx (ms.drop 2) 5 - 2) 2 (by omega) (by decide)
  have o3 := a1n 1 (8 + nx (ms.drop 3) 20) (by decide) (by omega)
  unfold b4z at hL
  unfold atV at o1
  generalize Q (nx ms 40 - 20) 4 = qa at *
  generalize Q (nx (ms.drop 1) 24 - 12) 4 = qb at *
  generalize Q (nx (ms.drop 2) 5 - 2) 2 = qc at *
  generalize Q 1 (8 + nx (ms.drop 3) 20) = qd at *
  generalize a4v i = nm at *
  generalize nx ms 40 = x1 at *
  generalize nx (ms.drop 1) 24 = x2 at *
  generalize nx (ms.drop 2) 5 = x3 at *
  generalize nx (ms.drop 3) 20 = x4 at *
  simp only [Vt.c, Vt.enc, rc, sb, ints] at o1 o2 o3
  (repeat first | refine uI ?_ | (refine uK ?_ ?_; focus first | omega | (intros; simp_all <;> omega)) | simp (disch := omega) only [go_sem, Nat.reduceBEq, Nat.reduceAdd, ww])
  refine S.F5 [.gone, .gone, .box 31 [.rv 3, .rv 4, .rv 5, .rv 6, .rv 7, .v (.bool false), .v (.string ⟨#[]⟩), .v (.string ⟨#[]⟩)]] (by simp [Eng.F4, Eng.P5]) ?_
  (repeat first | refine uA ?_ | (refine uK ?_ ?_; focus first | omega | (intros; simp_all <;> omega)) | simp (disch := omega) only [go_sem, Nat.reduceBEq, Nat.reduceAdd, ww, c1J, hl, F4, hnm, c1R] | refine l8.t (j5.lift (k := 1) rfl (n0 _ rfl) rfl rfl rfl) ?_ | refine l8.t (j5.lift (k := 1) rfl (n1 _ rfl) rfl rfl rfl) ?_ | refine l8.t (j5.lift (k := 1) rfl (n2 _ rfl) rfl rfl rfl) ?_ | refine l8.t (j5.lift (k := 1) rfl (n3 _ rfl) rfl rfl rfl) ?_ | (refine uB o1 ?_ ?_; exact rfl) | (refine uB o2 ?_ ?_; exact rfl) | (refine uB o3 ?_ ?_; exact rfl))
  refine S.next (x := (i, ss, ms)) (i + 1, ss ++ [⟨nm, ⟨qa, qb, false, qc⟩, qd⟩], ms.drop 4) ⟨by simp only; omega, by simp [hl], by simp only; rw [c2r]; exact hL, by simp only; exact hM2⟩ (by simp only; omega) (by simp only [rsM, A8, X4, c2z, c2b, c2w]; exact (by (repeat first | refine uA ?_ | (refine ⟨?_, ?_⟩; focus first | rfl | simp [slot]) | rfl | simp)))
 have hi' : i = cS := by omega
 subst hi'
 rw [Nat.sub_self, a0y, List.append_nil] at hL
 rw [Nat.sub_self, Nat.mul_zero, List.drop_zero, List.drop_drop] at hM
 have hm : ms = L4 := by rw [q4]; exact hM
 subst hm
 rw [<- hL]
 (repeat first | refine uA ?_ | (refine uK ?_ ?_; focus first | omega | (intros; simp_all <;> omega)) | simp (disch := omega) only [go_sem, Nat.reduceBEq, Nat.reduceAdd, ww] | refine l8.t (j5.lift (k := 1) rfl (k4 _ rfl) rfl rfl rfl) ?_)
 rw [<- hc5]
 refine S.loop (X := Nat × List Gt × List Int) (fun x => ⟨[(2, .bp 0 0), (3, .bp 1 0), (4, .bp 2 0), (125, ints cG), (126, ints x.1)], rsM x.2.2 am ws ps ss x.2.1⟩)
  (fun x => x.1 <= cG /\ x.2.1.length = x.1 /\ x.2.1 ++ a0z (cG - x.1) x.2.2 = a0z cG (ms.drop 1) /\ x.2.2.drop (4 * (cG - x.1)) = (ms.drop 1).drop (4 * cG)) (fun x => cG - x.1) (0, [], ms.drop 1) ⟨c1Q _, rfl, rfl, rfl⟩ (by simp only [rsM, A8, X4]; exact (by (repeat first | refine uA ?_ | (refine ⟨?_, ?_⟩; focus first | rfl | simp [slot]) | rfl | simp))) ?_
 rintro ⟨i, gs, mg⟩ ⟨hi, hl, hL, hM⟩
 simp only [rsM, X4, A8, ints] at hi hl hL hM ⊢
 (repeat first | refine uA ?_ | (refine uK ?_ ?_; focus first | omega | (intros; simp_all <;> omega)) | simp (disch := omega) only [go_sem, Nat.reduceBEq, Nat.reduceAdd, ww])
 (refine uJ rfl (fun hc => ?_) fun hc => ?_)
 ·have hi' : i < cG := by omega
  rw [show cG - i = (cG - (i + 1)) + 1 by omega, a0z] at hL
  have hM2 : (mg.drop 4).drop (4 * (cG - (i + 1))) = (ms.drop 1).drop (4 * cG) := by rw [<- hM, List.drop_drop]; congr 1; omega
  have n0 := fun (E : Ctx) (hP : E.P = Tryz.prog) => H9 hP mg 60 (by decide)
  have a0 := p8 mg (n := 60) (by decide)
  have b0 := D5 mg (n := 60) (by decide)
  have n1 := fun (E : Ctx) (hP : E.P = Tryz.prog) => H9 hP (mg.drop 1) 60 (by decide)
  have a1 := p8 (mg.drop 1) (n := 60) (by decide)
  have b1 := D5 (mg.drop 1) (n := 60) (by decide)
  have n2 := fun (E : Ctx) (hP : E.P = Tryz.prog) => H9 hP (mg.drop 2) 12 (by decide)
  have a2 := p8 (mg.drop 2) (n := 12) (by decide)
  have b2 := D5 (mg.drop 2) (n := 12) (by decide)
  have n3 := fun (E : Ctx) (hP : E.P = Tryz.prog) => H9 hP (mg.drop 3) 12 (by decide)
  have a3 := p8 (mg.drop 3) (n := 12) (by decide)
  have b3 := D5 (mg.drop 3) (n := 12) (by decide)
  simp only [List.drop_drop, A8, ints] at n0 n1 n2 n3
  have o1 := R9 (nx mg 60 - 30) (nx (mg.drop 1) 60 - 30) (by omega) (by omega)
  have o2 := R9 (nx mg 60 - 30 + nx (mg.drop 2) 12) (nx (mg.drop 1) 60 - 30 + nx (mg.drop 3) 12) (by omega) (by omega)
  unfold b4R at hL
  generalize atV (nx mg 60 - 30) (nx (mg.drop 1) 60 - 30) = va at *
  generalize atV (nx mg 60 - 30 + nx (mg.drop 2) 12) (nx (mg.drop 1) 60 - 30 + nx (mg.drop 3) 12) = vb at *
  generalize nx mg 60 = x1 at *
  generalize nx (mg.drop 1) 60 = x2 at *
  generalize nx (mg.drop 2) 12 = x3 at *
  generalize nx (mg.drop 3) 12 = x4 at *
  simp only [Vt.c, Vt.enc, rc, sb, ints] at o1 o2
  (repeat first | refine uI ?_ | (refine uK ?_ ?_; focus first | omega | (intros; simp_all <;> omega)) | simp (disch := omega) only [go_sem, Nat.reduceBEq, Nat.reduceAdd, ww] | refine l8.t (j5.lift (k := 1) rfl (n0 _ rfl) rfl rfl rfl) ?_ | refine l8.t (j5.lift (k := 1) rfl (n1 _ rfl) rfl rfl rfl) ?_)
  refine S.F5 [.gone, .gone, .box 31 [.rv 3, .rv 4, .rv 5, .rv 6, .rv 7, .v (.bool false), .v (.string ⟨#[]⟩), .v (.string ⟨#[]⟩)]] (by simp [Eng.F4, Eng.P5]) ?_
  (repeat first | refine uA ?_ | (refine uK ?_ ?_; focus first | omega | (intros; simp_all <;> omega)) | simp (disch := omega) only [go_sem, Nat.reduceBEq, Nat.reduceAdd, ww, c1J, hl, F4] | refine l8.t (j5.lift (k := 1) rfl (n2 _ rfl) rfl rfl rfl) ?_ | refine l8.t (j5.lift (k := 1) rfl (n3 _ rfl) rfl rfl rfl) ?_ | (refine uB o1 ?_ ?_; exact rfl) | (refine uB o2 ?_ ?_; exact rfl))
  refine S.next (x := (i, gs, mg)) (i + 1, gs ++ [⟨[100, 111, 111, 114], va, vb⟩], mg.drop 4) ⟨by simp only; omega, by simp [hl], by simp only; rw [c2r]; exact hL, by simp only; exact hM2⟩ (by simp only; omega) (by simp only [rsM, A8, X4, c2z, c2b, c2w]; exact (by (repeat first | refine uA ?_ | (refine ⟨?_, ?_⟩; focus first | rfl | simp [slot]) | rfl | simp)))
 have hi' : i = cG := by omega
 subst hi'
 rw [Nat.sub_self, a0z, List.append_nil] at hL
 rw [Nat.sub_self, Nat.mul_zero, List.drop_zero, List.drop_drop] at hM
 have hm : mg = L5 := by rw [q5]; exact hM
 subst hm
 rw [<- hL]
 have o1 := a1n (nx mg 4) 8 (by omega) (by decide)
 generalize Q (nx mg 4) 8 = qw at *
 generalize nx mg 4 = x6 at *
 simp only [Wk.c, Wk.enc, ams, wls, pts, sls, gts, rc, sb, ints] at o1 ⊢
 (repeat first | refine uA ?_ | (refine uK ?_ ?_; focus first | omega | (intros; simp_all <;> omega)) | simp (disch := omega) only [go_sem, Nat.reduceBEq, Nat.reduceAdd, ww] | refine l8.t (j5.lift (k := 1) rfl (k5 _ rfl) rfl rfl rfl) ?_ | (refine uB o1 ?_ ?_; exact rfl))
 (refine S.done ?_; simp only [q8, l9, go_sem, Nat.reduceBEq, Nat.reduceAdd, Nat.reduceLeDiff, Int.reduceToNat, Int.reducePow]; (repeat (refine ⟨?_, ?_⟩; focus first | trivial | omega | simp)); exact j3.out rfl (Imp.agg (by (repeat' (first | exact l7.nil | exact Imp.refl rfl | exact Imp.frz rfl rfl rfl | exact Imp.I9 | refine l7.cons ?_ ?_)))) rfl)
def b5x : Wk := ⟨[], [], [], [], [], ⟨false, [], []⟩⟩
theorem a5k {w : World} {O : Nat -> Prop} {sz : Nat} : Fz w O (.sl sz []) (.slice none 0 0) := by
 simp only [Fz]
 exact ⟨none, 0, rfl, c1T _, c1Q _, fun h => absurd h (by simp)⟩
theorem b7O : FZ 8 [.agg [.v (.slice none 0 0), .v (.slice none 0 0), .v (.slice none 0 0), .v (.slice none 0 0), .v (.slice none 0 0), .v (.bool false), .v (.string ⟨#[]⟩), .v (.string ⟨#[]⟩)]] (ints 4) := by
 have h := a8f b5x ⟨⟨c1Q _, fun x hx => (by cases hx)⟩, ⟨c1Q _, fun x hx => (by cases hx)⟩, ⟨c1Q _, fun x hx => (by cases hx)⟩, ⟨c1Q _, fun x hx => (by cases hx)⟩, ⟨c1Q _, fun x hx => (by cases hx)⟩, ⟨c1Q _, c1Q _⟩⟩
 have he : a0d b5x = 4 := rfl
 rw [he] at h
 intro O w vs hw hO hA
 refine h O w vs hw hO ?_
 simp only [FzL, Fz] at hA
 obtain ⟨y, ys, rfl, ⟨us, ⟨y1, r1, rfl, rfl, y2, r2, rfl, rfl, y3, r3, rfl, rfl, y4, r4, rfl, rfl, y5, r5, rfl, rfl, y6, r6, rfl, rfl, y7, r7, rfl, rfl, y8, r8, rfl, rfl, rfl⟩, rfl⟩, rfl⟩ := hA
 refine ⟨_, _, rfl, ?_, rfl⟩
 simp only [Wk.c, Wk.enc, b5x, Fz]
 exact ⟨_, ⟨_, _, rfl, a5k, _, _, rfl, a5k, _, _, rfl, a5k, _, _, rfl, a5k, _, _, rfl, a5k, _, _, rfl, by simp only [Fz], _, _, rfl, by simp only [sb, Fz]; rfl, _, _, rfl, by simp only [sb, Fz]; rfl, rfl⟩, rfl⟩
set_option maxHeartbeats 16000000
theorem b9I {E : Ctx} (hP : E.P = Tryz.prog) (ht0 : Tz E) (l : List Int) :
  j5 E [] 6 [A8 l] (.tup [(D6 l).c, .agg [ints 0, .rv 6, .rv 7, .v (.slice none 0 0), .rv 8], .v (.bool true)]) [.gone, .gone, .gone, .gone, .gone, .gone, .row 61 4 ((G9 (D6 l)).arms.map Ast.enc), .row 48 10 ((G9 (D6 l)).parts.map Fr.enc), .row 4 1 ((G9 (D6 l)).gates.map fun b => [.v (.bool b)]), .gone] [] := by
 obtain ⟨P, eff', N, w0, own0, av0, nu0, pk0⟩ := E
 simp only at hP
 subst hP
 refine j5.ofT (eff := eff) ht0 Tryz.func6 (by cbv) (by exact c2a rfl) fun w' own av ν hν ht => ?_
 have hν0 : ν.length <= 0 := by rw [hν]; exact c1T _
 have hk := a7W l
 obtain ⟨ha, hs⟩ := a4Q l
 have hb := b5F l
 have h1 := b9L l
 have h2 := fun (E : Ctx) (hP : E.P = Tryz.prog) (ht : Tz E) => b8X hP ht (D6 l) hb hk
 have h3 := a7Y (D6 l) (G9 (D6 l)) hb (b5G hb ha hs)
 rw [a5v hk ha hs] at h3
 have h4 := b7O
 have e1 : (G9 (D6 l)).arms.length = (D6 l).arms.length := by simp [G9]
 have e2 : (G9 (D6 l)).parts.length = (D6 l).parts.length := by simp [G9]
 have e3 : (G9 (D6 l)).people = [] := rfl
 have e4 : (G9 (D6 l)).tick = 0 := rfl
 generalize G9 (D6 l) = s at *
 generalize D6 l = w at *
 obtain ⟨arms, walls, parts, slots, gates, walk⟩ := w
 obtain ⟨tick, sarms, sparts, people, sgates⟩ := s
 simp only at e1 e2 e3 e4
 subst e3 e4
 have d1 : decide ((sarms.length : Int) = (arms.length : Int)) = true := decide_eq_true (by omega)
 have d2 : decide ((sparts.length : Int) = (parts.length : Int)) = true := decide_eq_true (by omega)
 simp only [l6]
 simp only [Wk.c, Wk.enc, Stt.c, Stt.enc, ams, wls, pts, sls, gts, L8, frs, vts, bls, rc, sb, ints, A8, c2w] at h1 h2 h3 h4 ⊢
 (repeat first | refine uI ?_ | (refine uK ?_ ?_; focus first | omega | (intros; simp_all <;> omega)) | simp (disch := omega) only [go_sem, Nat.reduceBEq, Nat.reduceAdd, ww, C.sh, C.shL, c1W, List.length_nil, c1J] | refine l8.t (j5.pre (h2 _ rfl ht) rfl rfl rfl) ?_ | (refine uB h1 ?_ ?_; exact rfl))
 refine S.F5 [.gone, .gone, .gone, .gone, .gone, .gone, .gone, .gone, .gone, .box 37 [.v (.int .i64 0), .rv 6, .rv 7, .v (.slice none 0 0), .rv 8]] (by simp [Eng.F4, Eng.P5]) ?_
 (repeat first | refine uA ?_ | (refine uK ?_ ?_; focus first | omega | (intros; simp_all <;> omega)) | simp (disch := omega) only [go_sem, Nat.reduceBEq, Nat.reduceAdd, ww, F4, c1J, e1, e2, d1, d2, decide_true, Bool.and_self] | (refine uD h4 ?_ ?_ ?_; exact ht; exact rfl) | (refine uE h3 ?_ ?_ ?_ ?_; exact ht; exact rfl; focus (repeat' first | exact l7.nil | exact Imp.refl rfl | exact Imp.I9 | exact Imp.fbx rfl rfl (l7.refl rfl) rfl rfl | refine Imp.clo ?_ | exact Imp.frz rfl rfl rfl | (refine Imp.a0j rfl rfl ?_ ?_; (focus ((try simp only [c1Y, F4, c1J, e1, e2, d1, d2, decide_true, Bool.and_self]); omega)); (focus first | rfl | assumption)) | refine Imp.agg ?_ | refine l7.cons ?_ ?_); done))
 (refine S.done ?_; simp only [q8, l9, go_sem, Nat.reduceBEq, Nat.reduceAdd, Nat.reduceLeDiff, Int.reduceToNat, Int.reducePow]; (repeat (refine ⟨?_, ?_⟩; focus first | trivial | omega | simp)); exact j3.N9 (Imp.tup (by (repeat' (first | exact l7.nil | exact Imp.refl rfl | exact Imp.frz rfl rfl rfl | exact Imp.I9 | refine Imp.agg ?_ | refine l7.cons ?_ ?_)))) (by (repeat first | refine uA ?_ | (refine ⟨?_, ?_⟩; focus first | rfl | simp [slot]) | rfl | simp)) (c1M hν0 (by simp)))
open Go Eng
theorem a8I {n : Int} (h : -9223372036854775808 <= n /\ n <= 9223372036854775807) : IntKind.i64.wrap n = n := by
 rw [show IntKind.i64.wrap n = if n % 18446744073709551616 >= 9223372036854775808 then n % 18446744073709551616 - 18446744073709551616 else n % 18446744073709551616 by simp [IntKind.wrap, IntKind.signed, IntKind.bits]]
 split <;> omega
theorem a8Q (a : Nm.Rt) (h : j4 a = true) : F7 Tryz.prog 138 [rc a] (.tup [ints (nuI a), ints (deI a)]) := by
 refine kS Tryz.func138 (by cbv) (by rfl) fun w O => ?_
 have hI := a9C h
 have hn : a.num.length <= 3 := (W9 h).1
 have hd : a.den.length <= 3 := (W9 h).2
 unfold nuI deI Nm.sgn at *
 obtain ⟨neg, num, den⟩ := a
 simp only at hI hn hd ⊢
 simp only [l6]
 simp only [rc, sb, ints]
 (repeat first | refine uA ?_ | (refine uK ?_ ?_; focus first | omega | (intros; simp_all <;> omega)) | simp (disch := omega) only [go_sem, Nat.reduceBEq, Nat.reduceAdd, ww, D9])
 refine S.loop (X := Nat) (fun i => ⟨[(1, .bp 0 0), (4, ints (Nm.val (num.take i))), (5, ints 0), (12, .sl 1 (num.map F6)), (13, ints num.length), (14, ints i)], [.box 29 [.v (.bool neg), sb num, sb den]]⟩) (fun i => i <= num.length) (fun i => num.length - i) 0 (c1Q _) (by (repeat first | refine uA ?_ | (refine ⟨?_, ?_⟩; focus first | rfl | simp [slot]) | rfl | simp)) ?_
 intro i hi
 simp only [sb, ints] at hi ⊢
 have hb := b2p hn i
 (repeat first | refine uA ?_ | (refine uK ?_ ?_; focus first | omega | (intros; simp_all <;> omega)) | simp (disch := omega) only [go_sem, Nat.reduceBEq, Nat.reduceAdd, ww])
 (refine uJ rfl (fun hc => ?_) fun hc => ?_)
 ·have hi' : i < num.length := by omega
  have hgi := c1I hi'
  have hap : num.take (i + 1) = num.take i ++ [num[i]] := c2A hi'
  have hv := a3V (num.take i) num[i]
  rw [<- hap] at hv
  generalize num[i] = c at hgi hv
  have hc8 := UInt8.toNat_lt c
  have w1 : IntKind.i64.wrap (c.toNat : Int) = (c.toNat : Int) := a8I (by omega)
  have w2 : IntKind.i64.wrap (256 * (Nm.val (num.take i) : Int) + (c.toNat : Int)) = 256 * (Nm.val (num.take i) : Int) + (c.toNat : Int) := a8I (by omega)
  (repeat first | refine uA ?_ | (refine uK ?_ ?_; focus first | omega | (intros; simp_all <;> omega)) | simp (disch := omega) only [go_sem, Nat.reduceBEq, Nat.reduceAdd, ww, hgi, c1K, c1J, F6, c1R, w1, w2])
  refine S.next (i + 1) (by omega) (by omega) (by rw [hv]; exact (by (repeat first | refine uA ?_ | (refine ⟨?_, ?_⟩; focus first | rfl | simp [slot]) | rfl | simp)))
 have hi' : i = num.length := by omega
 subst hi'
 rw [c2i]
 (repeat first | refine uA ?_ | (refine uK ?_ ?_; focus first | omega | (intros; simp_all <;> omega)) | simp (disch := omega) only [go_sem, Nat.reduceBEq, Nat.reduceAdd, ww, D9])
 refine S.loop (X := Nat) (fun i => ⟨[(1, .bp 0 0), (4, ints (Nm.val num)), (5, ints (Nm.val (den.take i))), (26, .sl 1 (den.map F6)), (27, ints den.length), (28, ints i)], [.box 29 [.v (.bool neg), sb num, sb den]]⟩) (fun i => i <= den.length) (fun i => den.length - i) 0 (c1Q _) (by (repeat first | refine uA ?_ | (refine ⟨?_, ?_⟩; focus first | rfl | simp [slot]) | rfl | simp)) ?_
 intro i hi
 simp only [sb, ints] at hi ⊢
 have hb := b2p hd i
 (repeat first | refine uA ?_ | (refine uK ?_ ?_; focus first | omega | (intros; simp_all <;> omega)) | simp (disch := omega) only [go_sem, Nat.reduceBEq, Nat.reduceAdd, ww])
 (refine uJ rfl (fun hc => ?_) fun hc => ?_)
 ·have hi' : i < den.length := by omega
  have hgi := c1I hi'
  have hap : den.take (i + 1) = den.take i ++ [den[i]] := c2A hi'
  have hv := a3V (den.take i) den[i]
  rw [<- hap] at hv
  generalize den[i] = c at hgi hv
  have hc8 := UInt8.toNat_lt c
  have w1 : IntKind.i64.wrap (c.toNat : Int) = (c.toNat : Int) := a8I (by omega)
  have w2 : IntKind.i64.wrap (256 * (Nm.val (den.take i) : Int) + (c.toNat : Int)) = 256 * (Nm.val (den.take i) : Int) + (c.toNat : Int) := a8I (by omega)
  (repeat first | refine uA ?_ | (refine uK ?_ ?_; focus first | omega | (intros; simp_all <;> omega)) | simp (disch := omega) only [go_sem, Nat.reduceBEq, Nat.reduceAdd, ww, hgi, c1K, c1J, F6, c1R, w1, w2])
  refine S.next (i + 1) (by omega) (by omega) (by rw [hv]; exact (by (repeat first | refine uA ?_ | (refine ⟨?_, ?_⟩; focus first | rfl | simp [slot]) | rfl | simp)))
 have hi' : i = den.length := by omega
 subst hi'
 rw [c2i]
 (repeat first | refine uA ?_ | (refine uK ?_ ?_; focus first | omega | (intros; simp_all <;> omega)) | simp (disch := omega) only [go_sem, Nat.reduceBEq, Nat.reduceAdd, ww])
 refine S.cond rfl (fun hc => ?_) (fun hc => ?_)
 ·subst hc
  rw [if_pos rfl] at hI ⊢
  rw [show -(Nm.val num : Int) = 0 - (Nm.val num : Int) by omega, show max (Nm.val den : Int) 1 = if (Nm.val den : Int) < 1 then 1 else (Nm.val den : Int) by split <;> omega]
  (repeat first | refine uA ?_ | (refine uK ?_ ?_; focus first | omega | (intros; simp_all <;> omega)) | simp (disch := omega) only [go_sem, Nat.reduceBEq, Nat.reduceAdd, ww])
  (refine S.done ?_; simp only [q8, l9, go_sem, Nat.reduceBEq, Nat.reduceAdd, Nat.reduceLeDiff, Int.reduceToNat, Int.reducePow]; (repeat (refine ⟨?_, ?_⟩; focus first | trivial | omega | simp)); exact j3.out rfl (Imp.tup (by (repeat' (first | exact l7.nil | exact Imp.refl rfl | exact Imp.frz rfl rfl rfl | exact Imp.I9 | refine Imp.agg ?_ | refine l7.cons ?_ ?_)))) rfl)
 ·subst hc
  rw [if_neg (by decide)] at hI ⊢
  rw [show max (Nm.val den : Int) 1 = if (Nm.val den : Int) < 1 then 1 else (Nm.val den : Int) by split <;> omega]
  (repeat first | refine uA ?_ | (refine uK ?_ ?_; focus first | omega | (intros; simp_all <;> omega)) | simp (disch := omega) only [go_sem, Nat.reduceBEq, Nat.reduceAdd, ww])
  (refine S.done ?_; simp only [q8, l9, go_sem, Nat.reduceBEq, Nat.reduceAdd, Nat.reduceLeDiff, Int.reduceToNat, Int.reducePow]; (repeat (refine ⟨?_, ?_⟩; focus first | trivial | omega | simp)); exact j3.out rfl (Imp.tup (by (repeat' (first | exact l7.nil | exact Imp.refl rfl | exact Imp.frz rfl rfl rfl | exact Imp.I9 | refine Imp.agg ?_ | refine l7.cons ?_ ?_)))) rfl)
theorem c0A {E : Ctx} (hP : E.P = Tryz.prog) (a : Am) (l : List Int) (ha : J4 a = 0) :
  j5 E [.box 145 [A8 l]] 100 [a.c, .bp 0 0] (rts (N7 a.links l)) [.box 145 [A8 (l.drop a.links.length)]] [] := by
 obtain ⟨P, eff', N, w0, own0, av0, nu0, pk0⟩ := E
 simp only at hP
 subst hP
 refine j5.of (eff := eff) Tryz.func100 (by cbv) (by exact c2a rfl) fun w own av ν hν => ?_
 have hν0 : ν.length <= 1 := by rw [hν]; exact c1T _
 have hl := (O4 ha).2
 have h3 := (O8 ha).2
 obtain ⟨name, base, links⟩ := a
 simp only at hl h3 ⊢
 simp only [l6]
 simp only [Am.c, Am.enc, lks, rts, A8, sb, ints]
 (repeat first | refine uA ?_ | (refine uK ?_ ?_; focus first | omega | (intros; simp_all <;> omega)) | simp (disch := omega) only [go_sem, Nat.reduceBEq, Nat.reduceAdd, ww, c1J])
 refine S.loop (X := Nat) (fun i => ⟨[(1, .bp 0 0), (5, .rv 2), (14, lks links), (15, ints links.length), (16, ints i)], [.box 145 [A8 (l.drop i)], .gone, .row 29 3 ((N7 (links.take i) l).map rcs)]⟩) (fun i => i <= links.length) (fun i => links.length - i) 0 (c1Q _)
  (Ent.trans (Ent.pack 5 29 3 rfl) (by (repeat first | refine uA ?_ | (refine ⟨?_, ?_⟩; focus first | rfl | simp [slot]) | rfl | simp | exact c1M hν0 (by simp)))) ?_
 intro i hi
 simp only [lks, A8, ints]
 (repeat first | refine uA ?_ | (refine uK ?_ ?_; focus first | omega | (intros; simp_all <;> omega)) | simp (disch := omega) only [go_sem, Nat.reduceBEq, Nat.reduceAdd, ww])
 (refine uJ rfl (fun hc => ?_) fun hc => ?_)
 ·have hi' : i < links.length := by omega
  have hgi := c1I hi'
  have hsn := a8C links l i _ hgi
  have hln : (N7 (links.take i) l).length = i := by rw [a0C, c1V]; omega
  have hx := hl _ (c1L hgi)
  generalize links[i] = x at hgi hsn hx
  obtain ⟨s1, s2⟩ := a9l hx
  have k := fun (E : Ctx) (hP : E.P = Tryz.prog) => H9 hP (l.drop i) 9 (by decide)
  have f1 := a8Q x.low s1
  have f2 := a8Q x.high s2
  have hb := a9w s1 s2 (nx9 (l.drop i))
  have hk := nx9 (l.drop i)
  have hcr : a2S x (nx (l.drop i) 9) = Q (8 * nuI x.low * deI x.high + (nuI x.high * deI x.low - nuI x.low * deI x.high) * nx (l.drop i) 9) (8 * deI x.low * deI x.high) := rfl
  obtain ⟨b1, b2, b3, b4, b5, b6, b7, b8, b9, b10⟩ := hb
  have o := a1n (8 * nuI x.low * deI x.high + (nuI x.high * deI x.low - nuI x.low * deI x.high) * nx (l.drop i) 9) (8 * deI x.low * deI x.high) (by omega) (by omega)
  rw [<- hcr] at o
  rw [List.drop_drop] at k
  generalize a2S x (nx (l.drop i) 9) = r at *
  generalize nx (l.drop i) 9 = y at *
  generalize nuI x.low = m1 at *
  generalize nuI x.high = m2 at *
  generalize deI x.low = d1 at *
  generalize deI x.high = d2 at *
  simp only [rc, A8, sb, ints] at k f1 f2 o
  (repeat first | refine uA ?_ | (refine uK ?_ ?_; focus first | omega | (intros; simp_all <;> omega)) | simp (disch := omega) only [go_sem, Nat.reduceBEq, Nat.reduceAdd, ww, hgi, c1K, c1J, hln, Lk.enc, vts, sb, c1R] | refine l8.t (j5.lift (k := 0) rfl (k _ rfl) rfl rfl rfl) ?_ | (refine uB f1 ?_ ?_; exact rfl) | (refine uB f2 ?_ ?_; exact rfl) | (refine uB o ?_ ?_; exact rfl))
  refine S.next (i + 1) (by omega) (by omega) (by simp only [hsn, c2z, c2b, c2w, rcs, sb]; exact (by (repeat first | refine uA ?_ | (refine ⟨?_, ?_⟩; focus first | rfl | simp [slot]) | rfl | simp | exact c1M hν0 (by simp))))
 have hi' : i = links.length := by omega
 subst hi'
 rw [c2i]
 (repeat first | refine uA ?_ | (refine uK ?_ ?_; focus first | omega | (intros; simp_all <;> omega)) | simp (disch := omega) only [go_sem, Nat.reduceBEq, Nat.reduceAdd, ww])
 (refine S.done ?_; simp only [q8, l9, go_sem, Nat.reduceBEq, Nat.reduceAdd, Nat.reduceLeDiff, Int.reduceToNat, Int.reducePow]; (repeat (refine ⟨?_, ?_⟩; focus first | trivial | omega | simp)); exact j3.N9 (Imp.frz rfl rfl rfl) (by (repeat first | refine uA ?_ | (refine ⟨?_, ?_⟩; focus first | rfl | simp [slot]) | rfl | simp)) (c1M hν0 (by simp)))
theorem b6z (a : Am) (l : List Int) (ha : J4 a = 0) : F7 Tryz.prog 50 [a.c, A8 l] (rts (N7 a.links l)) := by
 refine kS Tryz.func50 (by cbv) (by rfl) fun w O => ?_
 have k := fun (E : Ctx) (hP : E.P = Tryz.prog) => c0A hP a l ha
 generalize N7 a.links l = r at *
 obtain ⟨name, base, links⟩ := a
 simp only [l6]
 simp only [Am.c, Am.enc, lks, rts, A8, sb, ints] at k ⊢
 (repeat first | refine uA ?_ | (refine uK ?_ ?_; focus first | omega | (intros; simp_all <;> omega)) | simp (disch := omega) only [go_sem, Nat.reduceBEq, Nat.reduceAdd, ww] | refine l8.t (j5.lift (k := 1) rfl (k _ rfl) rfl rfl rfl) ?_)
 exact S.done (j3.out rfl (Imp.refl rfl) rfl)
theorem j5.b1k {E : Ctx} {rs rs2 rs' : List Res} {f : Nat} {args args' : List C} {s : C} {pk : List Nat} (h : j5 E rs2 f args' s rs' pk) (hi : l7 rs rs2 args args') (hrs : J7 rs rs2 rs2 rs) (hlen : rs2.length = rs.length) : j5 E rs f args s rs' pk := by
 intro av ν w vs hR hav hF hD
 have hk := a2e hrs
 have hD' := hi.den hR (Cut.of hR hk) hD
 have et : ν.take rs2.length = ν := by rw [hlen, <- hR.len]; exact c2i
 rw [et] at hD'
 have hR2 := hR.weak hrs
 rw [et] at hR2
 refine (h av ν w vs hR2 hav hF hD').mono ?_
 rintro e w' ⟨y, ν', rfl, h1, h2, h3⟩
 exact ⟨y, ν', rfl, h1, ⟨h2.os, h2.tape, h2.output, h2.size, fun b hb hn => h2.block b hb (fun ho => hn (a5O hk ho)), fun b hb => (h2.own b hb).imp (a5O hk) id, h2.nu⟩, h3⟩
def a3b (w : Wk) (to : List Int) : List Ast := (List.range w.arms.length).map (b1r w to)
theorem b6V {w : Wk} {to : List Int} {i : Nat} {a : Am} (h : w.arms[i]? = some a) : (a3b w to)[i]? = some (D8 a (to.drop (3 * i)) (-1)) := by
 have hi := (c1O.1 h).1
 unfold a3b
 rw [c2x, List.getElem?_range hi, c1K]
 unfold b1r
 rw [h]
theorem b6c (w : Wk) (to : List Int) : (a3b w to).length = w.arms.length := by unfold a3b; simp
theorem b7I {α : Type} {l m : List α} {i : Nat} {y : α} (hl : l.length = m.length) (hy : m[i]? = some y) : (l.take i ++ m.drop i)[i]? = some y := by
 have hi := (c1O.1 hy).1
 have h1 : (l.take i).length = i := by rw [c1V]; omega
 rw [c2c (by omega), h1, Nat.sub_self, c2y, Nat.add_zero, hy]
theorem b9E {E : Ctx} (hP : E.P = Tryz.prog) (ht0 : Tz E) (l to : List Int) (hn : to.length <= 1048576) :
  j5 E [] 10 [A8 l, A8 to] (.tup [(D6 l).c, .agg [ints 0, .rv 8, .rv 9, .v (.slice none 0 0), .rv 10], .v (.bool true)]) [.gone, .gone, .gone, .gone, .gone, .gone, .gone, .gone, .row 61 4 ((a3b (D6 l) to).map Ast.enc), .row 48 10 ((G9 (D6 l)).parts.map Fr.enc), .row 4 1 ((G9 (D6 l)).gates.map fun b => [.v (.bool b)]), .gone, .gone, .gone] [] := by
 obtain ⟨P, eff', N, w0, own0, av0, nu0, pk0⟩ := E
 simp only at hP
 subst hP
 refine j5.ofT (eff := eff) ht0 Tryz.func10 (by cbv) (by exact c2a rfl) fun w' own av ν hν ht => ?_
 have hν0 : ν.length <= 0 := by rw [hν]; exact c1T _
 have hbg := fun (E : Ctx) (hP : E.P = Tryz.prog) (ht : Tz E) => b9I hP ht l
 obtain ⟨ha, hs⟩ := a4Q l
 have hbig : (D6 l).arms.length <= 4 := (a0n (a5v (a7W l) ha hs)).big.2.1
 have hpg := fun (i : Nat) (a : Am) (h : (D6 l).arms[i]? = some a) => b6V (to := to) h
 have hpl := b6c (D6 l) to
 have hfa : (G9 (D6 l)).arms = (D6 l).arms.map Q6 := rfl
 generalize a3b (D6 l) to = L at *
 generalize G9 (D6 l) = s at *
 generalize D6 l = w at *
 obtain ⟨arms, walls, parts, slots, gates, walk⟩ := w
 obtain ⟨tick, sarms, sparts, people, sgates⟩ := s
 simp only at hfa hbig hpg hpl ha
 have hsl : sarms.length = arms.length := by rw [hfa, c1J]
 simp only [l6]
 simp only [Wk.c, Wk.enc, ams, wls, pts, sls, gts, sb, ints, A8] at hbg ⊢
 (repeat first | refine uA ?_ | (refine uK ?_ ?_; focus first | omega | (intros; simp_all <;> omega)) | simp (disch := omega) only [go_sem, Nat.reduceBEq, Nat.reduceAdd, ww, C.sh, C.shL, c1W, List.length_nil, c1J] | refine l8.t (j5.pre (hbg _ rfl ht) rfl rfl rfl) ?_)
 refine S.cond rfl (fun hc => by simp at hc) (fun hc => ?_)
 (repeat first | refine uA ?_ | (refine uK ?_ ?_; focus first | omega | (intros; simp_all <;> omega)) | simp (disch := omega) only [go_sem, Nat.reduceBEq, Nat.reduceAdd, ww, c1J])
 refine S.loop (X := Nat) (fun i => ⟨[(1, A8 to), (4, .bp 0 0), (5, .bp 1 0), (7, .bp 12 0), (8, .bp 13 0), (23, ams arms), (24, ints arms.length), (25, ints i)], [.box 31 [.v (.slice none 0 0), .v (.slice none 0 0), .v (.slice none 0 0), .v (.slice none 0 0), .v (.slice none 0 0), .v (.bool false), .v (.string ⟨#[]⟩), .v (.string ⟨#[]⟩)], .box 37 [.v (.int .i64 0), .v (.slice none 0 0), .v (.slice none 0 0), .v (.slice none 0 0), .v (.slice none 0 0)], .gone, .gone, .gone, .gone, .gone, .gone, .row 61 4 ((L.take i ++ sarms.drop i).map Ast.enc), .row 48 10 (sparts.map Fr.enc), .row 4 1 (sgates.map fun b => [.v (.bool b)]), .gone, .box 31 [ams arms, wls walls, pts parts, sls slots, gts gates, .v (.bool walk.neg), sb walk.num, sb walk.den], .box 37 [.v (.int .i64 0), .rv 8, .rv 9, .v (.slice none 0 0), .rv 10]]⟩) (fun i => i <= arms.length) (fun i => arms.length - i) 0 (c1Q _) (by (repeat first | refine uA ?_ | (refine ⟨?_, ?_⟩; focus first | rfl | simp [slot]) | rfl | simp | exact c1M hν0 (by simp))) ?_
 intro i hi
 simp only [ams, wls, pts, sls, gts, A8, sb, ints]
 (repeat first | refine uA ?_ | (refine uK ?_ ?_; focus first | omega | (intros; simp_all <;> omega)) | simp (disch := omega) only [go_sem, Nat.reduceBEq, Nat.reduceAdd, ww])
 (refine uJ rfl (fun hc => ?_) fun hc => ?_)
 ·have hi' : i < arms.length := by omega
  have hga := c1I hi'
  have hpi := hpg i _ hga
  have hm1 : sarms[i]? = some (Q6 arms[i]) := by rw [hfa, c2x, hga]; rfl
  have haa := ha _ (c1L hga)
  generalize arms[i] = a at *
  have hms := b4v (l := L) (m := sarms) (by omega) hpi
  have hmg := b7I (l := L) (m := sarms) (by omega) hm1
  have hml := a3C (l := L) (m := sarms) (i := i) (by omega) (by omega)
  have hC := b6z a (to.drop (3 * i)) haa
  have hpe : D8 a (to.drop (3 * i)) (-1) = ⟨N7 a.links (to.drop (3 * i)), a.links.map fun _ => Nm.ofQ 0, false, -1⟩ := rfl
  have hfe : Q6 a = ⟨a.links.map a0v, a.links.map fun _ => Nm.ofQ 0, false, -1⟩ := rfl
  rw [hpe] at hms
  rw [hfe] at hmg
  have hmn : (if 3 * (i : Int) < (to.length : Int) then 3 * (i : Int) else (to.length : Int)) = ((min to.length (3 * i) : Nat) : Int) := by split <;> omega
  have hdm : (to.drop (min to.length (3 * i))).take (to.length - min to.length (3 * i)) = to.drop (3 * i) := by
   rw [b1V, c2e (by rw [c2t]; omega)]
  have hmll : min to.length (3 * i) <= to.length := Nat.min_le_left _ _
  have hse : ((L.take i ++ sarms.drop i).map Ast.enc).set i [rts (N7 a.links (to.drop (3 * i))), rts (a.links.map fun _ => Nm.ofQ 0), .v (.bool false), .v (.int .i64 (-1))] = (L.take (i + 1) ++ sarms.drop (i + 1)).map Ast.enc := by rw [<- hms, List.map_set]; rfl
  clear hms hpe hfe hpi hm1
  generalize N7 a.links (to.drop (3 * i)) = c at *
  generalize min to.length (3 * i) = mm at *
  generalize to.drop (3 * i) = td at *
  generalize hM2 : L.take (i + 1) ++ sarms.drop (i + 1) = M2 at *
  generalize L.take i ++ sarms.drop i = M1 at *
  simp only [Am.c, Am.enc, lks, rts, A8, sb, ints] at hC hse
  (repeat first | refine uA ?_ | (refine uK ?_ ?_; focus first | omega | (intros; simp_all <;> omega)) | simp (disch := omega) only [go_sem, Nat.reduceBEq, Nat.reduceAdd, ww, hga, hmg, hse, hml, c1K, c1J, Am.enc, Ast.enc, lks, rts, sb, ints, hmn, hdm, c1R] | (refine uB hC ?_ ?_; exact rfl))
  refine S.next (i + 1) (by omega) (by omega) (by simp only [hM2]; exact (by (repeat first | refine uA ?_ | (refine ⟨?_, ?_⟩; focus first | rfl | simp [slot]) | rfl | simp | exact c1M hν0 (by simp))))
 have hi' : i = arms.length := by omega
 subst hi'
 have hme := mid_end (l := L) (m := sarms) (by omega)
 rw [hsl] at hme
 rw [hme]
 (repeat first | refine uI ?_ | (refine uK ?_ ?_; focus first | omega | (intros; simp_all <;> omega)) | simp (disch := omega) only [go_sem, Nat.reduceBEq, Nat.reduceAdd, ww])
 refine S.F5 [.gone, .gone, .gone, .gone, .gone, .gone, .gone, .gone, .gone, .gone, .gone, .gone, .gone, .box 37 [.v (.int .i64 0), .rv 8, .rv 9, .v (.slice none 0 0), .rv 10]] (by simp [Eng.F4, Eng.P5]) ?_
 (repeat first | refine uA ?_ | (refine uK ?_ ?_; focus first | omega | (intros; simp_all <;> omega)) | simp (disch := omega) only [go_sem, Nat.reduceBEq, Nat.reduceAdd, ww, F4, c1J])
 (refine S.done ?_; simp only [q8, l9, go_sem, Nat.reduceBEq, Nat.reduceAdd, Nat.reduceLeDiff, Int.reduceToNat, Int.reducePow]; (repeat (refine ⟨?_, ?_⟩; focus first | trivial | omega | simp)); exact j3.N9 (Imp.tup (by (repeat' (first | exact l7.nil | exact Imp.refl rfl | exact Imp.frz rfl rfl rfl | exact Imp.I9 | refine Imp.agg ?_ | refine l7.cons ?_ ?_)))) (by (repeat first | refine uA ?_ | (refine ⟨?_, ?_⟩; focus first | rfl | simp [slot]) | rfl | simp)) (c1M hν0 (by simp)))
def a2A : Q8 := ⟨74, [.tmp 6], .seq (.reg [OA 3 (.box 31 (TT 0)), OA 4 (.box 37 (TT 1)), OA 6 (.mv (.const (.slice none 0 0)))]) (.seq (.reg [OA 7 (.mv (.const (.slice none 0 0)))]) (.seq (.seq (.reg [FF 14 0 3, VV 15 14, OA 16 (.len false (TT
 15)), OA 17 (.mv (II 0))]) (.block 0 (.loop (.seq (.reg [OA 18 (.bin .lss (TT 17) (TT 16))]) (.seq (.cond (TT 18) .skip (.exit 0)) (.seq (.block 1 (.seq (.reg [MM 19 17, OA 20 (.p9 12 (TT 15) (TT 17)), LL 21 12 20, OA 9
 (.alloc 51 [.string ⟨#[]⟩, .bool false, .string ⟨#[]⟩, .string ⟨#[]⟩, .bool false, .string ⟨#[]⟩, .string ⟨#[]⟩, .bool false, .bool false, .string ⟨#[]⟩, .string ⟨#[]⟩, .slice none 0 0]), MM 8 19, OB (.store 12 (TT 9) (TT 21))])
 (.seq (.reg [OA 10 (.mv (.const (.slice none 0 0)))]) (.seq (.seq (.F5 [.q, .q, .q, .q, .q, .q, .q, .q, .q, .q, .q] [LL 22 12 9, MM 23 2, MM 24 2, OA 25 (.len false (TT 24)), MM 26 8, OA 27 (.bin .mul (II 3) (TT 26)), OA 28
 (.min (TT 25) (TT 27)), OA 29 (.a3k 1 (TT 23) (some (TT 28)) none), OA 30 (.call 50 [TT 22, TT 29]), OA 31 (.len false (TT 30)), OA 32 (.mv (II 0))]) (.block 2 (.loop (.seq (.reg [OA 33 (.bin .lss (TT 32) (TT 31))]) (.seq
 (.cond (TT 33) .skip (.exit 2)) (.seq (.block 3 (.seq (.reg [MM 34 32, OA 35 (.p9 3 (TT 30) (TT 32)), LL 36 3 35, OA 12 (.alloc 29 [.bool false, .string ⟨#[]⟩, .string ⟨#[]⟩]), MM 11 34, OB (.store 3 (TT 12) (TT 36))]) (.seq
 (.F5 [.q, .q, .q, .q, .q, .q, .q, .q, .q, .q, .q, .a, .e (some 13) true] [LL 37 3 12, FF 38 1 4, VV 39 38, MM 40 8, OA 41 (.p9 4 (TT 39) (TT 40)), FF 42 0 41, VV 43 42, MM 44 11, OA 45 (.p9 3 (TT 43) (TT 44)), LL 46 3
 45, OA 47 (.call 66 [TT 37, TT 46]), OA 13 (.alloc 29 [.bool false, .string ⟨#[]⟩, .string ⟨#[]⟩]), OB (.store 3 (TT 13) (TT 47))]) (.F5 [.q, .q, .q, .q, .q, .q, .q, .q, .q, .q, .q, .q, .q, .q, .q, .q, .q, .q, .e none true,
 .q] [MM 48 10, FF 49 11 9, VV 50 49, MM 51 11, OA 52 (.p9 16 (TT 50) (TT 51)), FF 53 9 52, LL 54 3 53, OA 55 (.call 68 [TT 54]), FF 56 11 9, VV 57 56, MM 58 11, OA 59 (.p9 16 (TT 57) (TT 58)), FF 60 9 59, LL 61 3 60, LL 62
 3 13, OA 63 (.call 69 [TT 61, TT 62]), OA 64 (.call 67 [TT 55, TT 63]), OA 65 (.bsl 29 3 1 [.bool false, .string ⟨#[]⟩, .string ⟨#[]⟩] [(0, TT 64)]), OA 66 (.app 29 3 40 (TT 48) (TT 65)), MM 10 66])))) (.reg [OA 67 (.bin .add
 (TT 32) (II 1)), MM 32 67]))))))) (.reg [MM 68 7, MM 69 10, OA 70 (.bsl 59 1 1 [.slice none 0 0] [(0, TT 69)]), OA 71 (.app 59 1 24 (TT 68) (TT 70)), MM 7 71]))))) (.reg [OA 72 (.bin .add (TT 17) (II 1)), MM 17 72]))))))) (.seq
 (.reg [MM 73 7, MM 6 73]) .ret)))⟩
theorem a6f : M6 eff Tryz.prog Tryz.f16 = some a2A := by kernel_rfl
theorem a6e : Tryz.prog.funcs[16]? = some Tryz.f16 := Tryz.func16
theorem b7D (w : Wk) (s : Stt) (to : List Int) (k : Nat) (h : b1I w s k) (hk : k <= 10) (hn : to.length <= 1048576) : FZ 16 [w.c, s.c, A8 to] (wss (a0U (w.arms.zip s.arms) to w.arms.length)) := by
 refine kW a6e a6f (by rfl) fun w' O hw => ?_
 have hok := a0n h.st
 have hone := hok.one
 have hla := hok.arms
 have hbig := hok.big.2.1
 have hq := h.q
 have hwl := fun (i : Nat) (a : Am) (ha : w.arms[i]? = some a) => b0C (to := to) h ha
 obtain ⟨arms, walls, parts, slots, gates, walk⟩ := w
 obtain ⟨tick, sarms, sparts, people, sgates⟩ := s
 simp only at hone hla hbig hq hwl ⊢
 generalize hz : arms.zip sarms = z at *
 simp only [a2A, l6, TT, II, OA, OB, OC, MM, LL, VV, FF, MG, LG, VG, FG]
 simp only [Wk.c, Wk.enc, Stt.c, Stt.enc, ams, wls, pts, sls, gts, L8, frs, vts, bls, wss, A8, sb, ints]
 (repeat first | refine uA ?_ | (refine uK ?_ ?_; focus first | omega | (intros; simp_all <;> omega)) | simp (disch := omega) only [go_sem, Nat.reduceBEq, Nat.reduceAdd, ww, c1J])
 refine S.loop (X := Nat) (fun i => ⟨[(2, A8 to), (4, .bp 1 0), (7, .rv 2), (15, ams arms), (16, ints arms.length), (17, ints i)], [.gone, .box 37 [ints tick, L8 sarms, frs sparts, vts people, bls sgates], .row 59 1 ((a0U z to i).map fun l => [rts l])]⟩) (fun i => i <= arms.length) (fun i => arms.length - i) 0 (c1Q _)
  (Ent.trans (Ent.pack 7 59 1 rfl) (by (repeat first | refine uA ?_ | (refine ⟨?_, ?_⟩; focus first | rfl | simp [slot]) | rfl | simp))) ?_
 intro i hi
 simp only [ams, A8, L8, frs, vts, bls, sb, ints]
 (repeat first | refine uA ?_ | (refine uK ?_ ?_; focus first | omega | (intros; simp_all <;> omega)) | simp (disch := omega) only [go_sem, Nat.reduceBEq, Nat.reduceAdd, ww])
 (refine uJ rfl (fun hc => ?_) fun hc => ?_)
 ·have hi' : i < arms.length := by omega
  have hga := c1I hi'
  have hgx := c1I (show i < sarms.length by omega)
  have hsn := b4U z to i
  have hsl := a6q z to i
  have hzi : z[i]? = some (arms[i], sarms[i]) := by have h9 := J8 hga hgx; rw [hz] at h9; exact h9
  have ho := a1h (hone _ (c1L hzi))
  have hwi : a1L z to i = a6Y arms[i].links (N7 arms[i].links (to.drop (3 * i))) sarms[i].q := by unfold a1L; rw [hzi]
  have hwl := hwl i _ hga
  have hqx := hq _ (c1L hgx)
  generalize arms[i] = a at *
  generalize sarms[i] = x at *
  simp only at ho
  have hlk := (O4 ho.arm).2
  have h3 := (O8 ho.arm).2
  have hxq := ho.q
  have hcl := a0C a.links (to.drop (3 * i))
  have hcr := a5X a.links (to.drop (3 * i)) hlk
  have hC := b6z a (to.drop (3 * i)) ho.arm
  generalize N7 a.links (to.drop (3 * i)) = c at *
  have hxl : x.q.length <= 3 := by omega
  have hdl : (to.drop (3 * i)).length <= 1048576 := by rw [c2t]; omega
  generalize a0U z to i = W0 at *
  generalize a1L z to i = WI at *
  have hmn : (if 3 * (i : Int) < (to.length : Int) then 3 * (i : Int) else (to.length : Int)) = ((min to.length (3 * i) : Nat) : Int) := by split <;> omega
  have hdm : (to.drop (min to.length (3 * i))).take (to.length - min to.length (3 * i)) = to.drop (3 * i) := by
   rw [b1V, c2e (by rw [c2t]; omega)]
  have hml : min to.length (3 * i) <= to.length := Nat.min_le_left _ _
  generalize min to.length (3 * i) = mm at *
  generalize to.drop (3 * i) = td at *
  simp only [Am.c, Am.enc, lks, rts, A8, sb, ints] at hC
  (repeat first | refine uA ?_ | (refine uK ?_ ?_; focus first | omega | (intros; simp_all <;> omega)) | simp (disch := omega) only [go_sem, Nat.reduceBEq, Nat.reduceAdd, ww, hga, c1K, c1J, Am.enc, lks, sb, hmn, hdm, c1R] | (refine uB hC ?_ ?_; exact rfl))
  refine S.loop (X := Nat) (fun j => ⟨[(2, A8 to), (4, .bp 1 0), (7, .rv 2), (8, ints i), (9, .bp 3 0), (10, .rv 4), (15, ams arms), (16, ints arms.length), (17, ints i), (30, rts c), (31, ints c.length), (32, ints j)], [.gone, .box 37 [ints tick, L8 sarms, frs sparts, vts people, bls sgates], .row 59 1 (W0.map fun l => [rts l]), .box 51 [sb a.name, .v (.bool a.base.x.neg), sb a.base.x.num, sb a.base.x.den, .v (.bool a.base.y.neg), sb a.base.y.num, sb a.base.y.den, .v (.bool a.base.half), .v (.bool a.base.t.neg), sb a.base.t.num, sb a.base.t.den, lks a.links], .row 29 3 ((WI.take j).map rcs)]⟩) (fun j => j <= c.length) (fun j => c.length - j) 0 (c1Q _)
   (Ent.trans (Ent.pack 10 29 3 rfl) (by (repeat first | refine uA ?_ | (refine ⟨?_, ?_⟩; focus first | rfl | simp [slot]) | rfl | simp))) ?_
  intro j hj
  simp only [ams, A8, L8, frs, vts, bls, rts, lks, sb, ints]
  (repeat first | refine uA ?_ | (refine uK ?_ ?_; focus first | omega | (intros; simp_all <;> omega)) | simp (disch := omega) only [go_sem, Nat.reduceBEq, Nat.reduceAdd, ww])
  (refine uJ rfl (fun hc => ?_) fun hc => ?_)
  ·have hj' : j < c.length := by omega
   have hgc := c1I hj'
   have hgl := c1I (show j < a.links.length by omega)
   have hgq := c1I (show j < x.q.length by omega)
   have hgw : WI[j]? = some (a5S a.links[j] c[j] x.q[j]) := by have h9 := b6H hgl hgc hgq; rw [<- hwi] at h9; exact h9
   have hap := take_at hgw
   have hwtl : (WI.take j).length = j := by rw [c1V]; omega
   have rc1 := hcr _ (c1L hgc)
   have rq1 := hqx _ (c1L hgq)
   have rl1 := (a8i (hlk _ (c1L hgl))).2.2.1
   generalize c[j] = cj at *
   generalize a.links[j] = lj at *
   generalize x.q[j] = qj at *
   have o1 := a5c cj qj (rc1.mono (by decide)) (rq1.mono (by omega))
   have rd := (M5 (rc1.fit (by decide)) (rq1.fit (by omega)))
   have o2 := b1L lj.speed (rl1.mono (by decide))
   have o3 := b2x lj.speed (Nm.ofQ (Nm.d9 cj - Nm.d9 qj)) (rl1.mono (by decide)) (rd.mono (by omega))
   rw [Nm.D7] at o3
   have rm : Rb 1048576 (Nm.ofQ (a0k (Nm.d9 lj.speed) (Nm.d9 cj - Nm.d9 qj))) := by
    unfold a0k
    split
    ·exact (rl1.fit (by decide)).mono (by decide)
    ·exact rd.mono (by omega)
   have rn := b2q rl1 (by decide)
   have o4 := b5H (Nm.ofQ (-(Nm.d9 lj.speed))) (Nm.ofQ (a0k (Nm.d9 lj.speed) (Nm.d9 cj - Nm.d9 qj))) (rn.mono (by decide)) (rm.mono (by decide))
   rw [Nm.D7, Nm.D7] at o4
   have hwr : a5S lj cj qj = Nm.ofQ (a1D (-(Nm.d9 lj.speed)) (a0k (Nm.d9 lj.speed) (Nm.d9 cj - Nm.d9 qj))) := rfl
   unfold rq at o1 o2 o3 o4
   rw [<- hwr] at o4
   clear hwr
   generalize a5S lj cj qj = z1 at *
   generalize Nm.ofQ (a0k (Nm.d9 lj.speed) (Nm.d9 cj - Nm.d9 qj)) = z2 at *
   generalize Nm.ofQ (-(Nm.d9 lj.speed)) = z3 at *
   generalize Nm.ofQ (Nm.d9 cj - Nm.d9 qj) = z4 at *
   simp only [rc, sb] at o1 o2 o3 o4
   (repeat first | refine uA ?_ | (refine uK ?_ ?_; focus first | omega | (intros; simp_all <;> omega)) | simp (disch := omega) only [go_sem, Nat.reduceBEq, Nat.reduceAdd, ww, hgc, hgl, hgq, hgx, c1K, c1J, hwtl, rcs, Lk.enc, Ast.enc, rts, vts, sb, ints, c1R] | (refine uD o1 ?_ ?_ ?_; exact tz hw; exact rfl) | (refine uD o2 ?_ ?_ ?_; exact tz hw; exact rfl) | (refine uD o3 ?_ ?_ ?_; exact tz hw; exact rfl) | (refine uD o4 ?_ ?_ ?_; exact tz hw; exact rfl))
   refine S.next (j + 1) (by omega) (by omega) (by simp only [hap, c2z, c2b, c2w, rcs, sb]; exact (by (repeat first | refine uA ?_ | (refine ⟨?_, ?_⟩; focus first | rfl | simp [slot]) | rfl | simp)))
  ·have hj' : j = c.length := by omega
   subst hj'
   have hwt : WI.take c.length = WI := c2e (by omega)
   rw [hwt]
   refine S.exit rfl ?_
   refine S.weaken (st' := ⟨[(2, A8 to), (4, .bp 1 0), (7, .rv 2), (10, .sl 3 (WI.map rcs)), (15, ams arms), (16, ints arms.length), (17, ints i)], [.gone, .box 37 [ints tick, L8 sarms, frs sparts, vts people, bls sgates], .row 59 1 (W0.map fun l => [rts l])]⟩) (Ent.mk _ _ (by (repeat' (first | exact U7.nil | exact Imp.junk | exact Imp.refl rfl | exact Imp.frz rfl rfl rfl | exact Imp.eq (by simp [slot]; done) rfl | refine U7.cons ?_ ?_))) (by (repeat' (first | exact J7.nil | exact RI.gone _ | exact RI.row _ _ _ _ rfl | exact RI.map _ _ _ rfl | exact RI.box _ _ _ (l7.refl rfl) | (refine RI.box _ _ _ ?_; (repeat' (first | exact l7.nil | exact Imp.refl rfl | exact Imp.frz rfl rfl rfl | exact Imp.I9 | refine l7.cons ?_ ?_))) | refine J7.cons ?_ ?_))) (c1Q _)) ?_
   simp only [ams, A8, L8, frs, vts, bls, sb, ints, rts]
   (repeat first | refine uA ?_ | (refine uK ?_ ?_; focus first | omega | (intros; simp_all <;> omega)) | simp (disch := omega) only [go_sem, Nat.reduceBEq, Nat.reduceAdd, ww, c1J, hsl])
   refine S.next (i + 1) (by omega) (by omega) (by simp only [hsn, c2z, c2b, c2w, rts]; exact (by (repeat first | refine uA ?_ | (refine ⟨?_, ?_⟩; focus first | rfl | simp [slot]) | rfl | simp)))
 have hi' : i = arms.length := by omega
 subst hi'
 (repeat first | refine uA ?_ | (refine uK ?_ ?_; focus first | omega | (intros; simp_all <;> omega)) | simp (disch := omega) only [go_sem, Nat.reduceBEq, Nat.reduceAdd, ww])
 exact S.done (j3.out rfl (Imp.frz rfl rfl rfl) rfl)
set_option maxHeartbeats 4000000
structure c0N (y b : Ast) (j : Nat) (v : Nm.Rt) : Prop where
 ex : ∃ bv q bq, b.v[j]? = some bv /\ y.q[j]? = some q /\ b.q[j]? = some bq /\ ¬ 0 < Nm.u7 (I4 (Nm.d9 v)) (I4 (Nm.d9 bv)) /\ (F3 (Nm.d9 bv) = 0 -> q = bq) /\ Rb 1048576 bv /\ Rb 1048576 v
structure c1H (y b : Ast) : Prop where
 power : y.power = false
 vlen : y.v.length = b.v.length
 qlen : y.q.length = y.v.length
 small : y.v.length <= 3
 joint : ∀ j v, y.v[j]? = some v -> c0N y b j v
theorem b3Q {w : Wk} {s : Stt} (h : K5 w s = 0) : s.parts.all V8 = true := by
 unfold K5 at h
 split at h
 ·rename_i h1; exact absurd h h1
 split at h
 ·cases h
 split at h
 ·cases h
 split at h
 ·rename_i h1; exact absurd h h1
 split at h
 ·rename_i h2
  simp only [c1N] at h2
  exact h2.1
 ·cases h
structure c1G (w : Wk) (s : Stt) (to : List Int) : Prop where
 step : a2W w s (a0U (w.arms.zip s.arms) to w.arms.length) (List.replicate w.arms.length true) [] = 0
 next : Calm w (a8s w s (a0U (w.arms.zip s.arms) to w.arms.length) (List.replicate w.arms.length true) []) 1
def a3Q : Q8 := ⟨173, [.cell 10 true 5, .tmp 11], .seq (.reg [OA 5 (.box 31 (TT 0)), OA 6 (.box 37 (TT 1)), OA 10 (.alloc 37 [.int .i64 0, .slice none 0 0, .slice none 0 0, .slice none 0 0, .slice none 0 0]), OA 11 (.mv (II 0))]) (.seq (.seq
 (.reg [LL 22 8 5, LL 23 5 6, OA 24 (.call 9 [TT 22, TT 23]), MM 12 24]) (.seq (.reg [MM 25 12, OA 26 (.bin .neq (TT 25) (II 0))]) (.cond (TT 26) (.seq (.reg [OA 27 (.build [.int .i64 0, .slice none 0 0, .slice none 0 0, .slice
 none 0 0, .slice none 0 0] []), MM 28 12, OB (.store 5 (TT 10) (TT 27)), MM 11 28]) .ret) .skip))) (.seq (.seq (.reg [MM 29 2, OA 30 (.len false (TT 29)), FF 31 0 5, VV 32 31, OA 33 (.len false (TT 32)), OA 34 (.bin .neq (TT 30)
 (TT 33)), MM 35 34, MG 36 3 35 false, OC 37 (.len false (TT 36)) 35 false, FG 38 0 5 35 false, VG 39 38 35 false, OC 40 (.len false (TT 39)) 35 false, OC 41 (.bin .neq (TT 37) (TT 40)) 35 false, OA 42 (.pick (TT 35) (.const
 (.bool true)) (TT 41)), MM 43 42, MG 44 4 43 false, OC 45 (.len false (TT 44)) 43 false, FG 46 3 6 43 false, VG 47 46 43 false, OC 48 (.len false (TT 47)) 43 false, OC 49 (.bin .neq (TT 45) (TT 48)) 43 false, OA 50 (.pick (TT
 43) (.const (.bool true)) (TT 49))]) (.cond (TT 50) (.seq (.reg [OA 51 (.build [.int .i64 0, .slice none 0 0, .slice none 0 0, .slice none 0 0, .slice none 0 0] []), OB (.store 5 (TT 10) (TT 51)), OA 11 (.mv (II 1))]) .ret)
 .skip)) (.seq (.seq (.reg [MM 52 4, OA 53 (.len false (TT 52)), OA 54 (.mv (II 0))]) (.block 0 (.loop (.seq (.reg [OA 55 (.bin .lss (TT 54) (TT 53))]) (.seq (.cond (TT 55) .skip (.exit 0)) (.seq (.block 1 (.seq (.reg [OA 56
 (.p9 6 (TT 52) (TT 54)), LL 57 6 56, OA 14 (.alloc 44 [.bool false, .string ⟨#[]⟩, .string ⟨#[]⟩, .bool false, .string ⟨#[]⟩, .string ⟨#[]⟩]), OB (.store 6 (TT 14) (TT 57))]) (.seq (.F5 [.q, .q, .q, .q, .q, .q, .q, .q, .q,
 .q, .q, .q, .q, .q, .q, .q, .q, .q, .q, .q, .q, .q, .q, .q, .q, .q, .q, .q] [FF 58 0 14, LL 59 3 58, OA 60 (.call 40 [TT 59]), OA 61 (.un .not (TT 60)), MM 62 61, FG 63 3 14 62 false, LG 64 3 63 62 false, OC 65 (.call 40 [TT
 64]) 62 false, OC 66 (.un .not (TT 65)) 62 false, OA 67 (.pick (TT 62) (.const (.bool true)) (TT 66)), MM 68 67, FG 69 0 14 68 false, LG 70 3 69 68 false, OC 71 (.call 61 [TT 70]) 68 false, FG 72 5 5 68 false, LG 73 3 72 68
 false, OC 74 (.call 22 [TT 71, TT 73]) 68 false, OC 75 (.bin .gtr (TT 74) (II 0)) 68 false, OA 76 (.pick (TT 68) (.const (.bool true)) (TT 75)), MM 77 76, FG 78 3 14 77 false, LG 79 3 78 77 false, OC 80 (.call 61 [TT 79]) 77
 false, FG 81 5 5 77 false, LG 82 3 81 77 false, OC 83 (.call 22 [TT 80, TT 82]) 77 false, OC 84 (.bin .gtr (TT 83) (II 0)) 77 false, OA 85 (.pick (TT 77) (.const (.bool true)) (TT 84))]) (.cond (TT 85) (.seq (.reg [OA 86 (.build
 [.int .i64 0, .slice none 0 0, .slice none 0 0, .slice none 0 0, .slice none 0 0] []), OB (.store 5 (TT 10) (TT 86)), OA 11 (.mv (II 1))]) .ret) .skip)))) (.reg [OA 87 (.bin .add (TT 54) (II 1)), MM 54 87]))))))) (.seq (.seq
 (.reg [FF 88 0 6, VV 89 88, OA 90 (.bin .eql (TT 89) (II 2000))]) (.cond (TT 90) (.seq (.reg [OA 91 (.build [.int .i64 0, .slice none 0 0, .slice none 0 0, .slice none 0 0, .slice none 0 0] []), OB (.store 5 (TT 10) (TT 91)), OA
 11 (.mv (II 7))]) .ret) .skip)) (.seq (.reg [LL 92 5 6, OA 93 (.call 62 [TT 92]), OA 15 (.alloc 37 [.int .i64 0, .slice none 0 0, .slice none 0 0, .slice none 0 0, .slice none 0 0]), OB (.store 5 (TT 15) (TT 93))]) (.seq (.reg
 [FF 94 0 15, VV 95 94, OA 96 (.bin .add (TT 95) (II 1)), FF 97 0 15, OB (.store 1 (TT 97) (TT 96))]) (.seq (.seq (.reg [FF 98 0 5, VV 99 98, OA 100 (.len false (TT 99)), OA 101 (.mv (II 0))]) (.block 2 (.loop (.seq (.reg [OA 102
 (.bin .lss (TT 101) (TT 100))]) (.seq (.cond (TT 102) .skip (.exit 2)) (.seq (.block 3 (.seq (.reg [MM 103 101, OA 104 (.p9 12 (TT 99) (TT 101)), LL 105 12 104, OA 17 (.alloc 51 [.string ⟨#[]⟩, .bool false, .string ⟨#[]⟩,
 .string ⟨#[]⟩, .bool false, .string ⟨#[]⟩, .string ⟨#[]⟩, .bool false, .bool false, .string ⟨#[]⟩, .string ⟨#[]⟩, .slice none 0 0]), MM 16 103, OB (.store 12 (TT 17) (TT 105))]) (.seq (.F5 [.q, .q, .q, .q, .q, .q, .q, .q, .q,
 .q, .q, .q, .q, .q, .q, .q, .q, .l, .a, .e (some 18) false, .q] [LL 107 12 17, FF 108 1 6, VV 109 108, MM 110 16, OA 111 (.p9 4 (TT 109) (TT 110)), LL 112 4 111, MM 113 2, MM 114 16, OA 115 (.p9 1 (TT 113) (TT 114)), VV
 116 115, MM 117 3, MM 118 16, OA 119 (.p9 1 (TT 117) (TT 118)), VV 120 119, OA 121 (.call 64 [TT 107, TT 112, TT 116, TT 120]), MM 106 121, OA 122 (.ext (TT 106) 0), OA 123 (.ext (TT 106) 1), OA 18 (.alloc 61 [.slice none 0
 0, .slice none 0 0, .bool false, .int .i64 0]), OB (.store 4 (TT 18) (TT 122)), MM 19 123]) (.seq (.seq (.reg [MM 124 19, OA 125 (.bin .neq (TT 124) (II 0))]) (.cond (TT 125) (.seq (.reg [OA 126 (.build [.int .i64 0, .slice none
 0 0, .slice none 0 0, .slice none 0 0, .slice none 0 0] []), MM 127 19, OB (.store 5 (TT 10) (TT 126)), MM 11 127]) .ret) .skip)) (.seq (.reg [FF 128 1 15, VV 129 128, MM 130 16, LL 131 4 18, OA 132 (.p9 4 (TT 129) (TT 130)),
 OB (.store 4 (TT 132) (TT 131))]) (.seq (.reg [FF 133 3 18, VV 134 133, OA 135 (.bin .geq (TT 134) (II 0))]) (.cond (TT 135) (.seq (.F5 [.q, .q, .q, .q, .q, .q, .q, .q, .q, .q, .l, .q, .e none false, .q] [FF 137 2 15, VV 138
 137, FF 139 3 18, VV 140 139, LL 141 8 5, MM 142 16, LL 143 4 18, OA 144 (.call 63 [TT 141, TT 142, TT 143]), MM 136 144, OA 145 (.ext (TT 136) 0), OA 146 (.ext (TT 136) 1), OA 147 (.p9 10 (TT 138) (TT 140)), OB (.store 10
 (TT 147) (TT 145)), MM 19 146]) (.seq (.reg [MM 148 19, OA 149 (.bin .neq (TT 148) (II 0))]) (.cond (TT 149) (.seq (.reg [OA 150 (.build [.int .i64 0, .slice none 0 0, .slice none 0 0, .slice none 0 0, .slice none 0 0] []), MM
 151 19, OB (.store 5 (TT 10) (TT 150)), MM 11 151]) .ret) .skip))) .skip))))))) (.reg [OA 152 (.bin .add (TT 101) (II 1)), MM 101 152]))))))) (.seq (.seq (.reg [MM 153 4, OA 154 (.len false (TT 153)), OA 155 (.mv (II 0))])
 (.block 4 (.loop (.seq (.reg [OA 156 (.bin .lss (TT 155) (TT 154))]) (.seq (.cond (TT 156) .skip (.exit 4)) (.seq (.block 5 (.seq (.reg [MM 157 155, OA 158 (.p9 6 (TT 153) (TT 155)), LL 159 6 158, OA 21 (.alloc 44 [.bool
 false, .string ⟨#[]⟩, .string ⟨#[]⟩, .bool false, .string ⟨#[]⟩, .string ⟨#[]⟩]), MM 20 157, OB (.store 6 (TT 21) (TT 159))]) (.F5 [.q, .q, .q, .q, .q, .q, .q, .q, .q, .q, .q, .e none true] [FF 160 3 15, VV 161 160, MM 162 20,
 FF 163 3 6, VV 164 163, MM 165 20, OA 166 (.p9 6 (TT 164) (TT 165)), LL 167 6 166, LL 168 6 21, OA 169 (.call 65 [TT 167, TT 168]), OA 170 (.p9 6 (TT 161) (TT 162)), OB (.store 6 (TT 170) (TT 169))]))) (.reg [OA 171 (.bin
 .add (TT 155) (II 1)), MM 155 171]))))))) (.seq (.reg [LL 172 5 15, OB (.store 5 (TT 10) (TT 172)), OA 11 (.mv (II 0))]) .ret)))))))))⟩
theorem b2z : M6 eff Tryz.prog Tryz.f15 = some a3Q := by kernel_rfl
theorem b3a : Tryz.prog.funcs[15]? = some Tryz.f15 := Tryz.func15
set_option maxHeartbeats 32000000
def a8E (w : Wk) (s : Stt) (u : List (List Nm.Rt)) (p : List Bool) (v : List Vt) : C := if a2W w s u p v = 0 then .tup [(a8s w s u p v).c, ints 0] else .tup [.agg a2w, ints (a2W w s u p v)]
theorem c0K (w : Wk) (s : Stt) (u : List (List Nm.Rt)) (p : List Bool) (v : List Vt) (hwb : Wb 1048576 w) (hs : Stb 1048576 s) (hu : Wsb 1048576 u) (hp : p.length <= 1048576) (hv : Vbs 1048576 v) :
    FZ 15 [w.c, s.c, wss u, bls p, vts v] (a8E w s u p v) := by
  refine kW b3a b2z (by rfl) fun w' O hw => ?_
  have hck := a7Y w s (hwb.mono (by decide)) (hs.mono (by decide))
  have hcp := fun (E : Ctx) (hP : E.P = Tryz.prog) => a9V hP s (hs.mono (by decide))
  have n1 := hs.arms.1
  have n2 := hs.parts.1
  have n3 := hs.people.1
  have n4 := hs.gates
  have n5 := hwb.arms.1
  have n6 := hu.1
  have n7 := hv.1
  by_cases h0 : K5 w s = 0
  · have hok := a0n h0
    have hE : a2W w s u p v = if u.length ≠ w.arms.length \/ p.length ≠ w.arms.length \/ v.length ≠ s.people.length then 1 else if v.all (a5L w.walk) = false then 1 else if s.tick = 2000 then 7 else 0 := by
      unfold a2W; rw [if_neg (by simpa using h0)]
    have hcar := fun (n : Nat) (x : Ast) (a : Am) (q : Nat) (pt : Pt) => b0k w n x a q pt hwb
    have hone := fun (z : Am × Ast) hz => a1h (hok.one z hz)
    have hbs := hs.arms.2
    have hba := hwb.arms.2
    have hbu := hu.2
    have hbv := hv.2
    have hbp := hs.people.2
    have hkw := hwb.walk
    have hal := b8s (u := u) (p := p) hok.arms
    have hag := @b8v w s u p
    have hpl := b2K w
    have hput : ∀ P z, a7X w P z = if z.2.holds < 0 then P else match w.parts[z.2.holds.toNat]? with | some pt => P.set z.2.holds.toNat (F9 z.1 z.2.q pt.grasp) | none => P := fun _ _ => rfl
    have e1 := hok.arms
    have e2 := hok.parts
    have e3 := hok.tick
    rw [h0] at hck
    unfold a8E a8s
    generalize a6M w s u p = A at *
    generalize a7X w = pP at *
    generalize a2W w s u p v = se at *
    clear hok h0
    obtain ⟨arms, walls, parts, slots, gates, walk⟩ := w
    obtain ⟨tick, sarms, sparts, people, sgates⟩ := s
    simp only at n1 n2 n3 n4 n5 hE hbs hba hbp hkw hal hag hput e1 e2 e3 hone ⊢
    simp only [a3Q, l6, TT, II, OA, OB, OC, MM, LL, VV, FF, MG, LG, VG, FG]
    simp only [Wk.c, Wk.enc, Stt.c, Stt.enc, a2w, ams, wls, pts, sls, gts, L8, frs, vts, bls, wss, rts, sb, ints] at hck hcp hcar ⊢
    (repeat first | refine uA ?_ | (refine uK ?_ ?_; focus first | omega | (intros; simp_all <;> omega)) | simp (disch := omega) only [go_sem, Nat.reduceBEq, Nat.reduceAdd, ww] | (refine uD hck ?_ ?_ ?_; exact tz hw; exact rfl))
    refine S.cond rfl (fun hc => by simp at hc) (fun hc => ?_)
    (repeat first | refine uA ?_ | (refine uK ?_ ?_; focus first | omega | (intros; simp_all <;> omega)) | simp (disch := omega) only [go_sem, Nat.reduceBEq, Nat.reduceAdd, ww, c1J])
    refine S.cond rfl (fun hc => ?_) (fun hc => ?_)
    · have hl : u.length ≠ arms.length \/ p.length ≠ arms.length \/ v.length ≠ people.length := by simp only [c2v, Bool.not_eq_true', c1S] at hc; omega
      rw [if_pos hl] at hE
      subst hE
      rw [if_neg (by decide)]
      (repeat first | refine uA ?_ | (refine uK ?_ ?_; focus first | omega | (intros; simp_all <;> omega)) | simp (disch := omega) only [go_sem, Nat.reduceBEq, Nat.reduceAdd, ww])
      (refine S.done ?_; simp only [q8, l9, go_sem, Nat.reduceBEq, Nat.reduceAdd, Nat.reduceLeDiff, Int.reduceToNat, Int.reducePow]; (repeat (refine ⟨?_, ?_⟩; focus first | trivial | omega | simp)); exact j3.out rfl (Imp.tup (by (repeat' (first | exact l7.nil | exact Imp.refl rfl | exact Imp.frz rfl rfl rfl | exact Imp.I9 | refine Imp.agg ?_ | refine l7.cons ?_ ?_)))) rfl)
    have hl : ¬ (u.length ≠ arms.length \/ p.length ≠ arms.length \/ v.length ≠ people.length) := by simp only [c2d, Bool.not_eq_false', c1P] at hc; omega
    rw [if_neg hl] at hE
    have hl1 : u.length = arms.length := by omega
    have hl2 : p.length = arms.length := by omega
    have hl3 : v.length = people.length := by omega
    clear hl
    have hal := hal hl1 hl2
    (repeat first | refine uA ?_ | (refine uK ?_ ?_; focus first | omega | (intros; simp_all <;> omega)) | simp (disch := omega) only [go_sem, Nat.reduceBEq, Nat.reduceAdd, ww, c1J])
    refine S.loop (X := Nat) (fun i => ⟨[(2, wss u), (3, bls p), (4, vts v), (5, .bp 0 0), (6, .bp 1 0), (10, .bp 2 0), (52, vts v), (53, ints v.length), (54, ints i)], [.box 31 [ams arms, wls walls, pts parts, sls slots, gts gates, .v (.bool walk.neg), sb walk.num, sb walk.den], .box 37 [ints tick, L8 sarms, frs sparts, vts people, bls sgates], .box 37 [.v (.int .i64 0), .v (.slice none 0 0), .v (.slice none 0 0), .v (.slice none 0 0), .v (.slice none 0 0)]]⟩) (fun i => i <= v.length /\ v.all (a5L walk) = (v.drop i).all (a5L walk)) (fun i => v.length - i) 0 ⟨c1Q _, rfl⟩ (by (repeat first | refine uA ?_ | (refine ⟨?_, ?_⟩; focus first | rfl | simp [slot]) | rfl | simp)) ?_
    rintro i ⟨hi, hg⟩
    simp only [ams, wls, pts, sls, gts, L8, frs, vts, bls, wss, rts, sb, ints] at hi ⊢
    (repeat first | refine uA ?_ | (refine uK ?_ ?_; focus first | omega | (intros; simp_all <;> omega)) | simp (disch := omega) only [go_sem, Nat.reduceBEq, Nat.reduceAdd, ww])
    (refine uJ rfl (fun hc => ?_) fun hc => ?_)
    · have hgv := c1I (show i < v.length by omega)
      generalize v[i]'_ = y at hgv
      have hd := b2j (f := a5L walk) hgv
      obtain ⟨by1, by2⟩ := hbv y (c1L hgv)
      have o1 := a1g y.x (by1.mono (by decide))
      have o2 := a1g y.y (by2.mono (by decide))
      have o3 := a5N y.x (by1.mono (by decide))
      have o4 := a5N y.y (by2.mono (by decide))
      have o5 := U1 (Nm.ofQ (I4 (Nm.d9 y.x))) walk (a3Z ((by1.mono (m := 17179869184) (by decide)).fit (by decide))) (hkw.mono (by decide))
      have o6 := U1 (Nm.ofQ (I4 (Nm.d9 y.y))) walk (a3Z ((by2.mono (m := 17179869184) (by decide)).fit (by decide))) (hkw.mono (by decide))
      rw [Nm.D7] at o5 o6
      have hm := b9m (I4 (Nm.d9 y.x)) (I4 (Nm.d9 y.y)) (Nm.d9 walk)
      have hv : a5L walk y = (decide y.x.G7 && decide y.y.G7 && !decide (0 < Nm.u7 (a1D (I4 (Nm.d9 y.x)) (I4 (Nm.d9 y.y))) (Nm.d9 walk))) := rfl
      rw [hv] at hd
      clear hv
      generalize Nm.u7 (a1D (I4 (Nm.d9 y.x)) (I4 (Nm.d9 y.y))) (Nm.d9 walk) = c0 at *
      generalize decide y.x.G7 = g1 at *
      generalize decide y.y.G7 = g2 at *
      generalize Nm.u7 (I4 (Nm.d9 y.x)) (Nm.d9 walk) = c1 at *
      generalize Nm.u7 (I4 (Nm.d9 y.y)) (Nm.d9 walk) = c2 at *
      unfold rq at o3 o4
      generalize Nm.ofQ (I4 (Nm.d9 y.x)) = a1 at *
      generalize Nm.ofQ (I4 (Nm.d9 y.y)) = a2 at *
      simp only [rc, sb, ints] at o1 o2 o3 o4 o5 o6
      (repeat first | refine uA ?_ | (refine uK ?_ ?_; focus first | omega | (intros; simp_all <;> omega)) | simp (disch := omega) only [go_sem, Nat.reduceBEq, Nat.reduceAdd, ww, hgv, c1K, c1J, Vt.enc, sb, c1R] | (refine uD o1 ?_ ?_ ?_; exact tz hw; exact rfl) | (refine uD o2 ?_ ?_ ?_; exact tz hw; exact rfl) | (refine uD o3 ?_ ?_ ?_; exact tz hw; exact rfl) | (refine uD o4 ?_ ?_ ?_; exact tz hw; exact rfl) | (refine uD o5 ?_ ?_ ?_; exact tz hw; exact rfl) | (refine uD o6 ?_ ?_ ?_; exact tz hw; exact rfl))
      refine S.cond rfl (fun hc2 => ?_) (fun hc2 => ?_)
      · have hf : v.all (a5L walk) = false := by
          rw [hg, hd]
          cases g1
          · rfl
          cases g2
          · rfl
          simp only [Bool.not_true, Bool.false_or, c2v, c1P] at hc2
          rw [decide_eq_true (show 0 < c0 from hm.2 hc2)]; rfl
        rw [if_pos hf] at hE
        subst hE
        rw [if_neg (by decide)]
        (repeat first | refine uA ?_ | (refine uK ?_ ?_; focus first | omega | (intros; simp_all <;> omega)) | simp (disch := omega) only [go_sem, Nat.reduceBEq, Nat.reduceAdd, ww])
        (refine S.done ?_; simp only [q8, l9, go_sem, Nat.reduceBEq, Nat.reduceAdd, Nat.reduceLeDiff, Int.reduceToNat, Int.reducePow]; (repeat (refine ⟨?_, ?_⟩; focus first | trivial | omega | simp)); exact j3.out rfl (Imp.tup (by (repeat' (first | exact l7.nil | exact Imp.refl rfl | exact Imp.frz rfl rfl rfl | exact Imp.I9 | refine Imp.agg ?_ | refine l7.cons ?_ ?_)))) rfl)
      · (repeat first | refine uA ?_ | (refine uK ?_ ?_; focus first | omega | (intros; simp_all <;> omega)) | simp (disch := omega) only [go_sem, Nat.reduceBEq, Nat.reduceAdd, ww])
        refine S.next (i + 1) ⟨by omega, ?_⟩ (by omega) (by (repeat first | refine uA ?_ | (refine ⟨?_, ?_⟩; focus first | rfl | simp [slot]) | rfl | simp))
        rw [hg, hd]
        cases g1
        · simp at hc2
        cases g2
        · simp at hc2
        simp only [Bool.not_true, Bool.false_or, c2d, c1S] at hc2
        rw [decide_eq_false (show ¬ 0 < c0 from fun h => by have := hm.1 h; omega)]; rfl
    rw [List.drop_eq_nil_of_le (by omega), List.all_nil] at hg
    rw [hg, if_neg (by decide)] at hE
    (repeat first | refine uA ?_ | (refine uK ?_ ?_; focus first | omega | (intros; simp_all <;> omega)) | simp (disch := omega) only [go_sem, Nat.reduceBEq, Nat.reduceAdd, ww])
    refine S.cond rfl (fun hc => ?_) (fun hc => ?_)
    · rw [if_pos (by simpa using hc)] at hE
      subst hE
      rw [if_neg (by decide)]
      (repeat first | refine uA ?_ | (refine uK ?_ ?_; focus first | omega | (intros; simp_all <;> omega)) | simp (disch := omega) only [go_sem, Nat.reduceBEq, Nat.reduceAdd, ww])
      (refine S.done ?_; simp only [q8, l9, go_sem, Nat.reduceBEq, Nat.reduceAdd, Nat.reduceLeDiff, Int.reduceToNat, Int.reducePow]; (repeat (refine ⟨?_, ?_⟩; focus first | trivial | omega | simp)); exact j3.out rfl (Imp.tup (by (repeat' (first | exact l7.nil | exact Imp.refl rfl | exact Imp.frz rfl rfl rfl | exact Imp.I9 | refine Imp.agg ?_ | refine l7.cons ?_ ?_)))) rfl)
    rw [if_neg (by simpa using hc)] at hE
    subst hE
    rw [if_pos rfl]
    have htk : IntKind.i64.wrap (tick + 1) = tick + 1 := wrap_i64 (by omega)
    (repeat first | refine uA ?_ | (refine uK ?_ ?_; focus first | omega | (intros; simp_all <;> omega)) | simp (disch := omega) only [go_sem, Nat.reduceBEq, Nat.reduceAdd, ww, C.sh, C.shL, c1W, List.length_nil, c1J, htk] | refine l8.t (j5.pre (hcp _ rfl) rfl rfl rfl) ?_)
    refine S.loop (X := Nat) (fun i => ⟨[(2, wss u), (3, bls p), (4, vts v), (5, .bp 0 0), (6, .bp 1 0), (10, .bp 2 0), (15, .bp 9 0), (99, ams arms), (100, ints arms.length), (101, ints i)], [.box 31 [ams arms, wls walls, pts parts, sls slots, gts gates, .v (.bool walk.neg), sb walk.num, sb walk.den], .box 37 [ints tick, L8 sarms, frs sparts, vts people, bls sgates], .box 37 [.v (.int .i64 0), .v (.slice none 0 0), .v (.slice none 0 0), .v (.slice none 0 0), .v (.slice none 0 0)], .gone, .gone, .row 48 10 ((((arms.zip A).take i).foldl pP sparts).map Fr.enc), .row 44 6 (people.map Vt.enc), .gone, .row 61 4 ((A.take i ++ sarms.drop i).map Ast.enc), .box 37 [ints (tick + 1), .rv 8, .rv 5, .rv 6, bls sgates]]⟩) (fun i => i <= arms.length) (fun i => arms.length - i) 0 (c1Q _) (by (repeat first | refine uA ?_ | (refine ⟨?_, ?_⟩; focus first | rfl | simp [slot]) | rfl | simp)) ?_
    intro i hi
    simp only [ams, wls, pts, sls, gts, L8, frs, vts, bls, wss, rts, sb, ints] at hi ⊢
    (repeat first | refine uA ?_ | (refine uK ?_ ?_; focus first | omega | (intros; simp_all <;> omega)) | simp (disch := omega) only [go_sem, Nat.reduceBEq, Nat.reduceAdd, ww])
    (refine uJ rfl (fun hc => ?_) fun hc => ?_)
    · have hga := c1I (show i < arms.length by omega)
      have hgx := c1I (show i < sarms.length by omega)
      have hgu := c1I (show i < u.length by omega)
      have hgp := c1I (show i < p.length by omega)
      generalize arms[i]'_ = a at hga
      generalize sarms[i]'_ = x at hgx
      generalize u[i]'_ = ui at hgu
      generalize p[i]'_ = b at hgp
      have hgA := hag hga hgx hgu hgp
      have hz := c1L (J8 hga hgx)
      obtain ⟨k1, k2, k3, k4⟩ := hone _ hz
      simp only at k1 k2 k3 k4
      have bx := hbs x (c1L hgx)
      have bu := hbu ui (c1L hgu)
      have ba := hba a (c1L hga)
      have o1 := c0d a x ui b (ba.mono (by decide)) ⟨⟨c1M bx.1.1 (by decide), fun r hr => (bx.1.2 r hr).mono (by decide)⟩, c1M bx.2.1 (by decide), fun r hr => (bx.2.2 r hr).mono (by decide)⟩ ⟨c1M bu.1 (by decide), fun r hr => (bu.2 r hr).mono (by decide)⟩ k1 k2 k3
      have hfa := fold_at (f := pP) (J8 hga hgA) sparts
      rw [hput] at hfa
      have hh := holds_one a x ui b
      have hql := (a9S (u := ui) (p := b) ⟨k1, k2, k3, k4⟩).1
      have hqb := (c0C (u := ui) (p := b) k1 bx bu.2).1
      have hcar := fun q pt => hcar i (X7 a x ui b) a q pt hga
      have hPl := hpl ((arms.zip A).take i) sparts
      have s1 := a7o Ast.enc (by omega) hgA (m := sarms)
      have m1 := a3C (l := A) (m := sarms) (i := i) (by omega) (by omega)
      generalize hA1 : A.take (i + 1) ++ sarms.drop (i + 1) = A1 at *
      generalize A.take i ++ sarms.drop i = A0 at *
      generalize hP1 : ((arms.zip A).take (i + 1)).foldl pP sparts = P1 at *
      generalize ((arms.zip A).take i).foldl pP sparts = P0 at *
      obtain ⟨z0, hz0⟩ : ∃ z0, A0[i]? = some z0 := ⟨_, c1I (show i < A0.length by omega)⟩
      generalize hy : X7 a x ui b = y at *
      have hxi : (i : Int) < sarms.length := by omega
      have hui : (i : Int) < u.length := by omega
      have hpi : (i : Int) < p.length := by omega
      simp only [Am.c, Am.enc, Ast.c, Ast.enc, lks, rts, sb, ints] at o1 s1 hcar
      (repeat first | refine uA ?_ | (refine uK ?_ ?_; focus first | omega | (intros; simp_all <;> omega)) | simp (disch := omega) only [go_sem, Nat.reduceBEq, Nat.reduceAdd, ww, hga, hgx, hgu, hgp, hz0, m1, s1, c1K, c1J, Am.enc, Ast.enc, lks, rts, sb, ints, c1R] | (refine uD o1 ?_ ?_ ?_; exact tz hw; exact rfl))
      refine S.cond rfl (fun hc2 => by simp at hc2) (fun hc2 => ?_)
      (repeat first | refine uA ?_ | (refine uK ?_ ?_; focus first | omega | (intros; simp_all <;> omega)) | simp (disch := omega) only [go_sem, Nat.reduceBEq, Nat.reduceAdd, ww, hz0, m1, s1, c1K, c1J, Ast.enc, rts, ints, c1R])
      refine S.cond rfl (fun hc3 => ?_) (fun hc3 => ?_)
      · have hp0 : 0 <= y.holds := by simpa using hc3
        obtain ⟨q, hq⟩ : ∃ q : Nat, y.holds = q := ⟨y.holds.toNat, by omega⟩
        have hqp : q < parts.length := by omega
        have hgq := c1I hqp
        generalize parts[q] = pt at hgq
        have o2 := hcar q pt hgq hq k1 hql hqb
        rw [if_neg (by simp only; omega)] at hfa
        simp only [hq, c1R, hgq] at hfa
        have s2 : (P0.map Fr.enc).set q (F9 a y.q pt.grasp).enc = P1.map Fr.enc := by rw [<- List.map_set, <- hfa]
        obtain ⟨z1, hz1⟩ : ∃ z1, P0[q]? = some z1 := ⟨_, c1I (show q < P0.length by omega)⟩
        have hq2 : (q : Int) < P0.length := by omega
        generalize F9 a y.q pt.grasp = R at *
        simp only [Fr.c, Fr.enc, hq, sb] at o2 s2
        simp only [hq]
        (repeat first | refine uA ?_ | (refine uK ?_ ?_; focus first | omega | (intros; simp_all <;> omega)) | simp (disch := omega) only [go_sem, Nat.reduceBEq, Nat.reduceAdd, ww, hz1, s2, hPl, Fr.enc, sb, c1K, c1J, c1R] | (refine uD o2 ?_ ?_ ?_; exact tz hw; exact rfl))
        refine S.cond rfl (fun hc2 => by simp at hc2) (fun hc2 => ?_)
        (repeat first | refine uA ?_ | (refine uK ?_ ?_; focus first | omega | (intros; simp_all <;> omega)) | simp (disch := omega) only [go_sem, Nat.reduceBEq, Nat.reduceAdd, ww])
        refine S.next (i + 1) (by omega) (by omega) (by simp only [hA1, hP1]; exact (by (repeat first | refine uA ?_ | (refine ⟨?_, ?_⟩; focus first | rfl | simp [slot]) | rfl | simp)))
      · have hp0 : y.holds < 0 := by simp only [c1S] at hc3; omega
        rw [if_pos (by simpa using hp0)] at hfa
        subst hfa
        (repeat first | refine uA ?_ | (refine uK ?_ ?_; focus first | omega | (intros; simp_all <;> omega)) | simp (disch := omega) only [go_sem, Nat.reduceBEq, Nat.reduceAdd, ww])
        refine S.next (i + 1) (by omega) (by omega) (by simp only [hA1, hP1]; exact (by (repeat first | refine uA ?_ | (refine ⟨?_, ?_⟩; focus first | rfl | simp [slot]) | rfl | simp)))
    have hi' : i = arms.length := by omega
    subst hi'
    rw [show (arms.zip A).take arms.length = arms.zip A from c2e (by rw [List.length_zip]; omega), show A.take arms.length ++ sarms.drop arms.length = A by rw [<- e1]; exact mid_end (by omega)]
    have hMl : ((people.zip v).map a9q).length = people.length := by rw [c1J, List.length_zip]; omega
    have hMg : ∀ (i : Nat) (a b : Vt), people[i]? = some a -> v[i]? = some b -> ((people.zip v).map a9q)[i]? = some (a9q (a, b)) := fun i a b h1 h2 => by rw [c2x, J8 h1 h2]; rfl
    generalize (arms.zip A).foldl pP sparts = PP at *
    generalize (people.zip v).map a9q = M at *
    (repeat first | refine uA ?_ | (refine uK ?_ ?_; focus first | omega | (intros; simp_all <;> omega)) | simp (disch := omega) only [go_sem, Nat.reduceBEq, Nat.reduceAdd, ww, c1J])
    refine S.loop (X := Nat) (fun i => ⟨[(6, .bp 1 0), (10, .bp 2 0), (15, .bp 9 0), (153, vts v), (154, ints v.length), (155, ints i)], [.gone, .box 37 [ints tick, L8 sarms, frs sparts, vts people, bls sgates], .box 37 [.v (.int .i64 0), .v (.slice none 0 0), .v (.slice none 0 0), .v (.slice none 0 0), .v (.slice none 0 0)], .gone, .gone, .row 48 10 (PP.map Fr.enc), .row 44 6 ((M.take i ++ people.drop i).map Vt.enc), .gone, .row 61 4 (A.map Ast.enc), .box 37 [ints (tick + 1), .rv 8, .rv 5, .rv 6, bls sgates]]⟩) (fun i => i <= v.length) (fun i => v.length - i) 0 (c1Q _) (by (repeat first | refine uA ?_ | (refine ⟨?_, ?_⟩; focus first | rfl | simp [slot]) | rfl | simp)) ?_
    intro i hi
    simp only [ams, wls, pts, sls, gts, L8, frs, vts, bls, wss, rts, sb, ints] at hi ⊢
    (repeat first | refine uA ?_ | (refine uK ?_ ?_; focus first | omega | (intros; simp_all <;> omega)) | simp (disch := omega) only [go_sem, Nat.reduceBEq, Nat.reduceAdd, ww])
    (refine uJ rfl (fun hc => ?_) fun hc => ?_)
    · have hgv := c1I (show i < v.length by omega)
      have hgw := c1I (show i < people.length by omega)
      generalize v[i]'_ = b at hgv
      generalize people[i]'_ = a at hgw
      have hgM := hMg i a b hgw hgv
      obtain ⟨ba1, ba2⟩ := hbp a (c1L hgw)
      obtain ⟨bb1, bb2⟩ := hbv b (c1L hgv)
      have o1 := b5U a.x a.y b.x b.y (ba1.mono (by decide)) (ba2.mono (by decide)) (bb1.mono (by decide)) (bb2.mono (by decide))
      have s1 := a7o Vt.enc (by omega) hgM (m := people)
      have m1 := a3C (l := M) (m := people) (i := i) (by omega) (by omega)
      have hV : a9q (a, b) = ⟨Nm.ofQ (Nm.d9 a.x + Nm.d9 b.x), Nm.ofQ (Nm.d9 a.y + Nm.d9 b.y)⟩ := rfl
      rw [hV] at s1
      unfold vq at o1
      generalize Nm.ofQ (Nm.d9 a.x + Nm.d9 b.x) = r1 at *
      generalize Nm.ofQ (Nm.d9 a.y + Nm.d9 b.y) = r2 at *
      generalize hM1 : M.take (i + 1) ++ people.drop (i + 1) = M1 at *
      generalize M.take i ++ people.drop i = M0 at *
      obtain ⟨z0, hz0⟩ : ∃ z0, M0[i]? = some z0 := ⟨_, c1I (show i < M0.length by omega)⟩
      have hwi : (i : Int) < people.length := by omega
      simp only [vc, Vt.enc, sb] at o1 s1
      (repeat first | refine uA ?_ | (refine uK ?_ ?_; focus first | omega | (intros; simp_all <;> omega)) | simp (disch := omega) only [go_sem, Nat.reduceBEq, Nat.reduceAdd, ww, hgv, hgw, hz0, m1, s1, c1K, c1J, Vt.enc, sb, c1R] | (refine uD o1 ?_ ?_ ?_; exact tz hw; exact rfl))
      refine S.next (i + 1) (by omega) (by omega) (by simp only [hM1]; exact (by (repeat first | refine uA ?_ | (refine ⟨?_, ?_⟩; focus first | rfl | simp [slot]) | rfl | simp)))
    have hi' : i = v.length := by omega
    subst hi'
    rw [show M.take v.length ++ people.drop v.length = M by rw [hl3]; exact mid_end (by omega)]
    (repeat first | refine uA ?_ | (refine uK ?_ ?_; focus first | omega | (intros; simp_all <;> omega)) | simp (disch := omega) only [go_sem, Nat.reduceBEq, Nat.reduceAdd, ww])
    (refine S.done ?_; simp only [q8, l9, go_sem, Nat.reduceBEq, Nat.reduceAdd, Nat.reduceLeDiff, Int.reduceToNat, Int.reducePow]; (repeat (refine ⟨?_, ?_⟩; focus first | trivial | omega | simp)); exact j3.out rfl (Imp.tup (by (repeat' (first | exact l7.nil | exact Imp.refl rfl | exact Imp.frz rfl rfl rfl | exact Imp.I9 | refine Imp.agg ?_ | refine l7.cons ?_ ?_)))) rfl)
  · have hE : a2W w s u p v = K5 w s := by unfold a2W; rw [if_pos h0]
    unfold a8E
    rw [hE, if_neg h0]
    generalize K5 w s = e at *
    obtain ⟨arms, walls, parts, slots, gates, walk⟩ := w
    obtain ⟨tick, sarms, sparts, people, sgates⟩ := s
    simp only [a3Q, l6, TT, II, OA, OB, OC, MM, LL, VV, FF, MG, LG, VG, FG]
    simp only [Wk.c, Wk.enc, Stt.c, Stt.enc, a2w, ams, wls, pts, sls, gts, L8, frs, vts, bls, wss, rts, sb, ints] at hck ⊢
    (repeat first | refine uA ?_ | (refine uK ?_ ?_; focus first | omega | (intros; simp_all <;> omega)) | simp (disch := omega) only [go_sem, Nat.reduceBEq, Nat.reduceAdd, ww] | (refine uD hck ?_ ?_ ?_; exact tz hw; exact rfl))
    refine S.cond rfl (fun hc => ?_) (fun hc => by simp at hc; exact absurd hc h0)
    (repeat first | refine uA ?_ | (refine uK ?_ ?_; focus first | omega | (intros; simp_all <;> omega)) | simp (disch := omega) only [go_sem, Nat.reduceBEq, Nat.reduceAdd, ww])
    (refine S.done ?_; simp only [q8, l9, go_sem, Nat.reduceBEq, Nat.reduceAdd, Nat.reduceLeDiff, Int.reduceToNat, Int.reducePow]; (repeat (refine ⟨?_, ?_⟩; focus first | trivial | omega | simp)); exact j3.out rfl (Imp.tup (by (repeat' (first | exact l7.nil | exact Imp.refl rfl | exact Imp.frz rfl rfl rfl | exact Imp.I9 | refine Imp.agg ?_ | refine l7.cons ?_ ?_)))) rfl)
set_option maxHeartbeats 16000000
set_option maxRecDepth 10000
set_option maxHeartbeats 4000000
structure Stw (s : Stt) : Prop where
 arms : s.arms.length <= 1073741824 /\ ∀ x ∈ s.arms, Asb 1073741824 x
 parts : s.parts.length <= 1073741824
 people : s.people.length <= 1073741824
 gates : s.gates.length <= 1073741824
theorem Stb.w {s : Stt} (h : Stb 1073741824 s) : Stw s := ⟨h.arms, h.parts.1, h.people.1, h.gates⟩
open Go Go.RowKit Go.ChangeShapes Go.WideShapes Eng
theorem b7u {H : Type} {l : List (DataW H)} (hk : Rows.uptoSmall H l = true) : Rows.uptoBulkAll l <= 1048576 := of_decide_eq_true hk
theorem b7U {H : Type} (l r : List (DataW H)) : Rows.uptoBulkAll (l ++ r) = Rows.uptoBulkAll l + Rows.uptoBulkAll r := by
 induction l with
 | nil => simp [Rows.uptoBulkAll]
 | cons x l ih => simp only [List.cons_append, Rows.uptoBulkAll, ih]; omega
def noB : Nat -> Prop := fun _ => False
section
variable {H : Type} {enc : TypeId × Value -> H} {P : Program} {W : World}
def Opens (enc : TypeId × Value -> H) (P : Program) (W : World) (t : TypeId) {α : Type} (tc : α -> List C) (ok : α -> Prop) (ms : α -> Nat) : Prop :=
 ∀ (fuel : Nat) (cs : List Value) (x : DataW H × List MemPlace), DataW.trod enc P W 0 (fun _ => true) true fuel t cs = some x -> ∃ a : α, FzL W noB (tc a) cs /\ (∀ u ∈ cs, u.oneCell' = true) /\ ok a /\ ms a <= Rows.uptoBulk x.1
def I64 (n : Int) : Prop := -9223372036854775808 <= n /\ n <= 9223372036854775807
theorem b6d {t : TypeId} (ht : P.underlying t = some (.int .i64)) : Opens enc P W t (fun n : Int => [.v (.int .i64 n)]) I64 fun _ => 1 := by
 intro fuel cs x h
 obtain ⟨n, rfl, rfl, hw⟩ := DataW.trod_int ht h
 refine ⟨n, by simp [FzL, Fz], by simp [Value.oneCell'], ?_, by simp [Rows.uptoBulk]⟩
 simpa [Lit.wf, IntKind.min, IntKind.max, IntKind.signed, IntKind.bits, I64] using hw
theorem Opens.imp {t : TypeId} {α β : Type} {tc : α -> List C} {ok : α -> Prop} {ms : α -> Nat} {tc' : β -> List C} {ok' : β -> Prop} {ms' : β -> Nat} (h : Opens enc P W t tc ok ms)
  (f : ∀ a, ok a -> ∃ b, tc a = tc' b /\ ok' b /\ ms' b <= ms a) : Opens enc P W t tc' ok' ms' := by
 intro fuel cs x hx
 obtain ⟨a, h0, h01, h1, h2⟩ := h fuel cs x hx
 obtain ⟨b, h3, h4, h5⟩ := f a h1
 exact ⟨b, by rw [<- h3]; exact h0, h01, h4, c1M h5 h2⟩
theorem b6O {w : World} {O : Nat -> Prop} {q : List C} {vs : List Value} {ad : Addr} {j : Nat} (hF : FzL w O q vs) (h1 : ∀ u ∈ vs, u.oneCell' = true) (hc : ∀ i v, vs[i]? = some v -> w.cell? (ad.add (j + i)) = some v) : FzA w O q ad j := FzA.of hF h1 hc
theorem b3u {t e : TypeId} {α : Type} {tc : α -> List C} {ok : α -> Prop} {ms : α -> Nat} {sz : Nat} (ht : P.underlying t = some (.slice e)) (hc : P.cellsOf e = sz) (hsz : 0 < sz) (hlen : ∀ a, (tc a).length = sz)
  (he : Opens enc P W e tc ok ms) : Opens enc P W t (fun xs : List α => [.sl sz (xs.map tc)]) (fun xs => ∀ a ∈ xs, ok a) fun xs => 1 + (xs.map ms).sum := by
 intro fuel cs x h
 rcases Deep.open_slice ht h with ⟨rfl, rfl⟩ | ⟨a, len, cap, m, n, D, Pl, rfl, _, hl, hm, hmm, rfl, hx⟩
 ·refine ⟨[], ?_, by simp [Value.oneCell'], (fun a ha => by cases ha), by simp [Rows.uptoBulk]⟩
  simp only [FzL, Fz]
  exact ⟨_, _, rfl, ⟨none, 0, rfl, c1T _, c1Q _, fun h => by simp at h⟩, rfl⟩
 ·have hlm : len <= m := by rw [hmm]; split <;> omega
  have key : ∀ i, i < len -> ∃ (y : α) (vs : List Value), W.cells? 0 (a.add (i * sz)) sz = some vs /\ FzL W noB (tc y) vs /\ (∀ u ∈ vs, u.oneCell' = true) /\ ok y /\ ms y <= Rows.uptoBulk (D i) := by
   intro i hi
   obtain ⟨cs', h1, h2⟩ := hx i (by omega)
   obtain ⟨y, h31, h32, h3, h4⟩ := he _ _ _ h2
   rw [hc] at h1
   exact ⟨y, cs', h1, h31, h32, h3, h4⟩
  have build : ∀ k, k <= len -> ∃ xs : List α, xs.length = k /\ (∀ i y, xs[i]? = some y -> ∃ vs, W.cells? 0 (a.add (i * sz)) sz = some vs /\ FzL W noB (tc y) vs /\ (∀ u ∈ vs, u.oneCell' = true) /\ ok y) /\ (xs.map ms).sum <= Rows.uptoBulkAll ((List.range k).map D) := by
   intro k
   induction k with
   | zero => intro _; exact ⟨[], rfl, (fun i y h => by simp at h), by simp⟩
   | succ k ih =>
    intro hk
    obtain ⟨xs, h1, h2, h3⟩ := ih (by omega)
    obtain ⟨y, vs, h4, h41, h42, h5, h6⟩ := key k (by omega)
    refine ⟨xs ++ [y], by simp [h1], fun i z hz => ?_, ?_⟩
    ·rcases c2o i xs.length with hlt | hge
     ·rw [c1Z hlt] at hz
      exact h2 i z hz
     ·rw [c2c hge] at hz
      have : i - xs.length = 0 := by
       rcases c2f (i - xs.length) with h0 | h0
       ·exact h0
       ·obtain ⟨d, hd⟩ : ∃ d, i - xs.length = d + 1 := ⟨i - xs.length - 1, by omega⟩
        rw [hd] at hz; simp at hz
      rw [this] at hz
      simp at hz
      subst hz
      have : i = k := by omega
      subst this
      exact ⟨vs, h4, h41, h42, h5⟩
    ·rw [c2z, List.sum_append, List.range_succ, c2z, b7U]
     simp only [c2b, c2w, List.sum_cons, List.sum_nil, Rows.uptoBulkAll]
     omega
  obtain ⟨xs, h1, h2, h3⟩ := build len (c1T _)
  have hcell : ∀ (i : Nat) (y : α), xs[i]? = some y -> (tc y).length = sz /\ FzA W noB (tc y) a (i * sz) := by
   intro i y hy
   obtain ⟨vs, h4, h41, h42, _⟩ := h2 i y hy
   obtain ⟨_, h5, h6⟩ := World.cells?_some h4
   refine ⟨hlen _, b6O h41 h42 fun j v hv => ?_⟩
   have hj : j < sz := by
    have := (c1O.1 hv).1
    rwa [h5] at this
   have h7 := h6 j hj
   rw [hv, Deep.add_add] at h7
   exact h7
  refine ⟨xs, ?_, by simp [Value.oneCell'], fun y hy => ?_, ?_⟩
  ·simp only [FzL]
   refine ⟨_, _, rfl, ?_, rfl⟩
   simp only [Fz]
   refine ⟨some a, cap, by simp [h1], by simp; omega, hm, fun h0 => ⟨a, rfl, ?_, (fun h => h), FzE.of fun k q hq => ?_⟩⟩
   ·have hi : 0 < xs.length := by simpa using h0
    obtain ⟨hq1, hq2⟩ := hcell 0 xs[0] (c1I hi)
    have h9 : 0 < (tc xs[0]).length := by omega
    match htc : tc xs[0], h9, hq2 with
    | c :: cs, _, hq2 =>
     simp only [FzA] at hq2
     obtain ⟨⟨v, hv, _⟩, _⟩ := hq2
     have h10 := block_lt_of_cell hv
     rwa [add_block] at h10
   ·rw [c2x] at hq
    obtain ⟨y, hy, rfl⟩ := Option.map_eq_some_iff.1 hq
    rw [c2n]; exact hcell k y hy
  ·obtain ⟨i, hi⟩ := List.mem_iff_getElem?.1 hy
   exact (h2 i y hi).choose_spec.2.2.2
  ·simp only [Rows.uptoBulk]
   omega
theorem FzL.app {w : World} {O : Nat -> Prop} : ∀ {cs ds : List C} {vs us : List Value}, FzL w O cs vs -> FzL w O ds us -> FzL w O (cs ++ ds) (vs ++ us)
 | [], ds, vs, us, h, k => by simp only [FzL] at h; subst h; simpa using k
 | c :: cs, ds, vs, us, h, k => by
  simp only [FzL] at h
  obtain ⟨y, ys, rfl, h1, h2⟩ := h
  exact ⟨y, ys ++ us, rfl, h1, FzL.app h2 k⟩
theorem b8a {f : Func} {s : ChangeSpec} {apart fresh handsOn again : Bool} {W' : World} {args : Array Value} {ds gs : List (DataW H)} {before : List MemPlace} {tb : TypeId} (hl : laidOutB P = true) (hpar : ∀ t ∈ f.params.toList, P.readableRec t = true /\ t < P.types.size)
  (hrt : f.resultTypes = #[tb]) (htb : P.underlying tb = some .bool) (hv : s.vars = []) (hfn : s.fn H (ds ++ gs) = { results := [.lit (.bool true)], args := ds }) (hW : DataW.Whole enc P f.params.toList s.vars apart W args.toList ds gs before) (hb : Below W.heap.size W W') :
  s.post enc P f apart fresh handsOn again W args (.bool true) W' := by
 have hlt : ∀ p ∈ before, p.block < W.heap.size := fun p hp => hW.lt p hp
 obtain ⟨p, q, hA, hV, hps, hz, hn⟩ := id hW
 rw [hv] at hV
 obtain ⟨rfl, rfl⟩ := trodVars_none hV
 rw [List.append_nil] at hps
 subst hps
 have all : ∀ (sp : Nat -> Bool) (ts : List TypeId) (vs : List Value) (es : List (DataW H)) (pl : List MemPlace), (∀ t ∈ ts, P.readableRec t = true /\ t < P.types.size) -> (∀ x ∈ pl, x.block < W.heap.size /\ sp x.block = true) -> DataW.TrodAll enc P W 0 (fun _ => true) true ts vs es pl -> DataW.TrodAll enc P W' 0 sp true ts vs es pl := by
  intro sp ts
  induction ts with
  | nil =>
   intro vs es pl _ _ h
   cases vs <;> cases es <;> simp only [DataW.TrodAll] at h ⊢ <;> exact h
  | cons t ts ih =>
   intro vs es pl hts hpl h
   cases vs <;> cases es <;> simp only [DataW.TrodAll] at h ⊢
   obtain ⟨p1, p2, h1, h2, rfl⟩ := h
   refine ⟨p1, p2, ?_, ih _ _ _ (fun t ht => hts t (List.mem_cons_of_mem _ ht)) (fun x hx => hpl x (List.mem_append_right _ hx)) h2, rfl⟩
   exact WideElems.Trod_stays hl (hts t (List.mem_cons_self ..)).1 (hts t (List.mem_cons_self ..)).2 h1 (fun x hx => hb.same (hpl x (List.mem_append_left _ hx)).1) fun x hx => (hpl x (List.mem_append_left _ hx)).2
 have hres : ∀ (b : Nat) (sp : Nat -> Bool) (hd : Bool), DataW.TrodAll enc P W' b sp hd f.resultTypes.toList ((Value.bool true).resultList f.resultTypes.size) (s.fn H (ds ++ [])).results [] := by
  intro b sp hd
  rw [hrt, hfn]
  exact trodAll_cons_mk (shut_bool htb true) trodAll_mk0
 have hargs : ∀ sp : Nat -> Bool, (∀ p' ∈ before, sp p'.block = true) -> DataW.TrodAll enc P W' 0 sp true f.params.toList args.toList (s.fn H (ds ++ [])).args before := fun sp hsp => by
  rw [hfn]
  exact all sp _ _ _ _ hpar (fun x hx => ⟨hlt x hx, hsp x hx⟩) hA
 have hvars : ∀ sp : Nat -> Bool, DataW.TrodVars enc P W' sp s.vars (s.fn H (ds ++ [])).vars [] := fun sp => by rw [hv, hfn]; rfl
 have hold : ∀ p' ∈ before, (fun b => decide (b < W.heap.size)) p'.block = true := fun p' hp => by simpa using hlt p' hp
 refine ⟨ds, [], before, [], before, [], hW, hres _ _ _, hargs _ hold, hvars _, World.keptBut_mono (fun p' hp => ⟨hp, ?_⟩) (hb.frame (· ∈ before)), fun _ => ⟨ok_one hrt rfl (okWide_bool_mk htb _), _, _, ([] ++ before) ++ [], ⟨[] ++ before, [], trodAll_append (hargs _ (fun _ _ => rfl)) (hres _ _ _), hvars _, rfl, ?_, ?_⟩, ?_⟩⟩
 ·exact Or.inr (by simpa using hp)
 ·intro b off hp
  have hin : MemPlace.cell b off ∈ before := by simpa using hp
  rw [hb.frozen (hlt _ hin)]
  exact hz b off hin
 ·intro ha
  have := hn ha
  simpa using this
 ·intro p' hp _
  simpa using hp
end
open Go Go.RowKit Go.ChangeShapes Go.WideShapes Go.ChangeAt Eng
theorem b8x : ownKnob Tryz.prog.godebug = none := by kernel_rfl
theorem b7L : laidOutB Tryz.prog = true := by kernel_rfl
theorem gDb : Tryz.prog.globalNamed "math/bits.deBruijn64tab" = some 1 := by kernel_rfl
theorem b8V : (Tryz.prog.globals[1]?).map (·.type) = some 223 := by kernel_rfl
theorem b7W : Tryz.prog.cellsOf 223 = 64 := by kernel_rfl
theorem b9U : Tryz.prog.cellsOf 5 = 1 := by kernel_rfl
theorem b7p : Tryz.prog.underlying 223 = some (.array 64 5) := by kernel_rfl
theorem c0Q : Tryz.prog.underlying 5 = some (.int .u8) := by kernel_rfl
theorem b9u : (Rows.laid_math_bits_deBruijn64tab : DataW Unit) = Lib.tabData .u8 (Lib.deBruijn64tab.map fun n : Nat => (n : Int)) := by rfl
theorem c1f {W : World} {rest : List (String × DataW Unit)} (h : laidMet Tryz.prog (("math/bits.deBruijn64tab", Rows.laid_math_bits_deBruijn64tab) :: rest) W) : Wz W := by
 rw [b9u] at h
 have ht := Lib.tabIs_of_head gDb b8V b7p c0Q b9U b7W h
 intro j hj
 have := ht.cell gDb j (by rw [c1J]; exact hj)
 rw [this]
 congr 2
 rw [c1U, c1U, c2x, c1I hj]
 rfl
section
variable {H : Type} {enc : TypeId × Value -> H} {W : World}
theorem b2v {α : Type} : ∀ l : List α, l.length = (l.map fun _ => 1).sum
 | [] => rfl
 | x :: l => by simp only [c1W, c2b, List.sum_cons, <- b2v l]; omega
theorem b6n : Tryz.prog.cellsOf 3 = 1 := by kernel_rfl
theorem b1D : Opens enc Tryz.prog W 22 (fun l : List Int => [.sl 1 (l.map fun n => [.v (.int .i64 n)])]) (fun l => ∀ x ∈ l, I64 x) fun l => 1 + l.length :=
 (b3u Tryz.underlying22 b6n (by decide) (fun _ => rfl) (b6d Tryz.underlying3)).imp fun f hf => ⟨f, rfl, hf, by rw [<- b2v]; exact c1T _⟩
end
noncomputable def laidWorld (os : Os) : World := World.doorLaid Tryz.prog 400 os
section
variable {H : Type} {enc : TypeId × Value -> H} {W : World}
end
structure Stc (k : Nat) (s : Stt) : Prop where
 arms : s.arms.length <= 4 /\ ∀ x ∈ s.arms, (x.q.length <= 3 /\ ∀ r ∈ x.q, Rb k r) /\ (x.v.length <= 3 /\ ∀ r ∈ x.v, Rb k r)
 parts : s.parts.length <= 6 /\ ∀ f ∈ s.parts, Fb k f
 people : s.people.length <= 4 /\ ∀ v ∈ s.people, Vb k v
 gates : s.gates.length <= 4
set_option maxRecDepth 100000
set_option maxHeartbeats 16000000
theorem b9z (w : Wk) (s : Stt) (u : List (List Nm.Rt)) (p : List Bool) (hwb : Wb 1048576 w) (hs : Stb 1048576 s) (hu : Wsb 1048576 u) (hp : p.length <= 1048576) :
  FZ 15 [w.c, s.c, wss u, bls p, .v (.slice none 0 0)] (a8E w s u p []) := by
 have h := c0K w s u p [] hwb hs hu hp ⟨c1Q _, fun x hx => by cases hx⟩
 intro O w' vs hw hO hA
 refine h O w' vs hw hO ?_
 simp only [FzL] at hA ⊢
 obtain ⟨y1, r1, rfl, f1, y2, r2, rfl, f2, y3, r3, rfl, f3, y4, r4, rfl, f4, y5, r5, rfl, f5, rfl⟩ := hA
 simp only [Fz] at f5
 subst f5
 exact ⟨_, _, rfl, f1, _, _, rfl, f2, _, _, rfl, f3, _, _, rfl, f4, _, _, rfl, a5k, rfl⟩
set_option maxRecDepth 10000
set_option maxHeartbeats 8000000
theorem b5K (g : Nat) (hcal : callable Tryz.prog g = true) (k : Int) (l : List Ast) (hn : l.length <= 1099511627776) (hg : ∀ x : Ast, F7 Tryz.prog g [x.c, .ep [ints k]] (.v (.bool (decide (x.holds = k))))) :
  F7 Tryz.prog 110 [L8 l, .clo g [.ep [ints k]]] (ints (a2n (fun x => decide (x.holds = k)) l)) := by
 refine kS Tryz.func110 (by cbv) (by rfl) fun w O => ?_
 simp only [l6, L8, ints]
 (repeat first | refine uA ?_ | (refine uK ?_ ?_; focus first | omega | (intros; simp_all <;> omega)) | simp (disch := omega) only [go_sem, Nat.reduceBEq, Nat.reduceAdd, ww, c1J])
 refine S.loop (X := Nat) (fun i => ⟨[(0, L8 l), (1, .clo g [.ep [ints k]]), (7, ints l.length), (8, ints i)], []⟩) (fun i => i <= l.length /\ ∀ j, j < i -> ∀ x, l[j]? = some x -> decide (x.holds = k) = false) (fun i => l.length - i) 0 ⟨c1Q _, fun _ h => absurd h (Nat.not_lt_zero _)⟩ (by (repeat first | refine uA ?_ | (refine ⟨?_, ?_⟩; focus first | rfl | simp [slot]) | rfl | simp)) ?_
 rintro i ⟨hi, hm⟩
 simp only [L8, ints]
 (repeat first | refine uA ?_ | (refine uK ?_ ?_; focus first | omega | (intros; simp_all <;> omega)) | simp (disch := omega) only [go_sem, Nat.reduceBEq, Nat.reduceAdd, ww])
 (refine uJ rfl (fun hc => ?_) fun hc => ?_)
 ·have hi' : i < l.length := by omega
  have hgi := c1I hi'
  generalize l[i] = x at hgi
  have hs := hg x
  simp only [Ast.c, Ast.enc, rts, sb, ints] at hs
  (repeat first | refine uA ?_ | (refine uK ?_ ?_; focus first | omega | (intros; simp_all <;> omega)) | simp (disch := omega) only [go_sem, Nat.reduceBEq, Nat.reduceAdd, ww, hgi, c1K, c1J, Ast.enc, rts, sb, ints, c1R, hcal] | (refine uB hs ?_ ?_; exact rfl))
  refine S.cond rfl (fun hc2 => ?_) (fun hc2 => ?_)
  ·rw [a5t (p := fun x : Ast => decide (x.holds = k)) hgi hc2 hm]
   (repeat first | refine uA ?_ | (refine uK ?_ ?_; focus first | omega | (intros; simp_all <;> omega)) | simp (disch := omega) only [go_sem, Nat.reduceBEq, Nat.reduceAdd, ww])
   exact S.done (j3.out rfl (Imp.refl rfl) rfl)
  ·(repeat first | refine uA ?_ | (refine uK ?_ ?_; focus first | omega | (intros; simp_all <;> omega)) | simp (disch := omega) only [go_sem, Nat.reduceBEq, Nat.reduceAdd, ww])
   refine S.next (i + 1) ⟨by omega, fun j hj y hy => ?_⟩ (by omega) (by (repeat first | refine uA ?_ | (refine ⟨?_, ?_⟩; focus first | rfl | simp [slot]) | rfl | simp))
   rcases c2o j i with h1 | h1
   ·exact hm j h1 y hy
   ·have : j = i := by omega
    subst this
    rw [hgi] at hy
    cases hy
    exact hc2
 ·have hi' : i = l.length := by omega
  subst hi'
  rw [a4l hm]
  (repeat first | refine uA ?_ | (refine uK ?_ ?_; focus first | omega | (intros; simp_all <;> omega)) | simp (disch := omega) only [go_sem, Nat.reduceBEq, Nat.reduceAdd, ww])
  exact S.done (j3.out rfl (Imp.refl rfl) rfl)
theorem b6Y (g : Nat) (hcal : callable Tryz.prog g = true) (k : Int) (l : List Ast) (hn : l.length <= 1099511627776) (hg : ∀ x : Ast, F7 Tryz.prog g [x.c, .ep [ints k]] (.v (.bool (decide (x.holds = k))))) :
  F7 Tryz.prog 58 [L8 l, .clo g [.ep [ints k]]] (.v (.bool (l.any fun x => decide (x.holds = k)))) := by
 refine kS Tryz.func58 (by cbv) (by rfl) fun w O => ?_
 have h := b5K g hcal k l hn hg
 rw [<- a5V]
 generalize a2n (fun x : Ast => decide (x.holds = k)) l = n at *
 simp only [l6]
 simp only [L8, ints] at *
 (repeat first | refine uA ?_ | (refine uK ?_ ?_; focus first | omega | (intros; simp_all <;> omega)) | simp (disch := omega) only [go_sem, Nat.reduceBEq, Nat.reduceAdd, ww] | (refine uB h ?_ ?_; exact rfl))
 exact S.done (j3.out rfl (Imp.refl rfl) rfl)
def a2r : Q8 := ⟨131, [.cell 8 true 5, .tmp 9], .seq (.reg [OA 4 (.box 31 (TT 0)), OA 5 (.box 37 (TT 1)), OA 7 (.box 3 (TT 3)), OA 8 (.alloc 37 [.int .i64 0, .slice none 0 0, .slice none 0 0, .slice none 0 0, .slice none 0 0]), OA 9 (.mv (II
 0))]) (.seq (.seq (.reg [LL 17 8 4, LL 18 5 5, MM 19 2, OA 20 (.call 57 [TT 17, TT 18, TT 19]), MM 10 20]) (.seq (.reg [MM 21 10, OA 22 (.bin .neq (TT 21) (II 0))]) (.cond (TT 22) (.seq (.reg [OA 23 (.build [.int .i64 0, .slice
 none 0 0, .slice none 0 0, .slice none 0 0, .slice none 0 0] []), MM 24 10, OB (.store 5 (TT 8) (TT 23)), MM 9 24]) .ret) .skip))) (.seq (.seq (.reg [VV 25 7, OA 26 (.bin .lss (TT 25) (II 0)), MM 27 26, VG 28 7 27 false, FG 29 2
 4 27 false, VG 30 29 27 false, OC 31 (.len false (TT 30)) 27 false, OC 32 (.bin .geq (TT 28) (TT 31)) 27 false, OA 33 (.pick (TT 27) (.const (.bool true)) (TT 32))]) (.cond (TT 33) (.seq (.reg [OA 34 (.build [.int .i64 0, .slice
 none 0 0, .slice none 0 0, .slice none 0 0, .slice none 0 0] []), OB (.store 5 (TT 8) (TT 34)), OA 9 (.mv (II 1))]) .ret) .skip)) (.seq (.seq (.reg [FF 35 1 5, VV 36 35, MM 37 2, OA 38 (.p9 4 (TT 36) (TT 37)), FF 39 3 38, VV
 40 39, OA 41 (.bin .geq (TT 40) (II 0)), MM 42 41, FG 43 1 5 42 false, VG 44 43 42 false, OC 45 (.clo 59 [TT 7]) 42 false, OC 46 (.call 58 [TT 44, TT 45]) 42 false, OA 47 (.pick (TT 42) (.const (.bool true)) (TT 46))]) (.cond
 (TT 47) (.seq (.reg [OA 48 (.build [.int .i64 0, .slice none 0 0, .slice none 0 0, .slice none 0 0, .slice none 0 0] []), OB (.store 5 (TT 8) (TT 48)), OA 9 (.mv (II 7))]) .ret) .skip)) (.seq (.F5 [.q, .q, .q, .q, .q, .q, .q,
 .q, .q, .q, .q, .q, .q, .q, .l, .a, .e (some 11) false, .q] [FF 50 0 4, VV 51 50, MM 52 2, OA 53 (.p9 12 (TT 51) (TT 52)), LL 54 12 53, FF 55 1 5, VV 56 55, MM 57 2, OA 58 (.p9 4 (TT 56) (TT 57)), FF 59 0 58, VV 60 59, OA
 61 (.call 11 [TT 54, TT 60]), MM 49 61, OA 62 (.ext (TT 49) 0), OA 63 (.ext (TT 49) 1), OA 11 (.alloc 48 [.bool false, .string ⟨#[]⟩, .string ⟨#[]⟩, .bool false, .string ⟨#[]⟩, .string ⟨#[]⟩, .bool false, .bool false, .string
 ⟨#[]⟩, .string ⟨#[]⟩]), OB (.store 10 (TT 11) (TT 62)), MM 12 63]) (.seq (.seq (.reg [MM 64 12, OA 65 (.bin .neq (TT 64) (II 0))]) (.cond (TT 65) (.seq (.reg [OA 66 (.build [.int .i64 0, .slice none 0 0, .slice none 0 0, .slice
 none 0 0, .slice none 0 0] []), MM 67 12, OB (.store 5 (TT 8) (TT 66)), MM 9 67]) .ret) .skip)) (.seq (.F5 [.q, .q, .q, .q, .q, .q, .q, .q, .q, .q, .q, .q, .q, .q, .q, .q, .a, .e (some 13) true] [FF 68 0 11, LL 69 6 68, FF 70
 2 5, VV 71 70, VV 72 7, OA 73 (.p9 10 (TT 71) (TT 72)), LL 74 10 73, FF 75 2 4, VV 76 75, VV 77 7, OA 78 (.p9 12 (TT 76) (TT 77)), FF 79 2 78, FF 80 0 79, LL 81 6 80, OA 82 (.call 18 [TT 74, TT 81]), OA 83 (.call 55 [TT
 69, TT 82]), OA 13 (.alloc 44 [.bool false, .string ⟨#[]⟩, .string ⟨#[]⟩, .bool false, .string ⟨#[]⟩, .string ⟨#[]⟩]), OB (.store 6 (TT 13) (TT 83))]) (.seq (.reg [OA 85 (.call 60 [II 1, II 8]), MM 84 85, OA 86 (.ext (TT 84) 0),
 OA 87 (.ext (TT 84) 1), OA 14 (.alloc 29 [.bool false, .string ⟨#[]⟩, .string ⟨#[]⟩]), OB (.store 3 (TT 14) (TT 86)), MM 15 87]) (.seq (.seq (.F5 [.q, .q, .q, .q, .q, .q, .q, .q, .q, .q, .q, .q, .q, .q] [FF 88 0 13, LL 89 3
 88, OA 90 (.call 61 [TT 89]), LL 91 3 14, OA 92 (.call 22 [TT 90, TT 91]), OA 93 (.bin .gtr (TT 92) (II 0)), MM 94 93, FG 95 3 13 94 false, LG 96 3 95 94 false, OC 97 (.call 61 [TT 96]) 94 false, LG 98 3 14 94 false, OC 99
 (.call 22 [TT 97, TT 98]) 94 false, OC 100 (.bin .gtr (TT 99) (II 0)) 94 false, OA 101 (.pick (TT 94) (.const (.bool true)) (TT 100))]) (.cond (TT 101) (.seq (.reg [OA 102 (.build [.int .i64 0, .slice none 0 0, .slice none 0 0,
 .slice none 0 0, .slice none 0 0] []), OB (.store 5 (TT 8) (TT 102)), OA 9 (.mv (II 17))]) .ret) .skip)) (.seq (.reg [LL 103 5 5, OA 104 (.call 62 [TT 103]), OA 16 (.alloc 37 [.int .i64 0, .slice none 0 0, .slice none 0 0,
 .slice none 0 0, .slice none 0 0]), OB (.store 5 (TT 16) (TT 104))]) (.seq (.reg [FF 105 1 16, VV 106 105, MM 107 2, VV 108 7, OA 109 (.p9 4 (TT 106) (TT 107)), FF 110 3 109, OB (.store 1 (TT 110) (TT 108))]) (.seq (.seq
 (.F5 [.q, .q, .q, .q, .q, .q, .q, .q, .q, .q, .q, .q, .q, .l, .q, .e none false, .q] [FF 112 2 16, VV 113 112, VV 114 7, LL 115 8 4, MM 116 2, FF 117 1 16, VV 118 117, MM 119 2, OA 120 (.p9 4 (TT 118) (TT 119)), LL 121 4
 120, OA 122 (.call 63 [TT 115, TT 116, TT 121]), MM 111 122, OA 123 (.ext (TT 111) 0), OA 124 (.ext (TT 111) 1), OA 125 (.p9 10 (TT 113) (TT 114)), OB (.store 10 (TT 125) (TT 123)), MM 12 124]) (.seq (.reg [MM 126 12, OA 127
 (.bin .neq (TT 126) (II 0))]) (.cond (TT 127) (.seq (.reg [OA 128 (.build [.int .i64 0, .slice none 0 0, .slice none 0 0, .slice none 0 0, .slice none 0 0] []), MM 129 12, OB (.store 5 (TT 8) (TT 128)), MM 9 129]) .ret) .skip)))
 (.seq (.reg [LL 130 5 16, OB (.store 5 (TT 8) (TT 130)), OA 9 (.mv (II 0))]) .ret))))))))))))⟩
theorem b1X : M6 eff Tryz.prog Tryz.f14 = some a2r := by kernel_rfl
theorem b2Z : Tryz.prog.funcs[14]? = some Tryz.f14 := Tryz.func14
set_option maxRecDepth 100000
set_option maxHeartbeats 32000000
def b4I (w : Wk) (s : Stt) (n p : Int) : C := if a2O w s n p = 0 then .tup [(b1l s n.toNat p.toNat (w.arms.getD n.toNat ⟨[], a0W, []⟩) (s.arms.getD n.toNat ⟨[], [], false, 0⟩) (w.parts.getD p.toNat ⟨[], [], a0W⟩)).c, ints 0] else .tup [.agg a2w, ints (a2O w s n p)]
theorem a5g {α : Type} {l : List α} {i : Nat} {x d : α} (h : l[i]? = some x) : l.getD i d = x := by rw [c1U, h]; rfl
theorem b8W {w : Wk} {s : Stt} {k : Nat} {p : Int} {a : Am} {x : Ast} (h0 : R3 w s k = 0) (ga : w.arms[k]? = some a) (gx : s.arms[k]? = some x) : a2O w s k p = if p < 0 \/ (w.parts.length : Int) <= p then 1 else match w.parts[p.toNat]?, s.parts[p.toNat]? with
  | some pt, some f => if 0 <= x.holds \/ (s.arms.any fun y => decide (y.holds = p)) = true then 7 else if a3p (M7 a.base (a.links.zip x.q)) f pt.grasp then 17 else 0
  | _, _ => 0 := by
 unfold a2O
 rw [if_neg (by simpa using h0), c1R, ga, gx]
 split
 ·rfl
 ·generalize w.parts[p.toNat]? = A1
  generalize s.parts[p.toNat]? = A2
  cases A1 <;> cases A2 <;> rfl
theorem b8R (x : Ast) (k : Int) : F7 Tryz.prog 59 [x.c, .ep [ints k]] (.v (.bool (decide (x.holds = k)))) := by
 refine kS Tryz.func59 (by cbv) (by rfl) fun w O => ?_
 simp only [l6, Ast.c, Ast.enc, rts, ints]
 (repeat first | refine uA ?_ | (refine uK ?_ ?_; focus first | omega | (intros; simp_all <;> omega)) | simp (disch := omega) only [go_sem, Nat.reduceBEq, Nat.reduceAdd, ww])
 exact S.done (j3.out rfl (Imp.refl rfl) rfl)
theorem c1b (w : Wk) (s : Stt) (n p : Int) (hwb : Wb 1048576 w) (hs : Stb 1048576 s) : FZ 14 [w.c, s.c, ints n, ints p] (b4I w s n p) := by
 refine kW b2Z b1X (by rfl) fun w' O hw => ?_
 have hck := b4b w s n (hwb.mono (by decide)) (hs.mono (by decide))
 have hcp := fun (E : Ctx) (hP : E.P = Tryz.prog) => a9V hP s (hs.mono (by decide))
 have hcal : callable Tryz.prog 59 = true := by kernel_rfl
 have n1 := hs.arms.1
 have n2 := hs.parts.1
 have n5 := hwb.arms.1
 have n6 := hwb.parts.1
 unfold b4I
 by_cases h0 : R3 w s n = 0
 ·obtain ⟨hst, k, a, x, rfl, ga, gx, hm⟩ := b2i h0
  have hok := a0n hst
  have ho := a1h (hok.one _ (c1L (J8 ga gx)))
  simp only at ho
  have bx := hs.arms.2 x (c1L gx)
  have hqb : ∀ r ∈ x.q, Rb 2097664 r := fun r hr => (bx.1.2 r hr).mono (by decide)
  have ba := (hwb.arms.2 a (c1L ga)).mono (m := 1073741824) (by decide)
  have htip := b1o a x.q ba ho.arm ho.q hqb
  have hpl := hok.parts
  have kl := (c1O.1 ga).1
  have kl2 := (c1O.1 gx).1
  have hhas := b6Y 59 hcal p s.arms (c1M n1 (by decide)) fun x => b8R x p
  have hE : a2O w s k p = if p < 0 \/ (w.parts.length : Int) <= p then 1 else match w.parts[p.toNat]?, s.parts[p.toNat]? with
   | some pt, some f => if 0 <= x.holds \/ (s.arms.any fun y => decide (y.holds = p)) = true then 7 else if a3p (M7 a.base (a.links.zip x.q)) f pt.grasp then 17 else 0
   | _, _ => 0 := b8W h0 ga gx
  rw [h0] at hck
  rw [c1R, a5g ga, a5g gx]
  generalize hany : (s.arms.any fun y => decide (y.holds = p)) = any at *
  by_cases hp : p < 0 \/ (w.parts.length : Int) <= p
  ·rw [if_pos hp] at hE
   rw [hE, if_neg (by decide)]
   obtain ⟨arms, walls, parts, slots, gates, walk⟩ := w
   obtain ⟨tick, sarms, sparts, people, sgates⟩ := s
   simp only at hp n6
   simp only [a2r, l6, TT, II, OA, OB, OC, MM, LL, VV, FF, MG, LG, VG, FG]
   simp only [Wk.c, Wk.enc, Stt.c, Stt.enc, ams, wls, pts, sls, gts, L8, frs, vts, bls, rts, sb, ints, a2w] at hck ⊢
   (repeat first | refine uG hck ?_ | refine uA ?_ | (refine uK ?_ ?_; focus first | omega | (intros; simp_all <;> omega)) | simp (disch := omega) only [go_sem, Nat.reduceBEq, Nat.reduceAdd, ww] | (refine uD hck ?_ ?_ ?_; exact tz hw; exact rfl))
   refine S.cond rfl (fun hc => by simp at hc) (fun hc => ?_)
   (repeat first | refine uA ?_ | (refine uK ?_ ?_; focus first | omega | (intros; simp_all <;> omega)) | simp (disch := omega) only [go_sem, Nat.reduceBEq, Nat.reduceAdd, ww, c1J])
   refine S.cond rfl (fun hc => ?_) (fun hc => by simp only [c2d, c1S] at hc; omega)
   (repeat first | refine uA ?_ | (refine uK ?_ ?_; focus first | omega | (intros; simp_all <;> omega)) | simp (disch := omega) only [go_sem, Nat.reduceBEq, Nat.reduceAdd, ww])
   (refine S.done ?_; simp only [q8, l9, go_sem, Nat.reduceBEq, Nat.reduceAdd, Nat.reduceLeDiff, Int.reduceToNat, Int.reducePow]; (repeat (refine ⟨?_, ?_⟩; focus first | trivial | omega | simp)); exact j3.out rfl (Imp.tup (by (repeat' (first | exact l7.nil | exact Imp.refl rfl | exact Imp.frz rfl rfl rfl | exact Imp.I9 | refine Imp.agg ?_ | refine l7.cons ?_ ?_)))) rfl)
  ·obtain ⟨q, rfl⟩ : ∃ q : Nat, p = q := ⟨p.toNat, by omega⟩
   rw [if_neg hp, c1R] at hE
   have gp := c1I (show q < w.parts.length by omega)
   have gf := c1I (show q < s.parts.length by omega)
   generalize w.parts[q]'_ = pt at gp
   generalize s.parts[q]'_ = f at gf
   rw [gp, gf] at hE
   simp only at hE
   have hcar := b0k w k (a1c x q) a q pt hwb ga gp rfl ho.arm ho.q hqb
   obtain ⟨fb, lb⟩ := a6R ho.arm
   have htb := b5i (a.links.zip x.q) a.base 0 fb (by have := (O8 ho.arm).2; rw [List.length_zip]; omega) fun y hy => ⟨lb _ (List.of_mem_zip hy).1, hqb _ (List.of_mem_zip hy).2⟩
   have hbb := a9p (show 0 + (a.links.zip x.q).length <= 3 by have := (O8 ho.arm).2; rw [List.length_zip]; omega)
   have bf := hs.parts.2 f (c1L gf)
   have bg := (hwb.parts.2 pt (c1L gp)).2.2
   have o1 := b5A f ⟨pt.grasp.x, pt.grasp.y⟩ (bf.1.mono (by decide)) (bf.2.1.mono (by decide)) (bf.2.2.mono (by decide)) (bg.1.mono (by decide)) (bg.2.1.mono (by decide))
   obtain ⟨rp1, rp2⟩ := a9o (c := ⟨pt.grasp.x, pt.grasp.y⟩) bf.1 bf.2.1 bf.2.2 bg.1 bg.2.1 (by decide) (by decide) (by decide)
   have rt1 : Rb 4294967296 (M7 a.base (a.links.zip x.q)).x := htb.1.mono (by omega)
   have rt2 : Rb 4294967296 (M7 a.base (a.links.zip x.q)).y := htb.2.1.mono (by omega)
   rw [c1R, a5g gp]
   have o2 := a8N (M7 a.base (a.links.zip x.q)).x (M7 a.base (a.links.zip x.q)).y (Nm.ofQ (a0l f ⟨pt.grasp.x, pt.grasp.y⟩)) (Nm.ofQ (a0i f ⟨pt.grasp.x, pt.grasp.y⟩)) (rt1.mono (by decide)) (rt2.mono (by decide)) (rp1.mono (by decide)) (rp2.mono (by decide))
   rw [Nm.D7, Nm.D7] at o2
   have rd1 := (M5 (rt1.fit (by decide)) rp1).mono (m := 17179869184) (by decide)
   have rd2 := (M5 (rt2.fit (by decide)) rp2).mono (m := 17179869184) (by decide)
   have o3 := a5N _ rd1
   have o4 := a5N _ rd2
   have b8 : Rb 8 (Nm.ofQ (1 / 8)) := ⟨by decide +kernel, by decide +kernel⟩
   have o5 := U1 (Nm.ofQ (I4 (Nm.d9 (Nm.ofQ (Nm.d9 (M7 a.base (a.links.zip x.q)).x - a0l f ⟨pt.grasp.x, pt.grasp.y⟩))))) (Nm.ofQ (1 / 8)) (a3Z (rd1.fit (by decide))) (b8.mono (by decide))
   have o6 := U1 (Nm.ofQ (I4 (Nm.d9 (Nm.ofQ (Nm.d9 (M7 a.base (a.links.zip x.q)).y - a0i f ⟨pt.grasp.x, pt.grasp.y⟩))))) (Nm.ofQ (1 / 8)) (a3Z (rd2.fit (by decide))) (b8.mono (by decide))
   simp only [Nm.D7] at o3 o4 o5 o6
   have o7 := b7l
   have hfar : a3p (M7 a.base (a.links.zip x.q)) f pt.grasp <-> 0 < Nm.u7 (I4 (Nm.d9 (M7 a.base (a.links.zip x.q)).x - a0l f ⟨pt.grasp.x, pt.grasp.y⟩)) (1 / 8) \/ 0 < Nm.u7 (I4 (Nm.d9 (M7 a.base (a.links.zip x.q)).y - a0i f ⟨pt.grasp.x, pt.grasp.y⟩)) (1 / 8) := Iff.rfl
   have hsx : (s.arms.map Ast.enc).set k [rts x.q, rts x.v, .v (.bool x.power), .v (.int .i64 (q : Int))] = (s.arms.set k (a1c x q)).map Ast.enc := by rw [List.map_set]; rfl
   have hgs : (s.arms.set k (a1c x q))[k]? = some ⟨x.q, x.v, x.power, q⟩ := by rw [List.getElem?_set_self kl2]; rfl
   have hsf : (s.parts.map Fr.enc).set q (F9 a x.q pt.grasp).enc = (s.parts.set q (F9 a x.q pt.grasp)).map Fr.enc := by rw [List.map_set]
   have hgl : (s.arms.set k (a1c x q)).length = s.arms.length := c2l
   have hhx : a1c x q = ⟨x.q, x.v, x.power, q⟩ := rfl
   unfold b1l
   generalize a2O w s k q = E at *
   generalize M7 a.base (a.links.zip x.q) = T at *
   have hTs : ∀ g h, a3p T g h \/ ¬ a3p T g h := fun g h => Classical.em _
   generalize Nm.u7 (I4 (Nm.d9 T.x - a0l f ⟨pt.grasp.x, pt.grasp.y⟩)) (1 / 8) = c1 at *
   generalize Nm.u7 (I4 (Nm.d9 T.y - a0i f ⟨pt.grasp.x, pt.grasp.y⟩)) (1 / 8) = c2 at *
   unfold vq rq at *
   generalize Nm.ofQ (I4 (Nm.d9 T.x - a0l f ⟨pt.grasp.x, pt.grasp.y⟩)) = z1 at *
   generalize Nm.ofQ (I4 (Nm.d9 T.y - a0i f ⟨pt.grasp.x, pt.grasp.y⟩)) = z2 at *
   generalize Nm.ofQ (Nm.d9 T.x - a0l f ⟨pt.grasp.x, pt.grasp.y⟩) = z3 at *
   generalize Nm.ofQ (Nm.d9 T.y - a0i f ⟨pt.grasp.x, pt.grasp.y⟩) = z4 at *
   generalize Nm.ofQ (a0l f ⟨pt.grasp.x, pt.grasp.y⟩) = z5 at *
   generalize Nm.ofQ (a0i f ⟨pt.grasp.x, pt.grasp.y⟩) = z6 at *
   generalize Nm.ofQ (1 / 8) = z7 at *
   rw [hhx] at hcar
   simp only at hcar
   generalize F9 a x.q pt.grasp = R at *
   generalize s.arms.set k (a1c x q) = SA at *
   generalize hSP : s.parts.set q R = SP at *
   obtain ⟨arms, walls, parts, slots, gates, walk⟩ := w
   obtain ⟨tick, sarms, sparts, people, sgates⟩ := s
   simp only at ga gx gp gf kl kl2 n1 n2 n5 n6 hpl hsx hsf hgl hhas hp ⊢
   have hki : (k : Int) < arms.length := by omega
   have hkj : (k : Int) < sarms.length := by omega
   have hqi : (q : Int) < parts.length := by omega
   have hqj : (q : Int) < sparts.length := by omega
   simp only [a2r, l6, TT, II, OA, OB, OC, MM, LL, VV, FF, MG, LG, VG, FG]
   simp only [Wk.c, Wk.enc, Stt.c, Stt.enc, Am.c, Am.enc, Ast.c, Ast.enc, Fr.c, Fr.enc, Vt.c, Vt.enc, vc, rc, lks, ams, wls, pts, sls, gts, L8, frs, vts, bls, rts, sb, ints, a2w] at hck hcp hhas htip hcar o1 o2 o3 o4 o5 o6 o7 hsx hsf ⊢
   (repeat first | refine uG hck ?_ | refine uA ?_ | (refine uK ?_ ?_; focus first | omega | (intros; simp_all <;> omega)) | simp (disch := omega) only [go_sem, Nat.reduceBEq, Nat.reduceAdd, ww] | (refine uD hck ?_ ?_ ?_; exact tz hw; exact rfl))
   refine S.cond rfl (fun hc => by simp at hc) (fun hc => ?_)
   (repeat first | refine uA ?_ | (refine uK ?_ ?_; focus first | omega | (intros; simp_all <;> omega)) | simp (disch := omega) only [go_sem, Nat.reduceBEq, Nat.reduceAdd, ww, c1J])
   refine S.cond rfl (fun hc => by simp only [c2v, c1P] at hc; omega) (fun hc => ?_)
   (repeat first | refine uF hhas ?_ | refine uA ?_ | (refine uK ?_ ?_; focus first | omega | (intros; simp_all <;> omega)) | simp (disch := omega) only [go_sem, Nat.reduceBEq, Nat.reduceAdd, ww, gx, c1K, c1J, Ast.enc, rts, ints, hcal, c1R] | (refine uC hhas ?_ ?_ ?_; exact rfl; focus (repeat' first | exact l7.nil | exact Imp.refl rfl | exact Imp.I9 | exact Imp.fbx rfl rfl (l7.refl rfl) rfl rfl | refine Imp.clo ?_ | exact Imp.frz rfl rfl rfl | (refine Imp.a0j rfl rfl ?_ ?_; (focus ((try simp only [c1Y, gx, c1K, c1J, Ast.enc, rts, ints, hcal, c1R]); omega)); (focus first | rfl | assumption)) | refine Imp.agg ?_ | refine l7.cons ?_ ?_); done))
   by_cases hh : 0 <= x.holds \/ any = true
   ·rw [if_pos hh] at hE
    subst hE
    rw [if_neg (by decide)]
    refine S.cond rfl (fun hc => ?_) (fun hc => by simp only [c2d, c1S] at hc; rcases hh with hh | hh; exact absurd hh hc.1; rw [hc.2] at hh; cases hh)
    (repeat first | refine uA ?_ | (refine uK ?_ ?_; focus first | omega | (intros; simp_all <;> omega)) | simp (disch := omega) only [go_sem, Nat.reduceBEq, Nat.reduceAdd, ww])
    (refine S.done ?_; simp only [q8, l9, go_sem, Nat.reduceBEq, Nat.reduceAdd, Nat.reduceLeDiff, Int.reduceToNat, Int.reducePow]; (repeat (refine ⟨?_, ?_⟩; focus first | trivial | omega | simp)); exact j3.out rfl (Imp.tup (by (repeat' (first | exact l7.nil | exact Imp.refl rfl | exact Imp.frz rfl rfl rfl | exact Imp.I9 | refine Imp.agg ?_ | refine l7.cons ?_ ?_)))) rfl)
   rw [if_neg hh] at hE
   refine S.cond rfl (fun hc => by simp only [c2v, c1P] at hc; exact absurd hc hh) (fun hc => ?_)
   (repeat first | refine uG htip ?_ | refine uA ?_ | (refine uK ?_ ?_; focus first | omega | (intros; simp_all <;> omega)) | simp (disch := omega) only [go_sem, Nat.reduceBEq, Nat.reduceAdd, ww, ga, gx, c1K, c1J, Am.enc, Ast.enc, lks, rts, sb, ints, c1R] | (refine uD htip ?_ ?_ ?_; exact tz hw; exact rfl))
   refine S.cond rfl (fun hc => by simp at hc) (fun hc => ?_)
   (repeat first | refine uG o1 ?_ | refine uG o2 ?_ | refine uG o3 ?_ | refine uG o4 ?_ | refine uG o5 ?_ | refine uG o6 ?_ | refine uG o7 ?_ | refine uA ?_ | (refine uK ?_ ?_; focus first | omega | (intros; simp_all <;> omega)) | simp (disch := omega) only [go_sem, Nat.reduceBEq, Nat.reduceAdd, ww, gp, gf, c1K, c1J, Pt.enc, Fr.enc, vts, sb, c1R] | (refine uD o1 ?_ ?_ ?_; exact tz hw; exact rfl) | (refine uD o2 ?_ ?_ ?_; exact tz hw; exact rfl) | (refine uD o3 ?_ ?_ ?_; exact tz hw; exact rfl) | (refine uD o4 ?_ ?_ ?_; exact tz hw; exact rfl) | (refine uD o5 ?_ ?_ ?_; exact tz hw; exact rfl) | (refine uD o6 ?_ ?_ ?_; exact tz hw; exact rfl) | (refine uD o7 ?_ ?_ ?_; exact tz hw; exact rfl))
   by_cases hf : a3p T f pt.grasp
   ·rw [if_pos hf] at hE
    subst hE
    rw [if_neg (by decide)]
    rw [hfar] at hf
    refine S.cond rfl (fun hc => ?_) (fun hc => by simp only [c2d, c1S] at hc; omega)
    (repeat first | refine uA ?_ | (refine uK ?_ ?_; focus first | omega | (intros; simp_all <;> omega)) | simp (disch := omega) only [go_sem, Nat.reduceBEq, Nat.reduceAdd, ww])
    (refine S.done ?_; simp only [q8, l9, go_sem, Nat.reduceBEq, Nat.reduceAdd, Nat.reduceLeDiff, Int.reduceToNat, Int.reducePow]; (repeat (refine ⟨?_, ?_⟩; focus first | trivial | omega | simp)); exact j3.out rfl (Imp.tup (by (repeat' (first | exact l7.nil | exact Imp.refl rfl | exact Imp.frz rfl rfl rfl | exact Imp.I9 | refine Imp.agg ?_ | refine l7.cons ?_ ?_)))) rfl)
   rw [if_neg hf] at hE
   rw [hfar] at hf
   subst hE
   rw [if_pos rfl]
   refine S.cond rfl (fun hc => by simp only [c2v, c1P] at hc; omega) (fun hc => ?_)
   (repeat first | refine uG hcar ?_ | refine uA ?_ | (refine uK ?_ ?_; focus first | omega | (intros; simp_all <;> omega)) | simp (disch := omega) only [go_sem, Nat.reduceBEq, Nat.reduceAdd, ww, C.sh, C.shL, c1W, List.length_nil, gx, gf, hsx, hgs, hsf, hgl, c1K, c1J, Ast.enc, Fr.enc, rts, sb, ints, c1R] | refine l8.t (j5.pre (hcp _ rfl) rfl rfl rfl) ?_ | (refine uD hcar ?_ ?_ ?_; exact tz hw; exact rfl))
   refine S.cond rfl (fun hc => by simp at hc) (fun hc => ?_)
   (repeat first | refine uA ?_ | (refine uK ?_ ?_; focus first | omega | (intros; simp_all <;> omega)) | simp (disch := omega) only [go_sem, Nat.reduceBEq, Nat.reduceAdd, ww])
   (refine S.done ?_; simp only [q8, l9, go_sem, Nat.reduceBEq, Nat.reduceAdd, Nat.reduceLeDiff, Int.reduceToNat, Int.reducePow]; (repeat (refine ⟨?_, ?_⟩; focus first | trivial | omega | simp)); exact j3.out rfl (Imp.tup (by (repeat' (first | exact l7.nil | exact Imp.refl rfl | exact Imp.frz rfl rfl rfl | exact Imp.I9 | refine Imp.agg ?_ | refine l7.cons ?_ ?_)))) rfl)
 ·have hE : a2O w s n p = R3 w s n := by unfold a2O; rw [if_pos h0]
  rw [hE, if_neg h0]
  generalize R3 w s n = e at *
  obtain ⟨arms, walls, parts, slots, gates, walk⟩ := w
  obtain ⟨tick, sarms, sparts, people, sgates⟩ := s
  simp only [a2r, l6, TT, II, OA, OB, OC, MM, LL, VV, FF, MG, LG, VG, FG]
  simp only [Wk.c, Wk.enc, Stt.c, Stt.enc, ams, wls, pts, sls, gts, L8, frs, vts, bls, rts, sb, ints, a2w] at hck ⊢
  (repeat first | refine uG hck ?_ | refine uA ?_ | (refine uK ?_ ?_; focus first | omega | (intros; simp_all <;> omega)) | simp (disch := omega) only [go_sem, Nat.reduceBEq, Nat.reduceAdd, ww] | (refine uD hck ?_ ?_ ?_; exact tz hw; exact rfl))
  refine S.cond rfl (fun hc => ?_) (fun hc => by simp at hc; exact absurd hc h0)
  (repeat first | refine uA ?_ | (refine uK ?_ ?_; focus first | omega | (intros; simp_all <;> omega)) | simp (disch := omega) only [go_sem, Nat.reduceBEq, Nat.reduceAdd, ww])
  (refine S.done ?_; simp only [q8, l9, go_sem, Nat.reduceBEq, Nat.reduceAdd, Nat.reduceLeDiff, Int.reduceToNat, Int.reducePow]; (repeat (refine ⟨?_, ?_⟩; focus first | trivial | omega | simp)); exact j3.out rfl (Imp.tup (by (repeat' (first | exact l7.nil | exact Imp.refl rfl | exact Imp.frz rfl rfl rfl | exact Imp.I9 | refine Imp.agg ?_ | refine l7.cons ?_ ?_)))) rfl)
def V4 : Q8 := ⟨192, [.tmp 6], .seq (.reg [OA 6 (.mv (.const (.bool false)))]) (.seq (.reg [OA 15 (.bsl 3 1 1 [.int .i64 0] [(0, II 0)]), MM 16 0, OA 17 (.app 3 1 8 (TT 15) (TT 16)), MM 18 1, OA 19 (.call 10 [TT 17, TT 18]), MM 14 19, OA 20
 (.ext (TT 14) 0), OA 21 (.ext (TT 14) 1), OA 22 (.ext (TT 14) 2), OA 7 (.alloc 31 [.slice none 0 0, .slice none 0 0, .slice none 0 0, .slice none 0 0, .slice none 0 0, .bool false, .string ⟨#[]⟩, .string ⟨#[]⟩]), OA 8 (.alloc 37
 [.int .i64 0, .slice none 0 0, .slice none 0 0, .slice none 0 0, .slice none 0 0]), OB (.store 8 (TT 7) (TT 20)), OB (.store 5 (TT 8) (TT 21)), MM 9 22]) (.seq (.seq (.reg [MM 23 9, OA 24 (.un .not (TT 23))]) (.cond (TT 24)
 (.seq (.reg [OA 6 (.mv (.const (.bool false)))]) .ret) .skip)) (.seq (.seq (.reg [FF 25 2 7, VV 26 25, OA 27 (.len false (TT 26)), OA 28 (.bin .eql (TT 27) (II 0))]) (.cond (TT 28) (.seq (.reg [OA 6 (.mv (.const (.bool true)))])
 .ret) .skip)) (.seq (.F5 [.q, .q, .q, .q, .q, .q, .q, .q, .q, .q, .q, .q, .l, .a, .e (some 10) false, .q] [FF 30 0 7, VV 31 30, OA 32 (.p9 12 (TT 31) (II 0)), LL 33 12 32, FF 34 1 8, VV 35 34, OA 36 (.p9 4 (TT 35) (II
 0)), FF 37 0 36, VV 38 37, OA 39 (.call 11 [TT 33, TT 38]), MM 29 39, OA 40 (.ext (TT 29) 0), OA 41 (.ext (TT 29) 1), OA 10 (.alloc 48 [.bool false, .string ⟨#[]⟩, .string ⟨#[]⟩, .bool false, .string ⟨#[]⟩, .string ⟨#[]⟩, .bool
 false, .bool false, .string ⟨#[]⟩, .string ⟨#[]⟩]), OB (.store 10 (TT 10) (TT 40)), MM 11 41]) (.seq (.seq (.reg [MM 42 11, OA 43 (.bin .neq (TT 42) (II 0))]) (.cond (TT 43) (.seq (.reg [OA 6 (.mv (.const (.bool false)))]) .ret)
 .skip)) (.seq (.F5 [.q, .q, .q, .q, .q, .q, .q, .q, .q, .q, .q, .e none true] [FF 44 2 8, VV 45 44, LL 46 10 10, FF 47 2 7, VV 48 47, OA 49 (.p9 12 (TT 48) (II 0)), FF 50 2 49, LL 51 10 50, OA 52 (.call 13 [TT 51]), OA 53
 (.call 12 [TT 46, TT 52]), OA 54 (.p9 10 (TT 45) (II 0)), OB (.store 10 (TT 54) (TT 53))]) (.seq (.reg [LL 56 8 7, LL 57 5 8, OA 58 (.call 14 [TT 56, TT 57, II 0, II 0]), MM 55 58, OA 59 (.ext (TT 55) 0), OA 60 (.ext (TT 55)
 1), OB (.store 5 (TT 8) (TT 59)), MM 11 60]) (.seq (.seq (.reg [MM 61 11, OA 62 (.bin .neq (TT 61) (II 0)), MM 63 62, FG 64 1 8 63 false, VG 65 64 63 false, OC 66 (.len false (TT 65)) 63 false, FG 67 0 7 63 false, VG 68 67 63
 false, OC 69 (.len false (TT 68)) 63 false, OC 70 (.bin .neq (TT 66) (TT 69)) 63 false, OA 71 (.pick (TT 63) (.const (.bool true)) (TT 70)), MM 72 71, FG 73 1 8 72 false, VG 74 73 72 false, OC 75 (.p9 4 (TT 74) (II 0)) 72
 false, FG 76 3 75 72 false, VG 77 76 72 false, OC 78 (.bin .neq (TT 77) (II 0)) 72 false, OA 79 (.pick (TT 72) (.const (.bool true)) (TT 78))]) (.cond (TT 79) (.seq (.reg [OA 6 (.mv (.const (.bool false)))]) .ret) .skip)) (.seq
 (.reg [FF 80 0 7, VV 81 80, OA 82 (.len false (TT 81)), OA 83 (.a1a 4 1 [.bool false] (TT 82) (TT 82)), MM 12 83]) (.seq (.reg [MM 84 12, OA 85 (.p9 1 (TT 84) (II 0)), OB (.store 1 (TT 85) (.const (.bool true)))]) (.seq
 (.F5 [.q, .q, .q, .q, .q, .q, .q, .q, .q, .q, .l, .e none false, .q] [LL 87 8 7, LL 88 5 8, LL 89 8 7, LL 90 5 8, MM 91 2, OA 92 (.call 16 [TT 89, TT 90, TT 91]), MM 93 12, OA 94 (.call 15 [TT 87, TT 88, TT 92, TT 93, .const
 (.slice none 0 0)]), MM 86 94, OA 95 (.ext (TT 86) 0), OA 96 (.ext (TT 86) 1), OB (.store 5 (TT 8) (TT 95)), MM 11 96]) (.seq (.seq (.reg [MM 97 11, OA 98 (.bin .neq (TT 97) (II 0)), MM 99 98, FG 100 1 8 99 false, VG 101 100 99
 false, OC 102 (.len false (TT 101)) 99 false, FG 103 0 7 99 false, VG 104 103 99 false, OC 105 (.len false (TT 104)) 99 false, OC 106 (.bin .neq (TT 102) (TT 105)) 99 false, OA 107 (.pick (TT 99) (.const (.bool true)) (TT 106)),
 MM 108 107, FG 109 2 8 108 false, VG 110 109 108 false, OC 111 (.len false (TT 110)) 108 false, FG 112 2 7 108 false, VG 113 112 108 false, OC 114 (.len false (TT 113)) 108 false, OC 115 (.bin .neq (TT 111) (TT 114)) 108 false,
 OA 116 (.pick (TT 108) (.const (.bool true)) (TT 115))]) (.cond (TT 116) (.seq (.reg [OA 6 (.mv (.const (.bool false)))]) .ret) .skip)) (.seq (.F5 [.q, .q, .q, .q, .q, .q, .q, .q, .q, .q, .q, .q, .l, .e none false, .q] [FF 118
 0 7, VV 119 118, OA 120 (.p9 12 (TT 119) (II 0)), LL 121 12 120, FF 122 1 8, VV 123 122, OA 124 (.p9 4 (TT 123) (II 0)), FF 125 0 124, VV 126 125, OA 127 (.call 11 [TT 121, TT 126]), MM 117 127, OA 128 (.ext (TT 117) 0),
 OA 129 (.ext (TT 117) 1), OB (.store 10 (TT 10) (TT 128)), MM 11 129]) (.seq (.seq (.F5 [.q, .q, .q, .q, .q, .q, .q, .q, .q, .q, .q, .q, .q, .q, .q, .q, .q, .q, .q] [MM 130 11, OA 131 (.bin .neq (TT 130) (II 0)), MM 132 131,
 FG 133 0 10 132 false, LG 134 6 133 132 false, FG 135 2 8 132 false, VG 136 135 132 false, OC 137 (.p9 10 (TT 136) (II 0)) 132 false, LG 138 10 137 132 false, FG 139 2 7 132 false, VG 140 139 132 false, OC 141 (.p9 12 (TT
 140) (II 0)) 132 false, FG 142 2 141 132 false, FG 143 0 142 132 false, LG 144 6 143 132 false, OC 145 (.call 18 [TT 138, TT 144]) 132 false, OC 146 (.call 17 [TT 134, TT 145]) 132 false, OC 147 (.un .not (TT 146)) 132 false, OA
 148 (.pick (TT 132) (.const (.bool true)) (TT 147))]) (.cond (TT 148) (.seq (.reg [OA 6 (.mv (.const (.bool false)))]) .ret) .skip)) (.seq (.reg [LL 150 8 7, LL 151 5 8, OA 152 (.call 19 [TT 150, TT 151, II 0]), MM 149 152, OA
 153 (.ext (TT 149) 0), OA 154 (.ext (TT 149) 1), OA 13 (.alloc 37 [.int .i64 0, .slice none 0 0, .slice none 0 0, .slice none 0 0, .slice none 0 0]), OB (.store 5 (TT 13) (TT 153)), MM 11 154]) (.seq (.seq (.reg [FF 155 1 8, VV
 156 155, OA 157 (.p9 4 (TT 156) (II 0)), LL 158 4 157, OA 159 (.call 20 [TT 158])]) (.cond (TT 159) (.seq (.reg [MM 160 11, OA 161 (.bin .eql (TT 160) (II 7)), MM 6 161]) .ret) .skip)) (.seq (.F5 [.q, .q, .q, .q, .q, .q,
 .q, .q, .q, .q, .q, .q, .q, .q, .q, .q, .q, .q, .q, .q, .q, .q, .q, .q, .q, .q, .q, .q, .q, .q, .q] [MM 162 11, OA 163 (.bin .eql (TT 162) (II 0)), MM 164 163, FG 165 2 13 164 true, VG 166 165 164 true, OC 167 (.len false (TT
 166)) 164 true, FG 168 2 8 164 true, VG 169 168 164 true, OC 170 (.len false (TT 169)) 164 true, OC 171 (.bin .eql (TT 167) (TT 170)) 164 true, OA 172 (.pick (TT 164) (TT 171) (.const (.bool false))), MM 173 172, FG 174 2 13 173
 true, VG 175 174 173 true, OC 176 (.p9 10 (TT 175) (II 0)) 173 true, LG 177 10 176 173 true, FG 178 2 8 173 true, VG 179 178 173 true, OC 180 (.p9 10 (TT 179) (II 0)) 173 true, LG 181 10 180 173 true, OC 182 (.aeq false
 [.b, .s, .s, .b, .s, .s, .b, .b, .s, .s] (TT 177) (TT 181)) 173 true, OA 183 (.pick (TT 173) (TT 182) (.const (.bool false))), MM 184 183, FG 185 1 13 184 true, VG 186 185 184 true, OC 187 (.p9 4 (TT 186) (II 0)) 184 true, FG
 188 3 187 184 true, VG 189 188 184 true, OC 190 (.bin .eql (TT 189) (II (-1))) 184 true, OA 191 (.pick (TT 184) (TT 190) (.const (.bool false))), MM 6 191]) .ret)))))))))))))))))⟩
theorem a4F : M6 eff Tryz.prog Tryz.f4 = some V4 := by kernel_rfl
theorem a4G : Tryz.prog.funcs[4]? = some Tryz.f4 := Tryz.func4
theorem j5.ofZ {E : Ctx} {rs : List Res} {f : Nat} {args : List C} {r : C} (hP : E.P = Tryz.prog) (ht : Tz E) (hs : FZ f args r) (hb : (C.bdL rs.length args && C.clL args) = true) : j5 E rs f args r rs [] := by
 rw [c1N] at hb
 intro av ν w vs hR hav hF hD
 refine (O7.b8C (p := true) ht (fun _ => by rw [hP]; exact hs) (fun _ => l7.refl hb.1) (fun _ => hb.2) rfl av ν w vs hR hav hF hD).mono ?_
 rintro e w' ⟨y, rfl, h1, h2⟩
 exact ⟨y, ν, rfl, hR.below h1, Mv.of_below h1, h2⟩
theorem b9H (a b : Vt) (ha : Vb 4294967296 a) (hb : Vb 4294967296 b) (h1 : Nm.u7 (Nm.d9 a.x) (Nm.d9 b.x) = 0) (h2 : Nm.u7 (Nm.d9 a.y) (Nm.d9 b.y) = 0) : FZ 17 [a.c, b.c] (.v (.bool true)) := by
 refine kW Tryz.func17 (by cbv) (by rfl) fun w O hw => ?_
 have o1 := U1 a.x b.x (ha.1.mono (by decide)) (hb.1.mono (by decide))
 have o2 := U1 a.y b.y (ha.2.mono (by decide)) (hb.2.mono (by decide))
 rw [h1] at o1
 rw [h2] at o2
 clear h1 h2
 obtain ⟨x, y⟩ := a
 obtain ⟨x2, y2⟩ := b
 simp only [l6]
 simp only [Vt.c, Vt.enc, rc, sb, ints] at *
 (repeat first | refine uA ?_ | (refine uK ?_ ?_; focus first | omega | (intros; simp_all <;> omega)) | simp (disch := omega) only [go_sem, Nat.reduceBEq, Nat.reduceAdd, ww, decide_true] | (refine uD o1 ?_ ?_ ?_; exact tz hw; exact rfl) | (refine uD o2 ?_ ?_ ?_; exact tz hw; exact rfl))
 exact S.done (j3.out rfl (Imp.refl rfl) rfl)
theorem b3o (raw pose to : List Int) (hr : raw.length <= 1048576) (hp : pose.length <= 1048576) (hn : to.length <= 1048576) : FZ 4 [A8 raw, A8 pose, A8 to] (.v (.bool true)) := by
 refine kW a4G a4F (by rfl) fun w' O hw => ?_
 have hk := a7W (0 :: raw)
 obtain ⟨ha, hs⟩ := a4Q (0 :: raw)
 have hwb := b2L (0 :: raw)
 obtain ⟨a, hwa⟩ := b9T raw
 have hst0 := a5v hk ha hs
 have hok0 := a0n hst0
 have hPb := (b4W hwb hk ha hs).parts
 have hPg := b3Q hst0
 have hPl := hok0.parts
 have hgl := hok0.gates
 have hbig := hok0.big
 have hgr : ∀ p ∈ (D6 (0 :: raw)).parts, p.grasp = x9 := a7u _ _ _
 have hps := fun (E : Ctx) (hP : E.P = Tryz.prog) (ht : Tz E) => b9E hP ht (0 :: raw) pose hp
 have hpo : a3b (D6 (0 :: raw)) pose = [D8 a (pose.drop (3 * 0)) (-1)] := by
  unfold a3b
  rw [hwa]
  show [b1r (D6 (0 :: raw)) pose 0] = _
  unfold b1r
  rw [hwa]
  rfl
 have haa := ha a (by rw [hwa]; simp)
 rw [hpo] at hps
 clear hpo hok0 hst0 hs ha
 generalize (G9 (D6 (0 :: raw))).parts = P0 at *
 generalize (G9 (D6 (0 :: raw))).gates = g0 at *
 generalize D6 (0 :: raw) = w at *
 generalize pose.drop (3 * 0) = pd at *
 have hlk := (O4 haa).2
 have hab : Ab 1073741824 a := (O4 haa).1.mono (by decide)
 have x0q : ∀ h : Int, ∀ r ∈ (D8 a pd h).q, Rb 8 r := fun _ r hr => a5X _ _ hlk r hr
 have x0v : ∀ h : Int, ∀ r ∈ (D8 a pd h).v, Rb 8 r := fun _ r hr => by
  obtain ⟨_, _, rfl⟩ := List.mem_map.1 (show r ∈ a.links.map (fun _ => Nm.ofQ 0) from hr)
  exact H6
 by_cases hne : w.parts.length = 0
 ·obtain ⟨arms, walls, parts, slots, gates, walk⟩ := w
  simp only at hwa hne
  subst hwa
  have e0 : decide ((parts.length : Int) = 0) = true := decide_eq_true (by omega)
  simp only [V4, l6, TT, II, OA, OB, OC, MM, LL, VV, FF, MG, LG, VG, FG]
  simp only [Wk.c, Wk.enc, ams, wls, pts, sls, gts, L8, frs, vts, bls, A8, rc, sb, ints, c2b, c2w] at hps ⊢
  (repeat first | refine uA ?_ | (refine uK ?_ ?_; focus first | omega | (intros; simp_all <;> omega)) | simp (disch := omega) only [go_sem, Nat.reduceBEq, Nat.reduceAdd, ww, C.sh, C.shL, c1W, List.length_nil, c1J] | refine l8.t (j5.b1k (rs2 := [.gone]) (j5.pre (hps _ rfl ⟨hw, id⟩) rfl rfl rfl) (l7.cons (Imp.frz rfl rfl rfl) (l7.cons (Imp.refl rfl) l7.nil)) (J7.cons (RI.gone _) J7.nil) rfl) ?_)
  refine S.cond rfl (fun hc => by simp at hc) (fun hc => ?_)
  (repeat first | refine uA ?_ | (refine uK ?_ ?_; focus first | omega | (intros; simp_all <;> omega)) | simp (disch := omega) only [go_sem, Nat.reduceBEq, Nat.reduceAdd, ww, c1J, e0])
  refine S.cond rfl (fun hc => ?_) (fun hc => by simp at hc)
  (repeat first | refine uA ?_ | (refine uK ?_ ?_; focus first | omega | (intros; simp_all <;> omega)) | simp (disch := omega) only [go_sem, Nat.reduceBEq, Nat.reduceAdd, ww])
  exact S.done (j3.out rfl (Imp.refl rfl) rfl)
 obtain ⟨pt, hp0⟩ : ∃ pt, w.parts[0]? = some pt := ⟨_, c1I (by omega)⟩
 have hgp := hgr pt (c1L hp0)
 have hn0 : 0 < w.parts.length := by omega
 clear hne hgr
 have hH0g := b0X a (D8 a pd (-1)).q
 have hH0b := b5J haa (a0C _ _) (fun r hr => (x0q (-1) r hr).mono (by decide))
 have ho0 : Y3 a (D8 a pd (-1)) w.parts.length = 0 := b2r haa ⟨by decide, by omega⟩
 have ho1 : Y3 a (D8 a pd 0) w.parts.length = 0 := b2r haa ⟨by decide, by omega⟩
 have hPl1 : (P0.set 0 (F9 a (D8 a pd (-1)).q x9)).length = w.parts.length := by rw [c2l, hPl]
 have hPg1 := b2G hPg hH0g
 have hPb1 := b4f hPb hH0b
 have hP1 : (P0.set 0 (F9 a (D8 a pd (-1)).q x9))[0]? = some (F9 a (D8 a pd (-1)).q x9) := List.getElem?_set_self (by omega)
 have hPP : (P0.set 0 (F9 a (D8 a pd (-1)).q x9)).set 0 (F9 a (D8 a pd (-1)).q x9) = P0.set 0 (F9 a (D8 a pd (-1)).q x9) := List.set_set ..
 have hs1 : K5 w ⟨0, [D8 a pd (-1)], P0.set 0 (F9 a (D8 a pd (-1)).q x9), [], g0⟩ = 0 := a6K hk hwa ho0 (by decide) hPl1 hgl hPg1
 have hs2 : K5 w ⟨0, [D8 a pd 0], P0.set 0 (F9 a (D8 a pd (-1)).q x9), [], g0⟩ = 0 := a6K hk hwa ho1 (by decide) hPl1 hgl hPg1
 have hb1 : Stb 1048576 ⟨0, [D8 a pd (-1)], P0.set 0 (F9 a (D8 a pd (-1)).q x9), [], g0⟩ := a7V (a1h ho0) (fun r hr => (x0q _ r hr).mono (by decide)) (fun r hr => (x0v _ r hr).mono (by decide)) (by omega) hPb1 (by omega)
 have hb2 : Stb 1048576 ⟨0, [D8 a pd 0], P0.set 0 (F9 a (D8 a pd (-1)).q x9), [], g0⟩ := a7V (a1h ho1) (fun r hr => (x0q _ r hr).mono (by decide)) (fun r hr => (x0v _ r hr).mono (by decide)) (by omega) hPb1 (by omega)
 have ga : w.arms[0]? = some a := by rw [hwa]; rfl
 have o1 := b1o a (D8 a pd (-1)).q hab haa (a0C _ _) fun r hr => (x0q _ r hr).mono (by decide)
 have hgb := (hwb.parts.2 pt (c1L hp0)).2.2
 have o2 := b4k pt.grasp hgb
 have o3 := b0z hwb ga hp0 haa (a0C _ _) fun r hr => (x0q (-1) r hr).mono (by decide)
 have hH0 : K8 (M7 a.base (a.links.zip (D8 a pd (-1)).q)) (a0s pt.grasp) = F9 a (D8 a pd (-1)).q x9 := by rw [<- hgp]; rfl
 rw [show N7 a.links pd = (D8 a pd (-1)).q from rfl, hH0] at o3
 have o4 := c1b w ⟨0, [D8 a pd (-1)], P0.set 0 (F9 a (D8 a pd (-1)).q x9), [], g0⟩ 0 0 hwb hb1
 unfold b4I at o4
 rw [if_pos (b9f hwa hp0 hgp hP1 (show (-1 : Int) < 0 by decide) (b5a _ _ _) hs1)] at o4
 have hts : b1l ⟨0, [D8 a pd (-1)], P0.set 0 (F9 a (D8 a pd (-1)).q x9), [], g0⟩ (0 : Int).toNat (0 : Int).toNat (w.arms.getD (0 : Int).toNat ⟨[], a0W, []⟩) (([D8 a pd (-1)] : List Ast).getD (0 : Int).toNat ⟨[], [], false, 0⟩) (w.parts.getD (0 : Int).toNat ⟨[], [], a0W⟩) = ⟨0, [D8 a pd 0], P0.set 0 (F9 a (D8 a pd (-1)).q x9), [], g0⟩ := by
  rw [Int.toNat_zero, a5g ga, a5g hp0]
  unfold b1l
  rw [hgp]
  show Stt.mk 0 [a1c (D8 a pd (-1)) 0] ((P0.set 0 (F9 a (D8 a pd (-1)).q x9)).set 0 (F9 a (D8 a pd (-1)).q x9)) [] g0 = _
  rw [hPP]
  rfl
 rw [hts] at o4
 have hq2 : b1I w ⟨0, [D8 a pd 0], P0.set 0 (F9 a (D8 a pd (-1)).q x9), [], g0⟩ 0 := ⟨hs2, fun x hx r hr => by
  rw [List.mem_singleton] at hx
  subst hx
  exact (x0q _ r hr).mono (by decide)⟩
 have o5 := b7D w _ to 0 hq2 (by decide) hn
 have hU : a0U (w.arms.zip [D8 a pd 0]) to w.arms.length = [a1L (w.arms.zip [D8 a pd 0]) to 0] := by rw [hwa]; rfl
 have hub : ∀ r ∈ a1L (w.arms.zip [D8 a pd 0]) to 0, Rb 109 r := fun r hr => (b2F hq2 hr).mono (by decide)
 have o6 := b9z w ⟨0, [D8 a pd 0], P0.set 0 (F9 a (D8 a pd (-1)).q x9), [], g0⟩ (a0U (w.arms.zip [D8 a pd 0]) to w.arms.length) [true] hwb hb2 (b9c hq2 (by decide)) (by decide)
 have hE : a2W w ⟨0, [D8 a pd 0], P0.set 0 (F9 a (D8 a pd (-1)).q x9), [], g0⟩ (a0U (w.arms.zip [D8 a pd 0]) to w.arms.length) [true] [] = 0 := by
  unfold a2W
  rw [if_neg (by simp [hs2]), if_neg (by rw [a6q]; simp [hwa]), if_neg (by simp), if_neg (by simp)]
 unfold a8E at o6
 rw [if_pos hE, hU, b7V hwa hp0 hgp rfl, List.set_set] at o6
 simp only at o5
 rw [hU] at o5
 generalize a1L (w.arms.zip [D8 a pd 0]) to 0 = u at *
 have hys := b5N haa (x0q 0) (x0v 0) hub
 have hoy := b7r (u := u) (p := true) ho1 (a9X a pd 0)
 have hyh : (X7 a (D8 a pd 0) u true).holds = 0 := by rw [holds_one]; rfl
 have hyl := (a9S (u := u) (p := true) (a1h ho1))
 clear hE hU hub hq2 hs1 hts ho0 ho1
 generalize X7 a (D8 a pd 0) u true = y at *
 have hHb := b5J haa hyl.1 hys.1
 have hHg := b0X a y.q
 have hs3 : K5 w ⟨0 + 1, [y], P0.set 0 (F9 a y.q x9), [], g0⟩ = 0 := a6K hk hwa hoy (by decide) (by rw [c2l, hPl]) hgl (b2G hPg hHg)
 have hb3 : Stb 1048576 ⟨0 + 1, [y], P0.set 0 (F9 a y.q x9), [], g0⟩ := a7V (a1h hoy) hys.1 hys.2 (by rw [c2l]; omega) (b4f hPb hHb) (by omega)
 have o7 := b1o a y.q hab haa hyl.1 fun r hr => (hys.1 r hr).mono (by decide)
 have hnm := a4u a y.q
 obtain ⟨b1, b2, b3⟩ := hHb
 have o8 := b5A (F9 a y.q x9) ⟨pt.grasp.x, pt.grasp.y⟩ (b1.mono (by decide)) (b2.mono (by decide)) (b3.mono (by decide)) (hgb.1.mono (by decide)) (hgb.2.1.mono (by decide))
 obtain ⟨p1, p2⟩ := a9o (c := ⟨pt.grasp.x, pt.grasp.y⟩) b1 b2 b3 hgb.1 hgb.2.1 (by decide) (by decide) (by decide)
 obtain ⟨fb, lb⟩ := a6R haa
 have h3 := (O8 haa).2
 have htb := b5s (a.links.zip y.q) a.base 0 fb (by rw [List.length_zip]; omega) fun z hz => ⟨lb _ (List.of_mem_zip hz).1, hys.1 _ (List.of_mem_zip hz).2⟩
 have htl := b7v (show 0 + (a.links.zip y.q).length <= 3 by rw [List.length_zip]; omega)
 have hsp := b7z (M7 a.base (a.links.zip y.q))
 rw [<- hnm] at hsp
 have o9 := b9H ⟨(M7 a.base (a.links.zip y.q)).x, (M7 a.base (a.links.zip y.q)).y⟩ ⟨Nm.ofQ (a0l (F9 a y.q x9) ⟨pt.grasp.x, pt.grasp.y⟩), Nm.ofQ (a0i (F9 a y.q x9) ⟨pt.grasp.x, pt.grasp.y⟩)⟩ ⟨htb.1.mono (by omega), htb.2.1.mono (by omega)⟩ ⟨p1.mono (by decide), p2.mono (by decide)⟩ (by simp only [hgp]; exact hsp.1) (by simp only [hgp]; exact hsp.2)
 have o10 := c0H w ⟨0 + 1, [y], P0.set 0 (F9 a y.q x9), [], g0⟩ 0 (hwb.mono (by decide)) (hb3.mono (by decide))
 rw [c0O hwa hs3 hyh] at o10
 have o11 := b1Y y ((hb3.mono (by decide)).arms.2 y (by simp))
 have hml : (0 : Int) + 1 = 1 := rfl
 obtain ⟨f0, hf0⟩ : ∃ f, P0[0]? = some f := ⟨_, c1I (by omega)⟩
 have hset : ∀ H : Fr, (P0.map Fr.enc).set 0 H.enc = (P0.set 0 H).map Fr.enc := fun H => by rw [List.map_set]
 have hPB0 : (P0.set 0 (F9 a y.q x9))[0]? = some (F9 a y.q x9) := List.getElem?_set_self (by omega)
 have hPBl : (P0.set 0 (F9 a y.q x9)).length = P0.length := c2l
 clear hs3 hb3 hsp htl htb p1 p2 b1 b2 b3 fb lb hnm hHg hys hoy hs2 hb1 hb2 hPg1 hPb1 hH0g hH0b hPP hgb hH0 hPl1 x0q x0v hlk hPg hPb
 simp only [D8] at o1 o3 o4 o5 o6 hP1 hps
 simp only [hml] at o6 o10
 generalize N7 a.links pd = c at *
 generalize (a.links.map fun _ => Nm.ofQ 0) = z at *
 generalize M7 a.base (a.links.zip c) = T0 at *
 generalize M7 a.base (a.links.zip y.q) = T3 at *
 generalize a0s pt.grasp = B at *
 unfold vq at o8
 generalize F9 a y.q x9 = H1 at *
 generalize Nm.ofQ (a0l H1 ⟨pt.grasp.x, pt.grasp.y⟩) = v1 at *
 generalize Nm.ofQ (a0i H1 ⟨pt.grasp.x, pt.grasp.y⟩) = v2 at *
 generalize a0x y = mv at *
 have hset0 := hset (F9 a c x9)
 generalize F9 a c x9 = H0 at *
 generalize hPA : P0.set 0 H0 = PA at *
 generalize hPB : P0.set 0 H1 = PB at *
 have hPAl : PA.length = P0.length := by rw [<- hPA, c2l]
 unfold b7N at o10
 simp only [Int.toNat_zero, List.getElem?_cons_zero, Option.getD_some, List.set_cons_zero, a1c] at o10
 obtain ⟨yq, yv, yp, yh⟩ := y
 simp only at hyh
 subst hyh
 obtain ⟨arms, walls, parts, slots, gates, walk⟩ := w
 simp only at hwa hp0 hn0 hPl hgl hbig
 subst hwa
 have e0 : decide ((parts.length : Int) = 0) = false := decide_eq_false (by omega)
 obtain ⟨pname, pshape, pgrasp⟩ := pt
 have ht : Tz ⟨Tryz.prog, eff, V4.ntmps, w', fun _ => False, O, [], []⟩ := ⟨hw, id⟩
 simp only [V4, l6, TT, II, OA, OB, OC, MM, LL, VV, FF, MG, LG, VG, FG]
 simp only [Wk.c, Wk.enc, Stt.c, Stt.enc, Am.c, Am.enc, Ast.c, Ast.enc, Fr.c, Fr.enc, Vt.c, Vt.enc, vc, lks, ams, wls, pts, sls, gts, L8, frs, vts, bls, wss, rts, A8, rc, sb, ints, c2b, c2w] at hps o1 o2 o3 o4 o5 o6 o7 o8 o9 o10 o11 hset0 ⊢
 (repeat first | refine uA ?_ | (refine uK ?_ ?_; focus first | omega | (intros; simp_all <;> omega)) | simp (disch := omega) only [go_sem, Nat.reduceBEq, Nat.reduceAdd, ww, C.sh, C.shL, c1W, List.length_nil, c1J] | refine l8.t (j5.b1k (rs2 := [.gone]) (j5.pre (hps _ rfl ⟨hw, id⟩) rfl rfl rfl) (l7.cons (Imp.frz rfl rfl rfl) (l7.cons (Imp.refl rfl) l7.nil)) (J7.cons (RI.gone _) J7.nil) rfl) ?_)
 refine S.cond rfl (fun hc => by simp at hc) (fun hc => ?_)
 (repeat first | refine uA ?_ | (refine uK ?_ ?_; focus first | omega | (intros; simp_all <;> omega)) | simp (disch := omega) only [go_sem, Nat.reduceBEq, Nat.reduceAdd, ww, c1J, e0])
 refine S.cond rfl (fun hc => by simp at hc) (fun hc => ?_)
 (repeat first | refine uA ?_ | (refine uK ?_ ?_; focus first | omega | (intros; simp_all <;> omega)) | simp (disch := omega) only [go_sem, Nat.reduceBEq, Nat.reduceAdd, ww, c1J, List.getElem?_cons_zero, Int.toNat_zero] | (refine uD o1 ?_ ?_ ?_; exact tz hw; exact rfl))
 refine S.cond rfl (fun hc => by simp at hc) (fun hc => ?_)
 (repeat first | refine uI ?_ | (refine uK ?_ ?_; focus first | omega | (intros; simp_all <;> omega)) | simp (disch := omega) only [go_sem, Nat.reduceBEq, Nat.reduceAdd, ww, hp0, hf0, hset0, hPAl, hPBl, hP1, hPB0, c1K, Pt.enc, Fr.enc, vts, sb, c1J, c1W, List.length_nil, List.getElem?_cons_zero, Int.toNat_zero] | (refine uD o2 ?_ ?_ ?_; exact tz hw; exact rfl) | (refine uD o3 ?_ ?_ ?_; exact tz hw; exact rfl))
 (repeat first | refine uA ?_ | (refine uK ?_ ?_; focus first | omega | (intros; simp_all <;> omega)) | simp (disch := omega) only [go_sem, Nat.reduceBEq, Nat.reduceAdd, ww, hp0, hf0, hset0, hPAl, hPBl, hP1, hPB0, c1K, Pt.enc, Fr.enc, vts, sb, c1J, c1W, List.length_nil, List.getElem?_cons_zero, Int.toNat_zero] | refine l8.t (j5.b1k (rs2 := [.gone, .gone, .gone, .gone, .gone, .gone, .gone, .gone, .gone, .gone, .gone, .gone, .gone, .gone, .gone, .box 31 [.sl 12 [[.v (.string (bs a.name)), .v (.bool a.base.x.neg), .v (.string (bs a.base.x.num)), .v (.string (bs a.base.x.den)), .v (.bool a.base.y.neg), .v (.string (bs a.base.y.num)), .v (.string (bs a.base.y.den)), .v (.bool a.base.half), .v (.bool a.base.t.neg), .v (.string (bs a.base.t.num)), .v (.string (bs a.base.t.den)), .sl 16 (a.links.map Lk.enc)]], .sl 1 (walls.map fun s => [.sl 6 (s.map Vt.enc)]), .sl 12 (parts.map Pt.enc), .sl 14 (slots.map Sl.enc), .sl 13 (gates.map Gt.enc), .v (.bool walk.neg), .v (.string (bs walk.num)), .v (.string (bs walk.den))], .box 37 [.v (.int .i64 0), .sl 4 [[.sl 3 (c.map rcs), .sl 3 (z.map rcs), .v (.bool false), .v (.int .i64 (-1))]], .sl 10 (PA.map Fr.enc), .sl 6 [], .sl 1 (g0.map fun b => [.v (.bool b)])], .box 48 [.v (.bool T0.x.neg), .v (.string (bs T0.x.num)), .v (.string (bs T0.x.den)), .v (.bool T0.y.neg), .v (.string (bs T0.y.num)), .v (.string (bs T0.y.den)), .v (.bool T0.half), .v (.bool T0.t.neg), .v (.string (bs T0.t.num)), .v (.string (bs T0.t.den))]]) (j5.ofZ rfl ⟨hw, id⟩ o4 rfl) (by (repeat' (first | exact l7.nil | exact Imp.refl rfl | exact Imp.frz rfl rfl rfl | exact Imp.I9 | refine Imp.agg ?_ | refine l7.cons ?_ ?_))) (by (repeat' (first | exact J7.nil | exact RI.gone _ | exact RI.row _ _ _ _ rfl | exact RI.map _ _ _ rfl | exact RI.box _ _ _ (l7.refl rfl) | (refine RI.box _ _ _ ?_; (repeat' (first | exact l7.nil | exact Imp.refl rfl | exact Imp.frz rfl rfl rfl | exact Imp.I9 | refine l7.cons ?_ ?_))) | refine J7.cons ?_ ?_))) rfl) ?_ | (refine uD o2 ?_ ?_ ?_; exact tz hw; exact rfl) | (refine uD o3 ?_ ?_ ?_; exact tz hw; exact rfl))
 refine S.cond rfl (fun hc => by simp at hc) (fun hc => ?_)
 (repeat first | refine uI ?_ | (refine uK ?_ ?_; focus first | omega | (intros; simp_all <;> omega)) | simp (disch := omega) only [go_sem, Nat.reduceBEq, Nat.reduceAdd, ww, hp0, hf0, hset0, hPAl, hPBl, hP1, hPB0, c1K, Pt.enc, Fr.enc, vts, sb, c1J, c1W, List.length_nil, List.getElem?_cons_zero, Int.toNat_zero])
 refine S.weaken (st' := ⟨[(2, .sl 1 (to.map fun n => [.v (.int .i64 n)])), (7, .bp 15 0), (8, .bp 16 0), (10, .bp 17 0), (12, .sl 1 [[.v (.bool true)]])], [.gone, .gone, .gone, .gone, .gone, .gone, .gone, .gone, .gone, .gone, .gone, .gone, .gone, .gone, .gone, .box 31 [.sl 12 [[.v (.string (bs a.name)), .v (.bool a.base.x.neg), .v (.string (bs a.base.x.num)), .v (.string (bs a.base.x.den)), .v (.bool a.base.y.neg), .v (.string (bs a.base.y.num)), .v (.string (bs a.base.y.den)), .v (.bool a.base.half), .v (.bool a.base.t.neg), .v (.string (bs a.base.t.num)), .v (.string (bs a.base.t.den)), .sl 16 (a.links.map Lk.enc)]], .sl 1 (walls.map fun s => [.sl 6 (s.map Vt.enc)]), .sl 12 (parts.map Pt.enc), .sl 14 (slots.map Sl.enc), .sl 13 (gates.map Gt.enc), .v (.bool walk.neg), .v (.string (bs walk.num)), .v (.string (bs walk.den))], .box 37 [.v (.int .i64 0), .sl 4 [[.sl 3 (c.map rcs), .sl 3 (z.map rcs), .v (.bool false), .v (.int .i64 0)]], .sl 10 (PA.map Fr.enc), .sl 6 [], .sl 1 (g0.map fun b => [.v (.bool b)])], .box 48 [.v (.bool T0.x.neg), .v (.string (bs T0.x.num)), .v (.string (bs T0.x.den)), .v (.bool T0.y.neg), .v (.string (bs T0.y.num)), .v (.string (bs T0.y.den)), .v (.bool T0.half), .v (.bool T0.t.neg), .v (.string (bs T0.t.num)), .v (.string (bs T0.t.den))]]⟩) (Ent.mk _ _ (by (repeat' (first | exact U7.nil | exact Imp.junk | exact Imp.refl rfl | exact Imp.frz rfl rfl rfl | exact Imp.eq (by simp [slot]; done) rfl | refine U7.cons ?_ ?_))) (by (repeat' (first | exact J7.nil | exact RI.gone _ | exact RI.row _ _ _ _ rfl | exact RI.map _ _ _ rfl | exact RI.box _ _ _ (l7.refl rfl) | (refine RI.box _ _ _ ?_; (repeat' (first | exact l7.nil | exact Imp.refl rfl | exact Imp.frz rfl rfl rfl | exact Imp.I9 | refine l7.cons ?_ ?_))) | refine J7.cons ?_ ?_))) (c1Q _)) ?_
 (repeat first | refine uA ?_ | (refine uK ?_ ?_; focus first | omega | (intros; simp_all <;> omega)) | simp (disch := omega) only [go_sem, Nat.reduceBEq, Nat.reduceAdd, ww, hp0, hf0, hset0, hPAl, hPBl, hP1, hPB0, c1K, Pt.enc, Fr.enc, vts, sb, c1J, c1W, List.length_nil, List.getElem?_cons_zero, Int.toNat_zero] | (refine uD o5 ?_ ?_ ?_; exact tz hw; exact rfl) | (refine uD o6 ?_ ?_ ?_; exact tz hw; exact rfl))
 refine S.cond rfl (fun hc => by simp [hPl] at hc) (fun hc => ?_)
 (repeat first | refine uA ?_ | (refine uK ?_ ?_; focus first | omega | (intros; simp_all <;> omega)) | simp (disch := omega) only [go_sem, Nat.reduceBEq, Nat.reduceAdd, ww, hp0, hf0, hset0, hPAl, hPBl, hP1, hPB0, c1K, Pt.enc, Fr.enc, vts, sb, c1J, c1W, List.length_nil, List.getElem?_cons_zero, Int.toNat_zero] | (refine uD o7 ?_ ?_ ?_; exact tz hw; exact rfl) | (refine uD o8 ?_ ?_ ?_; exact tz hw; exact rfl) | (refine uD o9 ?_ ?_ ?_; exact tz hw; exact rfl))
 refine S.cond rfl (fun hc => by simp at hc) (fun hc => ?_)
 cases mv
 ·simp only [c2m, if_false, if_true] at o10
  (repeat first | refine uA ?_ | (refine uK ?_ ?_; focus first | omega | (intros; simp_all <;> omega)) | simp (disch := omega) only [go_sem, Nat.reduceBEq, Nat.reduceAdd, ww, hp0, hf0, hset0, hPAl, hPBl, hP1, hPB0, c1K, Pt.enc, Fr.enc, vts, sb, c1J, c1W, List.length_nil, List.getElem?_cons_zero, Int.toNat_zero] | (refine uD o10 ?_ ?_ ?_; exact tz hw; exact rfl) | (refine uD o11 ?_ ?_ ?_; exact tz hw; exact rfl))
  refine S.cond rfl (fun hc => by simp at hc) (fun hc => ?_)
  (repeat first | refine uA ?_ | (refine uK ?_ ?_; focus first | omega | (intros; simp_all <;> omega)) | simp (disch := omega) only [go_sem, Nat.reduceBEq, Nat.reduceAdd, ww, hp0, hf0, hset0, hPAl, hPBl, hP1, hPB0, c1K, Pt.enc, Fr.enc, vts, sb, c1J, c1W, List.length_nil, List.getElem?_cons_zero, Int.toNat_zero, decide_true, Bool.and_self, beq_self_eq_true])
  first
   | exact S.done (j3.out rfl (Imp.refl rfl) rfl)
   | (simp only [decide_true, Bool.and_self, beq_self_eq_true]; exact S.done (j3.out rfl (Imp.refl rfl) rfl))
 ·rw [if_pos rfl, if_neg (by decide)] at o10
  simp only [a2w] at o10
  (repeat first | refine uA ?_ | (refine uK ?_ ?_; focus first | omega | (intros; simp_all <;> omega)) | simp (disch := omega) only [go_sem, Nat.reduceBEq, Nat.reduceAdd, ww, hp0, hf0, hset0, hPAl, hPBl, hP1, hPB0, c1K, Pt.enc, Fr.enc, vts, sb, c1J, c1W, List.length_nil, List.getElem?_cons_zero, Int.toNat_zero] | (refine uD o10 ?_ ?_ ?_; exact tz hw; exact rfl) | (refine uD o11 ?_ ?_ ?_; exact tz hw; exact rfl))
  refine S.cond rfl (fun hc => ?_) (fun hc => by simp at hc)
  (repeat first | refine uA ?_ | (refine uK ?_ ?_; focus first | omega | (intros; simp_all <;> omega)) | simp (disch := omega) only [go_sem, Nat.reduceBEq, Nat.reduceAdd, ww, hp0, hf0, hset0, hPAl, hPBl, hP1, hPB0, c1K, Pt.enc, Fr.enc, vts, sb, c1J, c1W, List.length_nil, List.getElem?_cons_zero, Int.toNat_zero, decide_true])
  exact S.done (j3.out rfl (Imp.refl rfl) rfl)
set_option maxRecDepth 10000
theorem b1g (os : Os) (args : Array Value) : laidMet Tryz.prog Rows.moveHoldsUptoRow.laid ((laidWorld os).forCall (fun _ _ => 0) ⟨#[], args, []⟩).memory :=
 laidMet_of_run' 8 (by kernel_rfl) (by kernel_rfl)
theorem a6j (H : Type) (enc : TypeId × Value -> H) (W : World) (base : Nat) (args : Array Value) (ds gs : List (DataW H)) (before : List MemPlace)
  (hval : ∀ (j : Nat) t v, Tryz.f4.params[j]? = some t -> args[j]? = some v -> Value.okWide Tryz.prog W .any base t v)
  (hW : DataW.Whole enc Tryz.prog Tryz.f4.params.toList Rows.moveHoldsSpec.vars false W args.toList ds gs before) (hk : Rows.uptoSmall H (ds ++ gs) = true) (hL : laidMetH Tryz.prog Rows.moveHoldsUptoRow.laid W) (hS : W.ShapedOpen Tryz.prog) :
  Calls Tryz.prog 4 args W fun e W' => ∃ v, e = .returned v /\ Rows.moveHoldsSpec.post enc Tryz.prog Tryz.f4 false true false false W args v W' := by
 have hW' := hW
 obtain ⟨p, q, hA0, hV, rfl, hfz, hnd⟩ := hW
 have hA : DataW.TrodAll enc Tryz.prog W 0 (fun _ => true) true Tryz.f4.params.toList args.toList ds p := hA0
 rw [Tryz.params4] at hA hval
 obtain ⟨v0, vs0, d0, ds0, p0, q0, hargs, rfl, rfl, h0, r0⟩ := trodAll_cons hA
 obtain ⟨v1, vs1, d1, ds1, p1, q1, rfl, rfl, rfl, h1, r1⟩ := trodAll_cons r0
 obtain ⟨v2, vs2, d2, ds2, p2, q2, rfl, rfl, rfl, h2, r2⟩ := trodAll_cons r1
 obtain ⟨rfl, rfl, rfl⟩ := trodAll_nil r2
 obtain rfl : args = #[v0, v1, v2] := by cases args; simp_all
 obtain ⟨rfl, rfl⟩ := trodVars_none hV
 have hb := b7u hk
 obtain ⟨A0, n0, c0, rfl⟩ := okWide_slice Tryz.underlying22 (hval 0 22 v0 rfl rfl)
 obtain ⟨m0, h0⟩ := h0
 obtain ⟨raw, e0, _, k0, b0⟩ := b1D _ _ _ h0
 have b0 : 1 + raw.length <= Rows.uptoBulk d0 := b0
 have e0 : FzL W noB [A8 raw] [.slice A0 n0 c0] := e0
 simp only [FzL] at e0
 obtain ⟨y0, ys0, f0, g0, rfl⟩ := e0
 injection f0 with f0 _
 subst f0
 obtain ⟨A1, n1, c1, rfl⟩ := okWide_slice Tryz.underlying22 (hval 1 22 v1 rfl rfl)
 obtain ⟨m1, h1⟩ := h1
 obtain ⟨pose, e1, _, k1, b1⟩ := b1D _ _ _ h1
 have b1 : 1 + pose.length <= Rows.uptoBulk d1 := b1
 have e1 : FzL W noB [A8 pose] [.slice A1 n1 c1] := e1
 simp only [FzL] at e1
 obtain ⟨y1, ys1, f1, g1, rfl⟩ := e1
 injection f1 with f1 _
 subst f1
 obtain ⟨A2, n2, c2, rfl⟩ := okWide_slice Tryz.underlying22 (hval 2 22 v2 rfl rfl)
 obtain ⟨m2, h2⟩ := h2
 obtain ⟨to, e2, _, k2, b2⟩ := b1D _ _ _ h2
 have b2 : 1 + to.length <= Rows.uptoBulk d2 := b2
 have e2 : FzL W noB [A8 to] [.slice A2 n2 c2] := e2
 simp only [FzL] at e2
 obtain ⟨y2, ys2, f2, g2, rfl⟩ := e2
 injection f2 with f2 _
 subst f2
 simp only [List.append_nil, List.cons_append, List.nil_append, Rows.uptoBulkAll] at hb
 have hF : FzL W noB [A8 raw, A8 pose, A8 to] [.slice A0 n0 c0, .slice A1 n1 c1, .slice A2 n2 c2] := by
  simp only [FzL]
  exact ⟨_, _, rfl, g0, ⟨_, _, rfl, g1, ⟨_, _, rfl, g2, rfl⟩⟩⟩
 refine (b3o raw pose to (by omega) (by omega) (by omega) noB W _ (c1f hL) (fun _ h => h.elim) hF).mono fun e W' ⟨y, he, hbl, hy⟩ => ?_
 subst he
 simp only [Fz] at hy
 subst hy
 refine ⟨_, rfl, b8a b7L (by
  intro t ht
  rw [Tryz.params4] at ht
  simp only [List.mem_cons, List.not_mem_nil, or_false] at ht
  rcases ht with rfl | rfl | rfl
  ·exact ⟨by kernel_rfl, of_decide_eq_true (by kernel_rfl)⟩
  ·exact ⟨by kernel_rfl, of_decide_eq_true (by kernel_rfl)⟩
  ·exact ⟨by kernel_rfl, of_decide_eq_true (by kernel_rfl)⟩) (tb := 4) rfl Tryz.underlying4 rfl rfl hW' hbl⟩
theorem a8D (os : Os) {H : Type} (enc : TypeId × Value -> H) : ∃ places, DataW.whole enc Tryz.prog ((laidWorld os).forCall (fun _ _ => 0) ⟨#[], #[.slice none 0 0, .slice none 0 0, .slice none 0 0], []⟩).memory Tryz.f4.params.toList Rows.moveHoldsSpec.vars false (#[.slice none 0 0, .slice none 0 0, .slice none 0 0] : Array Value).toList 8 = some ([.nil, .nil, .nil], [], places) :=
 ⟨[], by kernel_rfl⟩
set_option maxRecDepth 100000 in
theorem a8a (os : Os) (started : os.Started) (H : Type) (enc : TypeId × Value -> H) (F : Stop.Interp) :
  ReturnsInHanded {} Tryz.checked os 4 .any ((Rows.OpenSpec.upto Rows.moveHoldsSpec).preRow enc Tryz.prog Tryz.f4 Rows.moveHoldsUptoRow.domain false Rows.moveHoldsUptoRow.laid) (((Rows.OpenSpec.upto Rows.moveHoldsSpec).at F).post enc Tryz.prog Tryz.f4 false true false false) := by
 obtain ⟨places, hx⟩ := a8D os enc
 refine returnsInHanded_of_row (C := Tryz.checked) (s := Rows.OpenSpec.upto Rows.moveHoldsSpec) b8x started (by kernel_rfl) Tryz.func4
  (witness_row_at (enc := enc) (C := Tryz.checked) false (laidWorld os) #[.slice none 0 0, .slice none 0 0, .slice none 0 0] rfl (by kernel_rfl) (by kernel_rfl) (by kernel_rfl)
   (OpenSpec.preRow_of_cond 8 hx (by kernel_rfl) (fun k hk => by cases hk; kernel_rfl) (by kernel_rfl) (b1g os _))) ?_
 intro W base args ds gs before hval hW _ hcond _ hL hS _
 exact a6j H enc W base args ds gs before hval hW (hcond _ rfl) hL hS
theorem c1x {a b : Bool} (h : a = true) (k : b = true) : (a && b) = true := by rw [h, k]; rfl
set_option maxHeartbeats 40000000 in
theorem a7Q : joinedFacts Tryz.pinned.checked.prog 4 Tryz.f4 (Rows.OpenSpec.upto Rows.moveHoldsSpec).bare Rows.moveHoldsUptoRow = true := by
 unfold joinedFacts
 repeat' (with_reducible refine c1x ?_ ?_)
 all_goals (as_aux_lemma => kernel_rfl)
end Go.Proofs.YtgmlehjgpgdjhaaGreatDoor
