/- A part of the proof: lemmas only, with the conditions that each names. -/
import Derived.Test.YtgmlehjgpgdjhaaGreatDoorProg
import Derived.KernelRfl
import Derived.Test.YtgmlehjgpgdjhaaGreatDoorRows
import Derived.Carry
import Derived.ChangeArms
import Derived.ChangeSame
import Derived.Deep.Slices
import Derived.WalkKit
import Derived.ProofKit
import Derived.OpenShut
import Derived.JoinedCond
import Derived.Test.YtgmlehjgpgdjhaaGreatDoorCards
import Derived.Test.YtgmlehjgpgdjhaaGreatDoorTie
import Derived.Deep.DeepHandedRow
import Derived.Deep.DeepWitnessRowRef
import Derived.Lib.LaidTab
import Derived.LaidMore
import Derived.Test.YtgmlehjgpgdjhaaGreatDoorGk5
set_option linter.all false
namespace Go.Proofs.YtgmlehjgpgdjhaaGreatDoor
open Go Go.RowKit Eng
set_option maxRecDepth 100000
set_option maxHeartbeats 4000000
def a0Q (a : Am) (l : List Int) (h : Int) : Ast := ⟨M4 a.links l, a.links.map fun _ => Nm.ofQ 0, false, h⟩
theorem b8f {a : Am} {l : List Int} {h : Int} {n : Nat} (ha : G8 a = 0) (hh : -1 <= h /\ h < n) : Q9 a (a0Q a l h) n = 0 := by
 have hl := (J9 ha).2
 refine b7Y ha (a5S _ _) ?_ (a0B _ _) (by simp [a0Q]) hh (fun z hz => ?_) fun z hz => ?_
 ·rw [List.all_eq_true]
  intro r hr
  obtain ⟨_, _, rfl⟩ := List.mem_map.1 (show r ∈ a.links.map (fun _ => Nm.ofQ 0) from hr)
  exact decide_eq_true (Nm.Y2 _)
 ·obtain ⟨l', h1, h2⟩ := b0A _ _ z hz
  obtain ⟨z1, z2⟩ := z
  simp only at h1 h2
  rw [h2]
  exact b9a (hl z1 h1) (nx9 l')
 ·obtain ⟨h1, h2⟩ := a5m (show z ∈ a.links.zip (a.links.map fun _ => Nm.ofQ 0) from hz)
  obtain ⟨z1, z2⟩ := z
  simp only at h1 h2
  rw [h2]
  exact a7L (hl z1 h1)
theorem b7I (a : Am) (l : List Int) (h : Int) : ∀ r ∈ (a0Q a l h).v, Nm.d9 r = 0 := fun r hr => by
 obtain ⟨_, _, rfl⟩ := List.mem_map.1 (show r ∈ a.links.map (fun _ => Nm.ofQ 0) from hr)
 exact Nm.r9 0
def b9p (w : Wk) (to : List Int) (i : Nat) : Ast := match w.arms[i]? with
 | some a => a0Q a (to.drop (3 * i)) (-1)
 | none => ⟨[], [], false, -1⟩
set_option maxHeartbeats 16000000
theorem c0G {E : Ctx} (hP : E.P = Tryz.prog) (ht0 : Tz E) (w : Wk) (hwb : Wb 1073741824 w) (h : X7 w = 0) :
  j5 E [] 24 [w.c] (.tup [.agg [ints 0, .rv 3, .rv 4, .v (.slice none 0 0), .rv 5], ints 0]) [.gone, .gone, .gone, .row 61 4 ((D9 w).arms.map Ast.enc), .row 48 10 ((D9 w).parts.map Fr.enc), .row 4 1 ((D9 w).gates.map fun b => [.v (.bool b)])] [] := by
 obtain ⟨P, eff', N, w0, own0, av0, nu0, pk0⟩ := E
 simp only at hP
 subst hP
 refine j5.ofT (eff := eff) ht0 a9N a9R (by exact c3c rfl) fun w' own av ν hν ht => ?_
 have hν0 : ν.length <= 0 := by rw [hν]; exact c2V _
 have hck := a8z w hwb
 rw [h] at hck
 obtain ⟨n1, b1⟩ := hwb.arms
 have n3 := hwb.parts.1
 have n4 := hwb.slots.1
 have n5 := hwb.gates.1
 have hz := a7q
 have hfz := b4A
 have hpe : ∀ i, a6G w i = if h : i < w.slots.length then (w.slots[i]).frame else a2T := fun _ => rfl
 unfold D9
 generalize hfp : a6G w = fP at *
 obtain ⟨arms, walls, parts, slots, gates, walk⟩ := w
 simp only at n1 b1 n3 n4 n5 hpe ⊢
 simp only [a5u, l6, TT, II, OA, OB, OC, MM, LL, VV, FF, MG, LG, VG, FG]
 simp only [Wk.c, Wk.enc, Stt.c, Stt.enc, ams, wls, pts, sls, gts, R5, frs, vts, bls, rc, sb, ints] at hck ⊢
 (repeat first | refine uA ?_ | (refine uK ?_ ?_; focus first | omega | (intros; simp_all <;> omega)) | simp (disch := omega) only [go_sem, Nat.reduceBEq, Nat.reduceAdd, ww] | (refine uD hck ?_ ?_ ?_; exact ht; exact rfl))
 refine S.cond rfl (fun hc => by simp at hc) (fun hc => ?_)
 (repeat first | refine uA ?_ | (refine uK ?_ ?_; focus first | omega | (intros; simp_all <;> omega)) | simp (disch := omega) only [go_sem, Nat.reduceBEq, Nat.reduceAdd, ww, c2N])
 refine S.loop (X := Nat) (fun i => ⟨[(1, .bp 0 0), (2, .bp 1 0), (5, .bp 2 0), (20, ams arms), (21, ints arms.length), (22, ints i)], [.box 31 [ams arms, wls walls, pts parts, sls slots, gts gates, .v (.bool walk.neg), sb walk.num, sb walk.den], .box 37 [.v (.int .i64 0), .v (.slice none 0 0), .v (.slice none 0 0), .v (.slice none 0 0), .v (.slice none 0 0)], .box 37 [.v (.int .i64 0), .rv 3, .rv 4, .v (.slice none 0 0), .v (.slice none 0 0)], .row 61 4 (((arms.take i).map O5).map Ast.enc), .row 48 10 []]⟩) (fun i => i <= arms.length) (fun i => arms.length - i) 0 (c2T _)
  (Ent.trans (Ent.a1P 2 1 61 4 rfl rfl rfl) (Ent.trans (Ent.a1P 2 2 48 10 rfl rfl rfl) (by (repeat first | refine uA ?_ | (refine ⟨?_, ?_⟩; focus first | rfl | simp [slot]) | rfl | simp | exact c2Q hν0 (by simp))))) ?_
 intro i hi
 simp only [ams, wls, pts, sls, gts, vts, sb, ints]
 (repeat first | refine uA ?_ | (refine uK ?_ ?_; focus first | omega | (intros; simp_all <;> omega)) | simp (disch := omega) only [go_sem, Nat.reduceBEq, Nat.reduceAdd, ww])
 (refine uJ rfl (fun hc => ?_) fun hc => ?_)
 ·have hi' : i < arms.length := by omega
  have hgi := c2M hi'
  have hap : arms.take (i + 1) = arms.take i ++ [arms[i]] := c3E hi'
  have htl : (arms.take i).length = i := by rw [c2W]; omega
  generalize arms[i] = a at hgi hap
  obtain ⟨b0, _, nl, bl⟩ := b1 a (c2P hgi)
  (repeat first | refine uA ?_ | (refine uK ?_ ?_; focus first | omega | (intros; simp_all <;> omega)) | simp (disch := omega) only [go_sem, Nat.reduceBEq, Nat.reduceAdd, ww, hgi, c2O, c2N, Am.enc, lks, sb])
  refine S.loop (X := Nat) (fun k => ⟨[(1, .bp 0 0), (2, .bp 1 0), (5, .bp 2 0), (8, .bp 6 0), (20, ams arms), (21, ints arms.length), (22, ints i), (28, lks a.links), (29, ints a.links.length), (30, ints k)], [.box 31 [ams arms, wls walls, pts parts, sls slots, gts gates, .v (.bool walk.neg), sb walk.num, sb walk.den], .box 37 [.v (.int .i64 0), .v (.slice none 0 0), .v (.slice none 0 0), .v (.slice none 0 0), .v (.slice none 0 0)], .box 37 [.v (.int .i64 0), .rv 3, .rv 4, .v (.slice none 0 0), .v (.slice none 0 0)], .row 61 4 (((arms.take i).map O5).map Ast.enc), .row 48 10 [], .gone, .box 61 [.rv 7, .rv 8, .v (.bool false), .v (.int .i64 (-1))], .row 29 3 (((a.links.take k).map a0w).map rcs), .row 29 3 (((a.links.take k).map fun _ => Nm.ofQ 0).map rcs)]⟩) (fun k => k <= a.links.length) (fun k => a.links.length - k) 0 (c2T _)
   (Ent.trans (Ent.a1P 6 0 29 3 rfl rfl rfl) (Ent.trans (Ent.a1P 6 1 29 3 rfl rfl rfl) (by (repeat first | refine uA ?_ | (refine ⟨?_, ?_⟩; focus first | rfl | simp [slot]) | rfl | simp | exact c2Q hν0 (by simp))))) ?_
  intro k hk
  simp only [ams, wls, pts, sls, gts, lks, vts, sb, ints]
  (repeat first | refine uA ?_ | (refine uK ?_ ?_; focus first | omega | (intros; simp_all <;> omega)) | simp (disch := omega) only [go_sem, Nat.reduceBEq, Nat.reduceAdd, ww])
  (refine uJ rfl (fun hc => ?_) fun hc => ?_)
  ·have hk' : k < a.links.length := by omega
   have hgk := c2M hk'
   have hak : a.links.take (k + 1) = a.links.take k ++ [a.links[k]] := c3E hk'
   have htk : (a.links.take k).length = k := by rw [c2W]; omega
   generalize a.links[k] = l at hgk hak
   obtain ⟨_, l2, l3, _⟩ := bl l (c2P hgk)
   have z1 := I8
   have z2 := l3.fit (by decide)
   have o1 := a5j l.high (Nm.ofQ 0) (l3.mono (by decide)) (I8.mono (by decide))
   rw [Nm.r9] at o1
   have z3 : Rb 1073741824 (Nm.ofQ (J7 (Nm.d9 l.high) 0)) := by unfold J7; split; exact z2; exact z1.mono (by decide)
   have o2 := a9i l.low (Nm.ofQ (J7 (Nm.d9 l.high) 0)) (l2.mono (by decide)) (z3.mono (by decide))
   rw [Nm.r9] at o2
   have hq : a0w l = Nm.ofQ (O4 (Nm.d9 l.low) (J7 (Nm.d9 l.high) 0)) := rfl
   unfold rq at o1 o2 hz
   generalize Nm.ofQ (O4 (Nm.d9 l.low) (J7 (Nm.d9 l.high) 0)) = r2 at *
   generalize Nm.ofQ (J7 (Nm.d9 l.high) 0) = r1 at *
   generalize Nm.ofQ 0 = r0 at *
   simp only [rc, sb] at o1 o2 hz
   (repeat first | refine uA ?_ | (refine uK ?_ ?_; focus first | omega | (intros; simp_all <;> omega)) | simp (disch := omega) only [go_sem, Nat.reduceBEq, Nat.reduceAdd, ww, hgk, c2O, c2N, htk, Lk.enc, vts, sb] | (refine uD hz ?_ ?_ ?_; exact ht; exact rfl) | (refine uD o1 ?_ ?_ ?_; exact ht; exact rfl) | (refine uD o2 ?_ ?_ ?_; exact ht; exact rfl))
   refine S.next (k + 1) (by omega) (by omega) (by simp only [hak, hq, c3D, c3e, c3v, rcs, sb]; exact (by (repeat first | refine uA ?_ | (refine ⟨?_, ?_⟩; focus first | rfl | simp [slot]) | rfl | simp | exact c2Q hν0 (by simp))))
  ·have hk' : k = a.links.length := by omega
   subst hk'
   rw [c3j]
   refine S.exit rfl ?_
   refine S.weaken (st' := ⟨[(1, .bp 0 0), (2, .bp 1 0), (5, .bp 2 0), (8, .bp 6 0), (20, ams arms), (21, ints arms.length), (22, ints i)], [.box 31 [ams arms, wls walls, pts parts, sls slots, gts gates, .v (.bool walk.neg), sb walk.num, sb walk.den], .box 37 [.v (.int .i64 0), .v (.slice none 0 0), .v (.slice none 0 0), .v (.slice none 0 0), .v (.slice none 0 0)], .box 37 [.v (.int .i64 0), .rv 3, .rv 4, .v (.slice none 0 0), .v (.slice none 0 0)], .row 61 4 (((arms.take i).map O5).map Ast.enc), .row 48 10 [], .gone, .box 61 (O5 a).enc]⟩) (Ent.mk _ _ (by (repeat' (first | exact Q8.nil | exact Imp.junk | exact Imp.refl rfl | exact Imp.eq (by simp [slot]; done) rfl | refine Q8.cons ?_ ?_))) (by (repeat' (first | exact K9.nil | exact RI.gone _ | exact RI.row _ _ _ _ rfl | exact RI.map _ _ _ rfl | exact RI.box _ _ _ (l8.refl rfl) | (refine RI.box _ _ _ ?_; (repeat' (first | exact l8.nil | exact Imp.refl rfl | exact Imp.frz rfl rfl rfl | exact Imp.K7 | refine l8.cons ?_ ?_))) | refine K9.cons ?_ ?_))) (c2Q hν0 (by simp))) ?_
   simp only [ams, wls, pts, sls, gts, vts, sb, ints, Ast.enc, rts]
   (repeat first | refine uA ?_ | (refine uK ?_ ?_; focus first | omega | (intros; simp_all <;> omega)) | simp (disch := omega) only [go_sem, Nat.reduceBEq, Nat.reduceAdd, ww, c2N, htl])
   refine S.next (i + 1) (by omega) (by omega) (by simp only [hap, c3D, c3e, c3v, Ast.enc, rts, ints]; exact (by (repeat first | refine uA ?_ | (refine ⟨?_, ?_⟩; focus first | rfl | simp [slot]) | rfl | simp | exact c2Q hν0 (by simp))))
 ·have hi' : i = arms.length := by omega
  subst hi'
  rw [c3j]
  (repeat first | refine uA ?_ | (refine uK ?_ ?_; focus first | omega | (intros; simp_all <;> omega)) | simp (disch := omega) only [go_sem, Nat.reduceBEq, Nat.reduceAdd, ww, c2N])
  refine S.loop (X := Nat) (fun i => ⟨[(1, .bp 0 0), (2, .bp 1 0), (5, .bp 2 0), (62, ints parts.length), (63, ints i)], [.box 31 [ams arms, wls walls, pts parts, sls slots, gts gates, .v (.bool walk.neg), sb walk.num, sb walk.den], .box 37 [.v (.int .i64 0), .v (.slice none 0 0), .v (.slice none 0 0), .v (.slice none 0 0), .v (.slice none 0 0)], .box 37 [.v (.int .i64 0), .rv 3, .rv 4, .v (.slice none 0 0), .v (.slice none 0 0)], .row 61 4 ((arms.map O5).map Ast.enc), .row 48 10 (((List.range i).map fP).map Fr.enc)]⟩) (fun i => i <= parts.length) (fun i => parts.length - i) 0 (c2T _) (by (repeat first | refine uA ?_ | (refine ⟨?_, ?_⟩; focus first | rfl | simp [slot]) | rfl | simp | exact c2Q hν0 (by simp))) ?_
  intro i hi
  simp only [ams, wls, pts, sls, gts, vts, sb, ints]
  (repeat first | refine uA ?_ | (refine uK ?_ ?_; focus first | omega | (intros; simp_all <;> omega)) | simp (disch := omega) only [go_sem, Nat.reduceBEq, Nat.reduceAdd, ww])
  (refine uJ rfl (fun hc => ?_) fun hc => ?_)
  ·have hrl : ((List.range i).map fP).length = i := by simp
   simp only [a2T, Fr.c, Fr.enc, sb] at hfz
   (repeat first | refine uA ?_ | (refine uK ?_ ?_; focus first | omega | (intros; simp_all <;> omega)) | simp (disch := omega) only [go_sem, Nat.reduceBEq, Nat.reduceAdd, ww] | (refine uD hfz ?_ ?_ ?_; exact ht; exact rfl))
   refine S.join (Y := Fr) (fun f => ⟨[(1, .bp 0 0), (2, .bp 1 0), (5, .bp 2 0), (12, .bp 5 0), (62, ints parts.length), (63, ints i)], [.box 31 [ams arms, wls walls, pts parts, sls slots, gts gates, .v (.bool walk.neg), sb walk.num, sb walk.den], .box 37 [.v (.int .i64 0), .v (.slice none 0 0), .v (.slice none 0 0), .v (.slice none 0 0), .v (.slice none 0 0)], .box 37 [.v (.int .i64 0), .rv 3, .rv 4, .v (.slice none 0 0), .v (.slice none 0 0)], .row 61 4 ((arms.map O5).map Ast.enc), .row 48 10 (((List.range i).map fP).map Fr.enc), .box 48 f.enc]⟩) (fun f => f = fP i) ?_ ?_
   ·refine S.cond rfl (fun hc => ?_) (fun hc => ?_)
    ·have hsi : i < slots.length := by simp at hc; omega
     have hgs := c2M hsi
     have hf : fP i = (slots[i]).frame := by rw [hpe i, dif_pos hsi]
     generalize slots[i] = s at hgs hf
     (repeat first | refine uA ?_ | (refine uK ?_ ?_; focus first | omega | (intros; simp_all <;> omega)) | simp (disch := omega) only [go_sem, Nat.reduceBEq, Nat.reduceAdd, ww, hgs, c2O, c2N, Sl.enc, sb, c2X])
     exact S.met s.frame hf.symm (by simp only [ams, wls, pts, sls, gts, vts, sb, ints, Fr.enc]; exact (by (repeat first | refine uA ?_ | (refine ⟨?_, ?_⟩; focus first | rfl | simp [slot]) | rfl | simp | exact c2Q hν0 (by simp))))
    ·have hf : fP i = a2T := by rw [hpe i, dif_neg (by simp at hc; omega)]
     (repeat first | refine uA ?_ | (refine uK ?_ ?_; focus first | omega | (intros; simp_all <;> omega)) | simp (disch := omega) only [go_sem, Nat.reduceBEq, Nat.reduceAdd, ww])
     exact S.met a2T hf.symm (by simp only [ams, wls, pts, sls, gts, vts, sb, ints, Fr.enc, a2T]; exact (by (repeat first | refine uA ?_ | (refine ⟨?_, ?_⟩; focus first | rfl | simp [slot]) | rfl | simp | exact c2Q hν0 (by simp))))
   rintro f hf
   simp only [ams, wls, pts, sls, gts, vts, sb, ints, Fr.enc]
   (repeat first | refine uA ?_ | (refine uK ?_ ?_; focus first | omega | (intros; simp_all <;> omega)) | simp (disch := omega) only [go_sem, Nat.reduceBEq, Nat.reduceAdd, ww, c2N, hrl, List.length_range])
   refine S.next (i + 1) (by omega) (by omega) (by simp only [List.range_succ, c3D, c3e, c3v, <- hf, Fr.enc, sb]; exact (by (repeat first | refine uA ?_ | (refine ⟨?_, ?_⟩; focus first | rfl | simp [slot]) | rfl | simp | exact c2Q hν0 (by simp))))
  ·have hi' : i = parts.length := by omega
   subst hi'
   simp only [List.map_replicate]
   (repeat first | refine uA ?_ | (refine uK ?_ ?_; focus first | omega | (intros; simp_all <;> omega)) | simp (disch := omega) only [go_sem, Nat.reduceBEq, Nat.reduceAdd, ww, c2N, c2X])
   (refine S.done ?_; simp only [p9, p8, go_sem, Nat.reduceBEq, Nat.reduceAdd, Nat.reduceLeDiff, Int.reduceToNat, Int.reducePow]; (repeat (refine ⟨?_, ?_⟩; focus first | trivial | omega | simp)); exact j3.L8 (Imp.tup (by (repeat' (first | exact l8.nil | exact Imp.refl rfl | exact Imp.frz rfl rfl rfl | exact Imp.K7 | refine Imp.agg ?_ | refine l8.cons ?_ ?_)))) (by (repeat first | refine uA ?_ | (refine ⟨?_, ?_⟩; focus first | rfl | simp [slot]) | rfl | simp)) (c2Q hν0 (by simp)))
set_option maxRecDepth 10000
set_option maxHeartbeats 8000000
def a6X (l : List UInt8) (i : Nat) (out : List UInt8) : Prop :=
 out.length = l.length /\ ∀ k, k < l.length -> out[k]? = if k < i \/ l.length - i <= k then l[l.length - 1 - k]? else l[k]?
theorem b4g (l : List UInt8) : a6X l 0 l := ⟨rfl, fun k hk => by rw [if_neg (by omega)]⟩
theorem b4i {l out : List UInt8} {i : Nat} {x y : UInt8} (h : a6X l i out) (hi : i + 1 < l.length - i) (hx : out[i]? = some x) (hy : out[l.length - 1 - i]? = some y) : a6X l (i + 1) ((out.set i y).set (l.length - 1 - i) x) := by
 obtain ⟨h1, h2⟩ := h
 have e1 := h2 i (by omega)
 have e2 := h2 (l.length - 1 - i) (by omega)
 rw [if_neg (by omega), hx] at e1
 rw [if_neg (by omega), hy] at e2
 refine ⟨by simp [h1], fun k hk => ?_⟩
 by_cases k1 : k = l.length - 1 - i
 ·subst k1
  rw [List.getElem?_set_self (by simp; omega), if_pos (by omega), e1]
  congr 1
  omega
 ·rw [List.getElem?_set_ne (fun e => k1 e.symm)]
  by_cases k2 : k = i
  ·subst k2
   rw [List.getElem?_set_self (by omega), if_pos (by omega), e2]
  ·rw [List.getElem?_set_ne (fun e => k2 e.symm), h2 k hk]
   by_cases k3 : k < i \/ l.length - i <= k
   ·rw [if_pos k3, if_pos (by omega)]
   ·rw [if_neg k3, if_neg (by omega)]
theorem b5g {l out : List UInt8} {i : Nat} (h : a6X l i out) (hi : l.length - i <= i + 1) : out = l.reverse := by
 obtain ⟨h1, h2⟩ := h
 apply List.ext_getElem?
 intro k
 rcases c3n k l.length with hk | hk
 ·rw [h2 k hk, List.getElem?_reverse hk]
  by_cases k3 : k < i \/ l.length - i <= k
  ·rw [if_pos k3]
  ·rw [if_neg k3, show l.length - 1 - k = k by omega]
 ·rw [c3q (by omega), c3q (by simp; omega)]
theorem c2q {E : Ctx} (hP : E.P = Tryz.prog) (l : List UInt8) (hl : l.length <= 1099511627776) : j5 E [.row 5 1 (l.map F5)] 145 [.rv 0] (.tup []) [.row 5 1 (l.reverse.map F5)] [] := by
 obtain ⟨P, eff', N, w0, own0, av0, nu0, pk0⟩ := E
 simp only at hP
 subst hP
 refine j5.of (eff := eff) Tryz.func145 (by cbv) (by exact c3c rfl) fun w own av ν hν => ?_
 have hν0 : ν.length <= 1 := by rw [hν]; exact c2V _
 simp only [l6]
 (repeat first | refine uA ?_ | (refine uK ?_ ?_; focus first | omega | (intros; simp_all <;> omega)) | simp (disch := omega) only [go_sem, Nat.reduceBEq, Nat.reduceAdd, ww, c2N])
 refine S.loop (X := Nat × List UInt8) (fun x => ⟨[(0, .rv 0), (2, ints x.1), (3, ints ((l.length : Int) - 1 - (x.1 : Int)))], [.row 5 1 (x.2.map F5)]⟩) (fun x => x.1 <= l.length /\ a6X l x.1 x.2) (fun x => l.length - x.1) (0, l) ⟨c2T _, b4g l⟩ (by simp only [Int.natCast_zero, Int.sub_zero]; exact (by (repeat first | refine uA ?_ | (refine ⟨?_, ?_⟩; focus first | rfl | simp [slot]) | rfl | simp | exact c2Q hν0 (by simp)))) ?_
 rintro ⟨i, out⟩ ⟨hi, hinv⟩
 simp only [ints] at hi hinv ⊢
 have hol := hinv.1
 (repeat first | refine uA ?_ | (refine uK ?_ ?_; focus first | omega | (intros; simp_all <;> omega)) | simp (disch := omega) only [go_sem, Nat.reduceBEq, Nat.reduceAdd, ww])
 (refine uJ rfl (fun hc => ?_) fun hc => ?_)
 ·have gi : out[i]? = some (out[i]'(by omega)) := c2M (by omega)
  have gj : out[l.length - 1 - i]? = some (out[l.length - 1 - i]'(by omega)) := c2M (by omega)
  have hst := b4i hinv (by omega) gi gj
  have hsk : l.length - 1 - i ≠ i := by omega
  generalize out[i]'_ = xi at *
  generalize out[l.length - 1 - i]'_ = xj at *
  have gj2 : (out.set i xj)[l.length - 1 - i]? = some xj := by rw [List.getElem?_set_ne (Ne.symm hsk)]; exact gj
  have n0 : ((l.length : Int) - 1 - (i : Int)).toNat = l.length - 1 - i := by omega
  have e1 : (out.map F5).set i [.v (.int .u8 ((xj.toNat : Nat) : Int))] = (out.set i xj).map F5 := a3k out i xj
  have e2 : ((out.set i xj).map F5).set (l.length - 1 - i) [.v (.int .u8 ((xi.toNat : Nat) : Int))] = ((out.set i xj).set (l.length - 1 - i) xi).map F5 := a3k _ _ _
  have hr : (l.length : Int) - 1 - ((i + 1 : Nat) : Int) = (l.length : Int) - 1 - (i : Int) - 1 := by omega
  (repeat first | refine uA ?_ | (refine uK ?_ ?_; focus first | omega | (intros; simp_all <;> omega)) | simp (disch := omega) only [go_sem, Nat.reduceBEq, Nat.reduceAdd, ww, c2N, gi, gj, gj2, n0, e1, e2, F5, c2O, c2X, c3A])
  refine S.next (x := (i, out)) (i + 1, _) ⟨by simp only; omega, hst⟩ (by simp only; omega) (by simp only [hr]; exact (by (repeat first | refine uA ?_ | (refine ⟨?_, ?_⟩; focus first | rfl | simp [slot]) | rfl | simp | exact c2Q hν0 (by simp))))
 ·have := b5g hinv (by omega)
  subst this
  (repeat first | refine uA ?_ | (refine uK ?_ ?_; focus first | omega | (intros; simp_all <;> omega)) | simp (disch := omega) only [go_sem, Nat.reduceBEq, Nat.reduceAdd, ww])
  exact S.end_ (j3.own rfl)
theorem b2f (n : Nat) (hn : n < 4611686018427387904) : G5 Tryz.prog 131 [.v (.int .i64 (n : Int))] (sb (Nm.enc n)) := by
  refine kS Tryz.func131 (by cbv) (by rfl) fun w O => ?_
  have h8 : (Nm.enc n).length <= 8 := Nm.F4 (by omega)
  simp only [l6, sb]
  (repeat first | refine uA ?_ | (refine uK ?_ ?_; focus first | omega | (intros; simp_all <;> omega)) | simp (disch := omega) only [go_sem, Nat.reduceBEq, Nat.reduceAdd, ww])
  refine S.loop (X := Nat × List UInt8) (fun x => ⟨[(0, ints x.1), (3, .rv 0)], [.row 5 1 (x.2.map F5)]⟩) (fun x => x.1 <= n /\ Nm.enc x.1 ++ x.2.reverse = Nm.enc n) (fun x => x.1) (n, []) ⟨c2V _, by simp⟩ (Ent.trans (Ent.pack 3 5 1 rfl) (by (repeat first | refine uA ?_ | (refine ⟨?_, ?_⟩; focus first | rfl | simp [slot]) | rfl | simp))) ?_
  rintro ⟨m, out⟩ ⟨hm, hinv⟩
  simp only [ints] at hm hinv ⊢
  have hol : out.length <= 8 := by
    have := congrArg List.length hinv
    simp only [c3a, List.length_reverse] at this
    omega
  (repeat first | refine uA ?_ | (refine uK ?_ ?_; focus first | omega | (intros; simp_all <;> omega)) | simp (disch := omega) only [go_sem, Nat.reduceBEq, Nat.reduceAdd, ww])
  (refine uJ rfl (fun hc => ?_) fun hc => ?_)
  · have he : Nm.enc m = Nm.enc (m / 256) ++ [UInt8.ofNat (m % 256)] := by
      conv => lhs; unfold Nm.enc
      rw [if_neg (by omega)]
    have hb : (UInt8.ofNat (m % 256)).toNat = m % 256 := by simp
    have h1 : IntKind.u8.wrap (Int.tmod (m : Int) 256) = (((UInt8.ofNat (m % 256)).toNat : Nat) : Int) := by
      rw [hb, show Int.tmod (m : Int) 256 = ((m % 256 : Nat) : Int) from rfl, a1J]
      omega
    have h2 : Int.tdiv (m : Int) 256 = ((m / 256 : Nat) : Int) := rfl
    have hap : Nm.enc (m / 256) ++ (out ++ [UInt8.ofNat (m % 256)]).reverse = Nm.enc n := by
      rw [List.reverse_append, <- hinv, he]
      simp
    generalize UInt8.ofNat (m % 256) = b at *
    (repeat first | refine uA ?_ | (refine uK ?_ ?_; focus first | omega | (intros; simp_all <;> omega)) | simp (disch := omega) only [go_sem, Nat.reduceBEq, Nat.reduceAdd, ww, c2N, h1, h2])
    refine S.next (x := (m, out)) (m / 256, out ++ [b]) ⟨by simp only; omega, hap⟩ (by simp only; omega) (by simp only [c3D, c3e, c3v, F5]; exact (by (repeat first | refine uA ?_ | (refine ⟨?_, ?_⟩; focus first | rfl | simp [slot]) | rfl | simp)))
  · have h0 : m = 0 := by omega
    subst h0
    rw [Nm.a1n, List.nil_append] at hinv
    have hr := fun (E : Ctx) (hP : E.P = Tryz.prog) => c2q hP out (by omega)
    rw [hinv] at hr
    (repeat first | refine uA ?_ | (refine uK ?_ ?_; focus first | omega | (intros; simp_all <;> omega)) | simp (disch := omega) only [go_sem, Nat.reduceBEq, Nat.reduceAdd, ww, V3, a3D] | refine l7.t (j5.lift (k := 0) rfl (hr _ rfl) rfl rfl rfl) ?_)
    exact S.done (j3.out rfl (Imp.refl rfl) rfl)
theorem b8J (a b : Nat) (h : 0 < b) : Nat.gcd b (a % b) = Nat.gcd a b := by
 rw [Nat.gcd_comm b, <- Nat.gcd_rec, Nat.gcd_comm]
theorem a1A (n d : Int) (hn : -1099511627776 <= n /\ n <= 1099511627776) (hd : 1 <= d /\ d <= 1099511627776) : G5 Tryz.prog 85 [ints n, ints d] (rc (Q n d)) := by
 refine kS Tryz.func85 (by cbv) (by rfl) fun w O => ?_
 obtain ⟨m, rfl⟩ : ∃ m : Nat, d = m := ⟨d.toNat, by omega⟩
 have hq : Q n m = Nm.ofQ (mkRat (Nm.sgn (decide (n < 0)) n.natAbs) m) := by
  unfold Q
  have : Nm.sgn (decide (n < 0)) n.natAbs = n := by unfold Nm.sgn; by_cases h : n < 0 <;> simp [h] <;> omega
  rw [this, c2X]
 rw [hq, <- Nm.b0c _ (by omega)]
 have hmx : (if n < -n then -n else n) = ((n.natAbs : Nat) : Int) := by split <;> omega
 have hwn : IntKind.i64.wrap (0 - n) = -n := by rw [Eng.wrap_i64 (by omega)]; omega
 have hgp : 0 < Nat.gcd n.natAbs m := Nat.gcd_pos_of_pos_right _ (by omega)
 simp only [l6, ints]
 (repeat first | refine uA ?_ | (refine uK ?_ ?_; focus first | omega | (intros; simp_all <;> omega)) | simp (disch := omega) only [go_sem, Nat.reduceBEq, Nat.reduceAdd, ww, hwn, hmx])
 refine S.loop (X := Nat × Nat) (fun x => ⟨[(0, ints n), (1, ints m), (4, .bp 0 0), (5, ints x.1), (6, ints x.2)], [.box 29 [.v (.bool false), .v (.string ⟨#[]⟩), .v (.string ⟨#[]⟩)]]⟩) (fun x => Nat.gcd x.1 x.2 = Nat.gcd n.natAbs m /\ x.1 <= 1099511627776 /\ x.2 <= 1099511627776) (fun x => x.2) (n.natAbs, m) ⟨rfl, by omega, by omega⟩ (by (repeat first | refine uA ?_ | (refine ⟨?_, ?_⟩; focus first | rfl | simp [slot]) | rfl | simp)) ?_
 rintro ⟨a, b⟩ ⟨hg, ha, hb⟩
 simp only [ints] at hg ha hb ⊢
 (repeat first | refine uA ?_ | (refine uK ?_ ?_; focus first | omega | (intros; simp_all <;> omega)) | simp (disch := omega) only [go_sem, Nat.reduceBEq, Nat.reduceAdd, ww])
 (refine uJ rfl (fun hc => ?_) fun hc => ?_)
 ·have h1 : Int.tmod (a : Int) (b : Int) = ((a % b : Nat) : Int) := rfl
  have hlt : a % b < b := Nat.mod_lt _ (by omega)
  have hb0 : ¬ ((b : Int) = 0) := by omega
  (repeat first | refine uA ?_ | (refine uK ?_ ?_; focus first | omega | (intros; simp_all <;> omega)) | simp (disch := omega) only [go_sem, Nat.reduceBEq, Nat.reduceAdd, ww, h1, hb0])
  refine S.next (x := (a, b)) (b, a % b) ⟨by simp only; rw [b8J a b (by omega)]; exact hg, by simp only; omega, by simp only; omega⟩ (by simp only; omega) (by (repeat first | refine uA ?_ | (refine ⟨?_, ?_⟩; focus first | rfl | simp [slot]) | rfl | simp))
 ·have hb0 : b = 0 := by omega
  subst hb0
  rw [Nat.gcd_zero_right] at hg
  subst hg
  have ha0 : ¬ (((Nat.gcd n.natAbs m : Nat) : Int) = 0) := by omega
  generalize hgg : Nat.gcd n.natAbs m = g at *
  have hdvn : g ∣ n.natAbs := by rw [<- hgg]; exact Nat.gcd_dvd_left ..
  have e2 : Int.tdiv (m : Int) (g : Int) = ((m / g : Nat) : Int) := rfl
  obtain ⟨k, hk⟩ := hdvn
  have hkq : n.natAbs / g = k := by rw [hk]; exact Nat.mul_div_cancel_left _ hgp
  have e1 : Int.tdiv n (g : Int) = Nm.sgn (decide (n < 0)) k := by
   have h3 : (n : Int) = (g : Int) * Nm.sgn (decide (n < 0)) k := by
    have h4 : ((n.natAbs : Nat) : Int) = (g : Int) * (k : Int) := by rw [hk]; simp
    unfold Nm.sgn
    by_cases h : n < 0
    ·simp only [h, decide_true, if_true, Int.mul_neg]; omega
    ·simp only [h, decide_false, c3u, if_false]; omega
   rw [show Int.tdiv n (g : Int) = Int.tdiv ((g : Int) * Nm.sgn (decide (n < 0)) k) (g : Int) from congrArg (fun z => Int.tdiv z (g : Int)) h3]
   exact Int.mul_tdiv_cancel_left _ (by omega)
  have hkb : k <= 1099511627776 := by
   have : k <= g * k := Nat.le_mul_of_pos_left k hgp
   omega
  have hmb : m / g <= m := Nat.div_le_self _ _
  have hs : -1099511627776 <= Nm.sgn (decide (n < 0)) k /\ Nm.sgn (decide (n < 0)) k <= 1099511627776 := by unfold Nm.sgn; split <;> omega
  have hneg : decide (Nm.sgn (decide (n < 0)) k < 0) = (decide (n < 0) && !decide (k = 0)) := by
   unfold Nm.sgn
   by_cases h : n < 0
   ·by_cases h0 : k = 0
    ·subst h0; simp [h]
    ·simp [h, h0]; try omega
   ·simp [h]; try omega
  have hab : (if Nm.sgn (decide (n < 0)) k < -(Nm.sgn (decide (n < 0)) k) then -(Nm.sgn (decide (n < 0)) k) else Nm.sgn (decide (n < 0)) k) = ((k : Nat) : Int) := by unfold Nm.sgn; split <;> split <;> omega
  have hws : IntKind.i64.wrap (0 - Nm.sgn (decide (n < 0)) k) = -(Nm.sgn (decide (n < 0)) k) := by rw [Eng.wrap_i64 (by omega)]; omega
  have hwm : IntKind.i64.wrap ((m / g : Nat) : Int) = ((m / g : Nat) : Int) := by
   generalize m / g = z at *
   exact Eng.wrap_i64 (by omega)
  have d1 := b2f k (by omega)
  have d2 := b2f (m / g) (by omega)
  have hres : (if n.natAbs = 0 then Nm.a2Y else ⟨decide (n < 0), Nm.enc (n.natAbs / g), Nm.enc (m / g)⟩ : Nm.Rt) = ⟨decide (n < 0) && !decide (k = 0), Nm.enc k, Nm.enc (m / g)⟩ := by
   rw [hkq]
   by_cases h0 : n.natAbs = 0
   ·have hn0 : n = 0 := by omega
    subst hn0
    have hk0 : k = 0 := by
     rcases c3k k with h | h
     ·exact h
     ·have := Nat.mul_pos hgp h; omega
    have hgm : g = m := by rw [<- hgg]; simp
    subst hk0
    have h1 : m / g = 1 := by rw [hgm]; exact Nat.div_self (by omega)
    rw [h1, Nm.a0V, Nm.a1n]
    rfl
   ·have hk0 : k ≠ 0 := by intro h; subst h; omega
    rw [if_neg h0]
    simp [hk0]
  rw [hres]
  rw [<- hneg]
  simp only [rc, sb] at d1 d2 ⊢
  generalize Nm.sgn (decide (n < 0)) k = s at *
  (repeat first | refine uA ?_ | (refine uK ?_ ?_; focus first | omega | (intros; simp_all <;> omega)) | simp (disch := omega) only [go_sem, Nat.reduceBEq, Nat.reduceAdd, ww, ha0, e1, e2, hws, hab, hwm] | (refine uB d1 ?_ ?_; exact rfl) | (refine uB d2 ?_ ?_; exact rfl))
  (refine S.done ?_; simp only [p9, p8, go_sem, Nat.reduceBEq, Nat.reduceAdd, Nat.reduceLeDiff, Int.reduceToNat, Int.reducePow]; (repeat (refine ⟨?_, ?_⟩; focus first | trivial | omega | simp)); exact j3.out rfl (Imp.refl rfl) rfl)
theorem U4 (x y : Int) (hx : -1000000 <= x /\ x <= 1000000) (hy : -1000000 <= y /\ y <= 1000000) : G5 Tryz.prog 84 [ints x, ints y] (atV x y).c := by
 refine kS Tryz.func84 (by cbv) (by rfl) fun w O => ?_
 have h1 := a1A x 4 (by omega) (by omega)
 have h2 := a1A y 4 (by omega) (by omega)
 unfold atV
 generalize Q x 4 = qx at *
 generalize Q y 4 = qy at *
 simp only [l6]
 simp only [rc, sb, ints, Vt.c, Vt.enc] at *
 (repeat first | refine uA ?_ | (refine uK ?_ ?_; focus first | omega | (intros; simp_all <;> omega)) | simp (disch := omega) only [go_sem, Nat.reduceBEq, Nat.reduceAdd, ww] | (refine uB h1 ?_ ?_; exact rfl) | (refine uB h2 ?_ ?_; exact rfl))
 (refine S.done ?_; simp only [p9, p8, go_sem, Nat.reduceBEq, Nat.reduceAdd, Nat.reduceLeDiff, Int.reduceToNat, Int.reducePow]; (repeat (refine ⟨?_, ?_⟩; focus first | trivial | omega | simp)); exact j3.out rfl (Imp.refl rfl) rfl)
theorem b6v (x y u v : Int) (hx : -100000 <= x /\ x <= 100000) (hy : -100000 <= y /\ y <= 100000) (hu : -100000 <= u /\ u <= 100000) (hv : -100000 <= v /\ v <= 100000) : G5 Tryz.prog 82 [ints x, ints y, ints u, ints v] (vts (a4N x y u v)) := by
 refine kS Tryz.func82 (by cbv) (by rfl) fun w O => ?_
 have h1 := U4 x y (by omega) (by omega)
 have h2 := U4 u y (by omega) (by omega)
 have h3 := U4 u v (by omega) (by omega)
 have h4 := U4 x v (by omega) (by omega)
 unfold a4N
 generalize atV x y = p1 at *
 generalize atV u y = p2 at *
 generalize atV u v = p3 at *
 generalize atV x v = p4 at *
 simp only [l6]
 simp only [vts, Vt.c, Vt.enc, sb, ints] at *
 (repeat first | refine uA ?_ | (refine uK ?_ ?_; focus first | omega | (intros; simp_all <;> omega)) | simp (disch := omega) only [go_sem, Nat.reduceBEq, Nat.reduceAdd, ww] | (refine uB h1 ?_ ?_; exact rfl) | (refine uB h2 ?_ ?_; exact rfl) | (refine uB h3 ?_ ?_; exact rfl) | (refine uB h4 ?_ ?_; exact rfl))
 exact S.done (j3.out rfl (Imp.frz rfl rfl rfl) rfl)
theorem b8G (l : List Int) : a1u l = if nx (l.drop 2) 4 = 1 then (a1D (1 + nx l 6) (1 + nx (l.drop 1) 6) 1 (nx (l.drop 3) (2 * (1 + nx l 6) + 1)), l.drop 4) else (a1D (1 + nx l 6) (1 + nx (l.drop 1) 6) (nx (l.drop 2) 4) 0, l.drop 3) := by
 unfold a1u
 by_cases h : nx (l.drop 2) 4 = 1
 ·simp only [h, if_true]
 ·simp only [if_neg h]
theorem c0Y {E : Ctx} (hP : E.P = Tryz.prog) (l : List Int) :
  j5 E [.box 145 [A9 l]] 83 [.bp 0 0] (vts (a1u l).1) [.box 145 [A9 (a1u l).2]] [] := by
 obtain ⟨P, eff', N, w0, own0, av0, nu0, pk0⟩ := E
 simp only at hP
 subst hP
 refine j5.of (eff := eff) a8m a8i (by exact c3c rfl) fun w own av ν hν => ?_
 have hν0 : ν.length <= 1 := by rw [hν]; exact c2V _
 have n1 := fun (E : Ctx) (hP : E.P = Tryz.prog) => I4 hP l 6 (by decide)
 have n2 := fun (E : Ctx) (hP : E.P = Tryz.prog) => I4 hP (l.drop 1) 6 (by decide)
 have n3 := fun (E : Ctx) (hP : E.P = Tryz.prog) => I4 hP (l.drop 2) 4 (by decide)
 have b1 := l9 l (n := 6) (by decide)
 have b2 := D5 l (n := 6) (by decide)
 have b3 := l9 (l.drop 1) (n := 6) (by decide)
 have b4 := D5 (l.drop 1) (n := 6) (by decide)
 have b5 := l9 (l.drop 2) (n := 4) (by decide)
 have b6 := D5 (l.drop 2) (n := 4) (by decide)
 rw [b8G]
 generalize hw : nx l 6 = w' at *
 generalize hh : nx (l.drop 1) 6 = h' at *
 have n4 := fun (E : Ctx) (hP : E.P = Tryz.prog) => I4 hP (l.drop 3) (2 * (1 + w') + 1) (by omega)
 have b7 := l9 (l.drop 3) (n := 2 * (1 + w') + 1) (by omega)
 have b8 := D5 (l.drop 3) (n := 2 * (1 + w') + 1) (by omega)
 generalize hk : nx (l.drop 2) 4 = k at *
 generalize hs : nx (l.drop 3) (2 * (1 + w') + 1) = s at *
 rw [List.drop_drop] at n2 n3 n4
 generalize hu1 : 1 + w' = u at *
 generalize hv1 : 1 + h' = v at *
 have ru : IntKind.i64.wrap (0 - u) = -u := by rw [Eng.wrap_i64 (by omega)]; omega
 have rv : IntKind.i64.wrap (0 - v) = -v := by rw [Eng.wrap_i64 (by omega)]; omega
 simp only [a3Q, l6, TT, II, OA, OB, OC, MM, LL, VV, FF, MG, LG, VG, FG]
 simp only [A9, ints] at n1 n2 n3 n4 ⊢
 (repeat first | refine uA ?_ | (refine uK ?_ ?_; focus first | omega | (intros; simp_all <;> omega)) | simp (disch := omega) only [go_sem, Nat.reduceBEq, Nat.reduceAdd, ww, hu1, hv1] | refine l7.t (j5.lift (k := 0) rfl (n1 _ rfl) rfl rfl rfl) ?_ | refine l7.t (j5.lift (k := 0) rfl (n2 _ rfl) rfl rfl rfl) ?_)
 (repeat first | refine uA ?_ | (refine uK ?_ ?_; focus first | omega | (intros; simp_all <;> omega)) | simp (disch := omega) only [go_sem, Nat.reduceBEq, Nat.reduceAdd, ww] | refine l7.t (j5.lift (k := 0) rfl (n3 _ rfl) rfl rfl rfl) ?_)
 by_cases k0 : k = 0
 ·subst k0
  rw [if_neg (by decide), show a1D u v 0 0 = [atV (-u) (-v), atV u (-v), atV u v, atV (-u) v] from rfl]
  have h1 := U4 (-u) (-v) (by omega) (by omega)
  have h2 := U4 (u) (-v) (by omega) (by omega)
  have h3 := U4 (u) (v) (by omega) (by omega)
  have h4 := U4 (-u) (v) (by omega) (by omega)
  generalize hq1 : atV (-u) (-v) = p1 at *
  generalize hq2 : atV (u) (-v) = p2 at *
  generalize hq3 : atV (u) (v) = p3 at *
  generalize hq4 : atV (-u) (v) = p4 at *
  simp only [vts, Vt.c, Vt.enc, sb, ints] at h1 h2 h3 h4 ⊢
  refine S.cond rfl (fun hc => ?_) (fun hc => by simp at hc)
  (repeat first | refine uA ?_ | (refine uK ?_ ?_; focus first | omega | (intros; simp_all <;> omega)) | simp (disch := omega) only [go_sem, Nat.reduceBEq, Nat.reduceAdd, ww, ru, rv] | (refine uB h1 ?_ ?_; exact rfl) | (refine uB h2 ?_ ?_; exact rfl) | (refine uB h3 ?_ ?_; exact rfl) | (refine uB h4 ?_ ?_; exact rfl))
  (refine S.done ?_; simp only [p9, p8, go_sem, Nat.reduceBEq, Nat.reduceAdd, Nat.reduceLeDiff, Int.reduceToNat, Int.reducePow]; (repeat (refine ⟨?_, ?_⟩; focus first | trivial | omega | simp)); exact j3.L8 (Imp.frz rfl rfl rfl) (by (repeat first | refine uA ?_ | (refine ⟨?_, ?_⟩; focus first | rfl | simp [slot]) | rfl | simp)) (c2Q hν0 (by simp)))
 refine S.cond rfl (fun hc => by simp at hc; exact absurd hc k0) (fun hc => ?_)
 (repeat first | refine uA ?_ | (refine uK ?_ ?_; focus first | omega | (intros; simp_all <;> omega)) | simp (disch := omega) only [go_sem, Nat.reduceBEq, Nat.reduceAdd, ww])
 by_cases k1 : k = 1
 ·subst k1
  rw [if_pos rfl, show a1D u v 1 s = [atV (-u) (-v), atV u (-v), atV (s - u) v] from rfl]
  have h1 := U4 (-u) (-v) (by omega) (by omega)
  have h2 := U4 (u) (-v) (by omega) (by omega)
  have h3 := U4 (s - u) (v) (by omega) (by omega)
  generalize hq1 : atV (-u) (-v) = p1 at *
  generalize hq2 : atV (u) (-v) = p2 at *
  generalize hq3 : atV (s - u) (v) = p3 at *
  simp only [vts, Vt.c, Vt.enc, sb, ints] at h1 h2 h3 ⊢
  refine S.cond rfl (fun hc => ?_) (fun hc => by simp at hc)
  (repeat first | refine uA ?_ | (refine uK ?_ ?_; focus first | omega | (intros; simp_all <;> omega)) | simp (disch := omega) only [go_sem, Nat.reduceBEq, Nat.reduceAdd, ww, ru, rv] | refine l7.t (j5.lift (k := 0) rfl (n4 _ rfl) rfl rfl rfl) ?_ | (refine uB h1 ?_ ?_; exact rfl) | (refine uB h2 ?_ ?_; exact rfl) | (refine uB h3 ?_ ?_; exact rfl))
  (refine S.done ?_; simp only [p9, p8, go_sem, Nat.reduceBEq, Nat.reduceAdd, Nat.reduceLeDiff, Int.reduceToNat, Int.reducePow]; (repeat (refine ⟨?_, ?_⟩; focus first | trivial | omega | simp)); exact j3.L8 (Imp.frz rfl rfl rfl) (by (repeat first | refine uA ?_ | (refine ⟨?_, ?_⟩; focus first | rfl | simp [slot]) | rfl | simp)) (c2Q hν0 (by simp)))
 rw [if_neg k1]
 refine S.cond rfl (fun hc => by simp at hc; exact absurd hc k1) (fun hc => ?_)
 (repeat first | refine uA ?_ | (refine uK ?_ ?_; focus first | omega | (intros; simp_all <;> omega)) | simp (disch := omega) only [go_sem, Nat.reduceBEq, Nat.reduceAdd, ww])
 by_cases k2 : k = 2
 ·subst k2
  rw [show a1D u v 2 0 = [atV (-u - 1) (-v - 1), atV u (-v - 1), atV (u + 1) (-v), atV (u + 1) v, atV (-u - 1) v] from rfl]
  have h1 := U4 (-u - 1) (-v - 1) (by omega) (by omega)
  have h2 := U4 (u) (-v - 1) (by omega) (by omega)
  have h3 := U4 (u + 1) (-v) (by omega) (by omega)
  have h4 := U4 (u + 1) (v) (by omega) (by omega)
  have h5 := U4 (-u - 1) (v) (by omega) (by omega)
  generalize hq1 : atV (-u - 1) (-v - 1) = p1 at *
  generalize hq2 : atV (u) (-v - 1) = p2 at *
  generalize hq3 : atV (u + 1) (-v) = p3 at *
  generalize hq4 : atV (u + 1) (v) = p4 at *
  generalize hq5 : atV (-u - 1) (v) = p5 at *
  simp only [vts, Vt.c, Vt.enc, sb, ints] at h1 h2 h3 h4 h5 ⊢
  refine S.cond rfl (fun hc => ?_) (fun hc => by simp at hc)
  (repeat first | refine uA ?_ | (refine uK ?_ ?_; focus first | omega | (intros; simp_all <;> omega)) | simp (disch := omega) only [go_sem, Nat.reduceBEq, Nat.reduceAdd, ww, ru, rv] | (refine uB h1 ?_ ?_; exact rfl) | (refine uB h2 ?_ ?_; exact rfl) | (refine uB h3 ?_ ?_; exact rfl) | (refine uB h4 ?_ ?_; exact rfl) | (refine uB h5 ?_ ?_; exact rfl))
  (refine S.done ?_; simp only [p9, p8, go_sem, Nat.reduceBEq, Nat.reduceAdd, Nat.reduceLeDiff, Int.reduceToNat, Int.reducePow]; (repeat (refine ⟨?_, ?_⟩; focus first | trivial | omega | simp)); exact j3.L8 (Imp.frz rfl rfl rfl) (by (repeat first | refine uA ?_ | (refine ⟨?_, ?_⟩; focus first | rfl | simp [slot]) | rfl | simp)) (c2Q hν0 (by simp)))
 ·rw [show a1D u v k 0 = [atV (-u) 0, atV 0 (-v), atV u 0, atV 0 v] by unfold a1D; rw [if_neg k0, if_neg k1, if_neg k2]]
  have h1 := U4 (-u) (0) (by omega) (by omega)
  have h2 := U4 (0) (-v) (by omega) (by omega)
  have h3 := U4 (u) (0) (by omega) (by omega)
  have h4 := U4 (0) (v) (by omega) (by omega)
  generalize hq1 : atV (-u) (0) = p1 at *
  generalize hq2 : atV (0) (-v) = p2 at *
  generalize hq3 : atV (u) (0) = p3 at *
  generalize hq4 : atV (0) (v) = p4 at *
  simp only [vts, Vt.c, Vt.enc, sb, ints] at h1 h2 h3 h4 ⊢
  refine S.cond rfl (fun hc => by simp at hc; exact absurd hc k2) (fun hc => ?_)
  (repeat first | refine uA ?_ | (refine uK ?_ ?_; focus first | omega | (intros; simp_all <;> omega)) | simp (disch := omega) only [go_sem, Nat.reduceBEq, Nat.reduceAdd, ww, ru, rv] | (refine uB h1 ?_ ?_; exact rfl) | (refine uB h2 ?_ ?_; exact rfl) | (refine uB h3 ?_ ?_; exact rfl) | (refine uB h4 ?_ ?_; exact rfl))
  (refine S.done ?_; simp only [p9, p8, go_sem, Nat.reduceBEq, Nat.reduceAdd, Nat.reduceLeDiff, Int.reduceToNat, Int.reducePow]; (repeat (refine ⟨?_, ?_⟩; focus first | trivial | omega | simp)); exact j3.L8 (Imp.frz rfl rfl rfl) (by (repeat first | refine uA ?_ | (refine ⟨?_, ?_⟩; focus first | rfl | simp [slot]) | rfl | simp)) (c2Q hν0 (by simp)))
set_option maxRecDepth 100000
set_option maxHeartbeats 16000000
theorem b7Z (n : Nat) (h : n <= 3) : ([[C.v (.string ⟨#[111, 110, 101]⟩)], [C.v (.string ⟨#[116, 119, 111]⟩)], [C.v (.string ⟨#[116, 104, 114, 101, 101]⟩)], [C.v (.string ⟨#[102, 111, 117, 114]⟩)]] : List (List C))[n]? = some [C.v (.string (bs (a4f n)))] := by
 match n, h with
 | 0, _ => rfl
 | 1, _ => rfl
 | 2, _ => rfl
 | 3, _ => rfl
theorem b9K (k : Int) (h0 : 0 <= k) (h1 : k < 4) : ([[C.v (.int .i64 0)], [C.v (.int .i64 1)], [C.v (.int .i64 (-1))], [C.v (.int .i64 1)]] : List (List C))[k.toNat]? = some [C.v (.int .i64 (a2Z k))] := by
 have : k = 0 \/ k = 1 \/ k = 2 \/ k = 3 := by omega
 rcases this with rfl | rfl | rfl | rfl <;> rfl
theorem b6J (k : Int) : -1 <= a2Z k /\ a2Z k <= 1 := by unfold a2Z; split; omega; split <;> omega
theorem c2n {E : Ctx} (hP : E.P = Tryz.prog) (l : List Int) (n : Nat) (hn : n <= 3) :
  j5 E [.box 145 [A9 l]] 81 [.bp 0 0, .v (.int .i64 (n : Int))] (b0f l n).c [.box 145 [A9 (a9D l)]] [] := by
 obtain ⟨P, eff', N, w0, own0, av0, nu0, pk0⟩ := E
 simp only at hP
 subst hP
 refine j5.of (eff := eff) a8I a9q (by exact c3c rfl) fun w own av ν hν => ?_
 have hν0 : ν.length <= 1 := by rw [hν]; exact c2V _
 have hnm := b7Z n hn
 have h1 := U4 (40 * (n : Int)) 0 (by omega) (by omega)
 have k1 := fun (E : Ctx) (hP : E.P = Tryz.prog) => I4 hP l 4 (by decide)
 have k2 := fun (E : Ctx) (hP : E.P = Tryz.prog) => I4 hP (l.drop 1) 3 (by decide)
 have k3 := fun (E : Ctx) (hP : E.P = Tryz.prog) => I4 hP (l.drop 2) 3 (by decide)
 have a1 := l9 l (n := 4) (by decide)
 have a2 := D5 l (n := 4) (by decide)
 have a3 := l9 (l.drop 1) (n := 3) (by decide)
 have a4 := D5 (l.drop 1) (n := 3) (by decide)
 have a5 := l9 (l.drop 2) (n := 3) (by decide)
 have a6 := D5 (l.drop 2) (n := 3) (by decide)
 have htn := b9K (nx l 4) a1 a2
 have htr := b6J (nx l 4)
 have h2 := a1A (a2Z (nx l 4)) (1 + nx (l.drop 1) 3) (by omega) (by omega)
 rw [List.drop_drop] at k2 k3
 have hc : ((a3G l : Nat) : Int) = 1 + nx (l.drop 2) 3 := by unfold a3G; omega
 have hc3 : a3G l <= 3 := by omega
 have hR : a9D l = (l.drop 3).drop (6 * a3G l) := by unfold a9D; rw [List.drop_drop]
 unfold b0f
 rw [hR]
 generalize a3G l = c at *
 generalize l.drop 3 = l0 at *
 unfold atV at h1
 generalize Q (40 * (n : Int)) 4 = q1 at *
 generalize Q 0 4 = q2 at *
 generalize a2Z (nx l 4) = tn at *
 generalize Q tn (1 + nx (l.drop 1) 3) = q3 at *
 generalize nx l 4 = x1 at *
 generalize nx (l.drop 1) 3 = x2 at *
 generalize nx (l.drop 2) 3 = x3 at *
 generalize a4f n = nm at *
 simp only [a4K, l6, TT, II, OA, OB, OC, MM, LL, VV, FF, MG, LG, VG, FG]
 simp only [Am.c, Am.enc, Vt.c, Vt.enc, rc, A9, sb, ints, lks] at h1 h2 k1 k2 k3 ⊢
 (repeat first | refine uA ?_ | (refine uK ?_ ?_; focus first | omega | trivial | (intros; simp_all <;> omega)) | simp (disch := omega) only [go_sem, Nat.reduceBEq, Nat.reduceAdd, Nat.reduceLeDiff, Int.reduceToNat, Int.reducePow, ww, hnm, htn, c2X] | refine l7.t (j5.lift (k := 0) rfl (k1 _ rfl) rfl rfl rfl) ?_ | refine l7.t (j5.lift (k := 0) rfl (k2 _ rfl) rfl rfl rfl) ?_ | (refine uB h1 ?_ ?_; exact rfl) | (refine uB h2 ?_ ?_; exact rfl))
 (repeat first | refine uA ?_ | (refine uK ?_ ?_; focus first | omega | trivial | (intros; simp_all <;> omega)) | simp (disch := omega) only [go_sem, Nat.reduceBEq, Nat.reduceAdd, Nat.reduceLeDiff, Int.reduceToNat, Int.reducePow, ww] | refine l7.t (j5.lift (k := 0) rfl (k3 _ rfl) rfl rfl rfl) ?_)
 rw [<- hc]
 refine S.loop (X := Nat × List Lk × List Int) (fun x => ⟨[(0, .bp 0 0), (4, .bp 1 0), (5, .bp 3 0), (30, ints c), (31, ints x.1)], [.box 145 [A9 x.2.2], .box 51 [.v (.string ⟨#[]⟩), .v (.bool false), .v (.string ⟨#[]⟩), .v (.string ⟨#[]⟩), .v (.bool false), .v (.string ⟨#[]⟩), .v (.string ⟨#[]⟩), .v (.bool false), .v (.bool false), .v (.string ⟨#[]⟩), .v (.string ⟨#[]⟩), .v (.slice none 0 0)], .gone, .box 51 [.v (.string (bs nm)), .v (.bool q1.neg), .v (.string (bs q1.num)), .v (.string (bs q1.den)), .v (.bool q2.neg), .v (.string (bs q2.num)), .v (.string (bs q2.den)), .v (.bool false), .v (.bool q3.neg), .v (.string (bs q3.num)), .v (.string (bs q3.den)), .rv 4], .row 53 16 (x.2.1.map Lk.enc)]⟩)
  (fun x => x.1 <= c /\ x.2.1.length = x.1 /\ x.2.1 ++ a1j (c - x.1) x.2.2 = a1j c l0 /\ x.2.2.drop (6 * (c - x.1)) = l0.drop (6 * c)) (fun x => c - x.1) (0, [], l0) ⟨c2T _, rfl, rfl, rfl⟩ (Ent.trans (Ent.a1P 3 11 53 16 rfl rfl rfl) (by (repeat first | refine uA ?_ | (refine ⟨?_, ?_⟩; focus first | rfl | trivial | (simp [slot]; done)) | rfl | trivial | simp | exact c2Q hν0 (by simp)))) ?_
 rintro ⟨i, ls, m⟩ ⟨hi, hls, hL, hM⟩
 simp only [ints, A9] at hi hls hL hM ⊢
 (repeat first | refine uA ?_ | (refine uK ?_ ?_; focus first | omega | trivial | (intros; simp_all <;> omega)) | simp (disch := omega) only [go_sem, Nat.reduceBEq, Nat.reduceAdd, Nat.reduceLeDiff, Int.reduceToNat, Int.reducePow, ww])
 (refine uJ rfl (fun hc => ?_) fun hc => ?_)
 ·have hi' : c - i = (c - i - 1) + 1 := by omega
  have n0 := fun (E : Ctx) (hP : E.P = Tryz.prog) => I4 hP (m.drop 0) 4 (by decide)
  have a0 := l9 (m.drop 0) (n := 4) (by decide)
  have b0 := D5 (m.drop 0) (n := 4) (by decide)
  have n1 := fun (E : Ctx) (hP : E.P = Tryz.prog) => I4 hP (m.drop 1) 6 (by decide)
  have a1 := l9 (m.drop 1) (n := 6) (by decide)
  have b1 := D5 (m.drop 1) (n := 6) (by decide)
  have n2 := fun (E : Ctx) (hP : E.P = Tryz.prog) => I4 hP (m.drop 2) 6 (by decide)
  have a2 := l9 (m.drop 2) (n := 6) (by decide)
  have b2 := D5 (m.drop 2) (n := 6) (by decide)
  have n3 := fun (E : Ctx) (hP : E.P = Tryz.prog) => I4 hP (m.drop 3) 8 (by decide)
  have a3 := l9 (m.drop 3) (n := 8) (by decide)
  have b3 := D5 (m.drop 3) (n := 8) (by decide)
  have n4 := fun (E : Ctx) (hP : E.P = Tryz.prog) => I4 hP (m.drop 4) 20 (by decide)
  have a4 := l9 (m.drop 4) (n := 20) (by decide)
  have b4 := D5 (m.drop 4) (n := 20) (by decide)
  have n5 := fun (E : Ctx) (hP : E.P = Tryz.prog) => I4 hP (m.drop 5) 3 (by decide)
  have a5 := l9 (m.drop 5) (n := 3) (by decide)
  have b5 := D5 (m.drop 5) (n := 3) (by decide)
  rw [hi', a1j] at hL
  have hM2 : (m.drop 6).drop (6 * (c - (i + 1))) = l0.drop (6 * c) := by rw [List.drop_drop, <- hM]; congr 1; omega
  rw [show c - i - 1 = c - (i + 1) by omega] at hL
  simp only [List.drop_drop, List.drop_zero] at n0 n1 n2 n3 n4 n5 a0 b0
  unfold b1K a4L at hL
  have o1 := a1A (4 + 2 * nx m 4) 4 (by omega) (by omega)
  have o2 := a1A (-1 - nx (m.drop 1) 6) 3 (by omega) (by omega)
  have o3 := a1A (1 + nx (m.drop 2) 6) 3 (by omega) (by omega)
  have o4 := a1A 1 (4 + nx (m.drop 3) 8) (by omega) (by omega)
  have o5 := a1A 1 (10 + nx (m.drop 4) 20) (by omega) (by omega)
  have o6 := b6v (-1) (-1) (4 + 2 * nx m 4 + 1) 1 (by omega) (by omega) (by omega) (by omega)
  have o7 := U4 (-1) (-1) (by omega) (by omega)
  have o8 := U4 (4 + 2 * nx m 4 + 1) 0 (by omega) (by omega)
  have o9 := U4 (-1) 1 (by omega) (by omega)
  generalize Q (4 + 2 * nx m 4) 4 = p1 at *
  generalize Q (-1 - nx (m.drop 1) 6) 3 = p2 at *
  generalize Q (1 + nx (m.drop 2) 6) 3 = p3 at *
  generalize Q 1 (4 + nx (m.drop 3) 8) = p4 at *
  generalize Q 1 (10 + nx (m.drop 4) 20) = p5 at *
  generalize a4N (-1) (-1) (4 + 2 * nx m 4 + 1) 1 = r6 at *
  generalize atV (-1) (-1) = v7 at *
  generalize atV (4 + 2 * nx m 4 + 1) 0 = v8 at *
  generalize atV (-1) 1 = v9 at *
  generalize nx m 4 = y0 at *
  generalize nx (m.drop 1) 6 = y1 at *
  generalize nx (m.drop 2) 6 = y2 at *
  generalize nx (m.drop 3) 8 = y3 at *
  generalize nx (m.drop 4) 20 = y4 at *
  generalize nx (m.drop 5) 3 = y5 at *
  simp only [A9, ints, rc, sb, vts, Vt.c, Vt.enc] at n0 n1 n2 n3 n4 n5 o1 o2 o3 o4 o5 o6 o7 o8 o9
  (repeat first | refine uA ?_ | (refine uK ?_ ?_; focus first | omega | trivial | (intros; simp_all <;> omega)) | simp (disch := omega) only [go_sem, Nat.reduceBEq, Nat.reduceAdd, Nat.reduceLeDiff, Int.reduceToNat, Int.reducePow, ww] | refine l7.t (j5.lift (k := 0) rfl (n0 _ rfl) rfl rfl rfl) ?_ | refine l7.t (j5.lift (k := 0) rfl (n1 _ rfl) rfl rfl rfl) ?_ | refine l7.t (j5.lift (k := 0) rfl (n2 _ rfl) rfl rfl rfl) ?_ | refine l7.t (j5.lift (k := 0) rfl (n3 _ rfl) rfl rfl rfl) ?_ | refine l7.t (j5.lift (k := 0) rfl (n4 _ rfl) rfl rfl rfl) ?_ | refine l7.t (j5.lift (k := 0) rfl (n5 _ rfl) rfl rfl rfl) ?_ | (refine uB o1 ?_ ?_; exact rfl) | (refine uB o2 ?_ ?_; exact rfl) | (refine uB o3 ?_ ?_; exact rfl) | (refine uB o4 ?_ ?_; exact rfl) | (refine uB o5 ?_ ?_; exact rfl) | (refine uB o6 ?_ ?_; exact rfl))
  refine S.join (Y := List Vt) (fun sh => ⟨[(0, .bp 0 0), (4, .bp 1 0), (5, .bp 3 0), (7, .bp 5 0), (30, ints c), (31, ints i)], [.box 145 [A9 (m.drop 6)], .box 51 [.v (.string ⟨#[]⟩), .v (.bool false), .v (.string ⟨#[]⟩), .v (.string ⟨#[]⟩), .v (.bool false), .v (.string ⟨#[]⟩), .v (.string ⟨#[]⟩), .v (.bool false), .v (.bool false), .v (.string ⟨#[]⟩), .v (.string ⟨#[]⟩), .v (.slice none 0 0)], .gone, .box 51 [.v (.string (bs nm)), .v (.bool q1.neg), .v (.string (bs q1.num)), .v (.string (bs q1.den)), .v (.bool q2.neg), .v (.string (bs q2.num)), .v (.string (bs q2.den)), .v (.bool false), .v (.bool q3.neg), .v (.string (bs q3.num)), .v (.string (bs q3.den)), .rv 4], .row 53 16 (ls.map Lk.enc), .box 53 (Lk.enc ⟨p1, p2, p3, p4, p5, sh⟩)]⟩) (fun sh => sh = if y5 = 2 then [v7, v8, v9] else r6) ?_ ?_
  ·refine S.cond rfl (fun hc => ?_) (fun hc => ?_)
   ·(repeat first | refine uA ?_ | (refine uK ?_ ?_; focus first | omega | trivial | (intros; simp_all <;> omega)) | simp (disch := omega) only [go_sem, Nat.reduceBEq, Nat.reduceAdd, Nat.reduceLeDiff, Int.reduceToNat, Int.reducePow, ww] | (refine uB o7 ?_ ?_; exact rfl) | (refine uB o8 ?_ ?_; exact rfl) | (refine uB o9 ?_ ?_; exact rfl))
    exact S.met [v7, v8, v9] (by simp at hc; rw [if_pos hc]) (Ent.mk _ _ (by (repeat' (first | exact Q8.nil | exact Imp.junk | exact Imp.refl rfl | exact Imp.eq (by simp [slot]; done) rfl | refine Q8.cons ?_ ?_))) (by (repeat' (first | exact K9.nil | exact RI.gone _ | exact RI.row _ _ _ _ rfl | exact RI.map _ _ _ rfl | exact RI.box _ _ _ (l8.refl rfl) | (refine RI.box _ _ _ ?_; (repeat' (first | exact l8.nil | exact Imp.refl rfl | exact Imp.frz rfl rfl rfl | exact Imp.K7 | refine l8.cons ?_ ?_))) | refine K9.cons ?_ ?_))) (c2Q hν0 (by simp)))
   ·(repeat first | refine uA ?_ | (refine uK ?_ ?_; focus first | omega | trivial | (intros; simp_all <;> omega)) | simp (disch := omega) only [go_sem, Nat.reduceBEq, Nat.reduceAdd, Nat.reduceLeDiff, Int.reduceToNat, Int.reducePow, ww])
    exact S.met r6 (by simp at hc; rw [if_neg hc]) (by (repeat first | refine uA ?_ | (refine ⟨?_, ?_⟩; focus first | rfl | trivial | (simp [slot]; done)) | rfl | trivial | simp | exact c2Q hν0 (by simp)))
  rintro sh hsh
  rw [<- hsh] at hL
  simp only [A9, ints, Lk.enc, vts]
  (repeat first | refine uA ?_ | (refine uK ?_ ?_; focus first | omega | trivial | (intros; simp_all <;> omega)) | simp (disch := omega) only [go_sem, Nat.reduceBEq, Nat.reduceAdd, Nat.reduceLeDiff, Int.reduceToNat, Int.reducePow, ww, c2N, hls])
  refine S.next (x := (i, ls, m)) (i + 1, ls ++ [⟨p1, p2, p3, p4, p5, sh⟩], m.drop 6) ⟨by simp only; omega, by simp [hls], by simp only; rw [c3x]; exact hL, by simp only; exact hM2⟩ (by simp only; omega) (by simp only [c3D, c3e, c3v]; exact (by (repeat first | refine uA ?_ | (refine ⟨?_, ?_⟩; focus first | rfl | trivial | (simp [slot]; done)) | rfl | trivial | simp | exact c2Q hν0 (by simp))))
 ·have hi' : i = c := by omega
  subst hi'
  rw [Nat.sub_self, a1j, List.append_nil] at hL
  rw [Nat.sub_self, Nat.mul_zero, List.drop_zero] at hM
  subst hL
  subst hM
  (repeat first | refine uA ?_ | (refine uK ?_ ?_; focus first | omega | trivial | (intros; simp_all <;> omega)) | simp (disch := omega) only [go_sem, Nat.reduceBEq, Nat.reduceAdd, Nat.reduceLeDiff, Int.reduceToNat, Int.reducePow, ww])
  (refine S.done ?_; simp only [p9, p8, go_sem, Nat.reduceBEq, Nat.reduceAdd, Nat.reduceLeDiff, Int.reduceToNat, Int.reducePow]; (repeat (refine ⟨?_, ?_⟩; focus first | trivial | omega | simp)); exact j3.L8 (Imp.agg (by (repeat' (first | exact l8.nil | exact Imp.refl rfl | exact Imp.frz rfl rfl rfl | exact Imp.K7 | refine l8.cons ?_ ?_)))) (by (repeat first | refine uA ?_ | (refine ⟨?_, ?_⟩; focus first | rfl | trivial | (simp [slot]; done)) | rfl | trivial | simp)) (c2Q hν0 (by simp)))
set_option maxHeartbeats 32000000
def Y1 : List C := [.v (.slice none 0 0), .v (.slice none 0 0), .v (.slice none 0 0), .v (.slice none 0 0), .v (.slice none 0 0), .v (.bool false), .v (.string ⟨#[]⟩), .v (.string ⟨#[]⟩)]
def rsM (m : List Int) (a : List Am) (w : List (List Vt)) (p : List Pt) (s : List Sl) (g : List Gt) : List Res :=
 [.box 31 Y1, .box 145 [A9 m], .box 31 [.rv 3, .rv 4, .rv 5, .rv 6, .rv 7, .v (.bool false), .v (.string ⟨#[]⟩), .v (.string ⟨#[]⟩)], .row 51 12 (a.map Am.enc), .row 34 1 (w.map fun s => [vts s]), .row 65 12 (p.map Pt.enc), .row 86 14 (s.map Sl.enc), .row 91 13 (g.map Gt.enc)]
theorem b7m (n : Nat) (h : n < 2) : ([[C.v (.string ⟨#[98, 111, 108, 116]⟩)], [C.v (.string ⟨#[110, 117, 116]⟩)]] : List (List C))[n]? = some [C.v (.string (bs (a3C n)))] := by
 match n, h with
 | 0, _ => rfl
 | 1, _ => rfl
theorem b6H (n : Nat) (h : n < 3) : ([[C.v (.string ⟨#[104, 101, 114, 101]⟩)], [C.v (.string ⟨#[116, 104, 101, 114, 101]⟩)], [C.v (.string ⟨#[98, 101, 121, 111, 110, 100]⟩)]] : List (List C))[n]? = some [C.v (.string (bs (a4E n)))] := by
 match n, h with
 | 0, _ => rfl
 | 1, _ => rfl
 | 2, _ => rfl
theorem c0F (l : List Int) : G5 Tryz.prog 23 [A9 l] (D6 l).c := by
 refine kS a7C a7y (by rfl) fun w O => ?_
 have k0 := fun (E : Ctx) (hP : E.P = Tryz.prog) => I4 hP l 2 (by decide)
 have c0 := l9 l (n := 2) (by decide)
 have d0 := D5 l (n := 2) (by decide)
 have hc1 : ((nA l : Nat) : Int) = 1 + nx l 2 := by unfold nA; omega
 have z2 := l9 (l1 l) (n := 3) (by decide)
 have z3 := l9 (l2 l) (n := 3) (by decide)
 have z4 := l9 (l3 l) (n := 2) (by decide)
 have z5 := l9 (l4 l) (n := 2) (by decide)
 have z6 := l9 (l5 l) (n := 4) (by decide)
 have y6 := D5 (l5 l) (n := 4) (by decide)
 have hc2 : ((nW l : Nat) : Int) = nx (l1 l) 3 := by unfold nW; omega
 have hc3 : ((nP l : Nat) : Int) = nx (l2 l) 3 := by unfold nP; omega
 have hc4 : ((nS l : Nat) : Int) = (nP l : Int) + nx (l3 l) 2 := by unfold nS; omega
 have hc5 : ((nG l : Nat) : Int) = nx (l4 l) 2 := by unfold nG; omega
 obtain ⟨cc1, cc2, cc3, cc4, cc5⟩ := counts l
 have q1 : l1 l = a5N (nA l) (l.drop 1) := rfl
 have q2 : l2 l = (l1 l).drop (1 + 5 * nW l) := rfl
 have q3 : l3 l = a4k (nP l) ((l2 l).drop 1) := rfl
 have q4 : l4 l = (l3 l).drop (1 + 4 * nS l) := rfl
 have q5 : l5 l = (l4 l).drop (1 + 4 * nG l) := rfl
 unfold D6
 generalize nA l = cA at *
 generalize nW l = cW at *
 generalize nP l = cP at *
 generalize nS l = cS at *
 generalize nG l = cG at *
 generalize l5 l = L5 at *
 generalize l4 l = L4 at *
 generalize l3 l = L3 at *
 generalize l2 l = L2 at *
 generalize l1 l = L1 at *
 generalize l.drop 1 = s0 at *
 generalize nx l 2 = x0 at *
 have k1 := fun (E : Ctx) (hP : E.P = Tryz.prog) => I4 hP L1 3 (by decide)
 have k2 := fun (E : Ctx) (hP : E.P = Tryz.prog) => I4 hP L2 3 (by decide)
 have k3 := fun (E : Ctx) (hP : E.P = Tryz.prog) => I4 hP L3 2 (by decide)
 have k4 := fun (E : Ctx) (hP : E.P = Tryz.prog) => I4 hP L4 2 (by decide)
 have k5 := fun (E : Ctx) (hP : E.P = Tryz.prog) => I4 hP L5 4 (by decide)
 simp only [A9, ints] at k1 k2 k3 k4 k5
 simp only [a3x, l6, TT, II, OA, OB, OC, MM, LL, VV, FF, MG, LG, VG, FG]
 simp only [A9, ints] at k0 ⊢
 (repeat first | refine uA ?_ | (refine uK ?_ ?_; focus first | omega | (intros; simp_all <;> omega)) | simp (disch := omega) only [go_sem, Nat.reduceBEq, Nat.reduceAdd, ww] | refine l7.t (j5.lift (k := 1) rfl (k0 _ rfl) rfl rfl rfl) ?_)
 rw [<- hc1]
 refine S.loop (X := Nat × List Am × List Int) (fun x => ⟨[(2, .bp 0 0), (3, .bp 1 0), (4, .bp 2 0), (17, ints cA), (18, ints x.1)], rsM x.2.2 x.2.1 [] [] [] []⟩)
  (fun x => x.1 <= cA /\ x.2.1.length = x.1 /\ x.2.1 ++ a0p (cA - x.1) x.1 x.2.2 = a0p cA 0 s0 /\ a5N (cA - x.1) x.2.2 = a5N cA s0) (fun x => cA - x.1) (0, [], s0) ⟨c2T _, rfl, rfl, rfl⟩
  (Ent.trans (Ent.a1P 2 0 51 12 rfl rfl rfl) (Ent.trans (Ent.a1P 2 1 34 1 rfl rfl rfl) (Ent.trans (Ent.a1P 2 2 65 12 rfl rfl rfl) (Ent.trans (Ent.a1P 2 3 86 14 rfl rfl rfl) (Ent.trans (Ent.a1P 2 4 91 13 rfl rfl rfl) (by simp only [rsM, A9, Y1]; exact (by (repeat first | refine uA ?_ | (refine ⟨?_, ?_⟩; focus first | rfl | simp [slot]) | rfl | simp)))))))) ?_
 rintro ⟨i, am, ma⟩ ⟨hi, hl, hL, hM⟩
 simp only [rsM, Y1, A9, ints] at hi hl hL hM ⊢
 (repeat first | refine uA ?_ | (refine uK ?_ ?_; focus first | omega | (intros; simp_all <;> omega)) | simp (disch := omega) only [go_sem, Nat.reduceBEq, Nat.reduceAdd, ww])
 (refine uJ rfl (fun hc => ?_) fun hc => ?_)
 ·have hi' : i < cA := by omega
  rw [show cA - i = (cA - (i + 1)) + 1 by omega, a0p] at hL
  rw [show cA - i = (cA - (i + 1)) + 1 by omega, a5N] at hM
  have ha := fun (E : Ctx) (hP : E.P = Tryz.prog) => c2n hP ma i (by omega)
  generalize b0f ma i = A at *
  generalize a9D ma = m' at *
  simp only [A9, Am.c, Am.enc, lks, sb] at ha
  (repeat first | refine uI ?_ | (refine uK ?_ ?_; focus first | omega | (intros; simp_all <;> omega)) | simp (disch := omega) only [go_sem, Nat.reduceBEq, Nat.reduceAdd, ww])
  refine S.G6 [.gone, .gone, .box 31 [.rv 3, .rv 4, .rv 5, .rv 6, .rv 7, .v (.bool false), .v (.string ⟨#[]⟩), .v (.string ⟨#[]⟩)]] (by simp [Eng.F3, Eng.O9]) ?_
  (repeat first | refine uA ?_ | (refine uK ?_ ?_; focus first | omega | (intros; simp_all <;> omega)) | simp (disch := omega) only [go_sem, Nat.reduceBEq, Nat.reduceAdd, ww, c2N, hl, F3] | refine l7.t (j5.lift (k := 1) rfl (ha _ rfl) rfl rfl rfl) ?_)
  refine S.next (x := (i, am, ma)) (i + 1, am ++ [A], m') ⟨by simp only; omega, by simp [hl], by simp only; rw [c3x]; exact hL, by simp only; exact hM⟩ (by simp only; omega) (by simp only [rsM, A9, Y1, c3D, c3e, c3v]; exact (by (repeat first | refine uA ?_ | (refine ⟨?_, ?_⟩; focus first | rfl | simp [slot]) | rfl | simp)))
 have hi' : i = cA := by omega
 subst hi'
 rw [Nat.sub_self, a0p, List.append_nil] at hL
 rw [Nat.sub_self, a5N] at hM
 have hm : ma = L1 := by rw [q1]; exact hM
 subst hm
 rw [<- hL]
 (repeat first | refine uA ?_ | (refine uK ?_ ?_; focus first | omega | (intros; simp_all <;> omega)) | simp (disch := omega) only [go_sem, Nat.reduceBEq, Nat.reduceAdd, ww] | refine l7.t (j5.lift (k := 1) rfl (k1 _ rfl) rfl rfl rfl) ?_)
 rw [<- hc2]
 refine S.loop (X := Nat × List (List Vt) × List Int) (fun x => ⟨[(2, .bp 0 0), (3, .bp 1 0), (4, .bp 2 0), (31, ints cW), (32, ints x.1)], rsM x.2.2 am x.2.1 [] [] []⟩)
  (fun x => x.1 <= cW /\ x.2.1.length = x.1 /\ x.2.1 ++ a1H (cW - x.1) x.2.2 = a1H cW (ma.drop 1) /\ x.2.2.drop (5 * (cW - x.1)) = (ma.drop 1).drop (5 * cW)) (fun x => cW - x.1) (0, [], ma.drop 1) ⟨c2T _, rfl, rfl, rfl⟩ (by simp only [rsM, A9, Y1]; exact (by (repeat first | refine uA ?_ | (refine ⟨?_, ?_⟩; focus first | rfl | simp [slot]) | rfl | simp))) ?_
 rintro ⟨i, ws, mw⟩ ⟨hi, hl, hL, hM⟩
 simp only [rsM, Y1, A9, ints] at hi hl hL hM ⊢
 (repeat first | refine uA ?_ | (refine uK ?_ ?_; focus first | omega | (intros; simp_all <;> omega)) | simp (disch := omega) only [go_sem, Nat.reduceBEq, Nat.reduceAdd, ww])
 (refine uJ rfl (fun hc => ?_) fun hc => ?_)
 ·have hi' : i < cW := by omega
  rw [show cW - i = (cW - (i + 1)) + 1 by omega, a1H] at hL
  have hM2 : (mw.drop 5).drop (5 * (cW - (i + 1))) = (ma.drop 1).drop (5 * cW) := by rw [<- hM, List.drop_drop]; congr 1; omega
  have n0 := fun (E : Ctx) (hP : E.P = Tryz.prog) => I4 hP mw 80 (by decide)
  have a0 := l9 mw (n := 80) (by decide)
  have b0 := D5 mw (n := 80) (by decide)
  have n1 := fun (E : Ctx) (hP : E.P = Tryz.prog) => I4 hP (mw.drop 1) 30 (by decide)
  have a1 := l9 (mw.drop 1) (n := 30) (by decide)
  have b1 := D5 (mw.drop 1) (n := 30) (by decide)
  have n2 := fun (E : Ctx) (hP : E.P = Tryz.prog) => I4 hP (mw.drop 2) 2 (by decide)
  have a2 := l9 (mw.drop 2) (n := 2) (by decide)
  have b2 := D5 (mw.drop 2) (n := 2) (by decide)
  have n3 := fun (E : Ctx) (hP : E.P = Tryz.prog) => I4 hP (mw.drop 3) 20 (by decide)
  have a3 := l9 (mw.drop 3) (n := 20) (by decide)
  have b3 := D5 (mw.drop 3) (n := 20) (by decide)
  have n4 := fun (E : Ctx) (hP : E.P = Tryz.prog) => I4 hP (mw.drop 4) 5 (by decide)
  have a4 := l9 (mw.drop 4) (n := 5) (by decide)
  have b4 := D5 (mw.drop 4) (n := 5) (by decide)
  simp only [List.drop_drop, A9, ints] at n0 n1 n2 n3 n4
  have hwy : -1000 <= a0Y mw /\ a0Y mw <= 1000 := by unfold a0Y; split <;> omega
  have o1 := b6v (nx mw 80 - 30) (a0Y mw) (nx mw 80 - 30 + 1 + nx (mw.drop 3) 20) (a0Y mw + 1 + nx (mw.drop 4) 5) (by omega) (by omega) (by omega) (by omega)
  unfold b1L at hL
  generalize a4N (nx mw 80 - 30) (a0Y mw) (nx mw 80 - 30 + 1 + nx (mw.drop 3) 20) (a0Y mw + 1 + nx (mw.drop 4) 5) = R at *
  have hwe : a0Y mw = if nx (mw.drop 2) 2 = 1 then -(12 + nx (mw.drop 1) 30) - 6 else 12 + nx (mw.drop 1) 30 := rfl
  generalize a0Y mw = Y at *
  generalize nx mw 80 = x1 at *
  generalize nx (mw.drop 1) 30 = x2 at *
  generalize nx (mw.drop 2) 2 = x3 at *
  generalize nx (mw.drop 3) 20 = x4 at *
  generalize nx (mw.drop 4) 5 = x5 at *
  simp only [ints, vts] at o1
  (repeat first | refine uA ?_ | (refine uK ?_ ?_; focus first | omega | (intros; simp_all <;> omega)) | simp (disch := omega) only [go_sem, Nat.reduceBEq, Nat.reduceAdd, ww] | refine l7.t (j5.lift (k := 1) rfl (n0 _ rfl) rfl rfl rfl) ?_ | refine l7.t (j5.lift (k := 1) rfl (n1 _ rfl) rfl rfl rfl) ?_ | refine l7.t (j5.lift (k := 1) rfl (n2 _ rfl) rfl rfl rfl) ?_)
  refine S.join (Y := Int) (fun y => ⟨[(2, .bp 0 0), (3, .bp 1 0), (4, .bp 2 0), (6, ints (x1 - 30)), (7, ints y), (31, ints cW), (32, ints i)], rsM (mw.drop 3) am ws [] [] []⟩) (fun y => y = Y) ?_ ?_
  ·refine S.cond rfl (fun hc => ?_) (fun hc => ?_)
   ·have hn2 : IntKind.i64.wrap (0 - (12 + x2)) = -(12 + x2) := by rw [Eng.wrap_i64 (by omega)]; omega
    (repeat first | refine uA ?_ | (refine uK ?_ ?_; focus first | omega | (intros; simp_all <;> omega)) | simp (disch := omega) only [go_sem, Nat.reduceBEq, Nat.reduceAdd, ww, hn2])
    exact S.met (-(12 + x2) - 6) (by simp at hc; rw [hwe, if_pos hc]) (by simp only [rsM, A9, Y1]; exact (by (repeat first | refine uA ?_ | (refine ⟨?_, ?_⟩; focus first | rfl | simp [slot]) | rfl | simp)))
   ·(repeat first | refine uA ?_ | (refine uK ?_ ?_; focus first | omega | (intros; simp_all <;> omega)) | simp (disch := omega) only [go_sem, Nat.reduceBEq, Nat.reduceAdd, ww])
    exact S.met (12 + x2) (by simp at hc; rw [hwe, if_neg hc]) (by simp only [rsM, A9, Y1]; exact (by (repeat first | refine uA ?_ | (refine ⟨?_, ?_⟩; focus first | rfl | simp [slot]) | rfl | simp)))
  rintro y rfl
  simp only [rsM, Y1, A9, ints]
  (repeat first | refine uI ?_ | (refine uK ?_ ?_; focus first | omega | (intros; simp_all <;> omega)) | simp (disch := omega) only [go_sem, Nat.reduceBEq, Nat.reduceAdd, ww])
  refine S.G6 [.gone, .gone, .box 31 [.rv 3, .rv 4, .rv 5, .rv 6, .rv 7, .v (.bool false), .v (.string ⟨#[]⟩), .v (.string ⟨#[]⟩)]] (by simp [Eng.F3, Eng.O9]) ?_
  (repeat first | refine uA ?_ | (refine uK ?_ ?_; focus first | omega | (intros; simp_all <;> omega)) | simp (disch := omega) only [go_sem, Nat.reduceBEq, Nat.reduceAdd, ww, c2N, hl, F3] | refine l7.t (j5.lift (k := 1) rfl (n3 _ rfl) rfl rfl rfl) ?_ | refine l7.t (j5.lift (k := 1) rfl (n4 _ rfl) rfl rfl rfl) ?_ | (refine uB o1 ?_ ?_; exact rfl))
  refine S.next (x := (i, ws, mw)) (i + 1, ws ++ [R], mw.drop 5) ⟨by simp only; omega, by simp [hl], by simp only; rw [c3x]; exact hL, by simp only; exact hM2⟩ (by simp only; omega) (by simp only [rsM, A9, Y1, c3D, c3e, c3v]; exact (by (repeat first | refine uA ?_ | (refine ⟨?_, ?_⟩; focus first | rfl | simp [slot]) | rfl | simp)))
 have hi' : i = cW := by omega
 subst hi'
 rw [Nat.sub_self, a1H, List.append_nil] at hL
 rw [Nat.sub_self, Nat.mul_zero, List.drop_zero, List.drop_drop] at hM
 have hm : mw = L2 := by rw [q2]; exact hM
 subst hm
 rw [<- hL]
 (repeat first | refine uA ?_ | (refine uK ?_ ?_; focus first | omega | (intros; simp_all <;> omega)) | simp (disch := omega) only [go_sem, Nat.reduceBEq, Nat.reduceAdd, ww] | refine l7.t (j5.lift (k := 1) rfl (k2 _ rfl) rfl rfl rfl) ?_)
 rw [<- hc3]
 refine S.loop (X := Nat × List Pt × List Int) (fun x => ⟨[(2, .bp 0 0), (3, .bp 1 0), (4, .bp 2 0), (66, ints cP), (67, ints x.1)], rsM x.2.2 am ws x.2.1 [] []⟩)
  (fun x => x.1 <= cP /\ x.2.1.length = x.1 /\ x.2.1 ++ a0t (cP - x.1) x.1 x.2.2 = a0t cP 0 (mw.drop 1) /\ a4k (cP - x.1) x.2.2 = a4k cP (mw.drop 1)) (fun x => cP - x.1) (0, [], mw.drop 1) ⟨c2T _, rfl, rfl, rfl⟩ (by simp only [rsM, A9, Y1]; exact (by (repeat first | refine uA ?_ | (refine ⟨?_, ?_⟩; focus first | rfl | simp [slot]) | rfl | simp))) ?_
 rintro ⟨i, ps, mp⟩ ⟨hi, hl, hL, hM⟩
 simp only [rsM, Y1, A9, ints] at hi hl hL hM ⊢
 (repeat first | refine uA ?_ | (refine uK ?_ ?_; focus first | omega | (intros; simp_all <;> omega)) | simp (disch := omega) only [go_sem, Nat.reduceBEq, Nat.reduceAdd, ww])
 (refine uJ rfl (fun hc => ?_) fun hc => ?_)
 ·have hi' : i < cP := by omega
  rw [show cP - i = (cP - (i + 1)) + 1 by omega, a0t] at hL
  rw [show cP - i = (cP - (i + 1)) + 1 by omega, a4k] at hM
  have hp := fun (E : Ctx) (hP : E.P = Tryz.prog) => c0Y hP mp
  have hnm := b7m i (by omega)
  have o1 := U4 0 0 (by decide) (by decide)
  have o2 := a1A 0 1 (by decide) (by decide)
  unfold b9A at hL
  unfold atV at o1
  generalize (a1u mp).1 = sh at *
  generalize (a1u mp).2 = m' at *
  generalize Q 0 4 = qa at *
  generalize Q 0 1 = qb at *
  generalize a3C i = nm at *
  simp only [A9, vts, Vt.c, Vt.enc, rc, sb, ints] at hp o1 o2
  (repeat first | refine uI ?_ | (refine uK ?_ ?_; focus first | omega | (intros; simp_all <;> omega)) | simp (disch := omega) only [go_sem, Nat.reduceBEq, Nat.reduceAdd, ww])
  refine S.G6 [.gone, .gone, .box 31 [.rv 3, .rv 4, .rv 5, .rv 6, .rv 7, .v (.bool false), .v (.string ⟨#[]⟩), .v (.string ⟨#[]⟩)]] (by simp [Eng.F3, Eng.O9]) ?_
  (repeat first | refine uA ?_ | (refine uK ?_ ?_; focus first | omega | (intros; simp_all <;> omega)) | simp (disch := omega) only [go_sem, Nat.reduceBEq, Nat.reduceAdd, ww, c2N, hl, F3, hnm, c2X] | refine l7.t (j5.lift (k := 1) rfl (hp _ rfl) rfl rfl rfl) ?_ | (refine uB o1 ?_ ?_; exact rfl) | (refine uB o2 ?_ ?_; exact rfl))
  refine S.next (x := (i, ps, mp)) (i + 1, ps ++ [⟨nm, sh, ⟨qa, qa, false, qb⟩⟩], m') ⟨by simp only; omega, by simp [hl], by simp only; rw [c3x]; exact hL, by simp only; exact hM⟩ (by simp only; omega) (by simp only [rsM, A9, Y1, c3D, c3e, c3v]; exact (by (repeat first | refine uA ?_ | (refine ⟨?_, ?_⟩; focus first | rfl | simp [slot]) | rfl | simp)))
 have hi' : i = cP := by omega
 subst hi'
 rw [Nat.sub_self, a0t, List.append_nil] at hL
 rw [Nat.sub_self, a4k] at hM
 have hm : mp = L3 := by rw [q3]; exact hM
 subst hm
 rw [<- hL]
 (repeat first | refine uI ?_ | (refine uK ?_ ?_; focus first | omega | (intros; simp_all <;> omega)) | simp (disch := omega) only [go_sem, Nat.reduceBEq, Nat.reduceAdd, ww])
 refine S.G6 [.gone, .gone, .box 31 [.rv 3, .rv 4, .rv 5, .rv 6, .rv 7, .v (.bool false), .v (.string ⟨#[]⟩), .v (.string ⟨#[]⟩)], .gone, .gone, .row 65 12 (ps.map Pt.enc)] (by simp [Eng.F3, Eng.O9]) ?_
 (repeat first | refine uA ?_ | (refine uK ?_ ?_; focus first | omega | (intros; simp_all <;> omega)) | simp (disch := omega) only [go_sem, Nat.reduceBEq, Nat.reduceAdd, ww, c2N, hl, F3] | refine l7.t (j5.lift (k := 1) rfl (k3 _ rfl) rfl rfl rfl) ?_)
 rw [<- hc4]
 refine S.loop (X := Nat × List Sl × List Int) (fun x => ⟨[(2, .bp 0 0), (3, .bp 1 0), (4, .bp 2 0), (92, ints cS), (93, ints x.1)], rsM x.2.2 am ws ps x.2.1 []⟩)
  (fun x => x.1 <= cS /\ x.2.1.length = x.1 /\ x.2.1 ++ a0z (cS - x.1) x.1 x.2.2 = a0z cS 0 (mp.drop 1) /\ x.2.2.drop (4 * (cS - x.1)) = (mp.drop 1).drop (4 * cS)) (fun x => cS - x.1) (0, [], mp.drop 1) ⟨c2T _, rfl, rfl, rfl⟩ (by simp only [rsM, A9, Y1]; exact (by (repeat first | refine uA ?_ | (refine ⟨?_, ?_⟩; focus first | rfl | simp [slot]) | rfl | simp))) ?_
 rintro ⟨i, ss, ms⟩ ⟨hi, hl, hL, hM⟩
 simp only [rsM, Y1, A9, ints] at hi hl hL hM ⊢
 (repeat first | refine uA ?_ | (refine uK ?_ ?_; focus first | omega | (intros; simp_all <;> omega)) | simp (disch := omega) only [go_sem, Nat.reduceBEq, Nat.reduceAdd, ww])
 (refine uJ rfl (fun hc => ?_) fun hc => ?_)
 ·have hi' : i < cS := by omega
  rw [show cS - i = (cS - (i + 1)) + 1 by omega, a0z] at hL
  have hM2 : (ms.drop 4).drop (4 * (cS - (i + 1))) = (mp.drop 1).drop (4 * cS) := by rw [<- hM, List.drop_drop]; congr 1; omega
  have n0 := fun (E : Ctx) (hP : E.P = Tryz.prog) => I4 hP ms 40 (by decide)
  have a0 := l9 ms (n := 40) (by decide)
  have b0 := D5 ms (n := 40) (by decide)
  have n1 := fun (E : Ctx) (hP : E.P = Tryz.prog) => I4 hP (ms.drop 1) 24 (by decide)
  have a1 := l9 (ms.drop 1) (n := 24) (by decide)
  have b1 := D5 (ms.drop 1) (n := 24) (by decide)
  have n2 := fun (E : Ctx) (hP : E.P = Tryz.prog) => I4 hP (ms.drop 2) 5 (by decide)
  have a2 := l9 (ms.drop 2) (n := 5) (by decide)
  have b2 := D5 (ms.drop 2) (n := 5) (by decide)
  have n3 := fun (E : Ctx) (hP : E.P = Tryz.prog) => I4 hP (ms.drop 3) 20 (by decide)
  have a3 := l9 (ms.drop 3) (n := 20) (by decide)
  have b3 := D5 (ms.drop 3) (n := 20) (by decide)
  simp only [List.drop_drop, A9, ints] at n0 n1 n2 n3
  have hnm := b6H i (by omega)
  have o1 := U4 (nx ms 40 - 20) (nx (ms.drop 1) 24 - 12) (by omega) (by omega)
  have o2 := a1A (nx (ms.drop 2) 5 - 2) 2 (by omega) (by decide)
  have o3 := a1A 1 (8 + nx (ms.drop 3) 20) (by decide) (by omega)
  unfold b5h at hL
  unfold atV at o1
  generalize Q (nx ms 40 - 20) 4 = qa at *
  generalize Q (nx (ms.drop 1) 24 - 12) 4 = qb at *
  generalize Q (nx (ms.drop 2) 5 - 2) 2 = qc at *
  generalize Q 1 (8 + nx (ms.drop 3) 20) = qd at *
  generalize a4E i = nm at *
  generalize nx ms 40 = x1 at *
  generalize nx (ms.drop 1) 24 = x2 at *
  generalize nx (ms.drop 2) 5 = x3 at *
  generalize nx (ms.drop 3) 20 = x4 at *
  simp only [Vt.c, Vt.enc, rc, sb, ints] at o1 o2 o3
  (repeat first | refine uI ?_ | (refine uK ?_ ?_; focus first | omega | (intros; simp_all <;> omega)) | simp (disch := omega) only [go_sem, Nat.reduceBEq, Nat.reduceAdd, ww])
  refine S.G6 [.gone, .gone, .box 31 [.rv 3, .rv 4, .rv 5, .rv 6, .rv 7, .v (.bool false), .v (.string ⟨#[]⟩), .v (.string ⟨#[]⟩)]] (by simp [Eng.F3, Eng.O9]) ?_
  (repeat first | refine uA ?_ | (refine uK ?_ ?_; focus first | omega | (intros; simp_all <;> omega)) | simp (disch := omega) only [go_sem, Nat.reduceBEq, Nat.reduceAdd, ww, c2N, hl, F3, hnm, c2X] | refine l7.t (j5.lift (k := 1) rfl (n0 _ rfl) rfl rfl rfl) ?_ | refine l7.t (j5.lift (k := 1) rfl (n1 _ rfl) rfl rfl rfl) ?_ | refine l7.t (j5.lift (k := 1) rfl (n2 _ rfl) rfl rfl rfl) ?_ | refine l7.t (j5.lift (k := 1) rfl (n3 _ rfl) rfl rfl rfl) ?_ | (refine uB o1 ?_ ?_; exact rfl) | (refine uB o2 ?_ ?_; exact rfl) | (refine uB o3 ?_ ?_; exact rfl))
  refine S.next (x := (i, ss, ms)) (i + 1, ss ++ [⟨nm, ⟨qa, qb, false, qc⟩, qd⟩], ms.drop 4) ⟨by simp only; omega, by simp [hl], by simp only; rw [c3x]; exact hL, by simp only; exact hM2⟩ (by simp only; omega) (by simp only [rsM, A9, Y1, c3D, c3e, c3v]; exact (by (repeat first | refine uA ?_ | (refine ⟨?_, ?_⟩; focus first | rfl | simp [slot]) | rfl | simp)))
 have hi' : i = cS := by omega
 subst hi'
 rw [Nat.sub_self, a0z, List.append_nil] at hL
 rw [Nat.sub_self, Nat.mul_zero, List.drop_zero, List.drop_drop] at hM
 have hm : ms = L4 := by rw [q4]; exact hM
 subst hm
 rw [<- hL]
 (repeat first | refine uA ?_ | (refine uK ?_ ?_; focus first | omega | (intros; simp_all <;> omega)) | simp (disch := omega) only [go_sem, Nat.reduceBEq, Nat.reduceAdd, ww] | refine l7.t (j5.lift (k := 1) rfl (k4 _ rfl) rfl rfl rfl) ?_)
 rw [<- hc5]
 refine S.loop (X := Nat × List Gt × List Int) (fun x => ⟨[(2, .bp 0 0), (3, .bp 1 0), (4, .bp 2 0), (125, ints cG), (126, ints x.1)], rsM x.2.2 am ws ps ss x.2.1⟩)
  (fun x => x.1 <= cG /\ x.2.1.length = x.1 /\ x.2.1 ++ a0A (cG - x.1) x.2.2 = a0A cG (ms.drop 1) /\ x.2.2.drop (4 * (cG - x.1)) = (ms.drop 1).drop (4 * cG)) (fun x => cG - x.1) (0, [], ms.drop 1) ⟨c2T _, rfl, rfl, rfl⟩ (by simp only [rsM, A9, Y1]; exact (by (repeat first | refine uA ?_ | (refine ⟨?_, ?_⟩; focus first | rfl | simp [slot]) | rfl | simp))) ?_
 rintro ⟨i, gs, mg⟩ ⟨hi, hl, hL, hM⟩
 simp only [rsM, Y1, A9, ints] at hi hl hL hM ⊢
 (repeat first | refine uA ?_ | (refine uK ?_ ?_; focus first | omega | (intros; simp_all <;> omega)) | simp (disch := omega) only [go_sem, Nat.reduceBEq, Nat.reduceAdd, ww])
 (refine uJ rfl (fun hc => ?_) fun hc => ?_)
 ·have hi' : i < cG := by omega
  rw [show cG - i = (cG - (i + 1)) + 1 by omega, a0A] at hL
  have hM2 : (mg.drop 4).drop (4 * (cG - (i + 1))) = (ms.drop 1).drop (4 * cG) := by rw [<- hM, List.drop_drop]; congr 1; omega
  have n0 := fun (E : Ctx) (hP : E.P = Tryz.prog) => I4 hP mg 60 (by decide)
  have a0 := l9 mg (n := 60) (by decide)
  have b0 := D5 mg (n := 60) (by decide)
  have n1 := fun (E : Ctx) (hP : E.P = Tryz.prog) => I4 hP (mg.drop 1) 60 (by decide)
  have a1 := l9 (mg.drop 1) (n := 60) (by decide)
  have b1 := D5 (mg.drop 1) (n := 60) (by decide)
  have n2 := fun (E : Ctx) (hP : E.P = Tryz.prog) => I4 hP (mg.drop 2) 12 (by decide)
  have a2 := l9 (mg.drop 2) (n := 12) (by decide)
  have b2 := D5 (mg.drop 2) (n := 12) (by decide)
  have n3 := fun (E : Ctx) (hP : E.P = Tryz.prog) => I4 hP (mg.drop 3) 12 (by decide)
  have a3 := l9 (mg.drop 3) (n := 12) (by decide)
  have b3 := D5 (mg.drop 3) (n := 12) (by decide)
  simp only [List.drop_drop, A9, ints] at n0 n1 n2 n3
  have o1 := U4 (nx mg 60 - 30) (nx (mg.drop 1) 60 - 30) (by omega) (by omega)
  have o2 := U4 (nx mg 60 - 30 + nx (mg.drop 2) 12) (nx (mg.drop 1) 60 - 30 + nx (mg.drop 3) 12) (by omega) (by omega)
  unfold b5x at hL
  generalize atV (nx mg 60 - 30) (nx (mg.drop 1) 60 - 30) = va at *
  generalize atV (nx mg 60 - 30 + nx (mg.drop 2) 12) (nx (mg.drop 1) 60 - 30 + nx (mg.drop 3) 12) = vb at *
  generalize nx mg 60 = x1 at *
  generalize nx (mg.drop 1) 60 = x2 at *
  generalize nx (mg.drop 2) 12 = x3 at *
  generalize nx (mg.drop 3) 12 = x4 at *
  simp only [Vt.c, Vt.enc, rc, sb, ints] at o1 o2
  (repeat first | refine uI ?_ | (refine uK ?_ ?_; focus first | omega | (intros; simp_all <;> omega)) | simp (disch := omega) only [go_sem, Nat.reduceBEq, Nat.reduceAdd, ww] | refine l7.t (j5.lift (k := 1) rfl (n0 _ rfl) rfl rfl rfl) ?_ | refine l7.t (j5.lift (k := 1) rfl (n1 _ rfl) rfl rfl rfl) ?_)
  refine S.G6 [.gone, .gone, .box 31 [.rv 3, .rv 4, .rv 5, .rv 6, .rv 7, .v (.bool false), .v (.string ⟨#[]⟩), .v (.string ⟨#[]⟩)]] (by simp [Eng.F3, Eng.O9]) ?_
  (repeat first | refine uA ?_ | (refine uK ?_ ?_; focus first | omega | (intros; simp_all <;> omega)) | simp (disch := omega) only [go_sem, Nat.reduceBEq, Nat.reduceAdd, ww, c2N, hl, F3] | refine l7.t (j5.lift (k := 1) rfl (n2 _ rfl) rfl rfl rfl) ?_ | refine l7.t (j5.lift (k := 1) rfl (n3 _ rfl) rfl rfl rfl) ?_ | (refine uB o1 ?_ ?_; exact rfl) | (refine uB o2 ?_ ?_; exact rfl))
  refine S.next (x := (i, gs, mg)) (i + 1, gs ++ [⟨[100, 111, 111, 114], va, vb⟩], mg.drop 4) ⟨by simp only; omega, by simp [hl], by simp only; rw [c3x]; exact hL, by simp only; exact hM2⟩ (by simp only; omega) (by simp only [rsM, A9, Y1, c3D, c3e, c3v]; exact (by (repeat first | refine uA ?_ | (refine ⟨?_, ?_⟩; focus first | rfl | simp [slot]) | rfl | simp)))
 have hi' : i = cG := by omega
 subst hi'
 rw [Nat.sub_self, a0A, List.append_nil] at hL
 rw [Nat.sub_self, Nat.mul_zero, List.drop_zero, List.drop_drop] at hM
 have hm : mg = L5 := by rw [q5]; exact hM
 subst hm
 rw [<- hL]
 have o1 := a1A (nx mg 4) 8 (by omega) (by decide)
 generalize Q (nx mg 4) 8 = qw at *
 generalize nx mg 4 = x6 at *
 simp only [Wk.c, Wk.enc, ams, wls, pts, sls, gts, rc, sb, ints] at o1 ⊢
 (repeat first | refine uA ?_ | (refine uK ?_ ?_; focus first | omega | (intros; simp_all <;> omega)) | simp (disch := omega) only [go_sem, Nat.reduceBEq, Nat.reduceAdd, ww] | refine l7.t (j5.lift (k := 1) rfl (k5 _ rfl) rfl rfl rfl) ?_ | (refine uB o1 ?_ ?_; exact rfl))
 (refine S.done ?_; simp only [p9, p8, go_sem, Nat.reduceBEq, Nat.reduceAdd, Nat.reduceLeDiff, Int.reduceToNat, Int.reducePow]; (repeat (refine ⟨?_, ?_⟩; focus first | trivial | omega | simp)); exact j3.out rfl (Imp.agg (by (repeat' (first | exact l8.nil | exact Imp.refl rfl | exact Imp.frz rfl rfl rfl | exact Imp.K7 | refine l8.cons ?_ ?_)))) rfl)
def b5D : Wk := ⟨[], [], [], [], [], ⟨false, [], []⟩⟩
theorem a6y {w : World} {O : Nat -> Prop} {sz : Nat} : Fz w O (.sl sz []) (.slice none 0 0) := by
 simp only [Fz]
 exact ⟨none, 0, rfl, c2V _, c2T _, fun h => absurd h (by simp)⟩
theorem b8a : FZ 8 [.agg [.v (.slice none 0 0), .v (.slice none 0 0), .v (.slice none 0 0), .v (.slice none 0 0), .v (.slice none 0 0), .v (.bool false), .v (.string ⟨#[]⟩), .v (.string ⟨#[]⟩)]] (ints 4) := by
 have h := a8z b5D ⟨⟨c2T _, fun x hx => (by cases hx)⟩, ⟨c2T _, fun x hx => (by cases hx)⟩, ⟨c2T _, fun x hx => (by cases hx)⟩, ⟨c2T _, fun x hx => (by cases hx)⟩, ⟨c2T _, fun x hx => (by cases hx)⟩, ⟨c2T _, c2T _⟩⟩
 have he : X7 b5D = 4 := rfl
 rw [he] at h
 intro O w vs hw hO hA
 refine h O w vs hw hO ?_
 simp only [FzL, Fz] at hA
 obtain ⟨y, ys, rfl, ⟨us, ⟨y1, r1, rfl, rfl, y2, r2, rfl, rfl, y3, r3, rfl, rfl, y4, r4, rfl, rfl, y5, r5, rfl, rfl, y6, r6, rfl, rfl, y7, r7, rfl, rfl, y8, r8, rfl, rfl, rfl⟩, rfl⟩, rfl⟩ := hA
 refine ⟨_, _, rfl, ?_, rfl⟩
 simp only [Wk.c, Wk.enc, b5D, Fz]
 exact ⟨_, ⟨_, _, rfl, a6y, _, _, rfl, a6y, _, _, rfl, a6y, _, _, rfl, a6y, _, _, rfl, a6y, _, _, rfl, by simp only [Fz], _, _, rfl, by simp only [sb, Fz]; rfl, _, _, rfl, by simp only [sb, Fz]; rfl, rfl⟩, rfl⟩
set_option maxHeartbeats 16000000
theorem c0p {E : Ctx} (hP : E.P = Tryz.prog) (ht0 : Tz E) (l : List Int) :
  j5 E [] 6 [A9 l] (.tup [(D6 l).c, .agg [ints 0, .rv 6, .rv 7, .v (.slice none 0 0), .rv 8], .v (.bool true)]) [.gone, .gone, .gone, .gone, .gone, .gone, .row 61 4 ((D9 (D6 l)).arms.map Ast.enc), .row 48 10 ((D9 (D6 l)).parts.map Fr.enc), .row 4 1 ((D9 (D6 l)).gates.map fun b => [.v (.bool b)]), .gone] [] := by
 obtain ⟨P, eff', N, w0, own0, av0, nu0, pk0⟩ := E
 simp only at hP
 subst hP
 refine j5.ofT (eff := eff) ht0 Tryz.func6 (by cbv) (by exact c3c rfl) fun w' own av ν hν ht => ?_
 have hν0 : ν.length <= 0 := by rw [hν]; exact c2V _
 have hk := a8l l
 obtain ⟨ha, hs⟩ := a4X l
 have hb := b6U l
 have h1 := c0F l
 have h2 := fun (E : Ctx) (hP : E.P = Tryz.prog) (ht : Tz E) => c0G hP ht (D6 l) hb hk
 have h3 := b2K (D6 l) (D9 (D6 l)) hb (b6q hb ha hs)
 rw [a5y hk ha hs] at h3
 have h4 := b8a
 have e1 : (D9 (D6 l)).arms.length = (D6 l).arms.length := by simp [D9]
 have e2 : (D9 (D6 l)).parts.length = (D6 l).parts.length := by simp [D9]
 have e3 : (D9 (D6 l)).people = [] := rfl
 have e4 : (D9 (D6 l)).tick = 0 := rfl
 generalize D9 (D6 l) = s at *
 generalize D6 l = w at *
 obtain ⟨arms, walls, parts, slots, gates, walk⟩ := w
 obtain ⟨tick, sarms, sparts, people, sgates⟩ := s
 simp only at e1 e2 e3 e4
 subst e3 e4
 have d1 : decide ((sarms.length : Int) = (arms.length : Int)) = true := decide_eq_true (by omega)
 have d2 : decide ((sparts.length : Int) = (parts.length : Int)) = true := decide_eq_true (by omega)
 simp only [l6]
 simp only [Wk.c, Wk.enc, Stt.c, Stt.enc, ams, wls, pts, sls, gts, R5, frs, vts, bls, rc, sb, ints, A9, c3v] at h1 h2 h3 h4 ⊢
 (repeat first | refine uI ?_ | (refine uK ?_ ?_; focus first | omega | (intros; simp_all <;> omega)) | simp (disch := omega) only [go_sem, Nat.reduceBEq, Nat.reduceAdd, ww, C.sh, C.shL, c3g, List.length_nil, c2N] | refine l7.t (j5.pre (h2 _ rfl ht) rfl rfl rfl) ?_ | (refine uB h1 ?_ ?_; exact rfl))
 refine S.G6 [.gone, .gone, .gone, .gone, .gone, .gone, .gone, .gone, .gone, .box 37 [.v (.int .i64 0), .rv 6, .rv 7, .v (.slice none 0 0), .rv 8]] (by simp [Eng.F3, Eng.O9]) ?_
 (repeat first | refine uA ?_ | (refine uK ?_ ?_; focus first | omega | (intros; simp_all <;> omega)) | simp (disch := omega) only [go_sem, Nat.reduceBEq, Nat.reduceAdd, ww, F3, c2N, e1, e2, d1, d2, decide_true, Bool.and_self] | (refine uD h4 ?_ ?_ ?_; exact ht; exact rfl) | (refine uE h3 ?_ ?_ ?_ ?_; exact ht; exact rfl; focus (repeat' first | exact l8.nil | exact Imp.refl rfl | exact Imp.K7 | exact Imp.fbx rfl rfl (l8.refl rfl) rfl rfl | refine Imp.clo ?_ | exact Imp.frz rfl rfl rfl | (refine Imp.a0s rfl rfl ?_ ?_; (focus ((try simp only [c3a, F3, c2N, e1, e2, d1, d2, decide_true, Bool.and_self]); omega)); (focus first | rfl | assumption)) | refine Imp.agg ?_ | refine l8.cons ?_ ?_); done))
 (refine S.done ?_; simp only [p9, p8, go_sem, Nat.reduceBEq, Nat.reduceAdd, Nat.reduceLeDiff, Int.reduceToNat, Int.reducePow]; (repeat (refine ⟨?_, ?_⟩; focus first | trivial | omega | simp)); exact j3.L8 (Imp.tup (by (repeat' (first | exact l8.nil | exact Imp.refl rfl | exact Imp.frz rfl rfl rfl | exact Imp.K7 | refine Imp.agg ?_ | refine l8.cons ?_ ?_)))) (by (repeat first | refine uA ?_ | (refine ⟨?_, ?_⟩; focus first | rfl | simp [slot]) | rfl | simp)) (c2Q hν0 (by simp)))
open Go Eng
theorem a9f {n : Int} (h : -9223372036854775808 <= n /\ n <= 9223372036854775807) : IntKind.i64.wrap n = n := by
 rw [show IntKind.i64.wrap n = if n % 18446744073709551616 >= 9223372036854775808 then n % 18446744073709551616 - 18446744073709551616 else n % 18446744073709551616 by simp [IntKind.wrap, IntKind.signed, IntKind.bits]]
 split <;> omega
theorem a8J (a : Nm.Rt) (h : j4 a = true) : G5 Tryz.prog 138 [rc a] (.tup [ints (nuI a), ints (deI a)]) := by
 refine kS Tryz.func138 (by cbv) (by rfl) fun w O => ?_
 have hI := a9I h
 have hn : a.num.length <= 3 := (X0 h).1
 have hd : a.den.length <= 3 := (X0 h).2
 unfold nuI deI Nm.sgn at *
 obtain ⟨neg, num, den⟩ := a
 simp only at hI hn hd ⊢
 simp only [l6]
 simp only [rc, sb, ints]
 (repeat first | refine uA ?_ | (refine uK ?_ ?_; focus first | omega | (intros; simp_all <;> omega)) | simp (disch := omega) only [go_sem, Nat.reduceBEq, Nat.reduceAdd, ww, E5])
 refine S.loop (X := Nat) (fun i => ⟨[(1, .bp 0 0), (4, ints (Nm.val (num.take i))), (5, ints 0), (12, .sl 1 (num.map F5)), (13, ints num.length), (14, ints i)], [.box 29 [.v (.bool neg), sb num, sb den]]⟩) (fun i => i <= num.length) (fun i => num.length - i) 0 (c2T _) (by (repeat first | refine uA ?_ | (refine ⟨?_, ?_⟩; focus first | rfl | simp [slot]) | rfl | simp)) ?_
 intro i hi
 simp only [sb, ints] at hi ⊢
 have hb := b2X hn i
 (repeat first | refine uA ?_ | (refine uK ?_ ?_; focus first | omega | (intros; simp_all <;> omega)) | simp (disch := omega) only [go_sem, Nat.reduceBEq, Nat.reduceAdd, ww])
 (refine uJ rfl (fun hc => ?_) fun hc => ?_)
 ·have hi' : i < num.length := by omega
  have hgi := c2M hi'
  have hap : num.take (i + 1) = num.take i ++ [num[i]] := c3E hi'
  have hv := a4a (num.take i) num[i]
  rw [<- hap] at hv
  generalize num[i] = c at hgi hv
  have hc8 := UInt8.toNat_lt c
  have w1 : IntKind.i64.wrap (c.toNat : Int) = (c.toNat : Int) := a9f (by omega)
  have w2 : IntKind.i64.wrap (256 * (Nm.val (num.take i) : Int) + (c.toNat : Int)) = 256 * (Nm.val (num.take i) : Int) + (c.toNat : Int) := a9f (by omega)
  (repeat first | refine uA ?_ | (refine uK ?_ ?_; focus first | omega | (intros; simp_all <;> omega)) | simp (disch := omega) only [go_sem, Nat.reduceBEq, Nat.reduceAdd, ww, hgi, c2O, c2N, F5, c2X, w1, w2])
  refine S.next (i + 1) (by omega) (by omega) (by rw [hv]; exact (by (repeat first | refine uA ?_ | (refine ⟨?_, ?_⟩; focus first | rfl | simp [slot]) | rfl | simp)))
 have hi' : i = num.length := by omega
 subst hi'
 rw [c3j]
 (repeat first | refine uA ?_ | (refine uK ?_ ?_; focus first | omega | (intros; simp_all <;> omega)) | simp (disch := omega) only [go_sem, Nat.reduceBEq, Nat.reduceAdd, ww, E5])
 refine S.loop (X := Nat) (fun i => ⟨[(1, .bp 0 0), (4, ints (Nm.val num)), (5, ints (Nm.val (den.take i))), (26, .sl 1 (den.map F5)), (27, ints den.length), (28, ints i)], [.box 29 [.v (.bool neg), sb num, sb den]]⟩) (fun i => i <= den.length) (fun i => den.length - i) 0 (c2T _) (by (repeat first | refine uA ?_ | (refine ⟨?_, ?_⟩; focus first | rfl | simp [slot]) | rfl | simp)) ?_
 intro i hi
 simp only [sb, ints] at hi ⊢
 have hb := b2X hd i
 (repeat first | refine uA ?_ | (refine uK ?_ ?_; focus first | omega | (intros; simp_all <;> omega)) | simp (disch := omega) only [go_sem, Nat.reduceBEq, Nat.reduceAdd, ww])
 (refine uJ rfl (fun hc => ?_) fun hc => ?_)
 ·have hi' : i < den.length := by omega
  have hgi := c2M hi'
  have hap : den.take (i + 1) = den.take i ++ [den[i]] := c3E hi'
  have hv := a4a (den.take i) den[i]
  rw [<- hap] at hv
  generalize den[i] = c at hgi hv
  have hc8 := UInt8.toNat_lt c
  have w1 : IntKind.i64.wrap (c.toNat : Int) = (c.toNat : Int) := a9f (by omega)
  have w2 : IntKind.i64.wrap (256 * (Nm.val (den.take i) : Int) + (c.toNat : Int)) = 256 * (Nm.val (den.take i) : Int) + (c.toNat : Int) := a9f (by omega)
  (repeat first | refine uA ?_ | (refine uK ?_ ?_; focus first | omega | (intros; simp_all <;> omega)) | simp (disch := omega) only [go_sem, Nat.reduceBEq, Nat.reduceAdd, ww, hgi, c2O, c2N, F5, c2X, w1, w2])
  refine S.next (i + 1) (by omega) (by omega) (by rw [hv]; exact (by (repeat first | refine uA ?_ | (refine ⟨?_, ?_⟩; focus first | rfl | simp [slot]) | rfl | simp)))
 have hi' : i = den.length := by omega
 subst hi'
 rw [c3j]
 (repeat first | refine uA ?_ | (refine uK ?_ ?_; focus first | omega | (intros; simp_all <;> omega)) | simp (disch := omega) only [go_sem, Nat.reduceBEq, Nat.reduceAdd, ww])
 refine S.cond rfl (fun hc => ?_) (fun hc => ?_)
 ·subst hc
  rw [if_pos rfl] at hI ⊢
  rw [show -(Nm.val num : Int) = 0 - (Nm.val num : Int) by omega, show max (Nm.val den : Int) 1 = if (Nm.val den : Int) < 1 then 1 else (Nm.val den : Int) by split <;> omega]
  (repeat first | refine uA ?_ | (refine uK ?_ ?_; focus first | omega | (intros; simp_all <;> omega)) | simp (disch := omega) only [go_sem, Nat.reduceBEq, Nat.reduceAdd, ww])
  (refine S.done ?_; simp only [p9, p8, go_sem, Nat.reduceBEq, Nat.reduceAdd, Nat.reduceLeDiff, Int.reduceToNat, Int.reducePow]; (repeat (refine ⟨?_, ?_⟩; focus first | trivial | omega | simp)); exact j3.out rfl (Imp.tup (by (repeat' (first | exact l8.nil | exact Imp.refl rfl | exact Imp.frz rfl rfl rfl | exact Imp.K7 | refine Imp.agg ?_ | refine l8.cons ?_ ?_)))) rfl)
 ·subst hc
  rw [if_neg (by decide)] at hI ⊢
  rw [show max (Nm.val den : Int) 1 = if (Nm.val den : Int) < 1 then 1 else (Nm.val den : Int) by split <;> omega]
  (repeat first | refine uA ?_ | (refine uK ?_ ?_; focus first | omega | (intros; simp_all <;> omega)) | simp (disch := omega) only [go_sem, Nat.reduceBEq, Nat.reduceAdd, ww])
  (refine S.done ?_; simp only [p9, p8, go_sem, Nat.reduceBEq, Nat.reduceAdd, Nat.reduceLeDiff, Int.reduceToNat, Int.reducePow]; (repeat (refine ⟨?_, ?_⟩; focus first | trivial | omega | simp)); exact j3.out rfl (Imp.tup (by (repeat' (first | exact l8.nil | exact Imp.refl rfl | exact Imp.frz rfl rfl rfl | exact Imp.K7 | refine Imp.agg ?_ | refine l8.cons ?_ ?_)))) rfl)
theorem c1K {E : Ctx} (hP : E.P = Tryz.prog) (a : Am) (l : List Int) (ha : G8 a = 0) :
  j5 E [.box 145 [A9 l]] 100 [a.c, .bp 0 0] (rts (M4 a.links l)) [.box 145 [A9 (l.drop a.links.length)]] [] := by
 obtain ⟨P, eff', N, w0, own0, av0, nu0, pk0⟩ := E
 simp only at hP
 subst hP
 refine j5.of (eff := eff) Tryz.func100 (by cbv) (by exact c3c rfl) fun w own av ν hν => ?_
 have hν0 : ν.length <= 1 := by rw [hν]; exact c2V _
 have hl := (J9 ha).2
 have h3 := (X8 ha).2
 obtain ⟨name, base, links⟩ := a
 simp only at hl h3 ⊢
 simp only [l6]
 simp only [Am.c, Am.enc, lks, rts, A9, sb, ints]
 (repeat first | refine uA ?_ | (refine uK ?_ ?_; focus first | omega | (intros; simp_all <;> omega)) | simp (disch := omega) only [go_sem, Nat.reduceBEq, Nat.reduceAdd, ww, c2N])
 refine S.loop (X := Nat) (fun i => ⟨[(1, .bp 0 0), (5, .rv 2), (14, lks links), (15, ints links.length), (16, ints i)], [.box 145 [A9 (l.drop i)], .gone, .row 29 3 ((M4 (links.take i) l).map rcs)]⟩) (fun i => i <= links.length) (fun i => links.length - i) 0 (c2T _)
  (Ent.trans (Ent.pack 5 29 3 rfl) (by (repeat first | refine uA ?_ | (refine ⟨?_, ?_⟩; focus first | rfl | simp [slot]) | rfl | simp | exact c2Q hν0 (by simp)))) ?_
 intro i hi
 simp only [lks, A9, ints]
 (repeat first | refine uA ?_ | (refine uK ?_ ?_; focus first | omega | (intros; simp_all <;> omega)) | simp (disch := omega) only [go_sem, Nat.reduceBEq, Nat.reduceAdd, ww])
 (refine uJ rfl (fun hc => ?_) fun hc => ?_)
 ·have hi' : i < links.length := by omega
  have hgi := c2M hi'
  have hsn := a9r links l i _ hgi
  have hln : (M4 (links.take i) l).length = i := by rw [a0B, c2W]; omega
  have hx := hl _ (c2P hgi)
  generalize links[i] = x at hgi hsn hx
  obtain ⟨s1, s2⟩ := a9W hx
  have k := fun (E : Ctx) (hP : E.P = Tryz.prog) => I4 hP (l.drop i) 9 (by decide)
  have f1 := a8J x.low s1
  have f2 := a8J x.high s2
  have hb := a9L s1 s2 (nx9 (l.drop i))
  have hk := nx9 (l.drop i)
  have hcr : a3a x (nx (l.drop i) 9) = Q (8 * nuI x.low * deI x.high + (nuI x.high * deI x.low - nuI x.low * deI x.high) * nx (l.drop i) 9) (8 * deI x.low * deI x.high) := rfl
  obtain ⟨b1, b2, b3, b4, b5, b6, b7, b8, b9, b10⟩ := hb
  have o := a1A (8 * nuI x.low * deI x.high + (nuI x.high * deI x.low - nuI x.low * deI x.high) * nx (l.drop i) 9) (8 * deI x.low * deI x.high) (by omega) (by omega)
  rw [<- hcr] at o
  rw [List.drop_drop] at k
  generalize a3a x (nx (l.drop i) 9) = r at *
  generalize nx (l.drop i) 9 = y at *
  generalize nuI x.low = m1 at *
  generalize nuI x.high = m2 at *
  generalize deI x.low = d1 at *
  generalize deI x.high = d2 at *
  simp only [rc, A9, sb, ints] at k f1 f2 o
  (repeat first | refine uA ?_ | (refine uK ?_ ?_; focus first | omega | (intros; simp_all <;> omega)) | simp (disch := omega) only [go_sem, Nat.reduceBEq, Nat.reduceAdd, ww, hgi, c2O, c2N, hln, Lk.enc, vts, sb, c2X] | refine l7.t (j5.lift (k := 0) rfl (k _ rfl) rfl rfl rfl) ?_ | (refine uB f1 ?_ ?_; exact rfl) | (refine uB f2 ?_ ?_; exact rfl) | (refine uB o ?_ ?_; exact rfl))
  refine S.next (i + 1) (by omega) (by omega) (by simp only [hsn, c3D, c3e, c3v, rcs, sb]; exact (by (repeat first | refine uA ?_ | (refine ⟨?_, ?_⟩; focus first | rfl | simp [slot]) | rfl | simp | exact c2Q hν0 (by simp))))
 have hi' : i = links.length := by omega
 subst hi'
 rw [c3j]
 (repeat first | refine uA ?_ | (refine uK ?_ ?_; focus first | omega | (intros; simp_all <;> omega)) | simp (disch := omega) only [go_sem, Nat.reduceBEq, Nat.reduceAdd, ww])
 (refine S.done ?_; simp only [p9, p8, go_sem, Nat.reduceBEq, Nat.reduceAdd, Nat.reduceLeDiff, Int.reduceToNat, Int.reducePow]; (repeat (refine ⟨?_, ?_⟩; focus first | trivial | omega | simp)); exact j3.L8 (Imp.frz rfl rfl rfl) (by (repeat first | refine uA ?_ | (refine ⟨?_, ?_⟩; focus first | rfl | simp [slot]) | rfl | simp)) (c2Q hν0 (by simp)))
theorem b7g (a : Am) (l : List Int) (ha : G8 a = 0) : G5 Tryz.prog 50 [a.c, A9 l] (rts (M4 a.links l)) := by
 refine kS Tryz.func50 (by cbv) (by rfl) fun w O => ?_
 have k := fun (E : Ctx) (hP : E.P = Tryz.prog) => c1K hP a l ha
 generalize M4 a.links l = r at *
 obtain ⟨name, base, links⟩ := a
 simp only [l6]
 simp only [Am.c, Am.enc, lks, rts, A9, sb, ints] at k ⊢
 (repeat first | refine uA ?_ | (refine uK ?_ ?_; focus first | omega | (intros; simp_all <;> omega)) | simp (disch := omega) only [go_sem, Nat.reduceBEq, Nat.reduceAdd, ww] | refine l7.t (j5.lift (k := 1) rfl (k _ rfl) rfl rfl rfl) ?_)
 exact S.done (j3.out rfl (Imp.refl rfl) rfl)
theorem j5.c2k {E : Ctx} {rs rs2 rs' : List Res} {f : Nat} {args args' : List C} {s : C} {pk : List Nat} (h : j5 E rs2 f args' s rs' pk) (hi : l8 rs rs2 args args') (hrs : K9 rs rs2 rs2 rs) (hlen : rs2.length = rs.length) : j5 E rs f args s rs' pk := by
 intro av ν w vs hR hav hF hD
 have hk := a2g hrs
 have hD' := hi.den hR (Cut.of hR hk) hD
 have et : ν.take rs2.length = ν := by rw [hlen, <- hR.len]; exact c3j
 rw [et] at hD'
 have hR2 := hR.weak hrs
 rw [et] at hR2
 refine (h av ν w vs hR2 hav hF hD').mono ?_
 rintro e w' ⟨y, ν', rfl, h1, h2, h3⟩
 exact ⟨y, ν', rfl, h1, ⟨h2.os, h2.tape, h2.output, h2.size, fun b hb hn => h2.block b hb (fun ho => hn (a5T hk ho)), fun b hb => (h2.own b hb).imp (a5T hk) id, h2.nu⟩, h3⟩
def a0i (w : Wk) (to : List Int) : List Ast := (List.range w.arms.length).map (b9p w to)
theorem a2b {w : Wk} {to : List Int} {i : Nat} {a : Am} (h : w.arms[i]? = some a) : (a0i w to)[i]? = some (a0Q a (to.drop (3 * i)) (-1)) := by
 have hi := (c2R.1 h).1
 unfold a0i
 rw [c3i, List.getElem?_range hi, c2O]
 unfold b9p
 rw [h]
theorem a3f (w : Wk) (to : List Int) : (a0i w to).length = w.arms.length := by unfold a0i; simp
theorem b2F {α : Type} {l m : List α} {i : Nat} {y : α} (hl : l.length = m.length) (hy : m[i]? = some y) : (l.take i ++ m.drop i)[i]? = some y := by
 have hi := (c2R.1 hy).1
 have h1 : (l.take i).length = i := by rw [c2W]; omega
 rw [c3h (by omega), h1, Nat.sub_self, c3B, Nat.add_zero, hy]
theorem c0l {E : Ctx} (hP : E.P = Tryz.prog) (ht0 : Tz E) (l to : List Int) (hn : to.length <= 1048576) :
  j5 E [] 10 [A9 l, A9 to] (.tup [(D6 l).c, .agg [ints 0, .rv 8, .rv 9, .v (.slice none 0 0), .rv 10], .v (.bool true)]) [.gone, .gone, .gone, .gone, .gone, .gone, .gone, .gone, .row 61 4 ((a0i (D6 l) to).map Ast.enc), .row 48 10 ((D9 (D6 l)).parts.map Fr.enc), .row 4 1 ((D9 (D6 l)).gates.map fun b => [.v (.bool b)]), .gone, .gone, .gone] [] := by
 obtain ⟨P, eff', N, w0, own0, av0, nu0, pk0⟩ := E
 simp only at hP
 subst hP
 refine j5.ofT (eff := eff) ht0 Tryz.func10 (by cbv) (by exact c3c rfl) fun w' own av ν hν ht => ?_
 have hν0 : ν.length <= 0 := by rw [hν]; exact c2V _
 have hbg := fun (E : Ctx) (hP : E.P = Tryz.prog) (ht : Tz E) => c0p hP ht l
 obtain ⟨ha, hs⟩ := a4X l
 have hbig : (D6 l).arms.length <= 4 := (R7 (a5y (a8l l) ha hs)).big.2.1
 have hpg := fun (i : Nat) (a : Am) (h : (D6 l).arms[i]? = some a) => a2b (to := to) h
 have hpl := a3f (D6 l) to
 have hfa : (D9 (D6 l)).arms = (D6 l).arms.map O5 := rfl
 generalize a0i (D6 l) to = L at *
 generalize D9 (D6 l) = s at *
 generalize D6 l = w at *
 obtain ⟨arms, walls, parts, slots, gates, walk⟩ := w
 obtain ⟨tick, sarms, sparts, people, sgates⟩ := s
 simp only at hfa hbig hpg hpl ha
 have hsl : sarms.length = arms.length := by rw [hfa, c2N]
 simp only [l6]
 simp only [Wk.c, Wk.enc, ams, wls, pts, sls, gts, sb, ints, A9] at hbg ⊢
 (repeat first | refine uA ?_ | (refine uK ?_ ?_; focus first | omega | (intros; simp_all <;> omega)) | simp (disch := omega) only [go_sem, Nat.reduceBEq, Nat.reduceAdd, ww, C.sh, C.shL, c3g, List.length_nil, c2N] | refine l7.t (j5.pre (hbg _ rfl ht) rfl rfl rfl) ?_)
 refine S.cond rfl (fun hc => by simp at hc) (fun hc => ?_)
 (repeat first | refine uA ?_ | (refine uK ?_ ?_; focus first | omega | (intros; simp_all <;> omega)) | simp (disch := omega) only [go_sem, Nat.reduceBEq, Nat.reduceAdd, ww, c2N])
 refine S.loop (X := Nat) (fun i => ⟨[(1, A9 to), (4, .bp 0 0), (5, .bp 1 0), (7, .bp 12 0), (8, .bp 13 0), (23, ams arms), (24, ints arms.length), (25, ints i)], [.box 31 [.v (.slice none 0 0), .v (.slice none 0 0), .v (.slice none 0 0), .v (.slice none 0 0), .v (.slice none 0 0), .v (.bool false), .v (.string ⟨#[]⟩), .v (.string ⟨#[]⟩)], .box 37 [.v (.int .i64 0), .v (.slice none 0 0), .v (.slice none 0 0), .v (.slice none 0 0), .v (.slice none 0 0)], .gone, .gone, .gone, .gone, .gone, .gone, .row 61 4 ((L.take i ++ sarms.drop i).map Ast.enc), .row 48 10 (sparts.map Fr.enc), .row 4 1 (sgates.map fun b => [.v (.bool b)]), .gone, .box 31 [ams arms, wls walls, pts parts, sls slots, gts gates, .v (.bool walk.neg), sb walk.num, sb walk.den], .box 37 [.v (.int .i64 0), .rv 8, .rv 9, .v (.slice none 0 0), .rv 10]]⟩) (fun i => i <= arms.length) (fun i => arms.length - i) 0 (c2T _) (by (repeat first | refine uA ?_ | (refine ⟨?_, ?_⟩; focus first | rfl | simp [slot]) | rfl | simp | exact c2Q hν0 (by simp))) ?_
 intro i hi
 simp only [ams, wls, pts, sls, gts, A9, sb, ints]
 (repeat first | refine uA ?_ | (refine uK ?_ ?_; focus first | omega | (intros; simp_all <;> omega)) | simp (disch := omega) only [go_sem, Nat.reduceBEq, Nat.reduceAdd, ww])
 (refine uJ rfl (fun hc => ?_) fun hc => ?_)
 ·have hi' : i < arms.length := by omega
  have hga := c2M hi'
  have hpi := hpg i _ hga
  have hm1 : sarms[i]? = some (O5 arms[i]) := by rw [hfa, c3i, hga]; rfl
  have haa := ha _ (c2P hga)
  generalize arms[i] = a at *
  have hms := b4w (l := L) (m := sarms) (by omega) hpi
  have hmg := b2F (l := L) (m := sarms) (by omega) hm1
  have hml := a3M (l := L) (m := sarms) (i := i) (by omega) (by omega)
  have hC := b7g a (to.drop (3 * i)) haa
  have hpe : a0Q a (to.drop (3 * i)) (-1) = ⟨M4 a.links (to.drop (3 * i)), a.links.map fun _ => Nm.ofQ 0, false, -1⟩ := rfl
  have hfe : O5 a = ⟨a.links.map a0w, a.links.map fun _ => Nm.ofQ 0, false, -1⟩ := rfl
  rw [hpe] at hms
  rw [hfe] at hmg
  have hmn : (if 3 * (i : Int) < (to.length : Int) then 3 * (i : Int) else (to.length : Int)) = ((min to.length (3 * i) : Nat) : Int) := by split <;> omega
  have hdm : (to.drop (min to.length (3 * i))).take (to.length - min to.length (3 * i)) = to.drop (3 * i) := by
   rw [b3a, c3f (by rw [c3z]; omega)]
  have hmll : min to.length (3 * i) <= to.length := Nat.min_le_left _ _
  have hse : ((L.take i ++ sarms.drop i).map Ast.enc).set i [rts (M4 a.links (to.drop (3 * i))), rts (a.links.map fun _ => Nm.ofQ 0), .v (.bool false), .v (.int .i64 (-1))] = (L.take (i + 1) ++ sarms.drop (i + 1)).map Ast.enc := by rw [<- hms, List.map_set]; rfl
  clear hms hpe hfe hpi hm1
  generalize M4 a.links (to.drop (3 * i)) = c at *
  generalize min to.length (3 * i) = mm at *
  generalize to.drop (3 * i) = td at *
  generalize hM2 : L.take (i + 1) ++ sarms.drop (i + 1) = M2 at *
  generalize L.take i ++ sarms.drop i = M1 at *
  simp only [Am.c, Am.enc, lks, rts, A9, sb, ints] at hC hse
  (repeat first | refine uA ?_ | (refine uK ?_ ?_; focus first | omega | (intros; simp_all <;> omega)) | simp (disch := omega) only [go_sem, Nat.reduceBEq, Nat.reduceAdd, ww, hga, hmg, hse, hml, c2O, c2N, Am.enc, Ast.enc, lks, rts, sb, ints, hmn, hdm, c2X] | (refine uB hC ?_ ?_; exact rfl))
  refine S.next (i + 1) (by omega) (by omega) (by simp only [hM2]; exact (by (repeat first | refine uA ?_ | (refine ⟨?_, ?_⟩; focus first | rfl | simp [slot]) | rfl | simp | exact c2Q hν0 (by simp))))
 have hi' : i = arms.length := by omega
 subst hi'
 have hme := mid_end (l := L) (m := sarms) (by omega)
 rw [hsl] at hme
 rw [hme]
 (repeat first | refine uI ?_ | (refine uK ?_ ?_; focus first | omega | (intros; simp_all <;> omega)) | simp (disch := omega) only [go_sem, Nat.reduceBEq, Nat.reduceAdd, ww])
 refine S.G6 [.gone, .gone, .gone, .gone, .gone, .gone, .gone, .gone, .gone, .gone, .gone, .gone, .gone, .box 37 [.v (.int .i64 0), .rv 8, .rv 9, .v (.slice none 0 0), .rv 10]] (by simp [Eng.F3, Eng.O9]) ?_
 (repeat first | refine uA ?_ | (refine uK ?_ ?_; focus first | omega | (intros; simp_all <;> omega)) | simp (disch := omega) only [go_sem, Nat.reduceBEq, Nat.reduceAdd, ww, F3, c2N])
 (refine S.done ?_; simp only [p9, p8, go_sem, Nat.reduceBEq, Nat.reduceAdd, Nat.reduceLeDiff, Int.reduceToNat, Int.reducePow]; (repeat (refine ⟨?_, ?_⟩; focus first | trivial | omega | simp)); exact j3.L8 (Imp.tup (by (repeat' (first | exact l8.nil | exact Imp.refl rfl | exact Imp.frz rfl rfl rfl | exact Imp.K7 | refine Imp.agg ?_ | refine l8.cons ?_ ?_)))) (by (repeat first | refine uA ?_ | (refine ⟨?_, ?_⟩; focus first | rfl | simp [slot]) | rfl | simp)) (c2Q hν0 (by simp)))
set_option maxHeartbeats 4000000
theorem a4I {w : Wk} {to : List Int} {x : Ast} (h : x ∈ a0i w to) : ∃ a l, a ∈ w.arms /\ x = a0Q a l (-1) := by
 obtain ⟨i, hi⟩ := List.getElem?_of_mem h
 have hl := (c2R.1 hi).1
 rw [a3f] at hl
 have ga := c2M hl
 rw [a2b ga] at hi
 injection hi with hi
 exact ⟨_, _, c2P ga, hi.symm⟩
theorem b8T {w : Wk} (to : List Int) (hk : X7 w = 0) (ha : ∀ a ∈ w.arms, G8 a = 0) (hs : ∀ s ∈ w.slots, okF s.frame = true) : I5 w ⟨0, a0i w to, (D9 w).parts, [], (D9 w).gates⟩ = 0 := by
 have h := a5y hk ha hs
 have hl := a3f w to
 have hfl : (D9 w).arms.length = w.arms.length := by simp [D9]
 have he : (u6 (K3 w.parts.length) [] (w.arms.zip (D9 w).arms)).1 = 0 := by
  unfold I5 at h
  split at h
  ·rename_i h1; exact absurd h h1
  split at h
  ·cases h
  split at h
  ·cases h
  split at h
  ·rename_i h1; exact absurd h h1
  ·rename_i h1; exact Classical.not_not.1 h1
 have hm : (D9 w).arms.map (·.holds) = (a0i w to).map (·.holds) := by
  refine List.ext_getElem? fun i => ?_
  rw [c3i, c3i]
  rcases c3n i w.arms.length with hi | hi
  ·have ga := c2M hi
   have gf : (D9 w).arms[i]? = some (O5 w.arms[i]) := by
    show (w.arms.map O5)[i]? = _
    rw [c3i, ga]
    rfl
   rw [a2b ga, gf]
   rfl
  ·rw [c3q (by omega), c3q (by omega)]
 have he2 := b0R _ w.arms (D9 w).arms (a0i w to) [] hm (fun z hz => by
  obtain ⟨i, hi⟩ := List.getElem?_of_mem hz
  rw [List.getElem?_zip_eq_some] at hi
  obtain ⟨i1, i2⟩ := hi
  rw [a2b i1] at i2
  injection i2 with i2
  rw [<- i2]
  exact b8f (ha _ (c2P i1)) ⟨by decide, by omega⟩) he
 have hok := R7 h
 have hpg := a7P h
 have e3 := hok.parts
 have e4 := hok.gates
 unfold I5
 rw [hk, if_neg (by decide)]
 simp only [List.length_nil, List.all_nil, Bool.and_true]
 rw [if_neg (by omega), if_neg (by omega), he2, if_neg (by decide), hpg]
 rfl
theorem a8G {w : Wk} (to : List Int) (hwb : Wb 1048576 w) (hk : X7 w = 0) (ha : ∀ a ∈ w.arms, G8 a = 0) (hs : ∀ s ∈ w.slots, okF s.frame = true) : Calm w ⟨0, a0i w to, (D9 w).parts, [], (D9 w).gates⟩ 0 := by
 refine ⟨b8T to hk ha hs, rfl, fun x hx => ?_, fun x hx r hr => ?_, fun x hx r hr => ?_, rfl, (b5V hwb hk ha hs).parts⟩
 ·obtain ⟨a, l, _, rfl⟩ := a4I hx
  rfl
 ·obtain ⟨a, l, hm, rfl⟩ := a4I hx
  exact (a5A _ _ ((J9 (ha a hm)).2) r hr).mono (by decide)
 ·obtain ⟨a, l, hm, rfl⟩ := a4I hx
  obtain ⟨_, _, rfl⟩ := List.mem_map.1 (show r ∈ a.links.map (fun _ => Nm.ofQ 0) from hr)
  exact I8.mono (by decide)
theorem b5S {w : Wk} (to : List Int) : ∀ x ∈ a0i w to, ∀ r ∈ x.v, Nm.d9 r = 0 := fun x hx => by
 obtain ⟨a, l, _, rfl⟩ := a4I hx
 exact b7I a l (-1)
theorem b8s {w : Wk} {s : Stt} {k : Nat} {u : List (List Nm.Rt)} {p : List Bool} (h : Calm w s k) (h2 : u.length = w.arms.length) (h3 : p.length = w.arms.length) (hu : ∀ l ∈ u, ∀ r ∈ l, (p.all fun b => !b) = false -> Rb 150 r) (hk : k <= 10) : ∀ y ∈ a0X w s u p, ((∀ r ∈ y.q, Rb 1048576 r) /\ ∀ r ∈ y.v, Rb 1048576 r) /\ y.q.length <= 3 /\ y.v.length <= 3 := fun y hy => by
 have ho := R7 h.st
 have hl := a1Q (u := u) (p := p) ho.arms h2 h3
 obtain ⟨i, hi⟩ := List.getElem?_of_mem hy
 have hil := (c2R.1 hi).1
 have x0 := c2M (show i < w.arms.length by omega)
 have x1 := c2M (show i < s.arms.length by have := ho.arms; omega)
 have x2 := c2M (show i < u.length by omega)
 have x3 := c2M (show i < p.length by omega)
 rw [a2N x0 x1 x2 x3] at hi
 injection hi with hi
 have m1 := c2P x1
 have m2 := c2P x2
 have m3 := c2P x3
 have h1 := a2m (ho.one _ (c2P (F7 x0 x1)))
 simp only at h1
 generalize w.arms[i]'_ = a at *
 generalize s.arms[i]'_ = x at *
 generalize u[i]'_ = l at *
 generalize p[i]'_ = b at *
 have hb := b7r h1.arm (by omega) (by omega) (h.q x m1) (h.v x m1)
 have hlen := b0k (u := l) (p := b) h1
 have h3l := (X8 h1.arm).2
 subst hi
 refine ⟨?_, by omega, by omega⟩
 unfold X3
 split
 ·rename_i hc
  simp only [c2S] at hc
  have hnp : (p.all fun b => !b) = false := by
   rw [Bool.eq_false_iff]
   intro hall
   have := List.all_eq_true.1 hall b m3
   rw [hc.1] at this
   cases this
  have hub := fun r hr => hu l m2 r hr hnp
  refine ⟨fun r hr => ?_, fun r hr => (hub r hr).mono (by omega)⟩
  obtain ⟨q, hq, v, hv, rfl⟩ := a4h (show r ∈ mvQ x l from hr)
  exact a3Z (h.q x m1 q hq) (hub v hv) (by omega) (by decide) (by omega)
 ·exact ⟨fun r hr => (hb.2 r hr).mono (by omega), fun r hr => (hb.1 r hr).mono (by omega)⟩
theorem b7N {w : Wk} {s : Stt} {k : Nat} {u : List (List Nm.Rt)} {p : List Bool} (h : Calm w s k) (h2 : u.length = w.arms.length) (h3 : p.length = w.arms.length) (hu : ∀ l ∈ u, ∀ r ∈ l, (p.all fun b => !b) = false -> Rb 150 r) (hk : k <= 10) : Stb 1048576 (Z0 w s u p []) := by
 have ho := R7 h.st
 have hl := a1Q (u := u) (p := p) ho.arms h2 h3
 have hb := b7d h hk
 have hp := a6g h h2 h3
 have hkey := b8s h h2 h3 hu hk
 refine ⟨⟨?_, fun x hx => ?_⟩, ?_, ?_, hb.gates⟩
 ·show (a0X _ _ _ _).length <= _
  have := ho.big
  omega
 ·obtain ⟨⟨k1, k2⟩, k3, k4⟩ := hkey x hx
  exact ⟨⟨by omega, k1⟩, by omega, k2⟩
 ·have e : (Z0 w s u p []).parts = s.parts := hp
  rw [e]
  exact hb.parts
 ·show Vbs 1048576 ((s.people.zip []).map c1i)
  rw [h.people]
  exact ⟨c2T _, fun v hv => by cases hv⟩
theorem b8t {w : Wk} {s : Stt} {k : Nat} {u : List (List Nm.Rt)} {p : List Bool} (h : Calm w s k) (h2 : u.length = w.arms.length) (h3 : p.length = w.arms.length) (hk : k <= 10) : I5 w (Z0 w s u p []) = 0 \/ I5 w (Z0 w s u p []) = 17 :=
 b8j h.st h.people (by rw [h.tick]; omega) h2 h3 (by rw [a6g h h2 h3]; exact a7P h.st)
structure Run (a : Am) (q0 u : List Nm.Rt) (j : Nat) (y : Ast) : Prop where
 q : y.q.length = a.links.length
 v : y.v.length = a.links.length
 pos : ∀ (i : Nat) (l : Lk) (b c q v : Nm.Rt), a.links[i]? = some l -> q0[i]? = some b -> u[i]? = some c -> y.q[i]? = some q -> y.v[i]? = some v -> a5Z b c l.brake j q v
theorem b8e {a : Am} {x : Ast} {u : List Nm.Rt} (h1 : x.q.length = a.links.length) (h2 : x.v.length = a.links.length) (hz : ∀ r ∈ x.v, Nm.d9 r = 0) : Run a x.q u 0 x :=
 ⟨h1, h2, fun i l b c q v _ e1 _ e2 e3 => by
  rw [e1] at e2
  injection e2 with e2
  exact ⟨e2.symm, hz v (c2P e3)⟩⟩
theorem b4G {a : Am} {q0 u : List Nm.Rt} {j : Nat} {y : Ast} (h : Run a q0 u j y) (ha : G8 a = 0) (hg : q0.all F9 = true) (h0 : q0.length = a.links.length) (hu : u.length = a.links.length) : Run a q0 u (j + 1) (a9B a y) := by
 have hl := b4y h.q h.v
 refine ⟨hl.2, hl.1, fun i l b c q v e1 e2 e3 e4 e5 => ?_⟩
 have hi := (c2R.1 e1).1
 have g1 := c2M (show i < y.q.length by have := h.q; omega)
 have g2 := c2M (show i < y.v.length by have := h.v; omega)
 have hb := a9J e1 g2 g1
 have hp := h.pos i l b c _ _ e1 e2 e3 g1 g2
 have hbr := a0E ((J9 ha).2 l (c2P e1))
 have hgb := List.all_eq_true.1 hg b (c2P e2)
 have e4 : (a2l a y)[i]? = some q := e4
 have e5 : (a1k a y)[i]? = some v := e5
 rw [hb.2] at e4
 rw [hb.1] at e5
 injection e4 with e4
 injection e5 with e5
 rw [<- e4, <- e5]
 cases j with
 | zero => exact c0E hbr hgb hp
 | succ k => exact c0w hbr hgb hp
theorem b6s {a : Am} {q0 u : List Nm.Rt} {y : Ast} {p : Bool} (h : Run a q0 u 0 y) (ha : G8 a = 0) (hg : q0.all F9 = true) (h0 : q0.length = a.links.length) (hu : u.length = a.links.length) : Run a q0 u 1 (X3 a y u p) := by
 unfold X3
 split
 ·refine ⟨by simp only [mvA, mvQ, c2N, List.length_zip]; have := h.q; omega, hu, fun i l b c q v e1 e2 e3 e4 e5 => ?_⟩
  have g1 := c2M (show i < y.q.length by have := h.q; have := (c2R.1 e1).1; omega)
  have g2 := c2M (show i < y.v.length by have := h.v; have := (c2R.1 e1).1; omega)
  have hp := h.pos i l b c _ _ e1 e2 e3 g1 g2
  have e4 : (mvQ y u)[i]? = some q := e4
  have e5 : u[i]? = some v := e5
  rw [b6p g1 e3] at e4
  rw [e3] at e5
  injection e4 with e4
  injection e5 with e5
  rw [<- e4, <- e5]
  exact c0s hp
 ·exact b4G h ha hg h0 hu
theorem b6G {a : Am} {q0 u w : List Nm.Rt} {j : Nat} {y : Ast} (h : Run a q0 u j y) (ha : G8 a = 0) (hg : q0.all F9 = true) (h0 : q0.length = a.links.length) (hu : u.length = a.links.length) : Run a q0 u (j + 1) (X3 a y w false) := by
 have e : X3 a y w false = a9B a y := by unfold X3; simp
 rw [e]
 exact b4G h ha hg h0 hu
def R4 (z : List (Lk × Nm.Rt)) : Int := z.foldl (fun m z => max m (H6 (Nm.d9 z.1.brake) (Nm.d9 z.2))) 0
theorem a8s {α : Type} {f : α -> Int} : ∀ (l : List α) (m : Int), m <= l.foldl (fun m z => max m (f z)) m /\ ∀ z ∈ l, f z <= l.foldl (fun m z => max m (f z)) m
 | [], m => ⟨Int.le_refl _, fun z hz => by cases hz⟩
 | x :: l, m => by
  obtain ⟨h1, h2⟩ := a8s (f := f) l (max m (f x))
  rw [List.foldl_cons]
  refine ⟨by omega, fun z hz => ?_⟩
  rcases List.mem_cons.1 hz with rfl | hz
  ·omega
  ·exact h2 z hz
theorem a3u (z : List (Lk × Nm.Rt)) : 0 <= R4 z := (a8s (f := fun z : Lk × Nm.Rt => H6 (Nm.d9 z.1.brake) (Nm.d9 z.2)) z 0).1
theorem b8R {a : Am} {q0 u : List Nm.Rt} {j : Nat} {y : Ast} (h : Run a q0 u j y) (ha : G8 a = 0) (h0 : q0.length = a.links.length) (hu : u.length = a.links.length) (hj : R4 (a.links.zip u) + 1 <= j) : a9g y = false := by
 unfold a9g
 rw [List.any_eq_false]
 intro v hv
 obtain ⟨i, hi⟩ := List.getElem?_of_mem hv
 have hil := (c2R.1 hi).1
 have e1 := c2M (show i < a.links.length by have := h.v; omega)
 have e2 := c2M (show i < q0.length by have := h.v; omega)
 have e3 := c2M (show i < u.length by have := h.v; omega)
 have e4 := c2M (show i < y.q.length by have := h.v; have := h.q; omega)
 have hp := h.pos i _ _ _ _ _ e1 e2 e3 e4 hi
 have hbr := a0E ((J9 ha).2 _ (c2P e1))
 have ht := (a8s (f := fun z : Lk × Nm.Rt => H6 (Nm.d9 z.1.brake) (Nm.d9 z.2)) (a.links.zip u) 0).2 _ (c2P (F7 e1 e3))
 have hz := b8Z hbr hp (by
  have h5 : R4 (a.links.zip u) = (a.links.zip u).foldl (fun m z => max m (H6 (Nm.d9 z.1.brake) (Nm.d9 z.2))) 0 := rfl
  have h6 := a3u (a.links.zip u)
  simp only at ht
  omega)
 rw [b2I hz]
 decide
theorem b6x {a : Am} {q0 u : List Nm.Rt} {j : Nat} {y : Ast} (h : Run a q0 u j y) (ha : G8 a = 0) (h0 : q0.length = a.links.length) (hu : u.length = a.links.length) {i : Nat} {q : Nm.Rt} (hq : y.q[i]? = some q) : ∃ l b c, a.links[i]? = some l /\ q0[i]? = some b /\ u[i]? = some c /\ ¬ 0 < Nm.z8 (loQ b c l.brake) (Nm.d9 q) /\ ¬ 0 < Nm.z8 (Nm.d9 q) (hiQ b c l.brake) := by
 have hil := (c2R.1 hq).1
 have e1 := c2M (show i < a.links.length by have := h.q; omega)
 have e2 := c2M (show i < q0.length by have := h.q; omega)
 have e3 := c2M (show i < u.length by have := h.q; omega)
 have e4 := c2M (show i < y.v.length by have := h.v; have := h.q; omega)
 have hp := h.pos i _ _ _ _ _ e1 e2 e3 hq e4
 have hr := b7x (a0E ((J9 ha).2 _ (c2P e1))) hp
 refine ⟨_, _, _, e1, e2, e3, ?_, ?_⟩
 ·rw [V9]; grind
 ·rw [V9]; grind
def a5r (x : Lk) : Prop := 0 <= Nm.d9 x.speed /\ Nm.d9 x.speed <= 8 * Nm.d9 x.brake
theorem b5R (l : List Int) : a5r (b1K l) := by
 have h1 := l9 (l.drop 3) (n := 8) (by decide)
 have h2 := D5 (l.drop 3) (n := 8) (by decide)
 have h3 := l9 (l.drop 4) (n := 20) (by decide)
 have h4 := D5 (l.drop 4) (n := 20) (by decide)
 show 0 <= Nm.d9 (Q 1 (4 + nx (l.drop 3) 8)) /\ Nm.d9 (Q 1 (4 + nx (l.drop 3) 8)) <= 8 * Nm.d9 (Q 1 (10 + nx (l.drop 4) 20))
 rw [Nm.r9, Nm.r9]
 generalize nx (l.drop 3) 8 = s at *
 generalize nx (l.drop 4) 20 = b at *
 have hs : 0 <= mkRat 1 (4 + s).toNat /\ mkRat 1 (4 + s).toNat <= mkRat 1 4 := by
  have : s = 0 \/ s = 1 \/ s = 2 \/ s = 3 \/ s = 4 \/ s = 5 \/ s = 6 \/ s = 7 := by omega
  rcases this with rfl | rfl | rfl | rfl | rfl | rfl | rfl | rfl <;> decide +kernel
 have hb : mkRat 1 32 <= mkRat 1 (10 + b).toNat := by
  have : b = 0 \/ b = 1 \/ b = 2 \/ b = 3 \/ b = 4 \/ b = 5 \/ b = 6 \/ b = 7 \/ b = 8 \/ b = 9 \/ b = 10 \/ b = 11 \/ b = 12 \/ b = 13 \/ b = 14 \/ b = 15 \/ b = 16 \/ b = 17 \/ b = 18 \/ b = 19 := by omega
  rcases this with rfl | rfl | rfl | rfl | rfl | rfl | rfl | rfl | rfl | rfl | rfl | rfl | rfl | rfl | rfl | rfl | rfl | rfl | rfl | rfl <;> decide +kernel
 have e : mkRat 1 4 = 8 * mkRat 1 32 := by decide +kernel
 refine ⟨hs.1, ?_⟩
 grind
theorem a7H : ∀ (n : Nat) (l : List Int), ∀ x ∈ a1j n l, a5r x
 | 0, _, x, h => by cases h
 | n + 1, l, x, h => by
  rw [a1j] at h
  rcases List.mem_cons.1 h with rfl | h
  ·exact b5R l
  ·exact a7H n _ x h
theorem a8P : ∀ (k n : Nat) (l : List Int), ∀ a ∈ a0p k n l, ∀ x ∈ a.links, a5r x
 | 0, _, _, a, h => by cases h
 | k + 1, n, l, a, h => by
  rw [a0p] at h
  rcases List.mem_cons.1 h with rfl | h
  ·exact a7H _ _
  ·exact a8P k _ _ a h
theorem b7T (l : List Int) : 0 < (D6 l).arms.length := by
 have h1 := l9 l (n := 2) (by decide)
 obtain ⟨k, hk⟩ : ∃ k, nA l = k + 1 := ⟨(nA l) - 1, by unfold nA; omega⟩
 show 0 < (a0p (nA l) 0 (l.drop 1)).length
 rw [hk, a0p, c3g]
 omega
theorem b9g {x : Lk} {c q : Nm.Rt} (h : 0 <= Nm.d9 x.speed) : w9 (Nm.d9 (a3E x c q)) <= Nm.d9 x.speed := by
 unfold a3E
 rw [Nm.r9]
 generalize Nm.d9 x.speed = s at *
 generalize Nm.d9 c - Nm.d9 q = d at *
 have h1 := (a7e (-s) (J7 s d)).1
 have h2 : O4 (-s) (J7 s d) <= s := by
  have := a7j s d
  unfold O4
  split
  ·grind
  ·exact this.1
 rcases a0b (O4 (-s) (J7 s d)) with ⟨_, e⟩ | ⟨_, e⟩ <;> rw [e] <;> grind
theorem b7w {B V : Rat} (hB : 0 < B) (h : w9 V <= 8 * B) : H6 B V <= 8 := by
 have hq : w9 V / B <= 8 := by
  have e : w9 V / B * B = w9 V := Rat.div_mul_cancel (by grind)
  rcases (Rat.le_total : w9 V / B <= 8 \/ 8 <= w9 V / B) with h1 | h1
  ·exact h1
  ·have h2 : 8 * B <= w9 V / B * B := Rat.mul_le_mul_of_nonneg_right h1 (by grind)
   have h3 : w9 V / B * B = 8 * B := by grind
   have h4 : (w9 V / B - 8) * B = 0 := by grind
   rcases Rat.mul_eq_zero.1 h4 with h5 | h5 <;> grind
 unfold H6
 generalize w9 V / B = q at *
 have h1 := Rat.floor_le q
 have h8 : (q.floor : Rat) <= ((8 : Int) : Rat) := Rat.le_trans h1 hq
 have h9 : q.floor <= 8 := Rat.intCast_le_intCast.1 h8
 split
 ·rename_i h2
  have h10 : (q.floor : Rat) < ((8 : Int) : Rat) := by
   have : q <= ((8 : Int) : Rat) := hq
   grind
  have h11 : q.floor < 8 := Rat.intCast_lt_intCast.1 h10
  omega
 ·exact h9
theorem b5L {L : List Lk} {c q : List Nm.Rt} (hq : ∀ x ∈ L, a5r x) (hb : ∀ x ∈ L, 0 < y9 (Nm.d9 x.brake)) : ∀ z ∈ L.zip (a1z L c q), 0 <= H6 (Nm.d9 z.1.brake) (Nm.d9 z.2) /\ H6 (Nm.d9 z.1.brake) (Nm.d9 z.2) <= 8 := fun z hz => by
 obtain ⟨i, hi⟩ := List.getElem?_of_mem hz
 rw [List.getElem?_zip_eq_some] at hi
 obtain ⟨e1, e2⟩ := hi
 have m := c2P e1
 unfold a1z at e2
 rw [c3i, Option.map_eq_some_iff] at e2
 obtain ⟨⟨y, c', q'⟩, e3, e4⟩ := e2
 rw [List.getElem?_zip_eq_some] at e3
 have e5 := e3.1
 rw [e1] at e5
 injection e5 with e5
 obtain ⟨h1, h2⟩ := hq _ m
 have hB := a3h (hb _ m)
 have h3 := b9g (c := c') (q := q') h1
 rw [<- e4]
 subst e5
 refine ⟨(a2H hB).1, b7w hB ?_⟩
 simp only at h3 ⊢
 grind
theorem b5G {z : List (Lk × Nm.Rt)} (h : ∀ x ∈ z, H6 (Nm.d9 x.1.brake) (Nm.d9 x.2) <= 8) : R4 z <= 8 := by
 unfold R4
 have key : ∀ (z : List (Lk × Nm.Rt)) (m : Int), m <= 8 -> (∀ x ∈ z, H6 (Nm.d9 x.1.brake) (Nm.d9 x.2) <= 8) -> z.foldl (fun m z => max m (H6 (Nm.d9 z.1.brake) (Nm.d9 z.2))) m <= 8 := by
  intro z
  induction z with
  | nil => intro m hm _; exact hm
  | cons x z ih =>
   intro m hm hx
   rw [List.foldl_cons]
   have := hx x (by simp)
   exact ih _ (by omega) fun y hy => hx y (by simp [hy])
 exact key z 0 (by decide) h
set_option maxHeartbeats 8000000
theorem c1x (n : Nat) (hn : n < 9223372036854775808) : G5 Tryz.prog 143 [sb (Nm.enc n)] (.tup [ints n, ints 0]) := by
 refine kS Tryz.func143 (by cbv) (by rfl) fun w O => ?_
 have hl : (Nm.enc n).length <= 8 := Nm.F4 (by omega)
 have o1 := a0g (Nm.enc n) (by omega)
 rw [Nm.a5D (Nm.a2h _)] at o1
 have o2 := a1s (Nm.enc n) (by omega)
 rw [Nm.I6, Nat.mod_eq_of_lt (by omega)] at o2
 generalize Nm.enc n = l at *
 have d1 : decide ((8 : Int) < (l.length : Int)) = false := decide_eq_false (by omega)
 have d2 : decide ((9223372036854775807 : Int) < (n : Int)) = false := decide_eq_false (by omega)
 have w1 : IntKind.i64.wrap (n : Int) = (n : Int) := Eng.wrap_i64 (by omega)
 simp only [l6]
 simp only [sb, ints] at *
 (repeat first | refine uA ?_ | (refine uK ?_ ?_; focus first | omega | (intros; simp_all <;> omega)) | simp (disch := omega) only [go_sem, Nat.reduceBEq, Nat.reduceAdd, ww, E5, d1, d2, w1, Bool.or_self] | (refine uB o1 ?_ ?_; exact rfl) | (refine uB o2 ?_ ?_; exact rfl))
 refine S.cond rfl (fun hc => by simp at hc) (fun hc => ?_)
 (repeat first | refine uA ?_ | (refine uK ?_ ?_; focus first | omega | (intros; simp_all <;> omega)) | simp (disch := omega) only [go_sem, Nat.reduceBEq, Nat.reduceAdd, ww, w1] | (refine uB o2 ?_ ?_; exact rfl))
 (refine S.done ?_; simp only [p9, p8, go_sem, Nat.reduceBEq, Nat.reduceAdd, Nat.reduceLeDiff, Int.reduceToNat, Int.reducePow]; (repeat (refine ⟨?_, ?_⟩; focus first | trivial | omega | simp)); exact j3.out rfl (Imp.tup (by (repeat' (first | exact l8.nil | exact Imp.refl rfl | exact Imp.frz rfl rfl rfl | exact Imp.K7 | refine Imp.agg ?_ | refine l8.cons ?_ ?_)))) rfl)
theorem a6s {p : Rat} (h : 0 <= p) : 0 <= p.floor := Rat.le_floor_iff.2 (by simpa using h)
theorem b9T (p : Rat) (h : 0 <= p) (hb : Rb 1048576 (Nm.ofQ p)) : FZ 142 [rq p] (rq (p.floor : Rat)) := by
 refine kW Tryz.func142 (by cbv) (by rfl) fun w O hw => ?_
 obtain ⟨h1, h2⟩ := hb
 have hn : 0 <= p.num := Rat.num_nonneg.2 h
 have e0 : decide (p.num < 0) = false := decide_eq_false (by omega)
 simp only [Nm.ofQ] at h1 h2
 have o1 := b1J (Nm.enc p.num.natAbs) (Nm.enc p.den) (by omega) (by omega) (by rw [Nm.I6]; exact p.den_nz)
 simp only [Nm.I6] at o1
 have hle : p.num.natAbs / p.den <= p.num.natAbs := Nat.div_le_self _ _
 have o2 := a3V false (p.num.natAbs / p.den) 1 (by decide) (by have := Nm.a2K hle; omega) (by rw [Nm.a0V]; decide)
 have e1 : mkRat (Nm.sgn false (p.num.natAbs / p.den)) 1 = (p.floor : Rat) := by
  rw [Rat.mkRat_one]
  congr 1
  rw [Rat.floor_def]
  unfold Nm.sgn
  simp only [c3u, if_false]
  rw [Int.natCast_ediv]
  congr 1
  omega
 rw [e1, Nm.a0V] at o2
 generalize p.floor = f at *
 simp only [l6]
 simp only [rq, rc, sb, ints, Nm.ofQ, e0] at *
 (repeat first | refine uA ?_ | (refine uK ?_ ?_; focus first | omega | (intros; simp_all <;> omega)) | simp (disch := omega) only [go_sem, Nat.reduceBEq, Nat.reduceAdd, ww] | (refine uB o1 ?_ ?_; exact rfl))
 refine S.cond rfl (fun hc => by simp at hc) (fun hc => ?_)
 (repeat first | refine uA ?_ | (refine uK ?_ ?_; focus first | omega | (intros; simp_all <;> omega)) | simp (disch := omega) only [go_sem, Nat.reduceBEq, Nat.reduceAdd, ww] | (refine uD o2 ?_ ?_ ?_; exact tz hw; exact rfl))
 (refine S.done ?_; simp only [p9, p8, go_sem, Nat.reduceBEq, Nat.reduceAdd, Nat.reduceLeDiff, Int.reduceToNat, Int.reducePow]; (repeat (refine ⟨?_, ?_⟩; focus first | trivial | omega | simp)); exact j3.out rfl (Imp.refl rfl) rfl)
theorem c0P (a : Nm.Rt) (h : 0 <= Nm.d9 a) (hb : Rb 1048576 a) (hf : (Nm.d9 a).floor < 9223372036854775808) : FZ 122 [rc a] (.tup [ints (Nm.d9 a).floor, ints 0]) := by
 refine kW Tryz.func122 (by cbv) (by rfl) fun w O hw => ?_
 have o1 := R9 a (hb.mono (by decide))
 have o2 := b9T (Nm.d9 a) h (hb.fit (by decide))
 obtain ⟨n, hn⟩ : ∃ n : Nat, (Nm.d9 a).floor = n := ⟨(Nm.d9 a).floor.toNat, by have := a6s h; omega⟩
 rw [hn] at hf o2 ⊢
 have o3 := c1x n (by omega)
 have e1 : Nm.ofQ ((n : Int) : Rat) = ⟨false, Nm.enc n, Nm.enc 1⟩ := by
  unfold Nm.ofQ
  rw [Rat.num_intCast, Rat.den_intCast]
  have : decide ((n : Int) < 0) = false := decide_eq_false (by omega)
  rw [this]
  rfl
 unfold rq at *
 rw [e1] at o2
 generalize Nm.ofQ (Nm.d9 a) = z at *
 simp only [l6]
 simp only [rc, sb, ints] at *
 (repeat first | refine uA ?_ | (refine uK ?_ ?_; focus first | omega | (intros; simp_all <;> omega)) | simp (disch := omega) only [go_sem, Nat.reduceBEq, Nat.reduceAdd, ww] | (refine uB o3 ?_ ?_; exact rfl) | (refine uD o1 ?_ ?_ ?_; exact tz hw; exact rfl) | (refine uD o2 ?_ ?_ ?_; exact tz hw; exact rfl))
 refine S.cond rfl (fun hc => by simp at hc) (fun hc => ?_)
 (repeat first | refine uA ?_ | (refine uK ?_ ?_; focus first | omega | (intros; simp_all <;> omega)) | simp (disch := omega) only [go_sem, Nat.reduceBEq, Nat.reduceAdd, ww])
 (refine S.done ?_; simp only [p9, p8, go_sem, Nat.reduceBEq, Nat.reduceAdd, Nat.reduceLeDiff, Int.reduceToNat, Int.reducePow]; (repeat (refine ⟨?_, ?_⟩; focus first | trivial | omega | simp)); exact j3.out rfl (Imp.tup (by (repeat' (first | exact l8.nil | exact Imp.refl rfl | exact Imp.frz rfl rfl rfl | exact Imp.K7 | refine Imp.agg ?_ | refine l8.cons ?_ ?_)))) rfl)
theorem a6P {n : Int} (h : n.natAbs < 18446744073709551616) : Rb 8 (Nm.ofQ (n : Rat)) := by
 refine ⟨Nm.F4 ?_, Nm.F4 ?_⟩
 ·rw [Rat.num_intCast, show (256 : Nat) ^ 8 = 18446744073709551616 by decide]; exact h
 ·rw [Rat.den_intCast]; decide
theorem a9O {k : Nat} {p : Rat} (h : Rb k (Nm.ofQ p)) : Rb k (Nm.ofQ (w9 p)) := by
 rcases a0b p with ⟨_, e⟩ | ⟨_, e⟩ <;> rw [e]
 ·exact a3J h
 ·exact h
structure Few (l : Lk) (v : Nm.Rt) : Prop where
 hb : Rb 3 l.brake
 hv : Rb 1024 v
 pos : 0 < y9 (Nm.d9 l.brake)
 few : H6 (Nm.d9 l.brake) (Nm.d9 v) <= 8
theorem b4r (l : Lk) (v : Nm.Rt) (h : Few l v) : FZ 76 [l.c, rc v] (.tup [ints (H6 (Nm.d9 l.brake) (Nm.d9 v)), ints 0]) := by
 refine kW Tryz.func76 (by cbv) (by rfl) fun w O hw => ?_
 obtain ⟨hb, hv, h0, hle⟩ := h
 have hB := a3h h0
 have hne : Nm.d9 l.brake ≠ 0 := by grind
 have ra := a9O (hv.fit (by decide))
 have rd := a3i hne ra (hb.fit (by decide))
 have o1 := V8 l.brake (hb.mono (by decide))
 have o2 := a9d v (hv.mono (by decide))
 have o3 := b2s (Nm.ofQ (w9 (Nm.d9 v))) l.brake (ra.mono (by decide)) (hb.mono (by decide))
 rw [Nm.r9] at o3
 unfold a0I a1X at o3
 rw [if_neg hne, if_neg hne] at o3
 have hq0 : 0 <= w9 (Nm.d9 v) / Nm.d9 l.brake := by
  rw [Rat.div_def]
  exact Rat.mul_nonneg (abs_nonneg _) (Rat.le_of_lt (Rat.inv_pos.2 hB))
 have hT := (a2H (V := Nm.d9 v) hB).1
 have hTd : H6 (Nm.d9 l.brake) (Nm.d9 v) = if ((w9 (Nm.d9 v) / Nm.d9 l.brake).floor : Rat) < w9 (Nm.d9 v) / Nm.d9 l.brake then (w9 (Nm.d9 v) / Nm.d9 l.brake).floor + 1 else (w9 (Nm.d9 v) / Nm.d9 l.brake).floor := rfl
 have hf0 := a6s hq0
 generalize w9 (Nm.d9 v) / Nm.d9 l.brake = q at *
 generalize H6 (Nm.d9 l.brake) (Nm.d9 v) = T at *
 have hf8 : q.floor <= 8 := by split at hTd <;> omega
 have o4 := c0P (Nm.ofQ q) (by rw [Nm.r9]; exact hq0) (rd.mono (by decide)) (by rw [Nm.r9]; omega)
 rw [Nm.r9] at o4
 have o5 := a2y q.floor (by omega) (by omega)
 have o6 := X5 (Nm.ofQ (q.floor : Rat)) (Nm.ofQ q) ((a6P (by omega)).mono (by decide)) (rd.mono (by decide))
 rw [Nm.r9, Nm.r9] at o6
 have hcn := a1Y (q.floor : Rat) q
 have hTd2 : T = if Nm.z8 (q.floor : Rat) q < 0 then q.floor + 1 else q.floor := by
  rw [hTd]
  by_cases hc : (q.floor : Rat) < q
  ·rw [if_pos hc, if_pos (hcn.2 hc)]
  ·rw [if_neg hc, if_neg fun h => hc (hcn.1 h)]
 clear hcn hTd
 generalize Nm.z8 (q.floor : Rat) q = cc at *
 generalize q.floor = F at *
 unfold rq at *
 generalize Nm.ofQ (w9 (Nm.d9 v)) = z1 at *
 generalize Nm.ofQ q = z2 at *
 generalize Nm.ofQ (F : Rat) = z3 at *
 generalize y9 (Nm.d9 l.brake) = sg at *
 simp only [l6]
 simp only [Lk.c, Lk.enc, rc, vts, sb, ints] at *
 (repeat first | refine uA ?_ | (refine uK ?_ ?_; focus first | omega | (intros; simp_all <;> omega)) | simp (disch := omega) only [go_sem, Nat.reduceBEq, Nat.reduceAdd, ww] | (refine uD o1 ?_ ?_ ?_; exact tz hw; exact rfl))
 refine S.cond rfl (fun hc => by simp at hc; omega) (fun hc => ?_)
 (repeat first | refine uA ?_ | (refine uK ?_ ?_; focus first | omega | (intros; simp_all <;> omega)) | simp (disch := omega) only [go_sem, Nat.reduceBEq, Nat.reduceAdd, ww] | (refine uD o2 ?_ ?_ ?_; exact tz hw; exact rfl) | (refine uD o3 ?_ ?_ ?_; exact tz hw; exact rfl) | (refine uD o4 ?_ ?_ ?_; exact tz hw; exact rfl))
 refine S.cond rfl (fun hc => by simp at hc; omega) (fun hc => ?_)
 (repeat first | refine uA ?_ | (refine uK ?_ ?_; focus first | omega | (intros; simp_all <;> omega)) | simp (disch := omega) only [go_sem, Nat.reduceBEq, Nat.reduceAdd, ww] | (refine uD o5 ?_ ?_ ?_; exact tz hw; exact rfl) | (refine uD o6 ?_ ?_ ?_; exact tz hw; exact rfl))
 refine S.cond rfl (fun hc => ?_) (fun hc => ?_)
 ·rw [if_pos (by simpa using hc)] at hTd2
  subst hTd2
  (repeat first | refine uA ?_ | (refine uK ?_ ?_; focus first | omega | (intros; simp_all <;> omega)) | simp (disch := omega) only [go_sem, Nat.reduceBEq, Nat.reduceAdd, ww])
  refine S.cond rfl (fun hc => by simp at hc; omega) (fun hc => ?_)
  (repeat first | refine uA ?_ | (refine uK ?_ ?_; focus first | omega | (intros; simp_all <;> omega)) | simp (disch := omega) only [go_sem, Nat.reduceBEq, Nat.reduceAdd, ww])
  (refine S.done ?_; simp only [p9, p8, go_sem, Nat.reduceBEq, Nat.reduceAdd, Nat.reduceLeDiff, Int.reduceToNat, Int.reducePow]; (repeat (refine ⟨?_, ?_⟩; focus first | trivial | omega | simp)); exact j3.out rfl (Imp.tup (by (repeat' (first | exact l8.nil | exact Imp.refl rfl | exact Imp.frz rfl rfl rfl | exact Imp.K7 | refine Imp.agg ?_ | refine l8.cons ?_ ?_)))) rfl)
 ·rw [if_neg (by simpa using hc)] at hTd2
  subst hTd2
  (repeat first | refine uA ?_ | (refine uK ?_ ?_; focus first | omega | (intros; simp_all <;> omega)) | simp (disch := omega) only [go_sem, Nat.reduceBEq, Nat.reduceAdd, ww])
  refine S.cond rfl (fun hc => by simp at hc; omega) (fun hc => ?_)
  (repeat first | refine uA ?_ | (refine uK ?_ ?_; focus first | omega | (intros; simp_all <;> omega)) | simp (disch := omega) only [go_sem, Nat.reduceBEq, Nat.reduceAdd, ww])
  (refine S.done ?_; simp only [p9, p8, go_sem, Nat.reduceBEq, Nat.reduceAdd, Nat.reduceLeDiff, Int.reduceToNat, Int.reducePow]; (repeat (refine ⟨?_, ?_⟩; focus first | trivial | omega | simp)); exact j3.out rfl (Imp.tup (by (repeat' (first | exact l8.nil | exact Imp.refl rfl | exact Imp.frz rfl rfl rfl | exact Imp.K7 | refine Imp.agg ?_ | refine l8.cons ?_ ?_)))) rfl)
def a0u (l : Lk) (v : Nm.Rt) : Rat := sgQ (Nm.d9 v) * a4c (Nm.d9 l.brake) (w9 (Nm.d9 v)) (H6 (Nm.d9 l.brake) (Nm.d9 v)).toNat
theorem b2A {l : Lk} {v : Nm.Rt} (h : Few l v) : Rb 2048 (Nm.ofQ (a0u l v)) := by
 obtain ⟨hb, hv, h0, hle⟩ := h
 have hs : sgQ (Nm.d9 v) = 1 \/ sgQ (Nm.d9 v) = -1 := by unfold sgQ; split <;> simp
 have ra := a9O (hv.fit (by decide))
 have rb := hb.fit (by decide)
 have hw : Rb 2048 (Nm.ofQ (a4c (Nm.d9 l.brake) (w9 (Nm.d9 v)) (H6 (Nm.d9 l.brake) (Nm.d9 v)).toNat)) := by
  have hn : (H6 (Nm.d9 l.brake) (Nm.d9 v)).toNat <= 8 := by omega
  generalize (H6 (Nm.d9 l.brake) (Nm.d9 v)).toNat = n at *
  have hm : n * (n - 1) <= 8 * 8 := Nat.mul_le_mul hn (by omega)
  have i1 : Rb 8 (Nm.ofQ ((n - 1 : Nat) : Rat)) := a6P (n := ((n - 1 : Nat) : Int)) (by omega)
  have i2 : Rb 8 (Nm.ofQ ((n * (n - 1) / 2 : Nat) : Rat)) := a6P (n := ((n * (n - 1) / 2 : Nat) : Int)) (by omega)
  unfold a4c
  split
  ·exact I8.mono (by decide)
  ·exact (M6 (J5 i1 ra) (J5 rb i2)).mono (by decide)
 unfold a0u
 rcases hs with e | e <;> rw [e]
 ·rw [Rat.one_mul]; exact hw
 ·rw [show (-1 : Rat) * a4c (Nm.d9 l.brake) (w9 (Nm.d9 v)) (H6 (Nm.d9 l.brake) (Nm.d9 v)).toNat = -a4c (Nm.d9 l.brake) (w9 (Nm.d9 v)) (H6 (Nm.d9 l.brake) (Nm.d9 v)).toNat by grind]
  exact a3J hw
theorem b9U (v : Rat) : y9 v < 0 <-> v < 0 := by
 have h := a0C v
 rcases h with h | h | h <;> constructor <;> intro h2 <;> first | omega | grind
theorem c2i (l : Lk) (v : Nm.Rt) (h : Few l v) : FZ 120 [l.c, rc v] (.tup [rq (a0u l v), ints 0]) := by
 refine kW Tryz.func120 (by cbv) (by rfl) fun w O hw => ?_
 have o1 := b4r l v h
 obtain ⟨hb, hv, h0, hle⟩ := h
 have hT := (a2H (V := Nm.d9 v) (a3h h0)).1
 have ra := a9O (hv.fit (by decide))
 have rb := hb.fit (by decide)
 have o2 := a7q
 have o3 := a9d v (hv.mono (by decide))
 have o4 := V8 v (hv.mono (by decide))
 have hsn := b9U (Nm.d9 v)
 unfold a0u sgQ a4c
 obtain ⟨n, hn⟩ : ∃ n : Nat, H6 (Nm.d9 l.brake) (Nm.d9 v) = n := ⟨(H6 (Nm.d9 l.brake) (Nm.d9 v)).toNat, by omega⟩
 rw [hn] at hle o1 ⊢
 rw [c2X]
 clear hn
 generalize w9 (Nm.d9 v) = V at *
 generalize hBq : Nm.d9 l.brake = B at *
 by_cases h2 : n < 2
 ·rw [if_pos h2, show (if Nm.d9 v < 0 then (-1 : Rat) else 1) * 0 = 0 by grind]
  unfold rq at *
  generalize Nm.ofQ 0 = z at *
  simp only [l6]
  simp only [Lk.c, Lk.enc, rc, vts, sb, ints] at *
  (repeat first | refine uA ?_ | (refine uK ?_ ?_; focus first | omega | (intros; simp_all <;> omega)) | simp (disch := omega) only [go_sem, Nat.reduceBEq, Nat.reduceAdd, ww] | (refine uD o1 ?_ ?_ ?_; exact tz hw; exact rfl))
  refine S.cond rfl (fun hc => by simp at hc) (fun hc => ?_)
  (repeat first | refine uA ?_ | (refine uK ?_ ?_; focus first | omega | (intros; simp_all <;> omega)) | simp (disch := omega) only [go_sem, Nat.reduceBEq, Nat.reduceAdd, ww])
  refine S.cond rfl (fun hc => ?_) (fun hc => by simp at hc; omega)
  (repeat first | refine uA ?_ | (refine uK ?_ ?_; focus first | omega | (intros; simp_all <;> omega)) | simp (disch := omega) only [go_sem, Nat.reduceBEq, Nat.reduceAdd, ww] | (refine uD o2 ?_ ?_ ?_; exact tz hw; exact rfl))
  (refine S.done ?_; simp only [p9, p8, go_sem, Nat.reduceBEq, Nat.reduceAdd, Nat.reduceLeDiff, Int.reduceToNat, Int.reducePow]; (repeat (refine ⟨?_, ?_⟩; focus first | trivial | omega | simp)); exact j3.out rfl (Imp.tup (by (repeat' (first | exact l8.nil | exact Imp.refl rfl | exact Imp.frz rfl rfl rfl | exact Imp.K7 | refine Imp.agg ?_ | refine l8.cons ?_ ?_)))) rfl)
 rw [if_neg h2]
 have hm : n * (n - 1) <= 8 * 8 := Nat.mul_le_mul (show n <= 8 by omega) (by omega)
 have hm0 : (n : Int) * ((n : Int) - 1) = ((n * (n - 1) : Nat) : Int) := by
  rw [Int.natCast_mul]; congr 1; omega
 have e1 : IntKind.i64.wrap ((n : Int) - 1) = ((n - 1 : Nat) : Int) := by rw [Eng.wrap_i64 (by omega)]; omega
 have e2 : IntKind.i64.wrap ((n : Int) * ((n - 1 : Nat) : Int)) = ((n * (n - 1) : Nat) : Int) := by
  rw [<- Int.natCast_mul]; exact Eng.wrap_i64 (by omega)
 have e3 : IntKind.i64.wrap (((n * (n - 1) : Nat) : Int).tdiv 2) = ((n * (n - 1) / 2 : Nat) : Int) := by
  rw [show ((n * (n - 1) : Nat) : Int).tdiv 2 = ((n * (n - 1) / 2 : Nat) : Int) from rfl]; exact Eng.wrap_i64 (by omega)
 have i1 : Rb 8 (Nm.ofQ ((n - 1 : Nat) : Rat)) := a6P (n := ((n - 1 : Nat) : Int)) (by omega)
 have i2 : Rb 8 (Nm.ofQ ((n * (n - 1) / 2 : Nat) : Rat)) := a6P (n := ((n * (n - 1) / 2 : Nat) : Int)) (by omega)
 have o5 := a2y ((n - 1 : Nat) : Int) (by omega) (by omega)
 have o6 := a2y ((n * (n - 1) / 2 : Nat) : Int) (by omega) (by omega)
 have o7 := a7n ((n - 1 : Nat) : Rat) V (i1.mono (by decide)) (ra.mono (by decide))
 have o8 := a5s l.brake (Nm.ofQ ((n * (n - 1) / 2 : Nat) : Rat)) (hb.mono (by decide)) (i2.mono (by decide))
 rw [Nm.r9, hBq] at o8
 have r1 := J5 i1 ra
 have r2 := J5 rb i2
 have o9 := b1F (((n - 1 : Nat) : Rat) * V) (B * ((n * (n - 1) / 2 : Nat) : Rat)) (r1.mono (by decide)) (r2.mono (by decide))
 have r3 := M6 r1 r2
 have o10 := a9A (Nm.ofQ (((n - 1 : Nat) : Rat) * V - B * ((n * (n - 1) / 2 : Nat) : Rat))) (r3.mono (by decide))
 rw [Nm.r9] at o10
 rw [show (((n - 1 : Nat) : Int) : Rat) = ((n - 1 : Nat) : Rat) from rfl] at o5
 rw [show (((n * (n - 1) / 2 : Nat) : Int) : Rat) = ((n * (n - 1) / 2 : Nat) : Rat) from rfl] at o6
 have key : (if Nm.d9 v < 0 then (-1 : Rat) else 1) * (((n - 1 : Nat) : Rat) * V - B * ((n * (n - 1) / 2 : Nat) : Rat)) = if y9 (Nm.d9 v) < 0 then -(((n - 1 : Nat) : Rat) * V - B * ((n * (n - 1) / 2 : Nat) : Rat)) else ((n - 1 : Nat) : Rat) * V - B * ((n * (n - 1) / 2 : Nat) : Rat) := by
  by_cases hv0 : Nm.d9 v < 0
  ·rw [if_pos hv0, if_pos (hsn.2 hv0)]; grind
  ·rw [if_neg hv0, if_neg fun h => hv0 (hsn.1 h)]; grind
 rw [key]
 clear key hsn r1 r2 r3 i1 i2 ra rb hm hm0 hv hb h0 hBq
 generalize y9 (Nm.d9 v) = sg at *
 generalize ((n - 1 : Nat) : Rat) * V = x1 at *
 generalize B * ((n * (n - 1) / 2 : Nat) : Rat) = x2 at *
 generalize x1 - x2 = x3 at *
 generalize -x3 = x4 at *
 generalize hk1 : n - 1 = k1 at *
 generalize n * k1 / 2 = k2 at *
 unfold rq at *
 generalize Nm.ofQ V = y1 at *
 generalize Nm.ofQ (k1 : Rat) = y2 at *
 generalize Nm.ofQ (k2 : Rat) = y3 at *
 generalize Nm.ofQ x1 = y4 at *
 generalize Nm.ofQ x2 = y5 at *
 simp only [l6]
 simp only [Lk.c, Lk.enc, rc, vts, sb, ints] at *
 (repeat first | refine uA ?_ | (refine uK ?_ ?_; focus first | omega | (intros; simp_all <;> omega)) | simp (disch := omega) only [go_sem, Nat.reduceBEq, Nat.reduceAdd, ww] | (refine uD o1 ?_ ?_ ?_; exact tz hw; exact rfl))
 refine S.cond rfl (fun hc => by simp at hc) (fun hc => ?_)
 (repeat first | refine uA ?_ | (refine uK ?_ ?_; focus first | omega | (intros; simp_all <;> omega)) | simp (disch := omega) only [go_sem, Nat.reduceBEq, Nat.reduceAdd, ww])
 refine S.cond rfl (fun hc => by simp at hc; omega) (fun hc => ?_)
 (repeat first | refine uA ?_ | (refine uK ?_ ?_; focus first | omega | (intros; simp_all <;> omega)) | simp (disch := omega) only [go_sem, Nat.reduceBEq, Nat.reduceAdd, ww, e1, e2, e3] | (refine uD o5 ?_ ?_ ?_; exact tz hw; exact rfl) | (refine uD o3 ?_ ?_ ?_; exact tz hw; exact rfl) | (refine uD o7 ?_ ?_ ?_; exact tz hw; exact rfl) | (refine uD o6 ?_ ?_ ?_; exact tz hw; exact rfl) | (refine uD o8 ?_ ?_ ?_; exact tz hw; exact rfl) | (refine uD o9 ?_ ?_ ?_; exact tz hw; exact rfl) | (refine uD o4 ?_ ?_ ?_; exact tz hw; exact rfl))
 refine S.cond rfl (fun hc => ?_) (fun hc => ?_)
 ·rw [if_pos (by simpa using hc)]
  generalize Nm.ofQ x3 = y6 at *
  generalize Nm.ofQ x4 = y7 at *
  (repeat first | refine uA ?_ | (refine uK ?_ ?_; focus first | omega | (intros; simp_all <;> omega)) | simp (disch := omega) only [go_sem, Nat.reduceBEq, Nat.reduceAdd, ww] | (refine uD o10 ?_ ?_ ?_; exact tz hw; exact rfl))
  (refine S.done ?_; simp only [p9, p8, go_sem, Nat.reduceBEq, Nat.reduceAdd, Nat.reduceLeDiff, Int.reduceToNat, Int.reducePow]; (repeat (refine ⟨?_, ?_⟩; focus first | trivial | omega | simp)); exact j3.out rfl (Imp.tup (by (repeat' (first | exact l8.nil | exact Imp.refl rfl | exact Imp.frz rfl rfl rfl | exact Imp.K7 | refine Imp.agg ?_ | refine l8.cons ?_ ?_)))) rfl)
 ·rw [if_neg (by simpa using hc)]
  generalize Nm.ofQ x3 = y6 at *
  (repeat first | refine uA ?_ | (refine uK ?_ ?_; focus first | omega | (intros; simp_all <;> omega)) | simp (disch := omega) only [go_sem, Nat.reduceBEq, Nat.reduceAdd, ww])
  (refine S.done ?_; simp only [p9, p8, go_sem, Nat.reduceBEq, Nat.reduceAdd, Nat.reduceLeDiff, Int.reduceToNat, Int.reducePow]; (repeat (refine ⟨?_, ?_⟩; focus first | trivial | omega | simp)); exact j3.out rfl (Imp.tup (by (repeat' (first | exact l8.nil | exact Imp.refl rfl | exact Imp.frz rfl rfl rfl | exact Imp.K7 | refine Imp.agg ?_ | refine l8.cons ?_ ?_)))) rfl)
structure Sn where
 lo : Nm.Rt
 hi : Nm.Rt
def Sn.enc (s : Sn) : List C := [.v (.bool s.lo.neg), sb s.lo.num, sb s.lo.den, .v (.bool s.hi.neg), sb s.hi.num, sb s.hi.den]
def Sn.c (s : Sn) : C := .agg s.enc
def snQ (p q : Rat) : Sn := ⟨Nm.ofQ p, Nm.ofQ q⟩
theorem c1H (a : Nm.Rt) (h : Rb 1048576 a) : FZ 75 [rc a] (snQ (Nm.d9 a) (Nm.d9 a)).c := by
 refine kW Tryz.func75 (by cbv) (by rfl) fun w O hw => ?_
 have o1 := a5j a a (h.mono (by decide)) (h.mono (by decide))
 rw [show J7 (Nm.d9 a) (Nm.d9 a) = Nm.d9 a by unfold J7; split <;> rfl] at o1
 unfold snQ
 unfold rq at *
 generalize Nm.ofQ (Nm.d9 a) = z at *
 simp only [l6]
 simp only [Sn.c, Sn.enc, rc, sb, ints] at *
 (repeat first | refine uA ?_ | (refine uK ?_ ?_; focus first | omega | (intros; simp_all <;> omega)) | simp (disch := omega) only [go_sem, Nat.reduceBEq, Nat.reduceAdd, ww] | (refine uD o1 ?_ ?_ ?_; exact tz hw; exact rfl))
 (refine S.done ?_; simp only [p9, p8, go_sem, Nat.reduceBEq, Nat.reduceAdd, Nat.reduceLeDiff, Int.reduceToNat, Int.reducePow]; (repeat (refine ⟨?_, ?_⟩; focus first | trivial | omega | simp)); exact j3.out rfl (Imp.refl rfl) rfl)
theorem b8c (p q : Rat) (h : p <= q) (hp : Rb 1048576 (Nm.ofQ p)) (hq : Rb 1048576 (Nm.ofQ q)) : FZ 141 [(snQ p q).c] (.v (.bool true)) := by
 refine kW Tryz.func141 (by cbv) (by rfl) fun w O hw => ?_
 have o1 := a1e (Nm.ofQ p) (hp.mono (by decide))
 have o2 := a1e (Nm.ofQ q) (hq.mono (by decide))
 rw [decide_eq_true (Nm.Y2 _)] at o1 o2
 have o3 := X5 (Nm.ofQ p) (Nm.ofQ q) (hp.mono (by decide)) (hq.mono (by decide))
 rw [Nm.r9, Nm.r9] at o3
 have hc : decide (Nm.z8 p q <= 0) = true := decide_eq_true (by
  have h1 := V9 p q
  have : ¬ 0 < Nm.z8 p q := fun h2 => by have := h1.1 h2; grind
  omega)
 unfold snQ
 generalize Nm.z8 p q = c at *
 generalize Nm.ofQ p = x at *
 generalize Nm.ofQ q = y at *
 simp only [l6]
 simp only [Sn.c, Sn.enc, rc, sb, ints] at *
 (repeat first | refine uA ?_ | (refine uK ?_ ?_; focus first | omega | (intros; simp_all <;> omega)) | simp (disch := omega) only [go_sem, Nat.reduceBEq, Nat.reduceAdd, ww, hc] | (refine uD o1 ?_ ?_ ?_; exact tz hw; exact rfl) | (refine uD o2 ?_ ?_ ?_; exact tz hw; exact rfl) | (refine uD o3 ?_ ?_ ?_; exact tz hw; exact rfl))
 exact S.done (j3.out rfl (Imp.refl rfl) rfl)
theorem b4E (p q : Rat) (h : p <= q) (hp : Rb 1048576 (Nm.ofQ p)) (hq : Rb 1048576 (Nm.ofQ q)) : FZ 121 [(snQ p q).c] (snQ p q).c := by
 refine kW Tryz.func121 (by cbv) (by rfl) fun w O hw => ?_
 have o1 := b8c p q h hp hq
 unfold snQ at *
 generalize Nm.ofQ p = x at *
 generalize Nm.ofQ q = y at *
 simp only [l6]
 simp only [Sn.c, Sn.enc, sb] at *
 (repeat first | refine uA ?_ | (refine uK ?_ ?_; focus first | omega | (intros; simp_all <;> omega)) | simp (disch := omega) only [go_sem, Nat.reduceBEq, Nat.reduceAdd, ww] | (refine uD o1 ?_ ?_ ?_; exact tz hw; exact rfl))
 refine S.cond rfl (fun hc => by simp at hc) (fun hc => ?_)
 (repeat first | refine uA ?_ | (refine uK ?_ ?_; focus first | omega | (intros; simp_all <;> omega)) | simp (disch := omega) only [go_sem, Nat.reduceBEq, Nat.reduceAdd, ww])
 (refine S.done ?_; simp only [p9, p8, go_sem, Nat.reduceBEq, Nat.reduceAdd, Nat.reduceLeDiff, Int.reduceToNat, Int.reducePow]; (repeat (refine ⟨?_, ?_⟩; focus first | trivial | omega | simp)); exact j3.out rfl (Imp.refl rfl) rfl)
theorem b8H (p q r s : Rat) (h1 : p <= q) (h2 : r <= s) (hp : Rb 1048576 (Nm.ofQ p)) (hq : Rb 1048576 (Nm.ofQ q)) (hr : Rb 1048576 (Nm.ofQ r)) (hs : Rb 1048576 (Nm.ofQ s)) : FZ 74 [(snQ p q).c, (snQ r s).c] (snQ (J7 p r) (O4 q s)).c := by
 refine kW Tryz.func74 (by cbv) (by rfl) fun w O hw => ?_
 have o1 := b4E p q h1 hp hq
 have o2 := b4E r s h2 hr hs
 have o3 := a5j (Nm.ofQ p) (Nm.ofQ r) (hp.mono (by decide)) (hr.mono (by decide))
 have o4 := a9i (Nm.ofQ q) (Nm.ofQ s) (hq.mono (by decide)) (hs.mono (by decide))
 rw [Nm.r9, Nm.r9] at o3 o4
 unfold snQ at *
 unfold rq at *
 generalize Nm.ofQ (J7 p r) = m1 at *
 generalize Nm.ofQ (O4 q s) = m2 at *
 generalize Nm.ofQ p = x at *
 generalize Nm.ofQ q = y at *
 generalize Nm.ofQ r = z at *
 generalize Nm.ofQ s = t at *
 simp only [l6]
 simp only [Sn.c, Sn.enc, rc, sb] at *
 (repeat first | refine uA ?_ | (refine uK ?_ ?_; focus first | omega | (intros; simp_all <;> omega)) | simp (disch := omega) only [go_sem, Nat.reduceBEq, Nat.reduceAdd, ww] | (refine uD o1 ?_ ?_ ?_; exact tz hw; exact rfl) | (refine uD o2 ?_ ?_ ?_; exact tz hw; exact rfl) | (refine uD o3 ?_ ?_ ?_; exact tz hw; exact rfl) | (refine uD o4 ?_ ?_ ?_; exact tz hw; exact rfl))
 (refine S.done ?_; simp only [p9, p8, go_sem, Nat.reduceBEq, Nat.reduceAdd, Nat.reduceLeDiff, Int.reduceToNat, Int.reducePow]; (repeat (refine ⟨?_, ?_⟩; focus first | trivial | omega | simp)); exact j3.out rfl (Imp.refl rfl) rfl)
def b1H (l : Lk) (t v : Nm.Rt) : Sn := snQ (J7 (Nm.d9 t) (Nm.d9 t + a0u l v)) (O4 (Nm.d9 t) (Nm.d9 t + a0u l v))
def a4q (L : List Lk) (t v : List Nm.Rt) : List Sn := (L.zip (t.zip v)).map fun z => b1H z.1 z.2.1 z.2.2
theorem b0G {L : List Lk} {t v : List Nm.Rt} {i : Nat} {l : Lk} {x y : Nm.Rt} (h1 : L[i]? = some l) (h2 : t[i]? = some x) (h3 : v[i]? = some y) : (a4q L t v)[i]? = some (b1H l x y) := by
 unfold a4q
 rw [c3i, F7 h1 (F7 h2 h3)]
 rfl
theorem b1t {L : List Lk} {t v : List Nm.Rt} (h1 : t.length = L.length) (h2 : v.length = L.length) : (a4q L t v).length = L.length := by
 unfold a4q; simp only [c2N, List.length_zip]; omega
theorem b9I {E : Ctx} (hP : E.P = Tryz.prog) (ht0 : Tz E) (a : Am) (t v : List Nm.Rt) (hl : Ab 1073741824 a) (ha : G8 a = 0) (hq : t.length = a.links.length) (hv : v.length = a.links.length) (htb : ∀ r ∈ t, Rb 4096 r) (hf : ∀ (i : Nat) (l : Lk) (x : Nm.Rt), a.links[i]? = some l -> v[i]? = some x -> Few l x) :
  j5 E [] 73 [a.c, rts t, rts v] (.tup [.rv 1, ints 0]) [.gone, .row 81 6 ((a4q a.links t v).map Sn.enc)] [] := by
 obtain ⟨P, eff', N, w0, own0, av0, nu0, pk0⟩ := E
 simp only at hP
 subst hP
 refine j5.ofT (eff := eff) ht0 Tryz.func73 (by cbv) (by exact c3c rfl) fun w' own av ν hν ht => ?_
 have hν0 : ν.length <= 0 := by rw [hν]; exact c2V _
 have hfit := b4K a t v hl ha hq hv
 have hn := hl.2.2.1
 have hsl := b1t hq hv
 have hsg := @b0G a.links t v
 have hz := a7q
 generalize a4q a.links t v = SL at *
 obtain ⟨name, ⟨bx, by', half, tu⟩, links⟩ := a
 simp only at hq hv hn hf hsl hsg ⊢
 simp only [l6]
 simp only [Am.c, Am.enc, lks, rts, sb, ints] at hfit ⊢
 (repeat first | refine uA ?_ | (refine uK ?_ ?_; focus first | omega | (intros; simp_all <;> omega)) | simp (disch := omega) only [go_sem, Nat.reduceBEq, Nat.reduceAdd, ww] | (refine uD hfit ?_ ?_ ?_; exact ht; exact rfl))
 refine S.cond rfl (fun hc => by simp at hc) (fun hc => ?_)
 (repeat first | refine uA ?_ | (refine uK ?_ ?_; focus first | omega | (intros; simp_all <;> omega)) | simp (disch := omega) only [go_sem, Nat.reduceBEq, Nat.reduceAdd, ww, c2N])
 refine S.loop (X := Nat) (fun i => ⟨[(1, rts t), (2, rts v), (9, .rv 1), (24, lks links), (25, ints links.length), (26, ints i)], [.gone, .row 81 6 ((SL.take i).map Sn.enc)]⟩) (fun i => i <= links.length) (fun i => links.length - i) 0 (c2T _)
  (Ent.trans (Ent.pack 9 81 6 rfl) (by (repeat first | refine uA ?_ | (refine ⟨?_, ?_⟩; focus first | rfl | simp [slot]) | rfl | simp | exact c2Q hν0 (by simp)))) ?_
 intro i hi
 simp only [lks, rts, ints]
 (repeat first | refine uA ?_ | (refine uK ?_ ?_; focus first | omega | (intros; simp_all <;> omega)) | simp (disch := omega) only [go_sem, Nat.reduceBEq, Nat.reduceAdd, ww])
 (refine uJ rfl (fun hc => ?_) fun hc => ?_)
 ·have hi' : i < links.length := by omega
  have hgl := c2M hi'
  have hgt := c2M (show i < t.length by omega)
  have hgv := c2M (show i < v.length by omega)
  generalize links[i] = l at *
  generalize t[i]'_ = x at *
  generalize v[i]'_ = y at *
  have hgs := hsg hgl hgt hgv
  have hap := take_at hgs
  have htl : (SL.take i).length = i := by rw [c2W]; omega
  have hF := hf i l y hgl hgv
  have rx := htb x (c2P hgt)
  have rw' := b2A hF
  have r0 := rx.fit (by decide)
  have o1 := c2i l y hF
  have o2 := a1h x (Nm.ofQ 0) (rx.mono (by decide)) (I8.mono (by decide))
  rw [Nm.r9, Rat.add_zero] at o2
  have o3 := a9o (Nm.d9 x) (a0u l y) (r0.mono (by decide)) (rw'.mono (by decide))
  have r1 := M7 r0 rw'
  have o4 := a5j (Nm.ofQ (Nm.d9 x)) (Nm.ofQ (Nm.d9 x + a0u l y)) (r0.mono (by decide)) (r1.mono (by decide))
  have o5 := a9i (Nm.ofQ (Nm.d9 x)) (Nm.ofQ (Nm.d9 x + a0u l y)) (r0.mono (by decide)) (r1.mono (by decide))
  rw [Nm.r9, Nm.r9] at o4 o5
  unfold b1H snQ at hap
  unfold rq at o1 o2 o3 o4 o5 hz
  generalize Nm.ofQ (J7 (Nm.d9 x) (Nm.d9 x + a0u l y)) = m1 at *
  generalize Nm.ofQ (O4 (Nm.d9 x) (Nm.d9 x + a0u l y)) = m2 at *
  generalize Nm.ofQ (Nm.d9 x + a0u l y) = z1 at *
  generalize Nm.ofQ (Nm.d9 x) = z2 at *
  generalize Nm.ofQ (a0u l y) = z3 at *
  generalize Nm.ofQ 0 = z0 at *
  clear hsg hf htb hgs hF rx rw' r0 r1
  simp only [Lk.c, Lk.enc, vts, rc, sb, ints] at o1 o2 o3 o4 o5 hz
  (repeat first | refine uA ?_ | (refine uK ?_ ?_; focus first | omega | (intros; simp_all <;> omega)) | simp (disch := omega) only [go_sem, Nat.reduceBEq, Nat.reduceAdd, ww, hgl, hgv, c2O, c2N, Lk.enc, rcs, vts, sb, ints, c2X] | (refine uD o1 ?_ ?_ ?_; exact ht; exact rfl))
  refine S.cond rfl (fun hc => by simp at hc) (fun hc => ?_)
  (repeat first | refine uA ?_ | (refine uK ?_ ?_; focus first | omega | (intros; simp_all <;> omega)) | simp (disch := omega) only [go_sem, Nat.reduceBEq, Nat.reduceAdd, ww, hgt, c2O, c2N, htl, rcs, sb, ints, c2X] | (refine uD hz ?_ ?_ ?_; exact ht; exact rfl) | (refine uD o2 ?_ ?_ ?_; exact ht; exact rfl) | (refine uD o3 ?_ ?_ ?_; exact ht; exact rfl) | (refine uD o4 ?_ ?_ ?_; exact ht; exact rfl) | (refine uD o5 ?_ ?_ ?_; exact ht; exact rfl))
  refine S.next (i + 1) (by omega) (by omega) (by simp only [hap, c3D, c3e, c3v, Sn.enc, sb]; exact (by (repeat first | refine uA ?_ | (refine ⟨?_, ?_⟩; focus first | rfl | simp [slot]) | rfl | simp | exact c2Q hν0 (by simp))))
 ·have hi' : i = links.length := by omega
  subst hi'
  rw [c3f (by omega)]
  (repeat first | refine uA ?_ | (refine uK ?_ ?_; focus first | omega | (intros; simp_all <;> omega)) | simp (disch := omega) only [go_sem, Nat.reduceBEq, Nat.reduceAdd, ww])
  (refine S.done ?_; simp only [p9, p8, go_sem, Nat.reduceBEq, Nat.reduceAdd, Nat.reduceLeDiff, Int.reduceToNat, Int.reducePow]; (repeat (refine ⟨?_, ?_⟩; focus first | trivial | omega | simp)); exact j3.L8 (Imp.tup (by (repeat' (first | exact l8.nil | exact Imp.refl rfl | exact Imp.frz rfl rfl rfl | exact Imp.K7 | refine Imp.agg ?_ | refine l8.cons ?_ ?_)))) (by (repeat first | refine uA ?_ | (refine ⟨?_, ?_⟩; focus first | rfl | simp [slot]) | rfl | simp)) (c2Q hν0 (by simp)))
def a8Z (l : Lk) (q u : Nm.Rt) : Sn := snQ (loQ q u l.brake) (hiQ q u l.brake)
def a4s (L : List Lk) (q u : List Nm.Rt) : List Sn := (L.zip (q.zip u)).map fun z => a8Z z.1 z.2.1 z.2.2
theorem b1g {L : List Lk} {t v : List Nm.Rt} {i : Nat} {l : Lk} {x y : Nm.Rt} (h1 : L[i]? = some l) (h2 : t[i]? = some x) (h3 : v[i]? = some y) : (a4s L t v)[i]? = some (a8Z l x y) := by
 unfold a4s
 rw [c3i, F7 h1 (F7 h2 h3)]
 rfl
theorem b1d {L : List Lk} {t v : List Nm.Rt} (h1 : t.length = L.length) (h2 : v.length = L.length) : (a4s L t v).length = L.length := by
 unfold a4s; simp only [c2N, List.length_zip]; omega
def toL (q u : List Nm.Rt) : List Nm.Rt := (q.zip u).map fun z => Q5 z.1 z.2
theorem c1r {q u : List Nm.Rt} {i : Nat} {x y : Nm.Rt} (h2 : q[i]? = some x) (h3 : u[i]? = some y) : (toL q u)[i]? = some (Q5 x y) := by
 unfold toL
 rw [c3i, F7 h2 h3]
 rfl
theorem c1G {q u : List Nm.Rt} (h : u.length = q.length) : (toL q u).length = q.length := by
 unfold toL; simp only [c2N, List.length_zip]; omega
theorem b3Q {z : List (Lk × Nm.Rt)} {i : Nat} {x : Lk × Nm.Rt} (h : z[i]? = some x) : R4 (z.take (i + 1)) = if R4 (z.take i) < H6 (Nm.d9 x.1.brake) (Nm.d9 x.2) then H6 (Nm.d9 x.1.brake) (Nm.d9 x.2) else R4 (z.take i) := by
 unfold R4
 rw [take_at h, List.foldl_append, List.foldl_cons, List.foldl_nil]
 generalize List.foldl _ _ _ = m
 generalize H6 _ _ = k
 split <;> omega
theorem c0n (p q : Rat) : J7 p q <= O4 p q := by
 have h1 := (a7j p q).1
 have h2 := (a7e p q).1
 grind
theorem a9Y {k : Nat} {p q : Rat} (hp : Rb k (Nm.ofQ p)) (hq : Rb k (Nm.ofQ q)) : Rb k (Nm.ofQ (J7 p q)) := by unfold J7; split; exact hp; exact hq
theorem a9V {k : Nat} {p q : Rat} (hp : Rb k (Nm.ofQ p)) (hq : Rb k (Nm.ofQ q)) : Rb k (Nm.ofQ (O4 p q)) := by unfold O4; split; exact hp; exact hq
theorem c0O (a : Am) (q u : List Nm.Rt) (hl : Ab 1073741824 a) (ha : G8 a = 0) (hq : q.length = a.links.length) (hv : u.length = a.links.length) (hqb : ∀ r ∈ q, Rb 1024 r) (hf : ∀ (i : Nat) (l : Lk) (x : Nm.Rt), a.links[i]? = some l -> u[i]? = some x -> Few l x) :
  FZ 21 [a.c, rts q, rts u] (.tup [.sl 6 ((a4s a.links q u).map Sn.enc), ints (R4 (a.links.zip u) + 1), ints 0]) := by
 refine kW Tryz.func21 (by cbv) (by rfl) fun w O hw => ?_
 have hck := a8D a hl
 rw [ha] at hck
 have hn := hl.2.2.1
 have htl := c1G (q := q) (u := u) (by omega)
 have htg := @c1r q u
 have hsp := fun (E : Ctx) (hP : E.P = Tryz.prog) (ht : Tz E) => b9I hP ht a (toL q u) u hl ha (by omega) hv (fun r hr => by
  obtain ⟨x, hx, y, hy, rfl⟩ := a4h hr
  obtain ⟨i, hi⟩ := List.getElem?_of_mem hy
  have hil := (c2R.1 hi).1
  exact (M7 ((hqb x hx).fit (by decide)) ((hf i _ y (c2M (show i < a.links.length by omega)) hi).hv.fit (by decide))).mono (by decide)) hf
 have hsl := b1t (L := a.links) (t := toL q u) (v := u) (by omega) hv
 have hsg := @b0G a.links (toL q u) u
 have hrl := b1d (L := a.links) hq hv
 have hrg := @b1g a.links q u
 have htk := @b3Q (a.links.zip u)
 have hzl : (a.links.zip u).length = a.links.length := by rw [List.length_zip]; omega
 have hT8 : ∀ i, 0 <= R4 ((a.links.zip u).take i) /\ R4 ((a.links.zip u).take i) <= 8 := fun i => by
  refine ⟨a3u _, ?_⟩
  have key : ∀ (z : List (Lk × Nm.Rt)) (m : Int), m <= 8 -> (∀ x ∈ z, H6 (Nm.d9 x.1.brake) (Nm.d9 x.2) <= 8) -> z.foldl (fun m z => max m (H6 (Nm.d9 z.1.brake) (Nm.d9 z.2))) m <= 8 := by
   intro z
   induction z with
   | nil => intro m hm _; exact hm
   | cons x z ih =>
    intro m hm hx
    rw [List.foldl_cons]
    have := hx x (by simp)
    exact ih _ (by omega) fun y hy => hx y (by simp [hy])
  refine key _ 0 (by decide) fun x hx => ?_
  obtain ⟨j, hj⟩ := List.getElem?_of_mem (List.mem_of_mem_take hx)
  rw [List.getElem?_zip_eq_some] at hj
  exact (hf j _ _ hj.1 hj.2).few
 have hzg := fun (i : Nat) (l : Lk) (x : Nm.Rt) (h1 : a.links[i]? = some l) (h2 : u[i]? = some x) => F7 h1 h2
 have ht0 : R4 ((a.links.zip u).take 0) = 0 := rfl
 have hte : (a.links.zip u).take a.links.length = a.links.zip u := c3f (by omega)
 generalize a4q a.links (toL q u) u = SL at *
 generalize toL q u = T at *
 generalize a4s a.links q u = RL at *
 generalize a.links.zip u = Z at *
 obtain ⟨name, ⟨bx, by', half, tu⟩, links⟩ := a
 simp only at hq hv hn hf hsl hsg hrl hrg hzl hte hzg hsp ⊢
 simp only [l6]
 simp only [Am.c, Am.enc, lks, rts, sb, ints] at hck hsp ⊢
 (repeat first | refine uA ?_ | (refine uK ?_ ?_; focus first | omega | (intros; simp_all <;> omega)) | simp (disch := omega) only [go_sem, Nat.reduceBEq, Nat.reduceAdd, ww] | (refine uD hck ?_ ?_ ?_; exact tz hw; exact rfl))
 refine S.cond rfl (fun hc => by simp at hc) (fun hc => ?_)
 (repeat first | refine uA ?_ | (refine uK ?_ ?_; focus first | omega | (intros; simp_all <;> omega)) | simp (disch := omega) only [go_sem, Nat.reduceBEq, Nat.reduceAdd, ww, c2N])
 refine S.cond rfl (fun hc => by simp [hq, hv] at hc) (fun hc => ?_)
 (repeat first | refine uA ?_ | (refine uK ?_ ?_; focus first | omega | (intros; simp_all <;> omega)) | simp (disch := omega) only [go_sem, Nat.reduceBEq, Nat.reduceAdd, ww, c2N])
 refine S.loop (X := Nat) (fun i => ⟨[(1, rts q), (2, rts u), (3, .bp 0 0), (10, .rv 1), (38, ints q.length), (39, ints i)], [.box 51 [sb name, .v (.bool bx.neg), sb bx.num, sb bx.den, .v (.bool by'.neg), sb by'.num, sb by'.den, .v (.bool half), .v (.bool tu.neg), sb tu.num, sb tu.den, lks links], .row 29 3 ((T.take i).map rcs)]⟩) (fun i => i <= q.length) (fun i => q.length - i) 0 (c2T _)
  (Ent.trans (Ent.pack 10 29 3 rfl) (by (repeat first | refine uA ?_ | (refine ⟨?_, ?_⟩; focus first | rfl | simp [slot]) | rfl | simp))) ?_
 intro i hi
 simp only [lks, rts, sb, ints]
 (repeat first | refine uA ?_ | (refine uK ?_ ?_; focus first | omega | (intros; simp_all <;> omega)) | simp (disch := omega) only [go_sem, Nat.reduceBEq, Nat.reduceAdd, ww])
 (refine uJ rfl (fun hc => ?_) fun hc => ?_)
 ·have hi' : i < q.length := by omega
  have hgl := c2M (show i < links.length by omega)
  have hgq := c2M hi'
  have hgu := c2M (show i < u.length by omega)
  generalize q[i]'_ = x at *
  generalize u[i]'_ = y at *
  have hap := take_at (htg hgq hgu)
  have htl : (T.take i).length = i := by rw [c2W]; omega
  have o1 := a1h x y ((hqb x (c2P hgq)).mono (by decide)) ((hf i _ y hgl hgu).hv.mono (by decide))
  unfold Q5 at hap
  unfold rq at o1
  generalize Nm.ofQ (Nm.d9 x + Nm.d9 y) = z at *
  clear hsg hf hqb hrg htg htk hsp hgl hzg
  simp only [rc, sb] at o1
  (repeat first | refine uA ?_ | (refine uK ?_ ?_; focus first | omega | (intros; simp_all <;> omega)) | simp (disch := omega) only [go_sem, Nat.reduceBEq, Nat.reduceAdd, ww, hgq, hgu, c2O, c2N, htl, rcs, sb, c2X] | (refine uD o1 ?_ ?_ ?_; exact tz hw; exact rfl))
  refine S.next (i + 1) (by omega) (by omega) (by simp only [hap, c3D, c3e, c3v, rcs, sb]; exact (by (repeat first | refine uA ?_ | (refine ⟨?_, ?_⟩; focus first | rfl | simp [slot]) | rfl | simp)))
 have hi' : i = q.length := by omega
 subst hi'
 rw [c3f (by omega)]
 refine S.exit rfl ?_
 refine S.weaken (st' := ⟨[(1, rts q), (2, rts u), (3, .bp 0 0), (10, .sl 3 (T.map rcs))], [.box 51 [sb name, .v (.bool bx.neg), sb bx.num, sb bx.den, .v (.bool by'.neg), sb by'.num, sb by'.den, .v (.bool half), .v (.bool tu.neg), sb tu.num, sb tu.den, lks links]]⟩) (Ent.mk _ _ (by (repeat' (first | exact Q8.nil | exact Imp.junk | exact Imp.refl rfl | exact Imp.frz rfl rfl rfl | exact Imp.eq (by simp [slot]; done) rfl | refine Q8.cons ?_ ?_))) (by (repeat' (first | exact K9.nil | exact RI.gone _ | exact RI.row _ _ _ _ rfl | exact RI.map _ _ _ rfl | exact RI.box _ _ _ (l8.refl rfl) | (refine RI.box _ _ _ ?_; (repeat' (first | exact l8.nil | exact Imp.refl rfl | exact Imp.frz rfl rfl rfl | exact Imp.K7 | refine l8.cons ?_ ?_))) | refine K9.cons ?_ ?_))) (c2T _)) ?_
 simp only [lks, rts, sb, ints]
 (repeat first | refine uA ?_ | (refine uK ?_ ?_; focus first | omega | (intros; simp_all <;> omega)) | simp (disch := omega) only [go_sem, Nat.reduceBEq, Nat.reduceAdd, ww, C.sh, C.shL, c3g, List.length_nil] | refine l7.t (j5.pre (hsp _ rfl (tz hw)) rfl rfl rfl) ?_)
 refine S.cond rfl (fun hc => by simp at hc) (fun hc => ?_)
 (repeat first | refine uA ?_ | (refine uK ?_ ?_; focus first | omega | (intros; simp_all <;> omega)) | simp (disch := omega) only [go_sem, Nat.reduceBEq, Nat.reduceAdd, ww, c2N])
 refine S.loop (X := Nat) (fun i => ⟨[(1, rts q), (2, rts u), (3, .bp 0 0), (12, .rv 2), (14, ints (R4 (Z.take i))), (66, ints SL.length), (67, ints i)], [.box 51 [sb name, .v (.bool bx.neg), sb bx.num, sb bx.den, .v (.bool by'.neg), sb by'.num, sb by'.den, .v (.bool half), .v (.bool tu.neg), sb tu.num, sb tu.den, lks links], .gone, .row 81 6 ((RL.take i ++ SL.drop i).map Sn.enc)]⟩) (fun i => i <= SL.length) (fun i => SL.length - i) 0 (c2T _) (by rw [ht0]; exact (by (repeat first | refine uA ?_ | (refine ⟨?_, ?_⟩; focus first | rfl | simp [slot]) | rfl | simp))) ?_
 intro i hi
 simp only [lks, rts, sb, ints]
 have hti := hT8 i
 (repeat first | refine uA ?_ | (refine uK ?_ ?_; focus first | omega | (intros; simp_all <;> omega)) | simp (disch := omega) only [go_sem, Nat.reduceBEq, Nat.reduceAdd, ww])
 (refine uJ rfl (fun hc => ?_) fun hc => ?_)
 ·have hi' : i < SL.length := by omega
  have hgl := c2M (show i < links.length by omega)
  have hgq := c2M (show i < q.length by omega)
  have hgu := c2M (show i < u.length by omega)
  generalize links[i]'_ = l at *
  generalize q[i]'_ = x at *
  generalize u[i]'_ = y at *
  have hgs := hsg hgl (htg hgq hgu) hgu
  have hgr := hrg hgl hgq hgu
  have hF := hf i l y hgl hgu
  have hsn := htk (hzg i l y hgl hgu)
  have r1 := (hqb x (c2P hgq)).fit (by decide)
  have r2 := hF.hv.fit (by decide)
  have r3 := M7 r1 r2
  have r4 := M7 r3 (b2A hF)
  have e1 : Nm.d9 (Q5 x y) = Nm.d9 x + Nm.d9 y := by unfold Q5; rw [Nm.r9]
  have e2 : a5K x y l.brake = Nm.d9 x + Nm.d9 y + a0u l y := rfl
  unfold b1H at hgs
  unfold a8Z loQ hiQ at hgr
  rw [e1] at hgs
  rw [e2] at hgr
  have o1 := c1H x ((hqb x (c2P hgq)).mono (by decide))
  have o2 := b8H (J7 (Nm.d9 x + Nm.d9 y) (Nm.d9 x + Nm.d9 y + a0u l y)) (O4 (Nm.d9 x + Nm.d9 y) (Nm.d9 x + Nm.d9 y + a0u l y)) (Nm.d9 x) (Nm.d9 x) (c0n _ _) Rat.le_refl ((a9Y (r3.mono (by decide)) r4).mono (by decide)) ((a9V (r3.mono (by decide)) r4).mono (by decide)) (r1.mono (by decide)) (r1.mono (by decide))
  have o3 := b4r l y hF
  have m1 := b2F (l := RL) (m := SL) (by omega) hgs
  have s1 := a7p Sn.enc (by omega) hgr (m := SL)
  have hml := a3M (l := RL) (m := SL) (i := i) (by omega) (by omega)
  have hb8 := hF.few
  have hb0 := (a2H (V := Nm.d9 y) (a3h hF.pos)).1
  simp only at hsn
  clear r1 r2 r3 r4 e1 e2 hgs hgr hF hsg hf hqb hrg htg htk hsp hzg
  generalize H6 (Nm.d9 l.brake) (Nm.d9 y) = tk at *
  unfold snQ at *
  generalize Nm.ofQ (J7 (J7 (Nm.d9 x + Nm.d9 y) (Nm.d9 x + Nm.d9 y + a0u l y)) (Nm.d9 x)) = n1 at *
  generalize Nm.ofQ (O4 (O4 (Nm.d9 x + Nm.d9 y) (Nm.d9 x + Nm.d9 y + a0u l y)) (Nm.d9 x)) = n2 at *
  generalize Nm.ofQ (J7 (Nm.d9 x + Nm.d9 y) (Nm.d9 x + Nm.d9 y + a0u l y)) = n3 at *
  generalize Nm.ofQ (O4 (Nm.d9 x + Nm.d9 y) (Nm.d9 x + Nm.d9 y + a0u l y)) = n4 at *
  generalize Nm.ofQ (Nm.d9 x) = n5 at *
  generalize R4 (Z.take i) = t0 at *
  generalize hM1 : RL.take (i + 1) ++ SL.drop (i + 1) = M1 at *
  generalize RL.take i ++ SL.drop i = M0 at *
  simp only [Lk.c, Lk.enc, Sn.c, Sn.enc, vts, rc, sb, ints] at o1 o2 o3 s1
  (repeat first | refine uA ?_ | (refine uK ?_ ?_; focus first | omega | (intros; simp_all <;> omega)) | simp (disch := omega) only [go_sem, Nat.reduceBEq, Nat.reduceAdd, ww, hgl, hgq, hgu, m1, s1, hml, c2O, c2N, Lk.enc, Sn.enc, rcs, vts, sb, ints, c2X] | (refine uD o1 ?_ ?_ ?_; exact tz hw; exact rfl) | (refine uD o2 ?_ ?_ ?_; exact tz hw; exact rfl) | (refine uD o3 ?_ ?_ ?_; exact tz hw; exact rfl))
  refine S.cond rfl (fun hc => by simp at hc) (fun hc => ?_)
  (repeat first | refine uA ?_ | (refine uK ?_ ?_; focus first | omega | (intros; simp_all <;> omega)) | simp (disch := omega) only [go_sem, Nat.reduceBEq, Nat.reduceAdd, ww])
  refine S.next (i + 1) (by omega) (by omega) (by simp only [hM1, hsn]; exact (by (repeat first | refine uA ?_ | (refine ⟨?_, ?_⟩; focus first | rfl | simp [slot]) | rfl | simp)))
 ·have hi' : i = SL.length := by omega
  subst hi'
  rw [hsl, hte] at hti
  rw [hsl, hte, <- hrl, c3j, List.drop_eq_nil_of_le (by omega), List.append_nil]
  generalize R4 Z = tz at *
  (repeat first | refine uA ?_ | (refine uK ?_ ?_; focus first | omega | (intros; simp_all <;> omega)) | simp (disch := omega) only [go_sem, Nat.reduceBEq, Nat.reduceAdd, ww])
  (refine S.done ?_; simp only [p9, p8, go_sem, Nat.reduceBEq, Nat.reduceAdd, Nat.reduceLeDiff, Int.reduceToNat, Int.reducePow]; (repeat (refine ⟨?_, ?_⟩; focus first | trivial | omega | simp)); exact j3.out rfl (Imp.tup (by (repeat' (first | exact l8.nil | exact Imp.refl rfl | exact Imp.frz rfl rfl rfl | exact Imp.K7 | refine Imp.agg ?_ | refine l8.cons ?_ ?_)))) rfl)
set_option maxHeartbeats 4000000
structure GInv (w : Wk) (a : Am) (q0 u0 : List Nm.Rt) (i : Nat) (s : Stt) : Prop where
 big : Stb 1048576 s
 people : s.people = []
 tick : s.tick = i
 len : s.arms.length = w.arms.length
 two : I5 w s = 0 \/ I5 w s = 17
 calm : I5 w s = 0 -> Calm w s i
 run : ∃ y, s.arms[0]? = some y /\ Run a q0 u0 i y
def pwL (n i : Nat) : List Bool := (List.replicate n false).set 0 (decide (i = 0))
theorem b3C (n i : Nat) : (pwL n i).length = n := by unfold pwL; rw [c3A, List.length_replicate]
theorem b7z {n : Nat} (i : Nat) (h : 0 < n) : (pwL n i)[0]? = some (decide (i = 0)) := by
 unfold pwL
 rw [List.getElem?_set_self (by rw [List.length_replicate]; exact h)]
theorem c0H (n i : Nat) : (pwL n i).set 0 false = pwL n (i + 1) := by
 unfold pwL
 rw [List.set_set, decide_eq_false (by omega)]
theorem b6t {w : Wk} {s : Stt} {i : Nat} {a : Am} {q0 u0 : List Nm.Rt} {U : List (List Nm.Rt)} (h : GInv w a q0 u0 i s) (hE : I5 w s = 0) (hi : i <= 10) (hU : U.length = w.arms.length) (hUb : ∀ l ∈ U, ∀ r ∈ l, Rb 150 r) (ga : w.arms[0]? = some a) (gu : U[0]? = some u0)
  (ha : G8 a = 0) (hg : q0.all F9 = true) (h0 : q0.length = a.links.length) (hu : u0.length = a.links.length) : GInv w a q0 u0 (i + 1) (Z0 w s U (pwL w.arms.length i) []) := by
 have hC := h.calm hE
 have h3 := b3C w.arms.length i
 have hpos := (c2R.1 ga).1
 refine ⟨b7N hC hU h3 (fun l hl r hr _ => hUb l hl r hr) hi, by simp [Z0, h.people], by have := h.tick; simp only [Z0]; omega, ?_, b8t hC hU h3 hi, fun hE2 => b6Y hC hU h3 (fun l hl r hr _ => hUb l hl r hr) hi hE2, ?_⟩
 ·show (a0X _ _ _ _).length = _
  exact a1Q (R7 hE).arms hU h3
 ·obtain ⟨y, gy, hr⟩ := h.run
  refine ⟨_, a2N ga gy gu (b7z i hpos), ?_⟩
  cases i with
  | zero => exact b6s hr ha hg h0 hu
  | succ k => exact b6G hr ha hg h0 hu
theorem b7u {w : Wk} (to : List Int) {a : Am} (u0 : List Nm.Rt) (hwb : Wb 1048576 w) (hk : X7 w = 0) (ha : ∀ a ∈ w.arms, G8 a = 0) (hs : ∀ s ∈ w.slots, okF s.frame = true) (ga : w.arms[0]? = some a) : GInv w a (a0Q a (to.drop (3 * 0)) (-1)).q u0 0 ⟨0, a0i w to, (D9 w).parts, [], (D9 w).gates⟩ := by
 have hC := a8G to hwb hk ha hs
 have hx := a2b (to := to) ga
 refine ⟨b7d hC (by decide), rfl, rfl, a3f w to, .inl hC.st, fun _ => hC, _, hx, b8e (a0B _ _) (by simp [a0Q]) fun r hr => b5S to _ (c2P hx) r hr⟩
theorem b5N {w : Wk} {s : Stt} {to : List Int} {a : Am} {x : Ast} (ga : w.arms[0]? = some a) (gx : s.arms[0]? = some x) : (a0O (w.arms.zip s.arms) to w.arms.length)[0]? = some (a1z a.links (M4 a.links (to.drop (3 * 0))) x.q) := by
 have hpos := (c2R.1 ga).1
 unfold a0O
 rw [c3i, List.getElem?_range hpos, c2O]
 unfold a2X
 rw [F7 ga gx]
theorem b6K {a : Am} {c q : List Nm.Rt} (ha : G8 a = 0) (hq : ∀ x ∈ a.links, a5r x) (hb : ∀ r ∈ a1z a.links c q, Rb 150 r) (i : Nat) (l : Lk) (x : Nm.Rt) (h1 : a.links[i]? = some l) (h2 : (a1z a.links c q)[i]? = some x) : Few l x := by
 have hl := (J9 ha).2
 have hm := hl l (c2P h1)
 exact ⟨(a5C hm).2.2.2, (hb x (c2P h2)).mono (by decide), a0E hm, (b5L hq (fun x hx => a0E (hl x hx)) _ (c2P (F7 h1 h2))).2⟩
theorem b8A {l : Lk} {q u : Nm.Rt} (hF : Few l u) (hq : Rb 1024 q) : Rb 8192 (Nm.ofQ (loQ q u l.brake)) /\ Rb 8192 (Nm.ofQ (hiQ q u l.brake)) := by
 have r1 := hq.fit (by decide)
 have r3 := M7 r1 (hF.hv.fit (by decide))
 have r4 : Rb 8192 (Nm.ofQ (a5K q u l.brake)) := (M7 r3 (b2A hF)).mono (by decide)
 exact ⟨a9Y (a9Y (r3.mono (by decide)) r4) (r1.mono (by decide)), a9V (a9V (r3.mono (by decide)) r4) (r1.mono (by decide))⟩
def a4i : U3 := ⟨173, [.cell 10 true 5, .tmp 11], .seq (.reg [OA 5 (.box 31 (TT 0)), OA 6 (.box 37 (TT 1)), OA 10 (.alloc 37 [.int .i64 0, .slice none 0 0, .slice none 0 0, .slice none 0 0, .slice none 0 0]), OA 11 (.mv (II 0))]) (.seq (.seq
 (.reg [LL 22 8 5, LL 23 5 6, OA 24 (.call 9 [TT 22, TT 23]), MM 12 24]) (.seq (.reg [MM 25 12, OA 26 (.bin .neq (TT 25) (II 0))]) (.cond (TT 26) (.seq (.reg [OA 27 (.build [.int .i64 0, .slice none 0 0, .slice none 0 0, .slice
 none 0 0, .slice none 0 0] []), MM 28 12, OB (.store 5 (TT 10) (TT 27)), MM 11 28]) .ret) .skip))) (.seq (.seq (.reg [MM 29 2, OA 30 (.len false (TT 29)), FF 31 0 5, VV 32 31, OA 33 (.len false (TT 32)), OA 34 (.bin .neq (TT 30)
 (TT 33)), MM 35 34, MG 36 3 35 false, OC 37 (.len false (TT 36)) 35 false, FG 38 0 5 35 false, VG 39 38 35 false, OC 40 (.len false (TT 39)) 35 false, OC 41 (.bin .neq (TT 37) (TT 40)) 35 false, OA 42 (.pick (TT 35) (.const
 (.bool true)) (TT 41)), MM 43 42, MG 44 4 43 false, OC 45 (.len false (TT 44)) 43 false, FG 46 3 6 43 false, VG 47 46 43 false, OC 48 (.len false (TT 47)) 43 false, OC 49 (.bin .neq (TT 45) (TT 48)) 43 false, OA 50 (.pick (TT
 43) (.const (.bool true)) (TT 49))]) (.cond (TT 50) (.seq (.reg [OA 51 (.build [.int .i64 0, .slice none 0 0, .slice none 0 0, .slice none 0 0, .slice none 0 0] []), OB (.store 5 (TT 10) (TT 51)), OA 11 (.mv (II 1))]) .ret)
 .skip)) (.seq (.seq (.reg [MM 52 4, OA 53 (.len false (TT 52)), OA 54 (.mv (II 0))]) (.block 0 (.loop (.seq (.reg [OA 55 (.bin .lss (TT 54) (TT 53))]) (.seq (.cond (TT 55) .skip (.exit 0)) (.seq (.block 1 (.seq (.reg [OA 56
 (.q8 6 (TT 52) (TT 54)), LL 57 6 56, OA 14 (.alloc 44 [.bool false, .string ⟨#[]⟩, .string ⟨#[]⟩, .bool false, .string ⟨#[]⟩, .string ⟨#[]⟩]), OB (.store 6 (TT 14) (TT 57))]) (.seq (.G6 [.q, .q, .q, .q, .q, .q, .q, .q, .q,
 .q, .q, .q, .q, .q, .q, .q, .q, .q, .q, .q, .q, .q, .q, .q, .q, .q, .q, .q] [FF 58 0 14, LL 59 3 58, OA 60 (.call 40 [TT 59]), OA 61 (.un .not (TT 60)), MM 62 61, FG 63 3 14 62 false, LG 64 3 63 62 false, OC 65 (.call 40 [TT
 64]) 62 false, OC 66 (.un .not (TT 65)) 62 false, OA 67 (.pick (TT 62) (.const (.bool true)) (TT 66)), MM 68 67, FG 69 0 14 68 false, LG 70 3 69 68 false, OC 71 (.call 61 [TT 70]) 68 false, FG 72 5 5 68 false, LG 73 3 72 68
 false, OC 74 (.call 22 [TT 71, TT 73]) 68 false, OC 75 (.bin .gtr (TT 74) (II 0)) 68 false, OA 76 (.pick (TT 68) (.const (.bool true)) (TT 75)), MM 77 76, FG 78 3 14 77 false, LG 79 3 78 77 false, OC 80 (.call 61 [TT 79]) 77
 false, FG 81 5 5 77 false, LG 82 3 81 77 false, OC 83 (.call 22 [TT 80, TT 82]) 77 false, OC 84 (.bin .gtr (TT 83) (II 0)) 77 false, OA 85 (.pick (TT 77) (.const (.bool true)) (TT 84))]) (.cond (TT 85) (.seq (.reg [OA 86 (.build
 [.int .i64 0, .slice none 0 0, .slice none 0 0, .slice none 0 0, .slice none 0 0] []), OB (.store 5 (TT 10) (TT 86)), OA 11 (.mv (II 1))]) .ret) .skip)))) (.reg [OA 87 (.bin .add (TT 54) (II 1)), MM 54 87]))))))) (.seq (.seq
 (.reg [FF 88 0 6, VV 89 88, OA 90 (.bin .eql (TT 89) (II 2000))]) (.cond (TT 90) (.seq (.reg [OA 91 (.build [.int .i64 0, .slice none 0 0, .slice none 0 0, .slice none 0 0, .slice none 0 0] []), OB (.store 5 (TT 10) (TT 91)), OA
 11 (.mv (II 7))]) .ret) .skip)) (.seq (.reg [LL 92 5 6, OA 93 (.call 62 [TT 92]), OA 15 (.alloc 37 [.int .i64 0, .slice none 0 0, .slice none 0 0, .slice none 0 0, .slice none 0 0]), OB (.store 5 (TT 15) (TT 93))]) (.seq (.reg
 [FF 94 0 15, VV 95 94, OA 96 (.bin .add (TT 95) (II 1)), FF 97 0 15, OB (.store 1 (TT 97) (TT 96))]) (.seq (.seq (.reg [FF 98 0 5, VV 99 98, OA 100 (.len false (TT 99)), OA 101 (.mv (II 0))]) (.block 2 (.loop (.seq (.reg [OA 102
 (.bin .lss (TT 101) (TT 100))]) (.seq (.cond (TT 102) .skip (.exit 2)) (.seq (.block 3 (.seq (.reg [MM 103 101, OA 104 (.q8 12 (TT 99) (TT 101)), LL 105 12 104, OA 17 (.alloc 51 [.string ⟨#[]⟩, .bool false, .string ⟨#[]⟩,
 .string ⟨#[]⟩, .bool false, .string ⟨#[]⟩, .string ⟨#[]⟩, .bool false, .bool false, .string ⟨#[]⟩, .string ⟨#[]⟩, .slice none 0 0]), MM 16 103, OB (.store 12 (TT 17) (TT 105))]) (.seq (.G6 [.q, .q, .q, .q, .q, .q, .q, .q, .q,
 .q, .q, .q, .q, .q, .q, .q, .q, .l, .a, .e (some 18) false, .q] [LL 107 12 17, FF 108 1 6, VV 109 108, MM 110 16, OA 111 (.q8 4 (TT 109) (TT 110)), LL 112 4 111, MM 113 2, MM 114 16, OA 115 (.q8 1 (TT 113) (TT 114)), VV
 116 115, MM 117 3, MM 118 16, OA 119 (.q8 1 (TT 117) (TT 118)), VV 120 119, OA 121 (.call 64 [TT 107, TT 112, TT 116, TT 120]), MM 106 121, OA 122 (.ext (TT 106) 0), OA 123 (.ext (TT 106) 1), OA 18 (.alloc 61 [.slice none 0
 0, .slice none 0 0, .bool false, .int .i64 0]), OB (.store 4 (TT 18) (TT 122)), MM 19 123]) (.seq (.seq (.reg [MM 124 19, OA 125 (.bin .neq (TT 124) (II 0))]) (.cond (TT 125) (.seq (.reg [OA 126 (.build [.int .i64 0, .slice none
 0 0, .slice none 0 0, .slice none 0 0, .slice none 0 0] []), MM 127 19, OB (.store 5 (TT 10) (TT 126)), MM 11 127]) .ret) .skip)) (.seq (.reg [FF 128 1 15, VV 129 128, MM 130 16, LL 131 4 18, OA 132 (.q8 4 (TT 129) (TT 130)),
 OB (.store 4 (TT 132) (TT 131))]) (.seq (.reg [FF 133 3 18, VV 134 133, OA 135 (.bin .geq (TT 134) (II 0))]) (.cond (TT 135) (.seq (.G6 [.q, .q, .q, .q, .q, .q, .q, .q, .q, .q, .l, .q, .e none false, .q] [FF 137 2 15, VV 138
 137, FF 139 3 18, VV 140 139, LL 141 8 5, MM 142 16, LL 143 4 18, OA 144 (.call 63 [TT 141, TT 142, TT 143]), MM 136 144, OA 145 (.ext (TT 136) 0), OA 146 (.ext (TT 136) 1), OA 147 (.q8 10 (TT 138) (TT 140)), OB (.store 10
 (TT 147) (TT 145)), MM 19 146]) (.seq (.reg [MM 148 19, OA 149 (.bin .neq (TT 148) (II 0))]) (.cond (TT 149) (.seq (.reg [OA 150 (.build [.int .i64 0, .slice none 0 0, .slice none 0 0, .slice none 0 0, .slice none 0 0] []), MM
 151 19, OB (.store 5 (TT 10) (TT 150)), MM 11 151]) .ret) .skip))) .skip))))))) (.reg [OA 152 (.bin .add (TT 101) (II 1)), MM 101 152]))))))) (.seq (.seq (.reg [MM 153 4, OA 154 (.len false (TT 153)), OA 155 (.mv (II 0))])
 (.block 4 (.loop (.seq (.reg [OA 156 (.bin .lss (TT 155) (TT 154))]) (.seq (.cond (TT 156) .skip (.exit 4)) (.seq (.block 5 (.seq (.reg [MM 157 155, OA 158 (.q8 6 (TT 153) (TT 155)), LL 159 6 158, OA 21 (.alloc 44 [.bool
 false, .string ⟨#[]⟩, .string ⟨#[]⟩, .bool false, .string ⟨#[]⟩, .string ⟨#[]⟩]), MM 20 157, OB (.store 6 (TT 21) (TT 159))]) (.G6 [.q, .q, .q, .q, .q, .q, .q, .q, .q, .q, .q, .e none true] [FF 160 3 15, VV 161 160, MM 162 20,
 FF 163 3 6, VV 164 163, MM 165 20, OA 166 (.q8 6 (TT 164) (TT 165)), LL 167 6 166, LL 168 6 21, OA 169 (.call 65 [TT 167, TT 168]), OA 170 (.q8 6 (TT 161) (TT 162)), OB (.store 6 (TT 170) (TT 169))]))) (.reg [OA 171 (.bin
 .add (TT 155) (II 1)), MM 155 171]))))))) (.seq (.reg [LL 172 5 15, OB (.store 5 (TT 10) (TT 172)), OA 11 (.mv (II 0))]) .ret)))))))))⟩
theorem b2G : M9 eff Tryz.prog Tryz.f15 = some a4i := by kernel_rfl
theorem b3c : Tryz.prog.funcs[15]? = some Tryz.f15 := Tryz.func15
set_option maxHeartbeats 32000000
theorem S.b9h {E : Ctx} {Q : Exit -> Act -> World -> Prop} {st : St} {k : List It} {body : IC} (h : ∀ J, S E Q st (.code body :: .inv J :: k)) : S E Q st (.code (.loop body) :: k) :=
 S.loop (X := Unit) (fun _ => st) (fun _ => True) (fun _ => 0) () trivial (fun _ ν _ _ h => ⟨ν, h⟩) fun _ _ => h _
def stepT (w : Wk) (s : Stt) (u : List (List Nm.Rt)) (p : List Bool) : C := if I5 w s = 0 then .tup [(Z0 w s u p []).c, ints 0] else .tup [.agg b1E, ints (I5 w s)]
theorem c1C {E : Ctx} (hP : E.P = Tryz.prog) (ht0 : Tz E) (w : Wk) (s : Stt) (u : List (List Nm.Rt)) (p : List Bool) (hwb : Wb 1048576 w) (hs : Stb 1048576 s) (hu : Wsb 1048576 u) (hl1 : u.length = w.arms.length) (hl2 : p.length = w.arms.length) (hp0 : s.people = []) (htk0 : s.tick < 2000) :
  j5 E [.row 4 1 (p.map fun b => [.v (.bool b)])] 15 [w.c, s.c, wss u, .rv 0, .v (.slice none 0 0)] (stepT w s u p) [.row 4 1 (p.map fun b => [.v (.bool b)])] [] := by
 obtain ⟨P, eff', N, w0, own0, av0, nu0, pk0⟩ := E
 simp only at hP
 subst hP
 refine j5.ofT (eff := eff) ht0 b3c b2G (by exact c3c rfl) fun w' own av ν hν ht => ?_
 have hν0 : ν.length <= 1 := by rw [hν]; exact c2V _
 have hck := b2K w s (hwb.mono (by decide)) (hs.mono (by decide))
 have hcp := fun (E : Ctx) (hP : E.P = Tryz.prog) => b9R hP s (hs.mono (by decide))
 have n1 := hs.arms.1
 have n2 := hs.parts.1
 have n4 := hs.gates
 have n5 := hwb.arms.1
 have n6 := hu.1
 by_cases h0 : I5 w s = 0
 ·have hok := R7 h0
  have hcar := fun (n : Nat) (x : Ast) (a : Am) (q : Nat) (pt : Pt) => b6z w n x a q pt hwb
  have hone := fun (z : Am × Ast) hz => a2m (hok.one z hz)
  have hbs := hs.arms.2
  have hba := hwb.arms.2
  have hbu := hu.2
  have hal := a1Q (u := u) (p := p) hok.arms
  have hag := @a2N w s u p
  have hpl := a8c w
  have hput : ∀ P z, a3v w P z = if z.2.holds < 0 then P else match w.parts[z.2.holds.toNat]? with | some pt => P.set z.2.holds.toNat (a7f z.1 z.2.q pt.grasp) | none => P := fun _ _ => rfl
  have e1 := hok.arms
  have e2 := hok.parts
  have e3 := hok.tick
  rw [h0] at hck
  unfold stepT Z0
  rw [if_pos h0]
  generalize a0X w s u p = A at *
  generalize a3v w = pP at *
  clear hok h0
  obtain ⟨arms, walls, parts, slots, gates, walk⟩ := w
  obtain ⟨tick, sarms, sparts, people, sgates⟩ := s
  simp only at hp0
  subst hp0
  simp only at n1 n2 n4 n5 hl1 hl2 htk0 hbs hba hal hag hput e1 e2 e3 hone ⊢
  simp only [a4i, l6, TT, II, OA, OB, OC, MM, LL, VV, FF, MG, LG, VG, FG]
  simp only [Wk.c, Wk.enc, Stt.c, Stt.enc, b1E, ams, wls, pts, sls, gts, R5, frs, vts, bls, wss, rts, sb, ints, List.zip_nil_left, c3v] at hck hcp hcar ⊢
  (repeat first | refine uA ?_ | (refine uK ?_ ?_; focus first | omega | (intros; simp_all <;> omega)) | simp (disch := omega) only [go_sem, Nat.reduceBEq, Nat.reduceAdd, ww] | (refine uD hck ?_ ?_ ?_; exact ht; exact rfl))
  refine S.cond rfl (fun hc => by simp at hc) (fun hc => ?_)
  (repeat first | refine uA ?_ | (refine uK ?_ ?_; focus first | omega | (intros; simp_all <;> omega)) | simp (disch := omega) only [go_sem, Nat.reduceBEq, Nat.reduceAdd, ww, c2N])
  refine S.cond rfl (fun hc => by simp [hl1, hl2] at hc) (fun hc => ?_)
  have hal := hal hl1 hl2
  (repeat first | refine uA ?_ | (refine uK ?_ ?_; focus first | omega | (intros; simp_all <;> omega)) | simp (disch := omega) only [go_sem, Nat.reduceBEq, Nat.reduceAdd, ww, c2N])
  refine S.b9h fun J => ?_
  (repeat first | refine uA ?_ | (refine uK ?_ ?_; focus first | omega | (intros; simp_all <;> omega)) | simp (disch := omega) only [go_sem, Nat.reduceBEq, Nat.reduceAdd, ww])
  refine S.cond rfl (fun hc => by simp at hc) (fun hc => ?_)
  (repeat first | refine uA ?_ | (refine uK ?_ ?_; focus first | omega | (intros; simp_all <;> omega)) | simp (disch := omega) only [go_sem, Nat.reduceBEq, Nat.reduceAdd, ww])
  refine S.cond rfl (fun hc => by simp at hc; omega) (fun hc => ?_)
  have htk : IntKind.i64.wrap (tick + 1) = tick + 1 := wrap_i64 (by omega)
  (repeat first | refine uA ?_ | (refine uK ?_ ?_; focus first | omega | (intros; simp_all <;> omega)) | simp (disch := omega) only [go_sem, Nat.reduceBEq, Nat.reduceAdd, ww, C.sh, C.shL, c3g, List.length_nil, c2N, htk] | refine l7.t (j5.pre (hcp _ rfl) rfl rfl rfl) ?_)
  refine S.loop (X := Nat) (fun i => ⟨[(2, wss u), (3, .rv 0), (4, .v (.slice none 0 0)), (5, .bp 1 0), (6, .bp 2 0), (10, .bp 3 0), (15, .bp 10 0), (99, ams arms), (100, ints arms.length), (101, ints i)], [.row 4 1 (p.map fun b => [.v (.bool b)]), .box 31 [ams arms, wls walls, pts parts, sls slots, gts gates, .v (.bool walk.neg), sb walk.num, sb walk.den], .box 37 [ints tick, R5 sarms, frs sparts, vts [], bls sgates], .box 37 [.v (.int .i64 0), .v (.slice none 0 0), .v (.slice none 0 0), .v (.slice none 0 0), .v (.slice none 0 0)], .gone, .gone, .row 48 10 ((((arms.zip A).take i).foldl pP sparts).map Fr.enc), .row 44 6 [], .gone, .row 61 4 ((A.take i ++ sarms.drop i).map Ast.enc), .box 37 [ints (tick + 1), .rv 9, .rv 6, .rv 7, bls sgates]]⟩) (fun i => i <= arms.length) (fun i => arms.length - i) 0 (c2T _) (by (repeat first | refine uA ?_ | (refine ⟨?_, ?_⟩; focus first | rfl | simp [slot]) | rfl | simp | exact c2Q hν0 (by simp))) ?_
  intro i hi
  simp only [ams, wls, pts, sls, gts, R5, frs, vts, bls, wss, rts, sb, ints] at hi ⊢
  (repeat first | refine uA ?_ | (refine uK ?_ ?_; focus first | omega | (intros; simp_all <;> omega)) | simp (disch := omega) only [go_sem, Nat.reduceBEq, Nat.reduceAdd, ww])
  (refine uJ rfl (fun hc => ?_) fun hc => ?_)
  ·have hga := c2M (show i < arms.length by omega)
   have hgx := c2M (show i < sarms.length by omega)
   have hgu := c2M (show i < u.length by omega)
   have hgp := c2M (show i < p.length by omega)
   generalize arms[i]'_ = a at hga
   generalize sarms[i]'_ = x at hgx
   generalize u[i]'_ = ui at hgu
   generalize p[i]'_ = b at hgp
   have hgA := hag hga hgx hgu hgp
   have hz := c2P (F7 hga hgx)
   obtain ⟨k1, k2, k3, k4⟩ := hone _ hz
   simp only at k1 k2 k3 k4
   have bx := hbs x (c2P hgx)
   have bu := hbu ui (c2P hgu)
   have ba := hba a (c2P hga)
   have o1 := c1c a x ui b (ba.mono (by decide)) ⟨⟨c2Q bx.1.1 (by decide), fun r hr => (bx.1.2 r hr).mono (by decide)⟩, c2Q bx.2.1 (by decide), fun r hr => (bx.2.2 r hr).mono (by decide)⟩ ⟨c2Q bu.1 (by decide), fun r hr => (bu.2 r hr).mono (by decide)⟩ k1 k2 k3
   have hfa := fold_at (f := pP) (F7 hga hgA) sparts
   rw [hput] at hfa
   have hh := holds_one a x ui b
   have hql := (b0k (u := ui) (p := b) ⟨k1, k2, k3, k4⟩).1
   have hqb := (c1d (u := ui) (p := b) k1 bx bu.2).1
   have hcar := fun q pt => hcar i (X3 a x ui b) a q pt hga
   have hPl := hpl ((arms.zip A).take i) sparts
   have s1 := a7p Ast.enc (by omega) hgA (m := sarms)
   have m1 := a3M (l := A) (m := sarms) (i := i) (by omega) (by omega)
   generalize hA1 : A.take (i + 1) ++ sarms.drop (i + 1) = A1 at *
   generalize A.take i ++ sarms.drop i = A0 at *
   generalize hP1 : ((arms.zip A).take (i + 1)).foldl pP sparts = P1 at *
   generalize ((arms.zip A).take i).foldl pP sparts = P0 at *
   obtain ⟨z0, hz0⟩ : ∃ z0, A0[i]? = some z0 := ⟨_, c2M (show i < A0.length by omega)⟩
   generalize hy : X3 a x ui b = y at *
   have hxi : (i : Int) < sarms.length := by omega
   have hui : (i : Int) < u.length := by omega
   have hpi : (i : Int) < p.length := by omega
   simp only [Am.c, Am.enc, Ast.c, Ast.enc, lks, rts, sb, ints] at o1 s1 hcar
   (repeat first | refine uA ?_ | (refine uK ?_ ?_; focus first | omega | (intros; simp_all <;> omega)) | simp (disch := omega) only [go_sem, Nat.reduceBEq, Nat.reduceAdd, ww, hga, hgx, hgu, hgp, hz0, m1, s1, c2O, c2N, Am.enc, Ast.enc, lks, rts, sb, ints, c2X] | (refine uD o1 ?_ ?_ ?_; exact ht; exact rfl))
   refine S.cond rfl (fun hc2 => by simp at hc2) (fun hc2 => ?_)
   (repeat first | refine uA ?_ | (refine uK ?_ ?_; focus first | omega | (intros; simp_all <;> omega)) | simp (disch := omega) only [go_sem, Nat.reduceBEq, Nat.reduceAdd, ww, hz0, m1, s1, c2O, c2N, Ast.enc, rts, ints, c2X])
   refine S.cond rfl (fun hc3 => ?_) (fun hc3 => ?_)
   ·have hp0 : 0 <= y.holds := by simpa using hc3
    obtain ⟨q, hq⟩ : ∃ q : Nat, y.holds = q := ⟨y.holds.toNat, by omega⟩
    have hqp : q < parts.length := by omega
    have hgq := c2M hqp
    generalize parts[q] = pt at hgq
    have o2 := hcar q pt hgq hq k1 hql hqb
    rw [if_neg (by simp only; omega)] at hfa
    simp only [hq, c2X, hgq] at hfa
    have s2 : (P0.map Fr.enc).set q (a7f a y.q pt.grasp).enc = P1.map Fr.enc := by rw [<- List.map_set, <- hfa]
    obtain ⟨z1, hz1⟩ : ∃ z1, P0[q]? = some z1 := ⟨_, c2M (show q < P0.length by omega)⟩
    have hq2 : (q : Int) < P0.length := by omega
    generalize a7f a y.q pt.grasp = R at *
    simp only [Fr.c, Fr.enc, hq, sb] at o2 s2
    simp only [hq]
    (repeat first | refine uA ?_ | (refine uK ?_ ?_; focus first | omega | (intros; simp_all <;> omega)) | simp (disch := omega) only [go_sem, Nat.reduceBEq, Nat.reduceAdd, ww, hz1, s2, hPl, Fr.enc, sb, c2O, c2N, c2X] | (refine uD o2 ?_ ?_ ?_; exact ht; exact rfl))
    refine S.cond rfl (fun hc2 => by simp at hc2) (fun hc2 => ?_)
    (repeat first | refine uA ?_ | (refine uK ?_ ?_; focus first | omega | (intros; simp_all <;> omega)) | simp (disch := omega) only [go_sem, Nat.reduceBEq, Nat.reduceAdd, ww])
    refine S.next (i + 1) (by omega) (by omega) (by simp only [hA1, hP1]; exact (by (repeat first | refine uA ?_ | (refine ⟨?_, ?_⟩; focus first | rfl | simp [slot]) | rfl | simp | exact c2Q hν0 (by simp))))
   ·have hp0 : y.holds < 0 := by simp only [c3b] at hc3; omega
    rw [if_pos (by simpa using hp0)] at hfa
    subst hfa
    (repeat first | refine uA ?_ | (refine uK ?_ ?_; focus first | omega | (intros; simp_all <;> omega)) | simp (disch := omega) only [go_sem, Nat.reduceBEq, Nat.reduceAdd, ww])
    refine S.next (i + 1) (by omega) (by omega) (by simp only [hA1, hP1]; exact (by (repeat first | refine uA ?_ | (refine ⟨?_, ?_⟩; focus first | rfl | simp [slot]) | rfl | simp | exact c2Q hν0 (by simp))))
  have hi' : i = arms.length := by omega
  subst hi'
  rw [show (arms.zip A).take arms.length = arms.zip A from c3f (by rw [List.length_zip]; omega), show A.take arms.length ++ sarms.drop arms.length = A by rw [<- e1]; exact mid_end (by omega)]
  generalize (arms.zip A).foldl pP sparts = PP at *
  (repeat first | refine uA ?_ | (refine uK ?_ ?_; focus first | omega | (intros; simp_all <;> omega)) | simp (disch := omega) only [go_sem, Nat.reduceBEq, Nat.reduceAdd, ww, c2N])
  refine S.b9h fun J => ?_
  (repeat first | refine uA ?_ | (refine uK ?_ ?_; focus first | omega | (intros; simp_all <;> omega)) | simp (disch := omega) only [go_sem, Nat.reduceBEq, Nat.reduceAdd, ww])
  refine S.cond rfl (fun hc => by simp at hc) (fun hc => ?_)
  (repeat first | refine uA ?_ | (refine uK ?_ ?_; focus first | omega | (intros; simp_all <;> omega)) | simp (disch := omega) only [go_sem, Nat.reduceBEq, Nat.reduceAdd, ww])
  (refine S.done ?_; simp only [p9, p8, go_sem, Nat.reduceBEq, Nat.reduceAdd, Nat.reduceLeDiff, Int.reduceToNat, Int.reducePow]; (repeat (refine ⟨?_, ?_⟩; focus first | trivial | omega | simp)); exact j3.L8 (Imp.tup (by (repeat' (first | exact l8.nil | exact Imp.refl rfl | exact Imp.frz rfl rfl rfl | exact Imp.K7 | refine Imp.agg ?_ | refine l8.cons ?_ ?_)))) (by (repeat first | refine uA ?_ | (refine ⟨?_, ?_⟩; focus first | rfl | simp [slot]) | rfl | simp)) (c2Q hν0 (by simp)))
 ·unfold stepT
  rw [if_neg h0]
  generalize I5 w s = e at *
  obtain ⟨arms, walls, parts, slots, gates, walk⟩ := w
  obtain ⟨tick, sarms, sparts, people, sgates⟩ := s
  simp only [a4i, l6, TT, II, OA, OB, OC, MM, LL, VV, FF, MG, LG, VG, FG]
  simp only [Wk.c, Wk.enc, Stt.c, Stt.enc, b1E, ams, wls, pts, sls, gts, R5, frs, vts, bls, wss, rts, sb, ints] at hck ⊢
  (repeat first | refine uA ?_ | (refine uK ?_ ?_; focus first | omega | (intros; simp_all <;> omega)) | simp (disch := omega) only [go_sem, Nat.reduceBEq, Nat.reduceAdd, ww] | (refine uD hck ?_ ?_ ?_; exact ht; exact rfl))
  refine S.cond rfl (fun hc => ?_) (fun hc => by simp at hc; exact absurd hc h0)
  (repeat first | refine uA ?_ | (refine uK ?_ ?_; focus first | omega | (intros; simp_all <;> omega)) | simp (disch := omega) only [go_sem, Nat.reduceBEq, Nat.reduceAdd, ww])
  (refine S.done ?_; simp only [p9, p8, go_sem, Nat.reduceBEq, Nat.reduceAdd, Nat.reduceLeDiff, Int.reduceToNat, Int.reducePow]; (repeat (refine ⟨?_, ?_⟩; focus first | trivial | omega | simp)); exact j3.L8 (Imp.tup (by (repeat' (first | exact l8.nil | exact Imp.refl rfl | exact Imp.frz rfl rfl rfl | exact Imp.K7 | refine Imp.agg ?_ | refine l8.cons ?_ ?_)))) (by (repeat first | refine uA ?_ | (refine ⟨?_, ?_⟩; focus first | rfl | simp [slot]) | rfl | simp)) (c2Q hν0 (by simp)))
def a2A : U3 := ⟨74, [.tmp 6], .seq (.reg [OA 3 (.box 31 (TT 0)), OA 4 (.box 37 (TT 1)), OA 6 (.mv (.const (.slice none 0 0)))]) (.seq (.reg [OA 7 (.mv (.const (.slice none 0 0)))]) (.seq (.seq (.reg [FF 14 0 3, VV 15 14, OA 16 (.len false (TT
 15)), OA 17 (.mv (II 0))]) (.block 0 (.loop (.seq (.reg [OA 18 (.bin .lss (TT 17) (TT 16))]) (.seq (.cond (TT 18) .skip (.exit 0)) (.seq (.block 1 (.seq (.reg [MM 19 17, OA 20 (.q8 12 (TT 15) (TT 17)), LL 21 12 20, OA 9
 (.alloc 51 [.string ⟨#[]⟩, .bool false, .string ⟨#[]⟩, .string ⟨#[]⟩, .bool false, .string ⟨#[]⟩, .string ⟨#[]⟩, .bool false, .bool false, .string ⟨#[]⟩, .string ⟨#[]⟩, .slice none 0 0]), MM 8 19, OB (.store 12 (TT 9) (TT 21))])
 (.seq (.reg [OA 10 (.mv (.const (.slice none 0 0)))]) (.seq (.seq (.G6 [.q, .q, .q, .q, .q, .q, .q, .q, .q, .q, .q] [LL 22 12 9, MM 23 2, MM 24 2, OA 25 (.len false (TT 24)), MM 26 8, OA 27 (.bin .mul (II 3) (TT 26)), OA 28
 (.min (TT 25) (TT 27)), OA 29 (.a3s 1 (TT 23) (some (TT 28)) none), OA 30 (.call 50 [TT 22, TT 29]), OA 31 (.len false (TT 30)), OA 32 (.mv (II 0))]) (.block 2 (.loop (.seq (.reg [OA 33 (.bin .lss (TT 32) (TT 31))]) (.seq
 (.cond (TT 33) .skip (.exit 2)) (.seq (.block 3 (.seq (.reg [MM 34 32, OA 35 (.q8 3 (TT 30) (TT 32)), LL 36 3 35, OA 12 (.alloc 29 [.bool false, .string ⟨#[]⟩, .string ⟨#[]⟩]), MM 11 34, OB (.store 3 (TT 12) (TT 36))]) (.seq
 (.G6 [.q, .q, .q, .q, .q, .q, .q, .q, .q, .q, .q, .a, .e (some 13) true] [LL 37 3 12, FF 38 1 4, VV 39 38, MM 40 8, OA 41 (.q8 4 (TT 39) (TT 40)), FF 42 0 41, VV 43 42, MM 44 11, OA 45 (.q8 3 (TT 43) (TT 44)), LL 46 3
 45, OA 47 (.call 66 [TT 37, TT 46]), OA 13 (.alloc 29 [.bool false, .string ⟨#[]⟩, .string ⟨#[]⟩]), OB (.store 3 (TT 13) (TT 47))]) (.G6 [.q, .q, .q, .q, .q, .q, .q, .q, .q, .q, .q, .q, .q, .q, .q, .q, .q, .q, .e none true,
 .q] [MM 48 10, FF 49 11 9, VV 50 49, MM 51 11, OA 52 (.q8 16 (TT 50) (TT 51)), FF 53 9 52, LL 54 3 53, OA 55 (.call 68 [TT 54]), FF 56 11 9, VV 57 56, MM 58 11, OA 59 (.q8 16 (TT 57) (TT 58)), FF 60 9 59, LL 61 3 60, LL 62
 3 13, OA 63 (.call 69 [TT 61, TT 62]), OA 64 (.call 67 [TT 55, TT 63]), OA 65 (.bsl 29 3 1 [.bool false, .string ⟨#[]⟩, .string ⟨#[]⟩] [(0, TT 64)]), OA 66 (.app 29 3 40 (TT 48) (TT 65)), MM 10 66])))) (.reg [OA 67 (.bin .add
 (TT 32) (II 1)), MM 32 67]))))))) (.reg [MM 68 7, MM 69 10, OA 70 (.bsl 59 1 1 [.slice none 0 0] [(0, TT 69)]), OA 71 (.app 59 1 24 (TT 68) (TT 70)), MM 7 71]))))) (.reg [OA 72 (.bin .add (TT 17) (II 1)), MM 17 72]))))))) (.seq
 (.reg [MM 73 7, MM 6 73]) .ret)))⟩
theorem a6n : M9 eff Tryz.prog Tryz.f16 = some a2A := by kernel_rfl
theorem a6m : Tryz.prog.funcs[16]? = some Tryz.f16 := Tryz.func16
set_option maxHeartbeats 16000000
theorem b8C (w : Wk) (s : Stt) (to : List Int) (k : Nat) (h : b3d w s k) (hk : k <= 10) (hn : to.length <= 1048576) : FZ 16 [w.c, s.c, A9 to] (wss (a0O (w.arms.zip s.arms) to w.arms.length)) := by
 refine kW a6m a6n (by rfl) fun w' O hw => ?_
 have hok := R7 h.st
 have hone := hok.one
 have hla := hok.arms
 have hbig := hok.big.2.1
 have hq := h.q
 have hwl := fun (i : Nat) (a : Am) (ha : w.arms[i]? = some a) => b0S (to := to) h ha
 obtain ⟨arms, walls, parts, slots, gates, walk⟩ := w
 obtain ⟨tick, sarms, sparts, people, sgates⟩ := s
 simp only at hone hla hbig hq hwl ⊢
 generalize hz : arms.zip sarms = z at *
 simp only [a2A, l6, TT, II, OA, OB, OC, MM, LL, VV, FF, MG, LG, VG, FG]
 simp only [Wk.c, Wk.enc, Stt.c, Stt.enc, ams, wls, pts, sls, gts, R5, frs, vts, bls, wss, A9, sb, ints]
 (repeat first | refine uA ?_ | (refine uK ?_ ?_; focus first | omega | (intros; simp_all <;> omega)) | simp (disch := omega) only [go_sem, Nat.reduceBEq, Nat.reduceAdd, ww, c2N])
 refine S.loop (X := Nat) (fun i => ⟨[(2, A9 to), (4, .bp 1 0), (7, .rv 2), (15, ams arms), (16, ints arms.length), (17, ints i)], [.gone, .box 37 [ints tick, R5 sarms, frs sparts, vts people, bls sgates], .row 59 1 ((a0O z to i).map fun l => [rts l])]⟩) (fun i => i <= arms.length) (fun i => arms.length - i) 0 (c2T _)
  (Ent.trans (Ent.pack 7 59 1 rfl) (by (repeat first | refine uA ?_ | (refine ⟨?_, ?_⟩; focus first | rfl | simp [slot]) | rfl | simp))) ?_
 intro i hi
 simp only [ams, A9, R5, frs, vts, bls, sb, ints]
 (repeat first | refine uA ?_ | (refine uK ?_ ?_; focus first | omega | (intros; simp_all <;> omega)) | simp (disch := omega) only [go_sem, Nat.reduceBEq, Nat.reduceAdd, ww])
 (refine uJ rfl (fun hc => ?_) fun hc => ?_)
 ·have hi' : i < arms.length := by omega
  have hga := c2M hi'
  have hgx := c2M (show i < sarms.length by omega)
  have hsn := b4U z to i
  have hsl := a6z z to i
  have hzi : z[i]? = some (arms[i], sarms[i]) := by have h9 := F7 hga hgx; rw [hz] at h9; exact h9
  have ho := a2m (hone _ (c2P hzi))
  have hwi : a2X z to i = a1z arms[i].links (M4 arms[i].links (to.drop (3 * i))) sarms[i].q := by unfold a2X; rw [hzi]
  have hwl := hwl i _ hga
  have hqx := hq _ (c2P hgx)
  generalize arms[i] = a at *
  generalize sarms[i] = x at *
  simp only at ho
  have hlk := (J9 ho.arm).2
  have h3 := (X8 ho.arm).2
  have hxq := ho.q
  have hcl := a0B a.links (to.drop (3 * i))
  have hcr := a5A a.links (to.drop (3 * i)) hlk
  have hC := b7g a (to.drop (3 * i)) ho.arm
  generalize M4 a.links (to.drop (3 * i)) = c at *
  have hxl : x.q.length <= 3 := by omega
  have hdl : (to.drop (3 * i)).length <= 1048576 := by rw [c3z]; omega
  generalize a0O z to i = W0 at *
  generalize a2X z to i = WI at *
  have hmn : (if 3 * (i : Int) < (to.length : Int) then 3 * (i : Int) else (to.length : Int)) = ((min to.length (3 * i) : Nat) : Int) := by split <;> omega
  have hdm : (to.drop (min to.length (3 * i))).take (to.length - min to.length (3 * i)) = to.drop (3 * i) := by
   rw [b3a, c3f (by rw [c3z]; omega)]
  have hml : min to.length (3 * i) <= to.length := Nat.min_le_left _ _
  generalize min to.length (3 * i) = mm at *
  generalize to.drop (3 * i) = td at *
  simp only [Am.c, Am.enc, lks, rts, A9, sb, ints] at hC
  (repeat first | refine uA ?_ | (refine uK ?_ ?_; focus first | omega | (intros; simp_all <;> omega)) | simp (disch := omega) only [go_sem, Nat.reduceBEq, Nat.reduceAdd, ww, hga, c2O, c2N, Am.enc, lks, sb, hmn, hdm, c2X] | (refine uB hC ?_ ?_; exact rfl))
  refine S.loop (X := Nat) (fun j => ⟨[(2, A9 to), (4, .bp 1 0), (7, .rv 2), (8, ints i), (9, .bp 3 0), (10, .rv 4), (15, ams arms), (16, ints arms.length), (17, ints i), (30, rts c), (31, ints c.length), (32, ints j)], [.gone, .box 37 [ints tick, R5 sarms, frs sparts, vts people, bls sgates], .row 59 1 (W0.map fun l => [rts l]), .box 51 [sb a.name, .v (.bool a.base.x.neg), sb a.base.x.num, sb a.base.x.den, .v (.bool a.base.y.neg), sb a.base.y.num, sb a.base.y.den, .v (.bool a.base.half), .v (.bool a.base.t.neg), sb a.base.t.num, sb a.base.t.den, lks a.links], .row 29 3 ((WI.take j).map rcs)]⟩) (fun j => j <= c.length) (fun j => c.length - j) 0 (c2T _)
   (Ent.trans (Ent.pack 10 29 3 rfl) (by (repeat first | refine uA ?_ | (refine ⟨?_, ?_⟩; focus first | rfl | simp [slot]) | rfl | simp))) ?_
  intro j hj
  simp only [ams, A9, R5, frs, vts, bls, rts, lks, sb, ints]
  (repeat first | refine uA ?_ | (refine uK ?_ ?_; focus first | omega | (intros; simp_all <;> omega)) | simp (disch := omega) only [go_sem, Nat.reduceBEq, Nat.reduceAdd, ww])
  (refine uJ rfl (fun hc => ?_) fun hc => ?_)
  ·have hj' : j < c.length := by omega
   have hgc := c2M hj'
   have hgl := c2M (show j < a.links.length by omega)
   have hgq := c2M (show j < x.q.length by omega)
   have hgw : WI[j]? = some (a3E a.links[j] c[j] x.q[j]) := by have h9 := b7y hgl hgc hgq; rw [<- hwi] at h9; exact h9
   have hap := take_at hgw
   have hwtl : (WI.take j).length = j := by rw [c2W]; omega
   have rc1 := hcr _ (c2P hgc)
   have rq1 := hqx _ (c2P hgq)
   have rl1 := (a5C (hlk _ (c2P hgl))).2.2.1
   generalize c[j] = cj at *
   generalize a.links[j] = lj at *
   generalize x.q[j] = qj at *
   have o1 := a5b cj qj (rc1.mono (by decide)) (rq1.mono (by omega))
   have rd := (M6 (rc1.fit (by decide)) (rq1.fit (by omega)))
   have o2 := a9A lj.speed (rl1.mono (by decide))
   have o3 := a5j lj.speed (Nm.ofQ (Nm.d9 cj - Nm.d9 qj)) (rl1.mono (by decide)) (rd.mono (by omega))
   rw [Nm.r9] at o3
   have rm : Rb 1048576 (Nm.ofQ (J7 (Nm.d9 lj.speed) (Nm.d9 cj - Nm.d9 qj))) := by
    unfold J7
    split
    ·exact (rl1.fit (by decide)).mono (by decide)
    ·exact rd.mono (by omega)
   have rn := b2P rl1 (by decide)
   have o4 := a9i (Nm.ofQ (-(Nm.d9 lj.speed))) (Nm.ofQ (J7 (Nm.d9 lj.speed) (Nm.d9 cj - Nm.d9 qj))) (rn.mono (by decide)) (rm.mono (by decide))
   rw [Nm.r9, Nm.r9] at o4
   have hwr : a3E lj cj qj = Nm.ofQ (O4 (-(Nm.d9 lj.speed)) (J7 (Nm.d9 lj.speed) (Nm.d9 cj - Nm.d9 qj))) := rfl
   unfold rq at o1 o2 o3 o4
   rw [<- hwr] at o4
   clear hwr
   generalize a3E lj cj qj = z1 at *
   generalize Nm.ofQ (J7 (Nm.d9 lj.speed) (Nm.d9 cj - Nm.d9 qj)) = z2 at *
   generalize Nm.ofQ (-(Nm.d9 lj.speed)) = z3 at *
   generalize Nm.ofQ (Nm.d9 cj - Nm.d9 qj) = z4 at *
   simp only [rc, sb] at o1 o2 o3 o4
   (repeat first | refine uA ?_ | (refine uK ?_ ?_; focus first | omega | (intros; simp_all <;> omega)) | simp (disch := omega) only [go_sem, Nat.reduceBEq, Nat.reduceAdd, ww, hgc, hgl, hgq, hgx, c2O, c2N, hwtl, rcs, Lk.enc, Ast.enc, rts, vts, sb, ints, c2X] | (refine uD o1 ?_ ?_ ?_; exact tz hw; exact rfl) | (refine uD o2 ?_ ?_ ?_; exact tz hw; exact rfl) | (refine uD o3 ?_ ?_ ?_; exact tz hw; exact rfl) | (refine uD o4 ?_ ?_ ?_; exact tz hw; exact rfl))
   refine S.next (j + 1) (by omega) (by omega) (by simp only [hap, c3D, c3e, c3v, rcs, sb]; exact (by (repeat first | refine uA ?_ | (refine ⟨?_, ?_⟩; focus first | rfl | simp [slot]) | rfl | simp)))
  ·have hj' : j = c.length := by omega
   subst hj'
   have hwt : WI.take c.length = WI := c3f (by omega)
   rw [hwt]
   refine S.exit rfl ?_
   refine S.weaken (st' := ⟨[(2, A9 to), (4, .bp 1 0), (7, .rv 2), (10, .sl 3 (WI.map rcs)), (15, ams arms), (16, ints arms.length), (17, ints i)], [.gone, .box 37 [ints tick, R5 sarms, frs sparts, vts people, bls sgates], .row 59 1 (W0.map fun l => [rts l])]⟩) (Ent.mk _ _ (by (repeat' (first | exact Q8.nil | exact Imp.junk | exact Imp.refl rfl | exact Imp.frz rfl rfl rfl | exact Imp.eq (by simp [slot]; done) rfl | refine Q8.cons ?_ ?_))) (by (repeat' (first | exact K9.nil | exact RI.gone _ | exact RI.row _ _ _ _ rfl | exact RI.map _ _ _ rfl | exact RI.box _ _ _ (l8.refl rfl) | (refine RI.box _ _ _ ?_; (repeat' (first | exact l8.nil | exact Imp.refl rfl | exact Imp.frz rfl rfl rfl | exact Imp.K7 | refine l8.cons ?_ ?_))) | refine K9.cons ?_ ?_))) (c2T _)) ?_
   simp only [ams, A9, R5, frs, vts, bls, sb, ints, rts]
   (repeat first | refine uA ?_ | (refine uK ?_ ?_; focus first | omega | (intros; simp_all <;> omega)) | simp (disch := omega) only [go_sem, Nat.reduceBEq, Nat.reduceAdd, ww, c2N, hsl])
   refine S.next (i + 1) (by omega) (by omega) (by simp only [hsn, c3D, c3e, c3v, rts]; exact (by (repeat first | refine uA ?_ | (refine ⟨?_, ?_⟩; focus first | rfl | simp [slot]) | rfl | simp)))
 have hi' : i = arms.length := by omega
 subst hi'
 (repeat first | refine uA ?_ | (refine uK ?_ ?_; focus first | omega | (intros; simp_all <;> omega)) | simp (disch := omega) only [go_sem, Nat.reduceBEq, Nat.reduceAdd, ww])
 exact S.done (j3.out rfl (Imp.frz rfl rfl rfl) rfl)
def a1E : U3 := ⟨150, [.tmp 6], .seq (.reg [OA 6 (.mv (.const (.bool false)))]) (.seq (.reg [MM 20 0, MM 21 1, OA 22 (.call 10 [TT 20, TT 21]), MM 19 22, OA 23 (.ext (TT 19) 0), OA 24 (.ext (TT 19) 1), OA 25 (.ext (TT 19) 2), OA 7 (.alloc 31
 [.slice none 0 0, .slice none 0 0, .slice none 0 0, .slice none 0 0, .slice none 0 0, .bool false, .string ⟨#[]⟩, .string ⟨#[]⟩]), OA 8 (.alloc 37 [.int .i64 0, .slice none 0 0, .slice none 0 0, .slice none 0 0, .slice none 0
 0]), OB (.store 8 (TT 7) (TT 23)), OB (.store 5 (TT 8) (TT 24)), MM 9 25]) (.seq (.seq (.reg [MM 26 9, OA 27 (.un .not (TT 26))]) (.cond (TT 27) (.seq (.reg [OA 6 (.mv (.const (.bool false)))]) .ret) .skip)) (.seq (.reg [LL 28 8
 7, LL 29 5 8, MM 30 2, OA 31 (.call 16 [TT 28, TT 29, TT 30]), MM 10 31]) (.seq (.G6 [.q, .q, .q, .q, .q, .q, .q, .q, .q, .q, .q, .q, .q, .q, .q, .q, .q, .q, .q, .q] [FF 33 0 7, VV 34 33, OA 35 (.q8 12 (TT 34) (II 0)), LL
 36 12 35, FF 37 1 8, VV 38 37, OA 39 (.q8 4 (TT 38) (II 0)), FF 40 0 39, VV 41 40, MM 42 10, OA 43 (.q8 1 (TT 42) (II 0)), VV 44 43, OA 45 (.call 21 [TT 36, TT 41, TT 44]), MM 32 45, OA 46 (.ext (TT 32) 0), OA 47 (.ext (TT
 32) 1), OA 48 (.ext (TT 32) 2), MM 11 46, MM 12 47, MM 13 48]) (.seq (.seq (.reg [MM 49 13, OA 50 (.bin .neq (TT 49) (II 0)), MM 51 50, MG 52 11 51 false, OC 53 (.len false (TT 52)) 51 false, FG 54 0 7 51 false, VG 55 54 51
 false, OC 56 (.q8 12 (TT 55) (II 0)) 51 false, FG 57 11 56 51 false, VG 58 57 51 false, OC 59 (.len false (TT 58)) 51 false, OC 60 (.bin .neq (TT 53) (TT 59)) 51 false, OA 61 (.pick (TT 51) (.const (.bool true)) (TT 60)), MM
 62 61, MG 63 12 62 false, OC 64 (.bin .lss (TT 63) (II 1)) 62 false, OA 65 (.pick (TT 62) (.const (.bool true)) (TT 64))]) (.cond (TT 65) (.seq (.reg [OA 6 (.mv (.const (.bool false)))]) .ret) .skip)) (.seq (.reg [FF 66 0 7, VV
 67 66, OA 68 (.len false (TT 67)), OA 69 (.a1p 4 1 [.bool false] (TT 68) (TT 68)), MM 14 69]) (.seq (.reg [MM 70 14, OA 71 (.q8 1 (TT 70) (II 0)), OB (.store 1 (TT 71) (.const (.bool true)))]) (.seq (.seq (.reg [MM 72 12, OA
 73 (.min (TT 72) (II 8)), OA 74 (.mv (II 0))]) (.block 0 (.loop (.seq (.reg [OA 75 (.bin .lss (TT 74) (TT 73))]) (.seq (.cond (TT 75) .skip (.exit 0)) (.seq (.block 1 (.seq (.seq (.reg [FF 76 1 8, VV 77 76, OA 78 (.q8 4 (TT
 77) (II 0)), FF 79 0 78, VV 80 79, OA 81 (.len false (TT 80)), OA 82 (.mv (II 0))]) (.block 2 (.loop (.seq (.reg [OA 83 (.bin .lss (TT 82) (TT 81))]) (.seq (.cond (TT 83) .skip (.exit 2)) (.seq (.block 3 (.seq (.reg [MM 84 82,
 OA 85 (.q8 3 (TT 80) (TT 82)), LL 86 3 85, OA 16 (.alloc 29 [.bool false, .string ⟨#[]⟩, .string ⟨#[]⟩]), MM 15 84, OB (.store 3 (TT 16) (TT 86))]) (.seq (.G6 [.q, .q, .q, .q, .q, .q, .q, .q, .q, .q, .q, .q, .q, .q, .q, .q,
 .q, .q] [MM 87 11, MM 88 15, OA 89 (.q8 6 (TT 87) (TT 88)), FF 90 0 89, LL 91 3 90, LL 92 3 16, OA 93 (.call 22 [TT 91, TT 92]), OA 94 (.bin .gtr (TT 93) (II 0)), MM 95 94, LG 96 3 16 95 false, MG 97 11 95 false, MG 98 15 95
 false, OC 99 (.q8 6 (TT 97) (TT 98)) 95 false, FG 100 3 99 95 false, LG 101 3 100 95 false, OC 102 (.call 22 [TT 96, TT 101]) 95 false, OC 103 (.bin .gtr (TT 102) (II 0)) 95 false, OA 104 (.pick (TT 95) (.const (.bool true))
 (TT 103))]) (.cond (TT 104) (.seq (.reg [OA 6 (.mv (.const (.bool false)))]) .ret) .skip)))) (.reg [OA 105 (.bin .add (TT 82) (II 1)), MM 82 105]))))))) (.seq (.reg [LL 107 8 7, LL 108 5 8, MM 109 10, MM 110 14, OA 111 (.call 15
 [TT 107, TT 108, TT 109, TT 110, .const (.slice none 0 0)]), MM 106 111, OA 112 (.ext (TT 106) 0), OA 113 (.ext (TT 106) 1), OA 17 (.alloc 37 [.int .i64 0, .slice none 0 0, .slice none 0 0, .slice none 0 0, .slice none 0 0]), OB
 (.store 5 (TT 17) (TT 112)), MM 18 113]) (.seq (.seq (.reg [MM 114 18, OA 115 (.bin .neq (TT 114) (II 0))]) (.cond (TT 115) (.seq (.reg [MM 116 18, OA 117 (.bin .eql (TT 116) (II 17)), MM 6 117]) .ret) .skip)) (.seq (.seq (.reg
 [FF 118 1 17, VV 119 118, OA 120 (.len false (TT 119)), FF 121 0 7, VV 122 121, OA 123 (.len false (TT 122)), OA 124 (.bin .neq (TT 120) (TT 123)), MM 125 124, FG 126 1 17 125 false, VG 127 126 125 false, OC 128 (.q8 4 (TT
 127) (II 0)) 125 false, FG 129 0 128 125 false, VG 130 129 125 false, OC 131 (.len false (TT 130)) 125 false, MG 132 11 125 false, OC 133 (.len false (TT 132)) 125 false, OC 134 (.bin .neq (TT 131) (TT 133)) 125 false, OA 135
 (.pick (TT 125) (.const (.bool true)) (TT 134))]) (.cond (TT 135) (.seq (.reg [OA 6 (.mv (.const (.bool false)))]) .ret) .skip)) (.reg [MM 136 14, LL 137 5 17, OB (.store 5 (TT 8) (TT 137)), OA 138 (.q8 1 (TT 136) (II 0)), OB
 (.store 1 (TT 138) (.const (.bool false)))])))))) (.reg [OA 139 (.bin .add (TT 74) (II 1)), MM 74 139]))))))) (.seq (.reg [MM 140 12, OA 141 (.bin .gtr (TT 140) (II 8)), MM 142 141, FG 143 1 8 142 false, VG 144 143 142 false, OC
 145 (.q8 4 (TT 144) (II 0)) 142 false, LG 146 4 145 142 false, OC 147 (.call 20 [TT 146]) 142 false, OC 148 (.un .not (TT 147)) 142 false, OA 149 (.pick (TT 142) (.const (.bool true)) (TT 148)), MM 6 149]) .ret)))))))))⟩
theorem a4u : M9 eff Tryz.prog Tryz.f5 = some a1E := by kernel_rfl
theorem a4t : Tryz.prog.funcs[5]? = some Tryz.f5 := Tryz.func5
set_option maxHeartbeats 32000000
theorem b2H (raw pose to : List Int) (hp : pose.length <= 1048576) (hn : to.length <= 1048576) : FZ 5 [A9 raw, A9 pose, A9 to] (.v (.bool true)) := by
 refine kW a4t a4u (by rfl) fun w' O hw => ?_
 have hk := a8l raw
 obtain ⟨ha, hs⟩ := a4X raw
 have hwb := b3f raw
 have hps := fun (E : Ctx) (hP : E.P = Tryz.prog) (ht : Tz E) => c0l hP ht raw pose hp
 have hpos := b7T raw
 have hqk : ∀ a ∈ (D6 raw).arms, ∀ x ∈ a.links, a5r x := a8P _ _ _
 have hC0 := a8G pose hwb hk ha hs
 have hG0 := fun (a : Am) (u0 : List Nm.Rt) (ga : (D6 raw).arms[0]? = some a) => b7u pose u0 hwb hk ha hs ga
 have hpg := fun (a : Am) (ga : (D6 raw).arms[0]? = some a) => a2b (to := pose) ga
 have hpl := a3f (D6 raw) pose
 generalize a0i (D6 raw) pose = L at *
 generalize (D9 (D6 raw)).parts = P0 at *
 generalize (D9 (D6 raw)).gates = g0 at *
 generalize D6 raw = w at *
 obtain ⟨a, ga⟩ : ∃ a, w.arms[0]? = some a := ⟨_, c2M hpos⟩
 have gx := hpg a ga
 have hG0 := hG0 a (a1z a.links (M4 a.links (to.drop (3 * 0))) (a0Q a (pose.drop (3 * 0)) (-1)).q) ga
 have haa := ha a (c2P ga)
 have gu := b5N (to := to) (s := ⟨0, L, P0, [], g0⟩) ga gx
 have hwi := b8C w ⟨0, L, P0, [], g0⟩ to 0 hC0.b8X (by decide) hn
 have hUl := a6z (w.arms.zip L) to w.arms.length
 have hUb := b9O (to := to) hC0.b8X (by decide)
 have hU1 : ∀ l ∈ a0O (w.arms.zip L) to w.arms.length, ∀ r ∈ l, Rb 150 r := fun l hl r hr => by
  obtain ⟨i, _, rfl⟩ := List.mem_map.1 hl
  exact (b2o hC0.b8X hr).mono (by decide)
 have hab : Ab 1073741824 a := (J9 haa).1.mono (by decide)
 have hxl : (a0Q a (pose.drop (3 * 0)) (-1)).q.length = a.links.length := a0B _ _
 have hxb := hC0.q _ (c2P gx)
 have hxg : (a0Q a (pose.drop (3 * 0)) (-1)).q.all F9 = true := a5S _ _
 have hul := b0Y (a0B a.links (to.drop (3 * 0))) hxl
 have hfew := b6K (c := M4 a.links (to.drop (3 * 0))) (q := (a0Q a (pose.drop (3 * 0)) (-1)).q) haa (hqk a (c2P ga)) (fun r hr => hU1 _ (c2P gu) r hr)
 clear hqk hpg hs hk ha hC0
 simp only at gu hwi hUb gx
 generalize a0O (w.arms.zip L) to w.arms.length = U at *
 generalize a1z a.links (M4 a.links (to.drop (3 * 0))) (a0Q a (pose.drop (3 * 0)) (-1)).q = u0 at *
 generalize a0Q a (pose.drop (3 * 0)) (-1) = x0 at *
 have hR := c0O a x0.q u0 hab haa hxl hul (fun r hr => (hxb r hr).mono (by decide)) hfew
 have hrl := b1d (L := a.links) hxl hul
 have hrg := @b1g a.links x0.q u0
 have hT0 := a3u (a.links.zip u0)
 have hT8 : R4 (a.links.zip u0) <= 8 := b5G fun z hz => by
  obtain ⟨j, hj⟩ := List.getElem?_of_mem hz
  rw [List.getElem?_zip_eq_some] at hj
  exact (hfew j _ _ hj.1 hj.2).few
 obtain ⟨tk, htk⟩ : ∃ n : Nat, R4 (a.links.zip u0) = n := ⟨(R4 (a.links.zip u0)).toNat, by omega⟩
 rw [htk] at hR hT8
 have hst := fun (E : Ctx) (hP : E.P = Tryz.prog) (ht : Tz E) (s : Stt) (i : Nat) (h : GInv w a x0.q u0 i s) (hi : i <= 10) => c1C hP ht w s U (pwL w.arms.length i) hwb h.big hUb hUl (b3C _ _) h.people (by have := h.tick; omega)
 have hnx := fun (s : Stt) (i : Nat) (h : GInv w a x0.q u0 i s) (hE : I5 w s = 0) (hi : i <= 10) => b6t h hE hi hUl hU1 ga gu haa hxg hxl hul
 have hrun := fun (s : Stt) (i : Nat) (h : GInv w a x0.q u0 i s) => h.run
 have hrr := fun (y : Ast) (i : Nat) (h : Run a x0.q u0 i y) (j : Nat) (q : Nm.Rt) (hq : y.q[j]? = some q) => b6x h haa hxl hul hq
 have hstop := fun (y : Ast) (i : Nat) (h : Run a x0.q u0 i y) (hj : tk + 1 <= i) => b8R h haa hxl hul (by rw [htk]; omega)
 generalize a4s a.links x0.q u0 = RL at *
 have ha3 := (X8 haa).2
 have hnA := hwb.arms.1
 clear hUb hU1 hxg htk hT0
 generalize hw0 : w = w0 at hst hnx hrun hG0
 obtain ⟨arms, walls, parts, slots, gates, walk⟩ := w
 simp only at ga hpos hpl hUl hnA
 have hal : w0.arms.length = arms.length := by rw [<- hw0]
 have hc0 : w0.c = (Wk.mk arms walls parts slots gates walk).c := by rw [<- hw0]
 clear hw0
 simp only [a1E, l6, TT, II, OA, OB, OC, MM, LL, VV, FF, MG, LG, VG, FG]
 simp only [hc0, Wk.c, Wk.enc, Stt.c, Stt.enc, ams, wls, pts, sls, gts, R5, frs, vts, bls, wss, A9, rc, sb, ints, c3v] at hps hwi ⊢
 (repeat first | refine uA ?_ | (refine uK ?_ ?_; focus first | omega | (intros; simp_all <;> omega)) | simp (disch := omega) only [go_sem, Nat.reduceBEq, Nat.reduceAdd, ww, C.sh, C.shL, c3g, List.length_nil, c2N] | refine l7.t (j5.pre (hps _ rfl (tz hw)) rfl rfl rfl) ?_)
 refine S.cond rfl (fun hc => by simp at hc) (fun hc => ?_)
 refine S.weaken (st' := ⟨[(2, A9 to), (7, .bp 14 0), (8, .bp 15 0)], [.gone, .gone, .gone, .gone, .gone, .gone, .gone, .gone, .gone, .gone, .gone, .gone, .gone, .gone, .box 31 [ams arms, wls walls, pts parts, sls slots, gts gates, .v (.bool walk.neg), sb walk.num, sb walk.den], .box 37 [ints 0, R5 L, frs P0, vts [], bls g0]]⟩) (Ent.mk _ _ (by (repeat' (first | exact Q8.nil | exact Imp.junk | exact Imp.refl rfl | exact Imp.frz rfl rfl rfl | exact Imp.eq (by simp [slot]; done) rfl | refine Q8.cons ?_ ?_))) (by (repeat' (first | exact K9.nil | exact RI.gone _ | exact RI.row _ _ _ _ rfl | exact RI.map _ _ _ rfl | exact RI.box _ _ _ (l8.refl rfl) | (refine RI.box _ _ _ ?_; (repeat' (first | exact l8.nil | exact Imp.refl rfl | exact Imp.frz rfl rfl rfl | exact Imp.K7 | refine l8.cons ?_ ?_))) | refine K9.cons ?_ ?_))) (c2T _)) ?_
 simp only [ams, wls, pts, sls, gts, R5, frs, vts, bls, A9, sb, ints, c3v]
 obtain ⟨xq, xv, xp, xh⟩ := x0
 obtain ⟨an, ⟨bx, by', half, tu⟩, links⟩ := a
 simp only at hR hrl hrr hstop hxl hul hrg hfew hxb ha3
 simp only [Am.c, Am.enc, lks, rts, sb, ints] at hR
 have d1 : decide ((RL.length : Int) = (links.length : Int)) = true := decide_eq_true (by omega)
 have d2 : decide ((tk : Int) + 1 < 1) = false := decide_eq_false (by omega)
 (repeat first | refine uA ?_ | (refine uK ?_ ?_; focus first | omega | (intros; simp_all <;> omega)) | simp (disch := omega) only [go_sem, Nat.reduceBEq, Nat.reduceAdd, ww, ga, gx, gu, d1, d2, c2O, c2N, Am.enc, Ast.enc, lks, rts, sb, ints, Int.toNat_zero] | (refine uD hwi ?_ ?_ ?_; exact tz hw; exact rfl) | (refine uD hR ?_ ?_ ?_; exact tz hw; exact rfl))
 refine S.cond rfl (fun hc => by simp at hc) (fun hc => ?_)
 have hp0 : (List.replicate arms.length [C.v (.bool false)]).set 0 [.v (.bool true)] = (pwL arms.length 0).map fun b => [C.v (.bool b)] := by
  unfold pwL
  rw [List.map_set, List.map_replicate]
  rfl
 have hr0 : (List.replicate arms.length [C.v (.bool false)])[0]? = some [C.v (.bool false)] := by rw [List.getElem?_replicate, if_pos hpos]
 obtain ⟨mN, hmN⟩ : ∃ m : Nat, (if 8 < (tk : Int) + 1 then 8 else (tk : Int) + 1) = m /\ (m = tk + 1 \/ m = 8) /\ m <= 8 /\ (tk + 1 <= 8 -> m = tk + 1) := ⟨min (tk + 1) 8, by split <;> omega, by omega, by omega, by omega⟩
 obtain ⟨hm1, hm2, hm3, hm4⟩ := hmN
 (repeat first | refine uA ?_ | (refine uK ?_ ?_; focus first | omega | (intros; simp_all <;> omega)) | simp (disch := omega) only [go_sem, Nat.reduceBEq, Nat.reduceAdd, ww, c2N, c2X, Int.toNat_zero, List.length_replicate, hr0, hp0, hm1])
 refine S.loop (X := Nat × Stt) (fun x => ⟨[(7, .bp 14 0), (8, .bp 15 0), (10, wss U), (11, .sl 6 (RL.map Sn.enc)), (12, ints ((tk : Int) + 1)), (14, .rv 16), (73, ints mN), (74, ints x.1)], [.gone, .gone, .gone, .gone, .gone, .gone, .gone, .gone, .gone, .gone, .gone, .gone, .gone, .gone, .box 31 [ams arms, wls walls, pts parts, sls slots, gts gates, .v (.bool walk.neg), sb walk.num, sb walk.den], .box 37 x.2.enc, .row 4 1 ((pwL arms.length x.1).map fun b => [.v (.bool b)])]⟩) (fun x => x.1 <= mN /\ GInv w0 ⟨an, ⟨bx, by', half, tu⟩, links⟩ xq u0 x.1 x.2) (fun x => mN - x.1) (0, ⟨0, L, P0, [], g0⟩) ⟨c2T _, hG0⟩ (by simp only [Stt.enc, R5, frs, vts, bls, ints]; exact (by (repeat first | refine uA ?_ | (refine ⟨?_, ?_⟩; focus first | rfl | simp [slot]) | rfl | simp))) ?_
 rintro ⟨i, s⟩ ⟨hi, hG⟩
 simp only at hi hG ⊢
 clear hG0 hps hwi hR
 have hrun := hrun s i hG
 obtain ⟨y, gy, hy⟩ := hrun
 have hyq := hy.q
 have hyv := hy.v
 simp only at hyq hyv
 have hrr := hrr y i hy
 have hstop := hstop y i hy
 have hst := fun (E : Ctx) (hP : E.P = Tryz.prog) (ht : Tz E) => hst E hP ht s i hG (by omega)
 have hnx := fun hE => hnx s i hG hE (by omega)
 have hmov := b8S y ⟨⟨by omega, fun r hr => ((hG.big.arms.2 y (c2P gy)).1.2 r hr).mono (by decide)⟩, by omega, fun r hr => ((hG.big.arms.2 y (c2P gy)).2.2 r hr).mono (by decide)⟩
 have hyb := (hG.big.arms.2 y (c2P gy)).1.2
 have htwo := hG.two
 have hnl := hG.len
 unfold stepT at hst
 simp only [hc0] at hst
 have hpg := b7z i hpos
 have hpn := c0H arms.length i
 have hpwl := b3C arms.length i
 rw [hal] at hst hnx hnl
 generalize hX : Z0 w0 s U (pwL arms.length i) [] = X at *
 generalize hE0 : I5 w0 s = E0 at *
 clear hX hE0 hG
 obtain ⟨tick, sarms, sparts, people, sgates⟩ := s
 obtain ⟨yq, yv, yp, yh⟩ := y
 simp only at gy hyq hyv hnl hrr hyb
 simp only [Wk.c, Wk.enc, Stt.c, Stt.enc, Ast.c, Ast.enc, b1E, ams, wls, pts, sls, gts, R5, frs, vts, bls, wss, rts, sb, ints] at hst hmov ⊢
 (repeat first | refine uA ?_ | (refine uK ?_ ?_; focus first | omega | (intros; simp_all <;> omega)) | simp (disch := omega) only [go_sem, Nat.reduceBEq, Nat.reduceAdd, ww, gy, c2O, c2N, Ast.enc, rts, ints, Int.toNat_zero])
 (refine uJ rfl (fun hc => ?_) fun hc => ?_)
 ·(repeat first | refine uA ?_ | (refine uK ?_ ?_; focus first | omega | (intros; simp_all <;> omega)) | simp (disch := omega) only [go_sem, Nat.reduceBEq, Nat.reduceAdd, ww, gy, c2O, c2N, Ast.enc, rts, ints, Int.toNat_zero])
  refine S.loop (X := Nat) (fun j => ⟨[(7, .bp 14 0), (8, .bp 15 0), (10, wss U), (11, .sl 6 (RL.map Sn.enc)), (12, ints ((tk : Int) + 1)), (14, .rv 16), (73, ints mN), (74, ints i), (80, rts yq), (81, ints yq.length), (82, ints j)], [.gone, .gone, .gone, .gone, .gone, .gone, .gone, .gone, .gone, .gone, .gone, .gone, .gone, .gone, .box 31 [ams arms, wls walls, pts parts, sls slots, gts gates, .v (.bool walk.neg), sb walk.num, sb walk.den], .box 37 [ints tick, R5 sarms, frs sparts, vts people, bls sgates], .row 4 1 ((pwL arms.length i).map fun b => [.v (.bool b)])]⟩) (fun j => j <= yq.length) (fun j => yq.length - j) 0 (c2T _) (by (repeat first | refine uA ?_ | (refine ⟨?_, ?_⟩; focus first | rfl | simp [slot]) | rfl | simp)) ?_
  intro j hj
  simp only [ams, wls, pts, sls, gts, R5, frs, vts, bls, wss, rts, sb, ints]
  (repeat first | refine uA ?_ | (refine uK ?_ ?_; focus first | omega | (intros; simp_all <;> omega)) | simp (disch := omega) only [go_sem, Nat.reduceBEq, Nat.reduceAdd, ww])
  (refine uJ rfl (fun hc => ?_) fun hc => ?_)
  ·have hj' : j < yq.length := by omega
   have gq := c2M hj'
   generalize yq[j] = q at *
   obtain ⟨l, b, c, e1, e2, e3, c1, c2⟩ := hrr j q gq
   have gr := hrg e1 e2 e3
   have rr := b8A (hfew j l c e1 e3) ((hxb b (c2P e2)).mono (by decide))
   have rq := hyb q (c2P gq)
   have hjr := (c2R.1 gr).1
   unfold a8Z snQ at gr
   have o1 := X5 (Nm.ofQ (loQ b c l.brake)) q (rr.1.mono (by decide)) (rq.mono (by decide))
   have o2 := X5 q (Nm.ofQ (hiQ b c l.brake)) (rq.mono (by decide)) (rr.2.mono (by decide))
   rw [Nm.r9] at o1 o2
   have g1 := decide_eq_false c1
   have g2 := decide_eq_false c2
   generalize Nm.z8 (loQ b c l.brake) (Nm.d9 q) = k1 at *
   generalize Nm.z8 (Nm.d9 q) (hiQ b c l.brake) = k2 at *
   generalize Nm.ofQ (loQ b c l.brake) = z1 at *
   generalize Nm.ofQ (hiQ b c l.brake) = z2 at *
   clear c1 c2 rr hrr hstop hnx hst hmov
   simp only [rc, sb, ints] at o1 o2
   (repeat first | refine uA ?_ | (refine uK ?_ ?_; focus first | omega | (intros; simp_all <;> omega)) | simp (disch := omega) only [go_sem, Nat.reduceBEq, Nat.reduceAdd, ww, gq, gr, g1, g2, c2O, c2N, Sn.enc, rcs, sb, ints, c2X] | (refine uD o1 ?_ ?_ ?_; exact tz hw; exact rfl) | (refine uD o2 ?_ ?_ ?_; exact tz hw; exact rfl))
   refine S.cond rfl (fun hc => by simp at hc) (fun hc => ?_)
   (repeat first | refine uA ?_ | (refine uK ?_ ?_; focus first | omega | (intros; simp_all <;> omega)) | simp (disch := omega) only [go_sem, Nat.reduceBEq, Nat.reduceAdd, ww])
   refine S.next (j + 1) (by omega) (by omega) (by (repeat first | refine uA ?_ | (refine ⟨?_, ?_⟩; focus first | rfl | simp [slot]) | rfl | simp))
  ·rcases htwo with h0 | h0
   ·subst h0
    have hnx := hnx rfl
    have hxl' := hnx.len
    rw [hal] at hxl'
    obtain ⟨y2, gy2, hy2⟩ := hnx.run
    have hy2q := hy2.q
    rw [if_pos rfl] at hst
    have hps2 : ((pwL arms.length i).map fun b => [C.v (.bool b)]).set 0 [.v (.bool false)] = (pwL arms.length (i + 1)).map fun b => [C.v (.bool b)] := by rw [<- hpn, List.map_set]
    obtain ⟨xt, xa, xpa, xpe, xg⟩ := X
    obtain ⟨yq2, yv2, yp2, yh2⟩ := y2
    simp only at hxl' gy2 hy2q hst
    have hxa := (c2R.1 gy2).1
    (repeat first | refine uA ?_ | (refine uK ?_ ?_; focus first | omega | (intros; simp_all <;> omega)) | simp (disch := omega) only [go_sem, Nat.reduceBEq, Nat.reduceAdd, ww] | refine l7.t (j5.lift (k := 16) rfl (hst _ rfl (tz hw)) rfl rfl rfl) ?_)
    refine S.cond rfl (fun hc => by simp at hc) (fun hc => ?_)
    have d3 : decide ((xa.length : Int) = (arms.length : Int)) = true := decide_eq_true (by omega)
    have d4 : decide ((yq2.length : Int) = (RL.length : Int)) = true := decide_eq_true (by omega)
    (repeat first | refine uA ?_ | (refine uK ?_ ?_; focus first | omega | (intros; simp_all <;> omega)) | simp (disch := omega) only [go_sem, Nat.reduceBEq, Nat.reduceAdd, ww, gy2, d3, d4, c2O, c2N, Ast.enc, rts, ints, Int.toNat_zero])
    refine S.cond rfl (fun hc => by simp at hc) (fun hc => ?_)
    (repeat first | refine uA ?_ | (refine uK ?_ ?_; focus first | omega | (intros; simp_all <;> omega)) | simp (disch := omega) only [go_sem, Nat.reduceBEq, Nat.reduceAdd, ww, hpg, hps2, hpwl, c2O, c2N, Int.toNat_zero])
    refine S.next (x := (i, ⟨tick, sarms, sparts, people, sgates⟩)) (i + 1, ⟨xt, xa, xpa, xpe, xg⟩) ⟨by simp only; omega, hnx⟩ (by simp only; omega) (by simp only [Stt.enc, R5, frs, vts, bls, ints]; exact (by (repeat first | refine uA ?_ | (refine ⟨?_, ?_⟩; focus first | rfl | simp [slot]) | rfl | simp)))
   ·subst h0
    rw [if_neg (by decide)] at hst
    (repeat first | refine uA ?_ | (refine uK ?_ ?_; focus first | omega | (intros; simp_all <;> omega)) | simp (disch := omega) only [go_sem, Nat.reduceBEq, Nat.reduceAdd, ww] | refine l7.t (j5.lift (k := 16) rfl (hst _ rfl (tz hw)) rfl rfl rfl) ?_)
    refine S.cond rfl (fun hc => ?_) (fun hc => by simp at hc)
    (repeat first | refine uA ?_ | (refine uK ?_ ?_; focus first | omega | (intros; simp_all <;> omega)) | simp (disch := omega) only [go_sem, Nat.reduceBEq, Nat.reduceAdd, ww])
    exact S.done (j3.out rfl (Imp.refl rfl) rfl)
 ·have hi' : i = mN := by omega
  by_cases ht8 : tk + 1 <= 8
  ·rw [hstop (by omega)] at hmov
   have d5 : decide (8 < (tk : Int) + 1) = false := decide_eq_false (by omega)
   (repeat first | refine uA ?_ | (refine uK ?_ ?_; focus first | omega | (intros; simp_all <;> omega)) | simp (disch := omega) only [go_sem, Nat.reduceBEq, Nat.reduceAdd, ww, gy, d5, c2O, c2N, Ast.enc, rts, ints, Int.toNat_zero] | (refine uD hmov ?_ ?_ ?_; exact tz hw; exact rfl))
   exact S.done (j3.out rfl (Imp.refl rfl) rfl)
  ·have d5 : decide (8 < (tk : Int) + 1) = true := decide_eq_true (by omega)
   (repeat first | refine uG hmov ?_ | refine uA ?_ | (refine uK ?_ ?_; focus first | omega | (intros; simp_all <;> omega)) | simp (disch := omega) only [go_sem, Nat.reduceBEq, Nat.reduceAdd, ww, gy, d5, c2O, c2N, Ast.enc, rts, ints, Int.toNat_zero])
   exact S.done (j3.out rfl (Imp.refl rfl) rfl)
open Go Go.RowKit Go.ChangeShapes Go.WideShapes Eng
theorem b8o {H : Type} {l : List (DataW H)} (hk : Rows.uptoSmall H l = true) : Rows.uptoBulkAll l <= 1048576 := of_decide_eq_true hk
theorem b8P {H : Type} (l r : List (DataW H)) : Rows.uptoBulkAll (l ++ r) = Rows.uptoBulkAll l + Rows.uptoBulkAll r := by
 induction l with
 | nil => simp [Rows.uptoBulkAll]
 | cons x l ih => simp only [List.cons_append, Rows.uptoBulkAll, ih]; omega
def noB : Nat -> Prop := fun _ => False
section
variable {H : Type} {enc : TypeId × Value -> H} {P : Program} {W : World}
def Opens (enc : TypeId × Value -> H) (P : Program) (W : World) (t : TypeId) {α : Type} (tc : α -> List C) (ok : α -> Prop) (ms : α -> Nat) : Prop :=
 ∀ (fuel : Nat) (cs : List Value) (x : DataW H × List MemPlace), DataW.trod enc P W 0 (fun _ => true) true fuel t cs = some x -> ∃ a : α, FzL W noB (tc a) cs /\ (∀ u ∈ cs, u.oneCell' = true) /\ ok a /\ ms a <= Rows.uptoBulk x.1
def I64 (n : Int) : Prop := -9223372036854775808 <= n /\ n <= 9223372036854775807
theorem b6L {t : TypeId} (ht : P.underlying t = some (.int .i64)) : Opens enc P W t (fun n : Int => [.v (.int .i64 n)]) I64 fun _ => 1 := by
 intro fuel cs x h
 obtain ⟨n, rfl, rfl, hw⟩ := DataW.trod_int ht h
 refine ⟨n, by simp [FzL, Fz], by simp [Value.oneCell'], ?_, by simp [Rows.uptoBulk]⟩
 simpa [Lit.wf, IntKind.min, IntKind.max, IntKind.signed, IntKind.bits, I64] using hw
theorem Opens.imp {t : TypeId} {α β : Type} {tc : α -> List C} {ok : α -> Prop} {ms : α -> Nat} {tc' : β -> List C} {ok' : β -> Prop} {ms' : β -> Nat} (h : Opens enc P W t tc ok ms)
  (f : ∀ a, ok a -> ∃ b, tc a = tc' b /\ ok' b /\ ms' b <= ms a) : Opens enc P W t tc' ok' ms' := by
 intro fuel cs x hx
 obtain ⟨a, h0, h01, h1, h2⟩ := h fuel cs x hx
 obtain ⟨b, h3, h4, h5⟩ := f a h1
 exact ⟨b, by rw [<- h3]; exact h0, h01, h4, c2Q h5 h2⟩
theorem b6I {w : World} {O : Nat -> Prop} {q : List C} {vs : List Value} {ad : Addr} {j : Nat} (hF : FzL w O q vs) (h1 : ∀ u ∈ vs, u.oneCell' = true) (hc : ∀ i v, vs[i]? = some v -> w.cell? (ad.add (j + i)) = some v) : FzA w O q ad j := FzA.of hF h1 hc
theorem b4n {t e : TypeId} {α : Type} {tc : α -> List C} {ok : α -> Prop} {ms : α -> Nat} {sz : Nat} (ht : P.underlying t = some (.slice e)) (hc : P.cellsOf e = sz) (hsz : 0 < sz) (hlen : ∀ a, (tc a).length = sz)
  (he : Opens enc P W e tc ok ms) : Opens enc P W t (fun xs : List α => [.sl sz (xs.map tc)]) (fun xs => ∀ a ∈ xs, ok a) fun xs => 1 + (xs.map ms).sum := by
 intro fuel cs x h
 rcases Deep.open_slice ht h with ⟨rfl, rfl⟩ | ⟨a, len, cap, m, n, D, Pl, rfl, _, hl, hm, hmm, rfl, hx⟩
 ·refine ⟨[], ?_, by simp [Value.oneCell'], (fun a ha => by cases ha), by simp [Rows.uptoBulk]⟩
  simp only [FzL, Fz]
  exact ⟨_, _, rfl, ⟨none, 0, rfl, c2V _, c2T _, fun h => by simp at h⟩, rfl⟩
 ·have hlm : len <= m := by rw [hmm]; split <;> omega
  have key : ∀ i, i < len -> ∃ (y : α) (vs : List Value), W.cells? 0 (a.add (i * sz)) sz = some vs /\ FzL W noB (tc y) vs /\ (∀ u ∈ vs, u.oneCell' = true) /\ ok y /\ ms y <= Rows.uptoBulk (D i) := by
   intro i hi
   obtain ⟨cs', h1, h2⟩ := hx i (by omega)
   obtain ⟨y, h31, h32, h3, h4⟩ := he _ _ _ h2
   rw [hc] at h1
   exact ⟨y, cs', h1, h31, h32, h3, h4⟩
  have build : ∀ k, k <= len -> ∃ xs : List α, xs.length = k /\ (∀ i y, xs[i]? = some y -> ∃ vs, W.cells? 0 (a.add (i * sz)) sz = some vs /\ FzL W noB (tc y) vs /\ (∀ u ∈ vs, u.oneCell' = true) /\ ok y) /\ (xs.map ms).sum <= Rows.uptoBulkAll ((List.range k).map D) := by
   intro k
   induction k with
   | zero => intro _; exact ⟨[], rfl, (fun i y h => by simp at h), by simp⟩
   | succ k ih =>
    intro hk
    obtain ⟨xs, h1, h2, h3⟩ := ih (by omega)
    obtain ⟨y, vs, h4, h41, h42, h5, h6⟩ := key k (by omega)
    refine ⟨xs ++ [y], by simp [h1], fun i z hz => ?_, ?_⟩
    ·rcases c3n i xs.length with hlt | hge
     ·rw [c3d hlt] at hz
      exact h2 i z hz
     ·rw [c3h hge] at hz
      have : i - xs.length = 0 := by
       rcases c3k (i - xs.length) with h0 | h0
       ·exact h0
       ·obtain ⟨d, hd⟩ : ∃ d, i - xs.length = d + 1 := ⟨i - xs.length - 1, by omega⟩
        rw [hd] at hz; simp at hz
      rw [this] at hz
      simp at hz
      subst hz
      have : i = k := by omega
      subst this
      exact ⟨vs, h4, h41, h42, h5⟩
    ·rw [c3D, List.sum_append, List.range_succ, c3D, b8P]
     simp only [c3e, c3v, List.sum_cons, List.sum_nil, Rows.uptoBulkAll]
     omega
  obtain ⟨xs, h1, h2, h3⟩ := build len (c2V _)
  have hcell : ∀ (i : Nat) (y : α), xs[i]? = some y -> (tc y).length = sz /\ FzA W noB (tc y) a (i * sz) := by
   intro i y hy
   obtain ⟨vs, h4, h41, h42, _⟩ := h2 i y hy
   obtain ⟨_, h5, h6⟩ := World.cells?_some h4
   refine ⟨hlen _, b6I h41 h42 fun j v hv => ?_⟩
   have hj : j < sz := by
    have := (c2R.1 hv).1
    rwa [h5] at this
   have h7 := h6 j hj
   rw [hv, Deep.add_add] at h7
   exact h7
  refine ⟨xs, ?_, by simp [Value.oneCell'], fun y hy => ?_, ?_⟩
  ·simp only [FzL]
   refine ⟨_, _, rfl, ?_, rfl⟩
   simp only [Fz]
   refine ⟨some a, cap, by simp [h1], by simp; omega, hm, fun h0 => ⟨a, rfl, ?_, (fun h => h), FzE.of fun k q hq => ?_⟩⟩
   ·have hi : 0 < xs.length := by simpa using h0
    obtain ⟨hq1, hq2⟩ := hcell 0 xs[0] (c2M hi)
    have h9 : 0 < (tc xs[0]).length := by omega
    match htc : tc xs[0], h9, hq2 with
    | c :: cs, _, hq2 =>
     simp only [FzA] at hq2
     obtain ⟨⟨v, hv, _⟩, _⟩ := hq2
     have h10 := block_lt_of_cell hv
     rwa [add_block] at h10
   ·rw [c3i] at hq
    obtain ⟨y, hy, rfl⟩ := Option.map_eq_some_iff.1 hq
    rw [c3s]; exact hcell k y hy
  ·obtain ⟨i, hi⟩ := List.mem_iff_getElem?.1 hy
   exact (h2 i y hi).choose_spec.2.2.2
  ·simp only [Rows.uptoBulk]
   omega
theorem FzL.app {w : World} {O : Nat -> Prop} : ∀ {cs ds : List C} {vs us : List Value}, FzL w O cs vs -> FzL w O ds us -> FzL w O (cs ++ ds) (vs ++ us)
 | [], ds, vs, us, h, k => by simp only [FzL] at h; subst h; simpa using k
 | c :: cs, ds, vs, us, h, k => by
  simp only [FzL] at h
  obtain ⟨y, ys, rfl, h1, h2⟩ := h
  exact ⟨y, ys ++ us, rfl, h1, FzL.app h2 k⟩
theorem b8K {f : Func} {s : ChangeSpec} {apart fresh handsOn again : Bool} {W' : World} {args : Array Value} {ds gs : List (DataW H)} {before : List MemPlace} {tb : TypeId} (hl : laidOutB P = true) (hpar : ∀ t ∈ f.params.toList, P.readableRec t = true /\ t < P.types.size)
  (hrt : f.resultTypes = #[tb]) (htb : P.underlying tb = some .bool) (hv : s.vars = []) (hfn : s.fn H (ds ++ gs) = { results := [.lit (.bool true)], args := ds }) (hW : DataW.Whole enc P f.params.toList s.vars apart W args.toList ds gs before) (hb : Below W.heap.size W W') :
  s.post enc P f apart fresh handsOn again W args (.bool true) W' := by
 have hlt : ∀ p ∈ before, p.block < W.heap.size := fun p hp => hW.lt p hp
 obtain ⟨p, q, hA, hV, hps, hz, hn⟩ := id hW
 rw [hv] at hV
 obtain ⟨rfl, rfl⟩ := trodVars_none hV
 rw [List.append_nil] at hps
 subst hps
 have all : ∀ (sp : Nat -> Bool) (ts : List TypeId) (vs : List Value) (es : List (DataW H)) (pl : List MemPlace), (∀ t ∈ ts, P.readableRec t = true /\ t < P.types.size) -> (∀ x ∈ pl, x.block < W.heap.size /\ sp x.block = true) -> DataW.TrodAll enc P W 0 (fun _ => true) true ts vs es pl -> DataW.TrodAll enc P W' 0 sp true ts vs es pl := by
  intro sp ts
  induction ts with
  | nil =>
   intro vs es pl _ _ h
   cases vs <;> cases es <;> simp only [DataW.TrodAll] at h ⊢ <;> exact h
  | cons t ts ih =>
   intro vs es pl hts hpl h
   cases vs <;> cases es <;> simp only [DataW.TrodAll] at h ⊢
   obtain ⟨p1, p2, h1, h2, rfl⟩ := h
   refine ⟨p1, p2, ?_, ih _ _ _ (fun t ht => hts t (List.mem_cons_of_mem _ ht)) (fun x hx => hpl x (List.mem_append_right _ hx)) h2, rfl⟩
   exact WideElems.Trod_stays hl (hts t (List.mem_cons_self ..)).1 (hts t (List.mem_cons_self ..)).2 h1 (fun x hx => hb.same (hpl x (List.mem_append_left _ hx)).1) fun x hx => (hpl x (List.mem_append_left _ hx)).2
 have hres : ∀ (b : Nat) (sp : Nat -> Bool) (hd : Bool), DataW.TrodAll enc P W' b sp hd f.resultTypes.toList ((Value.bool true).resultList f.resultTypes.size) (s.fn H (ds ++ [])).results [] := by
  intro b sp hd
  rw [hrt, hfn]
  exact trodAll_cons_mk (shut_bool htb true) trodAll_mk0
 have hargs : ∀ sp : Nat -> Bool, (∀ p' ∈ before, sp p'.block = true) -> DataW.TrodAll enc P W' 0 sp true f.params.toList args.toList (s.fn H (ds ++ [])).args before := fun sp hsp => by
  rw [hfn]
  exact all sp _ _ _ _ hpar (fun x hx => ⟨hlt x hx, hsp x hx⟩) hA
 have hvars : ∀ sp : Nat -> Bool, DataW.TrodVars enc P W' sp s.vars (s.fn H (ds ++ [])).vars [] := fun sp => by rw [hv, hfn]; rfl
 have hold : ∀ p' ∈ before, (fun b => decide (b < W.heap.size)) p'.block = true := fun p' hp => by simpa using hlt p' hp
 refine ⟨ds, [], before, [], before, [], hW, hres _ _ _, hargs _ hold, hvars _, World.keptBut_mono (fun p' hp => ⟨hp, ?_⟩) (hb.frame (· ∈ before)), fun _ => ⟨ok_one hrt rfl (okWide_bool_mk htb _), _, _, ([] ++ before) ++ [], ⟨[] ++ before, [], trodAll_append (hargs _ (fun _ _ => rfl)) (hres _ _ _), hvars _, rfl, ?_, ?_⟩, ?_⟩⟩
 ·exact Or.inr (by simpa using hp)
 ·intro b off hp
  have hin : MemPlace.cell b off ∈ before := by simpa using hp
  rw [hb.frozen (hlt _ hin)]
  exact hz b off hin
 ·intro ha
  have := hn ha
  simpa using this
 ·intro p' hp _
  simpa using hp
end
open Go Go.RowKit Go.ChangeShapes Go.WideShapes Go.ChangeAt Eng
set_option maxRecDepth 10000
theorem b8u : ownKnob Tryz.prog.godebug = none := by kernel_rfl
theorem b8l : laidOutB Tryz.prog = true := by kernel_rfl
theorem gDb : Tryz.prog.globalNamed "math/bits.deBruijn64tab" = some 1 := by kernel_rfl
theorem b9Y : (Tryz.prog.globals[1]?).map (·.type) = some 223 := by kernel_rfl
theorem b7X : Tryz.prog.cellsOf 223 = 64 := by kernel_rfl
theorem c0e : Tryz.prog.cellsOf 5 = 1 := by kernel_rfl
theorem b8B : Tryz.prog.underlying 223 = some (.array 64 5) := by kernel_rfl
theorem c0X : Tryz.prog.underlying 5 = some (.int .u8) := by kernel_rfl
theorem c0h : (Rows.laid_math_bits_deBruijn64tab : DataW Unit) = Lib.tabData .u8 (Lib.deBruijn64tab.map fun n : Nat => (n : Int)) := by rfl
theorem c2b {W : World} {rest : List (String × DataW Unit)} (h : laidMet Tryz.prog (("math/bits.deBruijn64tab", Rows.laid_math_bits_deBruijn64tab) :: rest) W) : Wz W := by
 rw [c0h] at h
 have ht := Lib.tabIs_of_head gDb b9Y b8B c0X c0e b7X h
 intro j hj
 have := ht.cell gDb j (by rw [c2N]; exact hj)
 rw [this]
 congr 2
 rw [c2Y, c2Y, c3i, c2M hj]
 rfl
section
variable {H : Type} {enc : TypeId × Value -> H} {W : World}
theorem b1U {α : Type} : ∀ l : List α, l.length = (l.map fun _ => 1).sum
 | [] => rfl
 | x :: l => by simp only [c3g, c3e, List.sum_cons, <- b1U l]; omega
theorem b6P : Tryz.prog.cellsOf 3 = 1 := by kernel_rfl
theorem b3b : Opens enc Tryz.prog W 22 (fun l : List Int => [.sl 1 (l.map fun n => [.v (.int .i64 n)])]) (fun l => ∀ x ∈ l, I64 x) fun l => 1 + l.length :=
 (b4n Tryz.underlying22 b6P (by decide) (fun _ => rfl) (b6L Tryz.underlying3)).imp fun f hf => ⟨f, rfl, hf, by rw [<- b1U]; exact c2V _⟩
end
noncomputable def laidWorld (os : Os) : World := World.doorLaid Tryz.prog 400 os
theorem a9Z (os : Os) (args : Array Value) : laidMet Tryz.prog Rows.guardRangeUptoRow.laid ((laidWorld os).forCall (fun _ _ => 0) ⟨#[], args, []⟩).memory :=
 laidMet_of_run' 8 (by kernel_rfl) (by kernel_rfl)
theorem a6o (H : Type) (enc : TypeId × Value -> H) (W : World) (base : Nat) (args : Array Value) (ds gs : List (DataW H)) (before : List MemPlace)
  (hval : ∀ (j : Nat) t v, Tryz.f5.params[j]? = some t -> args[j]? = some v -> Value.okWide Tryz.prog W .any base t v)
  (hW : DataW.Whole enc Tryz.prog Tryz.f5.params.toList Rows.guardRangeSpec.vars false W args.toList ds gs before) (hk : Rows.uptoSmall H (ds ++ gs) = true) (hL : laidMetH Tryz.prog Rows.guardRangeUptoRow.laid W) (hS : W.ShapedOpen Tryz.prog) :
  Calls Tryz.prog 5 args W fun e W' => ∃ v, e = .returned v /\ Rows.guardRangeSpec.post enc Tryz.prog Tryz.f5 false true false false W args v W' := by
 have hW' := hW
 obtain ⟨p, q, hA0, hV, rfl, hfz, hnd⟩ := hW
 have hA : DataW.TrodAll enc Tryz.prog W 0 (fun _ => true) true Tryz.f5.params.toList args.toList ds p := hA0
 rw [Tryz.params5] at hA hval
 obtain ⟨v0, vs0, d0, ds0, p0, q0, hargs, rfl, rfl, h0, r0⟩ := trodAll_cons hA
 obtain ⟨v1, vs1, d1, ds1, p1, q1, rfl, rfl, rfl, h1, r1⟩ := trodAll_cons r0
 obtain ⟨v2, vs2, d2, ds2, p2, q2, rfl, rfl, rfl, h2, r2⟩ := trodAll_cons r1
 obtain ⟨rfl, rfl, rfl⟩ := trodAll_nil r2
 obtain rfl : args = #[v0, v1, v2] := by cases args; simp_all
 obtain ⟨rfl, rfl⟩ := trodVars_none hV
 have hb := b8o hk
 obtain ⟨A0, n0, c0, rfl⟩ := okWide_slice Tryz.underlying22 (hval 0 22 v0 rfl rfl)
 obtain ⟨m0, h0⟩ := h0
 obtain ⟨raw, e0, _, k0, b0⟩ := b3b _ _ _ h0
 have b0 : 1 + raw.length <= Rows.uptoBulk d0 := b0
 have e0 : FzL W noB [A9 raw] [.slice A0 n0 c0] := e0
 simp only [FzL] at e0
 obtain ⟨y0, ys0, f0, g0, rfl⟩ := e0
 injection f0 with f0 _
 subst f0
 obtain ⟨A1, n1, c1, rfl⟩ := okWide_slice Tryz.underlying22 (hval 1 22 v1 rfl rfl)
 obtain ⟨m1, h1⟩ := h1
 obtain ⟨pose, e1, _, k1, b1⟩ := b3b _ _ _ h1
 have b1 : 1 + pose.length <= Rows.uptoBulk d1 := b1
 have e1 : FzL W noB [A9 pose] [.slice A1 n1 c1] := e1
 simp only [FzL] at e1
 obtain ⟨y1, ys1, f1, g1, rfl⟩ := e1
 injection f1 with f1 _
 subst f1
 obtain ⟨A2, n2, c2, rfl⟩ := okWide_slice Tryz.underlying22 (hval 2 22 v2 rfl rfl)
 obtain ⟨m2, h2⟩ := h2
 obtain ⟨to, e2, _, k2, b2⟩ := b3b _ _ _ h2
 have b2 : 1 + to.length <= Rows.uptoBulk d2 := b2
 have e2 : FzL W noB [A9 to] [.slice A2 n2 c2] := e2
 simp only [FzL] at e2
 obtain ⟨y2, ys2, f2, g2, rfl⟩ := e2
 injection f2 with f2 _
 subst f2
 simp only [List.append_nil, List.cons_append, List.nil_append, Rows.uptoBulkAll] at hb
 have hF : FzL W noB [A9 raw, A9 pose, A9 to] [.slice A0 n0 c0, .slice A1 n1 c1, .slice A2 n2 c2] := by
  simp only [FzL]
  exact ⟨_, _, rfl, g0, ⟨_, _, rfl, g1, ⟨_, _, rfl, g2, rfl⟩⟩⟩
 refine (b2H raw pose to (by omega) (by omega) noB W _ (c2b hL) (fun _ h => h.elim) hF).mono fun e W' ⟨y, he, hbl, hy⟩ => ?_
 subst he
 simp only [Fz] at hy
 subst hy
 refine ⟨_, rfl, b8K b8l (by
  intro t ht
  rw [Tryz.params5] at ht
  simp only [List.mem_cons, List.not_mem_nil, or_false] at ht
  rcases ht with rfl | rfl | rfl
  ·exact ⟨by kernel_rfl, of_decide_eq_true (by kernel_rfl)⟩
  ·exact ⟨by kernel_rfl, of_decide_eq_true (by kernel_rfl)⟩
  ·exact ⟨by kernel_rfl, of_decide_eq_true (by kernel_rfl)⟩) (tb := 4) rfl Tryz.underlying4 rfl rfl hW' hbl⟩
theorem a8t (os : Os) {H : Type} (enc : TypeId × Value -> H) : ∃ places, DataW.whole enc Tryz.prog ((laidWorld os).forCall (fun _ _ => 0) ⟨#[], #[.slice none 0 0, .slice none 0 0, .slice none 0 0], []⟩).memory Tryz.f5.params.toList Rows.guardRangeSpec.vars false (#[.slice none 0 0, .slice none 0 0, .slice none 0 0] : Array Value).toList 8 = some ([.nil, .nil, .nil], [], places) :=
 ⟨[], by kernel_rfl⟩
set_option maxRecDepth 100000 in
theorem a7A (os : Os) (started : os.Started) (H : Type) (enc : TypeId × Value -> H) (F : Stop.Interp) :
  ReturnsInHanded {} Tryz.checked os 5 .any ((Rows.OpenSpec.upto Rows.guardRangeSpec).preRow enc Tryz.prog Tryz.f5 Rows.guardRangeUptoRow.domain false Rows.guardRangeUptoRow.laid) (((Rows.OpenSpec.upto Rows.guardRangeSpec).at F).post enc Tryz.prog Tryz.f5 false true false false) := by
 obtain ⟨places, hx⟩ := a8t os enc
 refine returnsInHanded_of_row (C := Tryz.checked) (s := Rows.OpenSpec.upto Rows.guardRangeSpec) b8u started (by kernel_rfl) Tryz.func5
  (witness_row_at (enc := enc) (C := Tryz.checked) false (laidWorld os) #[.slice none 0 0, .slice none 0 0, .slice none 0 0] rfl (by kernel_rfl) (by kernel_rfl) (by kernel_rfl)
   (OpenSpec.preRow_of_cond 8 hx (by kernel_rfl) (fun k hk => by cases hk; kernel_rfl) (by kernel_rfl) (a9Z os _))) ?_
 intro W base args ds gs before hval hW _ hcond _ hL hS _
 exact a6o H enc W base args ds gs before hval hW (hcond _ rfl) hL hS
theorem c2E {a b : Bool} (h : a = true) (k : b = true) : (a && b) = true := by rw [h, k]; rfl
set_option maxHeartbeats 40000000 in
theorem a7B : joinedFacts Tryz.pinned.checked.prog 5 Tryz.f5 (Rows.OpenSpec.upto Rows.guardRangeSpec).bare Rows.guardRangeUptoRow = true := by
 unfold joinedFacts
 repeat' (with_reducible refine c2E ?_ ?_)
 all_goals (as_aux_lemma => kernel_rfl)
end Go.Proofs.YtgmlehjgpgdjhaaGreatDoor
