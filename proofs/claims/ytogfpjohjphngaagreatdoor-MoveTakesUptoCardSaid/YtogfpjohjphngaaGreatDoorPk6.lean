/- A part of the proof: lemmas only, with the conditions that each names. -/
import Derived.Test.YtogfpjohjphngaaGreatDoorProg
import Derived.KernelRfl
import Derived.Laws.Bits64b
import Derived.Test.YtogfpjohjphngaaGreatDoorRows
import Derived.Carry
import Derived.ChangeArms
import Derived.ChangeSame
import Derived.Deep.Slices
import Derived.WalkKit
import Derived.ProofKit
import Derived.OpenShut
import Derived.JoinedCond
import Derived.Test.YtogfpjohjphngaaGreatDoorCards
import Derived.Test.YtogfpjohjphngaaGreatDoorTie
import Derived.Deep.DeepHandedRow
import Derived.Deep.DeepWitnessRowRef
import Derived.Lib.LaidTab
import Derived.LaidMore
import Derived.Lay
import Derived.Test.YtogfpjohjphngaaGreatDoorPk5
set_option linter.all false
namespace Go.Proofs.YtogfpjohjphngaaGreatDoor
open Go Go.RowKit Eng
set_option maxRecDepth 100000
set_option maxHeartbeats 16000000
theorem a6Q {a : Nm.Rt} (h : j4 a = true) : a.D6 := by
 rw [X5, c1J] at h
 exact of_decide_eq_true h.1
theorem b3f {q : Rat} : 0 < r9 q <-> 0 < q := by
 have h1 := @Rat.num_nonneg q
 have h2 := @Rat.num_eq_zero q
 unfold r9
 constructor
 ·intro h
  split at h
  ·omega
  ·split at h
   ·omega
   ·rename_i h3 h4
    have h5 : 0 <= q := h1.1 (by omega)
    have h6 : q ≠ 0 := fun e => h3 (h2.2 e)
    grind
 ·intro h
  have h5 : 0 <= q.num := h1.2 (by grind)
  have h6 : q.num ≠ 0 := fun e => by have := h2.1 e; grind
  rw [if_neg h6, if_neg (by omega)]; decide
theorem b2L {q : Rat} : r9 q < 0 <-> q < 0 := by
 have h1 := @Rat.num_nonneg q
 have hn : q.num < 0 <-> q < 0 := by rw [<- Rat.not_le, <- h1]; omega
 unfold r9
 constructor
 ·intro h
  split at h
  ·omega
  ·split at h
   ·exact hn.1 (by assumption)
   ·omega
 ·intro h
  have := hn.2 h
  rw [if_neg (by omega), if_pos this]; decide
theorem b5v (p q : Rat) : a0w p q = if p < q then q else p := by
 unfold a0w
 by_cases h : p < q
 ·rw [if_pos h, if_neg]
  have := (a1k p q).2 h
  omega
 ·rw [if_neg h, if_pos]
  have : ¬ Nm.q8 p q < 0 := fun h2 => h ((a1k p q).1 h2)
  omega
theorem b4U (p q : Rat) : a5q p q = if q < p then q else p := by
 unfold a5q
 by_cases h : q < p
 ·rw [if_pos h, if_neg]
  have := (O6 p q).2 h
  omega
 ·rw [if_neg h, if_pos]
  have : ¬ 0 < Nm.q8 p q := fun h2 => h ((O6 p q).1 h2)
  omega
theorem b9g {l : Lk} (h : V3 l = 0) : a0x l = if 0 < r9 (Nm.j3 l.low) then l.low else if r9 (Nm.j3 l.high) < 0 then l.high else Nm.ofQ 0 := by
 have hlt := (a1k _ _).1 (a3g h).2.1
 have hs : j4 l.low = true /\ j4 l.high = true := by
  unfold V3 at h
  split at h
  ·cases h
  ·rename_i h1
   have h2 : (j4 l.length && j4 l.low && j4 l.high && j4 l.speed && j4 l.brake) = true := by
    cases hb : (j4 l.length && j4 l.low && j4 l.high && j4 l.speed && j4 l.brake) with
    | true => rfl
    | false => exact absurd (.inl hb) h1
   simp only [c1J] at h2
   exact ⟨h2.1.1.1.2, h2.1.1.2⟩
 have g1 := a6Q hs.1
 have g2 := a6Q hs.2
 unfold a0x
 rw [b5v, b4U]
 by_cases c1 : 0 < Nm.j3 l.low
 ·rw [if_pos (b3f.2 c1)]
  by_cases c2 : 0 < Nm.j3 l.high
  ·rw [if_pos c2, if_neg (by grind), Nm.a6n g1]
  ·rw [if_neg c2, if_neg (by grind), Nm.a6n g1]
 ·rw [if_neg (fun h => c1 (b3f.1 h))]
  by_cases c2 : Nm.j3 l.high < 0
  ·rw [if_pos (b2L.2 c2), if_neg (show ¬ 0 < Nm.j3 l.high by grind), if_pos hlt, Nm.a6n g2]
  ·rw [if_neg (fun h => c2 (b2L.1 h))]
   congr 1
   by_cases c3 : 0 < Nm.j3 l.high
   ·rw [if_pos c3]; split <;> grind
   ·rw [if_neg c3]; split <;> grind
theorem b7u (w : Wk) (hwb : Wb 1073741824 w) (h : Y0 w = 0) : FZ 47 [w.c] (K7 w).c := by
 refine kW Tryz.func47 (by cbv) (by rfl) fun w' O hw => ?_
 have hao := a8B h
 obtain ⟨n1, b1⟩ := hwb.arms
 have n3 := hwb.parts.1
 have n4 := hwb.slots.1
 have n5 := hwb.gates.1
 have hz := a9T
 have hfz := b2C
 have hpe : ∀ i, a6m w i = if h : i < w.slots.length then (w.slots[i]).frame else a0f := fun _ => rfl
 unfold K7
 generalize hfp : a6m w = fP at *
 obtain ⟨arms, walls, parts, slots, gates, walk⟩ := w
 simp only at n1 b1 n3 n4 n5 hpe hao ⊢
 simp only [j6]
 simp only [Wk.c, Wk.enc, Stt.c, Stt.enc, ams, wls, pts, sls, gts, D8, frs, vts, bls, rc, sb, ints] at ⊢
 (repeat first | refine uA ?_ | (refine uK ?_ ?_; focus first | omega | (intros; simp_all <;> omega)) | simp (disch := omega) only [go_sem, Nat.reduceBEq, Nat.reduceAdd, ww, c1y, c1B])
 refine S.loop (X := Nat) (fun i => ⟨[(1, .bp 0 0), (2, .bp 1 0), (3, .bp 3 0), (17, ams arms), (18, ints arms.length), (19, ints i)], [.box 31 [ams arms, wls walls, pts parts, sls slots, gts gates, .v (.bool walk.neg), sb walk.num, sb walk.den], .box 37 [.v (.int .i64 0), .v (.slice none 0 0), .v (.slice none 0 0), .v (.slice none 0 0), .v (.slice none 0 0)], .row 4 1 (List.replicate gates.length [.v (.bool false)]), .box 37 [.v (.int .i64 0), .rv 4, .rv 5, .v (.slice none 0 0), .rv 2], .row 90 4 (((arms.take i).map a0D).map Ast.enc), .row 55 10 []]⟩) (fun i => i <= arms.length) (fun i => arms.length - i) 0 (c1H _)
  (Ent.trans (Ent.a3n 3 1 90 4 rfl rfl rfl) (Ent.trans (Ent.a3n 3 2 55 10 rfl rfl rfl) (by (repeat first | refine uA ?_ | (refine ⟨?_, ?_⟩; focus first | rfl | simp [slot]) | rfl | simp)))) ?_
 intro i hi
 simp only [ams, wls, pts, sls, gts, vts, sb, ints]
 (repeat first | refine uA ?_ | (refine uK ?_ ?_; focus first | omega | (intros; simp_all <;> omega)) | simp (disch := omega) only [go_sem, Nat.reduceBEq, Nat.reduceAdd, ww])
 (refine uJ rfl (fun hc => ?_) fun hc => ?_)
 ·have hi' : i < arms.length := by omega
  have hgi := c1x hi'
  have hap : arms.take (i + 1) = arms.take i ++ [arms[i]] := c2o hi'
  have htl : (arms.take i).length = i := by rw [c1M]; omega
  generalize arms[i] = a at hgi hap
  obtain ⟨b0, _, nl, bl⟩ := b1 a (c1A hgi)
  have hlo := (a1N (hao a (c1A hgi))).2
  (repeat first | refine uA ?_ | (refine uK ?_ ?_; focus first | omega | (intros; simp_all <;> omega)) | simp (disch := omega) only [go_sem, Nat.reduceBEq, Nat.reduceAdd, ww, hgi, c1z, c1y, Am.enc, lks, sb])
  refine S.loop (X := Nat) (fun k => ⟨[(1, .bp 0 0), (2, .bp 1 0), (3, .bp 3 0), (6, .bp 7 0), (17, ams arms), (18, ints arms.length), (19, ints i), (25, lks a.links), (26, ints a.links.length), (27, ints k)], [.box 31 [ams arms, wls walls, pts parts, sls slots, gts gates, .v (.bool walk.neg), sb walk.num, sb walk.den], .box 37 [.v (.int .i64 0), .v (.slice none 0 0), .v (.slice none 0 0), .v (.slice none 0 0), .v (.slice none 0 0)], .row 4 1 (List.replicate gates.length [.v (.bool false)]), .box 37 [.v (.int .i64 0), .rv 4, .rv 5, .v (.slice none 0 0), .rv 2], .row 90 4 (((arms.take i).map a0D).map Ast.enc), .row 55 10 [], .gone, .box 90 [.rv 8, .rv 9, .v (.bool false), .v (.int .i64 (-1))], .row 29 3 (((a.links.take k).map a0x).map rcs), .row 29 3 (((a.links.take k).map fun _ => Nm.ofQ 0).map rcs)]⟩) (fun k => k <= a.links.length) (fun k => a.links.length - k) 0 (c1H _)
   (Ent.trans (Ent.a3n 7 0 29 3 rfl rfl rfl) (Ent.trans (Ent.a3n 7 1 29 3 rfl rfl rfl) (by (repeat first | refine uA ?_ | (refine ⟨?_, ?_⟩; focus first | rfl | simp [slot]) | rfl | simp)))) ?_
  intro k hk
  simp only [ams, wls, pts, sls, gts, lks, vts, sb, ints]
  (repeat first | refine uA ?_ | (refine uK ?_ ?_; focus first | omega | (intros; simp_all <;> omega)) | simp (disch := omega) only [go_sem, Nat.reduceBEq, Nat.reduceAdd, ww])
  (refine uJ rfl (fun hc => ?_) fun hc => ?_)
  ·have hk' : k < a.links.length := by omega
   have hgk := c1x hk'
   have hak : a.links.take (k + 1) = a.links.take k ++ [a.links[k]] := c2o hk'
   have htk : (a.links.take k).length = k := by rw [c1M]; omega
   generalize a.links[k] = l at hgk hak
   obtain ⟨_, l2, l3, _⟩ := bl l (c1A hgk)
   have o1 := K8 l.low (l2.mono (by decide))
   have o2 := K8 l.high (l3.mono (by decide))
   have hq := b9g (hlo l (c1A hgk))
   unfold rq at hz
   generalize r9 (Nm.j3 l.low) = s1 at *
   generalize r9 (Nm.j3 l.high) = s2 at *
   generalize hz0 : Nm.ofQ 0 = r0 at *
   simp only [rc, sb, ints] at o1 o2 hz
   (repeat first | refine uA ?_ | (refine uK ?_ ?_; focus first | omega | (intros; simp_all <;> omega)) | simp (disch := omega) only [go_sem, Nat.reduceBEq, Nat.reduceAdd, ww, hgk, c1z, c1y, Lk.enc, vts, sb] | (refine uD hz ?_ ?_ ?_; exact tz hw; exact rfl) | (refine uD o1 ?_ ?_ ?_; exact tz hw; exact rfl))
   refine S.join (Y := Nm.Rt) (fun q => ⟨[(1, .bp 0 0), (2, .bp 1 0), (3, .bp 3 0), (6, .bp 7 0), (9, .bp 11 0), (17, ams arms), (18, ints arms.length), (19, ints i), (25, lks a.links), (26, ints a.links.length), (27, ints k)], [.box 31 [ams arms, wls walls, pts parts, sls slots, gts gates, .v (.bool walk.neg), sb walk.num, sb walk.den], .box 37 [.v (.int .i64 0), .v (.slice none 0 0), .v (.slice none 0 0), .v (.slice none 0 0), .v (.slice none 0 0)], .row 4 1 (List.replicate gates.length [.v (.bool false)]), .box 37 [.v (.int .i64 0), .rv 4, .rv 5, .v (.slice none 0 0), .rv 2], .row 90 4 (((arms.take i).map a0D).map Ast.enc), .row 55 10 [], .gone, .box 90 [.rv 8, .rv 9, .v (.bool false), .v (.int .i64 (-1))], .row 29 3 (((a.links.take k).map a0x).map rcs), .row 29 3 (((a.links.take k).map fun _ => r0).map rcs), .gone, .box 29 (rcs q)]⟩) (fun q => q = a0x l) ?_ ?_
   ·refine S.cond rfl (fun hc2 => ?_) (fun hc2 => ?_)
    ·rw [if_pos (by simpa using hc2)] at hq
     (repeat first | refine uA ?_ | (refine uK ?_ ?_; focus first | omega | (intros; simp_all <;> omega)) | simp (disch := omega) only [go_sem, Nat.reduceBEq, Nat.reduceAdd, ww])
     exact S.met l.low hq.symm (by simp only [ams, wls, pts, sls, gts, lks, vts, rcs, sb, ints]; exact (by (repeat first | refine uA ?_ | (refine ⟨?_, ?_⟩; focus first | rfl | simp [slot]) | rfl | simp)))
    rw [if_neg (by simpa using hc2)] at hq
    (repeat first | refine uA ?_ | (refine uK ?_ ?_; focus first | omega | (intros; simp_all <;> omega)) | simp (disch := omega) only [go_sem, Nat.reduceBEq, Nat.reduceAdd, ww] | (refine uD o2 ?_ ?_ ?_; exact tz hw; exact rfl))
    refine S.cond rfl (fun hc3 => ?_) (fun hc3 => ?_)
    ·rw [if_pos (by simpa using hc3)] at hq
     (repeat first | refine uA ?_ | (refine uK ?_ ?_; focus first | omega | (intros; simp_all <;> omega)) | simp (disch := omega) only [go_sem, Nat.reduceBEq, Nat.reduceAdd, ww])
     exact S.met l.high hq.symm (by simp only [ams, wls, pts, sls, gts, lks, vts, rcs, sb, ints]; exact (by (repeat first | refine uA ?_ | (refine ⟨?_, ?_⟩; focus first | rfl | simp [slot]) | rfl | simp)))
    ·rw [if_neg (by simpa using hc3)] at hq
     (repeat first | refine uA ?_ | (refine uK ?_ ?_; focus first | omega | (intros; simp_all <;> omega)) | simp (disch := omega) only [go_sem, Nat.reduceBEq, Nat.reduceAdd, ww])
     exact S.met r0 hq.symm (by simp only [ams, wls, pts, sls, gts, lks, vts, rcs, sb, ints]; exact (by (repeat first | refine uA ?_ | (refine ⟨?_, ?_⟩; focus first | rfl | simp [slot]) | rfl | simp)))
   rintro q rfl
   clear hq
   simp only [ams, wls, pts, sls, gts, lks, vts, rcs, sb, ints]
   (repeat first | refine uI ?_ | (refine uK ?_ ?_; focus first | omega | (intros; simp_all <;> omega)) | simp (disch := omega) only [go_sem, Nat.reduceBEq, Nat.reduceAdd, ww])
   refine S.U6 [.gone, .gone, .gone, .gone, .gone, .gone, .gone, .box 90 [.junk, .rv 9, .v (.bool false), .v (.int .i64 (-1))]] (by simp [Eng.F3, Eng.leC]) ?_
   (repeat first | refine uA ?_ | (refine uK ?_ ?_; focus first | omega | (intros; simp_all <;> omega)) | simp (disch := omega) only [go_sem, Nat.reduceBEq, Nat.reduceAdd, ww, KMd, c1y, htk] | (refine uD hz ?_ ?_ ?_; exact tz hw; exact rfl))
   refine S.next (k + 1) (by omega) (by omega) (by simp only [hak, hz0, c2p, c1R, c2d, rcs, sb]; exact (by (repeat first | refine uA ?_ | (refine ⟨?_, ?_⟩; focus first | rfl | simp [slot]) | rfl | simp)))
  ·have hk' : k = a.links.length := by omega
   subst hk'
   rw [c1U]
   refine S.exit rfl ?_
   refine S.weaken (st' := ⟨[(1, .bp 0 0), (2, .bp 1 0), (3, .bp 3 0), (6, .bp 7 0), (17, ams arms), (18, ints arms.length), (19, ints i)], [.box 31 [ams arms, wls walls, pts parts, sls slots, gts gates, .v (.bool walk.neg), sb walk.num, sb walk.den], .box 37 [.v (.int .i64 0), .v (.slice none 0 0), .v (.slice none 0 0), .v (.slice none 0 0), .v (.slice none 0 0)], .row 4 1 (List.replicate gates.length [.v (.bool false)]), .box 37 [.v (.int .i64 0), .rv 4, .rv 5, .v (.slice none 0 0), .rv 2], .row 90 4 (((arms.take i).map a0D).map Ast.enc), .row 55 10 [], .gone, .box 90 (a0D a).enc]⟩) (Ent.mk _ _ (by (repeat first | refine uA ?_ | (refine ⟨?_, ?_⟩; focus first | rfl | simp [slot]) | rfl | simp)) (by (repeat' (first | exact L9.nil | exact RI.gone _ | exact RI.row _ _ _ _ rfl | exact RI.map _ _ _ rfl | exact RI.box _ _ _ (j5.refl rfl) | (refine RI.box _ _ _ ?_; (repeat' (first | exact j5.nil | exact Imp.refl rfl | exact Imp.frz rfl rfl rfl | exact Imp.F9 | refine j5.cons ?_ ?_))) | refine L9.cons ?_ ?_))) (c1H _)) ?_
   simp only [ams, wls, pts, sls, gts, vts, sb, ints, Ast.enc, rts]
   (repeat first | refine uA ?_ | (refine uK ?_ ?_; focus first | omega | (intros; simp_all <;> omega)) | simp (disch := omega) only [go_sem, Nat.reduceBEq, Nat.reduceAdd, ww, c1y, htl])
   refine S.next (i + 1) (by omega) (by omega) (by simp only [hap, c2p, c1R, c2d, Ast.enc, rts, ints]; exact (by (repeat first | refine uA ?_ | (refine ⟨?_, ?_⟩; focus first | rfl | simp [slot]) | rfl | simp)))
 ·have hi' : i = arms.length := by omega
  subst hi'
  rw [c1U]
  (repeat first | refine uA ?_ | (refine uK ?_ ?_; focus first | omega | (intros; simp_all <;> omega)) | simp (disch := omega) only [go_sem, Nat.reduceBEq, Nat.reduceAdd, ww, c1y])
  refine S.loop (X := Nat) (fun i => ⟨[(1, .bp 0 0), (2, .bp 1 0), (3, .bp 3 0), (66, ints parts.length), (67, ints i)], [.box 31 [ams arms, wls walls, pts parts, sls slots, gts gates, .v (.bool walk.neg), sb walk.num, sb walk.den], .box 37 [.v (.int .i64 0), .v (.slice none 0 0), .v (.slice none 0 0), .v (.slice none 0 0), .v (.slice none 0 0)], .row 4 1 (List.replicate gates.length [.v (.bool false)]), .box 37 [.v (.int .i64 0), .rv 4, .rv 5, .v (.slice none 0 0), .rv 2], .row 90 4 ((arms.map a0D).map Ast.enc), .row 55 10 (((List.range i).map fP).map Fr.enc)]⟩) (fun i => i <= parts.length) (fun i => parts.length - i) 0 (c1H _) (by (repeat first | refine uA ?_ | (refine ⟨?_, ?_⟩; focus first | rfl | simp [slot]) | rfl | simp)) ?_
  intro i hi
  simp only [ams, wls, pts, sls, gts, vts, sb, ints]
  (repeat first | refine uA ?_ | (refine uK ?_ ?_; focus first | omega | (intros; simp_all <;> omega)) | simp (disch := omega) only [go_sem, Nat.reduceBEq, Nat.reduceAdd, ww])
  (refine uJ rfl (fun hc => ?_) fun hc => ?_)
  ·have hrl : ((List.range i).map fP).length = i := by simp
   simp only [a0f, Fr.c, Fr.enc, sb] at hfz
   (repeat first | refine uA ?_ | (refine uK ?_ ?_; focus first | omega | (intros; simp_all <;> omega)) | simp (disch := omega) only [go_sem, Nat.reduceBEq, Nat.reduceAdd, ww, c1y])
   refine S.cond rfl (fun hc => ?_) (fun hc => ?_)
   ·have hsi : i < slots.length := by simp at hc; omega
    have hgs := c1x hsi
    have hf : fP i = (slots[i]).frame := by rw [hpe i, dif_pos hsi]
    generalize slots[i] = s at hgs hf
    (repeat first | refine uA ?_ | (refine uK ?_ ?_; focus first | omega | (intros; simp_all <;> omega)) | simp (disch := omega) only [go_sem, Nat.reduceBEq, Nat.reduceAdd, ww, hgs, c1z, c1y, Sl.enc, sb, c1B, hrl, List.length_range])
    refine S.next (i + 1) (by omega) (by omega) (by simp only [List.range_succ, c2p, c1R, c2d, hf, Fr.enc, sb]; exact (by (repeat first | refine uA ?_ | (refine ⟨?_, ?_⟩; focus first | rfl | simp [slot]) | rfl | simp)))
   ·have hf : fP i = a0f := by rw [hpe i, dif_neg (by simp at hc; omega)]
    (repeat first | refine uA ?_ | (refine uK ?_ ?_; focus first | omega | (intros; simp_all <;> omega)) | simp (disch := omega) only [go_sem, Nat.reduceBEq, Nat.reduceAdd, ww, c1y, hrl, List.length_range] | (refine uD hfz ?_ ?_ ?_; exact tz hw; exact rfl))
    refine S.next (i + 1) (by omega) (by omega) (by simp only [List.range_succ, c2p, c1R, c2d, hf, a0f, Fr.enc, sb]; exact (by (repeat first | refine uA ?_ | (refine ⟨?_, ?_⟩; focus first | rfl | simp [slot]) | rfl | simp)))
  ·have hi' : i = parts.length := by omega
   subst hi'
   simp only [List.map_replicate]
   (repeat first | refine uA ?_ | (refine uK ?_ ?_; focus first | omega | (intros; simp_all <;> omega)) | simp (disch := omega) only [go_sem, Nat.reduceBEq, Nat.reduceAdd, ww])
   (refine S.done ?_; simp only [p8, l7, go_sem, Nat.reduceBEq, Nat.reduceAdd, Nat.reduceLeDiff, Int.reduceToNat, Int.reducePow]; (repeat (refine ⟨?_, ?_⟩; focus first | trivial | omega | simp)); exact d9.out rfl (Imp.agg (by (repeat' (first | exact j5.nil | exact Imp.refl rfl | exact Imp.frz rfl rfl rfl | exact Imp.F9 | refine j5.cons ?_ ?_)))) rfl)
set_option maxRecDepth 10000
set_option maxHeartbeats 8000000
theorem b5A (x n : Int) (h : 1 <= n) : x % n = (if x.tmod n < 0 then x.tmod n + n else x.tmod n) /\ -n < x.tmod n /\ x.tmod n < n := by
 have hq : x = n * (x.tdiv n) + x.tmod n := (Int.mul_tdiv_add_tmod x n).symm
 have he : x % n = x.tmod n % n := by
  conv => lhs; rw [hq]
  exact Int.mul_add_emod_self_left ..
 have h2 := Int.tmod_lt_of_pos x (show 0 < n by omega)
 have h3 : -n < x.tmod n := by
  have := Int.tmod_lt_of_pos (-x) (show 0 < n by omega)
  rw [Int.neg_tmod] at this
  omega
 refine ⟨?_, h3, h2⟩
 rw [he]
 split
 ·rename_i hc
  have : x.tmod n % n = (x.tmod n + n) % n := by simp
  rw [this]
  exact Int.emod_eq_of_lt (by omega) (by omega)
 ·exact Int.emod_eq_of_lt (by omega) (by omega)
theorem b7c (x n : Int) (h : 1 <= n /\ n <= 4611686018427387904) : u6 Tryz.prog 12 [ints x, ints n] (ints (x % n)) := by
 refine kS Tryz.func12 (by cbv) (by rfl) fun w O => ?_
 simp only [j6, ints]
 have hn : ¬ n = 0 := by omega
 obtain ⟨he, hlt⟩ := b5A x n (by omega)
 (repeat first | refine uA ?_ | (refine uK ?_ ?_; focus first | omega | (intros; simp_all <;> omega)) | simp (disch := omega) only [go_sem, Nat.reduceBEq, Nat.reduceAdd, ww, hn])
 (refine uJ rfl (fun hc => ?_) fun hc => ?_)
 ·rw [he, if_pos hc]
  (repeat first | refine uA ?_ | (refine uK ?_ ?_; focus first | omega | (intros; simp_all <;> omega)) | simp (disch := omega) only [go_sem, Nat.reduceBEq, Nat.reduceAdd, ww])
  exact S.done (d9.out rfl (Imp.refl rfl) rfl)
 ·rw [he, if_neg hc]
  (repeat first | refine uA ?_ | (refine uK ?_ ?_; focus first | omega | (intros; simp_all <;> omega)) | simp (disch := omega) only [go_sem, Nat.reduceBEq, Nat.reduceAdd, ww])
  exact S.done (d9.out rfl (Imp.refl rfl) rfl)
def a0S (l : List Int) : C := .sl 1 (l.map fun n => [.v (.int .i64 n)])
theorem a0O {E : Ctx} (hP : E.P = Tryz.prog) (l : List Int) (n : Int) (h : 1 <= n /\ n <= 4611686018427387904) :
  l8 E [.box 225 [a0S l]] 173 [.bp 0 0, ints n] (ints (nx l n)) [.box 225 [a0S (l.drop 1)]] [] := by
 obtain ⟨P, eff', N, w0, own0, av0, nu0, pk0⟩ := E
 simp only at hP
 subst hP
 refine l8.of (eff := eff) Tryz.func173 (by cbv) (by exact c1Q rfl) fun w own av ν hν => ?_
 have hν0 : ν.length <= 1 := by rw [hν]; exact c1I _
 have hn1 : decide (n < 1) = false := decide_eq_false (by omega)
 cases l with
 | nil =>
  have e : nx [] n = 0 := by unfold nx; rw [List.headD_nil, Int.zero_emod]
  rw [e]
  simp only [j6, a0S, ints, List.drop_nil, c2d]
  (repeat first | refine uA ?_ | (refine uK ?_ ?_; focus first | omega | (intros; simp_all <;> omega)) | simp (disch := omega) only [go_sem, Nat.reduceBEq, Nat.reduceAdd, ww, hn1, List.length_nil])
  refine S.cond rfl (fun hc => ?_) (fun hc => by simp at hc)
  (repeat first | refine uA ?_ | (refine uK ?_ ?_; focus first | omega | (intros; simp_all <;> omega)) | simp (disch := omega) only [go_sem, Nat.reduceBEq, Nat.reduceAdd, ww])
  (refine S.done ?_; simp only [p8, l7, go_sem, Nat.reduceBEq, Nat.reduceAdd, Nat.reduceLeDiff, Int.reduceToNat, Int.reducePow]; (repeat (refine ⟨?_, ?_⟩; focus first | trivial | omega | simp)); exact d9.O1 (Imp.refl rfl) (by (repeat first | refine uA ?_ | (refine ⟨?_, ?_⟩; focus first | rfl | simp [slot]) | rfl | simp)) (c1G hν0 (by simp)))
 | cons x r =>
  have e : nx (x :: r) n = x % n := by unfold nx; rw [List.headD_cons]
  rw [e]
  have hb := b7c x n h
  have h0 : decide (((r.length : Int) + 1) = 0) = false := decide_eq_false (by omega)
  simp only [j6, a0S, ints, c1R, List.drop_succ_cons, List.drop_zero] at *
  (repeat first | refine uA ?_ | (refine uK ?_ ?_; focus first | omega | (intros; simp_all <;> omega)) | simp (disch := omega) only [go_sem, Nat.reduceBEq, Nat.reduceAdd, ww, hn1, h0, c1T, c1y] | (refine uB hb ?_ ?_; exact rfl))
  refine S.cond rfl (fun hc => by simp at hc; omega) (fun hc => ?_)
  (repeat first | refine uA ?_ | (refine uK ?_ ?_; focus first | omega | (intros; simp_all <;> omega)) | simp (disch := omega) only [go_sem, Nat.reduceBEq, Nat.reduceAdd, ww, hn1, c1T, c1y, List.getElem?_cons_zero, a5w, List.take_succ_cons, List.drop_succ_cons, Nat.add_sub_cancel, c1U] | (refine uB hb ?_ ?_; exact rfl))
  (refine S.done ?_; simp only [p8, l7, go_sem, Nat.reduceBEq, Nat.reduceAdd, Nat.reduceLeDiff, Int.reduceToNat, Int.reducePow]; (repeat (refine ⟨?_, ?_⟩; focus first | trivial | omega | simp)); exact d9.O1 (Imp.refl rfl) (by (repeat first | refine uA ?_ | (refine ⟨?_, ?_⟩; focus first | rfl | simp [slot]) | rfl | simp)) (c1G hν0 (by simp)))
def a5L (l : List UInt8) (i : Nat) (out : List UInt8) : Prop :=
 out.length = l.length /\ ∀ k, k < l.length -> out[k]? = if k < i \/ l.length - i <= k then l[l.length - 1 - k]? else l[k]?
theorem b2q (l : List UInt8) : a5L l 0 l := ⟨rfl, fun k hk => by rw [if_neg (by omega)]⟩
theorem b2f {l out : List UInt8} {i : Nat} {x y : UInt8} (h : a5L l i out) (hi : i + 1 < l.length - i) (hx : out[i]? = some x) (hy : out[l.length - 1 - i]? = some y) : a5L l (i + 1) ((out.set i y).set (l.length - 1 - i) x) := by
 obtain ⟨h1, h2⟩ := h
 have e1 := h2 i (by omega)
 have e2 := h2 (l.length - 1 - i) (by omega)
 rw [if_neg (by omega), hx] at e1
 rw [if_neg (by omega), hy] at e2
 refine ⟨by simp [h1], fun k hk => ?_⟩
 by_cases k1 : k = l.length - 1 - i
 ·subst k1
  rw [List.getElem?_set_self (by simp; omega), if_pos (by omega), e1]
  congr 1
  omega
 ·rw [List.getElem?_set_ne (fun e => k1 e.symm)]
  by_cases k2 : k = i
  ·subst k2
   rw [List.getElem?_set_self (by omega), if_pos (by omega), e2]
  ·rw [List.getElem?_set_ne (fun e => k2 e.symm), h2 k hk]
   by_cases k3 : k < i \/ l.length - i <= k
   ·rw [if_pos k3, if_pos (by omega)]
   ·rw [if_neg k3, if_neg (by omega)]
theorem b3o {l out : List UInt8} {i : Nat} (h : a5L l i out) (hi : l.length - i <= i + 1) : out = l.reverse := by
 obtain ⟨h1, h2⟩ := h
 apply List.ext_getElem?
 intro k
 rcases c1V k l.length with hk | hk
 ·rw [h2 k hk, List.getElem?_reverse hk]
  by_cases k3 : k < i \/ l.length - i <= k
  ·rw [if_pos k3]
  ·rw [if_neg k3, show l.length - 1 - k = k by omega]
 ·rw [c2k (by omega), c2k (by simp; omega)]
theorem c0V {E : Ctx} (hP : E.P = Tryz.prog) (l : List UInt8) (hl : l.length <= 1099511627776) : l8 E [.row 5 1 (l.map F8)] 189 [.rv 0] (.tup []) [.row 5 1 (l.reverse.map F8)] [] := by
 obtain ⟨P, eff', N, w0, own0, av0, nu0, pk0⟩ := E
 simp only at hP
 subst hP
 refine l8.of (eff := eff) Tryz.func189 (by cbv) (by exact c1Q rfl) fun w own av ν hν => ?_
 have hν0 : ν.length <= 1 := by rw [hν]; exact c1I _
 simp only [j6]
 (repeat first | refine uA ?_ | (refine uK ?_ ?_; focus first | omega | (intros; simp_all <;> omega)) | simp (disch := omega) only [go_sem, Nat.reduceBEq, Nat.reduceAdd, ww, c1y])
 refine S.loop (X := Nat × List UInt8) (fun x => ⟨[(0, .rv 0), (2, ints x.1), (3, ints ((l.length : Int) - 1 - (x.1 : Int)))], [.row 5 1 (x.2.map F8)]⟩) (fun x => x.1 <= l.length /\ a5L l x.1 x.2) (fun x => l.length - x.1) (0, l) ⟨c1H _, b2q l⟩ (by simp only [Int.natCast_zero, Int.sub_zero]; exact (by (repeat first | refine uA ?_ | (refine ⟨?_, ?_⟩; focus first | rfl | simp [slot]) | rfl | simp | exact c1G hν0 (by simp)))) ?_
 rintro ⟨i, out⟩ ⟨hi, hinv⟩
 simp only [ints] at hi hinv ⊢
 have hol := hinv.1
 (repeat first | refine uA ?_ | (refine uK ?_ ?_; focus first | omega | (intros; simp_all <;> omega)) | simp (disch := omega) only [go_sem, Nat.reduceBEq, Nat.reduceAdd, ww])
 (refine uJ rfl (fun hc => ?_) fun hc => ?_)
 ·have gi : out[i]? = some (out[i]'(by omega)) := c1x (by omega)
  have gj : out[l.length - 1 - i]? = some (out[l.length - 1 - i]'(by omega)) := c1x (by omega)
  have hst := b2f hinv (by omega) gi gj
  have hsk : l.length - 1 - i ≠ i := by omega
  generalize out[i]'_ = xi at *
  generalize out[l.length - 1 - i]'_ = xj at *
  have gj2 : (out.set i xj)[l.length - 1 - i]? = some xj := by rw [List.getElem?_set_ne (Ne.symm hsk)]; exact gj
  have n0 : ((l.length : Int) - 1 - (i : Int)).toNat = l.length - 1 - i := by omega
  have e1 : (out.map F8).set i [.v (.int .u8 ((xj.toNat : Nat) : Int))] = (out.set i xj).map F8 := a2U out i xj
  have e2 : ((out.set i xj).map F8).set (l.length - 1 - i) [.v (.int .u8 ((xi.toNat : Nat) : Int))] = ((out.set i xj).set (l.length - 1 - i) xi).map F8 := a2U _ _ _
  have hr : (l.length : Int) - 1 - ((i + 1 : Nat) : Int) = (l.length : Int) - 1 - (i : Int) - 1 := by omega
  (repeat first | refine uA ?_ | (refine uK ?_ ?_; focus first | omega | (intros; simp_all <;> omega)) | simp (disch := omega) only [go_sem, Nat.reduceBEq, Nat.reduceAdd, ww, c1y, gi, gj, gj2, n0, e1, e2, F8, c1z, c1B, c2g])
  refine S.next (x := (i, out)) (i + 1, _) ⟨by simp only; omega, hst⟩ (by simp only; omega) (by simp only [hr]; exact (by (repeat first | refine uA ?_ | (refine ⟨?_, ?_⟩; focus first | rfl | simp [slot]) | rfl | simp | exact c1G hν0 (by simp))))
 ·have := b3o hinv (by omega)
  subst this
  (repeat first | refine uA ?_ | (refine uK ?_ ?_; focus first | omega | (intros; simp_all <;> omega)) | simp (disch := omega) only [go_sem, Nat.reduceBEq, Nat.reduceAdd, ww])
  exact S.end_ (d9.own rfl)
theorem b1D (n : Nat) (hn : n < 4611686018427387904) : u6 Tryz.prog 80 [.v (.int .i64 (n : Int))] (sb (Nm.enc n)) := by
  refine kS Tryz.func80 (by cbv) (by rfl) fun w O => ?_
  have h8 : (Nm.enc n).length <= 8 := Nm.F4 (by omega)
  simp only [j6, sb]
  (repeat first | refine uA ?_ | (refine uK ?_ ?_; focus first | omega | (intros; simp_all <;> omega)) | simp (disch := omega) only [go_sem, Nat.reduceBEq, Nat.reduceAdd, ww])
  refine S.loop (X := Nat × List UInt8) (fun x => ⟨[(0, ints x.1), (3, .rv 0)], [.row 5 1 (x.2.map F8)]⟩) (fun x => x.1 <= n /\ Nm.enc x.1 ++ x.2.reverse = Nm.enc n) (fun x => x.1) (n, []) ⟨c1I _, by simp⟩ (Ent.trans (Ent.pack 3 5 1 rfl) (by (repeat first | refine uA ?_ | (refine ⟨?_, ?_⟩; focus first | rfl | simp [slot]) | rfl | simp))) ?_
  rintro ⟨m, out⟩ ⟨hm, hinv⟩
  simp only [ints] at hm hinv ⊢
  have hol : out.length <= 8 := by
    have := congrArg List.length hinv
    simp only [c1C, List.length_reverse] at this
    omega
  (repeat first | refine uA ?_ | (refine uK ?_ ?_; focus first | omega | (intros; simp_all <;> omega)) | simp (disch := omega) only [go_sem, Nat.reduceBEq, Nat.reduceAdd, ww])
  (refine uJ rfl (fun hc => ?_) fun hc => ?_)
  · have he : Nm.enc m = Nm.enc (m / 256) ++ [UInt8.ofNat (m % 256)] := by
      conv => lhs; unfold Nm.enc
      rw [if_neg (by omega)]
    have hb : (UInt8.ofNat (m % 256)).toNat = m % 256 := by simp
    have h1 : IntKind.u8.wrap (Int.tmod (m : Int) 256) = (((UInt8.ofNat (m % 256)).toNat : Nat) : Int) := by
      rw [hb, show Int.tmod (m : Int) 256 = ((m % 256 : Nat) : Int) from rfl, a1t]
      omega
    have h2 : Int.tdiv (m : Int) 256 = ((m / 256 : Nat) : Int) := rfl
    have hap : Nm.enc (m / 256) ++ (out ++ [UInt8.ofNat (m % 256)]).reverse = Nm.enc n := by
      rw [List.reverse_append, <- hinv, he]
      simp
    generalize UInt8.ofNat (m % 256) = b at *
    (repeat first | refine uA ?_ | (refine uK ?_ ?_; focus first | omega | (intros; simp_all <;> omega)) | simp (disch := omega) only [go_sem, Nat.reduceBEq, Nat.reduceAdd, ww, c1y, h1, h2])
    refine S.next (x := (m, out)) (m / 256, out ++ [b]) ⟨by simp only; omega, hap⟩ (by simp only; omega) (by simp only [c2p, c1R, c2d, F8]; exact (by (repeat first | refine uA ?_ | (refine ⟨?_, ?_⟩; focus first | rfl | simp [slot]) | rfl | simp)))
  · have h0 : m = 0 := by omega
    subst h0
    rw [Nm.a1e, List.nil_append] at hinv
    have hr := fun (E : Ctx) (hP : E.P = Tryz.prog) => c0V hP out (by omega)
    rw [hinv] at hr
    (repeat first | refine uA ?_ | (refine uK ?_ ?_; focus first | omega | (intros; simp_all <;> omega)) | simp (disch := omega) only [go_sem, Nat.reduceBEq, Nat.reduceAdd, ww, Q5, a1P] | refine l9.t (l8.lift (k := 0) rfl (hr _ rfl) rfl rfl rfl) ?_)
    exact S.done (d9.out rfl (Imp.refl rfl) rfl)
theorem b6H (a b : Nat) (h : 0 < b) : Nat.gcd b (a % b) = Nat.gcd a b := by
 rw [Nat.gcd_comm b, <- Nat.gcd_rec, Nat.gcd_comm]
theorem a2I (n d : Int) (hn : -1099511627776 <= n /\ n <= 1099511627776) (hd : 1 <= d /\ d <= 1099511627776) : u6 Tryz.prog 17 [ints n, ints d] (rc (Q n d)) := by
 refine kS Tryz.func17 (by cbv) (by rfl) fun w O => ?_
 obtain ⟨m, rfl⟩ : ∃ m : Nat, d = m := ⟨d.toNat, by omega⟩
 have hq : Q n m = Nm.ofQ (mkRat (Nm.sgn (decide (n < 0)) n.natAbs) m) := by
  unfold Q
  have : Nm.sgn (decide (n < 0)) n.natAbs = n := by unfold Nm.sgn; by_cases h : n < 0 <;> simp [h] <;> omega
  rw [this, c1B]
 rw [hq, <- Nm.a8z _ (by omega)]
 have hmx : (if n < -n then -n else n) = ((n.natAbs : Nat) : Int) := by split <;> omega
 have hwn : IntKind.i64.wrap (0 - n) = -n := by rw [Eng.wrap_i64 (by omega)]; omega
 have hgp : 0 < Nat.gcd n.natAbs m := Nat.gcd_pos_of_pos_right _ (by omega)
 simp only [j6, ints]
 (repeat first | refine uA ?_ | (refine uK ?_ ?_; focus first | omega | (intros; simp_all <;> omega)) | simp (disch := omega) only [go_sem, Nat.reduceBEq, Nat.reduceAdd, ww, hwn, hmx])
 refine S.loop (X := Nat × Nat) (fun x => ⟨[(0, ints n), (1, ints m), (4, .bp 0 0), (5, ints x.1), (6, ints x.2)], [.box 29 [.v (.bool false), .v (.string ⟨#[]⟩), .v (.string ⟨#[]⟩)]]⟩) (fun x => Nat.gcd x.1 x.2 = Nat.gcd n.natAbs m /\ x.1 <= 1099511627776 /\ x.2 <= 1099511627776) (fun x => x.2) (n.natAbs, m) ⟨rfl, by omega, by omega⟩ (by (repeat first | refine uA ?_ | (refine ⟨?_, ?_⟩; focus first | rfl | simp [slot]) | rfl | simp)) ?_
 rintro ⟨a, b⟩ ⟨hg, ha, hb⟩
 simp only [ints] at hg ha hb ⊢
 (repeat first | refine uA ?_ | (refine uK ?_ ?_; focus first | omega | (intros; simp_all <;> omega)) | simp (disch := omega) only [go_sem, Nat.reduceBEq, Nat.reduceAdd, ww])
 (refine uJ rfl (fun hc => ?_) fun hc => ?_)
 ·have h1 : Int.tmod (a : Int) (b : Int) = ((a % b : Nat) : Int) := rfl
  have hlt : a % b < b := Nat.mod_lt _ (by omega)
  have hb0 : ¬ ((b : Int) = 0) := by omega
  (repeat first | refine uA ?_ | (refine uK ?_ ?_; focus first | omega | (intros; simp_all <;> omega)) | simp (disch := omega) only [go_sem, Nat.reduceBEq, Nat.reduceAdd, ww, h1, hb0])
  refine S.next (x := (a, b)) (b, a % b) ⟨by simp only; rw [b6H a b (by omega)]; exact hg, by simp only; omega, by simp only; omega⟩ (by simp only; omega) (by (repeat first | refine uA ?_ | (refine ⟨?_, ?_⟩; focus first | rfl | simp [slot]) | rfl | simp))
 ·have hb0 : b = 0 := by omega
  subst hb0
  rw [Nat.gcd_zero_right] at hg
  subst hg
  have ha0 : ¬ (((Nat.gcd n.natAbs m : Nat) : Int) = 0) := by omega
  generalize hgg : Nat.gcd n.natAbs m = g at *
  have hdvn : g ∣ n.natAbs := by rw [<- hgg]; exact Nat.gcd_dvd_left ..
  have e2 : Int.tdiv (m : Int) (g : Int) = ((m / g : Nat) : Int) := rfl
  obtain ⟨k, hk⟩ := hdvn
  have hkq : n.natAbs / g = k := by rw [hk]; exact Nat.mul_div_cancel_left _ hgp
  have e1 : Int.tdiv n (g : Int) = Nm.sgn (decide (n < 0)) k := by
   have h3 : (n : Int) = (g : Int) * Nm.sgn (decide (n < 0)) k := by
    have h4 : ((n.natAbs : Nat) : Int) = (g : Int) * (k : Int) := by rw [hk]; simp
    unfold Nm.sgn
    by_cases h : n < 0
    ·simp only [h, decide_true, if_true, Int.mul_neg]; omega
    ·simp only [h, decide_false, c2j, if_false]; omega
   rw [show Int.tdiv n (g : Int) = Int.tdiv ((g : Int) * Nm.sgn (decide (n < 0)) k) (g : Int) from congrArg (fun z => Int.tdiv z (g : Int)) h3]
   exact Int.mul_tdiv_cancel_left _ (by omega)
  have hkb : k <= 1099511627776 := by
   have : k <= g * k := Nat.le_mul_of_pos_left k hgp
   omega
  have hmb : m / g <= m := Nat.div_le_self _ _
  have hs : -1099511627776 <= Nm.sgn (decide (n < 0)) k /\ Nm.sgn (decide (n < 0)) k <= 1099511627776 := by unfold Nm.sgn; split <;> omega
  have hneg : decide (Nm.sgn (decide (n < 0)) k < 0) = (decide (n < 0) && !decide (k = 0)) := by
   unfold Nm.sgn
   by_cases h : n < 0
   ·by_cases h0 : k = 0
    ·subst h0; simp [h]
    ·simp [h, h0]; try omega
   ·simp [h]; try omega
  have hab : (if Nm.sgn (decide (n < 0)) k < -(Nm.sgn (decide (n < 0)) k) then -(Nm.sgn (decide (n < 0)) k) else Nm.sgn (decide (n < 0)) k) = ((k : Nat) : Int) := by unfold Nm.sgn; split <;> split <;> omega
  have hws : IntKind.i64.wrap (0 - Nm.sgn (decide (n < 0)) k) = -(Nm.sgn (decide (n < 0)) k) := by rw [Eng.wrap_i64 (by omega)]; omega
  have hwm : IntKind.i64.wrap ((m / g : Nat) : Int) = ((m / g : Nat) : Int) := by
   generalize m / g = z at *
   exact Eng.wrap_i64 (by omega)
  have d1 := b1D k (by omega)
  have d2 := b1D (m / g) (by omega)
  have hres : (if n.natAbs = 0 then Nm.a2G else ⟨decide (n < 0), Nm.enc (n.natAbs / g), Nm.enc (m / g)⟩ : Nm.Rt) = ⟨decide (n < 0) && !decide (k = 0), Nm.enc k, Nm.enc (m / g)⟩ := by
   rw [hkq]
   by_cases h0 : n.natAbs = 0
   ·have hn0 : n = 0 := by omega
    subst hn0
    have hk0 : k = 0 := by
     rcases c1Y k with h | h
     ·exact h
     ·have := Nat.mul_pos hgp h; omega
    have hgm : g = m := by rw [<- hgg]; simp
    subst hk0
    have h1 : m / g = 1 := by rw [hgm]; exact Nat.div_self (by omega)
    rw [h1, Nm.a1G, Nm.a1e]
    rfl
   ·have hk0 : k ≠ 0 := by intro h; subst h; omega
    rw [if_neg h0]
    simp [hk0]
  rw [hres]
  rw [<- hneg]
  simp only [rc, sb] at d1 d2 ⊢
  generalize Nm.sgn (decide (n < 0)) k = s at *
  (repeat first | refine uA ?_ | (refine uK ?_ ?_; focus first | omega | (intros; simp_all <;> omega)) | simp (disch := omega) only [go_sem, Nat.reduceBEq, Nat.reduceAdd, ww, ha0, e1, e2, hws, hab, hwm] | (refine uB d1 ?_ ?_; exact rfl) | (refine uB d2 ?_ ?_; exact rfl))
  (refine S.done ?_; simp only [p8, l7, go_sem, Nat.reduceBEq, Nat.reduceAdd, Nat.reduceLeDiff, Int.reduceToNat, Int.reducePow]; (repeat (refine ⟨?_, ?_⟩; focus first | trivial | omega | simp)); exact d9.out rfl (Imp.refl rfl) rfl)
theorem a5M (x y : Int) (hx : -1000000 <= x /\ x <= 1000000) (hy : -1000000 <= y /\ y <= 1000000) : u6 Tryz.prog 177 [ints x, ints y] (atV x y).c := by
 refine kS Tryz.func177 (by cbv) (by rfl) fun w O => ?_
 have h1 := a2I x 4 (by omega) (by omega)
 have h2 := a2I y 4 (by omega) (by omega)
 unfold atV
 generalize Q x 4 = qx at *
 generalize Q y 4 = qy at *
 simp only [j6]
 simp only [rc, sb, ints, Vt.c, Vt.enc] at *
 (repeat first | refine uA ?_ | (refine uK ?_ ?_; focus first | omega | (intros; simp_all <;> omega)) | simp (disch := omega) only [go_sem, Nat.reduceBEq, Nat.reduceAdd, ww] | (refine uB h1 ?_ ?_; exact rfl) | (refine uB h2 ?_ ?_; exact rfl))
 (refine S.done ?_; simp only [p8, l7, go_sem, Nat.reduceBEq, Nat.reduceAdd, Nat.reduceLeDiff, Int.reduceToNat, Int.reducePow]; (repeat (refine ⟨?_, ?_⟩; focus first | trivial | omega | simp)); exact d9.out rfl (Imp.refl rfl) rfl)
theorem b9w (x y u v : Int) (hx : -100000 <= x /\ x <= 100000) (hy : -100000 <= y /\ y <= 100000) (hu : -100000 <= u /\ u <= 100000) (hv : -100000 <= v /\ v <= 100000) : u6 Tryz.prog 175 [ints x, ints y, ints u, ints v] (vts (a9R x y u v)) := by
 refine kS Tryz.func175 (by cbv) (by rfl) fun w O => ?_
 have h1 := a5M x y (by omega) (by omega)
 have h2 := a5M u y (by omega) (by omega)
 have h3 := a5M u v (by omega) (by omega)
 have h4 := a5M x v (by omega) (by omega)
 unfold a9R
 generalize atV x y = p1 at *
 generalize atV u y = p2 at *
 generalize atV u v = p3 at *
 generalize atV x v = p4 at *
 simp only [j6]
 simp only [vts, Vt.c, Vt.enc, sb, ints] at *
 (repeat first | refine uA ?_ | (refine uK ?_ ?_; focus first | omega | (intros; simp_all <;> omega)) | simp (disch := omega) only [go_sem, Nat.reduceBEq, Nat.reduceAdd, ww] | (refine uB h1 ?_ ?_; exact rfl) | (refine uB h2 ?_ ?_; exact rfl) | (refine uB h3 ?_ ?_; exact rfl) | (refine uB h4 ?_ ?_; exact rfl))
 exact S.done (d9.out rfl (Imp.frz rfl rfl rfl) rfl)
set_option maxRecDepth 100000
set_option maxHeartbeats 16000000
theorem b6T (n : Nat) (h : n <= 3) : ([[C.v (.string ⟨#[111, 110, 101]⟩)], [C.v (.string ⟨#[116, 119, 111]⟩)], [C.v (.string ⟨#[116, 104, 114, 101, 101]⟩)], [C.v (.string ⟨#[102, 111, 117, 114]⟩)]] : List (List C))[n]? = some [C.v (.string (bs (b6v n)))] := by
 match n, h with
 | 0, _ => rfl
 | 1, _ => rfl
 | 2, _ => rfl
 | 3, _ => rfl
theorem b8C (k : Int) (h0 : 0 <= k) (h1 : k < 4) : ([[C.v (.int .i64 0)], [C.v (.int .i64 1)], [C.v (.int .i64 (-1))], [C.v (.int .i64 1)]] : List (List C))[k.toNat]? = some [C.v (.int .i64 (a5s k))] := by
 have : k = 0 \/ k = 1 \/ k = 2 \/ k = 3 := by omega
 rcases this with rfl | rfl | rfl | rfl <;> rfl
theorem b4x (k : Int) : -1 <= a5s k /\ a5s k <= 1 := by unfold a5s; split; omega; split <;> omega
theorem c0P {E : Ctx} (hP : E.P = Tryz.prog) (l : List Int) (n : Nat) (hn : n <= 3) :
  l8 E [.box 225 [a0S l]] 174 [.bp 0 0, .v (.int .i64 (n : Int))] (b1n l n).c [.box 225 [a0S (a7q l)]] [] := by
 obtain ⟨P, eff', N, w0, own0, av0, nu0, pk0⟩ := E
 simp only at hP
 subst hP
 refine l8.of (eff := eff) Tryz.func174 (by cbv) (by exact c1Q rfl) fun w own av ν hν => ?_
 have hν0 : ν.length <= 1 := by rw [hν]; exact c1I _
 have hnm := b6T n hn
 have h1 := a5M (40 * (n : Int)) 0 (by omega) (by omega)
 have k1 := fun (E : Ctx) (hP : E.P = Tryz.prog) => a0O hP l 4 (by decide)
 have k2 := fun (E : Ctx) (hP : E.P = Tryz.prog) => a0O hP (l.drop 1) 3 (by decide)
 have k3 := fun (E : Ctx) (hP : E.P = Tryz.prog) => a0O hP (l.drop 2) 3 (by decide)
 have a1 := Z7 l (n := 4) (by decide)
 have a2 := a3k l (n := 4) (by decide)
 have a3 := Z7 (l.drop 1) (n := 3) (by decide)
 have a4 := a3k (l.drop 1) (n := 3) (by decide)
 have a5 := Z7 (l.drop 2) (n := 3) (by decide)
 have a6 := a3k (l.drop 2) (n := 3) (by decide)
 have htn := b8C (nx l 4) a1 a2
 have htr := b4x (nx l 4)
 have h2 := a2I (a5s (nx l 4)) (1 + nx (l.drop 1) 3) (by omega) (by omega)
 rw [List.drop_drop] at k2 k3
 have hc : ((a4W l : Nat) : Int) = 1 + nx (l.drop 2) 3 := by unfold a4W; omega
 have hc3 : a4W l <= 3 := by omega
 have hR : a7q l = (l.drop 3).drop (6 * a4W l) := by unfold a7q; rw [List.drop_drop]
 unfold b1n
 rw [hR]
 generalize a4W l = c at *
 generalize l.drop 3 = l0 at *
 unfold atV at h1
 generalize Q (40 * (n : Int)) 4 = q1 at *
 generalize Q 0 4 = q2 at *
 generalize a5s (nx l 4) = tn at *
 generalize Q tn (1 + nx (l.drop 1) 3) = q3 at *
 generalize nx l 4 = x1 at *
 generalize nx (l.drop 1) 3 = x2 at *
 generalize nx (l.drop 2) 3 = x3 at *
 generalize b6v n = nm at *
 simp only [j6]
 simp only [Am.c, Am.enc, Vt.c, Vt.enc, rc, a0S, sb, ints, lks] at h1 h2 k1 k2 k3 ⊢
 (repeat first | refine uA ?_ | (refine uK ?_ ?_; focus first | omega | trivial | (intros; simp_all <;> omega)) | simp (disch := omega) only [go_sem, Nat.reduceBEq, Nat.reduceAdd, Nat.reduceLeDiff, Int.reduceToNat, Int.reducePow, ww, hnm, htn, c1B] | refine l9.t (l8.lift (k := 0) rfl (k1 _ rfl) rfl rfl rfl) ?_ | refine l9.t (l8.lift (k := 0) rfl (k2 _ rfl) rfl rfl rfl) ?_ | (refine uB h1 ?_ ?_; exact rfl) | (refine uB h2 ?_ ?_; exact rfl))
 (repeat first | refine uA ?_ | (refine uK ?_ ?_; focus first | omega | trivial | (intros; simp_all <;> omega)) | simp (disch := omega) only [go_sem, Nat.reduceBEq, Nat.reduceAdd, Nat.reduceLeDiff, Int.reduceToNat, Int.reducePow, ww] | refine l9.t (l8.lift (k := 0) rfl (k3 _ rfl) rfl rfl rfl) ?_)
 rw [<- hc]
 refine S.loop (X := Nat × List Lk × List Int) (fun x => ⟨[(0, .bp 0 0), (4, .bp 1 0), (5, .bp 3 0), (30, ints c), (31, ints x.1)], [.box 225 [a0S x.2.2], .box 76 [.v (.string ⟨#[]⟩), .v (.bool false), .v (.string ⟨#[]⟩), .v (.string ⟨#[]⟩), .v (.bool false), .v (.string ⟨#[]⟩), .v (.string ⟨#[]⟩), .v (.bool false), .v (.bool false), .v (.string ⟨#[]⟩), .v (.string ⟨#[]⟩), .v (.slice none 0 0)], .gone, .box 76 [.v (.string (bs nm)), .v (.bool q1.neg), .v (.string (bs q1.num)), .v (.string (bs q1.den)), .v (.bool q2.neg), .v (.string (bs q2.num)), .v (.string (bs q2.den)), .v (.bool false), .v (.bool q3.neg), .v (.string (bs q3.num)), .v (.string (bs q3.den)), .rv 4], .row 158 16 (x.2.1.map Lk.enc)]⟩)
  (fun x => x.1 <= c /\ x.2.1.length = x.1 /\ x.2.1 ++ a4O (c - x.1) x.2.2 = a4O c l0 /\ x.2.2.drop (6 * (c - x.1)) = l0.drop (6 * c)) (fun x => c - x.1) (0, [], l0) ⟨c1H _, rfl, rfl, rfl⟩ (Ent.trans (Ent.a3n 3 11 158 16 rfl rfl rfl) (by (repeat first | refine uA ?_ | (refine ⟨?_, ?_⟩; focus first | rfl | trivial | (simp [slot]; done)) | rfl | trivial | simp | exact c1G hν0 (by simp)))) ?_
 rintro ⟨i, ls, m⟩ ⟨hi, hls, hL, hM⟩
 simp only [ints, a0S] at hi hls hL hM ⊢
 (repeat first | refine uA ?_ | (refine uK ?_ ?_; focus first | omega | trivial | (intros; simp_all <;> omega)) | simp (disch := omega) only [go_sem, Nat.reduceBEq, Nat.reduceAdd, Nat.reduceLeDiff, Int.reduceToNat, Int.reducePow, ww])
 (refine uJ rfl (fun hc => ?_) fun hc => ?_)
 ·have hi' : c - i = (c - i - 1) + 1 := by omega
  have n0 := fun (E : Ctx) (hP : E.P = Tryz.prog) => a0O hP (m.drop 0) 4 (by decide)
  have a0 := Z7 (m.drop 0) (n := 4) (by decide)
  have b0 := a3k (m.drop 0) (n := 4) (by decide)
  have n1 := fun (E : Ctx) (hP : E.P = Tryz.prog) => a0O hP (m.drop 1) 6 (by decide)
  have a1 := Z7 (m.drop 1) (n := 6) (by decide)
  have b1 := a3k (m.drop 1) (n := 6) (by decide)
  have n2 := fun (E : Ctx) (hP : E.P = Tryz.prog) => a0O hP (m.drop 2) 6 (by decide)
  have a2 := Z7 (m.drop 2) (n := 6) (by decide)
  have b2 := a3k (m.drop 2) (n := 6) (by decide)
  have n3 := fun (E : Ctx) (hP : E.P = Tryz.prog) => a0O hP (m.drop 3) 8 (by decide)
  have a3 := Z7 (m.drop 3) (n := 8) (by decide)
  have b3 := a3k (m.drop 3) (n := 8) (by decide)
  have n4 := fun (E : Ctx) (hP : E.P = Tryz.prog) => a0O hP (m.drop 4) 20 (by decide)
  have a4 := Z7 (m.drop 4) (n := 20) (by decide)
  have b4 := a3k (m.drop 4) (n := 20) (by decide)
  have n5 := fun (E : Ctx) (hP : E.P = Tryz.prog) => a0O hP (m.drop 5) 3 (by decide)
  have a5 := Z7 (m.drop 5) (n := 3) (by decide)
  have b5 := a3k (m.drop 5) (n := 3) (by decide)
  rw [hi', a4O] at hL
  have hM2 : (m.drop 6).drop (6 * (c - (i + 1))) = l0.drop (6 * c) := by rw [List.drop_drop, <- hM]; congr 1; omega
  rw [show c - i - 1 = c - (i + 1) by omega] at hL
  simp only [List.drop_drop, List.drop_zero] at n0 n1 n2 n3 n4 n5 a0 b0
  unfold b7O b7S at hL
  have o1 := a2I (4 + 2 * nx m 4) 4 (by omega) (by omega)
  have o2 := a2I (-1 - nx (m.drop 1) 6) 3 (by omega) (by omega)
  have o3 := a2I (1 + nx (m.drop 2) 6) 3 (by omega) (by omega)
  have o4 := a2I 1 (4 + nx (m.drop 3) 8) (by omega) (by omega)
  have o5 := a2I 1 (10 + nx (m.drop 4) 20) (by omega) (by omega)
  have o6 := b9w (-1) (-1) (4 + 2 * nx m 4 + 1) 1 (by omega) (by omega) (by omega) (by omega)
  have o7 := a5M (-1) (-1) (by omega) (by omega)
  have o8 := a5M (4 + 2 * nx m 4 + 1) 0 (by omega) (by omega)
  have o9 := a5M (-1) 1 (by omega) (by omega)
  generalize Q (4 + 2 * nx m 4) 4 = p1 at *
  generalize Q (-1 - nx (m.drop 1) 6) 3 = p2 at *
  generalize Q (1 + nx (m.drop 2) 6) 3 = p3 at *
  generalize Q 1 (4 + nx (m.drop 3) 8) = p4 at *
  generalize Q 1 (10 + nx (m.drop 4) 20) = p5 at *
  generalize a9R (-1) (-1) (4 + 2 * nx m 4 + 1) 1 = r6 at *
  generalize atV (-1) (-1) = v7 at *
  generalize atV (4 + 2 * nx m 4 + 1) 0 = v8 at *
  generalize atV (-1) 1 = v9 at *
  generalize nx m 4 = y0 at *
  generalize nx (m.drop 1) 6 = y1 at *
  generalize nx (m.drop 2) 6 = y2 at *
  generalize nx (m.drop 3) 8 = y3 at *
  generalize nx (m.drop 4) 20 = y4 at *
  generalize nx (m.drop 5) 3 = y5 at *
  simp only [a0S, ints, rc, sb, vts, Vt.c, Vt.enc] at n0 n1 n2 n3 n4 n5 o1 o2 o3 o4 o5 o6 o7 o8 o9
  (repeat first | refine uA ?_ | (refine uK ?_ ?_; focus first | omega | trivial | (intros; simp_all <;> omega)) | simp (disch := omega) only [go_sem, Nat.reduceBEq, Nat.reduceAdd, Nat.reduceLeDiff, Int.reduceToNat, Int.reducePow, ww] | refine l9.t (l8.lift (k := 0) rfl (n0 _ rfl) rfl rfl rfl) ?_ | refine l9.t (l8.lift (k := 0) rfl (n1 _ rfl) rfl rfl rfl) ?_ | refine l9.t (l8.lift (k := 0) rfl (n2 _ rfl) rfl rfl rfl) ?_ | refine l9.t (l8.lift (k := 0) rfl (n3 _ rfl) rfl rfl rfl) ?_ | refine l9.t (l8.lift (k := 0) rfl (n4 _ rfl) rfl rfl rfl) ?_ | refine l9.t (l8.lift (k := 0) rfl (n5 _ rfl) rfl rfl rfl) ?_ | (refine uB o1 ?_ ?_; exact rfl) | (refine uB o2 ?_ ?_; exact rfl) | (refine uB o3 ?_ ?_; exact rfl) | (refine uB o4 ?_ ?_; exact rfl) | (refine uB o5 ?_ ?_; exact rfl) | (refine uB o6 ?_ ?_; exact rfl))
  refine S.join (Y := List Vt) (fun sh => ⟨[(0, .bp 0 0), (4, .bp 1 0), (5, .bp 3 0), (7, .bp 5 0), (30, ints c), (31, ints i)], [.box 225 [a0S (m.drop 6)], .box 76 [.v (.string ⟨#[]⟩), .v (.bool false), .v (.string ⟨#[]⟩), .v (.string ⟨#[]⟩), .v (.bool false), .v (.string ⟨#[]⟩), .v (.string ⟨#[]⟩), .v (.bool false), .v (.bool false), .v (.string ⟨#[]⟩), .v (.string ⟨#[]⟩), .v (.slice none 0 0)], .gone, .box 76 [.v (.string (bs nm)), .v (.bool q1.neg), .v (.string (bs q1.num)), .v (.string (bs q1.den)), .v (.bool q2.neg), .v (.string (bs q2.num)), .v (.string (bs q2.den)), .v (.bool false), .v (.bool q3.neg), .v (.string (bs q3.num)), .v (.string (bs q3.den)), .rv 4], .row 158 16 (ls.map Lk.enc), .box 158 (Lk.enc ⟨p1, p2, p3, p4, p5, sh⟩)]⟩) (fun sh => sh = if y5 = 2 then [v7, v8, v9] else r6) ?_ ?_
  ·refine S.cond rfl (fun hc => ?_) (fun hc => ?_)
   ·(repeat first | refine uA ?_ | (refine uK ?_ ?_; focus first | omega | trivial | (intros; simp_all <;> omega)) | simp (disch := omega) only [go_sem, Nat.reduceBEq, Nat.reduceAdd, Nat.reduceLeDiff, Int.reduceToNat, Int.reducePow, ww] | (refine uB o7 ?_ ?_; exact rfl) | (refine uB o8 ?_ ?_; exact rfl) | (refine uB o9 ?_ ?_; exact rfl))
    exact S.met [v7, v8, v9] (by simp at hc; rw [if_pos hc]) (Ent.mk _ _ (by (repeat' (first | exact a0o.nil | exact Imp.junk | exact Imp.refl rfl | exact Imp.eq (by simp [slot]; done) rfl | refine a0o.cons ?_ ?_))) (by (repeat' (first | exact L9.nil | exact RI.gone _ | exact RI.row _ _ _ _ rfl | exact RI.map _ _ _ rfl | exact RI.box _ _ _ (j5.refl rfl) | (refine RI.box _ _ _ ?_; (repeat' (first | exact j5.nil | exact Imp.refl rfl | exact Imp.frz rfl rfl rfl | exact Imp.F9 | refine j5.cons ?_ ?_))) | refine L9.cons ?_ ?_))) (c1G hν0 (by simp)))
   ·(repeat first | refine uA ?_ | (refine uK ?_ ?_; focus first | omega | trivial | (intros; simp_all <;> omega)) | simp (disch := omega) only [go_sem, Nat.reduceBEq, Nat.reduceAdd, Nat.reduceLeDiff, Int.reduceToNat, Int.reducePow, ww])
    exact S.met r6 (by simp at hc; rw [if_neg hc]) (by (repeat first | refine uA ?_ | (refine ⟨?_, ?_⟩; focus first | rfl | trivial | (simp [slot]; done)) | rfl | trivial | simp | exact c1G hν0 (by simp)))
  rintro sh hsh
  rw [<- hsh] at hL
  simp only [a0S, ints, Lk.enc, vts]
  (repeat first | refine uA ?_ | (refine uK ?_ ?_; focus first | omega | trivial | (intros; simp_all <;> omega)) | simp (disch := omega) only [go_sem, Nat.reduceBEq, Nat.reduceAdd, Nat.reduceLeDiff, Int.reduceToNat, Int.reducePow, ww, c1y, hls])
  refine S.next (x := (i, ls, m)) (i + 1, ls ++ [⟨p1, p2, p3, p4, p5, sh⟩], m.drop 6) ⟨by simp only; omega, by simp [hls], by simp only; rw [c2b]; exact hL, by simp only; exact hM2⟩ (by simp only; omega) (by simp only [c2p, c1R, c2d]; exact (by (repeat first | refine uA ?_ | (refine ⟨?_, ?_⟩; focus first | rfl | trivial | (simp [slot]; done)) | rfl | trivial | simp | exact c1G hν0 (by simp))))
 ·have hi' : i = c := by omega
  subst hi'
  rw [Nat.sub_self, a4O, List.append_nil] at hL
  rw [Nat.sub_self, Nat.mul_zero, List.drop_zero] at hM
  subst hL
  subst hM
  (repeat first | refine uA ?_ | (refine uK ?_ ?_; focus first | omega | trivial | (intros; simp_all <;> omega)) | simp (disch := omega) only [go_sem, Nat.reduceBEq, Nat.reduceAdd, Nat.reduceLeDiff, Int.reduceToNat, Int.reducePow, ww])
  (refine S.done ?_; simp only [p8, l7, go_sem, Nat.reduceBEq, Nat.reduceAdd, Nat.reduceLeDiff, Int.reduceToNat, Int.reducePow]; (repeat (refine ⟨?_, ?_⟩; focus first | trivial | omega | simp)); exact d9.O1 (Imp.agg (by (repeat' (first | exact j5.nil | exact Imp.refl rfl | exact Imp.frz rfl rfl rfl | exact Imp.F9 | refine j5.cons ?_ ?_)))) (by (repeat first | refine uA ?_ | (refine ⟨?_, ?_⟩; focus first | rfl | trivial | (simp [slot]; done)) | rfl | trivial | simp)) (c1G hν0 (by simp)))
theorem b4I {w : World} {O : Nat -> Prop} {sz : Nat} : Fz w O (.sl sz []) (.slice none 0 0) := by
 simp only [Fz]
 exact ⟨none, 0, rfl, c1I _, c1H _, fun h => absurd h (by simp)⟩
open Go Eng
def I8 : Wk := ⟨[b1n [] 0], [], [], [], [], Q 0 8⟩
theorem a3W : Y0 I8 = 0 := by decide +kernel
theorem b0V : Wb 1048576 I8 := by
 have ha := a8B a3W
 refine ⟨⟨by decide, fun x hx => (a1N (ha x hx)).1⟩, ⟨by decide, fun x hx => by cases hx⟩, ⟨by decide, fun x hx => by cases hx⟩, ⟨by decide, fun x hx => by cases hx⟩, ⟨by decide, fun x hx => by cases hx⟩, ⟨by decide +kernel, by decide +kernel⟩⟩
theorem S.a9U {E : Ctx} {Q : Exit -> Act -> World -> Prop} {st : St} {k : List It} {body : IC} (h : ∀ J, S E Q st (.code body :: .inv J :: k)) : S E Q st (.code (.loop body) :: k) :=
 S.loop (X := Unit) (fun _ => st) (fun _ => True) (fun _ => 0) () trivial (fun _ ν _ _ h => ⟨ν, h⟩) fun _ _ => h _
theorem b6x : u6 Tryz.prog 69 [a0S []] I8.c := by
 refine kS Tryz.func69 (kcF rfl (by cbv) (by repeat first | apply kcS | apply kcC | apply kcB | apply kcL | cbv)) (by rfl) fun w O => ?_
 have k2 := fun (E : Ctx) (hP : E.P = Tryz.prog) => a0O hP [] 2 (by decide)
 have k3 := fun (E : Ctx) (hP : E.P = Tryz.prog) => a0O hP [] 3 (by decide)
 have k4 := fun (E : Ctx) (hP : E.P = Tryz.prog) => a0O hP [] 4 (by decide)
 have ha : ∀ i : Nat, i = 0 -> ∀ E : Ctx, E.P = Tryz.prog -> l8 E [.box 225 [a0S []]] 174 [.bp 0 0, .v (.int .i64 (i : Int))] (b1n [] 0).c [.box 225 [a0S (a7q [])]] [] := fun i h E hP => by subst h; exact c0P hP [] 0 (by decide)
 have o1 := a2I 0 8 (by decide) (by decide)
 have e1 : a7q [] = [] := by unfold a7q; exact List.drop_nil
 rw [e1] at ha
 simp only [List.drop_nil, show nx [] 2 = 0 from rfl, show nx [] 3 = 0 from rfl, show nx [] 4 = 0 from rfl, a0S, c2d, ints] at k2 k3 k4 ha o1
 unfold I8
 generalize b1n [] 0 = A at *
 generalize Q 0 8 = q at *
 simp only [Am.c, Am.enc, lks, rc, sb] at ha o1
 simp only [j6]
 simp only [a0S, c2d]
 (repeat first | refine uA ?_ | (refine uK ?_ ?_; focus first | omega | (intros; simp_all <;> omega)) | simp (disch := omega) only [go_sem, Nat.reduceBEq, Nat.reduceAdd, ww] | refine l9.t (l8.lift (k := 1) rfl (k2 _ rfl) rfl rfl rfl) ?_)
 refine S.loop (X := Nat) (fun i => ⟨[(2, .bp 0 0), (3, .bp 1 0), (4, .bp 2 0), (17, ints 1), (18, ints i)], [.box 31 [.v (.slice none 0 0), .v (.slice none 0 0), .v (.slice none 0 0), .v (.slice none 0 0), .v (.slice none 0 0), .v (.bool false), .v (.string ⟨#[]⟩), .v (.string ⟨#[]⟩)], .box 225 [.sl 1 []], .box 31 [.rv 3, .v (.slice none 0 0), .v (.slice none 0 0), .v (.slice none 0 0), .v (.slice none 0 0), .v (.bool false), .v (.string ⟨#[]⟩), .v (.string ⟨#[]⟩)], .row 76 12 ((List.replicate i A).map Am.enc)]⟩) (fun i => i <= 1) (fun i => 1 - i) 0 (by decide) (Ent.trans (Ent.a3n 2 0 76 12 rfl rfl rfl) (by (repeat first | refine uA ?_ | (refine ⟨?_, ?_⟩; focus first | rfl | simp [slot]) | rfl | simp))) ?_
 intro i hi
 simp only [ints]
 (repeat first | refine uA ?_ | (refine uK ?_ ?_; focus first | omega | (intros; simp_all <;> omega)) | simp (disch := omega) only [go_sem, Nat.reduceBEq, Nat.reduceAdd, ww])
 (refine uJ rfl (fun hc => ?_) fun hc => ?_)
 ·have hi' : i = 0 := by omega
  have ha := ha i hi'
  (repeat first | refine uI ?_ | (refine uK ?_ ?_; focus first | omega | (intros; simp_all <;> omega)) | simp (disch := omega) only [go_sem, Nat.reduceBEq, Nat.reduceAdd, ww])
  refine S.U6 [.gone, .gone, .box 31 [.rv 3, .v (.slice none 0 0), .v (.slice none 0 0), .v (.slice none 0 0), .v (.slice none 0 0), .v (.bool false), .v (.string ⟨#[]⟩), .v (.string ⟨#[]⟩)]] (by simp [Eng.F3, Eng.Y5]) ?_
  (repeat first | refine uA ?_ | (refine uK ?_ ?_; focus first | omega | (intros; simp_all <;> omega)) | simp (disch := omega) only [go_sem, Nat.reduceBEq, Nat.reduceAdd, ww, c1y, List.length_replicate, F3] | refine l9.t (l8.lift (k := 1) rfl (ha _ rfl) rfl rfl rfl) ?_)
  refine S.next (i + 1) (by omega) (by omega) (by simp only [List.replicate_succ', c2p, c1R, c2d, Am.enc, lks, sb, ints]; exact (by (repeat first | refine uA ?_ | (refine ⟨?_, ?_⟩; focus first | rfl | simp [slot]) | rfl | simp)))
 have hi' : i = 1 := by omega
 subst hi'
 (repeat first | refine uA ?_ | (refine uK ?_ ?_; focus first | omega | (intros; simp_all <;> omega)) | simp (disch := omega) only [go_sem, Nat.reduceBEq, Nat.reduceAdd, ww] | refine l9.t (l8.lift (k := 1) rfl (k3 _ rfl) rfl rfl rfl) ?_)
 refine S.a9U fun J => ?_
 (repeat first | refine uA ?_ | (refine uK ?_ ?_; focus first | omega | (intros; simp_all <;> omega)) | simp (disch := omega) only [go_sem, Nat.reduceBEq, Nat.reduceAdd, ww])
 refine S.cond rfl (fun hc => by simp at hc) (fun hc => ?_)
 (repeat first | refine uA ?_ | (refine uK ?_ ?_; focus first | omega | (intros; simp_all <;> omega)) | simp (disch := omega) only [go_sem, Nat.reduceBEq, Nat.reduceAdd, ww] | refine l9.t (l8.lift (k := 1) rfl (k3 _ rfl) rfl rfl rfl) ?_)
 refine S.a9U fun J => ?_
 (repeat first | refine uA ?_ | (refine uK ?_ ?_; focus first | omega | (intros; simp_all <;> omega)) | simp (disch := omega) only [go_sem, Nat.reduceBEq, Nat.reduceAdd, ww])
 refine S.cond rfl (fun hc => by simp at hc) (fun hc => ?_)
 (repeat first | refine uI ?_ | (refine uK ?_ ?_; focus first | omega | (intros; simp_all <;> omega)) | simp (disch := omega) only [go_sem, Nat.reduceBEq, Nat.reduceAdd, ww])
 refine S.U6 [.gone, .gone, .box 31 [.rv 3, .v (.slice none 0 0), .v (.slice none 0 0), .v (.slice none 0 0), .v (.slice none 0 0), .v (.bool false), .v (.string ⟨#[]⟩), .v (.string ⟨#[]⟩)]] (by simp [Eng.F3, Eng.Y5]) ?_
 (repeat first | refine uA ?_ | (refine uK ?_ ?_; focus first | omega | (intros; simp_all <;> omega)) | simp (disch := omega) only [go_sem, Nat.reduceBEq, Nat.reduceAdd, ww] | refine l9.t (l8.lift (k := 1) rfl (k2 _ rfl) rfl rfl rfl) ?_)
 refine S.a9U fun J => ?_
 (repeat first | refine uA ?_ | (refine uK ?_ ?_; focus first | omega | (intros; simp_all <;> omega)) | simp (disch := omega) only [go_sem, Nat.reduceBEq, Nat.reduceAdd, ww])
 refine S.cond rfl (fun hc => by simp at hc) (fun hc => ?_)
 (repeat first | refine uA ?_ | (refine uK ?_ ?_; focus first | omega | (intros; simp_all <;> omega)) | simp (disch := omega) only [go_sem, Nat.reduceBEq, Nat.reduceAdd, ww] | refine l9.t (l8.lift (k := 1) rfl (k2 _ rfl) rfl rfl rfl) ?_)
 refine S.a9U fun J => ?_
 (repeat first | refine uA ?_ | (refine uK ?_ ?_; focus first | omega | (intros; simp_all <;> omega)) | simp (disch := omega) only [go_sem, Nat.reduceBEq, Nat.reduceAdd, ww])
 refine S.cond rfl (fun hc => by simp at hc) (fun hc => ?_)
 (repeat first | refine uA ?_ | (refine uK ?_ ?_; focus first | omega | (intros; simp_all <;> omega)) | simp (disch := omega) only [go_sem, Nat.reduceBEq, Nat.reduceAdd, ww] | refine l9.t (l8.lift (k := 1) rfl (k4 _ rfl) rfl rfl rfl) ?_ | (refine uB o1 ?_ ?_; exact rfl))
 simp only [Wk.c, Wk.enc, ams, wls, pts, sls, gts, sb, List.replicate_succ, List.replicate_zero, c1R, c2d, Am.enc, lks]
 (refine S.done ?_; simp only [p8, l7, go_sem, Nat.reduceBEq, Nat.reduceAdd, Nat.reduceLeDiff, Int.reduceToNat, Int.reducePow]; (repeat (refine ⟨?_, ?_⟩; focus first | trivial | omega | simp)); exact d9.out rfl (Imp.agg (by (repeat' (first | exact j5.nil | exact Imp.refl rfl | exact Imp.frz rfl rfl rfl | exact Imp.F9 | refine j5.cons ?_ ?_)))) rfl)
theorem b6F : u6 Tryz.prog 69 [.v (.slice none 0 0)] I8.c := by
 have h := b6x
 intro O w vs hO hA
 refine h O w vs hO ?_
 simp only [FzL, Fz] at hA
 obtain ⟨y, ys, rfl, rfl, rfl⟩ := hA
 exact ⟨_, _, rfl, b4I, rfl⟩
theorem b5H : (∀ a ∈ I8.arms, J6 a = 0) /\ ∀ s ∈ I8.slots, okF s.frame = true := ⟨a8B a3W, fun s hs => by cases hs⟩
theorem b8h : FZ 81 [] (.tup [I8.c, (K7 I8).c]) := by
 refine kW Tryz.func81 (by cbv) (by rfl) fun w' O hw => ?_
 have h1 := b6F
 have h2 := b7u I8 (b0V.mono (by decide)) a3W
 generalize K7 I8 = s at *
 generalize I8 = w at *
 obtain ⟨arms, walls, parts, slots, gates, walk⟩ := w
 obtain ⟨tick, sarms, sparts, people, sgates⟩ := s
 simp only [j6]
 simp only [Wk.c, Wk.enc, Stt.c, Stt.enc, ams, wls, pts, sls, gts, D8, frs, vts, bls, sb, ints, a0S, c2d] at h1 h2 ⊢
 (repeat first | refine uA ?_ | (refine uK ?_ ?_; focus first | omega | (intros; simp_all <;> omega)) | simp (disch := omega) only [go_sem, Nat.reduceBEq, Nat.reduceAdd, ww] | (refine uB h1 ?_ ?_; exact rfl) | (refine uD h2 ?_ ?_ ?_; exact tz hw; exact rfl))
 (refine S.done ?_; simp only [p8, l7, go_sem, Nat.reduceBEq, Nat.reduceAdd, Nat.reduceLeDiff, Int.reduceToNat, Int.reducePow]; (repeat (refine ⟨?_, ?_⟩; focus first | trivial | omega | simp)); exact d9.out rfl (Imp.tup (by (repeat' (first | exact j5.nil | exact Imp.refl rfl | exact Imp.frz rfl rfl rfl | exact Imp.F9 | refine Imp.agg ?_ | refine j5.cons ?_ ?_)))) rfl)
def a4H : Stt := ⟨0, [], [], [], []⟩
theorem b2O {k : Nat} : Stb k a4H := ⟨⟨c1H _, fun x hx => (by cases hx)⟩, ⟨c1H _, fun x hx => (by cases hx)⟩, ⟨c1H _, fun x hx => (by cases hx)⟩, c1H _⟩
def X4 (u : Nat) : List UInt8 := if u < 128 then [UInt8.ofNat u] else UInt8.ofNat (u % 128 + 128) :: X4 (u / 128)
theorem a8w {u : Nat} (h : u < 128) : X4 u = [UInt8.ofNat u] := by unfold X4; rw [if_pos h]
theorem a6C {u : Nat} (h : ¬ u < 128) : X4 u = UInt8.ofNat (u % 128 + 128) :: X4 (u / 128) := by rw [X4, if_neg h]
def a6g (n : Int) : List UInt8 := X4 (IntKind.u64.wrap n).toNat
def a2B (b : Bool) : List UInt8 := if b then [1] else [0]
def a5x (l : List UInt8) : List UInt8 := X4 l.length ++ l
def V6 (a : Nm.Rt) : List UInt8 := a2B a.neg ++ (a5x a.num ++ a5x a.den)
def a4l (v : Vt) : List UInt8 := V6 v.x ++ V6 v.y
def frB (f : Fr) : List UInt8 := (V6 f.x ++ V6 f.y) ++ (a2B f.half ++ V6 f.t)
def J4 {α : Type} (f : α -> List UInt8) (l : List α) : List UInt8 := X4 l.length ++ l.flatMap f
def a5t (x : Ast) : List UInt8 := J4 V6 x.q ++ (J4 V6 x.v ++ (a2B x.power ++ a6g (IntKind.i64.wrap (x.holds + 1))))
def a3e (s : Stt) : List UInt8 := a6g s.tick ++ (J4 a5t s.arms ++ (J4 frB s.parts ++ (J4 a4l s.people ++ J4 a2B s.gates)))
def R64 (n : Int) : Prop := -9223372036854775808 <= n /\ n <= 9223372036854775807
theorem b1g (n : Int) : IntKind.u64.wrap n = n % 18446744073709551616 := by simp [IntKind.wrap, IntKind.signed, IntKind.bits]
def Aok (x : Ast) : Prop := R64 x.holds
def Sok (s : Stt) : Prop := R64 s.tick /\ ∀ x ∈ s.arms, Aok x
theorem b2m (u : Nat) : ∀ n, u < 128 ^ n -> 0 < n -> (X4 u).length <= n := by
 induction u using X4.induct with
 | case1 u h => intro n _ hn; rw [a8w h]; simp; omega
 | case2 u h ih =>
  intro n hu hn
  rw [a6C h]
  cases n with
  | zero => omega
  | succ n =>
   cases n with
   | zero => simp at hu; omega
   | succ n =>
    have := ih (n + 1) (by rw [c2i] at hu; omega) (by omega)
    simpa using this
theorem b0i (u : Nat) (h : u < 18446744073709551616) : (X4 u).length <= 10 := b2m u 10 (c1S h (by decide)) (by decide)
theorem b7r (n : Int) : (a6g n).length <= 10 := b0i _ (by rw [b1g]; omega)
set_option maxRecDepth 10000
set_option maxHeartbeats 4000000
theorem a2s {n : Nat} (h : n < 18446744073709551616) : a6g (n : Int) = X4 n := by
 unfold a6g
 rw [b1g, show ((n : Int) % 18446744073709551616).toNat = n by omega]
theorem b4J (n : Int) : IntKind.u8.wrap n = n % 256 := by simp [IntKind.wrap, IntKind.signed, IntKind.bits]
theorem c0g (u : Nat) (h : u < 128) : IntKind.u8.wrap (u : Int) = ((UInt8.ofNat u).toNat : Int) := by
 rw [b4J, UInt8.toNat_ofNat']
 omega
theorem c0Z (u : Nat) (h : u < 18446744073709551616) : IntKind.u8.wrap (Go.bits .or .u64 (Go.bits .and .u64 (u : Int) 127) 128) = ((UInt8.ofNat (u % 128 + 128)).toNat : Int) := by
 have h1 : Go.bits .and .u64 (u : Int) 127 = ((u % 128 : Nat) : Int) := by
  have := bits_and_u64_nat u 127 h (by omega)
  rw [show (127 : Nat) = 2 ^ 7 - 1 from rfl, Nat.and_two_pow_sub_one_eq_mod] at this
  exact this
 have h2 : Go.bits .or .u64 ((u % 128 : Nat) : Int) 128 = ((u % 128 + 128 : Nat) : Int) := by
  have := bits_or_u64_nat (u % 128) 128 (by omega) (by omega)
  have h3 : u % 128 ||| 128 = u % 128 + 128 := by
   have := Nat.two_pow_add_eq_or_of_lt (i := 7) (b := u % 128) (by omega) 1
   simp at this
   rw [Nat.or_comm, <- this]
   omega
  rw [h3] at this
  exact this
 rw [h1, h2, b4J, UInt8.toNat_ofNat']
 omega
theorem b6o {u : Nat} : ((u : Int).fdiv 128) = ((u / 128 : Nat) : Int) := by
 rw [Int.fdiv_eq_ediv_of_nonneg _ (by omega)]
 omega
theorem b5K (x : UInt8) : V8 [[C.v (.int .u8 (x.toNat : Int))]] = some [x] := Q5 [x]
theorem a3r {α β : Type} (f : α -> List β) {l : List α} {i : Nat} (h : i < l.length) : (l.take (i + 1)).flatMap f = (l.take i).flatMap f ++ f l[i] := by
 rw [c2o h, List.flatMap_append]
 simp
theorem a4Q {α β : Type} (f : α -> List β) {l : List α} {i : Nat} (h : i < l.length) : ((l.take i).flatMap f).length + (f l[i]).length <= (l.flatMap f).length := by
 have := a3r f h
 have h2 : l.flatMap f = (l.take (i + 1)).flatMap f ++ (l.drop (i + 1)).flatMap f := by rw [<- List.flatMap_append, List.take_append_drop]
 rw [h2, this]
 simp only [c1C]
 omega
theorem b9G {α β : Type} (f : α -> List β) {l : List α} {z : α} (h : z ∈ l) : (f z).length <= (l.flatMap f).length := by
 obtain ⟨i, hi, rfl⟩ := List.getElem_of_mem h
 have := a4Q f hi
 omega
theorem a2K {α : Type} (f : α -> List UInt8) {l : List α} {z : α} (h : z ∈ l) {m : Nat} (hm : (J4 f l).length <= m) : (f z).length <= m := by
 have := b9G f h
 unfold J4 at hm
 rw [c1C] at hm
 omega
theorem a2J (n : Int) : u6 Tryz.prog 124 [ints n] (sb (a6g n)) := by
 refine kS Tryz.func124 (by cbv) (by rfl) fun w O => ?_
 simp only [j6, ints]
 have hu0 : 0 <= IntKind.u64.wrap n /\ IntKind.u64.wrap n < 18446744073709551616 := by rw [b1g]; omega
 have hint : a6g n = X4 (IntKind.u64.wrap n).toNat := rfl
 rw [hint]
 obtain ⟨u0, hu⟩ : ∃ u0 : Nat, IntKind.u64.wrap n = (u0 : Int) := ⟨(IntKind.u64.wrap n).toNat, by omega⟩
 rw [hu] at hu0 ⊢
 rw [c1B]
 have hl0 := b0i u0 (by omega)
 (repeat first | refine uA ?_ | (refine uK ?_ ?_; focus first | omega | trivial | (intros; simp_all <;> omega)) | simp (disch := omega) only [go_sem, Nat.reduceBEq, Nat.reduceAdd, Nat.reduceLeDiff, Int.reduceToNat, Int.reducePow, ww, hu])
 refine S.loop (X := Nat × List UInt8) (fun p => ⟨[(3, sb p.2), (4, .v (.int .u64 p.1))], []⟩)
  (fun p => X4 u0 = p.2 ++ X4 p.1 /\ p.1 < 18446744073709551616) (fun p => p.1) (u0, []) ⟨rfl, by simp only; omega⟩ (by (repeat first | refine uA ?_ | (refine ⟨?_, ?_⟩; focus first | rfl | trivial | (simp [slot]; done)) | rfl | trivial | simp)) ?_
 rintro ⟨u, done⟩ ⟨hxs, hlt⟩
 simp only [sb] at hxs hlt ⊢
 have hlen : done.length + (X4 u).length <= 10 := by
  have := congrArg List.length hxs
  simp at this
  omega
 (repeat first | refine uA ?_ | (refine uK ?_ ?_; focus first | omega | trivial | (intros; simp_all <;> omega)) | simp (disch := omega) only [go_sem, Nat.reduceBEq, Nat.reduceAdd, Nat.reduceLeDiff, Int.reduceToNat, Int.reducePow, ww])
 (refine uJ rfl (fun hc => ?_) fun hc => ?_)
 ·have hge : u < 128 := by omega
  rw [a8w hge] at hxs
  (repeat first | refine uA ?_ | (refine uK ?_ ?_; focus first | omega | trivial | (intros; simp_all <;> omega)) | simp (disch := omega) only [go_sem, Nat.reduceBEq, Nat.reduceAdd, Nat.reduceLeDiff, Int.reduceToNat, Int.reducePow, ww, b5K, a1P, w9, a0h, c0g u hge, c1T, List.length_nil])
  rw [hxs]
  exact S.done (d9.out rfl (Imp.refl rfl) rfl)
 ·have hge : ¬ u < 128 := by omega
  rw [a6C hge] at hxs
  have hg1 := a6C hge
  rw [hg1, c1T] at hlen
  (repeat first | refine uA ?_ | (refine uK ?_ ?_; focus first | omega | trivial | (intros; simp_all <;> omega)) | simp (disch := omega) only [go_sem, Nat.reduceBEq, Nat.reduceAdd, Nat.reduceLeDiff, Int.reduceToNat, Int.reducePow, ww, b5K, a1P, w9, a0h, c0Z u hlt, b6o, c1T, List.length_nil])
  refine S.next (x := (u, done)) (u / 128, done ++ [UInt8.ofNat (u % 128 + 128)]) ⟨by rw [hxs]; simp, by simp only; omega⟩ (by simp only; omega) (by (repeat first | refine uA ?_ | (refine ⟨?_, ?_⟩; focus first | rfl | trivial | (simp [slot]; done)) | rfl | trivial | simp))
theorem a5f (b : Bool) : u6 Tryz.prog 203 [.v (.bool b)] (sb (a2B b)) := by
 refine kS Tryz.func203 (by cbv) (by rfl) fun w O => ?_
 simp only [j6]
 (repeat first | refine uA ?_ | (refine uK ?_ ?_; focus first | omega | trivial | (intros; simp_all <;> omega)) | simp (disch := omega) only [go_sem, Nat.reduceBEq, Nat.reduceAdd, Nat.reduceLeDiff, Int.reduceToNat, Int.reducePow, ww])
 refine S.cond rfl (fun hc => ?_) (fun hc => ?_)
 ·subst hc
  (repeat first | refine uA ?_ | (refine uK ?_ ?_; focus first | omega | trivial | (intros; simp_all <;> omega)) | simp (disch := omega) only [go_sem, Nat.reduceBEq, Nat.reduceAdd, Nat.reduceLeDiff, Int.reduceToNat, Int.reducePow, ww])
  exact S.done (d9.out rfl (Imp.refl rfl) rfl)
 ·subst hc
  (repeat first | refine uA ?_ | (refine uK ?_ ?_; focus first | omega | trivial | (intros; simp_all <;> omega)) | simp (disch := omega) only [go_sem, Nat.reduceBEq, Nat.reduceAdd, Nat.reduceLeDiff, Int.reduceToNat, Int.reducePow, ww])
  exact S.done (d9.out rfl (Imp.refl rfl) rfl)
theorem b2B (s : List UInt8) (hl : (a5x s).length <= 140737488355328) : u6 Tryz.prog 108 [sb s] (sb (a5x s)) := by
 refine kS Tryz.func108 (by cbv) (by rfl) fun w O => ?_
 unfold a5x at hl ⊢
 rw [c1C] at hl
 have h1 := a2J s.length
 rw [a2s (by omega)] at h1
 simp only [j6]
 simp only [sb, ints] at *
 (repeat first | refine uA ?_ | (refine uK ?_ ?_; focus first | omega | trivial | (intros; simp_all <;> omega)) | simp (disch := omega) only [go_sem, Nat.reduceBEq, Nat.reduceAdd, Nat.reduceLeDiff, Int.reduceToNat, Int.reducePow, ww, w9, a0h, c1C] | (refine uB h1 ?_ ?_; exact rfl))
 exact S.done (d9.out rfl (Imp.refl rfl) rfl)
theorem a2N (a : Nm.Rt) (hl : (V6 a).length <= 140737488355328) : u6 Tryz.prog 104 [rc a] (sb (V6 a)) := by
 refine kS Tryz.func104 (by cbv) (by rfl) fun w O => ?_
 unfold V6 at hl ⊢
 simp only [c1C] at hl
 have h1 := a5f a.neg
 have h2 := b2B a.num (by omega)
 have h3 := b2B a.den (by omega)
 simp only [j6]
 simp only [rc, sb] at *
 (repeat first | refine uA ?_ | (refine uK ?_ ?_; focus first | omega | trivial | (intros; simp_all <;> omega)) | simp (disch := omega) only [go_sem, Nat.reduceBEq, Nat.reduceAdd, Nat.reduceLeDiff, Int.reduceToNat, Int.reducePow, ww, w9, a0h, c1C, c2b] | (refine uB h1 ?_ ?_; exact rfl) | (refine uB h2 ?_ ?_; exact rfl) | (refine uB h3 ?_ ?_; exact rfl))
 exact S.done (d9.out rfl (Imp.refl rfl) rfl)
theorem b0a (v : Vt) (hl : (a4l v).length <= 140737488355328) : u6 Tryz.prog 118 [v.c] (sb (a4l v)) := by
 refine kS Tryz.func118 (by cbv) (by rfl) fun w O => ?_
 unfold a4l at hl ⊢
 simp only [c1C] at hl
 have h1 := a2N v.x (by omega)
 have h2 := a2N v.y (by omega)
 generalize V6 v.x = r1 at *
 generalize V6 v.y = r2 at *
 simp only [j6]
 simp only [Vt.c, Vt.enc, rc, sb] at *
 (repeat first | refine uA ?_ | (refine uK ?_ ?_; focus first | omega | trivial | (intros; simp_all <;> omega)) | simp (disch := omega) only [go_sem, Nat.reduceBEq, Nat.reduceAdd, Nat.reduceLeDiff, Int.reduceToNat, Int.reducePow, ww, w9, a0h, c1C] | (refine uB h1 ?_ ?_; exact rfl) | (refine uB h2 ?_ ?_; exact rfl))
 exact S.done (d9.out rfl (Imp.refl rfl) rfl)
theorem b5j (f : Fr) (hl : (frB f).length <= 140737488355328) : u6 Tryz.prog 109 [f.c] (sb (frB f)) := by
 refine kS Tryz.func109 (by cbv) (by rfl) fun w O => ?_
 unfold frB at hl ⊢
 simp only [c1C] at hl
 have h1 := b0a ⟨f.x, f.y⟩ (show (V6 f.x ++ V6 f.y).length <= _ by rw [c1C]; omega)
 have h2 := a5f f.half
 have h3 := a2N f.t (by omega)
 unfold a4l at h1
 generalize V6 f.x = r1 at *
 generalize V6 f.y = r2 at *
 generalize V6 f.t = r3 at *
 simp only [j6]
 simp only [Fr.c, Fr.enc, Vt.c, Vt.enc, rc, sb] at *
 (repeat first | refine uA ?_ | (refine uK ?_ ?_; focus first | omega | trivial | (intros; simp_all <;> omega)) | simp (disch := omega) only [go_sem, Nat.reduceBEq, Nat.reduceAdd, Nat.reduceLeDiff, Int.reduceToNat, Int.reducePow, ww, w9, a0h, c1C, c2b] | (refine uB h1 ?_ ?_; exact rfl) | (refine uB h2 ?_ ?_; exact rfl) | (refine uB h3 ?_ ?_; exact rfl))
 exact S.done (d9.out rfl (Imp.refl rfl) rfl)
theorem a6R (g : Nat) (hcal : callable Tryz.prog g = true) (f : Nm.Rt -> List UInt8) (l : List Nm.Rt) (hl : (J4 f l).length <= 140737488355328) (hn : l.length <= 1099511627776) (hg : ∀ x ∈ l, u6 Tryz.prog g [rc x] (sb (f x))) :
  u6 Tryz.prog 125 [rts l, .v (.func (.func g) #[] #[])] (sb (J4 f l)) := by
 refine kS Tryz.func125 (by cbv) (by rfl) fun w O => ?_
 unfold J4 at hl ⊢
 rw [c1C] at hl
 have h1 := a2J l.length
 rw [a2s (by omega)] at h1
 simp only [j6, rts]
 simp only [sb, ints] at h1 hg ⊢
 generalize X4 l.length = d at *
 (repeat first | refine uA ?_ | (refine uK ?_ ?_; focus first | omega | trivial | (intros; simp_all <;> omega)) | simp (disch := omega) only [go_sem, Nat.reduceBEq, Nat.reduceAdd, Nat.reduceLeDiff, Int.reduceToNat, Int.reducePow, ww, c1y] | (refine uB h1 ?_ ?_; exact rfl))
 refine S.loop (X := Nat) (fun i => ⟨[(1, .v (.func (.func g) #[] #[])), (5, sb (d ++ (l.take i).flatMap f)), (11, rts l), (12, ints l.length), (13, ints i)], []⟩)
  (fun i => i <= l.length) (fun i => l.length - i) 0 (c1H _) (by simp only [List.take_zero, List.flatMap_nil, List.append_nil]; exact (by (repeat first | refine uA ?_ | (refine ⟨?_, ?_⟩; focus first | rfl | trivial | (simp [slot]; done)) | rfl | trivial | simp))) ?_
 intro i hi
 simp only [rts, sb, ints] at hi ⊢
 (repeat first | refine uA ?_ | (refine uK ?_ ?_; focus first | omega | trivial | (intros; simp_all <;> omega)) | simp (disch := omega) only [go_sem, Nat.reduceBEq, Nat.reduceAdd, Nat.reduceLeDiff, Int.reduceToNat, Int.reducePow, ww])
 (refine uJ rfl (fun hc => ?_) fun hc => ?_)
 ·have hi' : i < l.length := by omega
  have hgi := c1x hi'
  have hfm := a3r f hi'
  have hle := a4Q f hi'
  generalize l[i] = x at hgi hfm hle
  have hs := hg x (c1A hgi)
  (try simp only [rc, rcs, sb] at hs)
  (repeat first | refine uA ?_ | (refine uK ?_ ?_; focus first | omega | trivial | (intros; simp_all <;> omega)) | simp (disch := omega) only [go_sem, Nat.reduceBEq, Nat.reduceAdd, Nat.reduceLeDiff, Int.reduceToNat, Int.reducePow, ww, hgi, c1z, c1y, rc, rcs, sb, c1B, hcal, w9, a0h, c1C, c2b] | (refine uB hs ?_ ?_; exact rfl))
  refine S.next (i + 1) (by omega) (by omega) (by rw [hfm]; exact (by (repeat first | refine uA ?_ | (refine ⟨?_, ?_⟩; focus first | rfl | trivial | (simp [slot]; done)) | rfl | trivial | simp)))
 ·have hi' : i = l.length := by omega
  subst hi'
  rw [c1U]
  (repeat first | refine uA ?_ | (refine uK ?_ ?_; focus first | omega | trivial | (intros; simp_all <;> omega)) | simp (disch := omega) only [go_sem, Nat.reduceBEq, Nat.reduceAdd, Nat.reduceLeDiff, Int.reduceToNat, Int.reducePow, ww])
  exact S.done (d9.out rfl (Imp.refl rfl) rfl)
theorem b1Q (g : Nat) (hcal : callable Tryz.prog g = true) (f : Ast -> List UInt8) (l : List Ast) (hl : (J4 f l).length <= 140737488355328) (hn : l.length <= 1099511627776) (hg : ∀ x ∈ l, u6 Tryz.prog g [x.c] (sb (f x))) :
  u6 Tryz.prog 206 [D8 l, .v (.func (.func g) #[] #[])] (sb (J4 f l)) := by
 refine kS Tryz.func206 (by cbv) (by rfl) fun w O => ?_
 unfold J4 at hl ⊢
 rw [c1C] at hl
 have h1 := a2J l.length
 rw [a2s (by omega)] at h1
 simp only [j6, D8]
 simp only [sb, ints] at h1 hg ⊢
 generalize X4 l.length = d at *
 (repeat first | refine uA ?_ | (refine uK ?_ ?_; focus first | omega | trivial | (intros; simp_all <;> omega)) | simp (disch := omega) only [go_sem, Nat.reduceBEq, Nat.reduceAdd, Nat.reduceLeDiff, Int.reduceToNat, Int.reducePow, ww, c1y] | (refine uB h1 ?_ ?_; exact rfl))
 refine S.loop (X := Nat) (fun i => ⟨[(1, .v (.func (.func g) #[] #[])), (5, sb (d ++ (l.take i).flatMap f)), (11, D8 l), (12, ints l.length), (13, ints i)], []⟩)
  (fun i => i <= l.length) (fun i => l.length - i) 0 (c1H _) (by simp only [List.take_zero, List.flatMap_nil, List.append_nil]; exact (by (repeat first | refine uA ?_ | (refine ⟨?_, ?_⟩; focus first | rfl | trivial | (simp [slot]; done)) | rfl | trivial | simp))) ?_
 intro i hi
 simp only [D8, sb, ints] at hi ⊢
 (repeat first | refine uA ?_ | (refine uK ?_ ?_; focus first | omega | trivial | (intros; simp_all <;> omega)) | simp (disch := omega) only [go_sem, Nat.reduceBEq, Nat.reduceAdd, Nat.reduceLeDiff, Int.reduceToNat, Int.reducePow, ww])
 (refine uJ rfl (fun hc => ?_) fun hc => ?_)
 ·have hi' : i < l.length := by omega
  have hgi := c1x hi'
  have hfm := a3r f hi'
  have hle := a4Q f hi'
  generalize l[i] = x at hgi hfm hle
  have hs := hg x (c1A hgi)
  (try simp only [Ast.c, Ast.enc, rts, sb, ints] at hs)
  (repeat first | refine uA ?_ | (refine uK ?_ ?_; focus first | omega | trivial | (intros; simp_all <;> omega)) | simp (disch := omega) only [go_sem, Nat.reduceBEq, Nat.reduceAdd, Nat.reduceLeDiff, Int.reduceToNat, Int.reducePow, ww, hgi, c1z, c1y, Ast.c, Ast.enc, rts, sb, ints, c1B, hcal, w9, a0h, c1C, c2b] | (refine uB hs ?_ ?_; exact rfl))
  refine S.next (i + 1) (by omega) (by omega) (by rw [hfm]; exact (by (repeat first | refine uA ?_ | (refine ⟨?_, ?_⟩; focus first | rfl | trivial | (simp [slot]; done)) | rfl | trivial | simp)))
 ·have hi' : i = l.length := by omega
  subst hi'
  rw [c1U]
  (repeat first | refine uA ?_ | (refine uK ?_ ?_; focus first | omega | trivial | (intros; simp_all <;> omega)) | simp (disch := omega) only [go_sem, Nat.reduceBEq, Nat.reduceAdd, Nat.reduceLeDiff, Int.reduceToNat, Int.reducePow, ww])
  exact S.done (d9.out rfl (Imp.refl rfl) rfl)
theorem b4j (g : Nat) (hcal : callable Tryz.prog g = true) (f : Fr -> List UInt8) (l : List Fr) (hl : (J4 f l).length <= 140737488355328) (hn : l.length <= 1099511627776) (hg : ∀ x ∈ l, u6 Tryz.prog g [x.c] (sb (f x))) :
  u6 Tryz.prog 207 [frs l, .v (.func (.func g) #[] #[])] (sb (J4 f l)) := by
 refine kS Tryz.func207 (by cbv) (by rfl) fun w O => ?_
 unfold J4 at hl ⊢
 rw [c1C] at hl
 have h1 := a2J l.length
 rw [a2s (by omega)] at h1
 simp only [j6, frs]
 simp only [sb, ints] at h1 hg ⊢
 generalize X4 l.length = d at *
 (repeat first | refine uA ?_ | (refine uK ?_ ?_; focus first | omega | trivial | (intros; simp_all <;> omega)) | simp (disch := omega) only [go_sem, Nat.reduceBEq, Nat.reduceAdd, Nat.reduceLeDiff, Int.reduceToNat, Int.reducePow, ww, c1y] | (refine uB h1 ?_ ?_; exact rfl))
 refine S.loop (X := Nat) (fun i => ⟨[(1, .v (.func (.func g) #[] #[])), (5, sb (d ++ (l.take i).flatMap f)), (11, frs l), (12, ints l.length), (13, ints i)], []⟩)
  (fun i => i <= l.length) (fun i => l.length - i) 0 (c1H _) (by simp only [List.take_zero, List.flatMap_nil, List.append_nil]; exact (by (repeat first | refine uA ?_ | (refine ⟨?_, ?_⟩; focus first | rfl | trivial | (simp [slot]; done)) | rfl | trivial | simp))) ?_
 intro i hi
 simp only [frs, sb, ints] at hi ⊢
 (repeat first | refine uA ?_ | (refine uK ?_ ?_; focus first | omega | trivial | (intros; simp_all <;> omega)) | simp (disch := omega) only [go_sem, Nat.reduceBEq, Nat.reduceAdd, Nat.reduceLeDiff, Int.reduceToNat, Int.reducePow, ww])
 (refine uJ rfl (fun hc => ?_) fun hc => ?_)
 ·have hi' : i < l.length := by omega
  have hgi := c1x hi'
  have hfm := a3r f hi'
  have hle := a4Q f hi'
  generalize l[i] = x at hgi hfm hle
  have hs := hg x (c1A hgi)
  (try simp only [Fr.c, Fr.enc, sb] at hs)
  (repeat first | refine uA ?_ | (refine uK ?_ ?_; focus first | omega | trivial | (intros; simp_all <;> omega)) | simp (disch := omega) only [go_sem, Nat.reduceBEq, Nat.reduceAdd, Nat.reduceLeDiff, Int.reduceToNat, Int.reducePow, ww, hgi, c1z, c1y, Fr.c, Fr.enc, sb, c1B, hcal, w9, a0h, c1C, c2b] | (refine uB hs ?_ ?_; exact rfl))
  refine S.next (i + 1) (by omega) (by omega) (by rw [hfm]; exact (by (repeat first | refine uA ?_ | (refine ⟨?_, ?_⟩; focus first | rfl | trivial | (simp [slot]; done)) | rfl | trivial | simp)))
 ·have hi' : i = l.length := by omega
  subst hi'
  rw [c1U]
  (repeat first | refine uA ?_ | (refine uK ?_ ?_; focus first | omega | trivial | (intros; simp_all <;> omega)) | simp (disch := omega) only [go_sem, Nat.reduceBEq, Nat.reduceAdd, Nat.reduceLeDiff, Int.reduceToNat, Int.reducePow, ww])
  exact S.done (d9.out rfl (Imp.refl rfl) rfl)
theorem b1X (g : Nat) (hcal : callable Tryz.prog g = true) (f : Vt -> List UInt8) (l : List Vt) (hl : (J4 f l).length <= 140737488355328) (hn : l.length <= 1099511627776) (hg : ∀ x ∈ l, u6 Tryz.prog g [x.c] (sb (f x))) :
  u6 Tryz.prog 204 [vts l, .v (.func (.func g) #[] #[])] (sb (J4 f l)) := by
 refine kS Tryz.func204 (by cbv) (by rfl) fun w O => ?_
 unfold J4 at hl ⊢
 rw [c1C] at hl
 have h1 := a2J l.length
 rw [a2s (by omega)] at h1
 simp only [j6, vts]
 simp only [sb, ints] at h1 hg ⊢
 generalize X4 l.length = d at *
 (repeat first | refine uA ?_ | (refine uK ?_ ?_; focus first | omega | trivial | (intros; simp_all <;> omega)) | simp (disch := omega) only [go_sem, Nat.reduceBEq, Nat.reduceAdd, Nat.reduceLeDiff, Int.reduceToNat, Int.reducePow, ww, c1y] | (refine uB h1 ?_ ?_; exact rfl))
 refine S.loop (X := Nat) (fun i => ⟨[(1, .v (.func (.func g) #[] #[])), (5, sb (d ++ (l.take i).flatMap f)), (11, vts l), (12, ints l.length), (13, ints i)], []⟩)
  (fun i => i <= l.length) (fun i => l.length - i) 0 (c1H _) (by simp only [List.take_zero, List.flatMap_nil, List.append_nil]; exact (by (repeat first | refine uA ?_ | (refine ⟨?_, ?_⟩; focus first | rfl | trivial | (simp [slot]; done)) | rfl | trivial | simp))) ?_
 intro i hi
 simp only [vts, sb, ints] at hi ⊢
 (repeat first | refine uA ?_ | (refine uK ?_ ?_; focus first | omega | trivial | (intros; simp_all <;> omega)) | simp (disch := omega) only [go_sem, Nat.reduceBEq, Nat.reduceAdd, Nat.reduceLeDiff, Int.reduceToNat, Int.reducePow, ww])
 (refine uJ rfl (fun hc => ?_) fun hc => ?_)
 ·have hi' : i < l.length := by omega
  have hgi := c1x hi'
  have hfm := a3r f hi'
  have hle := a4Q f hi'
  generalize l[i] = x at hgi hfm hle
  have hs := hg x (c1A hgi)
  (try simp only [Vt.c, Vt.enc, sb] at hs)
  (repeat first | refine uA ?_ | (refine uK ?_ ?_; focus first | omega | trivial | (intros; simp_all <;> omega)) | simp (disch := omega) only [go_sem, Nat.reduceBEq, Nat.reduceAdd, Nat.reduceLeDiff, Int.reduceToNat, Int.reducePow, ww, hgi, c1z, c1y, Vt.c, Vt.enc, sb, c1B, hcal, w9, a0h, c1C, c2b] | (refine uB hs ?_ ?_; exact rfl))
  refine S.next (i + 1) (by omega) (by omega) (by rw [hfm]; exact (by (repeat first | refine uA ?_ | (refine ⟨?_, ?_⟩; focus first | rfl | trivial | (simp [slot]; done)) | rfl | trivial | simp)))
 ·have hi' : i = l.length := by omega
  subst hi'
  rw [c1U]
  (repeat first | refine uA ?_ | (refine uK ?_ ?_; focus first | omega | trivial | (intros; simp_all <;> omega)) | simp (disch := omega) only [go_sem, Nat.reduceBEq, Nat.reduceAdd, Nat.reduceLeDiff, Int.reduceToNat, Int.reducePow, ww])
  exact S.done (d9.out rfl (Imp.refl rfl) rfl)
theorem b1j (g : Nat) (hcal : callable Tryz.prog g = true) (f : Bool -> List UInt8) (l : List Bool) (hl : (J4 f l).length <= 140737488355328) (hn : l.length <= 1099511627776) (hg : ∀ x ∈ l, u6 Tryz.prog g [.v (.bool x)] (sb (f x))) :
  u6 Tryz.prog 208 [bls l, .v (.func (.func g) #[] #[])] (sb (J4 f l)) := by
 refine kS Tryz.func208 (by cbv) (by rfl) fun w O => ?_
 unfold J4 at hl ⊢
 rw [c1C] at hl
 have h1 := a2J l.length
 rw [a2s (by omega)] at h1
 simp only [j6, bls]
 simp only [sb, ints] at h1 hg ⊢
 generalize X4 l.length = d at *
 (repeat first | refine uA ?_ | (refine uK ?_ ?_; focus first | omega | trivial | (intros; simp_all <;> omega)) | simp (disch := omega) only [go_sem, Nat.reduceBEq, Nat.reduceAdd, Nat.reduceLeDiff, Int.reduceToNat, Int.reducePow, ww, c1y] | (refine uB h1 ?_ ?_; exact rfl))
 refine S.loop (X := Nat) (fun i => ⟨[(1, .v (.func (.func g) #[] #[])), (5, sb (d ++ (l.take i).flatMap f)), (11, bls l), (12, ints l.length), (13, ints i)], []⟩)
  (fun i => i <= l.length) (fun i => l.length - i) 0 (c1H _) (by simp only [List.take_zero, List.flatMap_nil, List.append_nil]; exact (by (repeat first | refine uA ?_ | (refine ⟨?_, ?_⟩; focus first | rfl | trivial | (simp [slot]; done)) | rfl | trivial | simp))) ?_
 intro i hi
 simp only [bls, sb, ints] at hi ⊢
 (repeat first | refine uA ?_ | (refine uK ?_ ?_; focus first | omega | trivial | (intros; simp_all <;> omega)) | simp (disch := omega) only [go_sem, Nat.reduceBEq, Nat.reduceAdd, Nat.reduceLeDiff, Int.reduceToNat, Int.reducePow, ww])
 (refine uJ rfl (fun hc => ?_) fun hc => ?_)
 ·have hi' : i < l.length := by omega
  have hgi := c1x hi'
  have hfm := a3r f hi'
  have hle := a4Q f hi'
  generalize l[i] = x at hgi hfm hle
  have hs := hg x (c1A hgi)
  (try simp only [sb] at hs)
  (repeat first | refine uA ?_ | (refine uK ?_ ?_; focus first | omega | trivial | (intros; simp_all <;> omega)) | simp (disch := omega) only [go_sem, Nat.reduceBEq, Nat.reduceAdd, Nat.reduceLeDiff, Int.reduceToNat, Int.reducePow, ww, hgi, c1z, c1y, sb, c1B, hcal, w9, a0h, c1C, c2b] | (refine uB hs ?_ ?_; exact rfl))
  refine S.next (i + 1) (by omega) (by omega) (by rw [hfm]; exact (by (repeat first | refine uA ?_ | (refine ⟨?_, ?_⟩; focus first | rfl | trivial | (simp [slot]; done)) | rfl | trivial | simp)))
 ·have hi' : i = l.length := by omega
  subst hi'
  rw [c1U]
  (repeat first | refine uA ?_ | (refine uK ?_ ?_; focus first | omega | trivial | (intros; simp_all <;> omega)) | simp (disch := omega) only [go_sem, Nat.reduceBEq, Nat.reduceAdd, Nat.reduceLeDiff, Int.reduceToNat, Int.reducePow, ww])
  exact S.done (d9.out rfl (Imp.refl rfl) rfl)
theorem b9R (x : Ast) (hl : (a5t x).length <= 140737488355328) (hq : Rbs 1073741824 x.q) (hv : Rbs 1073741824 x.v) : u6 Tryz.prog 205 [x.c] (sb (a5t x)) := by
 refine kS Tryz.func205 (by cbv) (by rfl) fun w O => ?_
 unfold a5t at hl ⊢
 simp only [c1C] at hl
 have n1 := hq.1
 have n2 := hv.1
 have h1 := a6R 104 (by kernel_rfl) V6 x.q (by omega) (by omega) (fun z hz => a2N z (a2K V6 hz (by omega)))
 have h2 := a6R 104 (by kernel_rfl) V6 x.v (by omega) (by omega) (fun z hz => a2N z (a2K V6 hz (by omega)))
 have h3 := a5f x.power
 have h4 := a2J (IntKind.i64.wrap (x.holds + 1))
 obtain ⟨q, v, power, holds⟩ := x
 generalize J4 V6 q = r1 at *
 generalize J4 V6 v = r2 at *
 generalize a2B power = r3 at *
 simp only [j6]
 simp only [Ast.c, Ast.enc, rts, sb, ints] at h1 h2 h3 h4 hl n1 n2 ⊢
 (repeat first | refine uA ?_ | (refine uK ?_ ?_; focus first | omega | trivial | (intros; simp_all <;> omega)) | simp (disch := omega) only [go_sem, Nat.reduceBEq, Nat.reduceAdd, Nat.reduceLeDiff, Int.reduceToNat, Int.reducePow, ww, w9, a0h, c1C, c2b] | (refine uB h1 ?_ ?_; exact rfl) | (refine uB h2 ?_ ?_; exact rfl) | (refine uB h3 ?_ ?_; exact rfl) | (refine uB h4 ?_ ?_; exact rfl))
 exact S.done (d9.out rfl (Imp.refl rfl) rfl)
structure Stw (s : Stt) : Prop where
 arms : s.arms.length <= 1073741824 /\ ∀ x ∈ s.arms, Asb 1073741824 x
 parts : s.parts.length <= 1073741824
 people : s.people.length <= 1073741824
 gates : s.gates.length <= 1073741824
theorem Stb.w {s : Stt} (h : Stb 1073741824 s) : Stw s := ⟨h.arms, h.parts.1, h.people.1, h.gates⟩
theorem b0O (s : Stt) (hs : Stw s) (hl : (a3e s).length <= 140737488355328) : u6 Tryz.prog 119 [s.c] (sb (a3e s)) := by
 refine kS Tryz.func119 (by cbv) (by rfl) fun w O => ?_
 unfold a3e at hl ⊢
 simp only [c1C] at hl
 have n1 := hs.arms.1
 have n2 := hs.parts
 have n3 := hs.people
 have n4 := hs.gates
 have h1 := a2J s.tick
 have h2 := b1Q 205 (by kernel_rfl) a5t s.arms (by omega) (by omega) (fun z hz => b9R z (a2K a5t hz (by omega)) (hs.arms.2 z hz).1 (hs.arms.2 z hz).2)
 have h3 := b4j 109 (by kernel_rfl) frB s.parts (by omega) (by omega) (fun z hz => b5j z (a2K frB hz (by omega)))
 have h4 := b1X 118 (by kernel_rfl) a4l s.people (by omega) (by omega) (fun z hz => b0a z (a2K a4l hz (by omega)))
 have h5 := b1j 203 (by kernel_rfl) a2B s.gates (by omega) (by omega) (fun z _ => a5f z)
 obtain ⟨tick, arms, parts, people, gates⟩ := s
 generalize J4 a5t arms = r2 at *
 generalize J4 frB parts = r3 at *
 generalize J4 a4l people = r4 at *
 generalize J4 a2B gates = r5 at *
 simp only [j6]
 simp only [Stt.c, Stt.enc, D8, frs, vts, bls, sb, ints] at h1 h2 h3 h4 h5 hl ⊢
 (repeat first | refine uA ?_ | (refine uK ?_ ?_; focus first | omega | trivial | (intros; simp_all <;> omega)) | simp (disch := omega) only [go_sem, Nat.reduceBEq, Nat.reduceAdd, Nat.reduceLeDiff, Int.reduceToNat, Int.reducePow, ww, w9, a0h, c1C, c2b] | (refine uB h1 ?_ ?_; exact rfl) | (refine uB h2 ?_ ?_; exact rfl) | (refine uB h3 ?_ ?_; exact rfl) | (refine uB h4 ?_ ?_; exact rfl) | (refine uB h5 ?_ ?_; exact rfl))
 exact S.done (d9.out rfl (Imp.refl rfl) rfl)
theorem a6N (s t : Stt) (hs : Stw s) (ht : Stw t) (hl : (a3e s).length <= 140737488355328) (hm : (a3e t).length <= 140737488355328) : u6 Tryz.prog 41 [s.c, t.c] (.v (.bool (decide (a3e s = a3e t)))) := by
 refine kS Tryz.func41 (by cbv) (by rfl) fun w O => ?_
 have h1 := b0O s hs hl
 have h2 := b0O t ht hm
 generalize a3e s = r1 at *
 generalize a3e t = r2 at *
 simp only [j6]
 simp only [Stt.c, Stt.enc, sb] at *
 (repeat first | refine uA ?_ | (refine uK ?_ ?_; focus first | omega | trivial | (intros; simp_all <;> omega)) | simp (disch := omega) only [go_sem, Nat.reduceBEq, Nat.reduceAdd, Nat.reduceLeDiff, Int.reduceToNat, Int.reducePow, ww, a5b] | (refine uB h1 ?_ ?_; exact rfl) | (refine uB h2 ?_ ?_; exact rfl))
 exact S.done (d9.out rfl (Imp.refl rfl) rfl)
open Go Go.RowKit Go.ChangeShapes Go.WideShapes Eng
theorem b6n {H : Type} {l : List (DataW H)} (hk : Rows.uptoSmall H l = true) : Rows.uptoBulkAll l <= 1048576 := of_decide_eq_true hk
theorem b6t {H : Type} (l r : List (DataW H)) : Rows.uptoBulkAll (l ++ r) = Rows.uptoBulkAll l + Rows.uptoBulkAll r := by
 induction l with
 | nil => simp [Rows.uptoBulkAll]
 | cons x l ih => simp only [List.cons_append, Rows.uptoBulkAll, ih]; omega
def noB : Nat -> Prop := fun _ => False
section
variable {H : Type} {enc : TypeId × Value -> H} {P : Program} {W : World}
def Opens (enc : TypeId × Value -> H) (P : Program) (W : World) (t : TypeId) {α : Type} (tc : α -> List C) (ok : α -> Prop) (ms : α -> Nat) : Prop :=
 ∀ (fuel : Nat) (cs : List Value) (x : DataW H × List MemPlace), DataW.trod enc P W 0 (fun _ => true) true fuel t cs = some x -> ∃ a : α, FzL W noB (tc a) cs /\ (∀ u ∈ cs, u.oneCell' = true) /\ ok a /\ ms a <= Rows.uptoBulk x.1
def I64 (n : Int) : Prop := -9223372036854775808 <= n /\ n <= 9223372036854775807
theorem b3w {t : TypeId} (ht : P.underlying t = some .bool) : Opens enc P W t (fun b : Bool => [.v (.bool b)]) (fun _ => True) fun _ => 1 := by
 intro fuel cs x h
 obtain ⟨b, rfl, rfl⟩ := DataW.trod_bool ht h
 exact ⟨b, by simp [FzL, Fz], by simp [Value.oneCell'], trivial, by simp [Rows.uptoBulk]⟩
theorem b4C {t : TypeId} (ht : P.underlying t = some (.int .i64)) : Opens enc P W t (fun n : Int => [.v (.int .i64 n)]) I64 fun _ => 1 := by
 intro fuel cs x h
 obtain ⟨n, rfl, rfl, hw⟩ := DataW.trod_int ht h
 refine ⟨n, by simp [FzL, Fz], by simp [Value.oneCell'], ?_, by simp [Rows.uptoBulk]⟩
 simpa [Lit.wf, IntKind.min, IntKind.max, IntKind.signed, IntKind.bits, I64] using hw
theorem b5l {t : TypeId} (ht : P.underlying t = some .string) : Opens enc P W t (fun s : ByteArray => [.v (.string s)]) (fun s => s.size <= 9223372036854775807) fun s => s.size + 1 := by
 intro fuel cs x h
 obtain ⟨s, rfl, rfl, hw⟩ := DataW.trod_string ht h
 refine ⟨s, by simp [FzL, Fz], by simp [Value.oneCell'], hw, ?_⟩
 have : s.data.toList.length = s.size := by cases s; simp [ByteArray.size]
 simp only [Rows.uptoBulk, this]
 omega
theorem Opens.imp {t : TypeId} {α β : Type} {tc : α -> List C} {ok : α -> Prop} {ms : α -> Nat} {tc' : β -> List C} {ok' : β -> Prop} {ms' : β -> Nat} (h : Opens enc P W t tc ok ms)
  (f : ∀ a, ok a -> ∃ b, tc a = tc' b /\ ok' b /\ ms' b <= ms a) : Opens enc P W t tc' ok' ms' := by
 intro fuel cs x hx
 obtain ⟨a, h0, h01, h1, h2⟩ := h fuel cs x hx
 obtain ⟨b, h3, h4, h5⟩ := f a h1
 exact ⟨b, by rw [<- h3]; exact h0, h01, h4, c1G h5 h2⟩
theorem b5k {w : World} {O : Nat -> Prop} {q : List C} {vs : List Value} {ad : Addr} {j : Nat} (hF : FzL w O q vs) (h1 : ∀ u ∈ vs, u.oneCell' = true) (hc : ∀ i v, vs[i]? = some v -> w.cell? (ad.add (j + i)) = some v) : FzA w O q ad j := FzA.of hF h1 hc
theorem M9 {t e : TypeId} {α : Type} {tc : α -> List C} {ok : α -> Prop} {ms : α -> Nat} {sz : Nat} (ht : P.underlying t = some (.slice e)) (hc : P.cellsOf e = sz) (hsz : 0 < sz) (hlen : ∀ a, (tc a).length = sz)
  (he : Opens enc P W e tc ok ms) : Opens enc P W t (fun xs : List α => [.sl sz (xs.map tc)]) (fun xs => ∀ a ∈ xs, ok a) fun xs => 1 + (xs.map ms).sum := by
 intro fuel cs x h
 rcases Deep.open_slice ht h with ⟨rfl, rfl⟩ | ⟨a, len, cap, m, n, D, Pl, rfl, _, hl, hm, hmm, rfl, hx⟩
 ·refine ⟨[], ?_, by simp [Value.oneCell'], (fun a ha => by cases ha), by simp [Rows.uptoBulk]⟩
  simp only [FzL, Fz]
  exact ⟨_, _, rfl, ⟨none, 0, rfl, c1I _, c1H _, fun h => by simp at h⟩, rfl⟩
 ·have hlm : len <= m := by rw [hmm]; split <;> omega
  have key : ∀ i, i < len -> ∃ (y : α) (vs : List Value), W.cells? 0 (a.add (i * sz)) sz = some vs /\ FzL W noB (tc y) vs /\ (∀ u ∈ vs, u.oneCell' = true) /\ ok y /\ ms y <= Rows.uptoBulk (D i) := by
   intro i hi
   obtain ⟨cs', h1, h2⟩ := hx i (by omega)
   obtain ⟨y, h31, h32, h3, h4⟩ := he _ _ _ h2
   rw [hc] at h1
   exact ⟨y, cs', h1, h31, h32, h3, h4⟩
  have build : ∀ k, k <= len -> ∃ xs : List α, xs.length = k /\ (∀ i y, xs[i]? = some y -> ∃ vs, W.cells? 0 (a.add (i * sz)) sz = some vs /\ FzL W noB (tc y) vs /\ (∀ u ∈ vs, u.oneCell' = true) /\ ok y) /\ (xs.map ms).sum <= Rows.uptoBulkAll ((List.range k).map D) := by
   intro k
   induction k with
   | zero => intro _; exact ⟨[], rfl, (fun i y h => by simp at h), by simp⟩
   | succ k ih =>
    intro hk
    obtain ⟨xs, h1, h2, h3⟩ := ih (by omega)
    obtain ⟨y, vs, h4, h41, h42, h5, h6⟩ := key k (by omega)
    refine ⟨xs ++ [y], by simp [h1], fun i z hz => ?_, ?_⟩
    ·rcases c1V i xs.length with hlt | hge
     ·rw [c1K hlt] at hz
      exact h2 i z hz
     ·rw [c1P hge] at hz
      have : i - xs.length = 0 := by
       rcases c1Y (i - xs.length) with h0 | h0
       ·exact h0
       ·obtain ⟨d, hd⟩ : ∃ d, i - xs.length = d + 1 := ⟨i - xs.length - 1, by omega⟩
        rw [hd] at hz; simp at hz
      rw [this] at hz
      simp at hz
      subst hz
      have : i = k := by omega
      subst this
      exact ⟨vs, h4, h41, h42, h5⟩
    ·rw [c2p, List.sum_append, List.range_succ, c2p, b6t]
     simp only [c1R, c2d, List.sum_cons, List.sum_nil, Rows.uptoBulkAll]
     omega
  obtain ⟨xs, h1, h2, h3⟩ := build len (c1I _)
  have hcell : ∀ (i : Nat) (y : α), xs[i]? = some y -> (tc y).length = sz /\ FzA W noB (tc y) a (i * sz) := by
   intro i y hy
   obtain ⟨vs, h4, h41, h42, _⟩ := h2 i y hy
   obtain ⟨_, h5, h6⟩ := World.cells?_some h4
   refine ⟨hlen _, b5k h41 h42 fun j v hv => ?_⟩
   have hj : j < sz := by
    have := (c1F.1 hv).1
    rwa [h5] at this
   have h7 := h6 j hj
   rw [hv, Deep.add_add] at h7
   exact h7
  refine ⟨xs, ?_, by simp [Value.oneCell'], fun y hy => ?_, ?_⟩
  ·simp only [FzL]
   refine ⟨_, _, rfl, ?_, rfl⟩
   simp only [Fz]
   refine ⟨some a, cap, by simp [h1], by simp; omega, hm, fun h0 => ⟨a, rfl, ?_, (fun h => h), FzE.of fun k q hq => ?_⟩⟩
   ·have hi : 0 < xs.length := by simpa using h0
    obtain ⟨hq1, hq2⟩ := hcell 0 xs[0] (c1x hi)
    have h9 : 0 < (tc xs[0]).length := by omega
    match htc : tc xs[0], h9, hq2 with
    | c :: cs, _, hq2 =>
     simp only [FzA] at hq2
     obtain ⟨⟨v, hv, _⟩, _⟩ := hq2
     have h10 := block_lt_of_cell hv
     rwa [add_block] at h10
   ·rw [c2n] at hq
    obtain ⟨y, hy, rfl⟩ := Option.map_eq_some_iff.1 hq
    rw [c2e]; exact hcell k y hy
  ·obtain ⟨i, hi⟩ := List.mem_iff_getElem?.1 hy
   exact (h2 i y hi).choose_spec.2.2.2
  ·simp only [Rows.uptoBulk]
   omega
def P9 (P : Program) : List Field -> Nat -> Option Nat
 | [], n => some n
 | f :: fs, n => if f.offset = n then P9 P fs (n + P.cellsOf f.type) else none
def Parts (enc : TypeId × Value -> H) (P : Program) (W : World) (n : Nat) : List TypeId -> List (List Value) -> List (DataW H × List MemPlace) -> Prop
 | [], cs, ys => cs = [] /\ ys = []
 | f :: fs, cs, ys => ∃ c cr y yr, cs = c :: cr /\ ys = y :: yr /\ DataW.trod enc P W 0 (fun _ => true) true n f c = some y /\ Parts enc P W n fs cr yr
theorem b1O {t : TypeId} {fs : Array Field} {fuel : Nat} {cs : List Value} {x : DataW H × List MemPlace} (hu : P.underlying t = some (.struct fs)) (hc : P9 P fs.toList 0 = some (P.cellsOf t)) (h : DataW.trod enc P W 0 (fun _ => true) true fuel t cs = some x) :
    ∃ (n : Nat) (ps : List (List Value)) (ys : List (DataW H × List MemPlace)), cs = ps.flatten /\ x = (.agg (ys.map (·.1)), ys.flatMap (·.2)) /\ Parts enc P W n (fs.toList.map (·.type)) ps ys := by
  obtain ⟨xs, n, rfl, rfl, hlen, hxl, hf⟩ := DataW.trod_struct hu h
  have gen : ∀ (l : List Field) (off tot : Nat) (zs : List (DataW H × List MemPlace)), P9 P l off = some tot -> zs.length = l.length -> (∀ (i : Nat) (f : Field), l[i]? = some f -> DataW.trod enc P W 0 (fun _ => true) true n f.type ((cs.drop f.offset).take (P.cellsOf f.type)) = zs[i]?) ->
      off <= tot /\ ∃ ps, (cs.drop off).take (tot - off) = ps.flatten /\ Parts enc P W n (l.map (·.type)) ps zs := by
    intro l
    induction l with
    | nil =>
      intro off tot zs hc hl _
      simp only [P9, Option.some.injEq] at hc
      subst hc
      have : zs = [] := List.length_eq_zero_iff.1 hl
      subst this
      exact ⟨c1I _, [], by simp, rfl, rfl⟩
    | cons f l ih =>
      intro off tot zs hc hl hf
      simp only [P9] at hc
      split at hc
      · rename_i ho
        cases zs with
        | nil => simp at hl
        | cons z zs =>
          obtain ⟨h1, ps, h2, h3⟩ := ih _ tot zs hc (by simpa using hl) fun i g hg => by have := hf (i + 1) g (by simpa using hg); simpa using this
          have h0 := hf 0 f rfl
          rw [ho] at h0
          refine ⟨by omega, ((cs.drop off).take (P.cellsOf f.type)) :: ps, ?_, _, _, _, _, rfl, rfl, h0, h3⟩
          rw [List.flatten_cons, <- h2, <- List.drop_drop]
          have e : tot - off = P.cellsOf f.type + (tot - (off + P.cellsOf f.type)) := by omega
          rw [e, List.take_add]
      · cases hc
  obtain ⟨_, ps, h2, h3⟩ := gen fs.toList 0 _ xs hc (by simpa using hxl) fun i f hi => hf i f (by simpa using hi)
  refine ⟨n, ps, xs, ?_, rfl, h3⟩
  rw [<- h2, Nat.sub_zero, List.drop_zero, <- hlen, c1U]
theorem FzL.app {w : World} {O : Nat -> Prop} : ∀ {cs ds : List C} {vs us : List Value}, FzL w O cs vs -> FzL w O ds us -> FzL w O (cs ++ ds) (vs ++ us)
 | [], ds, vs, us, h, k => by simp only [FzL] at h; subst h; simpa using k
 | c :: cs, ds, vs, us, h, k => by
  simp only [FzL] at h
  obtain ⟨y, ys, rfl, h1, h2⟩ := h
  exact ⟨y, ys ++ us, rfl, h1, FzL.app h2 k⟩
def a7W (enc : TypeId × Value -> H) (P : Program) (W : World) (ts : List TypeId) {α : Type} (tc : α -> List C) (ok : α -> Prop) (ms : α -> Nat) : Prop :=
 ∀ (n : Nat) (ps : List (List Value)) (ys : List (DataW H × List MemPlace)), Parts enc P W n ts ps ys -> ∃ a : α, FzL W noB (tc a) ps.flatten /\ (∀ u ∈ ps.flatten, u.oneCell' = true) /\ ok a /\ ms a <= Rows.uptoBulkAll (ys.map (·.1))
theorem M7 : a7W enc P W [] (fun _ : Unit => []) (fun _ => True) fun _ => 0 := by
 rintro n ps ys ⟨rfl, rfl⟩
 exact ⟨(), by simp [FzL], by simp, trivial, c1H _⟩
theorem p9 {t : TypeId} {ts : List TypeId} {α β : Type} {tc : α -> List C} {ok : α -> Prop} {ms : α -> Nat} {tc' : β -> List C} {ok' : β -> Prop} {ms' : β -> Nat} (h : Opens enc P W t tc ok ms) (h' : a7W enc P W ts tc' ok' ms') :
  a7W enc P W (t :: ts) (fun p : α × β => tc p.1 ++ tc' p.2) (fun p => ok p.1 /\ ok' p.2) fun p => ms p.1 + ms' p.2 := by
 rintro n ps ys ⟨c, cr, y, yr, rfl, rfl, h1, h2⟩
 obtain ⟨a, a1, a2, a3, a4⟩ := h _ _ _ h1
 obtain ⟨b, b1, b2, b3, b4⟩ := h' _ _ _ h2
 refine ⟨(a, b), by rw [List.flatten_cons]; exact FzL.app a1 b1, fun u hu => ?_, ⟨a3, b3⟩, ?_⟩
 ·rw [List.flatten_cons] at hu
  rcases List.mem_append.1 hu with hu | hu
  ·exact a2 u hu
  ·exact b2 u hu
 ·simp only [c1R, Rows.uptoBulkAll]
  omega
theorem I9 {t : TypeId} {fs : Array Field} {ts : List TypeId} {α : Type} {tc : α -> List C} {ok : α -> Prop} {ms : α -> Nat} (hu : P.underlying t = some (.struct fs)) (hts : fs.toList.map (·.type) = ts) (hc : P9 P fs.toList 0 = some (P.cellsOf t)) (h : a7W enc P W ts tc ok ms) :
  Opens enc P W t tc ok fun a => ms a + 1 := by
 intro fuel cs x hx
 obtain ⟨n, ps, ys, rfl, rfl, hp⟩ := b1O hu hc hx
 rw [hts] at hp
 obtain ⟨a, a1, a2, a3, a4⟩ := h _ _ _ hp
 exact ⟨a, a1, a2, a3, by simp only [Rows.uptoBulk]; omega⟩
theorem b7w {f : Func} {s : ChangeSpec} {apart fresh handsOn again : Bool} {W' : World} {args : Array Value} {ds gs : List (DataW H)} {before : List MemPlace} {tb : TypeId} (hl : laidOutB P = true) (hpar : ∀ t ∈ f.params.toList, P.readableRec t = true /\ t < P.types.size)
  (hrt : f.resultTypes = #[tb]) (htb : P.underlying tb = some .bool) (hv : s.vars = []) (hfn : s.fn H (ds ++ gs) = { results := [.lit (.bool true)], args := ds }) (hW : DataW.Whole enc P f.params.toList s.vars apart W args.toList ds gs before) (hb : Below W.heap.size W W') :
  s.post enc P f apart fresh handsOn again W args (.bool true) W' := by
 have hlt : ∀ p ∈ before, p.block < W.heap.size := fun p hp => hW.lt p hp
 obtain ⟨p, q, hA, hV, hps, hz, hn⟩ := id hW
 rw [hv] at hV
 obtain ⟨rfl, rfl⟩ := trodVars_none hV
 rw [List.append_nil] at hps
 subst hps
 have all : ∀ (sp : Nat -> Bool) (ts : List TypeId) (vs : List Value) (es : List (DataW H)) (pl : List MemPlace), (∀ t ∈ ts, P.readableRec t = true /\ t < P.types.size) -> (∀ x ∈ pl, x.block < W.heap.size /\ sp x.block = true) -> DataW.TrodAll enc P W 0 (fun _ => true) true ts vs es pl -> DataW.TrodAll enc P W' 0 sp true ts vs es pl := by
  intro sp ts
  induction ts with
  | nil =>
   intro vs es pl _ _ h
   cases vs <;> cases es <;> simp only [DataW.TrodAll] at h ⊢ <;> exact h
  | cons t ts ih =>
   intro vs es pl hts hpl h
   cases vs <;> cases es <;> simp only [DataW.TrodAll] at h ⊢
   obtain ⟨p1, p2, h1, h2, rfl⟩ := h
   refine ⟨p1, p2, ?_, ih _ _ _ (fun t ht => hts t (List.mem_cons_of_mem _ ht)) (fun x hx => hpl x (List.mem_append_right _ hx)) h2, rfl⟩
   exact WideElems.Trod_stays hl (hts t (List.mem_cons_self ..)).1 (hts t (List.mem_cons_self ..)).2 h1 (fun x hx => hb.same (hpl x (List.mem_append_left _ hx)).1) fun x hx => (hpl x (List.mem_append_left _ hx)).2
 have hres : ∀ (b : Nat) (sp : Nat -> Bool) (hd : Bool), DataW.TrodAll enc P W' b sp hd f.resultTypes.toList ((Value.bool true).resultList f.resultTypes.size) (s.fn H (ds ++ [])).results [] := by
  intro b sp hd
  rw [hrt, hfn]
  exact trodAll_cons_mk (shut_bool htb true) trodAll_mk0
 have hargs : ∀ sp : Nat -> Bool, (∀ p' ∈ before, sp p'.block = true) -> DataW.TrodAll enc P W' 0 sp true f.params.toList args.toList (s.fn H (ds ++ [])).args before := fun sp hsp => by
  rw [hfn]
  exact all sp _ _ _ _ hpar (fun x hx => ⟨hlt x hx, hsp x hx⟩) hA
 have hvars : ∀ sp : Nat -> Bool, DataW.TrodVars enc P W' sp s.vars (s.fn H (ds ++ [])).vars [] := fun sp => by rw [hv, hfn]; rfl
 have hold : ∀ p' ∈ before, (fun b => decide (b < W.heap.size)) p'.block = true := fun p' hp => by simpa using hlt p' hp
 refine ⟨ds, [], before, [], before, [], hW, hres _ _ _, hargs _ hold, hvars _, World.keptBut_mono (fun p' hp => ⟨hp, ?_⟩) (hb.frame (· ∈ before)), fun _ => ⟨ok_one hrt rfl (okWide_bool_mk htb _), _, _, ([] ++ before) ++ [], ⟨[] ++ before, [], trodAll_append (hargs _ (fun _ _ => rfl)) (hres _ _ _), hvars _, rfl, ?_, ?_⟩, ?_⟩⟩
 ·exact Or.inr (by simpa using hp)
 ·intro b off hp
  have hin : MemPlace.cell b off ∈ before := by simpa using hp
  rw [hb.frozen (hlt _ hin)]
  exact hz b off hin
 ·intro ha
  have := hn ha
  simpa using this
 ·intro p' hp _
  simpa using hp
end
open Go Go.RowKit Go.ChangeShapes Go.WideShapes Go.ChangeAt Eng
theorem b6f : ownKnob Tryz.prog.godebug = none := by kernel_rfl
theorem b6k : laidOutB Tryz.prog = true := by kernel_rfl
theorem gDb : Tryz.prog.globalNamed "math/bits.deBruijn64tab" = some 3 := by kernel_rfl
theorem b8Y : (Tryz.prog.globals[3]?).map (·.type) = some 305 := by kernel_rfl
theorem b7a : Tryz.prog.cellsOf 305 = 64 := by kernel_rfl
theorem b9l : Tryz.prog.cellsOf 5 = 1 := by kernel_rfl
theorem b7i : Tryz.prog.underlying 305 = some (.array 64 5) := by kernel_rfl
theorem b9S : Tryz.prog.underlying 5 = some (.int .u8) := by kernel_rfl
theorem b8I : (Rows.laid_math_bits_deBruijn64tab : DataW Unit) = Lib.tabData .u8 (Lib.deBruijn64tab.map fun n : Nat => (n : Int)) := by rfl
theorem c0K {W : World} {rest : List (String × DataW Unit)} (h : laidMet Tryz.prog (("math/bits.deBruijn64tab", Rows.laid_math_bits_deBruijn64tab) :: rest) W) : Wz W := by
 rw [b8I] at h
 have ht := Lib.tabIs_of_head gDb b8Y b7i b9S b9l b7a h
 intro j hj
 have := ht.cell gDb j (by rw [c1y]; exact hj)
 rw [this]
 congr 2
 rw [c1O, c1O, c2n, c1x hj]
 rfl
section
variable {H : Type} {enc : TypeId × Value -> H} {W : World}
end
noncomputable def laidWorld (os : Os) : World := World.doorLaid Tryz.prog 400 os
theorem b2T {α : Type} {f : α -> Nat} : ∀ {l : List α} {x : α}, x ∈ l -> f x <= (l.map f).sum
 | y :: l, x, h => by
  rw [c1R, List.sum_cons]
  rcases List.mem_cons.1 h with rfl | h
  ·omega
  ·have := b2T (f := f) h; omega
theorem a8M {α : Type} {f : α -> Nat} (hf : ∀ x, 1 <= f x) : ∀ (l : List α), l.length <= (l.map f).sum
 | [] => c1I _
 | y :: l => by
  have h1 := hf y
  have h2 := a8M hf l
  rw [c1R, List.sum_cons, c1T]; omega
def rtM (a : Nm.Rt) : Nat := 3 + a.num.length + a.den.length
def vtM (v : Vt) : Nat := rtM v.x + rtM v.y
def frM (f : Fr) : Nat := rtM f.x + rtM f.y + rtM f.t
def lsM {α : Type} (f : α -> Nat) (l : List α) : Nat := 1 + (l.map f).sum
def lkM (l : Lk) : Nat := rtM l.length + rtM l.low + rtM l.high + rtM l.speed + rtM l.brake + lsM vtM l.shape
def amM (a : Am) : Nat := a.name.length + frM a.base + lsM lkM a.links
def ptM (p : Pt) : Nat := p.name.length + lsM vtM p.shape + frM p.grasp
def slM (s : Sl) : Nat := s.name.length + frM s.frame + rtM s.within
def gtM (g : Gt) : Nat := g.name.length + vtM g.low + vtM g.high
def wkM (w : Wk) : Nat := lsM amM w.arms + lsM (lsM vtM) w.walls + lsM ptM w.parts + lsM slM w.slots + lsM gtM w.gates + rtM w.walk
def asM (x : Ast) : Nat := lsM rtM x.q + lsM rtM x.v + 1
def stM (s : Stt) : Nat := lsM asM s.arms + lsM frM s.parts + lsM vtM s.people + lsM (fun _ => 1) s.gates + 1
theorem a2d {a : Nm.Rt} {k : Nat} (h : rtM a <= k) : Rb k a := by unfold rtM at h; exact ⟨by omega, by omega⟩
theorem b6M {a : Vt} {k : Nat} (h : vtM a <= k) : Vb k a := by unfold vtM at h; exact ⟨a2d (by omega), a2d (by omega)⟩
theorem b4h {a : Fr} {k : Nat} (h : frM a <= k) : Fb k a := by unfold frM at h; exact ⟨a2d (by omega), a2d (by omega), a2d (by omega)⟩
theorem a3a {α : Type} {f : α -> Nat} {l : List α} {k : Nat} (hf : ∀ x, 1 <= f x) (h : lsM f l <= k) : l.length <= k /\ ∀ x ∈ l, f x <= k := by
 unfold lsM at h
 have := a8M hf l
 exact ⟨by omega, fun x hx => by have := b2T (f := f) hx; omega⟩
theorem a1I (a : Nm.Rt) : 1 <= rtM a := by unfold rtM; omega
theorem a8O (a : Vt) : 1 <= vtM a := by have := a1I a.x; unfold vtM; omega
theorem a4K (a : Fr) : 1 <= frM a := by have := a1I a.x; unfold frM; omega
theorem b8c {α : Type} (f : α -> Nat) (l : List α) : 1 <= lsM f l := by unfold lsM; omega
theorem b8m (a : Lk) : 1 <= lkM a := by have := a1I a.length; unfold lkM; omega
theorem b8o (a : Am) : 1 <= amM a := by have := a4K a.base; unfold amM; omega
theorem b8A (a : Pt) : 1 <= ptM a := by have := a4K a.grasp; unfold ptM; omega
theorem b9k (a : Sl) : 1 <= slM a := by have := a4K a.frame; unfold slM; omega
theorem b8l (a : Gt) : 1 <= gtM a := by have := a8O a.low; unfold gtM; omega
theorem b2U (a : Ast) : 1 <= asM a := by unfold asM; omega
theorem a9S {l : List Vt} {k : Nat} (h : lsM vtM l <= k) : Vbs k l := by
 obtain ⟨h1, h2⟩ := a3a a8O h
 exact ⟨h1, fun x hx => b6M (h2 x hx)⟩
theorem c1j {w : Wk} {k : Nat} (h : wkM w <= k) : Wb k w := by
 unfold wkM at h
 obtain ⟨a1, a2⟩ := a3a b8o (show lsM amM w.arms <= k by omega)
 obtain ⟨b1, b2⟩ := a3a (b8c vtM) (show lsM (lsM vtM) w.walls <= k by omega)
 obtain ⟨c1, c2⟩ := a3a b8A (show lsM ptM w.parts <= k by omega)
 obtain ⟨d1, d2⟩ := a3a b9k (show lsM slM w.slots <= k by omega)
 obtain ⟨e1, e2⟩ := a3a b8l (show lsM gtM w.gates <= k by omega)
 refine ⟨⟨a1, fun x hx => ?_⟩, ⟨b1, fun x hx => a9S (b2 x hx)⟩, ⟨c1, fun x hx => ?_⟩, ⟨d1, fun x hx => ?_⟩, ⟨e1, fun x hx => ?_⟩, a2d (by omega)⟩
 ·have := a2 x hx
  unfold amM at this
  obtain ⟨f1, f2⟩ := a3a b8m (show lsM lkM x.links <= k by omega)
  refine ⟨by omega, b4h (by omega), f1, fun l hl => ?_⟩
  have := f2 l hl
  unfold lkM at this
  exact ⟨a2d (by omega), a2d (by omega), a2d (by omega), a2d (by omega), a2d (by omega), a9S (by omega)⟩
 ·have := c2 x hx
  unfold ptM at this
  exact ⟨by omega, a9S (by omega), b4h (by omega)⟩
 ·have := d2 x hx
  unfold slM at this
  exact ⟨by omega, b4h (by omega), a2d (by omega)⟩
 ·have := e2 x hx
  unfold gtM at this
  exact ⟨by omega, b6M (by omega), b6M (by omega)⟩
theorem c1m {s : Stt} {k : Nat} (h : stM s <= k) : Stb k s := by
 unfold stM at h
 obtain ⟨a1, a2⟩ := a3a b2U (show lsM asM s.arms <= k by omega)
 obtain ⟨b1, b2⟩ := a3a a4K (show lsM frM s.parts <= k by omega)
 obtain ⟨c1, _⟩ := a3a (fun _ => c1I _) (show lsM (fun _ => 1) s.gates <= k by omega)
 refine ⟨⟨a1, fun x hx => ?_⟩, ⟨b1, fun x hx => b4h (b2 x hx)⟩, a9S (by omega), c1⟩
 have := a2 x hx
 unfold asM at this
 obtain ⟨d1, d2⟩ := a3a a1I (show lsM rtM x.q <= k by omega)
 obtain ⟨e1, e2⟩ := a3a a1I (show lsM rtM x.v <= k by omega)
 exact ⟨⟨d1, fun r hr => a2d (d2 r hr)⟩, e1, fun r hr => a2d (e2 r hr)⟩
section
variable {H : Type} {enc : TypeId × Value -> H} {W : World}
theorem o_b : Opens enc Tryz.prog W 4 (fun b : Bool => [.v (.bool b)]) (fun _ => True) fun _ => 1 := b3w Tryz.underlying4
theorem o_i : Opens enc Tryz.prog W 3 (fun n : Int => [.v (.int .i64 n)]) I64 fun _ => 1 := b4C Tryz.underlying3
theorem o_s : Opens enc Tryz.prog W 9 (fun l : List UInt8 => [sb l]) (fun _ => True) fun l => l.length + 1 :=
 (b5l Tryz.underlying9).imp fun s _ => ⟨s.data.toList, by simp only [sb, b8J], trivial, by have h : s.data.toList.length = s.size := (by cases s; simp [ByteArray.size]); omega⟩
theorem b4M : ∃ fs, Tryz.prog.underlying 29 = some (.struct fs) /\ fs.toList.map (·.type) = [4, 9, 9] /\ P9 Tryz.prog fs.toList 0 = some (Tryz.prog.cellsOf 29) := ⟨_, Tryz.underlying29, rfl, by kernel_rfl⟩
theorem b6O : Tryz.prog.cellsOf 29 = 3 := by kernel_rfl
theorem a3A : Opens enc Tryz.prog W 29 rcs (fun _ => True) rtM := by
 obtain ⟨fs, h1, h2, h3⟩ := b4M
 refine (I9 h1 h2 h3 (p9 o_b (p9 o_s (p9 o_s M7)))).imp ?_
 rintro ⟨a, b, c, _⟩ hok
 exact ⟨⟨a, b, c⟩, rfl, trivial, by simp only [rtM]; omega⟩
theorem b4F : ∃ fs, Tryz.prog.underlying 51 = some (.struct fs) /\ fs.toList.map (·.type) = [29, 29] /\ P9 Tryz.prog fs.toList 0 = some (Tryz.prog.cellsOf 51) := ⟨_, Tryz.underlying51, rfl, by kernel_rfl⟩
theorem b6e : Tryz.prog.cellsOf 51 = 6 := by kernel_rfl
theorem b3M : Opens enc Tryz.prog W 51 Vt.enc (fun _ => True) vtM := by
 obtain ⟨fs, h1, h2, h3⟩ := b4F
 refine (I9 h1 h2 h3 (p9 a3A (p9 a3A M7))).imp ?_
 rintro ⟨a, b, _⟩ hok
 exact ⟨⟨a, b⟩, rfl, trivial, by simp only [vtM]; omega⟩
theorem b4R : ∃ fs, Tryz.prog.underlying 53 = some (.struct fs) /\ fs.toList.map (·.type) = [4, 29] /\ P9 Tryz.prog fs.toList 0 = some (Tryz.prog.cellsOf 53) := ⟨_, Tryz.underlying53, rfl, by kernel_rfl⟩
theorem c1r : Opens enc Tryz.prog W 53 (fun p : Bool × Nm.Rt => .v (.bool p.1) :: rcs p.2) (fun _ => True) fun p => rtM p.2 := by
 obtain ⟨fs, h1, h2, h3⟩ := b4R
 refine (I9 h1 h2 h3 (p9 o_b (p9 a3A M7))).imp ?_
 rintro ⟨a, b, _⟩ hok
 exact ⟨⟨a, b⟩, rfl, trivial, by simp only; omega⟩
theorem b4V : ∃ fs, Tryz.prog.underlying 55 = some (.struct fs) /\ fs.toList.map (·.type) = [51, 53] /\ P9 Tryz.prog fs.toList 0 = some (Tryz.prog.cellsOf 55) := ⟨_, Tryz.underlying55, rfl, by kernel_rfl⟩
theorem b7j : Tryz.prog.cellsOf 55 = 10 := by kernel_rfl
theorem b3s : Opens enc Tryz.prog W 55 Fr.enc (fun _ => True) frM := by
 obtain ⟨fs, h1, h2, h3⟩ := b4V
 refine (I9 h1 h2 h3 (p9 b3M (p9 c1r M7))).imp ?_
 rintro ⟨⟨x, y⟩, ⟨h, t⟩, _⟩ hok
 exact ⟨⟨x, y, h, t⟩, rfl, trivial, by simp only [frM, vtM]; omega⟩
theorem a9V : Opens enc Tryz.prog W 34 (fun l => [vts l]) (fun _ => True) (lsM vtM) :=
 (M9 Tryz.underlying34 b6e (by decide) (fun _ => rfl) b3M).imp fun l hl => ⟨l, rfl, trivial, c1I _⟩
theorem b4G : Tryz.prog.cellsOf 34 = 1 := by kernel_rfl
theorem b5D : ∃ fs, Tryz.prog.underlying 158 = some (.struct fs) /\ fs.toList.map (·.type) = [29, 29, 29, 29, 29, 34] /\ P9 Tryz.prog fs.toList 0 = some (Tryz.prog.cellsOf 158) := ⟨_, Tryz.underlying158, rfl, by kernel_rfl⟩
theorem b6L : Tryz.prog.cellsOf 158 = 16 := by kernel_rfl
theorem c1k : Opens enc Tryz.prog W 158 Lk.enc (fun _ => True) lkM := by
 obtain ⟨fs, h1, h2, h3⟩ := b5D
 refine (I9 h1 h2 h3 (p9 a3A (p9 a3A (p9 a3A (p9 a3A (p9 a3A (p9 a9V M7))))))).imp ?_
 rintro ⟨a, b, c, d, e, f, _⟩ hok
 exact ⟨⟨a, b, c, d, e, f⟩, rfl, trivial, by simp only [lkM]; omega⟩
theorem c0y : Opens enc Tryz.prog W 74 (fun l => [lks l]) (fun _ => True) (lsM lkM) :=
 (M9 Tryz.underlying74 b6L (by decide) (fun _ => rfl) c1k).imp fun l hl => ⟨l, rfl, trivial, c1I _⟩
theorem b5F : ∃ fs, Tryz.prog.underlying 76 = some (.struct fs) /\ fs.toList.map (·.type) = [9, 55, 74] /\ P9 Tryz.prog fs.toList 0 = some (Tryz.prog.cellsOf 76) := ⟨_, Tryz.underlying76, rfl, by kernel_rfl⟩
theorem b6X : Tryz.prog.cellsOf 76 = 12 := by kernel_rfl
theorem c1w : Opens enc Tryz.prog W 76 Am.enc (fun _ => True) amM := by
 obtain ⟨fs, h1, h2, h3⟩ := b5F
 refine (I9 h1 h2 h3 (p9 o_s (p9 b3s (p9 c0y M7)))).imp ?_
 rintro ⟨a, b, c, _⟩ hok
 exact ⟨⟨a, b, c⟩, rfl, trivial, by simp only [amM]; omega⟩
theorem c0W : Opens enc Tryz.prog W 23 (fun l => [ams l]) (fun _ => True) (lsM amM) :=
 (M9 Tryz.underlying23 b6X (by decide) (fun _ => rfl) c1w).imp fun l hl => ⟨l, rfl, trivial, c1I _⟩
theorem c0T : Opens enc Tryz.prog W 24 (fun l => [wls l]) (fun _ => True) (lsM (lsM vtM)) :=
 (M9 Tryz.underlying24 b4G (by decide) (fun _ => rfl) a9V).imp fun l hl => ⟨l, rfl, trivial, c1I _⟩
theorem b4t : ∃ fs, Tryz.prog.underlying 80 = some (.struct fs) /\ fs.toList.map (·.type) = [9, 34, 55] /\ P9 Tryz.prog fs.toList 0 = some (Tryz.prog.cellsOf 80) := ⟨_, Tryz.underlying80, rfl, by kernel_rfl⟩
theorem b6c : Tryz.prog.cellsOf 80 = 12 := by kernel_rfl
theorem c1f : Opens enc Tryz.prog W 80 Pt.enc (fun _ => True) ptM := by
 obtain ⟨fs, h1, h2, h3⟩ := b4t
 refine (I9 h1 h2 h3 (p9 o_s (p9 a9V (p9 b3s M7)))).imp ?_
 rintro ⟨a, b, c, _⟩ hok
 exact ⟨⟨a, b, c⟩, rfl, trivial, by simp only [ptM]; omega⟩
theorem c0Y : Opens enc Tryz.prog W 25 (fun l => [pts l]) (fun _ => True) (lsM ptM) :=
 (M9 Tryz.underlying25 b6c (by decide) (fun _ => rfl) c1f).imp fun l hl => ⟨l, rfl, trivial, c1I _⟩
theorem b4m : ∃ fs, Tryz.prog.underlying 57 = some (.struct fs) /\ fs.toList.map (·.type) = [9, 55, 29] /\ P9 Tryz.prog fs.toList 0 = some (Tryz.prog.cellsOf 57) := ⟨_, Tryz.underlying57, rfl, by kernel_rfl⟩
theorem b6s : Tryz.prog.cellsOf 57 = 14 := by kernel_rfl
theorem c1l : Opens enc Tryz.prog W 57 Sl.enc (fun _ => True) slM := by
 obtain ⟨fs, h1, h2, h3⟩ := b4m
 refine (I9 h1 h2 h3 (p9 o_s (p9 b3s (p9 a3A M7)))).imp ?_
 rintro ⟨a, b, c, _⟩ hok
 exact ⟨⟨a, b, c⟩, rfl, trivial, by simp only [slM]; omega⟩
theorem c0I : Opens enc Tryz.prog W 26 (fun l => [sls l]) (fun _ => True) (lsM slM) :=
 (M9 Tryz.underlying26 b6s (by decide) (fun _ => rfl) c1l).imp fun l hl => ⟨l, rfl, trivial, c1I _⟩
theorem b5Y : ∃ fs, Tryz.prog.underlying 114 = some (.struct fs) /\ fs.toList.map (·.type) = [51, 51] /\ P9 Tryz.prog fs.toList 0 = some (Tryz.prog.cellsOf 114) := ⟨_, Tryz.underlying114, rfl, by kernel_rfl⟩
theorem c1n : Opens enc Tryz.prog W 114 (fun p : Vt × Vt => p.1.enc ++ p.2.enc) (fun _ => True) fun p => vtM p.1 + vtM p.2 := by
 obtain ⟨fs, h1, h2, h3⟩ := b5Y
 refine (I9 h1 h2 h3 (p9 b3M (p9 b3M M7))).imp ?_
 rintro ⟨a, b, _⟩ hok
 exact ⟨⟨a, b⟩, rfl, trivial, by simp only; omega⟩
theorem b4S : ∃ fs, Tryz.prog.underlying 116 = some (.struct fs) /\ fs.toList.map (·.type) = [9, 114] /\ P9 Tryz.prog fs.toList 0 = some (Tryz.prog.cellsOf 116) := ⟨_, Tryz.underlying116, rfl, by kernel_rfl⟩
theorem b6Z : Tryz.prog.cellsOf 116 = 13 := by kernel_rfl
theorem c1g : Opens enc Tryz.prog W 116 Gt.enc (fun _ => True) gtM := by
 obtain ⟨fs, h1, h2, h3⟩ := b4S
 refine (I9 h1 h2 h3 (p9 o_s (p9 c1n M7))).imp ?_
 rintro ⟨a, ⟨b, c⟩, _⟩ hok
 exact ⟨⟨a, b, c⟩, rfl, trivial, by simp only [gtM]; omega⟩
theorem c0z : Opens enc Tryz.prog W 27 (fun l => [gts l]) (fun _ => True) (lsM gtM) :=
 (M9 Tryz.underlying27 b6Z (by decide) (fun _ => rfl) c1g).imp fun l hl => ⟨l, rfl, trivial, c1I _⟩
theorem b4L : ∃ fs, Tryz.prog.underlying 31 = some (.struct fs) /\ fs.toList.map (·.type) = [23, 24, 25, 26, 27, 29] /\ P9 Tryz.prog fs.toList 0 = some (Tryz.prog.cellsOf 31) := ⟨_, Tryz.underlying31, rfl, by kernel_rfl⟩
theorem c1e : Opens enc Tryz.prog W 31 Wk.enc (fun _ => True) wkM := by
 obtain ⟨fs, h1, h2, h3⟩ := b4L
 refine (I9 h1 h2 h3 (p9 c0W (p9 c0T (p9 c0Y (p9 c0I (p9 c0z (p9 a3A M7))))))).imp ?_
 rintro ⟨a, b, c, d, e, f, _⟩ hok
 exact ⟨⟨a, b, c, d, e, f⟩, rfl, trivial, by simp only [wkM]; omega⟩
theorem b7M : Opens enc Tryz.prog W 88 (fun l => [rts l]) (fun _ => True) (lsM rtM) :=
 (M9 Tryz.underlying88 b6O (by decide) (fun _ => rfl) a3A).imp fun l hl => ⟨l, rfl, trivial, c1I _⟩
theorem b4r : ∃ fs, Tryz.prog.underlying 90 = some (.struct fs) /\ fs.toList.map (·.type) = [88, 88, 4, 3] /\ P9 Tryz.prog fs.toList 0 = some (Tryz.prog.cellsOf 90) := ⟨_, Tryz.underlying90, rfl, by kernel_rfl⟩
theorem b6Q : Tryz.prog.cellsOf 90 = 4 := by kernel_rfl
theorem c1q : Opens enc Tryz.prog W 90 Ast.enc (Aok) asM := by
 obtain ⟨fs, h1, h2, h3⟩ := b4r
 refine (I9 h1 h2 h3 (p9 b7M (p9 b7M (p9 o_b (p9 o_i M7))))).imp ?_
 rintro ⟨a, b, c, d, _⟩ hok
 exact ⟨⟨a, b, c, d⟩, rfl, hok.2.2.2.1, by simp only [asM]; omega⟩
theorem b9K : Opens enc Tryz.prog W 32 (fun l => [D8 l]) (fun l => ∀ x ∈ l, Aok x) (lsM asM) :=
 (M9 Tryz.underlying32 b6Q (by decide) (fun _ => rfl) c1q).imp fun l hl => ⟨l, rfl, hl, c1I _⟩
theorem c0L : Opens enc Tryz.prog W 33 (fun l => [frs l]) (fun _ => True) (lsM frM) :=
 (M9 Tryz.underlying33 b7j (by decide) (fun _ => rfl) b3s).imp fun l hl => ⟨l, rfl, trivial, c1I _⟩
theorem b8d : Tryz.prog.cellsOf 4 = 1 := by kernel_rfl
theorem c0u : Opens enc Tryz.prog W 35 (fun l => [bls l]) (fun _ => True) (lsM fun _ => 1) :=
 (M9 Tryz.underlying35 b8d (by decide) (fun _ => rfl) o_b).imp fun l hl => ⟨l, rfl, trivial, c1I _⟩
theorem b5d : ∃ fs, Tryz.prog.underlying 37 = some (.struct fs) /\ fs.toList.map (·.type) = [3, 32, 33, 34, 35] /\ P9 Tryz.prog fs.toList 0 = some (Tryz.prog.cellsOf 37) := ⟨_, Tryz.underlying37, rfl, by kernel_rfl⟩
theorem c1c : Opens enc Tryz.prog W 37 Stt.enc (Sok) stM := by
 obtain ⟨fs, h1, h2, h3⟩ := b5d
 refine (I9 h1 h2 h3 (p9 o_i (p9 b9K (p9 c0L (p9 a9V (p9 c0u M7)))))).imp ?_
 rintro ⟨a, b, c, d, e, _⟩ hok
 exact ⟨⟨a, b, c, d, e⟩, rfl, ⟨hok.1, hok.2.1⟩, by simp only [stM]; omega⟩
end
theorem b2D (u : Nat) : (X4 u).length <= u + 1 := by
 induction u using X4.induct with
 | case1 u h => rw [a8w h]; simp
 | case2 u h ih => rw [a6C h, c1T]; omega
theorem a3Y (b : Bool) : (a2B b).length = 1 := by cases b <;> rfl
theorem b3a (n : Int) : (a6g n).length <= 10 := b7r n
theorem b0c (l : List UInt8) : (a5x l).length <= 2 * l.length + 1 := by
 have := b2D l.length
 unfold a5x; rw [c1C]; omega
theorem a2x (a : Nm.Rt) : (V6 a).length <= 10 * rtM a := by
 have h1 := b0c a.num
 have h2 := b0c a.den
 have h3 := a3Y a.neg
 unfold V6 rtM; simp only [c1C]; omega
theorem a2r {α : Type} {f : α -> List UInt8} {m : α -> Nat} {c : Nat} (hm : ∀ x, 1 <= m x) (h : ∀ x, (f x).length <= c * m x) (l : List α) : (J4 f l).length <= (c + 1) * lsM m l := by
 have h1 : ∀ l : List α, (l.flatMap f).length <= c * (l.map m).sum := fun l => by
  induction l with
  | nil => simp
  | cons x l ih =>
   have := h x
   rw [List.flatMap_cons, c1C, c1R, List.sum_cons, Nat.mul_add]; omega
 have h2 := b2D l.length
 have h3 := a8M hm l
 have h4 := h1 l
 unfold J4 lsM
 rw [c1C, Nat.add_mul, Nat.mul_add, Nat.mul_add]
 omega
theorem b9a (s : Stt) : (a3e s).length <= 40 * stM s := by
 have h1 := b3a s.tick
 have h2 : ∀ x : Ast, (a5t x).length <= 22 * asM x := fun x => by
  have a1 := a2r a1I a2x x.q
  have a2 := a2r a1I a2x x.v
  have a3 := a3Y x.power
  have a4 := b3a (IntKind.i64.wrap (x.holds + 1))
  unfold a5t asM; simp only [c1C]; omega
 have h3 : ∀ f : Fr, (frB f).length <= 11 * frM f := fun f => by
  have a1 := a2x f.x
  have a2 := a2x f.y
  have a3 := a3Y f.half
  have a4 := a2x f.t
  have := a1I f.x
  unfold frB frM; simp only [c1C]; omega
 have h4 : ∀ v : Vt, (a4l v).length <= 10 * vtM v := fun f => by
  have a1 := a2x f.x
  have a2 := a2x f.y
  unfold a4l vtM; simp only [c1C]; omega
 have b2 := a2r b2U h2 s.arms
 have b3 := a2r a4K h3 s.parts
 have b4 := a2r a8O h4 s.people
 have b5 := a2r (f := a2B) (m := fun _ => 1) (c := 1) (fun _ => c1I _) (fun b => by rw [a3Y]; omega) s.gates
 unfold a3e stM; simp only [c1C]; omega
theorem a4A {α : Type} {f : α -> Nat} {n b : Nat} : ∀ {l : List α}, l.length <= n -> (∀ x ∈ l, f x <= b) -> lsM f l <= 1 + n * b := by
 intro l hn hb
 have h1 : ∀ l : List α, (∀ x ∈ l, f x <= b) -> (l.map f).sum <= l.length * b := fun l => by
  induction l with
  | nil => intro _; simp
  | cons x l ih =>
   intro h
   have h2 := h x (by simp)
   have h3 := ih fun y hy => h y (by simp [hy])
   rw [c1R, List.sum_cons, c1T, Nat.add_mul]; omega
 have h2 := h1 l hb
 have h3 := c2h b hn
 unfold lsM; omega
structure Stc (k : Nat) (s : Stt) : Prop where
 arms : s.arms.length <= 4 /\ ∀ x ∈ s.arms, (x.q.length <= 3 /\ ∀ r ∈ x.q, Rb k r) /\ (x.v.length <= 3 /\ ∀ r ∈ x.v, Rb k r)
 parts : s.parts.length <= 6 /\ ∀ f ∈ s.parts, Fb k f
 people : s.people.length <= 4 /\ ∀ v ∈ s.people, Vb k v
 gates : s.gates.length <= 4
theorem b9s {s : Stt} {k : Nat} (h : Stc k s) : stM s <= 100 * (2 * k + 3) + 100 := by
 obtain ⟨⟨a1, a2⟩, ⟨b1, b2⟩, ⟨c1, c2⟩, d1⟩ := h
 have hr : ∀ r : Nm.Rt, Rb k r -> rtM r <= 2 * k + 3 := fun r hr => by have := hr.1; have := hr.2; unfold rtM; omega
 generalize 2 * k + 3 = m at *
 have e1 := a4A (f := asM) (b := 6 * m + 3) a1 fun x hx => by
  obtain ⟨⟨q1, q2⟩, v1, v2⟩ := a2 x hx
  have f1 := a4A q1 fun r h => hr r (q2 r h)
  have f2 := a4A v1 fun r h => hr r (v2 r h)
  unfold asM; omega
 have e2 := a4A (f := frM) (b := 3 * m) b1 fun f hf => by
  obtain ⟨f1, f2, f3⟩ := b2 f hf
  have := hr _ f1; have := hr _ f2; have := hr _ f3
  unfold frM; omega
 have e3 := a4A (f := vtM) (b := 2 * m) c1 fun v hv => by
  obtain ⟨f1, f2⟩ := c2 v hv
  have := hr _ f1; have := hr _ f2
  unfold vtM; omega
 have e4 := a4A (f := fun _ : Bool => 1) (b := 1) d1 fun _ _ => c1I _
 unfold stM; omega
theorem b2w {s : Stt} (h : Stc 4294967296 s) : (a3e s).length <= 140737488355328 := by
 have h1 := b9s h
 have h2 := b9a s
 omega
set_option maxRecDepth 100000
set_option maxHeartbeats 16000000
theorem b9I {w : Wk} {q : List Nm.Rt} {a : Am} {pt : Pt} (hwb : Wb 1048576 w) (gp : pt ∈ w.parts) (ha : J6 a = 0) (hql : q.length = a.links.length) (hq : ∀ r ∈ q, Rb 2097664 r) : Fb 4294967296 (a0q a q pt.grasp) := by
 obtain ⟨p, hp⟩ := List.getElem?_of_mem gp
 obtain ⟨fb, lb⟩ := a5I ha
 have h3 : (a.links.zip q).length <= 3 := by have := (T9 ha).2; rw [List.length_zip]; omega
 have ht := a7v (a.links.zip q) a.base 0 fb (by omega) fun y hy => ⟨lb _ (List.of_mem_zip hy).1, hq _ (List.of_mem_zip hy).2⟩
 have hc := a5U (show 0 + (a.links.zip q).length <= 3 by omega)
 obtain ⟨k1, k2, k3⟩ := b5n (hwb.parts.2 pt gp).2.2
 obtain ⟨r1, r2, r3⟩ := a7t ht.1 ht.2.1 ht.2.2 k1 k2 k3 (by omega) (by omega) (by decide) (by decide)
 exact ⟨r1.mono (by omega), r2.mono (by omega), r3.mono (by omega)⟩
theorem Fb.mono' {k m : Nat} {f : Fr} (h : Fb k f) (hm : k <= m) : Fb m f := ⟨h.1.mono hm, h.2.1.mono hm, h.2.2.mono hm⟩
theorem b8P (w : Wk) (s : Stt) (u : List (List Nm.Rt)) (p : List Bool) (hwb : Wb 1048576 w) (hs : Stb 1048576 s) (hu : Wsb 1048576 u) (hp : p.length <= 1048576) :
  FZ 56 [w.c, s.c, wss u, bls p, .v (.slice none 0 0)] (a7D w s u p []) := by
 have h := b9q w s u p [] hwb hs hu hp ⟨c1H _, fun x hx => by cases hx⟩
 intro O w' vs hw hO hA
 refine h O w' vs hw hO ?_
 simp only [FzL] at hA ⊢
 obtain ⟨y1, r1, rfl, f1, y2, r2, rfl, f2, y3, r3, rfl, f3, y4, r4, rfl, f4, y5, r5, rfl, f5, rfl⟩ := hA
 simp only [Fz] at f5
 subst f5
 exact ⟨_, _, rfl, f1, _, _, rfl, f2, _, _, rfl, f3, _, _, rfl, f4, _, _, rfl, b4I, rfl⟩
theorem b3C : a5Q I8 (K7 I8) [[Q 1 8]] [true] = [⟨[Q 1 8], [Q 1 8], true, -1⟩] := by decide +kernel
theorem b4Q : I8.arms.length = 1 /\ (K7 I8).people.length = 0 /\ (K7 I8).tick = 0 := by decide +kernel
theorem b3P : a3i I8 (K7 I8) [[Q 1 8]] [true] [] = 0 := by
 obtain ⟨ha, hs⟩ := b5H
 have h0 := b7b a3W ha hs
 obtain ⟨h1, h2, h3⟩ := b4Q
 unfold a3i
 rw [if_neg (by simpa using h0), if_neg (by simp only [c1T, List.length_nil]; omega), if_neg (by simp), if_neg (by omega)]
theorem c0v : Rb 1048576 (Q 1 8) := ⟨by decide +kernel, by decide +kernel⟩
theorem b2t : FZ 55 [] (.v (.bool true)) := by
 refine kW Tryz.func55 (by cbv) (by rfl) fun w' O hw => ?_
 obtain ⟨ha, hs⟩ := b5H
 have hb := b0V
 have h1 := b8h
 have h2 := a2I 1 8 (by decide) (by decide)
 have h3 := b8P I8 (K7 I8) [[Q 1 8]] [true] hb (b6j (by decide) hb ha hs) ⟨by decide, fun l hl => by rw [List.mem_singleton] at hl; subst hl; exact ⟨by decide, fun r hr => by rw [List.mem_singleton] at hr; subst hr; exact c0v⟩⟩ (by decide)
 have h4 := b9b [Q 1 8] [Q 1 8] (by decide) (by decide)
 unfold a7D at h3
 rw [if_pos b3P] at h3
 have hA : (a9N I8 (K7 I8) [[Q 1 8]] [true] []).arms = [⟨[Q 1 8], [Q 1 8], true, -1⟩] := b3C
 rw [decide_eq_true rfl] at h4
 generalize a9N I8 (K7 I8) [[Q 1 8]] [true] [] = S at *
 generalize K7 I8 = s at *
 generalize I8 = w at *
 generalize Q 1 8 = q at *
 obtain ⟨arms, walls, parts, slots, gates, walk⟩ := w
 obtain ⟨tick, sarms, sparts, people, sgates⟩ := s
 obtain ⟨tick2, sarms2, sparts2, people2, sgates2⟩ := S
 simp only at hA
 subst hA
 simp only [j6]
 simp only [Wk.c, Wk.enc, Stt.c, Stt.enc, Ast.enc, ams, wls, pts, sls, gts, D8, frs, vts, bls, wss, rts, rcs, rc, sb, ints, c1R, c2d] at h1 h2 h3 h4 ⊢
 (repeat first | refine uA ?_ | (refine uK ?_ ?_; focus first | omega | (intros; simp_all <;> omega)) | simp (disch := omega) only [go_sem, Nat.reduceBEq, Nat.reduceAdd, ww, decide_true, c1z] | (refine uB h2 ?_ ?_; exact rfl) | (refine uB h4 ?_ ?_; exact rfl) | (refine uD h1 ?_ ?_ ?_; exact tz hw; exact rfl) | (refine uD h3 ?_ ?_ ?_; exact tz hw; exact rfl))
 exact S.done (d9.out rfl (Imp.refl rfl) rfl)
theorem b5L : u6 Tryz.prog 41 [a4H.c, a4H.c] (.v (.bool true)) := by
 have h := a6N a4H a4H b2O.w b2O.w (by decide +kernel) (by decide +kernel)
 rwa [decide_eq_true rfl] at h
theorem a9p {w : Wk} {s : Stt} (hs : Stb 1048576 s) (h : I4 w s = 0) : Stc 1048576 s := by
 have hok := a0I h
 have hb := hok.big
 have h1 := hok.arms
 have h2 := hok.parts
 have h3 := hok.gates
 refine ⟨⟨by omega, fun x hx => ?_⟩, ⟨by omega, hs.parts.2⟩, ⟨hok.people, hs.people.2⟩, by omega⟩
 obtain ⟨i, hi⟩ := List.getElem?_of_mem hx
 have hl := (c1F.1 hi).1
 have ga := c1x (show i < w.arms.length by omega)
 have ho := a6f (hok.one _ (c1A (K5 ga hi)))
 simp only at ho
 have h4 := (T9 ho.arm).2
 have h5 := ho.q
 have h6 := ho.v
 exact ⟨⟨by omega, (hs.arms.2 x hx).1.2⟩, by omega, (hs.arms.2 x hx).2.2⟩
theorem c0A {s : Stt} (h : Stc 1048576 s) : Stw s := by
 obtain ⟨⟨a1, a2⟩, ⟨b1, _⟩, ⟨c1, _⟩, d1⟩ := h
 refine ⟨⟨by omega, fun x hx => ?_⟩, by omega, by omega, by omega⟩
 obtain ⟨⟨q1, q2⟩, v1, v2⟩ := a2 x hx
 exact ⟨⟨by omega, fun r hr => (q2 r hr).mono (by decide)⟩, by omega, fun r hr => (v2 r hr).mono (by decide)⟩
def c0Q : List Nat := [68]
def c1t (f : Nat) : Bool := c0Q.contains f
set_option maxHeartbeats 32000000
theorem c0C (a : Nm.Rt) (ha : Rb 17179869184 a) : FZ 67 [rc a] (.v (.bool (!decide (r9 (Nm.j3 a) = 0)))) := by
 refine kW Tryz.func67 (by cbv) (by rfl) fun w O hw => ?_
 have h := K8 a ha
 generalize r9 (Nm.j3 a) = n at *
 simp only [j6]
 simp only [rc, sb, ints] at *
 (repeat first | refine uA ?_ | (refine uK ?_ ?_; focus first | omega | (intros; simp_all <;> omega)) | simp (disch := omega) only [go_sem, Nat.reduceBEq, Nat.reduceAdd, ww] | (refine uD h ?_ ?_ ?_; exact tz hw; exact rfl))
 exact S.done (d9.out rfl (Imp.refl rfl) rfl)
theorem b0m {s : Stt} (h : Stc 4294967296 s /\ Stw s) : u6 Tryz.prog 41 [s.c, s.c] (.v (.bool true)) := by
 have h1 := a6N s s h.2 h.2 (b2w h.1) (b2w h.1)
 rwa [decide_eq_true rfl] at h1
theorem b2N {s : Stt} {i : Nat} {x : Ast} {h : Int} {P : List Fr} (hs : Stc 1048576 s) (gx : s.arms[i]? = some x) (hP : P.length <= 6 /\ ∀ f ∈ P, Fb 4294967296 f) : Stc 4294967296 ⟨s.tick, s.arms.set i (Q6 x h), P, s.people, s.gates⟩ /\ Stw ⟨s.tick, s.arms.set i (Q6 x h), P, s.people, s.gates⟩ := by
 have hm1 : Stc 1048576 ⟨s.tick, s.arms.set i (Q6 x h), s.parts, s.people, s.gates⟩ := by
  obtain ⟨⟨a1, a2⟩, b, c, d⟩ := hs
  refine ⟨⟨by simp only [c2g]; exact a1, fun y hy => ?_⟩, b, c, d⟩
  rcases List.mem_or_eq_of_mem_set hy with hy | rfl
  ·exact a2 y hy
  ·exact a2 x (c1A gx)
 have hw := c0A hm1
 obtain ⟨⟨a1, a2⟩, b, ⟨c1, c2⟩, d1⟩ := hm1
 refine ⟨⟨⟨a1, fun z hz => ?_⟩, hP, ⟨c1, fun v hv => ⟨(c2 v hv).1.mono (by decide), (c2 v hv).2.mono (by decide)⟩⟩, d1⟩, ⟨hw.arms, c1G hP.1 (by decide), hw.people, hw.gates⟩⟩
 obtain ⟨⟨q1, q2⟩, v1, v2⟩ := a2 z hz
 exact ⟨⟨q1, fun r hr => (q2 r hr).mono (by decide)⟩, v1, fun r hr => (v2 r hr).mono (by decide)⟩
theorem b6N {w : Wk} {s : Stt} {n p : Int} (hwb : Wb 1048576 w) (hs : Stb 1048576 s) (h : a0t w s n p = 0) : Stc 4294967296 (a6E s n.toNat p.toNat (w.arms.getD n.toNat ⟨[], a0f, []⟩) (s.arms.getD n.toNat ⟨[], [], false, 0⟩) (w.parts.getD p.toNat ⟨[], [], a0f⟩)) /\ Stw (a6E s n.toNat p.toNat (w.arms.getD n.toNat ⟨[], a0f, []⟩) (s.arms.getD n.toNat ⟨[], [], false, 0⟩) (w.parts.getD p.toNat ⟨[], [], a0f⟩)) := by
 have h0 : J8 w s n = 0 := by
  unfold a0t at h
  split at h
  ·rename_i h1; exact absurd h h1
  ·rename_i h1; exact Classical.not_not.1 h1
 obtain ⟨hst, k, a, x, rfl, ga, gx, hm⟩ := a3V h0
 rw [a8P h0 ga gx] at h
 split at h
 ·cases h
 obtain ⟨q, rfl⟩ : ∃ q : Nat, p = q := ⟨p.toNat, by omega⟩
 have hok := a0I hst
 have ho := a6f (hok.one _ (c1A (K5 ga gx)))
 simp only at ho
 have gp := c1x (show q < w.parts.length by omega)
 generalize w.parts[q]'_ = pt at gp
 rw [c1B, c1B, a1m ga, a1m gx, a1m gp]
 have hsc := a9p hs hst
 refine b2N hsc gx ⟨by rw [c2g]; exact hsc.parts.1, fun f hf => ?_⟩
 rcases List.mem_or_eq_of_mem_set hf with hf | rfl
 ·exact (hsc.parts.2 f hf).mono' (by decide)
 ·exact b9I hwb (c1A gp) ho.arm ho.q fun r hr => ((hs.arms.2 x (c1A gx)).1.2 r hr).mono (by decide)
theorem b1J (w : Wk) (s : Stt) (n p : Int) (hwb : Wb 1048576 w) (hs : Stb 1048576 s) :
    FZ 9 [w.c, s.c, ints n, ints p] (.v (.bool true)) := by
  refine W9.of (eff := c1t) Tryz.func9 (by cbv) (by exact c1Q rfl) fun w' O hw => ?_
  have c1 : callable Tryz.prog 67 = true := by kernel_rfl
  have h1 := b2t
  have h2 := b9P w s n p hwb hs
  have h3 := b8T w s n p hwb hs
  have h4 := b9V w s n (hwb.mono (by decide)) (hs.mono (by decide))
  have h5 := b1G w s (hwb.mono (by decide)) (hs.mono (by decide))
  have h6 := b5L
  have h7 : a0t w s n p = 0 -> _ := fun h => b0m (b6N hwb hs h)
  have hs' : Stb 1073741824 s := hs.mono (by decide)
  have hhs := fun x hx => a7m 67 (by kernel_rfl) (fun v => !decide (r9 (Nm.j3 v) = 0)) x.v (by have := (hs'.arms.2 x hx).2.1; omega) (fun v hv => c0C v (((hs'.arms.2 x hx).2.2 v hv).mono (by decide)))
  have hmm : ∀ x : Ast, (x.v.any fun v => !decide (r9 (Nm.j3 v) = 0)) = R4 x := fun _ => rfl
  simp only [hmm] at hhs
  have ca := b0G (s.arms.map Ast.enc) (by rw [c1y]; exact hs'.arms.1)
  have n1 := hs.arms.1
  have n5 := hwb.arms.1
  have hR : J8 w s n = if I4 w s ≠ 0 then I4 w s else if n < 0 \/ (w.arms.length : Int) <= n then 1 else match s.arms[n.toNat]? with
    | some x => if R4 x = true then 7 else 0
    | none => 0 := rfl
  have hP : a5z w s n = if J8 w s n ≠ 0 then J8 w s n else match s.arms[n.toNat]? with
    | some x => if x.holds < 0 then 7 else 0
    | none => 0 := rfl
  have hal : I4 w s = 0 -> s.arms.length = w.arms.length := fun h => (a0I h).arms
  have h8 : a5z w s n = 0 -> ∀ x, s.arms[n.toNat]? = some x -> u6 Tryz.prog 41 [(b1i s n.toNat x).c, (b1i s n.toNat x).c] (.v (.bool true)) := fun h x gx => by
    have hr : J8 w s n = 0 := by
      rw [hP] at h
      split at h
      · rename_i h1; exact absurd h h1
      · rename_i h1; exact Classical.not_not.1 h1
    obtain ⟨hst, _⟩ := a3V hr
    have hsc := a9p hs hst
    exact b0m (b2N hsc gx ⟨hsc.parts.1, fun f hf => (hsc.parts.2 f hf).mono' (by decide)⟩)
  unfold a7T at h2 h3
  generalize hTS : a6E s n.toNat p.toNat (w.arms.getD n.toNat ⟨[], a0f, []⟩) (s.arms.getD n.toNat ⟨[], [], false, 0⟩) (w.parts.getD p.toNat ⟨[], [], a0f⟩) = TS at *
  clear hTS
  generalize a0t w s n p = tE at *
  generalize a5z w s n = pE at *
  generalize J8 w s n = rE at *
  generalize I4 w s = e at *
  unfold b1i at h4 h8
  obtain ⟨arms, walls, parts, slots, gates, walk⟩ := w
  obtain ⟨tick, sarms, sparts, people, sgates⟩ := s
  obtain ⟨tick2, sarms2, sparts2, people2, sgates2⟩ := TS
  simp only at n1 n5 hhs hR hP hal h4 h8 ca
  simp only [j6]
  simp only [Wk.c, Wk.enc, Stt.c, Stt.enc, a4H, a0Y, ams, wls, pts, sls, gts, D8, frs, vts, bls, sb, ints, c2d] at h2 h3 h4 h5 h6 h7 h8 ⊢
  (repeat first | refine uA ?_ | (refine uK ?_ ?_; focus first | omega | (intros; simp_all <;> omega)) | simp (disch := omega) only [go_sem, Nat.reduceBEq, Nat.reduceAdd, ww] | (refine uD h1 ?_ ?_ ?_; exact tz hw; exact rfl))
  refine S.cond rfl (fun hc => by simp at hc) (fun hc => ?_)
  refine (Classical.em (tE = 0)).elim (fun hT => ?ga) fun hT => ?gb
  case' ga =>
    have h7 := h7 hT
    rw [if_pos hT] at h2 h3
    (repeat first | refine uA ?_ | (refine uK ?_ ?_; focus first | omega | (intros; simp_all <;> omega)) | simp (disch := omega) only [go_sem, Nat.reduceBEq, Nat.reduceAdd, ww] | (refine uB h7 ?_ ?_; exact rfl) | (refine uD h2 ?_ ?_ ?_; exact tz hw; exact rfl) | (refine uD h3 ?_ ?_ ?_; exact tz hw; exact rfl))
    refine S.cond rfl (fun hc => by simp at hc) (fun hc => ?_)
    refine S.weaken (st' := ⟨[(2, .v (.int .i64 n)), (4, .bp 0 0), (5, .bp 1 0), (9, .bp 2 0), (11, .bp 3 0)], [.box 31 [ams arms, wls walls, pts parts, sls slots, gts gates, .v (.bool walk.neg), sb walk.num, sb walk.den], .box 37 [ints tick, D8 sarms, frs sparts, vts people, bls sgates], .box 37 [.junk, .junk, .junk, .junk, .junk], .box 37 [.junk, .junk, .junk, .junk, .junk]]⟩) (Ent.mk _ _ (by (repeat first | refine uA ?_ | (refine ⟨?_, ?_⟩; focus first | rfl | simp [slot]) | rfl | simp)) (by repeat' first | exact L9.nil | exact RI.box _ _ _ (j5.refl rfl) | exact RI.box _ _ _ (by repeat' first | exact j5.nil | exact Imp.junk | refine j5.cons ?_ ?_) | refine L9.cons ?_ ?_) (c1H _)) ?_
  case' gb =>
    rw [if_neg hT] at h2 h3
    (repeat first | refine uA ?_ | (refine uK ?_ ?_; focus first | omega | (intros; simp_all <;> omega)) | simp (disch := omega) only [go_sem, Nat.reduceBEq, Nat.reduceAdd, ww] | (refine uD h2 ?_ ?_ ?_; exact tz hw; exact rfl) | (refine uD h3 ?_ ?_ ?_; exact tz hw; exact rfl) | (refine uC h6 ?_ ?_ ?_; exact rfl; focus (repeat' first | exact j5.nil | exact Imp.refl rfl | exact Imp.F9 | exact Imp.fbx rfl rfl (j5.refl rfl) rfl rfl | refine Imp.clo ?_ | exact Imp.frz rfl rfl rfl | (refine Imp.M5 rfl rfl ?_ ?_; (focus ((try simp only [c1C]); omega)); (focus first | rfl | assumption)) | refine Imp.agg ?_ | refine j5.cons ?_ ?_); done))
    refine S.cond rfl (fun hc => by simp at hc) (fun hc => ?_)
    refine S.weaken (st' := ⟨[(2, .v (.int .i64 n)), (4, .bp 0 0), (5, .bp 1 0), (9, .bp 2 0), (11, .bp 3 0)], [.box 31 [ams arms, wls walls, pts parts, sls slots, gts gates, .v (.bool walk.neg), sb walk.num, sb walk.den], .box 37 [ints tick, D8 sarms, frs sparts, vts people, bls sgates], .box 37 [.junk, .junk, .junk, .junk, .junk], .box 37 [.junk, .junk, .junk, .junk, .junk]]⟩) (Ent.mk _ _ (by (repeat first | refine uA ?_ | (refine ⟨?_, ?_⟩; focus first | rfl | simp [slot]) | rfl | simp)) (by repeat' first | exact L9.nil | exact RI.box _ _ _ (j5.refl rfl) | exact RI.box _ _ _ (by repeat' first | exact j5.nil | exact Imp.junk | refine j5.cons ?_ ?_) | refine L9.cons ?_ ?_) (c1H _)) ?_
  all_goals
    clear hc
    simp only [ams, wls, pts, sls, gts, D8, frs, vts, bls, sb, ints]
    by_cases hp0 : pE = 0
    · have hr0 : rE = 0 := by
        rw [hP] at hp0
        split at hp0
        · rename_i h1; exact absurd hp0 h1
        · rename_i h1; exact Classical.not_not.1 h1
      rw [if_neg (show ¬ rE ≠ 0 by simpa using hr0)] at hP
      rw [hr0] at hR
      have he0 : e = 0 := by
        by_cases h : e = 0
        · exact h
        · rw [if_pos h] at hR; exact absurd hR.symm h
      subst he0
      have hal := hal rfl
      rw [if_neg (by decide)] at hR
      have hg : ¬ (n < 0 \/ (arms.length : Int) <= n) := fun h => by rw [if_pos h] at hR; cases hR
      rw [if_neg hg] at hR
      obtain ⟨k, rfl⟩ : ∃ k : Nat, n = k := ⟨n.toNat, by omega⟩
      have gx := c1x (show k < sarms.length by omega)
      generalize sarms[k]'_ = x at gx
      rw [c1B, gx] at hR hP
      simp only at hR hP
      have h8 := h8 hp0 x (by rw [c1B]; exact gx)
      rw [if_pos hp0, c1B, gx] at h4
      simp only [Option.getD_some] at h4
      have hm : R4 x = false := by
        cases h : R4 x
        · rfl
        · rw [h, if_pos rfl] at hR; cases hR
      have hh : ¬ x.holds < 0 := fun h => by rw [if_pos h] at hP; rw [hP] at hp0; cases hp0
      have t1 := hhs x (c1A gx)
      rw [hm] at t1
      have hki : (k : Int) < sarms.length := by omega
      have hk0 : decide ((k : Int) < 0) = false := decide_eq_false (by omega)
      have hk1 : decide ((arms.length : Int) <= (k : Int)) = false := decide_eq_false (by omega)
      have hset : (sarms.map Ast.enc).set k [rts x.q, rts x.v, .v (.bool x.power), .v (.int .i64 (-1))] = (sarms.set k (Q6 x (-1))).map Ast.enc := by rw [List.map_set]; rfl
      simp only [rts, c1B] at t1 hset h8
      (repeat first | refine uA ?_ | (refine uK ?_ ?_; focus first | omega | (intros; simp_all <;> omega)) | simp (disch := omega) only [go_sem, Nat.reduceBEq, Nat.reduceAdd, ww] | (refine uD h4 ?_ ?_ ?_; exact tz hw; exact rfl) | (refine uD h5 ?_ ?_ ?_; exact tz hw; exact rfl))
      refine S.cond rfl (fun hc => by simp at hc) (fun hc => ?_)
      (repeat first | refine uA ?_ | (refine uK ?_ ?_; focus first | omega | (intros; simp_all <;> omega)) | simp (disch := omega) only [go_sem, Nat.reduceBEq, Nat.reduceAdd, ww, c1y, hk0, hk1])
      refine S.cond rfl (fun hc => by simp at hc) (fun hc => ?_)
      (repeat first | refine uA ?_ | (refine uK ?_ ?_; focus first | omega | (intros; simp_all <;> omega)) | simp (disch := omega) only [go_sem, Nat.reduceBEq, Nat.reduceAdd, ww, gx, c1z, c1y, Ast.enc, rts, ints, c1, c1B] | (refine uD t1 ?_ ?_ ?_; exact tz hw; exact rfl))
      refine S.cond rfl (fun hc => by simp at hc; omega) (fun hc => ?_)
      (repeat first | refine uA ?_ | (refine uK ?_ ?_; focus first | omega | (intros; simp_all <;> omega)) | simp (disch := omega) only [go_sem, Nat.reduceBEq, Nat.reduceAdd, ww])
      refine S.cond rfl (fun hc => by simp at hc) (fun hc => ?_)
      (repeat first | refine uA ?_ | (refine uK ?_ ?_; focus first | omega | (intros; simp_all <;> omega)) | simp (disch := omega) only [go_sem, Nat.reduceBEq, Nat.reduceAdd, ww, gx, hset, c1z, c1y, Ast.enc, rts, ints, decide_true, c1B] | refine l9.t (FNew.t ca rfl) ?_ | (refine uC h8 ?_ ?_ ?_; exact rfl; focus (repeat' first | exact j5.nil | exact Imp.refl rfl | exact Imp.F9 | exact Imp.fbx rfl rfl (j5.refl rfl) rfl rfl | refine Imp.clo ?_ | exact Imp.frz rfl rfl rfl | (refine Imp.M5 rfl rfl ?_ ?_; (focus ((try simp only [c1C, gx, hset, c1z, c1y, Ast.enc, rts, ints, decide_true, c1B]); omega)); (focus first | rfl | assumption)) | refine Imp.agg ?_ | refine j5.cons ?_ ?_); done))
      exact S.done (d9.out rfl (Imp.refl rfl) rfl)
    · rw [if_neg hp0] at h4
      (repeat first | refine uA ?_ | (refine uK ?_ ?_; focus first | omega | (intros; simp_all <;> omega)) | simp (disch := omega) only [go_sem, Nat.reduceBEq, Nat.reduceAdd, ww] | (refine uD h4 ?_ ?_ ?_; exact tz hw; exact rfl) | (refine uD h5 ?_ ?_ ?_; exact tz hw; exact rfl))
      by_cases he0 : e = 0
      · subst he0
        have hal := hal rfl
        rw [if_neg (by decide)] at hR
        refine S.cond rfl (fun hc => by simp at hc) (fun hc => ?_)
        (repeat first | refine uA ?_ | (refine uK ?_ ?_; focus first | omega | (intros; simp_all <;> omega)) | simp (disch := omega) only [go_sem, Nat.reduceBEq, Nat.reduceAdd, ww, c1y])
        by_cases hg : n < 0 \/ (arms.length : Int) <= n
        · rw [if_pos hg] at hR
          subst hR
          rw [if_pos (by decide)] at hP
          subst hP
          refine S.cond rfl (fun hc => ?_) (fun hc => by simp only [c1L, c1E] at hc; omega)
          (repeat first | refine uA ?_ | (refine uK ?_ ?_; focus first | omega | (intros; simp_all <;> omega)) | simp (disch := omega) only [go_sem, Nat.reduceBEq, Nat.reduceAdd, ww])
          refine S.cond rfl (fun hc => ?_) (fun hc => by simp at hc)
          (repeat first | refine uA ?_ | (refine uK ?_ ?_; focus first | omega | (intros; simp_all <;> omega)) | simp (disch := omega) only [go_sem, Nat.reduceBEq, Nat.reduceAdd, ww, decide_true] | (refine uC h6 ?_ ?_ ?_; exact rfl; focus (repeat' first | exact j5.nil | exact Imp.refl rfl | exact Imp.F9 | exact Imp.fbx rfl rfl (j5.refl rfl) rfl rfl | refine Imp.clo ?_ | exact Imp.frz rfl rfl rfl | (refine Imp.M5 rfl rfl ?_ ?_; (focus ((try simp only [c1C, decide_true]); omega)); (focus first | rfl | assumption)) | refine Imp.agg ?_ | refine j5.cons ?_ ?_); done))
          exact S.done (d9.out rfl (Imp.refl rfl) rfl)
        rw [if_neg hg] at hR
        refine S.cond rfl (fun hc => by simp only [c1X, c1D] at hc; omega) (fun hc => ?_)
        clear hc
        obtain ⟨k, rfl⟩ : ∃ k : Nat, n = k := ⟨n.toNat, by omega⟩
        have gx := c1x (show k < sarms.length by omega)
        generalize sarms[k]'_ = x at gx
        rw [c1B, gx] at hR hP
        simp only at hR hP
        have t1 := hhs x (c1A gx)
        have hki : (k : Int) < sarms.length := by omega
        have h7' : (R4 x = true \/ x.holds < 0) /\ pE = 7 := by
          by_cases hm : R4 x = true
          · rw [if_pos hm] at hR
            subst hR
            exact ⟨.inl hm, hP⟩
          · rw [if_neg hm] at hR
            subst hR
            rw [if_neg (by decide)] at hP
            by_cases hh : x.holds < 0
            · rw [if_pos hh] at hP; exact ⟨.inr hh, hP⟩
            · rw [if_neg hh] at hP; exact absurd hP hp0
        obtain ⟨hmh, rfl⟩ := h7'
        generalize R4 x = m at *
        simp only [rts] at t1
        (repeat first | refine uA ?_ | (refine uK ?_ ?_; focus first | omega | (intros; simp_all <;> omega)) | simp (disch := omega) only [go_sem, Nat.reduceBEq, Nat.reduceAdd, ww, gx, c1z, c1y, Ast.enc, rts, ints, c1, c1B, Bool.not_eq_true', imp_self, true_and] | (refine uD t1 ?_ ?_ ?_; exact tz hw; exact rfl))
        refine S.cond rfl (fun hc => ?_) (fun hc => by simp only [c1L, c1E] at hc; rcases hmh with h | h; rw [hc.1] at h; cases h; exact absurd h hc.2)
        (repeat first | refine uA ?_ | (refine uK ?_ ?_; focus first | omega | (intros; simp_all <;> omega)) | simp (disch := omega) only [go_sem, Nat.reduceBEq, Nat.reduceAdd, ww])
        refine S.cond rfl (fun hc => ?_) (fun hc => by simp at hc)
        (repeat first | refine uA ?_ | (refine uK ?_ ?_; focus first | omega | (intros; simp_all <;> omega)) | simp (disch := omega) only [go_sem, Nat.reduceBEq, Nat.reduceAdd, ww, decide_true] | (refine uC h6 ?_ ?_ ?_; exact rfl; focus (repeat' first | exact j5.nil | exact Imp.refl rfl | exact Imp.F9 | exact Imp.fbx rfl rfl (j5.refl rfl) rfl rfl | refine Imp.clo ?_ | exact Imp.frz rfl rfl rfl | (refine Imp.M5 rfl rfl ?_ ?_; (focus ((try simp only [c1C, decide_true]); omega)); (focus first | rfl | assumption)) | refine Imp.agg ?_ | refine j5.cons ?_ ?_); done))
        exact S.done (d9.out rfl (Imp.refl rfl) rfl)
      · rw [if_pos he0] at hR
        subst hR
        rw [if_pos he0] at hP
        subst hP
        refine S.cond rfl (fun hc => ?_) (fun hc => by simp at hc; exact absurd hc he0)
        (repeat first | refine uA ?_ | (refine uK ?_ ?_; focus first | omega | (intros; simp_all <;> omega)) | simp (disch := omega) only [go_sem, Nat.reduceBEq, Nat.reduceAdd, ww])
        refine S.cond rfl (fun hc => ?_) (fun hc => by simp at hc; exact absurd hc he0)
        (repeat first | refine uA ?_ | (refine uK ?_ ?_; focus first | omega | (intros; simp_all <;> omega)) | simp (disch := omega) only [go_sem, Nat.reduceBEq, Nat.reduceAdd, ww, decide_true] | (refine uC h6 ?_ ?_ ?_; exact rfl; focus (repeat' first | exact j5.nil | exact Imp.refl rfl | exact Imp.F9 | exact Imp.fbx rfl rfl (j5.refl rfl) rfl rfl | refine Imp.clo ?_ | exact Imp.frz rfl rfl rfl | (refine Imp.M5 rfl rfl ?_ ?_; (focus ((try simp only [c1C, decide_true]); omega)); (focus first | rfl | assumption)) | refine Imp.agg ?_ | refine j5.cons ?_ ?_); done))
        exact S.done (d9.out rfl (Imp.refl rfl) rfl)
set_option maxRecDepth 10000
noncomputable def laidWorldU (os : Os) : World := World.laidAll Tryz.prog os Rows.moveTakesUptoRow.laid
theorem b5z (os : Os) (args : Array Value) : laidMet Tryz.prog Rows.moveTakesUptoRow.laid ((laidWorldU os).forCall (fun _ _ => 0) ⟨#[], args, []⟩).memory :=
 laidMet_laidAll args (by kernel_rfl) (by kernel_rfl)
theorem b2v {H : Type} {enc : TypeId × Value -> H} {C : Checked} {os : Os} {f : FuncId} {fn : Func} {s : OpenSpec} {conds : List PathCond} {apart : Bool} {laid : List (String × DataW Unit)} (modest : Bool) (w0 : World) (args : Array Value) (hos : w0.os = os)
  (hv : (w0.forCall (fun _ _ => 0) ⟨#[], args, []⟩).variablesZipB C.prog = true)
  (hr : ((w0.forCall (fun _ _ => 0) ⟨#[], args, []⟩).heap.toList.drop C.prog.globals.size).take ((begin C.prog (fun _ _ => 0) default).world.heap.size - C.prog.globals.size) =
   (begin C.prog (fun _ _ => 0) default).world.heap.toList.drop C.prog.globals.size)
  (hok : Input.okWideB C.prog (w0.forCall (fun _ _ => 0) ⟨#[], args, []⟩) f ⟨#[], args, []⟩ = true)
  (hrow : s.preRow enc C.prog fn conds apart laid (w0.forCall (fun _ _ => 0) ⟨#[], args, []⟩).memory args) :
  ∃ (w : World) (tape : Tape) (i : Input), w.os = os /\ (w.forCall tape i).Shaped C.prog /\ i.vars = [] /\ Input.okWide C.prog (w.forCall tape i) .any w.heap.size f i /\
   s.preRow enc C.prog fn conds apart laid (w.forCall tape i).memory i.args /\ ({ modest := modest } : Assume).holds C.prog (lone (Frame.enter C.prog f i.args .normal) [] (w.forCall tape i)) :=
 ⟨w0, fun _ _ => 0, ⟨#[], args, []⟩, hos, World.shaped_of_ZipB hv hr, (Input.okWide_of_okWideB (base := 0) hok).1, (Input.okWide_of_okWideB hok).2, hrow, by
  simp only [Assume.holds]
  exact ⟨by simp, by simp, fun _ => Modest.zero, by simp, by simp⟩⟩
theorem a9H (os : Os) (args : Array Value) : laidMet Tryz.prog Rows.moveTakesUptoRow.laid ((laidWorldU os).forCall (fun _ _ => 0) ⟨#[], args, []⟩).memory :=
 b5z os args
theorem a5J (H : Type) (enc : TypeId × Value -> H) (W : World) (base : Nat) (args : Array Value) (ds gs : List (DataW H)) (before : List MemPlace)
  (hval : ∀ (j : Nat) t v, Tryz.f9.params[j]? = some t -> args[j]? = some v -> Value.okWide Tryz.prog W .any base t v)
  (hW : DataW.Whole enc Tryz.prog Tryz.f9.params.toList Rows.moveTakesSpec.vars false W args.toList ds gs before) (hk : Rows.uptoSmall H (ds ++ gs) = true) (hL : laidMetH Tryz.prog Rows.moveTakesUptoRow.laid W) (hS : W.ShapedOpen Tryz.prog) :
  Calls Tryz.prog 9 args W fun e W' => ∃ v, e = .returned v /\ Rows.moveTakesSpec.post enc Tryz.prog Tryz.f9 false true false false W args v W' := by
 have hW' := hW
 obtain ⟨p, q, hA0, hV, rfl, hfz, hnd⟩ := hW
 have hA : DataW.TrodAll enc Tryz.prog W 0 (fun _ => true) true Tryz.f9.params.toList args.toList ds p := hA0
 rw [Tryz.params9] at hA hval
 obtain ⟨v0, vs0, d0, ds0, p0, q0, hargs, rfl, rfl, h0, r0⟩ := trodAll_cons hA
 obtain ⟨v1, vs1, d1, ds1, p1, q1, rfl, rfl, rfl, h1, r1⟩ := trodAll_cons r0
 obtain ⟨v2, vs2, d2, ds2, p2, q2, rfl, rfl, rfl, h2, r2⟩ := trodAll_cons r1
 obtain ⟨v3, vs3, d3, ds3, p3, q3, rfl, rfl, rfl, h3, r3⟩ := trodAll_cons r2
 obtain ⟨rfl, rfl, rfl⟩ := trodAll_nil r3
 obtain rfl : args = #[v0, v1, v2, v3] := by cases args; simp_all
 obtain ⟨rfl, rfl⟩ := trodVars_none hV
 have hb := b6n hk
 obtain ⟨cs0, rfl, _⟩ := okWide_struct Tryz.underlying31 (hval 0 31 v0 rfl rfl)
 obtain ⟨m0, h0⟩ := h0
 obtain ⟨wk0, e0, _, k0, b0⟩ := c1e _ _ _ h0
 have b0 : wkM wk0 <= Rows.uptoBulk d0 := b0
 have e0 : FzL W noB wk0.enc cs0.toList := e0
 have g0 : Fz W noB wk0.c (.agg cs0) := by simp only [Wk.c, Fz]; exact ⟨_, e0, by simp⟩
 obtain ⟨cs1, rfl, _⟩ := okWide_struct Tryz.underlying37 (hval 1 37 v1 rfl rfl)
 obtain ⟨m1, h1⟩ := h1
 obtain ⟨st0, e1, _, k1, b1⟩ := c1c _ _ _ h1
 have b1 : stM st0 <= Rows.uptoBulk d1 := b1
 have e1 : FzL W noB st0.enc cs1.toList := e1
 have g1 : Fz W noB st0.c (.agg cs1) := by simp only [Stt.c, Fz]; exact ⟨_, e1, by simp⟩
 obtain ⟨ar0, rfl, rfl, rfl, w2⟩ := open_int Tryz.underlying3 (hval 2 3 v2 rfl rfl) h2
 have har0 : I64 ar0 := by simpa [Lit.wf, IntKind.min, IntKind.max, IntKind.signed, IntKind.bits, I64] using w2
 obtain ⟨pa0, rfl, rfl, rfl, w3⟩ := open_int Tryz.underlying3 (hval 3 3 v3 rfl rfl) h3
 have hpa0 : I64 pa0 := by simpa [Lit.wf, IntKind.min, IntKind.max, IntKind.signed, IntKind.bits, I64] using w3
 simp only [List.append_nil, List.cons_append, List.nil_append, Rows.uptoBulkAll] at hb
 have hF : FzL W noB [wk0.c, st0.c, ints ar0, ints pa0] [.agg cs0, .agg cs1, .int .i64 ar0, .int .i64 pa0] := by
  simp only [FzL]
  exact ⟨_, _, rfl, g0, ⟨_, _, rfl, g1, ⟨_, _, rfl, by simp only [ints, Fz], ⟨_, _, rfl, by simp only [ints, Fz], rfl⟩⟩⟩⟩
 refine (b1J wk0 st0 ar0 pa0 (c1j (by omega)) (c1m (by omega)) noB W _ (c0K hL) (fun _ h => h.elim) hF).mono fun e W' ⟨y, he, hbl, hy⟩ => ?_
 subst he
 simp only [Fz] at hy
 subst hy
 refine ⟨_, rfl, b7w b6k (by
  intro t ht
  rw [Tryz.params9] at ht
  simp only [List.mem_cons, List.not_mem_nil, or_false] at ht
  rcases ht with rfl | rfl | rfl | rfl
  ·exact ⟨by kernel_rfl, of_decide_eq_true (by kernel_rfl)⟩
  ·exact ⟨by kernel_rfl, of_decide_eq_true (by kernel_rfl)⟩
  ·exact ⟨by kernel_rfl, of_decide_eq_true (by kernel_rfl)⟩
  ·exact ⟨by kernel_rfl, of_decide_eq_true (by kernel_rfl)⟩) (tb := 4) rfl Tryz.underlying4 rfl rfl hW' hbl⟩
theorem a8i (os : Os) {H : Type} (enc : TypeId × Value -> H) : ∃ places, DataW.whole enc Tryz.prog ((laidWorldU os).forCall (fun _ _ => 0) ⟨#[], #[.agg #[.slice none 0 0, .slice none 0 0, .slice none 0 0, .slice none 0 0, .slice none 0 0, .bool false, .string ⟨#[]⟩, .string ⟨#[]⟩], .agg #[.int .i64 0, .slice none 0 0, .slice none 0 0, .slice none 0 0, .slice none 0 0], .int .i64 0, .int .i64 0], []⟩).memory Tryz.f9.params.toList Rows.moveTakesSpec.vars false (#[.agg #[.slice none 0 0, .slice none 0 0, .slice none 0 0, .slice none 0 0, .slice none 0 0, .bool false, .string ⟨#[]⟩, .string ⟨#[]⟩], .agg #[.int .i64 0, .slice none 0 0, .slice none 0 0, .slice none 0 0, .slice none 0 0], .int .i64 0, .int .i64 0] : Array Value).toList 8 = some ([.agg [.nil, .nil, .nil, .nil, .nil, .agg [.lit (.bool false), .lit (.string []), .lit (.string [])]], .agg [.lit (.int .i64 0), .nil, .nil, .nil, .nil], .lit (.int .i64 0), .lit (.int .i64 0)], [], places) :=
 ⟨[], by kernel_rfl⟩
set_option maxRecDepth 100000 in
theorem a7i (os : Os) (started : os.Started) (H : Type) (enc : TypeId × Value -> H) (F : Stop.Interp) :
  ReturnsInHanded {} Tryz.checked os 9 .any ((Rows.OpenSpec.upto Rows.moveTakesSpec).preRow enc Tryz.prog Tryz.f9 Rows.moveTakesUptoRow.domain false Rows.moveTakesUptoRow.laid) (((Rows.OpenSpec.upto Rows.moveTakesSpec).at F).post enc Tryz.prog Tryz.f9 false true false false) := by
 obtain ⟨places, hx⟩ := a8i os enc
 refine returnsInHanded_of_row (C := Tryz.checked) (s := Rows.OpenSpec.upto Rows.moveTakesSpec) b6f started (by kernel_rfl) Tryz.func9
  (b2v (enc := enc) (C := Tryz.checked) false (laidWorldU os) #[.agg #[.slice none 0 0, .slice none 0 0, .slice none 0 0, .slice none 0 0, .slice none 0 0, .bool false, .string ⟨#[]⟩, .string ⟨#[]⟩], .agg #[.int .i64 0, .slice none 0 0, .slice none 0 0, .slice none 0 0, .slice none 0 0], .int .i64 0, .int .i64 0] rfl (by kernel_rfl) (by kernel_rfl) (by kernel_rfl)
   (OpenSpec.preRow_of_cond 8 hx (by kernel_rfl) (fun k hk => by cases hk; kernel_rfl) (by kernel_rfl) (a9H os _))) ?_
 intro W base args ds gs before hval hW _ hcond _ hL hS _
 exact a5J H enc W base args ds gs before hval hW (hcond _ rfl) hL hS
theorem c1i {a b : Bool} (h : a = true) (k : b = true) : (a && b) = true := by rw [h, k]; rfl
set_option maxHeartbeats 40000000 in
theorem a7r : joinedFacts Tryz.pinned.checked.prog 9 Tryz.f9 (Rows.OpenSpec.upto Rows.moveTakesSpec).bare Rows.moveTakesUptoRow = true := by
 unfold joinedFacts
 repeat' (with_reducible refine c1i ?_ ?_)
 all_goals (as_aux_lemma => kernel_rfl)
end Go.Proofs.YtogfpjohjphngaaGreatDoor
