/- A part of the proof: lemmas only, with the conditions that each names. -/
import Derived.Test.YtogfpjohjphngaaGreatDoorProg
import Derived.KernelRfl
import Derived.Test.YtogfpjohjphngaaGreatDoorRows
import Derived.Carry
import Derived.ChangeArms
import Derived.ChangeSame
import Derived.Deep.Slices
import Derived.WalkKit
import Derived.ProofKit
import Derived.OpenShut
import Derived.JoinedCond
import Derived.Test.YtogfpjohjphngaaGreatDoorCards
import Derived.Test.YtogfpjohjphngaaGreatDoorTie
import Derived.Deep.DeepHandedRow
import Derived.Deep.DeepWitnessRowRef
import Derived.Lib.LaidTab
import Derived.LaidMore
import Derived.Lay
import Derived.Test.YtogfpjohjphngaaGreatDoorPk5
set_option linter.all false
namespace Go.Proofs.YtogfpjohjphngaaGreatDoor
open Go Go.RowKit Eng
set_option maxRecDepth 100000
set_option maxHeartbeats 16000000
theorem c2j (a b c d e v : Int) : (if D6 id [a, b, c, d, e] ≠ 0 then D6 id [a, b, c, d, e] else v) = if a ≠ 0 then a else if b ≠ 0 then b else if c ≠ 0 then c else if d ≠ 0 then d else if e ≠ 0 then e else v := by
 simp only [D6, id]
 by_cases ha : a = 0 <;> by_cases hb : b = 0 <;> by_cases hc : c = 0 <;> by_cases hd : d = 0 <;> by_cases he : e = 0 <;> simp [ha, hb, hc, hd, he]
theorem b5A {k : Nat} {a : Nm.Rt} (h : 1 <= k) (h1 : Rb k a) : Rbs k [a] := ⟨h, fun x hx => by simp at hx; subst hx; exact h1⟩
theorem b9A {k : Nat} {a b c d : Nm.Rt} (h : 4 <= k) (h1 : Rb k a) (h2 : Rb k b) (h3 : Rb k c) (h4 : Rb k d) : Rbs k [a, b, c, d] := ⟨h, fun x hx => by simp at hx; rcases hx with rfl | rfl | rfl | rfl <;> assumption⟩
theorem walk_eq (a : Nm.Rt) : b1V a = if ([a].all o8 = false \/ E9 (Nm.j3 a) = -1) then 1 else 0 := by
 have h1 : (decide a.D8 && o8 a) = [a].all o8 := by rw [<- Y8]; simp
 have h2 := b7P (Nm.j3 a)
 unfold b1V
 rw [h1]
 generalize [a].all o8 = q
 have := b2O (Nm.j3 a)
 cases q
 ·simp
 ·by_cases h : 0 <= E9 (Nm.j3 a)
  ·rw [if_pos (by simpa using h), if_neg (by simp; omega)]
  ·rw [if_neg (by simpa using h), if_pos (by right; omega)]
theorem c1n (s : Sl) : (okF s.frame && decide s.within.D8 && o8 s.within && decide (0 < E9 (Nm.j3 s.within))) = !(!okF s.frame || !([s.within].all o8) || decide (E9 (Nm.j3 s.within) < 1)) := by
 have h1 : (okF s.frame && decide s.within.D8 && o8 s.within) = (okF s.frame && [s.within].all o8) := by
  rw [Bool.and_assoc, <- Y8]; simp
 rw [h1, sign_one]
 cases okF s.frame <;> cases [s.within].all o8 <;> cases decide (0 < E9 (Nm.j3 s.within)) <;> rfl
theorem c1s (g : Gt) : (okV g.low && okV g.high && decide (Nm.A9 (Nm.j3 g.low.x) (Nm.j3 g.high.x) <= 0) && decide (Nm.A9 (Nm.j3 g.low.y) (Nm.j3 g.high.y) <= 0)) = !(!([g.low.x, g.low.y, g.high.x, g.high.y].all o8) || decide (Nm.A9 (Nm.j3 g.low.x) (Nm.j3 g.high.x) = 1) || decide (Nm.A9 (Nm.j3 g.low.y) (Nm.j3 g.high.y) = 1)) := by
 have h1 : (okV g.low && okV g.high) = [g.low.x, g.low.y, g.high.x, g.high.y].all o8 := by
  rw [b2M, b2M]; simp [Bool.and_assoc]
 rw [h1, b5g, b5g]
 cases [g.low.x, g.low.y, g.high.x, g.high.y].all o8 <;> cases decide (Nm.A9 (Nm.j3 g.low.x) (Nm.j3 g.high.x) <= 0) <;> cases decide (Nm.A9 (Nm.j3 g.low.y) (Nm.j3 g.high.y) <= 0) <;> rfl
theorem c0D (n : Nms) (a : Am) : a0H n a = if a1K a ≠ 0 then (a1K a, n) else J2 n a.name := rfl
theorem b9j (n : Nms) (p : Pt) : Y3 n p = if (J2 n p.name).1 ≠ 0 then J2 n p.name else if K4 p.shape ≠ 0 then (K4 p.shape, (J2 n p.name).2) else (if okF p.grasp then 0 else 1, (J2 n p.name).2) := rfl
theorem c0g (n : Nms) (s : Sl) : Y2 n s = if (J2 n s.name).1 ≠ 0 then J2 n s.name else (if okF s.frame && decide s.within.D8 && o8 s.within && decide (0 < E9 (Nm.j3 s.within)) then 0 else 1, (J2 n s.name).2) := rfl
theorem b9o (n : Nms) (g : Gt) : Y9 n g = if (J2 n g.name).1 ≠ 0 then J2 n g.name else (if okV g.low && okV g.high && decide (Nm.A9 (Nm.j3 g.low.x) (Nm.j3 g.high.x) <= 0) && decide (Nm.A9 (Nm.j3 g.low.y) (Nm.j3 g.high.y) <= 0) then 0 else 1, (J2 n g.name).2) := rfl
theorem b9V (w : Wk) (hb : Wb 1073741824 w) : FZ 24 [w.c] (ints (a2H w)) := by
 refine l8.of a7E a7F (by exact Nat.le_of_ble_eq_true rfl) fun w' O hw => ?_
 have hcal : callable Tryz.prog 98 = true := by kernel_rfl
 obtain ⟨⟨n1, b1⟩, ⟨n2, b2⟩, ⟨n3, b3⟩, ⟨n4, b4⟩, ⟨n5, b5⟩, b6⟩ := hb
 have hnm := fun (E : Ctx) (hP : E.P = Tryz.prog) (n : Nms) (s : List UInt8) (hs : s.length <= 1099511627776) (hn : n.length <= 1000000) => c1t hP w n s hs hn
 have h6 := a3E _ (b5A (by decide) (b6.mono (m := 17179869184) (by decide)))
 have h7 := U5 w.walk (b6.mono (by decide))
 unfold a2H a9w
 generalize hr1 : D7 a0H [] w.arms = r1
 obtain ⟨e1, m1⟩ := r1
 simp only
 generalize hr3 : D7 Y3 m1 w.parts = r3
 obtain ⟨e3, m3⟩ := r3
 simp only
 generalize hr4 : D7 Y2 m3 w.slots = r4
 obtain ⟨e4, m4⟩ := r4
 simp only
 generalize hr5 : D7 Y9 m4 w.gates = r5
 obtain ⟨e5, m5⟩ := r5
 simp only
 generalize hr2 : D6 K4 w.walls = e2
 rw [c2j, walk_eq]
 generalize [w.walk].all o8 = q6 at *
 generalize E9 (Nm.j3 w.walk) = s7 at *
 obtain ⟨arms, walls, parts, slots, gates, walk⟩ := w
 simp only at n1 n2 n3 n4 n5 b1 b2 b3 b4 b5 hr1 hr2 hr3 hr4 hr5 ⊢
 simp only [a2Q, l5, TT, II, OA, OB, OC, MM, LL, VV, FF, MG, LG, VG, FG]
 simp only [Wk.c, Wk.enc, rsR, ams, wls, pts, sls, gts, rts, rcs, rc, sb, ints, List.map_cons, List.map_nil] at hnm h6 h7 ⊢
 (repeat first | refine uA ?_ | (apply S.exit; exact rfl) | (refine uK ?_ ?_; focus first | omega | trivial | exact id | (intros; simp_all <;> omega)) | simp (disch := omega) only [go_sem, Nat.reduceBEq, Nat.reduceAdd, Nat.reduceLeDiff, Int.reduceToNat, Int.reducePow, ww, List.length_map])
 refine S.cond rfl (fun hc => ?_) (fun hc => ?_)
 ·rw [if_pos (by simp only [Bool.or_eq_true, decide_eq_true_eq] at hc; omega)]
  (repeat first | refine uA ?_ | (apply S.exit; exact rfl) | (refine uK ?_ ?_; focus first | omega | trivial | exact id | (intros; simp_all <;> omega)) | simp (disch := omega) only [go_sem, Nat.reduceBEq, Nat.reduceAdd, Nat.reduceLeDiff, Int.reduceToNat, Int.reducePow, ww])
  exact S.done (d9.out rfl (Imp.refl rfl) rfl)
 rw [if_neg (by simp only [Bool.or_eq_false_iff, decide_eq_false_iff_not] at hc; omega)]
 simp only [Bool.or_eq_false_iff, decide_eq_false_iff_not] at hc
 (repeat first | refine uA ?_ | (apply S.exit; exact rfl) | (refine uK ?_ ?_; focus first | omega | trivial | exact id | (intros; simp_all <;> omega)) | simp (disch := omega) only [go_sem, Nat.reduceBEq, Nat.reduceAdd, Nat.reduceLeDiff, Int.reduceToNat, Int.reducePow, ww, List.length_map])
 refine S.cond rfl (fun hc => ?_) (fun hc => ?_)
 ·rw [if_pos (by simp only [decide_eq_true_eq] at hc; omega)]
  (repeat first | refine uA ?_ | (apply S.exit; exact rfl) | (refine uK ?_ ?_; focus first | omega | trivial | exact id | (intros; simp_all <;> omega)) | simp (disch := omega) only [go_sem, Nat.reduceBEq, Nat.reduceAdd, Nat.reduceLeDiff, Int.reduceToNat, Int.reducePow, ww])
  exact S.done (d9.out rfl (Imp.refl rfl) rfl)
 rw [if_neg (by simp only [decide_eq_false_iff_not] at hc; omega)]
 (repeat first | refine uA ?_ | (apply S.exit; exact rfl) | (refine uK ?_ ?_; focus first | omega | trivial | exact id | (intros; simp_all <;> omega)) | simp (disch := omega) only [go_sem, Nat.reduceBEq, Nat.reduceAdd, Nat.reduceLeDiff, Int.reduceToNat, Int.reducePow, ww, List.length_map])
 refine S.loop (X := Nat × Nms) (fun x => ⟨[(1, .bp 0 0), (4, .clo 98 [.bp 1 0]), (58, ams arms), (59, ints arms.length), (60, ints x.1)], [.box 31 [ams arms, wls walls, pts parts, sls slots, gts gates, .v (.bool walk.neg), sb walk.num, sb walk.den], .box 153 [.rv 2], .row 9 1 (nmR x.2)]⟩)
  (fun x => x.1 <= arms.length /\ x.2.length <= x.1 /\ (e1, m1) = D7 a0H x.2 (arms.drop x.1)) (fun x => arms.length - x.1) (0, []) ⟨Nat.zero_le _, Nat.le_refl _, hr1.symm⟩ (Ent.trans (Ent.c2O 1 0 9 1 rfl rfl rfl) (by (repeat first | refine uA ?_ | (refine ⟨?_, ?_⟩; focus first | rfl | trivial | (simp [slot]; done)) | rfl | trivial | simp))) ?_
 rintro ⟨i, m⟩ ⟨hi, hml, hg⟩
 simp only [ams, wls, pts, sls, gts, sb, ints] at hi hml hg ⊢
 (repeat first | refine uA ?_ | (apply S.exit; exact rfl) | (refine uK ?_ ?_; focus first | omega | trivial | exact id | (intros; simp_all <;> omega)) | simp (disch := omega) only [go_sem, Nat.reduceBEq, Nat.reduceAdd, Nat.reduceLeDiff, Int.reduceToNat, Int.reducePow, ww])
 (refine uJ rfl (fun hc => ?_) fun hc => ?_)
 ·have hgi := List.getElem?_eq_getElem (show i < arms.length by omega)
  generalize arms[i]'(_) = x at hgi
  have hx := b1 x (List.mem_of_getElem? hgi)
  have hst := Q5 (f := a0H) (s := m) hgi
  have hnx := P7 (f := a0H) (s := m) hgi
  have o1 := b3S x hx
  have o2 := fun (E : Ctx) (hP : E.P = Tryz.prog) => hnm E hP m x.name (by have := hx.1; omega) (by omega)
  have hal := a5I m x.name
  rw [c0D] at hst hnx
  generalize a1K x = a1 at *
  generalize J2 m x.name = r at *
  obtain ⟨a2, m'⟩ := r
  simp only [Am.c, Am.enc, lks, sb] at o1 o2 hal hst hnx
  (repeat first | refine uG o1 ?_ | refine uA ?_ | (apply S.exit; exact rfl) | (refine uK ?_ ?_; focus first | omega | trivial | exact id | (intros; simp_all <;> omega)) | simp (disch := omega) only [go_sem, Nat.reduceBEq, Nat.reduceAdd, Nat.reduceLeDiff, Int.reduceToNat, Int.reducePow, ww, hgi, Option.map_some, List.length_map, Am.enc, lks, sb, Int.toNat_natCast] | (refine uD o1 ?_ ?_ ?_; exact tz hw; exact rfl))
  refine S.cond rfl (fun hc2 => ?_) (fun hc2 => ?_)
  ·have h0 : a1 ≠ 0 := by simpa using hc2
   rw [if_pos h0] at hst
   rw [hst h0] at hg
   injection hg with g1 g2
   rw [if_pos (by rw [g1]; exact h0), g1]
   (repeat first | refine uA ?_ | (apply S.exit; exact rfl) | (refine uK ?_ ?_; focus first | omega | trivial | exact id | (intros; simp_all <;> omega)) | simp (disch := omega) only [go_sem, Nat.reduceBEq, Nat.reduceAdd, Nat.reduceLeDiff, Int.reduceToNat, Int.reducePow, ww])
   exact S.done (d9.out rfl (Imp.refl rfl) rfl)
  have h0 : ¬ a1 ≠ 0 := by simpa using hc2
  rw [if_neg h0] at hst hnx
  simp only at hst hnx
  (repeat first | refine uA ?_ | (apply S.exit; exact rfl) | (refine uK ?_ ?_; focus first | omega | trivial | exact id | (intros; simp_all <;> omega)) | simp (disch := omega) only [go_sem, Nat.reduceBEq, Nat.reduceAdd, Nat.reduceLeDiff, Int.reduceToNat, Int.reducePow, ww, hcal, List.map_cons, List.map_nil] | refine q9.t (p8.b6v _ (o2 _ rfl) rfl rfl rfl) ?_)
  refine S.cond rfl (fun hc3 => ?_) (fun hc3 => ?_)
  ·have h1 : a2 ≠ 0 := by simpa using hc3
   rw [hst h1] at hg
   injection hg with g1 g2
   rw [if_pos (by rw [g1]; exact h1), g1]
   (repeat first | refine uA ?_ | (apply S.exit; exact rfl) | (refine uK ?_ ?_; focus first | omega | trivial | exact id | (intros; simp_all <;> omega)) | simp (disch := omega) only [go_sem, Nat.reduceBEq, Nat.reduceAdd, Nat.reduceLeDiff, Int.reduceToNat, Int.reducePow, ww])
   exact S.done (d9.out rfl (Imp.refl rfl) rfl)
  ·have h1 : a2 = 0 := by simpa using hc3
   (repeat first | refine uA ?_ | (apply S.exit; exact rfl) | (refine uK ?_ ?_; focus first | omega | trivial | exact id | (intros; simp_all <;> omega)) | simp (disch := omega) only [go_sem, Nat.reduceBEq, Nat.reduceAdd, Nat.reduceLeDiff, Int.reduceToNat, Int.reducePow, ww])
   refine S.next (x := (i, m)) (i + 1, m') ⟨by simp only; omega, by simp only; omega, by simp only; rw [hg]; exact hnx h1⟩ (by simp only; omega) (by (repeat first | refine uA ?_ | (refine ⟨?_, ?_⟩; focus first | rfl | trivial | (simp [slot]; done)) | rfl | trivial | simp))
 rw [U4 (by omega)] at hg
 injection hg with g1 g2
 subst g1 g2
 rw [if_neg (show ¬ (0 : Int) ≠ 0 by simp)]
 have hm1 : m1.length <= 4 := by omega
 clear hr1 b1 hml hi
 (repeat first | refine uA ?_ | (apply S.exit; exact rfl) | (refine uK ?_ ?_; focus first | omega | trivial | exact id | (intros; simp_all <;> omega)) | simp (disch := omega) only [go_sem, Nat.reduceBEq, Nat.reduceAdd, Nat.reduceLeDiff, Int.reduceToNat, Int.reducePow, ww, List.length_map])
 refine S.loop (X := Nat) (fun i => ⟨[(1, .bp 0 0), (4, .clo 98 [.bp 1 0]), (78, wls walls), (79, ints walls.length), (80, ints i)], [.box 31 [ams arms, wls walls, pts parts, sls slots, gts gates, .v (.bool walk.neg), sb walk.num, sb walk.den], .box 153 [.rv 2], .row 9 1 (nmR m1)]⟩)
  (fun i => i <= walls.length /\ e2 = D6 K4 (walls.drop i)) (fun i => walls.length - i) 0 ⟨Nat.zero_le _, hr2.symm⟩ (by (repeat first | refine uA ?_ | (refine ⟨?_, ?_⟩; focus first | rfl | trivial | (simp [slot]; done)) | rfl | trivial | simp)) ?_
 rintro j ⟨hj, hg⟩
 simp only [ams, wls, pts, sls, gts, sb, ints] at hj hg ⊢
 (repeat first | refine uA ?_ | (apply S.exit; exact rfl) | (refine uK ?_ ?_; focus first | omega | trivial | exact id | (intros; simp_all <;> omega)) | simp (disch := omega) only [go_sem, Nat.reduceBEq, Nat.reduceAdd, Nat.reduceLeDiff, Int.reduceToNat, Int.reducePow, ww])
 (refine uJ rfl (fun hc => ?_) fun hc => ?_)
 ·have hgi := List.getElem?_eq_getElem (show j < walls.length by omega)
  generalize walls[j]'(_) = x at hgi
  have hx := b2 x (List.mem_of_getElem? hgi)
  have hst := P9 (f := K4) hgi
  have hnx := P8 (f := K4) hgi
  have o1 := b2u x hx
  generalize K4 x = a1 at *
  simp only [vts] at o1
  (repeat first | refine uG o1 ?_ | refine uA ?_ | (apply S.exit; exact rfl) | (refine uK ?_ ?_; focus first | omega | trivial | exact id | (intros; simp_all <;> omega)) | simp (disch := omega) only [go_sem, Nat.reduceBEq, Nat.reduceAdd, Nat.reduceLeDiff, Int.reduceToNat, Int.reducePow, ww, hgi, Option.map_some, List.length_map, vts, Int.toNat_natCast] | (refine uD o1 ?_ ?_ ?_; exact tz hw; exact rfl))
  refine S.cond rfl (fun hc2 => ?_) (fun hc2 => ?_)
  ·have h0 : a1 ≠ 0 := by simpa using hc2
   rw [hst h0] at hg
   rw [if_pos (by rw [hg]; exact h0), hg]
   (repeat first | refine uA ?_ | (apply S.exit; exact rfl) | (refine uK ?_ ?_; focus first | omega | trivial | exact id | (intros; simp_all <;> omega)) | simp (disch := omega) only [go_sem, Nat.reduceBEq, Nat.reduceAdd, Nat.reduceLeDiff, Int.reduceToNat, Int.reducePow, ww])
   exact S.done (d9.out rfl (Imp.refl rfl) rfl)
  ·have h0 : a1 = 0 := by simpa using hc2
   (repeat first | refine uA ?_ | (apply S.exit; exact rfl) | (refine uK ?_ ?_; focus first | omega | trivial | exact id | (intros; simp_all <;> omega)) | simp (disch := omega) only [go_sem, Nat.reduceBEq, Nat.reduceAdd, Nat.reduceLeDiff, Int.reduceToNat, Int.reducePow, ww])
   refine S.next (j + 1) ⟨by omega, by rw [hg]; exact hnx h0⟩ (by omega) (by (repeat first | refine uA ?_ | (refine ⟨?_, ?_⟩; focus first | rfl | trivial | (simp [slot]; done)) | rfl | trivial | simp))
 rw [U2 (by omega)] at hg
 subst hg
 rw [if_neg (show ¬ (0 : Int) ≠ 0 by simp)]
 clear hr2 b2 hj
 (repeat first | refine uA ?_ | (apply S.exit; exact rfl) | (refine uK ?_ ?_; focus first | omega | trivial | exact id | (intros; simp_all <;> omega)) | simp (disch := omega) only [go_sem, Nat.reduceBEq, Nat.reduceAdd, Nat.reduceLeDiff, Int.reduceToNat, Int.reducePow, ww, List.length_map])
 refine S.loop (X := Nat × Nms) (fun x => ⟨[(1, .bp 0 0), (4, .clo 98 [.bp 1 0]), (91, pts parts), (92, ints parts.length), (93, ints x.1)], [.box 31 [ams arms, wls walls, pts parts, sls slots, gts gates, .v (.bool walk.neg), sb walk.num, sb walk.den], .box 153 [.rv 2], .row 9 1 (nmR x.2)]⟩)
  (fun x => x.1 <= parts.length /\ x.2.length <= 4 + x.1 /\ (e3, m3) = D7 Y3 x.2 (parts.drop x.1)) (fun x => parts.length - x.1) (0, m1) ⟨Nat.zero_le _, hm1, hr3.symm⟩ (by (repeat first | refine uA ?_ | (refine ⟨?_, ?_⟩; focus first | rfl | trivial | (simp [slot]; done)) | rfl | trivial | simp)) ?_
 rintro ⟨k, m⟩ ⟨hk, hml, hg⟩
 simp only [ams, wls, pts, sls, gts, sb, ints] at hk hml hg ⊢
 (repeat first | refine uA ?_ | (apply S.exit; exact rfl) | (refine uK ?_ ?_; focus first | omega | trivial | exact id | (intros; simp_all <;> omega)) | simp (disch := omega) only [go_sem, Nat.reduceBEq, Nat.reduceAdd, Nat.reduceLeDiff, Int.reduceToNat, Int.reducePow, ww])
 (refine uJ rfl (fun hc => ?_) fun hc => ?_)
 ·have hgi := List.getElem?_eq_getElem (show k < parts.length by omega)
  generalize parts[k]'(_) = x at hgi
  have hx := b3 x (List.mem_of_getElem? hgi)
  have hst := Q5 (f := Y3) (s := m) hgi
  have hnx := P7 (f := Y3) (s := m) hgi
  have o1 := b2u x.shape hx.2.1
  have o3 := b2y x.grasp ⟨hx.2.2.1.mono (by decide), hx.2.2.2.1.mono (by decide), hx.2.2.2.2.mono (by decide)⟩
  have o2 := fun (E : Ctx) (hP : E.P = Tryz.prog) => hnm E hP m x.name (by have := hx.1; omega) (by omega)
  have hal := a5I m x.name
  rw [b9j] at hst hnx
  generalize K4 x.shape = a1 at *
  generalize okF x.grasp = q at *
  generalize J2 m x.name = r at *
  obtain ⟨a2, m'⟩ := r
  obtain ⟨xn, xs, ⟨gx, gy, gh, gt⟩⟩ := x
  simp only [Fr.c, Fr.enc, vts, sb] at o1 o2 o3 hal hst hnx
  (repeat first | refine uA ?_ | (apply S.exit; exact rfl) | (refine uK ?_ ?_; focus first | omega | trivial | exact id | (intros; simp_all <;> omega)) | simp (disch := omega) only [go_sem, Nat.reduceBEq, Nat.reduceAdd, Nat.reduceLeDiff, Int.reduceToNat, Int.reducePow, ww, hgi, Option.map_some, List.length_map, Pt.enc, vts, sb, Int.toNat_natCast, hcal, List.map_cons, List.map_nil] | refine q9.t (p8.b6v _ (o2 _ rfl) rfl rfl rfl) ?_)
  refine S.cond rfl (fun hc2 => ?_) (fun hc2 => ?_)
  ·have h0 : a2 ≠ 0 := by simpa using hc2
   rw [if_pos h0] at hst
   rw [hst h0] at hg
   injection hg with g1 g2
   rw [if_pos (by rw [g1]; exact h0), g1]
   (repeat first | refine uA ?_ | (apply S.exit; exact rfl) | (refine uK ?_ ?_; focus first | omega | trivial | exact id | (intros; simp_all <;> omega)) | simp (disch := omega) only [go_sem, Nat.reduceBEq, Nat.reduceAdd, Nat.reduceLeDiff, Int.reduceToNat, Int.reducePow, ww])
   exact S.done (d9.out rfl (Imp.refl rfl) rfl)
  have h0 : ¬ a2 ≠ 0 := by simpa using hc2
  rw [if_neg h0] at hst hnx
  (repeat first | refine uG o1 ?_ | refine uA ?_ | (apply S.exit; exact rfl) | (refine uK ?_ ?_; focus first | omega | trivial | exact id | (intros; simp_all <;> omega)) | simp (disch := omega) only [go_sem, Nat.reduceBEq, Nat.reduceAdd, Nat.reduceLeDiff, Int.reduceToNat, Int.reducePow, ww] | (refine uD o1 ?_ ?_ ?_; exact tz hw; exact rfl))
  refine S.cond rfl (fun hc3 => ?_) (fun hc3 => ?_)
  ·have h1 : a1 ≠ 0 := by simpa using hc3
   rw [if_pos h1] at hst
   rw [hst h1] at hg
   injection hg with g1 g2
   rw [if_pos (by rw [g1]; exact h1), g1]
   (repeat first | refine uA ?_ | (apply S.exit; exact rfl) | (refine uK ?_ ?_; focus first | omega | trivial | exact id | (intros; simp_all <;> omega)) | simp (disch := omega) only [go_sem, Nat.reduceBEq, Nat.reduceAdd, Nat.reduceLeDiff, Int.reduceToNat, Int.reducePow, ww])
   exact S.done (d9.out rfl (Imp.refl rfl) rfl)
  have h1 : ¬ a1 ≠ 0 := by simpa using hc3
  rw [if_neg h1] at hst hnx
  (repeat first | refine uG o3 ?_ | refine uA ?_ | (apply S.exit; exact rfl) | (refine uK ?_ ?_; focus first | omega | trivial | exact id | (intros; simp_all <;> omega)) | simp (disch := omega) only [go_sem, Nat.reduceBEq, Nat.reduceAdd, Nat.reduceLeDiff, Int.reduceToNat, Int.reducePow, ww] | (refine uD o3 ?_ ?_ ?_; exact tz hw; exact rfl))
  refine S.cond rfl (fun hc4 => ?_) (fun hc4 => ?_)
  ·have h2 : ¬ q = true := by simpa using hc4
   rw [if_neg h2] at hst
   rw [hst (show (1 : Int) ≠ 0 by decide)] at hg
   injection hg with g1 g2
   rw [if_pos (by rw [g1]; decide), g1]
   (repeat first | refine uA ?_ | (apply S.exit; exact rfl) | (refine uK ?_ ?_; focus first | omega | trivial | exact id | (intros; simp_all <;> omega)) | simp (disch := omega) only [go_sem, Nat.reduceBEq, Nat.reduceAdd, Nat.reduceLeDiff, Int.reduceToNat, Int.reducePow, ww])
   exact S.done (d9.out rfl (Imp.refl rfl) rfl)
  ·have h2 : q = true := by simpa using hc4
   rw [if_pos h2] at hnx
   (repeat first | refine uA ?_ | (apply S.exit; exact rfl) | (refine uK ?_ ?_; focus first | omega | trivial | exact id | (intros; simp_all <;> omega)) | simp (disch := omega) only [go_sem, Nat.reduceBEq, Nat.reduceAdd, Nat.reduceLeDiff, Int.reduceToNat, Int.reducePow, ww])
   refine S.next (x := (k, m)) (k + 1, m') ⟨by simp only; omega, by simp only; omega, by simp only; rw [hg]; exact hnx rfl⟩ (by simp only; omega) (by (repeat first | refine uA ?_ | (refine ⟨?_, ?_⟩; focus first | rfl | trivial | (simp [slot]; done)) | rfl | trivial | simp))
 rw [U4 (by omega)] at hg
 injection hg with g1 g2
 subst g1 g2
 rw [if_neg (show ¬ (0 : Int) ≠ 0 by simp)]
 have hm3 : m3.length <= 10 := by omega
 clear hr3 b3 hml hk hm1
 (repeat first | refine uA ?_ | (apply S.exit; exact rfl) | (refine uK ?_ ?_; focus first | omega | trivial | exact id | (intros; simp_all <;> omega)) | simp (disch := omega) only [go_sem, Nat.reduceBEq, Nat.reduceAdd, Nat.reduceLeDiff, Int.reduceToNat, Int.reducePow, ww, List.length_map])
 refine S.loop (X := Nat × Nms) (fun x => ⟨[(1, .bp 0 0), (4, .clo 98 [.bp 1 0]), (116, sls slots), (117, ints slots.length), (118, ints x.1)], [.box 31 [ams arms, wls walls, pts parts, sls slots, gts gates, .v (.bool walk.neg), sb walk.num, sb walk.den], .box 153 [.rv 2], .row 9 1 (nmR x.2)]⟩)
  (fun x => x.1 <= slots.length /\ x.2.length <= 10 + x.1 /\ (e4, m4) = D7 Y2 x.2 (slots.drop x.1)) (fun x => slots.length - x.1) (0, m3) ⟨Nat.zero_le _, hm3, hr4.symm⟩ (by (repeat first | refine uA ?_ | (refine ⟨?_, ?_⟩; focus first | rfl | trivial | (simp [slot]; done)) | rfl | trivial | simp)) ?_
 rintro ⟨k, m⟩ ⟨hk, hml, hg⟩
 simp only [ams, wls, pts, sls, gts, sb, ints] at hk hml hg ⊢
 (repeat first | refine uA ?_ | (apply S.exit; exact rfl) | (refine uK ?_ ?_; focus first | omega | trivial | exact id | (intros; simp_all <;> omega)) | simp (disch := omega) only [go_sem, Nat.reduceBEq, Nat.reduceAdd, Nat.reduceLeDiff, Int.reduceToNat, Int.reducePow, ww])
 (refine uJ rfl (fun hc => ?_) fun hc => ?_)
 ·have hgi := List.getElem?_eq_getElem (show k < slots.length by omega)
  generalize slots[k]'(_) = x at hgi
  have hx := b4 x (List.mem_of_getElem? hgi)
  have hst := Q5 (f := Y2) (s := m) hgi
  have hnx := P7 (f := Y2) (s := m) hgi
  have o1 := b2y x.frame ⟨hx.2.1.1.mono (by decide), hx.2.1.2.1.mono (by decide), hx.2.1.2.2.mono (by decide)⟩
  have o3 := a3E _ (b5A (by decide) (hx.2.2.mono (m := 17179869184) (by decide)))
  have o4 := U5 x.within (hx.2.2.mono (by decide))
  have o2 := fun (E : Ctx) (hP : E.P = Tryz.prog) => hnm E hP m x.name (by have := hx.1; omega) (by omega)
  have hal := a5I m x.name
  rw [c0g] at hst hnx
  rw [c1n] at hst hnx
  generalize okF x.frame = q1 at *
  generalize [x.within].all o8 = q2 at *
  generalize E9 (Nm.j3 x.within) = s3 at *
  generalize J2 m x.name = r at *
  obtain ⟨a2, m'⟩ := r
  obtain ⟨xn, ⟨gx, gy, gh, gt⟩, wi⟩ := x
  simp only [Fr.c, Fr.enc, rts, rcs, rc, sb, ints, List.map_cons, List.map_nil] at o1 o2 o3 o4 hal hst hnx
  (repeat first | refine uA ?_ | (apply S.exit; exact rfl) | (refine uK ?_ ?_; focus first | omega | trivial | exact id | (intros; simp_all <;> omega)) | simp (disch := omega) only [go_sem, Nat.reduceBEq, Nat.reduceAdd, Nat.reduceLeDiff, Int.reduceToNat, Int.reducePow, ww, hgi, Option.map_some, List.length_map, Sl.enc, sb, Int.toNat_natCast, hcal, List.map_cons, List.map_nil] | refine q9.t (p8.b6v _ (o2 _ rfl) rfl rfl rfl) ?_)
  refine S.cond rfl (fun hc2 => ?_) (fun hc2 => ?_)
  ·have h0 : a2 ≠ 0 := by simpa using hc2
   rw [if_pos h0] at hst
   rw [hst h0] at hg
   injection hg with g1 g2
   rw [if_pos (by rw [g1]; exact h0), g1]
   (repeat first | refine uA ?_ | (apply S.exit; exact rfl) | (refine uK ?_ ?_; focus first | omega | trivial | exact id | (intros; simp_all <;> omega)) | simp (disch := omega) only [go_sem, Nat.reduceBEq, Nat.reduceAdd, Nat.reduceLeDiff, Int.reduceToNat, Int.reducePow, ww])
   exact S.done (d9.out rfl (Imp.refl rfl) rfl)
  have h0 : ¬ a2 ≠ 0 := by simpa using hc2
  rw [if_neg h0] at hst hnx
  cases q1
  ·(repeat first | refine uG o1 ?_ | refine uG o4 ?_ | refine uG o3 ?_ | refine uA ?_ | (apply S.exit; exact rfl) | (refine uK ?_ ?_; focus first | omega | trivial | exact id | (intros; simp_all <;> omega)) | simp (disch := omega) only [go_sem, Nat.reduceBEq, Nat.reduceAdd, Nat.reduceLeDiff, Int.reduceToNat, Int.reducePow, ww] | (refine uD o1 ?_ ?_ ?_; exact tz hw; exact rfl) | (refine uD o4 ?_ ?_ ?_; exact tz hw; exact rfl) | (refine uE o3 ?_ ?_ ?_ ?_; exact tz hw; exact rfl; focus (repeat' first | exact l6.nil | exact Imp.refl rfl | exact Imp.frz rfl rfl rfl | (refine Imp.I8 rfl rfl ?_ ?_; (focus ((try simp only [List.length_append]); omega)); (focus first | rfl | assumption)) | refine l6.cons ?_ ?_); done))
   refine S.cond rfl (fun hc3 => ?_) (fun hc3 => by simp at hc3)
   rw [if_neg (by simp)] at hst
   rw [hst (show (1 : Int) ≠ 0 by decide)] at hg
   injection hg with g1 g2
   rw [if_pos (by rw [g1]; decide), g1]
   (repeat first | refine uA ?_ | (apply S.exit; exact rfl) | (refine uK ?_ ?_; focus first | omega | trivial | exact id | (intros; simp_all <;> omega)) | simp (disch := omega) only [go_sem, Nat.reduceBEq, Nat.reduceAdd, Nat.reduceLeDiff, Int.reduceToNat, Int.reducePow, ww])
   exact S.done (d9.out rfl (Imp.refl rfl) rfl)
  (repeat first | refine uG o1 ?_ | refine uG o4 ?_ | refine uG o3 ?_ | refine uA ?_ | (apply S.exit; exact rfl) | (refine uK ?_ ?_; focus first | omega | trivial | exact id | (intros; simp_all <;> omega)) | simp (disch := omega) only [go_sem, Nat.reduceBEq, Nat.reduceAdd, Nat.reduceLeDiff, Int.reduceToNat, Int.reducePow, ww] | (refine uD o1 ?_ ?_ ?_; exact tz hw; exact rfl) | (refine uD o4 ?_ ?_ ?_; exact tz hw; exact rfl) | (refine uE o3 ?_ ?_ ?_ ?_; exact tz hw; exact rfl; focus (repeat' first | exact l6.nil | exact Imp.refl rfl | exact Imp.frz rfl rfl rfl | (refine Imp.I8 rfl rfl ?_ ?_; (focus ((try simp only [List.length_append]); omega)); (focus first | rfl | assumption)) | refine l6.cons ?_ ?_); done))
  refine S.cond rfl (fun hc3 => ?_) (fun hc3 => ?_)
  ·rw [if_neg (by simp; simp at hc3; rcases hc3 with h | h <;> simp [h])] at hst
   rw [hst (show (1 : Int) ≠ 0 by decide)] at hg
   injection hg with g1 g2
   rw [if_pos (by rw [g1]; decide), g1]
   (repeat first | refine uA ?_ | (apply S.exit; exact rfl) | (refine uK ?_ ?_; focus first | omega | trivial | exact id | (intros; simp_all <;> omega)) | simp (disch := omega) only [go_sem, Nat.reduceBEq, Nat.reduceAdd, Nat.reduceLeDiff, Int.reduceToNat, Int.reducePow, ww])
   exact S.done (d9.out rfl (Imp.refl rfl) rfl)
  ·rw [if_pos (by simpa using hc3)] at hnx
   (repeat first | refine uA ?_ | (apply S.exit; exact rfl) | (refine uK ?_ ?_; focus first | omega | trivial | exact id | (intros; simp_all <;> omega)) | simp (disch := omega) only [go_sem, Nat.reduceBEq, Nat.reduceAdd, Nat.reduceLeDiff, Int.reduceToNat, Int.reducePow, ww])
   refine S.next (x := (k, m)) (k + 1, m') ⟨by simp only; omega, by simp only; omega, by simp only; rw [hg]; exact hnx rfl⟩ (by simp only; omega) (by (repeat first | refine uA ?_ | (refine ⟨?_, ?_⟩; focus first | rfl | trivial | (simp [slot]; done)) | rfl | trivial | simp))
 rw [U4 (by omega)] at hg
 injection hg with g1 g2
 subst g1 g2
 rw [if_neg (show ¬ (0 : Int) ≠ 0 by simp)]
 have hm4 : m4.length <= 18 := by omega
 clear hr4 b4 hml hk hm3
 (repeat first | refine uA ?_ | (apply S.exit; exact rfl) | (refine uK ?_ ?_; focus first | omega | trivial | exact id | (intros; simp_all <;> omega)) | simp (disch := omega) only [go_sem, Nat.reduceBEq, Nat.reduceAdd, Nat.reduceLeDiff, Int.reduceToNat, Int.reducePow, ww, List.length_map])
 refine S.loop (X := Nat × Nms) (fun x => ⟨[(1, .bp 0 0), (4, .clo 98 [.bp 1 0]), (148, gts gates), (149, ints gates.length), (150, ints x.1)], [.box 31 [ams arms, wls walls, pts parts, sls slots, gts gates, .v (.bool walk.neg), sb walk.num, sb walk.den], .box 153 [.rv 2], .row 9 1 (nmR x.2)]⟩)
  (fun x => x.1 <= gates.length /\ x.2.length <= 18 + x.1 /\ (e5, m5) = D7 Y9 x.2 (gates.drop x.1)) (fun x => gates.length - x.1) (0, m4) ⟨Nat.zero_le _, hm4, hr5.symm⟩ (by (repeat first | refine uA ?_ | (refine ⟨?_, ?_⟩; focus first | rfl | trivial | (simp [slot]; done)) | rfl | trivial | simp)) ?_
 rintro ⟨k, m⟩ ⟨hk, hml, hg⟩
 simp only [ams, wls, pts, sls, gts, sb, ints] at hk hml hg ⊢
 (repeat first | refine uA ?_ | (apply S.exit; exact rfl) | (refine uK ?_ ?_; focus first | omega | trivial | exact id | (intros; simp_all <;> omega)) | simp (disch := omega) only [go_sem, Nat.reduceBEq, Nat.reduceAdd, Nat.reduceLeDiff, Int.reduceToNat, Int.reducePow, ww])
 (refine uJ rfl (fun hc => ?_) fun hc => ?_)
 ·have hgi := List.getElem?_eq_getElem (show k < gates.length by omega)
  generalize gates[k]'(_) = x at hgi
  obtain ⟨hx0, ⟨hx1, hx2⟩, hx3, hx4⟩ := b5 x (List.mem_of_getElem? hgi)
  have hst := Q5 (f := Y9) (s := m) hgi
  have hnx := P7 (f := Y9) (s := m) hgi
  have o3 := a3E _ (b9A (by decide) (hx1.mono (m := 17179869184) (by decide)) (hx2.mono (m := 17179869184) (by decide)) (hx3.mono (m := 17179869184) (by decide)) (hx4.mono (m := 17179869184) (by decide)))
  have o4 := Q8 x.low.x x.high.x (hx1.mono (by decide)) (hx3.mono (by decide))
  have o5 := Q8 x.low.y x.high.y (hx2.mono (by decide)) (hx4.mono (by decide))
  have o2 := fun (E : Ctx) (hP : E.P = Tryz.prog) => hnm E hP m x.name (by omega) (by omega)
  have hal := a5I m x.name
  rw [b9o] at hst hnx
  rw [c1s] at hst hnx
  generalize [x.low.x, x.low.y, x.high.x, x.high.y].all o8 = q2 at *
  generalize Nm.A9 (Nm.j3 x.low.x) (Nm.j3 x.high.x) = s3 at *
  generalize Nm.A9 (Nm.j3 x.low.y) (Nm.j3 x.high.y) = s4 at *
  generalize J2 m x.name = r at *
  obtain ⟨a2, m'⟩ := r
  obtain ⟨xn, ⟨lx, ly⟩, ⟨ux, uy⟩⟩ := x
  simp only [rts, rcs, rc, sb, ints, List.map_cons, List.map_nil] at o2 o3 o4 o5 hal hst hnx
  (repeat first | refine uA ?_ | (apply S.exit; exact rfl) | (refine uK ?_ ?_; focus first | omega | trivial | exact id | (intros; simp_all <;> omega)) | simp (disch := omega) only [go_sem, Nat.reduceBEq, Nat.reduceAdd, Nat.reduceLeDiff, Int.reduceToNat, Int.reducePow, ww, hgi, Option.map_some, List.length_map, Gt.enc, sb, Int.toNat_natCast, hcal, List.map_cons, List.map_nil] | refine q9.t (p8.b6v _ (o2 _ rfl) rfl rfl rfl) ?_)
  refine S.cond rfl (fun hc2 => ?_) (fun hc2 => ?_)
  ·have h0 : a2 ≠ 0 := by simpa using hc2
   rw [if_pos h0] at hst
   rw [hst h0] at hg
   injection hg with g1 g2
   rw [if_pos (by rw [g1]; exact h0), g1]
   (repeat first | refine uA ?_ | (apply S.exit; exact rfl) | (refine uK ?_ ?_; focus first | omega | trivial | exact id | (intros; simp_all <;> omega)) | simp (disch := omega) only [go_sem, Nat.reduceBEq, Nat.reduceAdd, Nat.reduceLeDiff, Int.reduceToNat, Int.reducePow, ww])
   exact S.done (d9.out rfl (Imp.refl rfl) rfl)
  have h0 : ¬ a2 ≠ 0 := by simpa using hc2
  rw [if_neg h0] at hst hnx
  (repeat first | refine uI ?_ | (apply S.exit; exact rfl) | (refine uK ?_ ?_; focus first | omega | trivial | exact id | (intros; simp_all <;> omega)) | simp (disch := omega) only [go_sem, Nat.reduceBEq, Nat.reduceAdd, Nat.reduceLeDiff, Int.reduceToNat, Int.reducePow, ww])
  refine S.C9 [.gone, .gone, .gone, .box 116 [.v (.string (bs xn)), .v (.bool lx.neg), .v (.string (bs lx.num)), .v (.string (bs lx.den)), .v (.bool ly.neg), .v (.string (bs ly.num)), .v (.string (bs ly.den)), .v (.bool ux.neg), .v (.string (bs ux.num)), .v (.string (bs ux.den)), .v (.bool uy.neg), .v (.string (bs uy.num)), .v (.string (bs uy.den))]] ⟨rfl, True.intro⟩ ?_
  (repeat first | refine uG o4 ?_ | refine uG o5 ?_ | refine uG o3 ?_ | refine uA ?_ | (apply S.exit; exact rfl) | (refine uK ?_ ?_; focus first | omega | trivial | exact id | (intros; simp_all <;> omega)) | simp (disch := omega) only [go_sem, Nat.reduceBEq, Nat.reduceAdd, Nat.reduceLeDiff, Int.reduceToNat, Int.reducePow, ww, J9] | (refine uD o4 ?_ ?_ ?_; exact tz hw; exact rfl) | (refine uD o5 ?_ ?_ ?_; exact tz hw; exact rfl) | (refine uE o3 ?_ ?_ ?_ ?_; exact tz hw; exact rfl; focus (repeat' first | exact l6.nil | exact Imp.refl rfl | exact Imp.frz rfl rfl rfl | (refine Imp.I8 rfl rfl ?_ ?_; (focus ((try simp only [List.length_append, J9]); omega)); (focus first | rfl | assumption)) | refine l6.cons ?_ ?_); done))
  refine S.cond rfl (fun hc3 => ?_) (fun hc3 => ?_)
  ·rw [if_neg (by rw [hc3]; decide)] at hst
   rw [hst (show (1 : Int) ≠ 0 by decide)] at hg
   injection hg with g1 g2
   rw [if_pos (by rw [g1]; decide), g1]
   (repeat first | refine uA ?_ | (apply S.exit; exact rfl) | (refine uK ?_ ?_; focus first | omega | trivial | exact id | (intros; simp_all <;> omega)) | simp (disch := omega) only [go_sem, Nat.reduceBEq, Nat.reduceAdd, Nat.reduceLeDiff, Int.reduceToNat, Int.reducePow, ww])
   exact S.done (d9.out rfl (Imp.refl rfl) rfl)
  ·rw [if_pos (by rw [hc3]; rfl)] at hnx
   (repeat first | refine uA ?_ | (apply S.exit; exact rfl) | (refine uK ?_ ?_; focus first | omega | trivial | exact id | (intros; simp_all <;> omega)) | simp (disch := omega) only [go_sem, Nat.reduceBEq, Nat.reduceAdd, Nat.reduceLeDiff, Int.reduceToNat, Int.reducePow, ww])
   refine S.next (x := (k, m)) (k + 1, m') ⟨by simp only; omega, by simp only; omega, by simp only; rw [hg]; exact hnx rfl⟩ (by simp only; omega) (by (repeat first | refine uA ?_ | (refine ⟨?_, ?_⟩; focus first | rfl | trivial | (simp [slot]; done)) | rfl | trivial | simp))
 rw [U4 (by omega)] at hg
 injection hg with g1 g2
 subst g1
 rw [if_neg (show ¬ (0 : Int) ≠ 0 by simp)]
 (repeat first | refine uG h7 ?_ | refine uG h6 ?_ | refine uA ?_ | (apply S.exit; exact rfl) | (refine uK ?_ ?_; focus first | omega | trivial | exact id | (intros; simp_all <;> omega)) | simp (disch := omega) only [go_sem, Nat.reduceBEq, Nat.reduceAdd, Nat.reduceLeDiff, Int.reduceToNat, Int.reducePow, ww] | (refine uD h7 ?_ ?_ ?_; exact tz hw; exact rfl) | (refine uE h6 ?_ ?_ ?_ ?_; exact tz hw; exact rfl; focus (repeat' first | exact l6.nil | exact Imp.refl rfl | exact Imp.frz rfl rfl rfl | (refine Imp.I8 rfl rfl ?_ ?_; (focus ((try simp only [List.length_append]); omega)); (focus first | rfl | assumption)) | refine l6.cons ?_ ?_); done))
 refine S.cond rfl (fun hc => ?_) (fun hc => ?_)
 ·rw [if_pos (by simpa using hc)]
  (repeat first | refine uA ?_ | (apply S.exit; exact rfl) | (refine uK ?_ ?_; focus first | omega | trivial | exact id | (intros; simp_all <;> omega)) | simp (disch := omega) only [go_sem, Nat.reduceBEq, Nat.reduceAdd, Nat.reduceLeDiff, Int.reduceToNat, Int.reducePow, ww])
  exact S.done (d9.out rfl (Imp.refl rfl) rfl)
 ·rw [if_neg (by simpa using hc)]
  (repeat first | refine uA ?_ | (apply S.exit; exact rfl) | (refine uK ?_ ?_; focus first | omega | trivial | exact id | (intros; simp_all <;> omega)) | simp (disch := omega) only [go_sem, Nat.reduceBEq, Nat.reduceAdd, Nat.reduceLeDiff, Int.reduceToNat, Int.reducePow, ww])
  exact S.done (d9.out rfl (Imp.refl rfl) rfl)
open Go Eng
def a2O : l9 := ⟨212, [.tmp 4], .seq (.reg [OA 2 (.box 31 (TT 0)), OA 3 (.box 37 (TT 1)), OA 4 (.mv (II 0))]) (.seq (.seq (.reg [LL 18 8 2, OA 19 (.call 24 [TT 18]), MM 5 19]) (.seq (.reg [MM 20 5, OA 21 (.bin .neq (TT 20) (II 0))]) (.cond (TT
 21) (.seq (.reg [MM 22 5, MM 4 22]) .ret) .skip))) (.seq (.seq (.reg [FF 23 3 3, VV 24 23, OA 25 (.len false (TT 24)), OA 26 (.bin .gtr (TT 25) (II 4))]) (.cond (TT 26) (.seq (.reg [OA 4 (.mv (II 2))]) .ret) .skip)) (.seq (.seq
 (.reg [FF 27 0 3, VV 28 27, OA 29 (.bin .lss (TT 28) (II 0)), MM 30 29, FG 31 0 3 30 false, VG 32 31 30 false, OC 33 (.bin .gtr (TT 32) (II 2000)) 30 false, OA 34 (.pick (TT 30) (.const (.bool true)) (TT 33)), MM 35 34, FG 36 1
 3 35 false, VG 37 36 35 false, OC 38 (.len false (TT 37)) 35 false, FG 39 0 2 35 false, VG 40 39 35 false, OC 41 (.len false (TT 40)) 35 false, OC 42 (.bin .neq (TT 38) (TT 41)) 35 false, OA 43 (.pick (TT 35) (.const (.bool
 true)) (TT 42)), MM 44 43, FG 45 2 3 44 false, VG 46 45 44 false, OC 47 (.len false (TT 46)) 44 false, FG 48 2 2 44 false, VG 49 48 44 false, OC 50 (.len false (TT 49)) 44 false, OC 51 (.bin .neq (TT 47) (TT 50)) 44 false, OA 52
 (.pick (TT 44) (.const (.bool true)) (TT 51)), MM 53 52, FG 54 4 3 53 false, VG 55 54 53 false, OC 56 (.len false (TT 55)) 53 false, FG 57 4 2 53 false, VG 58 57 53 false, OC 59 (.len false (TT 58)) 53 false, OC 60 (.bin .neq
 (TT 56) (TT 59)) 53 false, OA 61 (.pick (TT 53) (.const (.bool true)) (TT 60))]) (.cond (TT 61) (.seq (.reg [OA 4 (.mv (II 1))]) .ret) .skip)) (.seq (.seq (.reg [FF 62 1 3, VV 63 62, OA 64 (.len false (TT 63)), OA 65 (.mv (II
 0))]) (.block 0 (.loop (.seq (.reg [OA 66 (.bin .lss (TT 65) (TT 64))]) (.seq (.cond (TT 66) .skip (.exit 0)) (.seq (.block 1 (.seq (.reg [MM 67 65, OA 68 (.j4 4 (TT 63) (TT 65)), LL 69 4 68, OA 7 (.alloc 90 [.slice none 0 0,
 .slice none 0 0, .bool false, .int .i64 0]), MM 6 67, OB (.store 4 (TT 7) (TT 69))]) (.seq (.reg [FF 70 0 2, VV 71 70, MM 72 6, OA 73 (.j4 12 (TT 71) (TT 72)), FF 74 11 73, VV 75 74, MM 8 75]) (.seq (.seq (.reg [FF 76 0 7, VV
 77 76, OA 78 (.call 140 [TT 77]), OA 79 (.un .not (TT 78)), MM 80 79, FG 81 1 7 80 false, VG 82 81 80 false, OC 83 (.call 140 [TT 82]) 80 false, OC 84 (.un .not (TT 83)) 80 false, OA 85 (.pick (TT 80) (.const (.bool true)) (TT
 84))]) (.cond (TT 85) (.seq (.reg [OA 4 (.mv (II 3))]) .ret) .skip)) (.seq (.seq (.C9 [.q, .q, .q, .q, .q, .q, .q, .q, .q] [FF 86 0 2, VV 87 86, MM 88 6, OA 89 (.j4 12 (TT 87) (TT 88)), LL 90 12 89, FF 91 0 7, VV 92 91, OA
 93 (.call 141 [TT 90, TT 92]), MM 9 93]) (.seq (.reg [MM 94 9, OA 95 (.bin .neq (TT 94) (II 0))]) (.cond (TT 95) (.seq (.reg [MM 96 9, MM 4 96]) .ret) .skip))) (.seq (.seq (.reg [FF 97 1 7, VV 98 97, OA 99 (.len false (TT 98)),
 MM 100 8, OA 101 (.len false (TT 100)), OA 102 (.bin .neq (TT 99) (TT 101)), MM 103 102, FG 104 3 7 103 false, VG 105 104 103 false, OC 106 (.bin .lss (TT 105) (II (-1))) 103 false, OA 107 (.pick (TT 103) (.const (.bool true))
 (TT 106)), MM 108 107, FG 109 3 7 108 false, VG 110 109 108 false, FG 111 2 2 108 false, VG 112 111 108 false, OC 113 (.len false (TT 112)) 108 false, OC 114 (.bin .geq (TT 110) (TT 113)) 108 false, OA 115 (.pick (TT 108)
 (.const (.bool true)) (TT 114))]) (.cond (TT 115) (.seq (.reg [OA 4 (.mv (II 1))]) .ret) .skip)) (.seq (.seq (.reg [FF 116 1 7, VV 117 116, OA 118 (.len false (TT 117)), OA 119 (.mv (II 0))]) (.block 2 (.loop (.seq (.reg [OA 120
 (.bin .lss (TT 119) (TT 118))]) (.seq (.cond (TT 120) .skip (.exit 2)) (.seq (.block 3 (.seq (.reg [MM 121 119, OA 122 (.j4 3 (TT 117) (TT 119)), LL 123 3 122, OA 11 (.alloc 29 [.bool false, .string ⟨#[]⟩, .string ⟨#[]⟩]), MM
 10 121, OB (.store 3 (TT 11) (TT 123))]) (.seq (.C9 [.q, .q, .q, .q, .q, .q, .q, .q, .q, .q, .q, .q, .q, .q, .q, .q, .q, .q, .q] [LL 124 3 11, MM 125 8, MM 126 10, OA 127 (.j4 16 (TT 125) (TT 126)), FF 128 9 127, LL 129 3
 128, OA 130 (.call 52 [TT 124, TT 129]), OA 131 (.bin .gtr (TT 130) (II 0)), MM 132 131, LG 133 3 11 132 false, OC 134 (.call 142 [TT 133]) 132 false, MG 135 8 132 false, MG 136 10 132 false, OC 137 (.j4 16 (TT 135) (TT 136))
 132 false, FG 138 9 137 132 false, LG 139 3 138 132 false, OC 140 (.call 52 [TT 134, TT 139]) 132 false, OC 141 (.bin .gtr (TT 140) (II 0)) 132 false, OA 142 (.pick (TT 132) (.const (.bool true)) (TT 141))]) (.cond (TT 142)
 (.seq (.reg [OA 4 (.mv (II 1))]) .ret) .skip)))) (.reg [OA 143 (.bin .add (TT 119) (II 1)), MM 119 143]))))))) (.seq (.reg [FF 144 1 3, VV 145 144, MM 146 6, OA 147 (.a1R 4 (TT 145) none (some (TT 146))), OA 148 (.len false (TT
 147)), OA 149 (.mv (II 0))]) (.block 4 (.loop (.seq (.reg [OA 150 (.bin .lss (TT 149) (TT 148))]) (.seq (.cond (TT 150) .skip (.exit 4)) (.seq (.block 5 (.seq (.reg [OA 151 (.j4 4 (TT 147) (TT 149)), LL 152 4 151, OA 13
 (.alloc 90 [.slice none 0 0, .slice none 0 0, .bool false, .int .i64 0]), OB (.store 4 (TT 13) (TT 152))]) (.seq (.reg [FF 153 3 7, VV 154 153, OA 155 (.bin .geq (TT 154) (II 0)), MM 156 155, FG 157 3 7 156 true, VG 158 157 156
 true, FG 159 3 13 156 true, VG 160 159 156 true, OC 161 (.bin .eql (TT 158) (TT 160)) 156 true, OA 162 (.pick (TT 156) (TT 161) (.const (.bool false)))]) (.cond (TT 162) (.seq (.reg [OA 4 (.mv (II 10))]) .ret) .skip)))) (.reg
 [OA 163 (.bin .add (TT 149) (II 1)), MM 149 163])))))))))))))) (.reg [OA 164 (.bin .add (TT 65) (II 1)), MM 65 164]))))))) (.seq (.seq (.reg [FF 165 2 3, VV 166 165, OA 167 (.len false (TT 166)), OA 168 (.mv (II 0))]) (.block 6
 (.loop (.seq (.reg [OA 169 (.bin .lss (TT 168) (TT 167))]) (.seq (.cond (TT 169) .skip (.exit 6)) (.seq (.block 7 (.seq (.reg [OA 170 (.j4 10 (TT 166) (TT 168)), LL 171 10 170, OA 15 (.alloc 55 [.bool false, .string ⟨#[]⟩,
 .string ⟨#[]⟩, .bool false, .string ⟨#[]⟩, .string ⟨#[]⟩, .bool false, .bool false, .string ⟨#[]⟩, .string ⟨#[]⟩]), OB (.store 10 (TT 15) (TT 171))]) (.seq (.reg [FF 172 0 15, FF 173 0 172, LL 174 3 173, FF 175 0 15, FF 176 3
 175, LL 177 3 176, FF 178 6 15, FF 179 1 178, LL 180 3 179, OA 181 (.bsl 29 3 3 [.bool false, .string ⟨#[]⟩, .string ⟨#[]⟩] [(0, TT 174), (1, TT 177), (2, TT 180)]), OA 182 (.call 140 [TT 181]), OA 183 (.un .not (TT 182)), MM
 184 183, FG 185 6 15 184 false, FG 186 0 185 184 false, VG 187 186 184 false, MG 188 187 184 false, FG 189 6 15 188 true, FG 190 1 189 188 true, LG 191 3 190 188 true, OC 192 (.call 15 [TT 191]) 188 true, OC 193 (.bin .neq (TT
 192) (II 0)) 188 true, OC 194 (.pick (TT 188) (TT 193) (.const (.bool false))) 184 false, OA 195 (.pick (TT 184) (.const (.bool true)) (TT 194))]) (.cond (TT 195) (.seq (.reg [OA 4 (.mv (II 3))]) .ret) .skip)))) (.reg [OA 196
 (.bin .add (TT 168) (II 1)), MM 168 196]))))))) (.seq (.seq (.reg [FF 197 3 3, VV 198 197, OA 199 (.len false (TT 198)), OA 200 (.mv (II 0))]) (.block 8 (.loop (.seq (.reg [OA 201 (.bin .lss (TT 200) (TT 199))]) (.seq (.cond (TT
 201) .skip (.exit 8)) (.seq (.block 9 (.seq (.reg [OA 202 (.j4 6 (TT 198) (TT 200)), LL 203 6 202, OA 17 (.alloc 51 [.bool false, .string ⟨#[]⟩, .string ⟨#[]⟩, .bool false, .string ⟨#[]⟩, .string ⟨#[]⟩]), OB (.store 6 (TT 17)
 (TT 203))]) (.seq (.reg [FF 204 0 17, LL 205 3 204, FF 206 3 17, LL 207 3 206, OA 208 (.bsl 29 3 2 [.bool false, .string ⟨#[]⟩, .string ⟨#[]⟩] [(0, TT 205), (1, TT 207)]), OA 209 (.call 140 [TT 208]), OA 210 (.un .not (TT
 209))]) (.cond (TT 210) (.seq (.reg [OA 4 (.mv (II 3))]) .ret) .skip)))) (.reg [OA 211 (.bin .add (TT 200) (II 1)), MM 200 211]))))))) (.seq (.reg [OA 4 (.mv (II 0))]) .ret)))))))⟩
theorem a7z : j6 eff Tryz.prog Tryz.f39 = some a2O := by kernel_rfl
theorem a7C : Tryz.prog.funcs[39]? = some Tryz.f39 := Tryz.func39
theorem b8R (v s : Rat) : 0 < Nm.A9 (J5 v) s <-> (0 < Nm.A9 v s \/ 0 < Nm.A9 (-v) s) := by
 rw [a4Q, a4Q, a4Q]
 have hn : v.num < 0 <-> v < 0 := by
  have := @Rat.num_nonneg v
  rw [<- Rat.not_le, <- this]; omega
 unfold J5
 by_cases h : v < 0
 ·rw [if_pos (hn.2 h)]
  constructor
  ·exact .inr
  ·rintro (h1 | h1)
   ·grind
   ·exact h1
 ·rw [if_neg (fun h2 => h (hn.1 h2))]
  constructor
  ·exact .inl
  ·rintro (h1 | h1)
   ·exact h1
   ·grind
theorem b8K (h : List Int) (n k : Int) : (a2o h n).contains k = (h.contains k || decide (n = k)) := by
 rw [Bool.eq_iff_iff]
 unfold a2o
 split
 ·rename_i h1
  simp only [List.contains_iff_mem, Bool.or_eq_true, decide_eq_true_eq] at h1 ⊢
  exact ⟨.inl, fun h2 => h2.elim id fun h3 => h3 ▸ h1⟩
 ·simp only [List.contains_iff_mem, List.mem_append, List.mem_singleton, Bool.or_eq_true, decide_eq_true_eq]
  exact ⟨fun h2 => h2.imp id Eq.symm, fun h2 => h2.imp id Eq.symm⟩
theorem b5w {α : Type} {f : α -> Bool} {l : List α} {i : Nat} {x : α} (h : l[i]? = some x) : (l.take (i + 1)).any f = ((l.take i).any f || f x) := by
 rw [List.take_succ, h]; simp
theorem b9F (f : Fr) : a0Z f = !(!([f.x, f.y, f.t].all F6) || (f.half && !decide (E9 (Nm.j3 f.t) = 0))) := by
 rw [a3S]
 unfold a0Z a2t
 cases F6 f.x <;> cases F6 f.y <;> cases F6 f.t <;> cases f.half <;> cases decide (E9 (Nm.j3 f.t) = 0) <;> rfl
theorem b9d (w : Wk) (s : Stt) (hb : Wb 1073741824 w) (hs : Stb 1073741824 s) : FZ 39 [w.c, s.c] (ints (I6 w s)) := by
 refine l8.of a7C a7z (by exact Nat.le_of_ble_eq_true rfl) fun w' O hw => ?_
 have hwk := b9V w hb
 obtain ⟨⟨n1, b1⟩, ⟨n2, b2⟩, ⟨n3, b3⟩, n4⟩ := hs
 obtain ⟨m1, a1⟩ := hb.arms
 have m2 := hb.parts.1
 have m3 := hb.gates.1
 unfold I6
 generalize a2H w = e0 at *
 generalize hr : D7 (a1m w.parts.length) [] (w.arms.zip s.arms) = r
 obtain ⟨e1, hfin⟩ := r
 generalize hg1 : s.parts.all a0Z = pA
 generalize hg2 : s.people.all a2w = pB
 obtain ⟨arms, walls, parts, slots, gates, walk⟩ := w
 obtain ⟨tick, sarms, sparts, people, sgates⟩ := s
 simp only at *
 simp only [a2O, l5, TT, II, OA, OB, OC, MM, LL, VV, FF, MG, LG, VG, FG]
 simp only [Wk.c, Wk.enc, Stt.c, Stt.enc, ams, wls, pts, sls, gts, E5, frs, vts, bls, sb, ints] at hwk ⊢
 (repeat first | refine uA ?_ | (apply S.exit; exact rfl) | (refine uK ?_ ?_; focus first | omega | trivial | exact id | (intros; simp_all <;> omega)) | simp (disch := omega) only [go_sem, Nat.reduceBEq, Nat.reduceAdd, Nat.reduceLeDiff, Int.reduceToNat, Int.reducePow, ww] | (refine uD hwk ?_ ?_ ?_; exact tz hw; exact rfl))
 refine S.cond rfl (fun hc => ?_) (fun hc => ?_)
 ·rw [if_pos (by simpa using hc)]
  (repeat first | refine uA ?_ | (apply S.exit; exact rfl) | (refine uK ?_ ?_; focus first | omega | trivial | exact id | (intros; simp_all <;> omega)) | simp (disch := omega) only [go_sem, Nat.reduceBEq, Nat.reduceAdd, Nat.reduceLeDiff, Int.reduceToNat, Int.reducePow, ww])
  exact S.done (d9.out rfl (Imp.refl rfl) rfl)
 rw [if_neg (by simpa using hc)]
 (repeat first | refine uA ?_ | (apply S.exit; exact rfl) | (refine uK ?_ ?_; focus first | omega | trivial | exact id | (intros; simp_all <;> omega)) | simp (disch := omega) only [go_sem, Nat.reduceBEq, Nat.reduceAdd, Nat.reduceLeDiff, Int.reduceToNat, Int.reducePow, ww, List.length_map])
 refine S.cond rfl (fun hc => ?_) (fun hc => ?_)
 ·rw [if_pos (by simp only [decide_eq_true_eq] at hc; omega)]
  (repeat first | refine uA ?_ | (apply S.exit; exact rfl) | (refine uK ?_ ?_; focus first | omega | trivial | exact id | (intros; simp_all <;> omega)) | simp (disch := omega) only [go_sem, Nat.reduceBEq, Nat.reduceAdd, Nat.reduceLeDiff, Int.reduceToNat, Int.reducePow, ww])
  exact S.done (d9.out rfl (Imp.refl rfl) rfl)
 rw [if_neg (by simp only [decide_eq_false_iff_not] at hc; omega)]
 (repeat first | refine uA ?_ | (apply S.exit; exact rfl) | (refine uK ?_ ?_; focus first | omega | trivial | exact id | (intros; simp_all <;> omega)) | simp (disch := omega) only [go_sem, Nat.reduceBEq, Nat.reduceAdd, Nat.reduceLeDiff, Int.reduceToNat, Int.reducePow, ww, List.length_map])
 refine S.cond rfl (fun hc => ?_) (fun hc => ?_)
 ·rw [if_pos (by simp only [Bool.or_eq_true, Bool.not_eq_true', decide_eq_true_eq, decide_eq_false_iff_not] at hc; omega)]
  (repeat first | refine uA ?_ | (apply S.exit; exact rfl) | (refine uK ?_ ?_; focus first | omega | trivial | exact id | (intros; simp_all <;> omega)) | simp (disch := omega) only [go_sem, Nat.reduceBEq, Nat.reduceAdd, Nat.reduceLeDiff, Int.reduceToNat, Int.reducePow, ww])
  exact S.done (d9.out rfl (Imp.refl rfl) rfl)
 have hls : sarms.length = arms.length := by simp only [Bool.or_eq_false_iff, Bool.not_eq_false', decide_eq_true_eq, decide_eq_false_iff_not] at hc; omega
 rw [if_neg (by simp only [Bool.or_eq_false_iff, Bool.not_eq_false', decide_eq_true_eq, decide_eq_false_iff_not] at hc; omega)]
 clear hc
 (repeat first | refine uA ?_ | (apply S.exit; exact rfl) | (refine uK ?_ ?_; focus first | omega | trivial | exact id | (intros; simp_all <;> omega)) | simp (disch := omega) only [go_sem, Nat.reduceBEq, Nat.reduceAdd, Nat.reduceLeDiff, Int.reduceToNat, Int.reducePow, ww, List.length_map])
 refine S.loop (X := Nat × List Int) (fun x => ⟨[(2, .bp 0 0), (3, .bp 1 0), (63, E5 sarms), (64, ints sarms.length), (65, ints x.1)], [.box 31 [ams arms, wls walls, pts parts, sls slots, gts gates, .v (.bool walk.neg), sb walk.num, sb walk.den], .box 37 [ints tick, E5 sarms, frs sparts, vts people, bls sgates]]⟩)
  (fun x => x.1 <= sarms.length /\ (∀ k, x.2.contains k = (sarms.take x.1).any fun y => decide (y.holds = k)) /\ (e1, hfin) = D7 (a1m parts.length) x.2 ((arms.zip sarms).drop x.1)) (fun x => sarms.length - x.1) (0, []) ⟨Nat.zero_le _, fun k => rfl, hr.symm⟩ (by (repeat first | refine uA ?_ | (refine ⟨?_, ?_⟩; focus first | rfl | trivial | (simp [slot]; done)) | rfl | trivial | simp)) ?_
 rintro ⟨i, h⟩ ⟨hi, hk, hg⟩
 simp only [ams, wls, pts, sls, gts, E5, frs, vts, bls, sb, ints] at hi hk hg ⊢
 (repeat first | refine uA ?_ | (apply S.exit; exact rfl) | (refine uK ?_ ?_; focus first | omega | trivial | exact id | (intros; simp_all <;> omega)) | simp (disch := omega) only [go_sem, Nat.reduceBEq, Nat.reduceAdd, Nat.reduceLeDiff, Int.reduceToNat, Int.reducePow, ww])
 (refine uJ rfl (fun hc => ?_) fun hc => ?_)
 ·have hgx := List.getElem?_eq_getElem (show i < sarms.length by omega)
  have hga := List.getElem?_eq_getElem (show i < arms.length by omega)
  generalize sarms[i]'_ = x at hgx
  generalize arms[i]'_ = a at hga
  have hz := a4V hga hgx
  have hst := Q5 (f := a1m parts.length) (s := h) hz
  have hnx := P7 (f := a1m parts.length) (s := h) hz
  have hv : a1m parts.length h (a, x) = if a3f a x parts.length ≠ 0 then (a3f a x parts.length, h) else if (decide (0 <= x.holds) && h.contains x.holds) = true then (10, h) else (0, a2o h x.holds) := rfl
  rw [hv] at hst hnx
  clear hv
  have hxb := b1 x (List.mem_of_getElem? hgx)
  have hab := a1 a (List.mem_of_getElem? hga)
  have o1 := a7s x.q ⟨by have := hxb.1.1; omega, fun r hr => (hxb.1.2 r hr).mono (by decide)⟩
  have o2 := a7s x.v ⟨by have := hxb.2.1; omega, fun r hr => (hxb.2.2 r hr).mono (by decide)⟩
  have o3 := b7A a x.q hab hxb.1
  have hone : a3f a x parts.length = if (x.q.all F6 && x.v.all F6) = false then 3 else if a1G a x.q ≠ 0 then a1G a x.q else if x.v.length ≠ a.links.length \/ x.holds < -1 \/ (parts.length : Int) <= x.holds then 1 else D6 Y4 (a.links.zip x.v) := rfl
  have hkh := hk x.holds
  have hkn : ∀ k, (a2o h x.holds).contains k = (sarms.take (i + 1)).any fun y => decide (y.holds = k) := fun k => by rw [b8K, hk, b5w hgx]
  generalize h.contains x.holds = c1 at *
  generalize a2o h x.holds = h' at *
  generalize a3f a x parts.length = o at *
  generalize hq1 : x.q.all F6 = q1 at *
  generalize hq2 : x.v.all F6 = q2 at *
  generalize a1G a x.q = fe at *
  obtain ⟨hvn, hvb⟩ := hxb.2
  obtain ⟨_, _, hln, hlb⟩ := hab
  obtain ⟨an, ⟨bx, by', bh, bt⟩, links⟩ := a
  obtain ⟨xq, xv, xp, xh⟩ := x
  have hai : (i : Int) < arms.length := by omega
  simp only [Am.c, Am.enc, lks, rts, sb, ints] at o1 o2 o3 hone hkh hkn hvn hvb hln hlb hst hnx
  clear hq1 hq2 hk
  (repeat first | refine uA ?_ | (apply S.exit; exact rfl) | (refine uK ?_ ?_; focus first | omega | trivial | exact id | (intros; simp_all <;> omega)) | simp (disch := omega) only [go_sem, Nat.reduceBEq, Nat.reduceAdd, Nat.reduceLeDiff, Int.reduceToNat, Int.reducePow, ww, hga, hgx, Option.map_some, List.length_map, Am.enc, Ast.enc, lks, rts, sb, ints, Int.toNat_natCast] | (refine uD o1 ?_ ?_ ?_; exact tz hw; exact rfl) | (refine uD o2 ?_ ?_ ?_; exact tz hw; exact rfl))
  refine S.cond rfl (fun hc2 => ?_) (fun hc2 => ?_)
  ·rw [if_pos (by cases q1 <;> cases q2 <;> simp_all)] at hone
   subst hone
   rw [if_pos (by decide)] at hst
   rw [hst (show (3 : Int) ≠ 0 by decide)] at hg
   injection hg with g1 g2
   rw [if_pos (by rw [g1]; decide), g1]
   (repeat first | refine uA ?_ | (apply S.exit; exact rfl) | (refine uK ?_ ?_; focus first | omega | trivial | exact id | (intros; simp_all <;> omega)) | simp (disch := omega) only [go_sem, Nat.reduceBEq, Nat.reduceAdd, Nat.reduceLeDiff, Int.reduceToNat, Int.reducePow, ww])
   exact S.done (d9.out rfl (Imp.refl rfl) rfl)
  rw [if_neg (by cases q1 <;> cases q2 <;> simp_all)] at hone
  (repeat first | refine uA ?_ | (apply S.exit; exact rfl) | (refine uK ?_ ?_; focus first | omega | trivial | exact id | (intros; simp_all <;> omega)) | simp (disch := omega) only [go_sem, Nat.reduceBEq, Nat.reduceAdd, Nat.reduceLeDiff, Int.reduceToNat, Int.reducePow, ww, hga, Option.map_some, List.length_map, Am.enc, lks, sb, Int.toNat_natCast] | (refine uD o3 ?_ ?_ ?_; exact tz hw; exact rfl))
  refine S.cond rfl (fun hc3 => ?_) (fun hc3 => ?_)
  ·have h0 : fe ≠ 0 := by simpa using hc3
   rw [if_pos h0] at hone
   subst hone
   rw [if_pos h0] at hst
   rw [hst h0] at hg
   injection hg with g1 g2
   rw [if_pos (by rw [g1]; exact h0), g1]
   (repeat first | refine uA ?_ | (apply S.exit; exact rfl) | (refine uK ?_ ?_; focus first | omega | trivial | exact id | (intros; simp_all <;> omega)) | simp (disch := omega) only [go_sem, Nat.reduceBEq, Nat.reduceAdd, Nat.reduceLeDiff, Int.reduceToNat, Int.reducePow, ww])
   exact S.done (d9.out rfl (Imp.refl rfl) rfl)
  rw [if_neg (by simpa using hc3)] at hone
  (repeat first | refine uA ?_ | (apply S.exit; exact rfl) | (refine uK ?_ ?_; focus first | omega | trivial | exact id | (intros; simp_all <;> omega)) | simp (disch := omega) only [go_sem, Nat.reduceBEq, Nat.reduceAdd, Nat.reduceLeDiff, Int.reduceToNat, Int.reducePow, ww, List.length_map])
  refine S.cond rfl (fun hc4 => ?_) (fun hc4 => ?_)
  ·rw [if_pos (by simp only [Bool.or_eq_true, Bool.not_eq_true', decide_eq_true_eq, decide_eq_false_iff_not] at hc4; omega)] at hone
   subst hone
   rw [if_pos (by decide)] at hst
   rw [hst (show (1 : Int) ≠ 0 by decide)] at hg
   injection hg with g1 g2
   rw [if_pos (by rw [g1]; decide), g1]
   (repeat first | refine uA ?_ | (apply S.exit; exact rfl) | (refine uK ?_ ?_; focus first | omega | trivial | exact id | (intros; simp_all <;> omega)) | simp (disch := omega) only [go_sem, Nat.reduceBEq, Nat.reduceAdd, Nat.reduceLeDiff, Int.reduceToNat, Int.reducePow, ww])
   exact S.done (d9.out rfl (Imp.refl rfl) rfl)
  rw [if_neg (by simp only [Bool.or_eq_false_iff, Bool.not_eq_false', decide_eq_true_eq, decide_eq_false_iff_not] at hc4; omega)] at hone
  have hvl : xv.length = links.length := by simp only [Bool.or_eq_false_iff, Bool.not_eq_false', decide_eq_true_eq, decide_eq_false_iff_not] at hc4; omega
  clear hc3 hc4 hc2 o1 o2 o3
  (repeat first | refine uA ?_ | (apply S.exit; exact rfl) | (refine uK ?_ ?_; focus first | omega | trivial | exact id | (intros; simp_all <;> omega)) | simp (disch := omega) only [go_sem, Nat.reduceBEq, Nat.reduceAdd, Nat.reduceLeDiff, Int.reduceToNat, Int.reducePow, ww, List.length_map])
  refine S.loop (X := Nat) (fun j => ⟨[(2, .bp 0 0), (3, .bp 1 0), (63, E5 sarms), (64, ints sarms.length), (65, ints i), (6, ints i), (7, .bp 2 0), (8, lks links), (117, rts xv), (118, ints xv.length), (119, ints j)], [.box 31 [ams arms, wls walls, pts parts, sls slots, gts gates, .v (.bool walk.neg), sb walk.num, sb walk.den], .box 37 [ints tick, E5 sarms, frs sparts, vts people, bls sgates], .box 90 [rts xq, rts xv, .v (.bool xp), ints xh]]⟩)
   (fun j => j <= xv.length /\ o = D6 Y4 ((links.zip xv).drop j)) (fun j => xv.length - j) 0 ⟨Nat.zero_le _, hone⟩ (by (repeat first | refine uA ?_ | (refine ⟨?_, ?_⟩; focus first | rfl | trivial | (simp [slot]; done)) | rfl | trivial | simp)) ?_
  rintro j ⟨hj, hsp⟩
  simp only [ams, wls, pts, sls, gts, E5, frs, vts, bls, lks, rts, sb, ints] at hj hsp ⊢
  (repeat first | refine uA ?_ | (apply S.exit; exact rfl) | (refine uK ?_ ?_; focus first | omega | trivial | exact id | (intros; simp_all <;> omega)) | simp (disch := omega) only [go_sem, Nat.reduceBEq, Nat.reduceAdd, Nat.reduceLeDiff, Int.reduceToNat, Int.reducePow, ww])
  (refine uJ rfl (fun hc => ?_) fun hc => ?_)
  ·have hgv := List.getElem?_eq_getElem (show j < xv.length by omega)
   have hgl := List.getElem?_eq_getElem (show j < links.length by omega)
   generalize xv[j]'_ = v at hgv
   generalize links[j]'_ = l at hgl
   have hz2 := a4V hgl hgv
   have s1 := P9 (f := Y4) hz2
   have s2 := P8 (f := Y4) hz2
   have vb := hvb v (List.mem_of_getElem? hgv)
   have lb := (hlb l (List.mem_of_getElem? hgl)).2.2.2.1
   have p1 := Q8 v l.speed (vb.mono (by decide)) (lb.mono (by decide))
   have p2 := b8u v (vb.mono (by decide))
   have p3 := Q8 (Nm.ofQ (- Nm.j3 v)) l.speed ((b7J vb (by decide)).mono (by decide)) (lb.mono (by decide))
   rw [Nm.F7] at p3
   have hsv : Y4 (l, v) = if (0 < Nm.A9 (Nm.j3 v) (Nm.j3 l.speed) \/ 0 < Nm.A9 (- Nm.j3 v) (Nm.j3 l.speed)) then 1 else 0 := by
    unfold Y4
    simp only [b8R]
   rw [hsv] at s1 s2
   unfold rq at p2
   generalize Nm.A9 (Nm.j3 v) (Nm.j3 l.speed) = c2 at *
   generalize Nm.A9 (- Nm.j3 v) (Nm.j3 l.speed) = c3 at *
   generalize Nm.ofQ (- Nm.j3 v) = nv at *
   have hjl : (j : Int) < links.length := by omega
   simp only [rc, sb, ints] at p1 p2 p3
   (repeat first | refine uA ?_ | (apply S.exit; exact rfl) | (refine uK ?_ ?_; focus first | omega | trivial | exact id | (intros; simp_all <;> omega)) | simp (disch := omega) only [go_sem, Nat.reduceBEq, Nat.reduceAdd, Nat.reduceLeDiff, Int.reduceToNat, Int.reducePow, ww, hgv, hgl, Option.map_some, List.length_map, rcs, Lk.enc, vts, sb, Int.toNat_natCast] | (refine uD p1 ?_ ?_ ?_; exact tz hw; exact rfl) | (refine uD p2 ?_ ?_ ?_; exact tz hw; exact rfl) | (refine uD p3 ?_ ?_ ?_; exact tz hw; exact rfl))
   refine S.cond rfl (fun hc5 => ?_) (fun hc5 => ?_)
   ·rw [if_pos (by simp only [Bool.or_eq_true, decide_eq_true_eq] at hc5; omega)] at s1
    rw [s1 (by decide)] at hsp
    subst hsp
    rw [if_pos (by decide)] at hst
    rw [hst (show (1 : Int) ≠ 0 by decide)] at hg
    injection hg with g1 g2
    rw [if_pos (by rw [g1]; decide), g1]
    (repeat first | refine uA ?_ | (apply S.exit; exact rfl) | (refine uK ?_ ?_; focus first | omega | trivial | exact id | (intros; simp_all <;> omega)) | simp (disch := omega) only [go_sem, Nat.reduceBEq, Nat.reduceAdd, Nat.reduceLeDiff, Int.reduceToNat, Int.reducePow, ww])
    exact S.done (d9.out rfl (Imp.refl rfl) rfl)
   ·rw [if_neg (by simp only [Bool.or_eq_false_iff, decide_eq_false_iff_not] at hc5; omega)] at s2
    (repeat first | refine uA ?_ | (apply S.exit; exact rfl) | (refine uK ?_ ?_; focus first | omega | trivial | exact id | (intros; simp_all <;> omega)) | simp (disch := omega) only [go_sem, Nat.reduceBEq, Nat.reduceAdd, Nat.reduceLeDiff, Int.reduceToNat, Int.reducePow, ww])
    refine S.next (j + 1) ⟨by omega, by rw [hsp]; exact s2 rfl⟩ (by omega) (by (repeat first | refine uA ?_ | (refine ⟨?_, ?_⟩; focus first | rfl | trivial | (simp [slot]; done)) | rfl | trivial | simp))
  rw [U2 (by rw [List.length_zip]; omega)] at hsp
  subst hsp
  rw [if_neg (by decide)] at hst hnx
  clear hj hone
  have htl : (sarms.take i).length = i := by rw [List.length_take]; omega
  (repeat first | refine uA ?_ | (apply S.exit; exact rfl) | (refine uK ?_ ?_; focus first | omega | trivial | exact id | (intros; simp_all <;> omega)) | simp (disch := omega) only [go_sem, Nat.reduceBEq, Nat.reduceAdd, Nat.reduceLeDiff, Int.reduceToNat, Int.reducePow, ww, List.length_map, htl, Int.toNat_natCast])
  refine S.loop (X := Nat) (fun j => ⟨[(2, .bp 0 0), (3, .bp 1 0), (63, E5 sarms), (64, ints sarms.length), (65, ints i), (6, ints i), (7, .bp 2 0), (147, E5 (sarms.take i)), (148, ints i), (149, ints j)], [.box 31 [ams arms, wls walls, pts parts, sls slots, gts gates, .v (.bool walk.neg), sb walk.num, sb walk.den], .box 37 [ints tick, E5 sarms, frs sparts, vts people, bls sgates], .box 90 [rts xq, rts xv, .v (.bool xp), ints xh]]⟩)
   (fun j => j <= i /\ (0 <= xh -> ((sarms.take i).take j).any (fun y => decide (y.holds = xh)) = false)) (fun j => i - j) 0 ⟨Nat.zero_le _, fun _ => rfl⟩ (by (repeat first | refine uA ?_ | (refine ⟨?_, ?_⟩; focus first | rfl | trivial | (simp [slot]; done)) | rfl | trivial | simp)) ?_
  rintro j ⟨hj, hno⟩
  simp only [ams, wls, pts, sls, gts, E5, frs, vts, bls, rts, sb, ints] at hj hno ⊢
  (repeat first | refine uA ?_ | (apply S.exit; exact rfl) | (refine uK ?_ ?_; focus first | omega | trivial | exact id | (intros; simp_all <;> omega)) | simp (disch := omega) only [go_sem, Nat.reduceBEq, Nat.reduceAdd, Nat.reduceLeDiff, Int.reduceToNat, Int.reducePow, ww])
  (refine uJ rfl (fun hc => ?_) fun hc => ?_)
  ·have hgy := List.getElem?_eq_getElem (show j < (sarms.take i).length by omega)
   generalize (sarms.take i)[j]'_ = y at hgy
   have hae := b5w (f := fun y : Ast => decide (y.holds = xh)) hgy
   have hah := List.mem_of_getElem? hgy
   generalize sarms.take i = L at *
   obtain ⟨yq, yv, yp, yh⟩ := y
   simp only at hae
   (repeat first | refine uA ?_ | (apply S.exit; exact rfl) | (refine uK ?_ ?_; focus first | omega | trivial | exact id | (intros; simp_all <;> omega)) | simp (disch := omega) only [go_sem, Nat.reduceBEq, Nat.reduceAdd, Nat.reduceLeDiff, Int.reduceToNat, Int.reducePow, ww, hgy, Option.map_some, List.length_map, Ast.enc, rts, sb, ints, Int.toNat_natCast, htl])
   refine S.cond rfl (fun hc5 => ?_) (fun hc5 => ?_)
   ·have hx0 : 0 <= xh /\ xh = yh := by simpa using hc5
    have hc1 : c1 = true := by
     rw [hkh, List.any_eq_true]
     exact ⟨_, hah, by simp [hx0.2]⟩
    rw [if_pos (by rw [hc1]; simp [hx0.1])] at hst
    rw [hst (show (10 : Int) ≠ 0 by decide)] at hg
    injection hg with g1 g2
    rw [if_pos (by rw [g1]; decide), g1]
    (repeat first | refine uA ?_ | (apply S.exit; exact rfl) | (refine uK ?_ ?_; focus first | omega | trivial | exact id | (intros; simp_all <;> omega)) | simp (disch := omega) only [go_sem, Nat.reduceBEq, Nat.reduceAdd, Nat.reduceLeDiff, Int.reduceToNat, Int.reducePow, ww])
    exact S.done (d9.out rfl (Imp.refl rfl) rfl)
   ·(repeat first | refine uA ?_ | (apply S.exit; exact rfl) | (refine uK ?_ ?_; focus first | omega | trivial | exact id | (intros; simp_all <;> omega)) | simp (disch := omega) only [go_sem, Nat.reduceBEq, Nat.reduceAdd, Nat.reduceLeDiff, Int.reduceToNat, Int.reducePow, ww])
    refine S.next (j + 1) ⟨by omega, fun h0 => ?_⟩ (by omega) (by (repeat first | refine uA ?_ | (refine ⟨?_, ?_⟩; focus first | rfl | trivial | (simp [slot]; done)) | rfl | trivial | simp))
    rw [hae, hno h0, Bool.false_or]
    have : ¬ (0 <= xh /\ xh = yh) := by simpa using hc5
    exact decide_eq_false (fun e => this ⟨h0, e.symm⟩)
  have hj' : j = i := by omega
  subst hj'
  rw [if_neg (by
   intro hc6
   rw [Bool.and_eq_true, decide_eq_true_eq] at hc6
   have := hno hc6.1
   rw [List.take_of_length_le (by omega)] at this
   rw [hkh, this] at hc6
   exact absurd hc6.2 (by decide))] at hnx
  (repeat first | refine uA ?_ | (apply S.exit; exact rfl) | (refine uK ?_ ?_; focus first | omega | trivial | exact id | (intros; simp_all <;> omega)) | simp (disch := omega) only [go_sem, Nat.reduceBEq, Nat.reduceAdd, Nat.reduceLeDiff, Int.reduceToNat, Int.reducePow, ww])
  refine S.next (x := (j, h)) (j + 1, h') ⟨by simp only; omega, hkn, by simp only; rw [hg]; exact hnx rfl⟩ (by simp only; omega) (by (repeat first | refine uA ?_ | (refine ⟨?_, ?_⟩; focus first | rfl | trivial | (simp [slot]; done)) | rfl | trivial | simp))
 rw [U4 (by rw [List.length_zip]; omega)] at hg
 injection hg with g1 g2
 subst g1
 rw [if_neg (show ¬ (0 : Int) ≠ 0 by simp)]
 clear hr b1 a1 hk hi
 (repeat first | refine uA ?_ | (apply S.exit; exact rfl) | (refine uK ?_ ?_; focus first | omega | trivial | exact id | (intros; simp_all <;> omega)) | simp (disch := omega) only [go_sem, Nat.reduceBEq, Nat.reduceAdd, Nat.reduceLeDiff, Int.reduceToNat, Int.reducePow, ww, List.length_map])
 refine S.loop (X := Nat) (fun i => ⟨[(2, .bp 0 0), (3, .bp 1 0), (166, frs sparts), (167, ints sparts.length), (168, ints i)], [.box 31 [ams arms, wls walls, pts parts, sls slots, gts gates, .v (.bool walk.neg), sb walk.num, sb walk.den], .box 37 [ints tick, E5 sarms, frs sparts, vts people, bls sgates]]⟩)
  (fun i => i <= sparts.length /\ pA = (sparts.drop i).all a0Z) (fun i => sparts.length - i) 0 ⟨Nat.zero_le _, hg1.symm⟩ (by (repeat first | refine uA ?_ | (refine ⟨?_, ?_⟩; focus first | rfl | trivial | (simp [slot]; done)) | rfl | trivial | simp)) ?_
 rintro i' ⟨hi, hg⟩
 simp only [ams, wls, pts, sls, gts, E5, frs, vts, bls, sb, ints] at hi ⊢
 (repeat first | refine uA ?_ | (apply S.exit; exact rfl) | (refine uK ?_ ?_; focus first | omega | trivial | exact id | (intros; simp_all <;> omega)) | simp (disch := omega) only [go_sem, Nat.reduceBEq, Nat.reduceAdd, Nat.reduceLeDiff, Int.reduceToNat, Int.reducePow, ww])
 (refine uJ rfl (fun hc => ?_) fun hc => ?_)
 ·have hgi := List.getElem?_eq_getElem (show i' < sparts.length by omega)
  generalize sparts[i']'(_) = f at hgi
  obtain ⟨f1, f2, f3⟩ := b2 f (List.mem_of_getElem? hgi)
  have hs := a3z (f := a0Z) hgi
  rw [b9F] at hs
  have o1 := a7s _ (Rbs.three (by decide) (f1.mono (m := 17179869184) (by decide)) (f2.mono (m := 17179869184) (by decide)) (f3.mono (m := 17179869184) (by decide)))
  have o2 := U5 f.t (f3.mono (by decide))
  generalize [f.x, f.y, f.t].all F6 = q1 at *
  generalize E9 (Nm.j3 f.t) = s1 at *
  obtain ⟨fx, fy, fh, ft⟩ := f
  simp only [rts, rcs, rc, sb, ints, List.map_cons, List.map_nil] at o1 o2 hs
  (repeat first | refine uA ?_ | (apply S.exit; exact rfl) | (refine uK ?_ ?_; focus first | omega | trivial | exact id | (intros; simp_all <;> omega)) | simp (disch := omega) only [go_sem, Nat.reduceBEq, Nat.reduceAdd, Nat.reduceLeDiff, Int.reduceToNat, Int.reducePow, ww, hgi, Option.map_some, List.length_map, Fr.enc, sb, Int.toNat_natCast] | (refine uD o2 ?_ ?_ ?_; exact tz hw; exact rfl) | (refine uE o1 ?_ ?_ ?_ ?_; exact tz hw; exact rfl; focus (repeat' first | exact l6.nil | exact Imp.refl rfl | exact Imp.frz rfl rfl rfl | (refine Imp.I8 rfl rfl ?_ ?_; (focus ((try simp only [List.length_append, hgi, Option.map_some, List.length_map, Fr.enc, sb, Int.toNat_natCast]); omega)); (focus first | rfl | assumption)) | refine l6.cons ?_ ?_); done))
  refine S.cond rfl (fun hc2 => ?_) (fun hc2 => ?_)
  ·rw [hc2] at hs
   rw [hg, hs, Bool.not_true, Bool.false_and, Bool.false_and, if_neg (by decide)]
   (repeat first | refine uA ?_ | (apply S.exit; exact rfl) | (refine uK ?_ ?_; focus first | omega | trivial | exact id | (intros; simp_all <;> omega)) | simp (disch := omega) only [go_sem, Nat.reduceBEq, Nat.reduceAdd, Nat.reduceLeDiff, Int.reduceToNat, Int.reducePow, ww])
   exact S.done (d9.out rfl (Imp.refl rfl) rfl)
  ·rw [hc2] at hs
   (repeat first | refine uA ?_ | (apply S.exit; exact rfl) | (refine uK ?_ ?_; focus first | omega | trivial | exact id | (intros; simp_all <;> omega)) | simp (disch := omega) only [go_sem, Nat.reduceBEq, Nat.reduceAdd, Nat.reduceLeDiff, Int.reduceToNat, Int.reducePow, ww])
   refine S.next (i' + 1) ⟨by omega, by rw [hg, hs]; rfl⟩ (by omega) (by (repeat first | refine uA ?_ | (refine ⟨?_, ?_⟩; focus first | rfl | trivial | (simp [slot]; done)) | rfl | trivial | simp))
 rw [a4N (by omega)] at hg
 subst hg
 rw [Bool.true_and]
 clear hg1 b2 hi
 (repeat first | refine uA ?_ | (apply S.exit; exact rfl) | (refine uK ?_ ?_; focus first | omega | trivial | exact id | (intros; simp_all <;> omega)) | simp (disch := omega) only [go_sem, Nat.reduceBEq, Nat.reduceAdd, Nat.reduceLeDiff, Int.reduceToNat, Int.reducePow, ww, List.length_map])
 refine S.loop (X := Nat) (fun i => ⟨[(198, vts people), (199, ints people.length), (200, ints i)], [.box 31 [ams arms, wls walls, pts parts, sls slots, gts gates, .v (.bool walk.neg), sb walk.num, sb walk.den], .box 37 [ints tick, E5 sarms, frs sparts, vts people, bls sgates]]⟩)
  (fun i => i <= people.length /\ pB = (people.drop i).all a2w) (fun i => people.length - i) 0 ⟨Nat.zero_le _, hg2.symm⟩ (by (repeat first | refine uA ?_ | (refine ⟨?_, ?_⟩; focus first | rfl | trivial | (simp [slot]; done)) | rfl | trivial | simp)) ?_
 rintro i2 ⟨hi, hg⟩
 simp only [ams, wls, pts, sls, gts, E5, frs, vts, bls, sb, ints] at hi ⊢
 (repeat first | refine uA ?_ | (apply S.exit; exact rfl) | (refine uK ?_ ?_; focus first | omega | trivial | exact id | (intros; simp_all <;> omega)) | simp (disch := omega) only [go_sem, Nat.reduceBEq, Nat.reduceAdd, Nat.reduceLeDiff, Int.reduceToNat, Int.reducePow, ww])
 (refine uJ rfl (fun hc => ?_) fun hc => ?_)
 ·have hgi := List.getElem?_eq_getElem (show i2 < people.length by omega)
  generalize people[i2]'(_) = f at hgi
  obtain ⟨f1, f2⟩ := b3 f (List.mem_of_getElem? hgi)
  have hs := a3z (f := a2w) hgi
  rw [show a2w f = [f.x, f.y].all F6 by rw [a5c]; rfl] at hs
  have o1 := a7s _ (Rbs.two (by decide) (f1.mono (m := 17179869184) (by decide)) (f2.mono (m := 17179869184) (by decide)))
  generalize [f.x, f.y].all F6 = q1 at *
  obtain ⟨fx, fy⟩ := f
  simp only [rts, rcs, rc, sb, ints, List.map_cons, List.map_nil] at o1 hs
  (repeat first | refine uA ?_ | (apply S.exit; exact rfl) | (refine uK ?_ ?_; focus first | omega | trivial | exact id | (intros; simp_all <;> omega)) | simp (disch := omega) only [go_sem, Nat.reduceBEq, Nat.reduceAdd, Nat.reduceLeDiff, Int.reduceToNat, Int.reducePow, ww, hgi, Option.map_some, List.length_map, Vt.enc, sb, Int.toNat_natCast] | (refine uE o1 ?_ ?_ ?_ ?_; exact tz hw; exact rfl; focus (repeat' first | exact l6.nil | exact Imp.refl rfl | exact Imp.frz rfl rfl rfl | (refine Imp.I8 rfl rfl ?_ ?_; (focus ((try simp only [List.length_append, hgi, Option.map_some, List.length_map, Vt.enc, sb, Int.toNat_natCast]); omega)); (focus first | rfl | assumption)) | refine l6.cons ?_ ?_); done))
  refine S.cond rfl (fun hc2 => ?_) (fun hc2 => ?_)
  ·have h0 : q1 = false := by simpa using hc2
   rw [hg, hs, h0, Bool.false_and, if_neg (by decide)]
   (repeat first | refine uA ?_ | (apply S.exit; exact rfl) | (refine uK ?_ ?_; focus first | omega | trivial | exact id | (intros; simp_all <;> omega)) | simp (disch := omega) only [go_sem, Nat.reduceBEq, Nat.reduceAdd, Nat.reduceLeDiff, Int.reduceToNat, Int.reducePow, ww])
   exact S.done (d9.out rfl (Imp.refl rfl) rfl)
  ·have h0 : q1 = true := by simpa using hc2
   (repeat first | refine uA ?_ | (apply S.exit; exact rfl) | (refine uK ?_ ?_; focus first | omega | trivial | exact id | (intros; simp_all <;> omega)) | simp (disch := omega) only [go_sem, Nat.reduceBEq, Nat.reduceAdd, Nat.reduceLeDiff, Int.reduceToNat, Int.reducePow, ww])
   refine S.next (i2 + 1) ⟨by omega, by rw [hg, hs, h0, Bool.true_and]⟩ (by omega) (by (repeat first | refine uA ?_ | (refine ⟨?_, ?_⟩; focus first | rfl | trivial | (simp [slot]; done)) | rfl | trivial | simp))
 rw [a4N (by omega)] at hg
 subst hg
 rw [if_pos rfl]
 (repeat first | refine uA ?_ | (apply S.exit; exact rfl) | (refine uK ?_ ?_; focus first | omega | trivial | exact id | (intros; simp_all <;> omega)) | simp (disch := omega) only [go_sem, Nat.reduceBEq, Nat.reduceAdd, Nat.reduceLeDiff, Int.reduceToNat, Int.reducePow, ww])
 exact S.done (d9.out rfl (Imp.refl rfl) rfl)
def a7d : Wk := ⟨[], [], [], [], [], ⟨false, [], []⟩⟩
def a7u : Stt := ⟨0, [], [], [], []⟩
theorem a8D (a : Nm.Rt) : (a.neg == a.neg && (decide (bs a.num = bs a.num) && decide (bs a.den = bs a.den))) = true := by simp
theorem c3d : FZ 11 [a7d.c, a7u.c, ints 0, ints 0] (.tup [.v (.bool false), ints 4]) := by
 have h := b9I a7d a7u 0 0 ⟨⟨Nat.zero_le _, fun x hx => (by cases hx)⟩, ⟨Nat.zero_le _, fun x hx => (by cases hx)⟩, ⟨Nat.zero_le _, fun x hx => (by cases hx)⟩, ⟨Nat.zero_le _, fun x hx => (by cases hx)⟩, ⟨Nat.zero_le _, fun x hx => (by cases hx)⟩, ⟨Nat.zero_le _, Nat.zero_le _⟩⟩
  ⟨⟨Nat.zero_le _, fun x hx => (by cases hx)⟩, ⟨Nat.zero_le _, fun x hx => (by cases hx)⟩, ⟨Nat.zero_le _, fun x hx => (by cases hx)⟩, Nat.zero_le _⟩
 have e1 : K9 a7d a7u 0 0 = 4 := rfl
 have e2 : a1O a7d a7u 0 0 = false := rfl
 rwa [e1, e2] at h
theorem c1z {w : Wk} {s : Stt} (h : I6 w s = 0) (p q : Int) : K9 w s p q = if isB w p q = true then 0 else 1 := by
 unfold K9 isB
 rw [if_neg (by simpa using h)]
 by_cases h1 : p < 0 \/ (w.parts.length : Int) <= p \/ q < 0 \/ (w.slots.length : Int) <= q
 ·rw [if_pos h1, if_neg]
  simp only [Bool.and_eq_true, decide_eq_true_eq]
  omega
 ·rw [if_neg h1, if_pos]
  simp only [Bool.and_eq_true, decide_eq_true_eq]
  omega
theorem b6M (w : Wk) (s : Stt) (p q : Int) (l : List (Int × Int)) (hwb : Wb 1048576 w) (hs : Stb 1048576 s) (hl : l.length <= 1048576) :
  FZ 6 [w.c, s.c, ints p, ints q, wns l] (.v (.bool true)) := by
 refine l8.of a5s a5l (by exact Nat.le_of_ble_eq_true rfl) fun w' O hw => ?_
 have c1 : callable Tryz.prog 49 = true := by kernel_rfl
 have c2 : callable Tryz.prog 54 = true := by kernel_rfl
 have i0 := c3d
 have o1 := b6p w s p q hwb hs
 have o2 := b9I w s p q hwb hs
 have o3 := c2u w s p hwb hs
 have o4 := c2M w s l hwb hs hl
 have o5 := b9d w s (hwb.mono (by decide)) (hs.mono (by decide))
 have m1 := hwb.parts.1
 have m2 := hwb.slots.1
 by_cases hst : I6 w s = 0
 ·have hdk := c1z hst
  have hpl := a1i hst
  have hlies := fun p q h1 h2 => c2q w s p q hwb hs h1 h2 hst
  have his := fun p q => c3n w p q m1 m2
  have hrO := fun p q h1 h2 h3 => b8n w s p q hwb hs h1 h2 h3
  have hrb := fun p q h1 h2 h3 => a7k (w := w) (s := s) (p := p) (q := q) hwb hs h1 h2 h3
  have hisd : ∀ p q, isB w p q = (decide (0 <= p) && decide (p < w.parts.length) && decide (0 <= q) && decide (q < w.slots.length)) := fun _ _ => rfl
  have hAE : a5F w s l = D6 (fun x => K9 w s x.1 x.2) l := by unfold a5F; rw [if_neg (by simpa using hst)]
  have hAB : b2K w s l = if a5F w s l ≠ 0 then false else l.all fun x => a1O w s x.1 x.2 := rfl
  have hBE : a0M w s p = if p < 0 \/ (w.parts.length : Int) <= p then 1 else if w.slots.length = 0 then 4 else 0 := by unfold a0M; rw [if_neg (by simpa using hst)]
  have hBI : a6Y w s p = if a0M w s p ≠ 0 then 0 else (I9 (N8 w s p.toNat) w.slots.length).1 := rfl
  have hBR : a6w w s p = if a0M w s p ≠ 0 then ⟨false, [], []⟩ else Nm.ofQ (I9 (N8 w s p.toNat) w.slots.length).2 := rfl
  have hOR : a6n w s p q = if K9 w s p q ≠ 0 then ⟨false, [], []⟩ else Nm.ofQ (N8 w s p.toNat q.toNat) := rfl
  have hIB : isB w p q = false -> a1O w s p q = false := fun h => by unfold a1O; rw [hdk, h]; rfl
  rw [hst] at o5
  rw [hdk] at o1 o2 hOR
  generalize hdkf : (fun x : Int × Int => K9 w s x.1 x.2) = dk at *
  generalize hdbf : (fun x : Int × Int => a1O w s x.1 x.2) = db at *
  have hdk' : ∀ p q : Int, dk (p, q) = if isB w p q = true then 0 else 1 := fun p q => by rw [<- hdkf]; exact hdk p q
  have hlies : ∀ p q : Nat, p < w.parts.length -> q < w.slots.length -> FZ 49 [.v (.int .i64 (p : Int)), .v (.int .i64 (q : Int)), .ep s.enc, .ep w.enc] (.v (.bool (db (p, q)))) := fun p q h1 h2 => by rw [<- hdbf]; exact hlies p q h1 h2
  have hdbq : a1O w s p q = db (p, q) := by rw [<- hdbf]
  rw [hdbq] at o2 hIB
  generalize a5F w s l = AE at *
  generalize b2K w s l = AB at *
  generalize a0M w s p = BE at *
  generalize a6Y w s p = BI at *
  generalize a6w w s p = BR at *
  generalize a6n w s p q = OR at *
  generalize N8 w s = oS at *
  generalize isB w = is at *
  clear hdk hst hdkf hdbf
  obtain ⟨arms, walls, parts, slots, gates, walk⟩ := w
  obtain ⟨tick, sarms, sparts, people, sgates⟩ := s
  simp only at m1 m2 hpl hisd hBE hBI hBR hlies hrO hrb
  simp only [a0o, l5, TT, II, OA, OB, OC, MM, LL, VV, FF, MG, LG, VG, FG]
  simp only [Wk.c, Wk.enc, Stt.c, Stt.enc, ams, wls, pts, sls, gts, E5, frs, vts, bls, wns, rq, rc, sb, ints, a7d, a7u, List.map_nil] at i0 o1 o2 o3 o4 o5 hlies his hrO ⊢
  (repeat first | refine uA ?_ | (apply S.exit; exact rfl) | (refine uK ?_ ?_; focus first | omega | trivial | exact id | (intros; simp_all <;> omega)) | simp (disch := omega) only [go_sem, Nat.reduceBEq, Nat.reduceAdd, Nat.reduceLeDiff, Int.reduceToNat, Int.reducePow, ww] | (refine uE i0 ?_ ?_ ?_ ?_; exact tz hw; exact rfl; focus (repeat' first | exact l6.nil | exact Imp.refl rfl | exact Imp.a1S | exact Imp.fbx rfl rfl (l6.refl rfl) rfl rfl | refine Imp.clo ?_ | exact Imp.frz rfl rfl rfl | (refine Imp.I8 rfl rfl ?_ ?_; (focus ((try simp only [List.length_append]); omega)); (focus first | rfl | assumption)) | refine Imp.agg ?_ | refine l6.cons ?_ ?_); done))
  refine S.cond rfl (fun hc => by simp at hc) (fun hc => ?_)
  (repeat first | refine uA ?_ | (apply S.exit; exact rfl) | (refine uK ?_ ?_; focus first | omega | trivial | exact id | (intros; simp_all <;> omega)) | simp (disch := omega) only [go_sem, Nat.reduceBEq, Nat.reduceAdd, Nat.reduceLeDiff, Int.reduceToNat, Int.reducePow, ww] | (refine uD o1 ?_ ?_ ?_; exact tz hw; exact rfl) | (refine uD o2 ?_ ?_ ?_; exact tz hw; exact rfl) | (refine uD o3 ?_ ?_ ?_; exact tz hw; exact rfl) | (refine uD o4 ?_ ?_ ?_; exact tz hw; exact rfl) | (refine uD o5 ?_ ?_ ?_; exact tz hw; exact rfl))
  refine S.cond rfl (fun hc => by simp at hc) (fun hc => ?_)
  (repeat first | refine uA ?_ | (apply S.exit; exact rfl) | (refine uK ?_ ?_; focus first | omega | trivial | exact id | (intros; simp_all <;> omega)) | simp (disch := omega) only [go_sem, Nat.reduceBEq, Nat.reduceAdd, Nat.reduceLeDiff, Int.reduceToNat, Int.reducePow, ww, List.length_map])
  refine S.b6E (Y := Bool × Int) (fun y => ⟨[(2, ints p), (3, ints q), (4, wns l), (5, .bp 0 0), (6, .bp 1 0), (13, .bp 2 0), (14, ints (if is p q = true then 0 else 1)), (15, .v (.bool (db (p, q)))), (16, ints (if is p q = true then 0 else 1)), (17, .v (.int .i64 (BI : Int))), (18, .bp 3 0), (19, ints BE), (20, .v (.bool AB)), (21, ints AE), (22, ints y.2), (23, .clo 49 [.bp 1 0, .bp 0 0]), (24, .clo 54 [.bp 0 0]), (25, .v (.bool y.1))], [.box 31 [ams arms, wls walls, pts parts, sls slots, gts gates, .v (.bool walk.neg), sb walk.num, sb walk.den], .box 37 [ints tick, E5 sarms, frs sparts, vts people, bls sgates], .box 29 (rcs OR), .box 29 (rcs BR)]⟩) (fun y => y = (AB, AE)) ?_ ?_
  ·refine S.loop (X := Nat) (fun i => ⟨[(2, ints p), (3, ints q), (4, wns l), (5, .bp 0 0), (6, .bp 1 0), (13, .bp 2 0), (14, ints (if is p q = true then 0 else 1)), (15, .v (.bool (db (p, q)))), (16, ints (if is p q = true then 0 else 1)), (17, .v (.int .i64 (BI : Int))), (18, .bp 3 0), (19, ints BE), (20, .v (.bool AB)), (21, ints AE), (22, ints 0), (23, .clo 49 [.bp 1 0, .bp 0 0]), (24, .clo 54 [.bp 0 0]), (25, .v (.bool ((l.take i).all db))), (116, wns l), (117, ints l.length), (118, ints i)], [.box 31 [ams arms, wls walls, pts parts, sls slots, gts gates, .v (.bool walk.neg), sb walk.num, sb walk.den], .box 37 [ints tick, E5 sarms, frs sparts, vts people, bls sgates], .box 29 (rcs OR), .box 29 (rcs BR)]⟩) (fun i => i <= l.length /\ AE = D6 dk (l.drop i)) (fun i => l.length - i) 0 ⟨Nat.zero_le _, hAE⟩ (by simp only [List.take_zero, List.all_nil, rcs, sb]; exact (by (repeat first | refine uA ?_ | (refine ⟨?_, ?_⟩; focus first | rfl | trivial | (simp [slot]; done)) | rfl | trivial | simp))) ?_
   rintro i ⟨hi, hg⟩
   simp only [ams, wls, pts, sls, gts, E5, frs, vts, bls, wns, rcs, sb, ints] at hi ⊢
   (repeat first | refine uA ?_ | (apply S.exit; exact rfl) | (refine uK ?_ ?_; focus first | omega | trivial | exact id | (intros; simp_all <;> omega)) | simp (disch := omega) only [go_sem, Nat.reduceBEq, Nat.reduceAdd, Nat.reduceLeDiff, Int.reduceToNat, Int.reducePow, ww])
   (refine uJ rfl (fun hc => ?_) fun hc => ?_)
   ·have hgi := List.getElem?_eq_getElem (show i < l.length by omega)
    generalize l[i]'_ = x at hgi
    have hst := P9 (f := dk) hgi
    have hnx := P8 (f := dk) hgi
    have hat := b3K (f := db) hgi
    obtain ⟨a, b⟩ := x
    have t1 := his a b
    rw [hdk'] at hst hnx
    have hab := hisd a b
    by_cases hq : is a b = true
    ·rw [hq] at t1 hab
     rw [if_pos hq] at hnx
     have hab := hab.symm
     simp only [Bool.and_eq_true, decide_eq_true_eq] at hab
     obtain ⟨a, rfl⟩ : ∃ n : Nat, a = n := ⟨a.toNat, by omega⟩
     obtain ⟨b, rfl⟩ : ∃ n : Nat, b = n := ⟨b.toNat, by omega⟩
     have t2 := hlies a b (by omega) (by omega)
     generalize db ((a : Int), (b : Int)) = b1 at *
     generalize hta : (l.take (i + 1)).all db = ta1 at *
     generalize (l.take i).all db = ta0 at *
     (repeat first | refine uA ?_ | (apply S.exit; exact rfl) | (refine uK ?_ ?_; focus first | omega | trivial | exact id | (intros; simp_all <;> omega)) | simp (disch := omega) only [go_sem, Nat.reduceBEq, Nat.reduceAdd, Nat.reduceLeDiff, Int.reduceToNat, Int.reducePow, ww, hgi, Option.map_some, List.length_map, Int.toNat_natCast, c1, c2] | (refine uC t1 ?_ ?_ ?_; exact rfl; focus (repeat' first | exact l6.nil | exact Imp.refl rfl | exact Imp.a1S | exact Imp.fbx rfl rfl (l6.refl rfl) rfl rfl | refine Imp.clo ?_ | exact Imp.frz rfl rfl rfl | (refine Imp.I8 rfl rfl ?_ ?_; (focus ((try simp only [List.length_append, hgi, Option.map_some, List.length_map, Int.toNat_natCast, c1, c2]); omega)); (focus first | rfl | assumption)) | refine Imp.agg ?_ | refine l6.cons ?_ ?_); done) | (refine uE t2 ?_ ?_ ?_ ?_; exact tz hw; exact rfl; focus (repeat' first | exact l6.nil | exact Imp.refl rfl | exact Imp.a1S | exact Imp.fbx rfl rfl (l6.refl rfl) rfl rfl | refine Imp.clo ?_ | exact Imp.frz rfl rfl rfl | (refine Imp.I8 rfl rfl ?_ ?_; (focus ((try simp only [List.length_append, hgi, Option.map_some, List.length_map, Int.toNat_natCast, c1, c2]); omega)); (focus first | rfl | assumption)) | refine Imp.agg ?_ | refine l6.cons ?_ ?_); done))
     refine S.cond rfl (fun hc2 => by simp at hc2) (fun hc2 => ?_)
     (repeat first | refine uA ?_ | (apply S.exit; exact rfl) | (refine uK ?_ ?_; focus first | omega | trivial | exact id | (intros; simp_all <;> omega)) | simp (disch := omega) only [go_sem, Nat.reduceBEq, Nat.reduceAdd, Nat.reduceLeDiff, Int.reduceToNat, Int.reducePow, ww, c1, c2] | (refine uC t1 ?_ ?_ ?_; exact rfl; focus (repeat' first | exact l6.nil | exact Imp.refl rfl | exact Imp.a1S | exact Imp.fbx rfl rfl (l6.refl rfl) rfl rfl | refine Imp.clo ?_ | exact Imp.frz rfl rfl rfl | (refine Imp.I8 rfl rfl ?_ ?_; (focus ((try simp only [List.length_append, c1, c2]); omega)); (focus first | rfl | assumption)) | refine Imp.agg ?_ | refine l6.cons ?_ ?_); done) | (refine uE t2 ?_ ?_ ?_ ?_; exact tz hw; exact rfl; focus (repeat' first | exact l6.nil | exact Imp.refl rfl | exact Imp.a1S | exact Imp.fbx rfl rfl (l6.refl rfl) rfl rfl | refine Imp.clo ?_ | exact Imp.frz rfl rfl rfl | (refine Imp.I8 rfl rfl ?_ ?_; (focus ((try simp only [List.length_append, c1, c2]); omega)); (focus first | rfl | assumption)) | refine Imp.agg ?_ | refine l6.cons ?_ ?_); done))
     refine S.next (i + 1) ⟨by omega, by rw [hg]; exact hnx rfl⟩ (by omega) (by simp only [hta, hat]; exact (by (repeat first | refine uA ?_ | (refine ⟨?_, ?_⟩; focus first | rfl | trivial | (simp [slot]; done)) | rfl | trivial | simp)))
    ·have hq' : is a b = false := by simpa using hq
     rw [hq'] at t1
     rw [if_neg hq] at hst
     (repeat first | refine uA ?_ | (apply S.exit; exact rfl) | (refine uK ?_ ?_; focus first | omega | trivial | exact id | (intros; simp_all <;> omega)) | simp (disch := omega) only [go_sem, Nat.reduceBEq, Nat.reduceAdd, Nat.reduceLeDiff, Int.reduceToNat, Int.reducePow, ww, hgi, Option.map_some, List.length_map, Int.toNat_natCast, c1, c2] | (refine uC t1 ?_ ?_ ?_; exact rfl; focus (repeat' first | exact l6.nil | exact Imp.refl rfl | exact Imp.a1S | exact Imp.fbx rfl rfl (l6.refl rfl) rfl rfl | refine Imp.clo ?_ | exact Imp.frz rfl rfl rfl | (refine Imp.I8 rfl rfl ?_ ?_; (focus ((try simp only [List.length_append, hgi, Option.map_some, List.length_map, Int.toNat_natCast, c1, c2]); omega)); (focus first | rfl | assumption)) | refine Imp.agg ?_ | refine l6.cons ?_ ?_); done))
     refine S.cond rfl (fun hc2 => ?_) (fun hc2 => by simp at hc2)
     have hA1 : AE = 1 := by rw [hg]; exact hst (show (1 : Int) ≠ 0 by decide)
     (repeat first | refine uA ?_ | (apply S.exit; exact rfl) | (refine uK ?_ ?_; focus first | omega | trivial | exact id | (intros; simp_all <;> omega)) | simp (disch := omega) only [go_sem, Nat.reduceBEq, Nat.reduceAdd, Nat.reduceLeDiff, Int.reduceToNat, Int.reducePow, ww])
     exact S.met (false, 1) (by rw [hAB, hA1]; rfl) (by simp only [wns, rcs, sb, ints]; exact (by (repeat first | refine uA ?_ | (refine ⟨?_, ?_⟩; focus first | rfl | trivial | (simp [slot]; done)) | rfl | trivial | simp)))
   ·have hi' : i = l.length := by omega
    subst hi'
    rw [U2 (Nat.le_refl _)] at hg
    rw [List.take_length]
    rw [hg, if_neg (show ¬ (0 : Int) ≠ 0 by decide)] at hAB
    (repeat first | refine uA ?_ | (apply S.exit; exact rfl) | (refine uK ?_ ?_; focus first | omega | trivial | exact id | (intros; simp_all <;> omega)) | simp (disch := omega) only [go_sem, Nat.reduceBEq, Nat.reduceAdd, Nat.reduceLeDiff, Int.reduceToNat, Int.reducePow, ww])
    exact S.met (l.all db, 0) (by rw [hAB, hg]) (by simp only [wns, rcs, sb, ints]; exact (by (repeat first | refine uA ?_ | (refine ⟨?_, ?_⟩; focus first | rfl | trivial | (simp [slot]; done)) | rfl | trivial | simp)))
  rintro y rfl
  simp only [ams, wls, pts, sls, gts, E5, frs, vts, bls, wns, rcs, sb, ints]
  (repeat first | refine uA ?_ | (apply S.exit; exact rfl) | (refine uK ?_ ?_; focus first | omega | trivial | exact id | (intros; simp_all <;> omega)) | simp (disch := omega) only [go_sem, Nat.reduceBEq, Nat.reduceAdd, Nat.reduceLeDiff, Int.reduceToNat, Int.reducePow, ww])
  refine S.cond rfl (fun hc => by simp at hc) (fun hc => ?_)
  (repeat first | refine uA ?_ | (apply S.exit; exact rfl) | (refine uK ?_ ?_; focus first | omega | trivial | exact id | (intros; simp_all <;> omega)) | simp (disch := omega) only [go_sem, Nat.reduceBEq, Nat.reduceAdd, Nat.reduceLeDiff, Int.reduceToNat, Int.reducePow, ww, List.length_map])
  have hpq := hisd p q
  by_cases hp : p < 0 \/ (parts.length : Int) <= p
  ·rw [if_pos hp] at hBE
   have hq : is p q = false := by
    rw [hpq]
    cases h : (decide (0 <= p) && decide (p < parts.length) && decide (0 <= q) && decide (q < slots.length)) with
    | false => rfl
    | true => simp only [Bool.and_eq_true, decide_eq_true_eq] at h; omega
   refine S.cond rfl (fun hc => ?_) (fun hc => by simp only [Bool.or_eq_false_iff, decide_eq_false_iff_not] at hc; omega)
   rw [hq, hBE]
   (repeat first | refine uA ?_ | (apply S.exit; exact rfl) | (refine uK ?_ ?_; focus first | omega | trivial | exact id | (intros; simp_all <;> omega)) | simp (disch := omega) only [go_sem, Nat.reduceBEq, Nat.reduceAdd, Nat.reduceLeDiff, Int.reduceToNat, Int.reducePow, ww, decide_true, Bool.false_eq_true, if_false])
   exact S.done (d9.out rfl (Imp.refl rfl) rfl)
  rw [if_neg hp] at hBE
  refine S.cond rfl (fun hc => by simp only [Bool.or_eq_true, decide_eq_true_eq] at hc; omega) (fun hc => ?_)
  (repeat first | refine uA ?_ | (apply S.exit; exact rfl) | (refine uK ?_ ?_; focus first | omega | trivial | exact id | (intros; simp_all <;> omega)) | simp (disch := omega) only [go_sem, Nat.reduceBEq, Nat.reduceAdd, Nat.reduceLeDiff, Int.reduceToNat, Int.reducePow, ww, List.length_map])
  by_cases hsl : slots.length = 0
  ·rw [if_pos hsl] at hBE
   have hq : is p q = false := by
    rw [hpq]
    cases h : (decide (0 <= p) && decide (p < parts.length) && decide (0 <= q) && decide (q < slots.length)) with
    | false => rfl
    | true => simp only [Bool.and_eq_true, decide_eq_true_eq] at h; omega
   rw [hBE, if_pos (by decide)] at hBI
   refine S.cond rfl (fun hc => ?_) (fun hc => by simp only [decide_eq_false_iff_not] at hc; omega)
   rw [hq, hBE, hBI]
   (repeat first | refine uA ?_ | (apply S.exit; exact rfl) | (refine uK ?_ ?_; focus first | omega | trivial | exact id | (intros; simp_all <;> omega)) | simp (disch := omega) only [go_sem, Nat.reduceBEq, Nat.reduceAdd, Nat.reduceLeDiff, Int.reduceToNat, Int.reducePow, ww, decide_true, Bool.false_eq_true, if_false])
   exact S.done (d9.out rfl (Imp.refl rfl) rfl)
  rw [if_neg hsl] at hBE
  refine S.cond rfl (fun hc => by simp only [decide_eq_true_eq] at hc; omega) (fun hc => ?_)
  obtain ⟨p, rfl⟩ : ∃ n : Nat, p = n := ⟨p.toNat, by omega⟩
  rw [hBE, if_neg (by decide), Int.toNat_natCast] at hBI hBR
  rw [Int.toNat_natCast] at hOR
  obtain ⟨k1, k2, k3, k4⟩ := a5h (oS p) slots.length (by omega)
  rw [<- hBI] at k1 k2 k4
  generalize hB2 : (I9 (oS p) slots.length).2 = least at *
  have t1 := hrO p BI (by omega) k1 (by omega)
  have hcmp := fun j h => Q8 (Nm.ofQ (oS p j)) (Nm.ofQ least) ((hrb p j (by omega) (by omega) h).mono (by decide)) (by rw [k2]; exact (hrb p BI (by omega) (by omega) k1).mono (by decide))
  simp only [Nm.F7] at hcmp
  rw [<- k2] at t1
  subst hBR
  generalize hN : Nm.ofQ least = N at *
  simp only [rc, sb, ints] at hcmp
  (repeat first | refine uA ?_ | (apply S.exit; exact rfl) | (refine uK ?_ ?_; focus first | omega | trivial | exact id | (intros; simp_all <;> omega)) | simp (disch := omega) only [go_sem, Nat.reduceBEq, Nat.reduceAdd, Nat.reduceLeDiff, Int.reduceToNat, Int.reducePow, ww, List.length_map] | (refine uD t1 ?_ ?_ ?_; exact tz hw; exact rfl))
  refine S.cond rfl (fun hc => by
   simp only [Bool.or_eq_true, decide_eq_true_eq, Bool.not_eq_true', hBE, a8D] at hc
   rcases hc with ((h | h) | h) | h
   ·simp at h
   ·omega
   ·omega
   ·simp at h) (fun hc => ?_)
  (repeat first | refine uA ?_ | (apply S.exit; exact rfl) | (refine uK ?_ ?_; focus first | omega | trivial | exact id | (intros; simp_all <;> omega)) | simp (disch := omega) only [go_sem, Nat.reduceBEq, Nat.reduceAdd, Nat.reduceLeDiff, Int.reduceToNat, Int.reducePow, ww, List.length_map])
  refine S.loop (X := Nat) (fun i => ⟨[(2, .v (.int .i64 (p : Int))), (3, ints q), (5, .bp 0 0), (6, .bp 1 0), (13, .bp 2 0), (14, ints (if is p q = true then 0 else 1)), (15, .v (.bool (db (p, q)))), (16, ints (if is p q = true then 0 else 1)), (17, .v (.int .i64 (BI : Int))), (18, .bp 3 0), (23, .clo 49 [.bp 1 0, .bp 0 0]), (24, .clo 54 [.bp 0 0]), (208, ints slots.length), (209, ints i)], [.box 31 [ams arms, wls walls, pts parts, sls slots, gts gates, .v (.bool walk.neg), sb walk.num, sb walk.den], .box 37 [ints tick, E5 sarms, frs sparts, vts people, bls sgates], .box 29 (rcs OR), .box 29 (rcs N)]⟩) (fun i => i <= slots.length) (fun i => slots.length - i) 0 (Nat.zero_le _) (by simp only [rcs, sb]; exact (by (repeat first | refine uA ?_ | (refine ⟨?_, ?_⟩; focus first | rfl | trivial | (simp [slot]; done)) | rfl | trivial | simp))) ?_
  intro i hi
  simp only [ams, wls, pts, sls, gts, E5, frs, vts, bls, rcs, sb, ints] at hi ⊢
  (repeat first | refine uA ?_ | (apply S.exit; exact rfl) | (refine uK ?_ ?_; focus first | omega | trivial | exact id | (intros; simp_all <;> omega)) | simp (disch := omega) only [go_sem, Nat.reduceBEq, Nat.reduceAdd, Nat.reduceLeDiff, Int.reduceToNat, Int.reducePow, ww])
  (refine uJ rfl (fun hc => ?_) fun hc => ?_)
  ·have hi' : i < slots.length := by omega
   have t2 := hrO p i (by omega) hi' (by omega)
   have t3 := hcmp i hi'
   have h3 := k3 i hi'
   have h4 := k4 i
   have g1 := a3b (oS p i) least
   have g2 := a4Q (oS p i) least
   generalize Nm.A9 (oS p i) least = c at *
   generalize oS p i = oi at *
   generalize Nm.ofQ oi = M at *
   have hc0 : ¬ c < 0 := fun h => by have := g1.1 h; grind
   have hc1 : i < BI -> c ≠ 0 := fun h e => by
    have := g2.2 (h4 h)
    omega
   (repeat first | refine uA ?_ | (apply S.exit; exact rfl) | (refine uK ?_ ?_; focus first | omega | trivial | exact id | (intros; simp_all <;> omega)) | simp (disch := omega) only [go_sem, Nat.reduceBEq, Nat.reduceAdd, Nat.reduceLeDiff, Int.reduceToNat, Int.reducePow, ww] | (refine uD t2 ?_ ?_ ?_; exact tz hw; exact rfl) | (refine uD t3 ?_ ?_ ?_; exact tz hw; exact rfl))
   refine S.cond rfl (fun hc2 => by
    simp only [Bool.or_eq_true, Bool.and_eq_true, decide_eq_true_eq] at hc2
    rcases hc2 with h | ⟨h, h5⟩
    ·exact absurd h hc0
    ·exact absurd h (hc1 (by omega))) (fun hc2 => ?_)
   (repeat first | refine uA ?_ | (apply S.exit; exact rfl) | (refine uK ?_ ?_; focus first | omega | trivial | exact id | (intros; simp_all <;> omega)) | simp (disch := omega) only [go_sem, Nat.reduceBEq, Nat.reduceAdd, Nat.reduceLeDiff, Int.reduceToNat, Int.reducePow, ww])
   refine S.next (i + 1) (by omega) (by omega) (by (repeat first | refine uA ?_ | (refine ⟨?_, ?_⟩; focus first | rfl | trivial | (simp [slot]; done)) | rfl | trivial | simp))
  have t1 := his p q
  by_cases hq : is p q = true
  ·rw [hq] at t1 hpq
   have hpq := hpq.symm
   simp only [Bool.and_eq_true, decide_eq_true_eq] at hpq
   obtain ⟨q, rfl⟩ : ∃ n : Nat, q = n := ⟨q.toNat, by omega⟩
   rw [if_pos hq] at hOR ⊢
   rw [if_neg (by decide), Int.toNat_natCast] at hOR
   have t2 := hlies p q (by omega) (by omega)
   have t3 := hrO p q (by omega) (by omega) (by omega)
   rw [<- hOR] at t3
   (repeat first | refine uA ?_ | (apply S.exit; exact rfl) | (refine uK ?_ ?_; focus first | omega | trivial | exact id | (intros; simp_all <;> omega)) | simp (disch := omega) only [go_sem, Nat.reduceBEq, Nat.reduceAdd, Nat.reduceLeDiff, Int.reduceToNat, Int.reducePow, ww, c1, c2] | (refine uC t1 ?_ ?_ ?_; exact rfl; focus (repeat' first | exact l6.nil | exact Imp.refl rfl | exact Imp.a1S | exact Imp.fbx rfl rfl (l6.refl rfl) rfl rfl | refine Imp.clo ?_ | exact Imp.frz rfl rfl rfl | (refine Imp.I8 rfl rfl ?_ ?_; (focus ((try simp only [List.length_append, c1, c2]); omega)); (focus first | rfl | assumption)) | refine Imp.agg ?_ | refine l6.cons ?_ ?_); done))
   refine S.cond rfl (fun hc2 => by simp at hc2) (fun hc2 => ?_)
   (repeat first | refine uA ?_ | (apply S.exit; exact rfl) | (refine uK ?_ ?_; focus first | omega | trivial | exact id | (intros; simp_all <;> omega)) | simp (disch := omega) only [go_sem, Nat.reduceBEq, Nat.reduceAdd, Nat.reduceLeDiff, Int.reduceToNat, Int.reducePow, ww, c1, c2, decide_true, a8D, beq_self_eq_true] | (refine uD t3 ?_ ?_ ?_; exact tz hw; exact rfl) | (refine uE t2 ?_ ?_ ?_ ?_; exact tz hw; exact rfl; focus (repeat' first | exact l6.nil | exact Imp.refl rfl | exact Imp.a1S | exact Imp.fbx rfl rfl (l6.refl rfl) rfl rfl | refine Imp.clo ?_ | exact Imp.frz rfl rfl rfl | (refine Imp.I8 rfl rfl ?_ ?_; (focus ((try simp only [List.length_append, c1, c2, decide_true, a8D, beq_self_eq_true]); omega)); (focus first | rfl | assumption)) | refine Imp.agg ?_ | refine l6.cons ?_ ?_); done))
   exact S.done (d9.out rfl (Imp.refl rfl) rfl)
  ·have hq' : is p q = false := by simpa using hq
   rw [hq'] at t1
   rw [if_neg hq] at hOR ⊢
   rw [if_pos (by decide)] at hOR
   rw [hIB hq']
   subst hOR
   (repeat first | refine uA ?_ | (apply S.exit; exact rfl) | (refine uK ?_ ?_; focus first | omega | trivial | exact id | (intros; simp_all <;> omega)) | simp (disch := omega) only [go_sem, Nat.reduceBEq, Nat.reduceAdd, Nat.reduceLeDiff, Int.reduceToNat, Int.reducePow, ww, c1, c2] | (refine uC t1 ?_ ?_ ?_; exact rfl; focus (repeat' first | exact l6.nil | exact Imp.refl rfl | exact Imp.a1S | exact Imp.fbx rfl rfl (l6.refl rfl) rfl rfl | refine Imp.clo ?_ | exact Imp.frz rfl rfl rfl | (refine Imp.I8 rfl rfl ?_ ?_; (focus ((try simp only [List.length_append, c1, c2]); omega)); (focus first | rfl | assumption)) | refine Imp.agg ?_ | refine l6.cons ?_ ?_); done))
   refine S.cond rfl (fun hc2 => ?_) (fun hc2 => by simp at hc2)
   (repeat first | refine uA ?_ | (apply S.exit; exact rfl) | (refine uK ?_ ?_; focus first | omega | trivial | exact id | (intros; simp_all <;> omega)) | simp (disch := omega) only [go_sem, Nat.reduceBEq, Nat.reduceAdd, Nat.reduceLeDiff, Int.reduceToNat, Int.reducePow, ww, decide_true])
   exact S.done (d9.out rfl (Imp.refl rfl) rfl)
 ·have hD : K9 w s p q = I6 w s := by unfold K9; rw [if_pos hst]
  have hB : a0M w s p = I6 w s := by unfold a0M; rw [if_pos hst]
  have hA : a5F w s l = I6 w s := by unfold a5F; rw [if_pos hst]
  unfold a6n at o1
  unfold a1O at o2
  unfold a6Y a6w at o3
  unfold b2K at o4
  rw [hD, if_pos hst, a3d] at o1
  rw [hD, if_pos hst] at o2
  rw [hB, if_pos hst, if_pos hst, a3d] at o3
  rw [hA, if_pos hst] at o4
  generalize I6 w s = e at *
  obtain ⟨arms, walls, parts, slots, gates, walk⟩ := w
  obtain ⟨tick, sarms, sparts, people, sgates⟩ := s
  simp only [a0o, l5, TT, II, OA, OB, OC, MM, LL, VV, FF, MG, LG, VG, FG]
  simp only [Wk.c, Wk.enc, Stt.c, Stt.enc, ams, wls, pts, sls, gts, E5, frs, vts, bls, wns, rc, sb, ints, a7d, a7u, List.map_nil, Int.natCast_zero] at i0 o1 o2 o3 o4 o5 ⊢
  (repeat first | refine uA ?_ | (apply S.exit; exact rfl) | (refine uK ?_ ?_; focus first | omega | trivial | exact id | (intros; simp_all <;> omega)) | simp (disch := omega) only [go_sem, Nat.reduceBEq, Nat.reduceAdd, Nat.reduceLeDiff, Int.reduceToNat, Int.reducePow, ww] | (refine uE i0 ?_ ?_ ?_ ?_; exact tz hw; exact rfl; focus (repeat' first | exact l6.nil | exact Imp.refl rfl | exact Imp.a1S | exact Imp.fbx rfl rfl (l6.refl rfl) rfl rfl | refine Imp.clo ?_ | exact Imp.frz rfl rfl rfl | (refine Imp.I8 rfl rfl ?_ ?_; (focus ((try simp only [List.length_append]); omega)); (focus first | rfl | assumption)) | refine Imp.agg ?_ | refine l6.cons ?_ ?_); done))
  refine S.cond rfl (fun hc => by simp at hc) (fun hc => ?_)
  (repeat first | refine uA ?_ | (apply S.exit; exact rfl) | (refine uK ?_ ?_; focus first | omega | trivial | exact id | (intros; simp_all <;> omega)) | simp (disch := omega) only [go_sem, Nat.reduceBEq, Nat.reduceAdd, Nat.reduceLeDiff, Int.reduceToNat, Int.reducePow, ww] | (refine uD o1 ?_ ?_ ?_; exact tz hw; exact rfl) | (refine uD o2 ?_ ?_ ?_; exact tz hw; exact rfl) | (refine uD o3 ?_ ?_ ?_; exact tz hw; exact rfl) | (refine uD o4 ?_ ?_ ?_; exact tz hw; exact rfl) | (refine uD o5 ?_ ?_ ?_; exact tz hw; exact rfl))
  refine S.cond rfl (fun hc => ?_) (fun hc => by simp at hc; exact absurd hc hst)
  (repeat first | refine uA ?_ | (apply S.exit; exact rfl) | (refine uK ?_ ?_; focus first | omega | trivial | exact id | (intros; simp_all <;> omega)) | simp (disch := omega) only [go_sem, Nat.reduceBEq, Nat.reduceAdd, Nat.reduceLeDiff, Int.reduceToNat, Int.reducePow, ww, decide_true])
  exact S.done (d9.out rfl (Imp.refl rfl) rfl)
open Go Go.RowKit Go.ChangeShapes Go.WideShapes Eng
theorem b9p {H : Type} {l : List (DataW H)} (hk : Rows.uptoSmall H l = true) : Rows.uptoBulkAll l <= 1048576 := of_decide_eq_true hk
theorem b9g {H : Type} (l r : List (DataW H)) : Rows.uptoBulkAll (l ++ r) = Rows.uptoBulkAll l + Rows.uptoBulkAll r := by
 induction l with
 | nil => simp [Rows.uptoBulkAll]
 | cons x l ih => simp only [List.cons_append, Rows.uptoBulkAll, ih]; omega
def noB : Nat -> Prop := fun _ => False
section
variable {H : Type} {enc : TypeId × Value -> H} {P : Program} {W : World}
def Opens (enc : TypeId × Value -> H) (P : Program) (W : World) (t : TypeId) {α : Type} (tc : α -> List C) (ok : α -> Prop) (ms : α -> Nat) : Prop :=
 ∀ (fuel : Nat) (cs : List Value) (x : DataW H × List MemPlace), DataW.trod enc P W 0 (fun _ => true) true fuel t cs = some x -> ∃ a : α, FzL W noB (tc a) cs /\ (∀ u ∈ cs, u.oneCell' = true) /\ ok a /\ ms a <= Rows.uptoBulk x.1
def I64 (n : Int) : Prop := -9223372036854775808 <= n /\ n <= 9223372036854775807
theorem b7o {t : TypeId} (ht : P.underlying t = some .bool) : Opens enc P W t (fun b : Bool => [.v (.bool b)]) (fun _ => True) fun _ => 1 := by
 intro fuel cs x h
 obtain ⟨b, rfl, rfl⟩ := DataW.trod_bool ht h
 exact ⟨b, by simp [FzL, Fz], by simp [Value.oneCell'], trivial, by simp [Rows.uptoBulk]⟩
theorem b8Q {t : TypeId} (ht : P.underlying t = some (.int .i64)) : Opens enc P W t (fun n : Int => [.v (.int .i64 n)]) I64 fun _ => 1 := by
 intro fuel cs x h
 obtain ⟨n, rfl, rfl, hw⟩ := DataW.trod_int ht h
 refine ⟨n, by simp [FzL, Fz], by simp [Value.oneCell'], ?_, by simp [Rows.uptoBulk]⟩
 simpa [Lit.wf, IntKind.min, IntKind.max, IntKind.signed, IntKind.bits, I64] using hw
theorem b7V {t : TypeId} (ht : P.underlying t = some .string) : Opens enc P W t (fun s : ByteArray => [.v (.string s)]) (fun s => s.size <= 9223372036854775807) fun s => s.size + 1 := by
 intro fuel cs x h
 obtain ⟨s, rfl, rfl, hw⟩ := DataW.trod_string ht h
 refine ⟨s, by simp [FzL, Fz], by simp [Value.oneCell'], hw, ?_⟩
 have : s.data.toList.length = s.size := by cases s; simp [ByteArray.size]
 simp only [Rows.uptoBulk, this]
 omega
theorem Opens.imp {t : TypeId} {α β : Type} {tc : α -> List C} {ok : α -> Prop} {ms : α -> Nat} {tc' : β -> List C} {ok' : β -> Prop} {ms' : β -> Nat} (h : Opens enc P W t tc ok ms)
  (f : ∀ a, ok a -> ∃ b, tc a = tc' b /\ ok' b /\ ms' b <= ms a) : Opens enc P W t tc' ok' ms' := by
 intro fuel cs x hx
 obtain ⟨a, h0, h01, h1, h2⟩ := h fuel cs x hx
 obtain ⟨b, h3, h4, h5⟩ := f a h1
 exact ⟨b, by rw [<- h3]; exact h0, h01, h4, Nat.le_trans h5 h2⟩
theorem b8f {w : World} {O : Nat -> Prop} {q : List C} {vs : List Value} {ad : Addr} {j : Nat} (hF : FzL w O q vs) (h1 : ∀ u ∈ vs, u.oneCell' = true) (hc : ∀ i v, vs[i]? = some v -> w.cell? (ad.add (j + i)) = some v) : FzA w O q ad j := FzA.of hF h1 hc
theorem K5 {t e : TypeId} {α : Type} {tc : α -> List C} {ok : α -> Prop} {ms : α -> Nat} {sz : Nat} (ht : P.underlying t = some (.slice e)) (hc : P.cellsOf e = sz) (hsz : 0 < sz) (hlen : ∀ a, (tc a).length = sz)
  (he : Opens enc P W e tc ok ms) : Opens enc P W t (fun xs : List α => [.sl sz (xs.map tc)]) (fun xs => ∀ a ∈ xs, ok a) fun xs => 1 + (xs.map ms).sum := by
 intro fuel cs x h
 rcases Deep.open_slice ht h with ⟨rfl, rfl⟩ | ⟨a, len, cap, m, n, D, Pl, rfl, _, hl, hm, hmm, rfl, hx⟩
 ·refine ⟨[], ?_, by simp [Value.oneCell'], (fun a ha => by cases ha), by simp [Rows.uptoBulk]⟩
  simp only [FzL, Fz]
  exact ⟨_, _, rfl, ⟨none, 0, rfl, Nat.le_refl _, Nat.zero_le _, fun h => by simp at h⟩, rfl⟩
 ·have hlm : len <= m := by rw [hmm]; split <;> omega
  have key : ∀ i, i < len -> ∃ (y : α) (vs : List Value), W.cells? 0 (a.add (i * sz)) sz = some vs /\ FzL W noB (tc y) vs /\ (∀ u ∈ vs, u.oneCell' = true) /\ ok y /\ ms y <= Rows.uptoBulk (D i) := by
   intro i hi
   obtain ⟨cs', h1, h2⟩ := hx i (by omega)
   obtain ⟨y, h31, h32, h3, h4⟩ := he _ _ _ h2
   rw [hc] at h1
   exact ⟨y, cs', h1, h31, h32, h3, h4⟩
  have build : ∀ k, k <= len -> ∃ xs : List α, xs.length = k /\ (∀ i y, xs[i]? = some y -> ∃ vs, W.cells? 0 (a.add (i * sz)) sz = some vs /\ FzL W noB (tc y) vs /\ (∀ u ∈ vs, u.oneCell' = true) /\ ok y) /\ (xs.map ms).sum <= Rows.uptoBulkAll ((List.range k).map D) := by
   intro k
   induction k with
   | zero => intro _; exact ⟨[], rfl, (fun i y h => by simp at h), by simp⟩
   | succ k ih =>
    intro hk
    obtain ⟨xs, h1, h2, h3⟩ := ih (by omega)
    obtain ⟨y, vs, h4, h41, h42, h5, h6⟩ := key k (by omega)
    refine ⟨xs ++ [y], by simp [h1], fun i z hz => ?_, ?_⟩
    ·rcases Nat.lt_or_ge i xs.length with hlt | hge
     ·rw [List.getElem?_append_left hlt] at hz
      exact h2 i z hz
     ·rw [List.getElem?_append_right hge] at hz
      have : i - xs.length = 0 := by
       rcases Nat.eq_zero_or_pos (i - xs.length) with h0 | h0
       ·exact h0
       ·obtain ⟨d, hd⟩ : ∃ d, i - xs.length = d + 1 := ⟨i - xs.length - 1, by omega⟩
        rw [hd] at hz; simp at hz
      rw [this] at hz
      simp at hz
      subst hz
      have : i = k := by omega
      subst this
      exact ⟨vs, h4, h41, h42, h5⟩
    ·rw [List.map_append, List.sum_append, List.range_succ, List.map_append, b9g]
     simp only [List.map_cons, List.map_nil, List.sum_cons, List.sum_nil, Rows.uptoBulkAll]
     omega
  obtain ⟨xs, h1, h2, h3⟩ := build len (Nat.le_refl _)
  have hcell : ∀ (i : Nat) (y : α), xs[i]? = some y -> (tc y).length = sz /\ FzA W noB (tc y) a (i * sz) := by
   intro i y hy
   obtain ⟨vs, h4, h41, h42, _⟩ := h2 i y hy
   obtain ⟨_, h5, h6⟩ := World.cells?_some h4
   refine ⟨hlen _, b8f h41 h42 fun j v hv => ?_⟩
   have hj : j < sz := by
    have := (List.getElem?_eq_some_iff.1 hv).1
    rwa [h5] at this
   have h7 := h6 j hj
   rw [hv, Deep.add_add] at h7
   exact h7
  refine ⟨xs, ?_, by simp [Value.oneCell'], fun y hy => ?_, ?_⟩
  ·simp only [FzL]
   refine ⟨_, _, rfl, ?_, rfl⟩
   simp only [Fz]
   refine ⟨some a, cap, by simp [h1], by simp; omega, hm, fun h0 => ⟨a, rfl, ?_, (fun h => h), FzE.of fun k q hq => ?_⟩⟩
   ·have hi : 0 < xs.length := by simpa using h0
    obtain ⟨hq1, hq2⟩ := hcell 0 xs[0] (List.getElem?_eq_getElem hi)
    have h9 : 0 < (tc xs[0]).length := by omega
    match htc : tc xs[0], h9, hq2 with
    | c :: cs, _, hq2 =>
     simp only [FzA] at hq2
     obtain ⟨⟨v, hv, _⟩, _⟩ := hq2
     have h10 := block_lt_of_cell hv
     rwa [add_block] at h10
   ·rw [List.getElem?_map] at hq
    obtain ⟨y, hy, rfl⟩ := Option.map_eq_some_iff.1 hq
    rw [Nat.zero_add]; exact hcell k y hy
  ·obtain ⟨i, hi⟩ := List.mem_iff_getElem?.1 hy
   exact (h2 i y hi).choose_spec.2.2.2
  ·simp only [Rows.uptoBulk]
   omega
def M0 (P : Program) : List Field -> Nat -> Option Nat
 | [], n => some n
 | f :: fs, n => if f.offset = n then M0 P fs (n + P.cellsOf f.type) else none
def Parts (enc : TypeId × Value -> H) (P : Program) (W : World) (n : Nat) : List TypeId -> List (List Value) -> List (DataW H × List MemPlace) -> Prop
 | [], cs, ys => cs = [] /\ ys = []
 | f :: fs, cs, ys => ∃ c cr y yr, cs = c :: cr /\ ys = y :: yr /\ DataW.trod enc P W 0 (fun _ => true) true n f c = some y /\ Parts enc P W n fs cr yr
theorem b4O {t : TypeId} {fs : Array Field} {fuel : Nat} {cs : List Value} {x : DataW H × List MemPlace} (hu : P.underlying t = some (.struct fs)) (hc : M0 P fs.toList 0 = some (P.cellsOf t)) (h : DataW.trod enc P W 0 (fun _ => true) true fuel t cs = some x) :
    ∃ (n : Nat) (ps : List (List Value)) (ys : List (DataW H × List MemPlace)), cs = ps.flatten /\ x = (.agg (ys.map (·.1)), ys.flatMap (·.2)) /\ Parts enc P W n (fs.toList.map (·.type)) ps ys := by
  obtain ⟨xs, n, rfl, rfl, hlen, hxl, hf⟩ := DataW.trod_struct hu h
  have gen : ∀ (l : List Field) (off tot : Nat) (zs : List (DataW H × List MemPlace)), M0 P l off = some tot -> zs.length = l.length -> (∀ (i : Nat) (f : Field), l[i]? = some f -> DataW.trod enc P W 0 (fun _ => true) true n f.type ((cs.drop f.offset).take (P.cellsOf f.type)) = zs[i]?) ->
      off <= tot /\ ∃ ps, (cs.drop off).take (tot - off) = ps.flatten /\ Parts enc P W n (l.map (·.type)) ps zs := by
    intro l
    induction l with
    | nil =>
      intro off tot zs hc hl _
      simp only [M0, Option.some.injEq] at hc
      subst hc
      have : zs = [] := List.length_eq_zero_iff.1 hl
      subst this
      exact ⟨Nat.le_refl _, [], by simp, rfl, rfl⟩
    | cons f l ih =>
      intro off tot zs hc hl hf
      simp only [M0] at hc
      split at hc
      · rename_i ho
        cases zs with
        | nil => simp at hl
        | cons z zs =>
          obtain ⟨h1, ps, h2, h3⟩ := ih _ tot zs hc (by simpa using hl) fun i g hg => by have := hf (i + 1) g (by simpa using hg); simpa using this
          have h0 := hf 0 f rfl
          rw [ho] at h0
          refine ⟨by omega, ((cs.drop off).take (P.cellsOf f.type)) :: ps, ?_, _, _, _, _, rfl, rfl, h0, h3⟩
          rw [List.flatten_cons, <- h2, <- List.drop_drop]
          have e : tot - off = P.cellsOf f.type + (tot - (off + P.cellsOf f.type)) := by omega
          rw [e, List.take_add]
      · cases hc
  obtain ⟨_, ps, h2, h3⟩ := gen fs.toList 0 _ xs hc (by simpa using hxl) fun i f hi => hf i f (by simpa using hi)
  refine ⟨n, ps, xs, ?_, rfl, h3⟩
  rw [<- h2, Nat.sub_zero, List.drop_zero, <- hlen, List.take_length]
theorem FzL.app {w : World} {O : Nat -> Prop} : ∀ {cs ds : List C} {vs us : List Value}, FzL w O cs vs -> FzL w O ds us -> FzL w O (cs ++ ds) (vs ++ us)
 | [], ds, vs, us, h, k => by simp only [FzL] at h; subst h; simpa using k
 | c :: cs, ds, vs, us, h, k => by
  simp only [FzL] at h
  obtain ⟨y, ys, rfl, h1, h2⟩ := h
  exact ⟨y, ys ++ us, rfl, h1, FzL.app h2 k⟩
def a9t (enc : TypeId × Value -> H) (P : Program) (W : World) (ts : List TypeId) {α : Type} (tc : α -> List C) (ok : α -> Prop) (ms : α -> Nat) : Prop :=
 ∀ (n : Nat) (ps : List (List Value)) (ys : List (DataW H × List MemPlace)), Parts enc P W n ts ps ys -> ∃ a : α, FzL W noB (tc a) ps.flatten /\ (∀ u ∈ ps.flatten, u.oneCell' = true) /\ ok a /\ ms a <= Rows.uptoBulkAll (ys.map (·.1))
theorem J6 : a9t enc P W [] (fun _ : Unit => []) (fun _ => True) fun _ => 0 := by
 rintro n ps ys ⟨rfl, rfl⟩
 exact ⟨(), by simp [FzL], by simp, trivial, Nat.zero_le _⟩
theorem l7 {t : TypeId} {ts : List TypeId} {α β : Type} {tc : α -> List C} {ok : α -> Prop} {ms : α -> Nat} {tc' : β -> List C} {ok' : β -> Prop} {ms' : β -> Nat} (h : Opens enc P W t tc ok ms) (h' : a9t enc P W ts tc' ok' ms') :
  a9t enc P W (t :: ts) (fun p : α × β => tc p.1 ++ tc' p.2) (fun p => ok p.1 /\ ok' p.2) fun p => ms p.1 + ms' p.2 := by
 rintro n ps ys ⟨c, cr, y, yr, rfl, rfl, h1, h2⟩
 obtain ⟨a, a1, a2, a3, a4⟩ := h _ _ _ h1
 obtain ⟨b, b1, b2, b3, b4⟩ := h' _ _ _ h2
 refine ⟨(a, b), by rw [List.flatten_cons]; exact FzL.app a1 b1, fun u hu => ?_, ⟨a3, b3⟩, ?_⟩
 ·rw [List.flatten_cons] at hu
  rcases List.mem_append.1 hu with hu | hu
  ·exact a2 u hu
  ·exact b2 u hu
 ·simp only [List.map_cons, Rows.uptoBulkAll]
  omega
theorem G8 {t : TypeId} {fs : Array Field} {ts : List TypeId} {α : Type} {tc : α -> List C} {ok : α -> Prop} {ms : α -> Nat} (hu : P.underlying t = some (.struct fs)) (hts : fs.toList.map (·.type) = ts) (hc : M0 P fs.toList 0 = some (P.cellsOf t)) (h : a9t enc P W ts tc ok ms) :
  Opens enc P W t tc ok fun a => ms a + 1 := by
 intro fuel cs x hx
 obtain ⟨n, ps, ys, rfl, rfl, hp⟩ := b4O hu hc hx
 rw [hts] at hp
 obtain ⟨a, a1, a2, a3, a4⟩ := h _ _ _ hp
 exact ⟨a, a1, a2, a3, by simp only [Rows.uptoBulk]; omega⟩
theorem b9U {f : Func} {s : ChangeSpec} {apart fresh handsOn again : Bool} {W' : World} {args : Array Value} {ds gs : List (DataW H)} {before : List MemPlace} {tb : TypeId} (hl : laidOutB P = true) (hpar : ∀ t ∈ f.params.toList, P.readableRec t = true /\ t < P.types.size)
  (hrt : f.resultTypes = #[tb]) (htb : P.underlying tb = some .bool) (hv : s.vars = []) (hfn : s.fn H (ds ++ gs) = { results := [.lit (.bool true)], args := ds }) (hW : DataW.Whole enc P f.params.toList s.vars apart W args.toList ds gs before) (hb : Below W.heap.size W W') :
  s.post enc P f apart fresh handsOn again W args (.bool true) W' := by
 have hlt : ∀ p ∈ before, p.block < W.heap.size := fun p hp => hW.lt p hp
 obtain ⟨p, q, hA, hV, hps, hz, hn⟩ := id hW
 rw [hv] at hV
 obtain ⟨rfl, rfl⟩ := trodVars_none hV
 rw [List.append_nil] at hps
 subst hps
 have all : ∀ (sp : Nat -> Bool) (ts : List TypeId) (vs : List Value) (es : List (DataW H)) (pl : List MemPlace), (∀ t ∈ ts, P.readableRec t = true /\ t < P.types.size) -> (∀ x ∈ pl, x.block < W.heap.size /\ sp x.block = true) -> DataW.TrodAll enc P W 0 (fun _ => true) true ts vs es pl -> DataW.TrodAll enc P W' 0 sp true ts vs es pl := by
  intro sp ts
  induction ts with
  | nil =>
   intro vs es pl _ _ h
   cases vs <;> cases es <;> simp only [DataW.TrodAll] at h ⊢ <;> exact h
  | cons t ts ih =>
   intro vs es pl hts hpl h
   cases vs <;> cases es <;> simp only [DataW.TrodAll] at h ⊢
   obtain ⟨p1, p2, h1, h2, rfl⟩ := h
   refine ⟨p1, p2, ?_, ih _ _ _ (fun t ht => hts t (List.mem_cons_of_mem _ ht)) (fun x hx => hpl x (List.mem_append_right _ hx)) h2, rfl⟩
   exact WideElems.Trod_stays hl (hts t (List.mem_cons_self ..)).1 (hts t (List.mem_cons_self ..)).2 h1 (fun x hx => hb.same (hpl x (List.mem_append_left _ hx)).1) fun x hx => (hpl x (List.mem_append_left _ hx)).2
 have hres : ∀ (b : Nat) (sp : Nat -> Bool) (hd : Bool), DataW.TrodAll enc P W' b sp hd f.resultTypes.toList ((Value.bool true).resultList f.resultTypes.size) (s.fn H (ds ++ [])).results [] := by
  intro b sp hd
  rw [hrt, hfn]
  exact trodAll_cons_mk (shut_bool htb true) trodAll_mk0
 have hargs : ∀ sp : Nat -> Bool, (∀ p' ∈ before, sp p'.block = true) -> DataW.TrodAll enc P W' 0 sp true f.params.toList args.toList (s.fn H (ds ++ [])).args before := fun sp hsp => by
  rw [hfn]
  exact all sp _ _ _ _ hpar (fun x hx => ⟨hlt x hx, hsp x hx⟩) hA
 have hvars : ∀ sp : Nat -> Bool, DataW.TrodVars enc P W' sp s.vars (s.fn H (ds ++ [])).vars [] := fun sp => by rw [hv, hfn]; rfl
 have hold : ∀ p' ∈ before, (fun b => decide (b < W.heap.size)) p'.block = true := fun p' hp => by simpa using hlt p' hp
 refine ⟨ds, [], before, [], before, [], hW, hres _ _ _, hargs _ hold, hvars _, World.keptBut_mono (fun p' hp => ⟨hp, ?_⟩) (hb.frame (· ∈ before)), fun _ => ⟨ok_one hrt rfl (okWide_bool_mk htb _), _, _, ([] ++ before) ++ [], ⟨[] ++ before, [], trodAll_append (hargs _ (fun _ _ => rfl)) (hres _ _ _), hvars _, rfl, ?_, ?_⟩, ?_⟩⟩
 ·exact Or.inr (by simpa using hp)
 ·intro b off hp
  have hin : MemPlace.cell b off ∈ before := by simpa using hp
  rw [hb.frozen (hlt _ hin)]
  exact hz b off hin
 ·intro ha
  have := hn ha
  simpa using this
 ·intro p' hp _
  simpa using hp
end
open Go Go.RowKit Go.ChangeShapes Go.WideShapes Go.ChangeAt Eng
set_option maxRecDepth 10000
theorem b9m : ownKnob Tryz.prog.godebug = none := by kernel_rfl
theorem b9W : laidOutB Tryz.prog = true := by kernel_rfl
theorem gDb : Tryz.prog.globalNamed "math/bits.deBruijn64tab" = some 3 := by kernel_rfl
theorem c0M : (Tryz.prog.globals[3]?).map (·.type) = some 305 := by kernel_rfl
theorem b9Q : Tryz.prog.cellsOf 305 = 64 := by kernel_rfl
theorem c0I : Tryz.prog.cellsOf 5 = 1 := by kernel_rfl
theorem b9q : Tryz.prog.underlying 305 = some (.array 64 5) := by kernel_rfl
theorem c2i : Tryz.prog.underlying 5 = some (.int .u8) := by kernel_rfl
theorem c1g : (Rows.laid_math_bits_deBruijn64tab : DataW Unit) = Lib.tabData .u8 (Lib.deBruijn64tab.map fun n : Nat => (n : Int)) := by rfl
theorem c2N {W : World} {rest : List (String × DataW Unit)} (h : laidMet Tryz.prog (("math/bits.deBruijn64tab", Rows.laid_math_bits_deBruijn64tab) :: rest) W) : Wz W := by
 rw [c1g] at h
 have ht := Lib.tabIs_of_head gDb c0M b9q c2i c0I b9Q h
 intro j hj
 have := ht.cell gDb j (by rw [List.length_map]; exact hj)
 rw [this]
 congr 2
 rw [List.getD_eq_getElem?_getD, List.getD_eq_getElem?_getD, List.getElem?_map, List.getElem?_eq_getElem hj]
 rfl
section
variable {H : Type} {enc : TypeId × Value -> H} {W : World}
end
noncomputable def laidWorld (os : Os) : World := World.doorLaid Tryz.prog 400 os
def R64 (n : Int) : Prop := -9223372036854775808 <= n /\ n <= 9223372036854775807
def Aok (x : Ast) : Prop := R64 x.holds
def Sok (s : Stt) : Prop := R64 s.tick /\ ∀ x ∈ s.arms, Aok x
theorem b5l {α : Type} {f : α -> Nat} : ∀ {l : List α} {x : α}, x ∈ l -> f x <= (l.map f).sum
 | y :: l, x, h => by
  rw [List.map_cons, List.sum_cons]
  rcases List.mem_cons.1 h with rfl | h
  ·omega
  ·have := b5l (f := f) h; omega
theorem b5e {α : Type} {f : α -> Nat} (hf : ∀ x, 1 <= f x) : ∀ (l : List α), l.length <= (l.map f).sum
 | [] => Nat.le_refl _
 | y :: l => by
  have h1 := hf y
  have h2 := b5e hf l
  rw [List.map_cons, List.sum_cons, List.length_cons]; omega
def rtM (a : Nm.Rt) : Nat := 3 + a.num.length + a.den.length
def vtM (v : Vt) : Nat := rtM v.x + rtM v.y
def frM (f : Fr) : Nat := rtM f.x + rtM f.y + rtM f.t
def lsM {α : Type} (f : α -> Nat) (l : List α) : Nat := 1 + (l.map f).sum
def lkM (l : Lk) : Nat := rtM l.length + rtM l.low + rtM l.high + rtM l.speed + rtM l.brake + lsM vtM l.shape
def amM (a : Am) : Nat := a.name.length + frM a.base + lsM lkM a.links
def ptM (p : Pt) : Nat := p.name.length + lsM vtM p.shape + frM p.grasp
def slM (s : Sl) : Nat := s.name.length + frM s.frame + rtM s.within
def gtM (g : Gt) : Nat := g.name.length + vtM g.low + vtM g.high
def wkM (w : Wk) : Nat := lsM amM w.arms + lsM (lsM vtM) w.walls + lsM ptM w.parts + lsM slM w.slots + lsM gtM w.gates + rtM w.walk
def asM (x : Ast) : Nat := lsM rtM x.q + lsM rtM x.v + 1
def stM (s : Stt) : Nat := lsM asM s.arms + lsM frM s.parts + lsM vtM s.people + lsM (fun _ => 1) s.gates + 1
theorem a1P {a : Nm.Rt} {k : Nat} (h : rtM a <= k) : Rb k a := by unfold rtM at h; exact ⟨by omega, by omega⟩
theorem c0e {a : Vt} {k : Nat} (h : vtM a <= k) : Vb k a := by unfold vtM at h; exact ⟨a1P (by omega), a1P (by omega)⟩
theorem b6C {a : Fr} {k : Nat} (h : frM a <= k) : Fb k a := by unfold frM at h; exact ⟨a1P (by omega), a1P (by omega), a1P (by omega)⟩
theorem a2K {α : Type} {f : α -> Nat} {l : List α} {k : Nat} (hf : ∀ x, 1 <= f x) (h : lsM f l <= k) : l.length <= k /\ ∀ x ∈ l, f x <= k := by
 unfold lsM at h
 have := b5e hf l
 exact ⟨by omega, fun x hx => by have := b5l (f := f) hx; omega⟩
theorem a4R (a : Nm.Rt) : 1 <= rtM a := by unfold rtM; omega
theorem b5k (a : Vt) : 1 <= vtM a := by have := a4R a.x; unfold vtM; omega
theorem a7a (a : Fr) : 1 <= frM a := by have := a4R a.x; unfold frM; omega
theorem c1d {α : Type} (f : α -> Nat) (l : List α) : 1 <= lsM f l := by unfold lsM; omega
theorem c0Y (a : Lk) : 1 <= lkM a := by have := a4R a.length; unfold lkM; omega
theorem c1x (a : Am) : 1 <= amM a := by have := a7a a.base; unfold amM; omega
theorem c0H (a : Pt) : 1 <= ptM a := by have := a7a a.grasp; unfold ptM; omega
theorem c1p (a : Sl) : 1 <= slM a := by have := a7a a.frame; unfold slM; omega
theorem c1A (a : Gt) : 1 <= gtM a := by have := b5k a.low; unfold gtM; omega
theorem c1H (a : Ast) : 1 <= asM a := by unfold asM; omega
theorem b1X {l : List Vt} {k : Nat} (h : lsM vtM l <= k) : Vbs k l := by
 obtain ⟨h1, h2⟩ := a2K b5k h
 exact ⟨h1, fun x hx => c0e (h2 x hx)⟩
theorem c3k {w : Wk} {k : Nat} (h : wkM w <= k) : Wb k w := by
 unfold wkM at h
 obtain ⟨a1, a2⟩ := a2K c1x (show lsM amM w.arms <= k by omega)
 obtain ⟨b1, b2⟩ := a2K (c1d vtM) (show lsM (lsM vtM) w.walls <= k by omega)
 obtain ⟨c1, c2⟩ := a2K c0H (show lsM ptM w.parts <= k by omega)
 obtain ⟨d1, d2⟩ := a2K c1p (show lsM slM w.slots <= k by omega)
 obtain ⟨e1, e2⟩ := a2K c1A (show lsM gtM w.gates <= k by omega)
 refine ⟨⟨a1, fun x hx => ?_⟩, ⟨b1, fun x hx => b1X (b2 x hx)⟩, ⟨c1, fun x hx => ?_⟩, ⟨d1, fun x hx => ?_⟩, ⟨e1, fun x hx => ?_⟩, a1P (by omega)⟩
 ·have := a2 x hx
  unfold amM at this
  obtain ⟨f1, f2⟩ := a2K c0Y (show lsM lkM x.links <= k by omega)
  refine ⟨by omega, b6C (by omega), f1, fun l hl => ?_⟩
  have := f2 l hl
  unfold lkM at this
  exact ⟨a1P (by omega), a1P (by omega), a1P (by omega), a1P (by omega), a1P (by omega), b1X (by omega)⟩
 ·have := c2 x hx
  unfold ptM at this
  exact ⟨by omega, b1X (by omega), b6C (by omega)⟩
 ·have := d2 x hx
  unfold slM at this
  exact ⟨by omega, b6C (by omega), a1P (by omega)⟩
 ·have := e2 x hx
  unfold gtM at this
  exact ⟨by omega, c0e (by omega), c0e (by omega)⟩
theorem c3s {s : Stt} {k : Nat} (h : stM s <= k) : Stb k s := by
 unfold stM at h
 obtain ⟨a1, a2⟩ := a2K c1H (show lsM asM s.arms <= k by omega)
 obtain ⟨b1, b2⟩ := a2K a7a (show lsM frM s.parts <= k by omega)
 obtain ⟨c1, _⟩ := a2K (fun _ => Nat.le_refl _) (show lsM (fun _ => 1) s.gates <= k by omega)
 refine ⟨⟨a1, fun x hx => ?_⟩, ⟨b1, fun x hx => b6C (b2 x hx)⟩, b1X (by omega), c1⟩
 have := a2 x hx
 unfold asM at this
 obtain ⟨d1, d2⟩ := a2K a4R (show lsM rtM x.q <= k by omega)
 obtain ⟨e1, e2⟩ := a2K a4R (show lsM rtM x.v <= k by omega)
 exact ⟨⟨d1, fun r hr => a1P (d2 r hr)⟩, e1, fun r hr => a1P (e2 r hr)⟩
section
variable {H : Type} {enc : TypeId × Value -> H} {W : World}
theorem o_b : Opens enc Tryz.prog W 4 (fun b : Bool => [.v (.bool b)]) (fun _ => True) fun _ => 1 := b7o Tryz.underlying4
theorem o_i : Opens enc Tryz.prog W 3 (fun n : Int => [.v (.int .i64 n)]) I64 fun _ => 1 := b8Q Tryz.underlying3
theorem o_s : Opens enc Tryz.prog W 9 (fun l : List UInt8 => [sb l]) (fun _ => True) fun l => l.length + 1 :=
 (b7V Tryz.underlying9).imp fun s _ => ⟨s.data.toList, by simp only [sb, c0K], trivial, by have h : s.data.toList.length = s.size := (by cases s; simp [ByteArray.size]); omega⟩
theorem b8q : ∃ fs, Tryz.prog.underlying 29 = some (.struct fs) /\ fs.toList.map (·.type) = [4, 9, 9] /\ M0 Tryz.prog fs.toList 0 = some (Tryz.prog.cellsOf 29) := ⟨_, Tryz.underlying29, rfl, by kernel_rfl⟩
theorem b9v : Tryz.prog.cellsOf 29 = 3 := by kernel_rfl
theorem a3j : Opens enc Tryz.prog W 29 rcs (fun _ => True) rtM := by
 obtain ⟨fs, h1, h2, h3⟩ := b8q
 refine (G8 h1 h2 h3 (l7 o_b (l7 o_s (l7 o_s J6)))).imp ?_
 rintro ⟨a, b, c, _⟩ hok
 exact ⟨⟨a, b, c⟩, rfl, trivial, by simp only [rtM]; omega⟩
theorem b8L : ∃ fs, Tryz.prog.underlying 51 = some (.struct fs) /\ fs.toList.map (·.type) = [29, 29] /\ M0 Tryz.prog fs.toList 0 = some (Tryz.prog.cellsOf 51) := ⟨_, Tryz.underlying51, rfl, by kernel_rfl⟩
theorem b9h : Tryz.prog.cellsOf 51 = 6 := by kernel_rfl
theorem b6R : Opens enc Tryz.prog W 51 Vt.enc (fun _ => True) vtM := by
 obtain ⟨fs, h1, h2, h3⟩ := b8L
 refine (G8 h1 h2 h3 (l7 a3j (l7 a3j J6))).imp ?_
 rintro ⟨a, b, _⟩ hok
 exact ⟨⟨a, b⟩, rfl, trivial, by simp only [vtM]; omega⟩
theorem b8g : ∃ fs, Tryz.prog.underlying 53 = some (.struct fs) /\ fs.toList.map (·.type) = [4, 29] /\ M0 Tryz.prog fs.toList 0 = some (Tryz.prog.cellsOf 53) := ⟨_, Tryz.underlying53, rfl, by kernel_rfl⟩
theorem c3r : Opens enc Tryz.prog W 53 (fun p : Bool × Nm.Rt => .v (.bool p.1) :: rcs p.2) (fun _ => True) fun p => rtM p.2 := by
 obtain ⟨fs, h1, h2, h3⟩ := b8g
 refine (G8 h1 h2 h3 (l7 o_b (l7 a3j J6))).imp ?_
 rintro ⟨a, b, _⟩ hok
 exact ⟨⟨a, b⟩, rfl, trivial, by simp only; omega⟩
theorem b8p : ∃ fs, Tryz.prog.underlying 55 = some (.struct fs) /\ fs.toList.map (·.type) = [51, 53] /\ M0 Tryz.prog fs.toList 0 = some (Tryz.prog.cellsOf 55) := ⟨_, Tryz.underlying55, rfl, by kernel_rfl⟩
theorem b9Z : Tryz.prog.cellsOf 55 = 10 := by kernel_rfl
theorem b6k : Opens enc Tryz.prog W 55 Fr.enc (fun _ => True) frM := by
 obtain ⟨fs, h1, h2, h3⟩ := b8p
 refine (G8 h1 h2 h3 (l7 b6R (l7 c3r J6))).imp ?_
 rintro ⟨⟨x, y⟩, ⟨h, t⟩, _⟩ hok
 exact ⟨⟨x, y, h, t⟩, rfl, trivial, by simp only [frM, vtM]; omega⟩
theorem b1S : Opens enc Tryz.prog W 34 (fun l => [vts l]) (fun _ => True) (lsM vtM) :=
 (K5 Tryz.underlying34 b9h (by decide) (fun _ => rfl) b6R).imp fun l hl => ⟨l, rfl, trivial, Nat.le_refl _⟩
theorem b7y : Tryz.prog.cellsOf 34 = 1 := by kernel_rfl
theorem b7T : ∃ fs, Tryz.prog.underlying 158 = some (.struct fs) /\ fs.toList.map (·.type) = [29, 29, 29, 29, 29, 34] /\ M0 Tryz.prog fs.toList 0 = some (Tryz.prog.cellsOf 158) := ⟨_, Tryz.underlying158, rfl, by kernel_rfl⟩
theorem b9r : Tryz.prog.cellsOf 158 = 16 := by kernel_rfl
theorem c3C : Opens enc Tryz.prog W 158 Lk.enc (fun _ => True) lkM := by
 obtain ⟨fs, h1, h2, h3⟩ := b7T
 refine (G8 h1 h2 h3 (l7 a3j (l7 a3j (l7 a3j (l7 a3j (l7 a3j (l7 b1S J6))))))).imp ?_
 rintro ⟨a, b, c, d, e, f, _⟩ hok
 exact ⟨⟨a, b, c, d, e, f⟩, rfl, trivial, by simp only [lkM]; omega⟩
theorem c2G : Opens enc Tryz.prog W 74 (fun l => [lks l]) (fun _ => True) (lsM lkM) :=
 (K5 Tryz.underlying74 b9r (by decide) (fun _ => rfl) c3C).imp fun l hl => ⟨l, rfl, trivial, Nat.le_refl _⟩
theorem b8N : ∃ fs, Tryz.prog.underlying 76 = some (.struct fs) /\ fs.toList.map (·.type) = [9, 55, 74] /\ M0 Tryz.prog fs.toList 0 = some (Tryz.prog.cellsOf 76) := ⟨_, Tryz.underlying76, rfl, by kernel_rfl⟩
theorem b9G : Tryz.prog.cellsOf 76 = 12 := by kernel_rfl
theorem c3v : Opens enc Tryz.prog W 76 Am.enc (fun _ => True) amM := by
 obtain ⟨fs, h1, h2, h3⟩ := b8N
 refine (G8 h1 h2 h3 (l7 o_s (l7 b6k (l7 c2G J6)))).imp ?_
 rintro ⟨a, b, c, _⟩ hok
 exact ⟨⟨a, b, c⟩, rfl, trivial, by simp only [amM]; omega⟩
theorem c3f : Opens enc Tryz.prog W 23 (fun l => [ams l]) (fun _ => True) (lsM amM) :=
 (K5 Tryz.underlying23 b9G (by decide) (fun _ => rfl) c3v).imp fun l hl => ⟨l, rfl, trivial, Nat.le_refl _⟩
theorem c3i : Opens enc Tryz.prog W 24 (fun l => [wls l]) (fun _ => True) (lsM (lsM vtM)) :=
 (K5 Tryz.underlying24 b7y (by decide) (fun _ => rfl) b1S).imp fun l hl => ⟨l, rfl, trivial, Nat.le_refl _⟩
theorem b8P : ∃ fs, Tryz.prog.underlying 80 = some (.struct fs) /\ fs.toList.map (·.type) = [9, 34, 55] /\ M0 Tryz.prog fs.toList 0 = some (Tryz.prog.cellsOf 80) := ⟨_, Tryz.underlying80, rfl, by kernel_rfl⟩
theorem c0h : Tryz.prog.cellsOf 80 = 12 := by kernel_rfl
theorem c3t : Opens enc Tryz.prog W 80 Pt.enc (fun _ => True) ptM := by
 obtain ⟨fs, h1, h2, h3⟩ := b8P
 refine (G8 h1 h2 h3 (l7 o_s (l7 b1S (l7 b6k J6)))).imp ?_
 rintro ⟨a, b, c, _⟩ hok
 exact ⟨⟨a, b, c⟩, rfl, trivial, by simp only [ptM]; omega⟩
theorem c3c : Opens enc Tryz.prog W 25 (fun l => [pts l]) (fun _ => True) (lsM ptM) :=
 (K5 Tryz.underlying25 c0h (by decide) (fun _ => rfl) c3t).imp fun l hl => ⟨l, rfl, trivial, Nat.le_refl _⟩
theorem b8M : ∃ fs, Tryz.prog.underlying 57 = some (.struct fs) /\ fs.toList.map (·.type) = [9, 55, 29] /\ M0 Tryz.prog fs.toList 0 = some (Tryz.prog.cellsOf 57) := ⟨_, Tryz.underlying57, rfl, by kernel_rfl⟩
theorem b9K : Tryz.prog.cellsOf 57 = 14 := by kernel_rfl
theorem c3j : Opens enc Tryz.prog W 57 Sl.enc (fun _ => True) slM := by
 obtain ⟨fs, h1, h2, h3⟩ := b8M
 refine (G8 h1 h2 h3 (l7 o_s (l7 b6k (l7 a3j J6)))).imp ?_
 rintro ⟨a, b, c, _⟩ hok
 exact ⟨⟨a, b, c⟩, rfl, trivial, by simp only [slM]; omega⟩
theorem c2L : Opens enc Tryz.prog W 26 (fun l => [sls l]) (fun _ => True) (lsM slM) :=
 (K5 Tryz.underlying26 b9K (by decide) (fun _ => rfl) c3j).imp fun l hl => ⟨l, rfl, trivial, Nat.le_refl _⟩
theorem b7L : ∃ fs, Tryz.prog.underlying 114 = some (.struct fs) /\ fs.toList.map (·.type) = [51, 51] /\ M0 Tryz.prog fs.toList 0 = some (Tryz.prog.cellsOf 114) := ⟨_, Tryz.underlying114, rfl, by kernel_rfl⟩
theorem c3A : Opens enc Tryz.prog W 114 (fun p : Vt × Vt => p.1.enc ++ p.2.enc) (fun _ => True) fun p => vtM p.1 + vtM p.2 := by
 obtain ⟨fs, h1, h2, h3⟩ := b7L
 refine (G8 h1 h2 h3 (l7 b6R (l7 b6R J6))).imp ?_
 rintro ⟨a, b, _⟩ hok
 exact ⟨⟨a, b⟩, rfl, trivial, by simp only; omega⟩
theorem b8y : ∃ fs, Tryz.prog.underlying 116 = some (.struct fs) /\ fs.toList.map (·.type) = [9, 114] /\ M0 Tryz.prog fs.toList 0 = some (Tryz.prog.cellsOf 116) := ⟨_, Tryz.underlying116, rfl, by kernel_rfl⟩
theorem b9E : Tryz.prog.cellsOf 116 = 13 := by kernel_rfl
theorem c3B : Opens enc Tryz.prog W 116 Gt.enc (fun _ => True) gtM := by
 obtain ⟨fs, h1, h2, h3⟩ := b8y
 refine (G8 h1 h2 h3 (l7 o_s (l7 c3A J6))).imp ?_
 rintro ⟨a, ⟨b, c⟩, _⟩ hok
 exact ⟨⟨a, b, c⟩, rfl, trivial, by simp only [gtM]; omega⟩
theorem c2Z : Opens enc Tryz.prog W 27 (fun l => [gts l]) (fun _ => True) (lsM gtM) :=
 (K5 Tryz.underlying27 b9E (by decide) (fun _ => rfl) c3B).imp fun l hl => ⟨l, rfl, trivial, Nat.le_refl _⟩
theorem b7K : ∃ fs, Tryz.prog.underlying 31 = some (.struct fs) /\ fs.toList.map (·.type) = [23, 24, 25, 26, 27, 29] /\ M0 Tryz.prog fs.toList 0 = some (Tryz.prog.cellsOf 31) := ⟨_, Tryz.underlying31, rfl, by kernel_rfl⟩
theorem c3o : Opens enc Tryz.prog W 31 Wk.enc (fun _ => True) wkM := by
 obtain ⟨fs, h1, h2, h3⟩ := b7K
 refine (G8 h1 h2 h3 (l7 c3f (l7 c3i (l7 c3c (l7 c2L (l7 c2Z (l7 a3j J6))))))).imp ?_
 rintro ⟨a, b, c, d, e, f, _⟩ hok
 exact ⟨⟨a, b, c, d, e, f⟩, rfl, trivial, by simp only [wkM]; omega⟩
theorem c0l : Opens enc Tryz.prog W 88 (fun l => [rts l]) (fun _ => True) (lsM rtM) :=
 (K5 Tryz.underlying88 b9v (by decide) (fun _ => rfl) a3j).imp fun l hl => ⟨l, rfl, trivial, Nat.le_refl _⟩
theorem b7X : ∃ fs, Tryz.prog.underlying 90 = some (.struct fs) /\ fs.toList.map (·.type) = [88, 88, 4, 3] /\ M0 Tryz.prog fs.toList 0 = some (Tryz.prog.cellsOf 90) := ⟨_, Tryz.underlying90, rfl, by kernel_rfl⟩
theorem b9s : Tryz.prog.cellsOf 90 = 4 := by kernel_rfl
theorem c3y : Opens enc Tryz.prog W 90 Ast.enc (Aok) asM := by
 obtain ⟨fs, h1, h2, h3⟩ := b7X
 refine (G8 h1 h2 h3 (l7 c0l (l7 c0l (l7 o_b (l7 o_i J6))))).imp ?_
 rintro ⟨a, b, c, d, _⟩ hok
 exact ⟨⟨a, b, c, d⟩, rfl, hok.2.2.2.1, by simp only [asM]; omega⟩
theorem c2d : Opens enc Tryz.prog W 32 (fun l => [E5 l]) (fun l => ∀ x ∈ l, Aok x) (lsM asM) :=
 (K5 Tryz.underlying32 b9s (by decide) (fun _ => rfl) c3y).imp fun l hl => ⟨l, rfl, hl, Nat.le_refl _⟩
theorem c3h : Opens enc Tryz.prog W 33 (fun l => [frs l]) (fun _ => True) (lsM frM) :=
 (K5 Tryz.underlying33 b9Z (by decide) (fun _ => rfl) b6k).imp fun l hl => ⟨l, rfl, trivial, Nat.le_refl _⟩
theorem c0V : Tryz.prog.cellsOf 4 = 1 := by kernel_rfl
theorem c2U : Opens enc Tryz.prog W 35 (fun l => [bls l]) (fun _ => True) (lsM fun _ => 1) :=
 (K5 Tryz.underlying35 c0V (by decide) (fun _ => rfl) o_b).imp fun l hl => ⟨l, rfl, trivial, Nat.le_refl _⟩
theorem b8O : ∃ fs, Tryz.prog.underlying 37 = some (.struct fs) /\ fs.toList.map (·.type) = [3, 32, 33, 34, 35] /\ M0 Tryz.prog fs.toList 0 = some (Tryz.prog.cellsOf 37) := ⟨_, Tryz.underlying37, rfl, by kernel_rfl⟩
theorem c3w : Opens enc Tryz.prog W 37 Stt.enc (Sok) stM := by
 obtain ⟨fs, h1, h2, h3⟩ := b8O
 refine (G8 h1 h2 h3 (l7 o_i (l7 c2d (l7 c3h (l7 b1S (l7 c2U J6)))))).imp ?_
 rintro ⟨a, b, c, d, e, _⟩ hok
 exact ⟨⟨a, b, c, d, e⟩, rfl, ⟨hok.1, hok.2.1⟩, by simp only [stM]; omega⟩
end
noncomputable def laidWorldU (os : Os) : World := World.laidAll Tryz.prog os Rows.doneSaysUptoRow.laid
theorem b8v (os : Os) (args : Array Value) : laidMet Tryz.prog Rows.doneSaysUptoRow.laid ((laidWorldU os).forCall (fun _ _ => 0) ⟨#[], args, []⟩).memory :=
 laidMet_laidAll args (by kernel_rfl) (by kernel_rfl)
theorem b4U {H : Type} {enc : TypeId × Value -> H} {C : Checked} {os : Os} {f : FuncId} {fn : Func} {s : OpenSpec} {conds : List PathCond} {apart : Bool} {laid : List (String × DataW Unit)} (modest : Bool) (w0 : World) (args : Array Value) (hos : w0.os = os)
  (hv : (w0.forCall (fun _ _ => 0) ⟨#[], args, []⟩).variablesZipB C.prog = true)
  (hr : ((w0.forCall (fun _ _ => 0) ⟨#[], args, []⟩).heap.toList.drop C.prog.globals.size).take ((begin C.prog (fun _ _ => 0) default).world.heap.size - C.prog.globals.size) =
   (begin C.prog (fun _ _ => 0) default).world.heap.toList.drop C.prog.globals.size)
  (hok : Input.okWideB C.prog (w0.forCall (fun _ _ => 0) ⟨#[], args, []⟩) f ⟨#[], args, []⟩ = true)
  (hrow : s.preRow enc C.prog fn conds apart laid (w0.forCall (fun _ _ => 0) ⟨#[], args, []⟩).memory args) :
  ∃ (w : World) (tape : Tape) (i : Input), w.os = os /\ (w.forCall tape i).Shaped C.prog /\ i.vars = [] /\ Input.okWide C.prog (w.forCall tape i) .any w.heap.size f i /\
   s.preRow enc C.prog fn conds apart laid (w.forCall tape i).memory i.args /\ ({ modest := modest } : Assume).holds C.prog (lone (Frame.enter C.prog f i.args .normal) [] (w.forCall tape i)) :=
 ⟨w0, fun _ _ => 0, ⟨#[], args, []⟩, hos, World.shaped_of_ZipB hv hr, (Input.okWide_of_okWideB (base := 0) hok).1, (Input.okWide_of_okWideB hok).2, hrow, by
  simp only [Assume.holds]
  exact ⟨by simp, by simp, fun _ => Modest.zero, by simp, by simp⟩⟩
section
variable {H : Type} {enc : TypeId × Value -> H} {W : World}
theorem b8W : ∃ fs, Tryz.prog.underlying 105 = some (.struct fs) /\ fs.toList.map (·.type) = [3, 3] /\ M0 Tryz.prog fs.toList 0 = some (Tryz.prog.cellsOf 105) := ⟨_, Tryz.underlying105, rfl, by kernel_rfl⟩
theorem b9T : Tryz.prog.cellsOf 105 = 2 := by kernel_rfl
theorem c3z : Opens enc Tryz.prog W 105 (fun x : Int × Int => [ints x.1, ints x.2]) (fun _ => True) fun _ => 1 := by
 obtain ⟨fs, h1, h2, h3⟩ := b8W
 refine (G8 h1 h2 h3 (l7 o_i (l7 o_i J6))).imp ?_
 rintro ⟨a, b, _⟩ hok
 exact ⟨⟨a, b⟩, rfl, trivial, by omega⟩
theorem c2T : Opens enc Tryz.prog W 98 (fun l => [wns l]) (fun _ => True) (lsM fun _ => 1) :=
 (K5 Tryz.underlying98 b9T (by decide) (fun _ => rfl) c3z).imp fun l hl => ⟨l, rfl, trivial, Nat.le_refl _⟩
theorem b5p {α : Type} : ∀ l : List α, (l.map fun _ => 1).sum = l.length
 | [] => rfl
 | x :: l => by simp only [List.length_cons, List.map_cons, List.sum_cons, b5p l]; omega
theorem c2z {α : Type} {l : List α} {k : Nat} (h : lsM (fun _ => 1) l <= k) : l.length <= k := by
 unfold lsM at h; rw [b5p] at h; omega
end
theorem b3f (os : Os) (args : Array Value) : laidMet Tryz.prog Rows.doneSaysUptoRow.laid ((laidWorldU os).forCall (fun _ _ => 0) ⟨#[], args, []⟩).memory :=
 b8v os args
theorem a7w (H : Type) (enc : TypeId × Value -> H) (W : World) (base : Nat) (args : Array Value) (ds gs : List (DataW H)) (before : List MemPlace)
  (hval : ∀ (j : Nat) t v, Tryz.f6.params[j]? = some t -> args[j]? = some v -> Value.okWide Tryz.prog W .any base t v)
  (hW : DataW.Whole enc Tryz.prog Tryz.f6.params.toList Rows.doneSaysSpec.vars false W args.toList ds gs before) (hk : Rows.uptoSmall H (ds ++ gs) = true) (hL : laidMetH Tryz.prog Rows.doneSaysUptoRow.laid W) (hS : W.ShapedOpen Tryz.prog) :
  Calls Tryz.prog 6 args W fun e W' => ∃ v, e = .returned v /\ Rows.doneSaysSpec.post enc Tryz.prog Tryz.f6 false true false false W args v W' := by
 have hW' := hW
 obtain ⟨p, q, hA0, hV, rfl, hfz, hnd⟩ := hW
 have hA : DataW.TrodAll enc Tryz.prog W 0 (fun _ => true) true Tryz.f6.params.toList args.toList ds p := hA0
 rw [Tryz.params6] at hA hval
 obtain ⟨v0, vs0, d0, ds0, p0, q0, hargs, rfl, rfl, h0, r0⟩ := trodAll_cons hA
 obtain ⟨v1, vs1, d1, ds1, p1, q1, rfl, rfl, rfl, h1, r1⟩ := trodAll_cons r0
 obtain ⟨v2, vs2, d2, ds2, p2, q2, rfl, rfl, rfl, h2, r2⟩ := trodAll_cons r1
 obtain ⟨v3, vs3, d3, ds3, p3, q3, rfl, rfl, rfl, h3, r3⟩ := trodAll_cons r2
 obtain ⟨v4, vs4, d4, ds4, p4, q4, rfl, rfl, rfl, h4, r4⟩ := trodAll_cons r3
 obtain ⟨rfl, rfl, rfl⟩ := trodAll_nil r4
 obtain rfl : args = #[v0, v1, v2, v3, v4] := by cases args; simp_all
 obtain ⟨rfl, rfl⟩ := trodVars_none hV
 have hb := b9p hk
 obtain ⟨cs0, rfl, _⟩ := okWide_struct Tryz.underlying31 (hval 0 31 v0 rfl rfl)
 obtain ⟨m0, h0⟩ := h0
 obtain ⟨wk0, e0, _, k0, b0⟩ := c3o _ _ _ h0
 have b0 : wkM wk0 <= Rows.uptoBulk d0 := b0
 have e0 : FzL W noB wk0.enc cs0.toList := e0
 have g0 : Fz W noB wk0.c (.agg cs0) := by simp only [Wk.c, Fz]; exact ⟨_, e0, by simp⟩
 obtain ⟨cs1, rfl, _⟩ := okWide_struct Tryz.underlying37 (hval 1 37 v1 rfl rfl)
 obtain ⟨m1, h1⟩ := h1
 obtain ⟨st0, e1, _, k1, b1⟩ := c3w _ _ _ h1
 have b1 : stM st0 <= Rows.uptoBulk d1 := b1
 have e1 : FzL W noB st0.enc cs1.toList := e1
 have g1 : Fz W noB st0.c (.agg cs1) := by simp only [Stt.c, Fz]; exact ⟨_, e1, by simp⟩
 obtain ⟨a7f, rfl, rfl, rfl, w2⟩ := open_int Tryz.underlying3 (hval 2 3 v2 rfl rfl) h2
 have hpart0 : I64 a7f := by simpa [Lit.wf, IntKind.min, IntKind.max, IntKind.signed, IntKind.bits, I64] using w2
 obtain ⟨slot1, rfl, rfl, rfl, w3⟩ := open_int Tryz.underlying3 (hval 3 3 v3 rfl rfl) h3
 have hslot1 : I64 slot1 := by simpa [Lit.wf, IntKind.min, IntKind.max, IntKind.signed, IntKind.bits, I64] using w3
 obtain ⟨A4, n4, c4, rfl⟩ := okWide_slice Tryz.underlying98 (hval 4 98 v4 rfl rfl)
 obtain ⟨m4, h4⟩ := h4
 obtain ⟨wants0, e4, _, k4, b4⟩ := c2T _ _ _ h4
 have b4 : lsM (fun _ => 1) wants0 <= Rows.uptoBulk d4 := b4
 have e4 : FzL W noB [wns wants0] [.slice A4 n4 c4] := e4
 simp only [FzL] at e4
 obtain ⟨y4, ys4, f4, g4, rfl⟩ := e4
 injection f4 with f4 _
 subst f4
 simp only [List.append_nil, List.cons_append, List.nil_append, Rows.uptoBulkAll] at hb
 have hF : FzL W noB [wk0.c, st0.c, ints a7f, ints slot1, wns wants0] [.agg cs0, .agg cs1, .int .i64 a7f, .int .i64 slot1, .slice A4 n4 c4] := by
  simp only [FzL]
  exact ⟨_, _, rfl, g0, ⟨_, _, rfl, g1, ⟨_, _, rfl, by simp only [ints, Fz], ⟨_, _, rfl, by simp only [ints, Fz], ⟨_, _, rfl, g4, rfl⟩⟩⟩⟩⟩
 refine (b6M wk0 st0 a7f slot1 wants0 (c3k (by omega)) (c3s (by omega)) (c2z (by omega)) noB W _ (c2N hL) (fun _ h => h.elim) hF).mono fun e W' ⟨y, he, hbl, hy⟩ => ?_
 subst he
 simp only [Fz] at hy
 subst hy
 refine ⟨_, rfl, b9U b9W (by
  intro t ht
  rw [Tryz.params6] at ht
  simp only [List.mem_cons, List.not_mem_nil, or_false] at ht
  rcases ht with rfl | rfl | rfl | rfl | rfl
  ·exact ⟨by kernel_rfl, of_decide_eq_true (by kernel_rfl)⟩
  ·exact ⟨by kernel_rfl, of_decide_eq_true (by kernel_rfl)⟩
  ·exact ⟨by kernel_rfl, of_decide_eq_true (by kernel_rfl)⟩
  ·exact ⟨by kernel_rfl, of_decide_eq_true (by kernel_rfl)⟩
  ·exact ⟨by kernel_rfl, of_decide_eq_true (by kernel_rfl)⟩) (tb := 4) rfl Tryz.underlying4 rfl rfl hW' hbl⟩
theorem a9Z (os : Os) {H : Type} (enc : TypeId × Value -> H) : ∃ places, DataW.whole enc Tryz.prog ((laidWorldU os).forCall (fun _ _ => 0) ⟨#[], #[.agg #[.slice none 0 0, .slice none 0 0, .slice none 0 0, .slice none 0 0, .slice none 0 0, .bool false, .string ⟨#[]⟩, .string ⟨#[]⟩], .agg #[.int .i64 0, .slice none 0 0, .slice none 0 0, .slice none 0 0, .slice none 0 0], .int .i64 0, .int .i64 0, .slice none 0 0], []⟩).memory Tryz.f6.params.toList Rows.doneSaysSpec.vars false (#[.agg #[.slice none 0 0, .slice none 0 0, .slice none 0 0, .slice none 0 0, .slice none 0 0, .bool false, .string ⟨#[]⟩, .string ⟨#[]⟩], .agg #[.int .i64 0, .slice none 0 0, .slice none 0 0, .slice none 0 0, .slice none 0 0], .int .i64 0, .int .i64 0, .slice none 0 0] : Array Value).toList 8 = some ([.agg [.nil, .nil, .nil, .nil, .nil, .agg [.lit (.bool false), .lit (.string []), .lit (.string [])]], .agg [.lit (.int .i64 0), .nil, .nil, .nil, .nil], .lit (.int .i64 0), .lit (.int .i64 0), .nil], [], places) :=
 ⟨[], by kernel_rfl⟩
end Go.Proofs.YtogfpjohjphngaaGreatDoor
