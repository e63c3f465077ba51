/- A part of the proof: lemmas only, with the conditions that each names. -/
import Derived.Test.YtgmlehjgpgdjhaaGreatDoorProg
import Derived.KernelRfl
import Derived.Test.YtgmlehjgpgdjhaaGreatDoorRows
import Derived.Carry
import Derived.ChangeArms
import Derived.ChangeSame
import Derived.Deep.Slices
import Derived.WalkKit
import Derived.ProofKit
import Derived.OpenShut
import Derived.JoinedCond
import Derived.Test.YtgmlehjgpgdjhaaGreatDoorCards
import Derived.Test.YtgmlehjgpgdjhaaGreatDoorTie
import Derived.Deep.DeepHandedRow
import Derived.Deep.DeepWitnessRowRef
import Derived.Lib.LaidTab
import Derived.LaidMore
import Derived.Test.YtgmlehjgpgdjhaaGreatDoorWk5
set_option linter.all false
namespace Go.Proofs.YtgmlehjgpgdjhaaGreatDoor
open Go Go.RowKit Eng
set_option maxRecDepth 100000
set_option maxHeartbeats 16000000
theorem b6O (n : Nat) (h : n <= 3) : ([[C.v (.string ⟨#[111, 110, 101]⟩)], [C.v (.string ⟨#[116, 119, 111]⟩)], [C.v (.string ⟨#[116, 104, 114, 101, 101]⟩)], [C.v (.string ⟨#[102, 111, 117, 114]⟩)]] : List (List C))[n]? = some [C.v (.string (bs (a2P n)))] := by
 match n, h with
 | 0, _ => rfl
 | 1, _ => rfl
 | 2, _ => rfl
 | 3, _ => rfl
theorem b7p (k : Int) (h0 : 0 <= k) (h1 : k < 4) : ([[C.v (.int .i64 0)], [C.v (.int .i64 1)], [C.v (.int .i64 (-1))], [C.v (.int .i64 1)]] : List (List C))[k.toNat]? = some [C.v (.int .i64 (a1Q k))] := by
 have : k = 0 \/ k = 1 \/ k = 2 \/ k = 3 := by omega
 rcases this with rfl | rfl | rfl | rfl <;> rfl
theorem b5g (k : Int) : -1 <= a1Q k /\ a1Q k <= 1 := by unfold a1Q; split; omega; split <;> omega
theorem b9h {E : Ctx} (hP : E.P = Tryz.prog) (l : List Int) (n : Nat) (hn : n <= 3) :
  j5 E [.box 145 [F9 l]] 81 [.bp 0 0, .v (.int .i64 (n : Int))] (a8v l n).c [.box 145 [F9 (a8J l)]] [] := by
 obtain ⟨P, eff', N, w0, own0, av0, nu0, pk0⟩ := E
 simp only at hP
 subst hP
 refine j5.of (eff := eff) a7o a8b (by exact c0d rfl) fun w own av ν hν => ?_
 have hν0 : ν.length <= 1 := by rw [hν]; exact b9T _
 have hnm := b6O n hn
 have h1 := O3 (40 * (n : Int)) 0 (by omega) (by omega)
 have k1 := fun (E : Ctx) (hP : E.P = Tryz.prog) => F8 hP l 4 (by decide)
 have k2 := fun (E : Ctx) (hP : E.P = Tryz.prog) => F8 hP (l.drop 1) 3 (by decide)
 have k3 := fun (E : Ctx) (hP : E.P = Tryz.prog) => F8 hP (l.drop 2) 3 (by decide)
 have a1 := l6 l (n := 4) (by decide)
 have a2 := z8 l (n := 4) (by decide)
 have a3 := l6 (l.drop 1) (n := 3) (by decide)
 have a4 := z8 (l.drop 1) (n := 3) (by decide)
 have a5 := l6 (l.drop 2) (n := 3) (by decide)
 have a6 := z8 (l.drop 2) (n := 3) (by decide)
 have htn := b7p (nx l 4) a1 a2
 have htr := b5g (nx l 4)
 have h2 := a0Q (a1Q (nx l 4)) (1 + nx (l.drop 1) 3) (by omega) (by omega)
 rw [List.drop_drop] at k2 k3
 have hc : ((a2B l : Nat) : Int) = 1 + nx (l.drop 2) 3 := by unfold a2B; omega
 have hc3 : a2B l <= 3 := by omega
 have hR : a8J l = (l.drop 3).drop (6 * a2B l) := by unfold a8J; rw [List.drop_drop]
 unfold a8v
 rw [hR]
 generalize a2B l = c at *
 generalize l.drop 3 = l0 at *
 unfold atV at h1
 generalize Q (40 * (n : Int)) 4 = q1 at *
 generalize Q 0 4 = q2 at *
 generalize a1Q (nx l 4) = tn at *
 generalize Q tn (1 + nx (l.drop 1) 3) = q3 at *
 generalize nx l 4 = x1 at *
 generalize nx (l.drop 1) 3 = x2 at *
 generalize nx (l.drop 2) 3 = x3 at *
 generalize a2P n = nm at *
 simp only [a3u, l9, TT, II, OA, OB, OC, MM, LL, VV, FF, MG, LG, VG, FG]
 simp only [Am.c, Am.enc, Vt.c, Vt.enc, rc, F9, sb, ints, lks] at h1 h2 k1 k2 k3 ⊢
 (repeat first | refine uA ?_ | (refine uK ?_ ?_; focus first | omega | trivial | (intros; simp_all <;> omega)) | simp (disch := omega) only [go_sem, Nat.reduceBEq, Nat.reduceAdd, Nat.reduceLeDiff, Int.reduceToNat, Int.reducePow, ww, hnm, htn, b9R] | refine l7.t (j5.lift (k := 0) rfl (k1 _ rfl) rfl rfl rfl) ?_ | refine l7.t (j5.lift (k := 0) rfl (k2 _ rfl) rfl rfl rfl) ?_ | (refine uB h1 ?_ ?_; exact rfl) | (refine uB h2 ?_ ?_; exact rfl))
 (repeat first | refine uA ?_ | (refine uK ?_ ?_; focus first | omega | trivial | (intros; simp_all <;> omega)) | simp (disch := omega) only [go_sem, Nat.reduceBEq, Nat.reduceAdd, Nat.reduceLeDiff, Int.reduceToNat, Int.reducePow, ww] | refine l7.t (j5.lift (k := 0) rfl (k3 _ rfl) rfl rfl rfl) ?_)
 rw [<- hc]
 refine S.loop (X := Nat × List Lk × List Int) (fun x => ⟨[(0, .bp 0 0), (4, .bp 1 0), (5, .bp 3 0), (30, ints c), (31, ints x.1)], [.box 145 [F9 x.2.2], .box 51 [.v (.string ⟨#[]⟩), .v (.bool false), .v (.string ⟨#[]⟩), .v (.string ⟨#[]⟩), .v (.bool false), .v (.string ⟨#[]⟩), .v (.string ⟨#[]⟩), .v (.bool false), .v (.bool false), .v (.string ⟨#[]⟩), .v (.string ⟨#[]⟩), .v (.slice none 0 0)], .gone, .box 51 [.v (.string (bs nm)), .v (.bool q1.neg), .v (.string (bs q1.num)), .v (.string (bs q1.den)), .v (.bool q2.neg), .v (.string (bs q2.num)), .v (.string (bs q2.den)), .v (.bool false), .v (.bool q3.neg), .v (.string (bs q3.num)), .v (.string (bs q3.den)), .rv 4], .row 53 16 (x.2.1.map Lk.enc)]⟩)
  (fun x => x.1 <= c /\ x.2.1.length = x.1 /\ x.2.1 ++ a1u (c - x.1) x.2.2 = a1u c l0 /\ x.2.2.drop (6 * (c - x.1)) = l0.drop (6 * c)) (fun x => c - x.1) (0, [], l0) ⟨b9M _, rfl, rfl, rfl⟩ (Ent.trans (Ent.a0h 3 11 53 16 rfl rfl rfl) (by (repeat first | refine uA ?_ | (refine ⟨?_, ?_⟩; focus first | rfl | trivial | (simp [slot]; done)) | rfl | trivial | simp | exact b9L hν0 (by simp)))) ?_
 rintro ⟨i, ls, m⟩ ⟨hi, hls, hL, hM⟩
 simp only [ints, F9] at hi hls hL hM ⊢
 (repeat first | refine uA ?_ | (refine uK ?_ ?_; focus first | omega | trivial | (intros; simp_all <;> omega)) | simp (disch := omega) only [go_sem, Nat.reduceBEq, Nat.reduceAdd, Nat.reduceLeDiff, Int.reduceToNat, Int.reducePow, ww])
 (refine uJ rfl (fun hc => ?_) fun hc => ?_)
 ·have hi' : c - i = (c - i - 1) + 1 := by omega
  have n0 := fun (E : Ctx) (hP : E.P = Tryz.prog) => F8 hP (m.drop 0) 4 (by decide)
  have a0 := l6 (m.drop 0) (n := 4) (by decide)
  have b0 := z8 (m.drop 0) (n := 4) (by decide)
  have n1 := fun (E : Ctx) (hP : E.P = Tryz.prog) => F8 hP (m.drop 1) 6 (by decide)
  have a1 := l6 (m.drop 1) (n := 6) (by decide)
  have b1 := z8 (m.drop 1) (n := 6) (by decide)
  have n2 := fun (E : Ctx) (hP : E.P = Tryz.prog) => F8 hP (m.drop 2) 6 (by decide)
  have a2 := l6 (m.drop 2) (n := 6) (by decide)
  have b2 := z8 (m.drop 2) (n := 6) (by decide)
  have n3 := fun (E : Ctx) (hP : E.P = Tryz.prog) => F8 hP (m.drop 3) 8 (by decide)
  have a3 := l6 (m.drop 3) (n := 8) (by decide)
  have b3 := z8 (m.drop 3) (n := 8) (by decide)
  have n4 := fun (E : Ctx) (hP : E.P = Tryz.prog) => F8 hP (m.drop 4) 20 (by decide)
  have a4 := l6 (m.drop 4) (n := 20) (by decide)
  have b4 := z8 (m.drop 4) (n := 20) (by decide)
  have n5 := fun (E : Ctx) (hP : E.P = Tryz.prog) => F8 hP (m.drop 5) 3 (by decide)
  have a5 := l6 (m.drop 5) (n := 3) (by decide)
  have b5 := z8 (m.drop 5) (n := 3) (by decide)
  rw [hi', a1u] at hL
  have hM2 : (m.drop 6).drop (6 * (c - (i + 1))) = l0.drop (6 * c) := by rw [List.drop_drop, <- hM]; congr 1; omega
  rw [show c - i - 1 = c - (i + 1) by omega] at hL
  simp only [List.drop_drop, List.drop_zero] at n0 n1 n2 n3 n4 n5 a0 b0
  unfold b3s a3s at hL
  have o1 := a0Q (4 + 2 * nx m 4) 4 (by omega) (by omega)
  have o2 := a0Q (-1 - nx (m.drop 1) 6) 3 (by omega) (by omega)
  have o3 := a0Q (1 + nx (m.drop 2) 6) 3 (by omega) (by omega)
  have o4 := a0Q 1 (4 + nx (m.drop 3) 8) (by omega) (by omega)
  have o5 := a0Q 1 (10 + nx (m.drop 4) 20) (by omega) (by omega)
  have o6 := b4T (-1) (-1) (4 + 2 * nx m 4 + 1) 1 (by omega) (by omega) (by omega) (by omega)
  have o7 := O3 (-1) (-1) (by omega) (by omega)
  have o8 := O3 (4 + 2 * nx m 4 + 1) 0 (by omega) (by omega)
  have o9 := O3 (-1) 1 (by omega) (by omega)
  generalize Q (4 + 2 * nx m 4) 4 = p1 at *
  generalize Q (-1 - nx (m.drop 1) 6) 3 = p2 at *
  generalize Q (1 + nx (m.drop 2) 6) 3 = p3 at *
  generalize Q 1 (4 + nx (m.drop 3) 8) = p4 at *
  generalize Q 1 (10 + nx (m.drop 4) 20) = p5 at *
  generalize a1R (-1) (-1) (4 + 2 * nx m 4 + 1) 1 = r6 at *
  generalize atV (-1) (-1) = v7 at *
  generalize atV (4 + 2 * nx m 4 + 1) 0 = v8 at *
  generalize atV (-1) 1 = v9 at *
  generalize nx m 4 = y0 at *
  generalize nx (m.drop 1) 6 = y1 at *
  generalize nx (m.drop 2) 6 = y2 at *
  generalize nx (m.drop 3) 8 = y3 at *
  generalize nx (m.drop 4) 20 = y4 at *
  generalize nx (m.drop 5) 3 = y5 at *
  simp only [F9, ints, rc, sb, vts, Vt.c, Vt.enc] at n0 n1 n2 n3 n4 n5 o1 o2 o3 o4 o5 o6 o7 o8 o9
  (repeat first | refine uA ?_ | (refine uK ?_ ?_; focus first | omega | trivial | (intros; simp_all <;> omega)) | simp (disch := omega) only [go_sem, Nat.reduceBEq, Nat.reduceAdd, Nat.reduceLeDiff, Int.reduceToNat, Int.reducePow, ww] | refine l7.t (j5.lift (k := 0) rfl (n0 _ rfl) rfl rfl rfl) ?_ | refine l7.t (j5.lift (k := 0) rfl (n1 _ rfl) rfl rfl rfl) ?_ | refine l7.t (j5.lift (k := 0) rfl (n2 _ rfl) rfl rfl rfl) ?_ | refine l7.t (j5.lift (k := 0) rfl (n3 _ rfl) rfl rfl rfl) ?_ | refine l7.t (j5.lift (k := 0) rfl (n4 _ rfl) rfl rfl rfl) ?_ | refine l7.t (j5.lift (k := 0) rfl (n5 _ rfl) rfl rfl rfl) ?_ | (refine uB o1 ?_ ?_; exact rfl) | (refine uB o2 ?_ ?_; exact rfl) | (refine uB o3 ?_ ?_; exact rfl) | (refine uB o4 ?_ ?_; exact rfl) | (refine uB o5 ?_ ?_; exact rfl) | (refine uB o6 ?_ ?_; exact rfl))
  refine S.join (Y := List Vt) (fun sh => ⟨[(0, .bp 0 0), (4, .bp 1 0), (5, .bp 3 0), (7, .bp 5 0), (30, ints c), (31, ints i)], [.box 145 [F9 (m.drop 6)], .box 51 [.v (.string ⟨#[]⟩), .v (.bool false), .v (.string ⟨#[]⟩), .v (.string ⟨#[]⟩), .v (.bool false), .v (.string ⟨#[]⟩), .v (.string ⟨#[]⟩), .v (.bool false), .v (.bool false), .v (.string ⟨#[]⟩), .v (.string ⟨#[]⟩), .v (.slice none 0 0)], .gone, .box 51 [.v (.string (bs nm)), .v (.bool q1.neg), .v (.string (bs q1.num)), .v (.string (bs q1.den)), .v (.bool q2.neg), .v (.string (bs q2.num)), .v (.string (bs q2.den)), .v (.bool false), .v (.bool q3.neg), .v (.string (bs q3.num)), .v (.string (bs q3.den)), .rv 4], .row 53 16 (ls.map Lk.enc), .box 53 (Lk.enc ⟨p1, p2, p3, p4, p5, sh⟩)]⟩) (fun sh => sh = if y5 = 2 then [v7, v8, v9] else r6) ?_ ?_
  ·refine S.cond rfl (fun hc => ?_) (fun hc => ?_)
   ·(repeat first | refine uA ?_ | (refine uK ?_ ?_; focus first | omega | trivial | (intros; simp_all <;> omega)) | simp (disch := omega) only [go_sem, Nat.reduceBEq, Nat.reduceAdd, Nat.reduceLeDiff, Int.reduceToNat, Int.reducePow, ww] | (refine uB o7 ?_ ?_; exact rfl) | (refine uB o8 ?_ ?_; exact rfl) | (refine uB o9 ?_ ?_; exact rfl))
    exact S.met [v7, v8, v9] (by simp at hc; rw [if_pos hc]) (Ent.mk _ _ (by (repeat' (first | exact V6.nil | exact Imp.junk | exact Imp.refl rfl | exact Imp.eq (by simp [slot]; done) rfl | refine V6.cons ?_ ?_))) (by (repeat' (first | exact L9.nil | exact RI.gone _ | exact RI.row _ _ _ _ rfl | exact RI.map _ _ _ rfl | exact RI.box _ _ _ (l8.refl rfl) | (refine RI.box _ _ _ ?_; (repeat' (first | exact l8.nil | exact Imp.refl rfl | exact Imp.frz rfl rfl rfl | exact Imp.a4o | refine l8.cons ?_ ?_))) | refine L9.cons ?_ ?_))) (b9L hν0 (by simp)))
   ·(repeat first | refine uA ?_ | (refine uK ?_ ?_; focus first | omega | trivial | (intros; simp_all <;> omega)) | simp (disch := omega) only [go_sem, Nat.reduceBEq, Nat.reduceAdd, Nat.reduceLeDiff, Int.reduceToNat, Int.reducePow, ww])
    exact S.met r6 (by simp at hc; rw [if_neg hc]) (by (repeat first | refine uA ?_ | (refine ⟨?_, ?_⟩; focus first | rfl | trivial | (simp [slot]; done)) | rfl | trivial | simp | exact b9L hν0 (by simp)))
  rintro sh hsh
  rw [<- hsh] at hL
  simp only [F9, ints, Lk.enc, vts]
  (repeat first | refine uA ?_ | (refine uK ?_ ?_; focus first | omega | trivial | (intros; simp_all <;> omega)) | simp (disch := omega) only [go_sem, Nat.reduceBEq, Nat.reduceAdd, Nat.reduceLeDiff, Int.reduceToNat, Int.reducePow, ww, b9K, hls])
  refine S.next (x := (i, ls, m)) (i + 1, ls ++ [⟨p1, p2, p3, p4, p5, sh⟩], m.drop 6) ⟨by simp only; omega, by simp [hls], by simp only; rw [c0t]; exact hL, by simp only; exact hM2⟩ (by simp only; omega) (by simp only [c0C, b9Z, c0x]; exact (by (repeat first | refine uA ?_ | (refine ⟨?_, ?_⟩; focus first | rfl | trivial | (simp [slot]; done)) | rfl | trivial | simp | exact b9L hν0 (by simp))))
 ·have hi' : i = c := by omega
  subst hi'
  rw [Nat.sub_self, a1u, List.append_nil] at hL
  rw [Nat.sub_self, Nat.mul_zero, List.drop_zero] at hM
  subst hL
  subst hM
  (repeat first | refine uA ?_ | (refine uK ?_ ?_; focus first | omega | trivial | (intros; simp_all <;> omega)) | simp (disch := omega) only [go_sem, Nat.reduceBEq, Nat.reduceAdd, Nat.reduceLeDiff, Int.reduceToNat, Int.reducePow, ww])
  (refine S.done ?_; simp only [C8, r9, go_sem, Nat.reduceBEq, Nat.reduceAdd, Nat.reduceLeDiff, Int.reduceToNat, Int.reducePow]; (repeat (refine ⟨?_, ?_⟩; focus first | trivial | omega | simp)); exact d9.M6 (Imp.agg (by (repeat' (first | exact l8.nil | exact Imp.refl rfl | exact Imp.frz rfl rfl rfl | exact Imp.a4o | refine l8.cons ?_ ?_)))) (by (repeat first | refine uA ?_ | (refine ⟨?_, ?_⟩; focus first | rfl | trivial | (simp [slot]; done)) | rfl | trivial | simp)) (b9L hν0 (by simp)))
set_option maxHeartbeats 32000000
def Q8 : List C := [.v (.slice none 0 0), .v (.slice none 0 0), .v (.slice none 0 0), .v (.slice none 0 0), .v (.slice none 0 0), .v (.bool false), .v (.string ⟨#[]⟩), .v (.string ⟨#[]⟩)]
def rsM (m : List Int) (a : List Am) (w : List (List Vt)) (p : List Pt) (s : List Sl) (g : List Gt) : List Res :=
 [.box 31 Q8, .box 145 [F9 m], .box 31 [.rv 3, .rv 4, .rv 5, .rv 6, .rv 7, .v (.bool false), .v (.string ⟨#[]⟩), .v (.string ⟨#[]⟩)], .row 51 12 (a.map Am.enc), .row 34 1 (w.map fun s => [vts s]), .row 65 12 (p.map Pt.enc), .row 86 14 (s.map Sl.enc), .row 91 13 (g.map Gt.enc)]
theorem b5M (n : Nat) (h : n < 2) : ([[C.v (.string ⟨#[98, 111, 108, 116]⟩)], [C.v (.string ⟨#[110, 117, 116]⟩)]] : List (List C))[n]? = some [C.v (.string (bs (a2v n)))] := by
 match n, h with
 | 0, _ => rfl
 | 1, _ => rfl
theorem b4P (n : Nat) (h : n < 3) : ([[C.v (.string ⟨#[104, 101, 114, 101]⟩)], [C.v (.string ⟨#[116, 104, 101, 114, 101]⟩)], [C.v (.string ⟨#[98, 101, 121, 111, 110, 100]⟩)]] : List (List C))[n]? = some [C.v (.string (bs (a3n n)))] := by
 match n, h with
 | 0, _ => rfl
 | 1, _ => rfl
 | 2, _ => rfl
theorem b7H (l : List Int) : F3 Tryz.prog 23 [F9 l] (F6 l).c := by
 refine kS a6n a6o (by rfl) fun w O => ?_
 have k0 := fun (E : Ctx) (hP : E.P = Tryz.prog) => F8 hP l 2 (by decide)
 have c0 := l6 l (n := 2) (by decide)
 have d0 := z8 l (n := 2) (by decide)
 have hc1 : ((nA l : Nat) : Int) = 1 + nx l 2 := by unfold nA; omega
 have z2 := l6 (l1 l) (n := 3) (by decide)
 have z3 := l6 (l2 l) (n := 3) (by decide)
 have z4 := l6 (l3 l) (n := 2) (by decide)
 have z5 := l6 (l4 l) (n := 2) (by decide)
 have z6 := l6 (l5 l) (n := 4) (by decide)
 have y6 := z8 (l5 l) (n := 4) (by decide)
 have hc2 : ((nW l : Nat) : Int) = nx (l1 l) 3 := by unfold nW; omega
 have hc3 : ((nP l : Nat) : Int) = nx (l2 l) 3 := by unfold nP; omega
 have hc4 : ((nS l : Nat) : Int) = (nP l : Int) + nx (l3 l) 2 := by unfold nS; omega
 have hc5 : ((nG l : Nat) : Int) = nx (l4 l) 2 := by unfold nG; omega
 obtain ⟨cc1, cc2, cc3, cc4, cc5⟩ := counts l
 have q1 : l1 l = a4r (nA l) (l.drop 1) := rfl
 have q2 : l2 l = (l1 l).drop (1 + 5 * nW l) := rfl
 have q3 : l3 l = a3d (nP l) ((l2 l).drop 1) := rfl
 have q4 : l4 l = (l3 l).drop (1 + 4 * nS l) := rfl
 have q5 : l5 l = (l4 l).drop (1 + 4 * nG l) := rfl
 unfold F6
 generalize nA l = cA at *
 generalize nW l = cW at *
 generalize nP l = cP at *
 generalize nS l = cS at *
 generalize nG l = cG at *
 generalize l5 l = L5 at *
 generalize l4 l = L4 at *
 generalize l3 l = L3 at *
 generalize l2 l = L2 at *
 generalize l1 l = L1 at *
 generalize l.drop 1 = s0 at *
 generalize nx l 2 = x0 at *
 have k1 := fun (E : Ctx) (hP : E.P = Tryz.prog) => F8 hP L1 3 (by decide)
 have k2 := fun (E : Ctx) (hP : E.P = Tryz.prog) => F8 hP L2 3 (by decide)
 have k3 := fun (E : Ctx) (hP : E.P = Tryz.prog) => F8 hP L3 2 (by decide)
 have k4 := fun (E : Ctx) (hP : E.P = Tryz.prog) => F8 hP L4 2 (by decide)
 have k5 := fun (E : Ctx) (hP : E.P = Tryz.prog) => F8 hP L5 4 (by decide)
 simp only [F9, ints] at k1 k2 k3 k4 k5
 simp only [a2p, l9, TT, II, OA, OB, OC, MM, LL, VV, FF, MG, LG, VG, FG]
 simp only [F9, ints] at k0 ⊢
 (repeat first | refine uA ?_ | (refine uK ?_ ?_; focus first | omega | (intros; simp_all <;> omega)) | simp (disch := omega) only [go_sem, Nat.reduceBEq, Nat.reduceAdd, ww] | refine l7.t (j5.lift (k := 1) rfl (k0 _ rfl) rfl rfl rfl) ?_)
 rw [<- hc1]
 refine S.loop (X := Nat × List Am × List Int) (fun x => ⟨[(2, .bp 0 0), (3, .bp 1 0), (4, .bp 2 0), (17, ints cA), (18, ints x.1)], rsM x.2.2 x.2.1 [] [] [] []⟩)
  (fun x => x.1 <= cA /\ x.2.1.length = x.1 /\ x.2.1 ++ a0P (cA - x.1) x.1 x.2.2 = a0P cA 0 s0 /\ a4r (cA - x.1) x.2.2 = a4r cA s0) (fun x => cA - x.1) (0, [], s0) ⟨b9M _, rfl, rfl, rfl⟩
  (Ent.trans (Ent.a0h 2 0 51 12 rfl rfl rfl) (Ent.trans (Ent.a0h 2 1 34 1 rfl rfl rfl) (Ent.trans (Ent.a0h 2 2 65 12 rfl rfl rfl) (Ent.trans (Ent.a0h 2 3 86 14 rfl rfl rfl) (Ent.trans (Ent.a0h 2 4 91 13 rfl rfl rfl) (by simp only [rsM, F9, Q8]; exact (by (repeat first | refine uA ?_ | (refine ⟨?_, ?_⟩; focus first | rfl | simp [slot]) | rfl | simp)))))))) ?_
 rintro ⟨i, am, ma⟩ ⟨hi, hl, hL, hM⟩
 simp only [rsM, Q8, F9, ints] at hi hl hL hM ⊢
 (repeat first | refine uA ?_ | (refine uK ?_ ?_; focus first | omega | (intros; simp_all <;> omega)) | simp (disch := omega) only [go_sem, Nat.reduceBEq, Nat.reduceAdd, ww])
 (refine uJ rfl (fun hc => ?_) fun hc => ?_)
 ·have hi' : i < cA := by omega
  rw [show cA - i = (cA - (i + 1)) + 1 by omega, a0P] at hL
  rw [show cA - i = (cA - (i + 1)) + 1 by omega, a4r] at hM
  have ha := fun (E : Ctx) (hP : E.P = Tryz.prog) => b9h hP ma i (by omega)
  generalize a8v ma i = A at *
  generalize a8J ma = m' at *
  simp only [F9, Am.c, Am.enc, lks, sb] at ha
  (repeat first | refine uI ?_ | (refine uK ?_ ?_; focus first | omega | (intros; simp_all <;> omega)) | simp (disch := omega) only [go_sem, Nat.reduceBEq, Nat.reduceAdd, ww])
  refine S.F4 [.gone, .gone, .box 31 [.rv 3, .rv 4, .rv 5, .rv 6, .rv 7, .v (.bool false), .v (.string ⟨#[]⟩), .v (.string ⟨#[]⟩)]] (by simp [Eng.D9, Eng.V8]) ?_
  (repeat first | refine uA ?_ | (refine uK ?_ ?_; focus first | omega | (intros; simp_all <;> omega)) | simp (disch := omega) only [go_sem, Nat.reduceBEq, Nat.reduceAdd, ww, b9K, hl, D9] | refine l7.t (j5.lift (k := 1) rfl (ha _ rfl) rfl rfl rfl) ?_)
  refine S.next (x := (i, am, ma)) (i + 1, am ++ [A], m') ⟨by simp only; omega, by simp [hl], by simp only; rw [c0t]; exact hL, by simp only; exact hM⟩ (by simp only; omega) (by simp only [rsM, F9, Q8, c0C, b9Z, c0x]; exact (by (repeat first | refine uA ?_ | (refine ⟨?_, ?_⟩; focus first | rfl | simp [slot]) | rfl | simp)))
 have hi' : i = cA := by omega
 subst hi'
 rw [Nat.sub_self, a0P, List.append_nil] at hL
 rw [Nat.sub_self, a4r] at hM
 have hm : ma = L1 := by rw [q1]; exact hM
 subst hm
 rw [<- hL]
 (repeat first | refine uA ?_ | (refine uK ?_ ?_; focus first | omega | (intros; simp_all <;> omega)) | simp (disch := omega) only [go_sem, Nat.reduceBEq, Nat.reduceAdd, ww] | refine l7.t (j5.lift (k := 1) rfl (k1 _ rfl) rfl rfl rfl) ?_)
 rw [<- hc2]
 refine S.loop (X := Nat × List (List Vt) × List Int) (fun x => ⟨[(2, .bp 0 0), (3, .bp 1 0), (4, .bp 2 0), (31, ints cW), (32, ints x.1)], rsM x.2.2 am x.2.1 [] [] []⟩)
  (fun x => x.1 <= cW /\ x.2.1.length = x.1 /\ x.2.1 ++ Z9 (cW - x.1) x.2.2 = Z9 cW (ma.drop 1) /\ x.2.2.drop (5 * (cW - x.1)) = (ma.drop 1).drop (5 * cW)) (fun x => cW - x.1) (0, [], ma.drop 1) ⟨b9M _, rfl, rfl, rfl⟩ (by simp only [rsM, F9, Q8]; exact (by (repeat first | refine uA ?_ | (refine ⟨?_, ?_⟩; focus first | rfl | simp [slot]) | rfl | simp))) ?_
 rintro ⟨i, ws, mw⟩ ⟨hi, hl, hL, hM⟩
 simp only [rsM, Q8, F9, ints] at hi hl hL hM ⊢
 (repeat first | refine uA ?_ | (refine uK ?_ ?_; focus first | omega | (intros; simp_all <;> omega)) | simp (disch := omega) only [go_sem, Nat.reduceBEq, Nat.reduceAdd, ww])
 (refine uJ rfl (fun hc => ?_) fun hc => ?_)
 ·have hi' : i < cW := by omega
  rw [show cW - i = (cW - (i + 1)) + 1 by omega, Z9] at hL
  have hM2 : (mw.drop 5).drop (5 * (cW - (i + 1))) = (ma.drop 1).drop (5 * cW) := by rw [<- hM, List.drop_drop]; congr 1; omega
  have n0 := fun (E : Ctx) (hP : E.P = Tryz.prog) => F8 hP mw 80 (by decide)
  have a0 := l6 mw (n := 80) (by decide)
  have b0 := z8 mw (n := 80) (by decide)
  have n1 := fun (E : Ctx) (hP : E.P = Tryz.prog) => F8 hP (mw.drop 1) 30 (by decide)
  have a1 := l6 (mw.drop 1) (n := 30) (by decide)
  have b1 := z8 (mw.drop 1) (n := 30) (by decide)
  have n2 := fun (E : Ctx) (hP : E.P = Tryz.prog) => F8 hP (mw.drop 2) 2 (by decide)
  have a2 := l6 (mw.drop 2) (n := 2) (by decide)
  have b2 := z8 (mw.drop 2) (n := 2) (by decide)
  have n3 := fun (E : Ctx) (hP : E.P = Tryz.prog) => F8 hP (mw.drop 3) 20 (by decide)
  have a3 := l6 (mw.drop 3) (n := 20) (by decide)
  have b3 := z8 (mw.drop 3) (n := 20) (by decide)
  have n4 := fun (E : Ctx) (hP : E.P = Tryz.prog) => F8 hP (mw.drop 4) 5 (by decide)
  have a4 := l6 (mw.drop 4) (n := 5) (by decide)
  have b4 := z8 (mw.drop 4) (n := 5) (by decide)
  simp only [List.drop_drop, F9, ints] at n0 n1 n2 n3 n4
  have hwy : -1000 <= a0c mw /\ a0c mw <= 1000 := by unfold a0c; split <;> omega
  have o1 := b4T (nx mw 80 - 30) (a0c mw) (nx mw 80 - 30 + 1 + nx (mw.drop 3) 20) (a0c mw + 1 + nx (mw.drop 4) 5) (by omega) (by omega) (by omega) (by omega)
  unfold b0f at hL
  generalize a1R (nx mw 80 - 30) (a0c mw) (nx mw 80 - 30 + 1 + nx (mw.drop 3) 20) (a0c mw + 1 + nx (mw.drop 4) 5) = R at *
  have hwe : a0c mw = if nx (mw.drop 2) 2 = 1 then -(12 + nx (mw.drop 1) 30) - 6 else 12 + nx (mw.drop 1) 30 := rfl
  generalize a0c mw = Y at *
  generalize nx mw 80 = x1 at *
  generalize nx (mw.drop 1) 30 = x2 at *
  generalize nx (mw.drop 2) 2 = x3 at *
  generalize nx (mw.drop 3) 20 = x4 at *
  generalize nx (mw.drop 4) 5 = x5 at *
  simp only [ints, vts] at o1
  (repeat first | refine uA ?_ | (refine uK ?_ ?_; focus first | omega | (intros; simp_all <;> omega)) | simp (disch := omega) only [go_sem, Nat.reduceBEq, Nat.reduceAdd, ww] | refine l7.t (j5.lift (k := 1) rfl (n0 _ rfl) rfl rfl rfl) ?_ | refine l7.t (j5.lift (k := 1) rfl (n1 _ rfl) rfl rfl rfl) ?_ | refine l7.t (j5.lift (k := 1) rfl (n2 _ rfl) rfl rfl rfl) ?_)
  refine S.join (Y := Int) (fun y => ⟨[(2, .bp 0 0), (3, .bp 1 0), (4, .bp 2 0), (6, ints (x1 - 30)), (7, ints y), (31, ints cW), (32, ints i)], rsM (mw.drop 3) am ws [] [] []⟩) (fun y => y = Y) ?_ ?_
  ·refine S.cond rfl (fun hc => ?_) (fun hc => ?_)
   ·have hn2 : IntKind.i64.wrap (0 - (12 + x2)) = -(12 + x2) := by rw [Eng.wrap_i64 (by omega)]; omega
    (repeat first | refine uA ?_ | (refine uK ?_ ?_; focus first | omega | (intros; simp_all <;> omega)) | simp (disch := omega) only [go_sem, Nat.reduceBEq, Nat.reduceAdd, ww, hn2])
    exact S.met (-(12 + x2) - 6) (by simp at hc; rw [hwe, if_pos hc]) (by simp only [rsM, F9, Q8]; exact (by (repeat first | refine uA ?_ | (refine ⟨?_, ?_⟩; focus first | rfl | simp [slot]) | rfl | simp)))
   ·(repeat first | refine uA ?_ | (refine uK ?_ ?_; focus first | omega | (intros; simp_all <;> omega)) | simp (disch := omega) only [go_sem, Nat.reduceBEq, Nat.reduceAdd, ww])
    exact S.met (12 + x2) (by simp at hc; rw [hwe, if_neg hc]) (by simp only [rsM, F9, Q8]; exact (by (repeat first | refine uA ?_ | (refine ⟨?_, ?_⟩; focus first | rfl | simp [slot]) | rfl | simp)))
  rintro y rfl
  simp only [rsM, Q8, F9, ints]
  (repeat first | refine uI ?_ | (refine uK ?_ ?_; focus first | omega | (intros; simp_all <;> omega)) | simp (disch := omega) only [go_sem, Nat.reduceBEq, Nat.reduceAdd, ww])
  refine S.F4 [.gone, .gone, .box 31 [.rv 3, .rv 4, .rv 5, .rv 6, .rv 7, .v (.bool false), .v (.string ⟨#[]⟩), .v (.string ⟨#[]⟩)]] (by simp [Eng.D9, Eng.V8]) ?_
  (repeat first | refine uA ?_ | (refine uK ?_ ?_; focus first | omega | (intros; simp_all <;> omega)) | simp (disch := omega) only [go_sem, Nat.reduceBEq, Nat.reduceAdd, ww, b9K, hl, D9] | refine l7.t (j5.lift (k := 1) rfl (n3 _ rfl) rfl rfl rfl) ?_ | refine l7.t (j5.lift (k := 1) rfl (n4 _ rfl) rfl rfl rfl) ?_ | (refine uB o1 ?_ ?_; exact rfl))
  refine S.next (x := (i, ws, mw)) (i + 1, ws ++ [R], mw.drop 5) ⟨by simp only; omega, by simp [hl], by simp only; rw [c0t]; exact hL, by simp only; exact hM2⟩ (by simp only; omega) (by simp only [rsM, F9, Q8, c0C, b9Z, c0x]; exact (by (repeat first | refine uA ?_ | (refine ⟨?_, ?_⟩; focus first | rfl | simp [slot]) | rfl | simp)))
 have hi' : i = cW := by omega
 subst hi'
 rw [Nat.sub_self, Z9, List.append_nil] at hL
 rw [Nat.sub_self, Nat.mul_zero, List.drop_zero, List.drop_drop] at hM
 have hm : mw = L2 := by rw [q2]; exact hM
 subst hm
 rw [<- hL]
 (repeat first | refine uA ?_ | (refine uK ?_ ?_; focus first | omega | (intros; simp_all <;> omega)) | simp (disch := omega) only [go_sem, Nat.reduceBEq, Nat.reduceAdd, ww] | refine l7.t (j5.lift (k := 1) rfl (k2 _ rfl) rfl rfl rfl) ?_)
 rw [<- hc3]
 refine S.loop (X := Nat × List Pt × List Int) (fun x => ⟨[(2, .bp 0 0), (3, .bp 1 0), (4, .bp 2 0), (66, ints cP), (67, ints x.1)], rsM x.2.2 am ws x.2.1 [] []⟩)
  (fun x => x.1 <= cP /\ x.2.1.length = x.1 /\ x.2.1 ++ Y0 (cP - x.1) x.1 x.2.2 = Y0 cP 0 (mw.drop 1) /\ a3d (cP - x.1) x.2.2 = a3d cP (mw.drop 1)) (fun x => cP - x.1) (0, [], mw.drop 1) ⟨b9M _, rfl, rfl, rfl⟩ (by simp only [rsM, F9, Q8]; exact (by (repeat first | refine uA ?_ | (refine ⟨?_, ?_⟩; focus first | rfl | simp [slot]) | rfl | simp))) ?_
 rintro ⟨i, ps, mp⟩ ⟨hi, hl, hL, hM⟩
 simp only [rsM, Q8, F9, ints] at hi hl hL hM ⊢
 (repeat first | refine uA ?_ | (refine uK ?_ ?_; focus first | omega | (intros; simp_all <;> omega)) | simp (disch := omega) only [go_sem, Nat.reduceBEq, Nat.reduceAdd, ww])
 (refine uJ rfl (fun hc => ?_) fun hc => ?_)
 ·have hi' : i < cP := by omega
  rw [show cP - i = (cP - (i + 1)) + 1 by omega, Y0] at hL
  rw [show cP - i = (cP - (i + 1)) + 1 by omega, a3d] at hM
  have hp := fun (E : Ctx) (hP : E.P = Tryz.prog) => b8r hP mp
  have hnm := b5M i (by omega)
  have o1 := O3 0 0 (by decide) (by decide)
  have o2 := a0Q 0 1 (by decide) (by decide)
  unfold b6Y at hL
  unfold atV at o1
  generalize (a0z mp).1 = sh at *
  generalize (a0z mp).2 = m' at *
  generalize Q 0 4 = qa at *
  generalize Q 0 1 = qb at *
  generalize a2v i = nm at *
  simp only [F9, vts, Vt.c, Vt.enc, rc, sb, ints] at hp o1 o2
  (repeat first | refine uI ?_ | (refine uK ?_ ?_; focus first | omega | (intros; simp_all <;> omega)) | simp (disch := omega) only [go_sem, Nat.reduceBEq, Nat.reduceAdd, ww])
  refine S.F4 [.gone, .gone, .box 31 [.rv 3, .rv 4, .rv 5, .rv 6, .rv 7, .v (.bool false), .v (.string ⟨#[]⟩), .v (.string ⟨#[]⟩)]] (by simp [Eng.D9, Eng.V8]) ?_
  (repeat first | refine uA ?_ | (refine uK ?_ ?_; focus first | omega | (intros; simp_all <;> omega)) | simp (disch := omega) only [go_sem, Nat.reduceBEq, Nat.reduceAdd, ww, b9K, hl, D9, hnm, b9R] | refine l7.t (j5.lift (k := 1) rfl (hp _ rfl) rfl rfl rfl) ?_ | (refine uB o1 ?_ ?_; exact rfl) | (refine uB o2 ?_ ?_; exact rfl))
  refine S.next (x := (i, ps, mp)) (i + 1, ps ++ [⟨nm, sh, ⟨qa, qa, false, qb⟩⟩], m') ⟨by simp only; omega, by simp [hl], by simp only; rw [c0t]; exact hL, by simp only; exact hM⟩ (by simp only; omega) (by simp only [rsM, F9, Q8, c0C, b9Z, c0x]; exact (by (repeat first | refine uA ?_ | (refine ⟨?_, ?_⟩; focus first | rfl | simp [slot]) | rfl | simp)))
 have hi' : i = cP := by omega
 subst hi'
 rw [Nat.sub_self, Y0, List.append_nil] at hL
 rw [Nat.sub_self, a3d] at hM
 have hm : mp = L3 := by rw [q3]; exact hM
 subst hm
 rw [<- hL]
 (repeat first | refine uI ?_ | (refine uK ?_ ?_; focus first | omega | (intros; simp_all <;> omega)) | simp (disch := omega) only [go_sem, Nat.reduceBEq, Nat.reduceAdd, ww])
 refine S.F4 [.gone, .gone, .box 31 [.rv 3, .rv 4, .rv 5, .rv 6, .rv 7, .v (.bool false), .v (.string ⟨#[]⟩), .v (.string ⟨#[]⟩)], .gone, .gone, .row 65 12 (ps.map Pt.enc)] (by simp [Eng.D9, Eng.V8]) ?_
 (repeat first | refine uA ?_ | (refine uK ?_ ?_; focus first | omega | (intros; simp_all <;> omega)) | simp (disch := omega) only [go_sem, Nat.reduceBEq, Nat.reduceAdd, ww, b9K, hl, D9] | refine l7.t (j5.lift (k := 1) rfl (k3 _ rfl) rfl rfl rfl) ?_)
 rw [<- hc4]
 refine S.loop (X := Nat × List Sl × List Int) (fun x => ⟨[(2, .bp 0 0), (3, .bp 1 0), (4, .bp 2 0), (92, ints cS), (93, ints x.1)], rsM x.2.2 am ws ps x.2.1 []⟩)
  (fun x => x.1 <= cS /\ x.2.1.length = x.1 /\ x.2.1 ++ X6 (cS - x.1) x.1 x.2.2 = X6 cS 0 (mp.drop 1) /\ x.2.2.drop (4 * (cS - x.1)) = (mp.drop 1).drop (4 * cS)) (fun x => cS - x.1) (0, [], mp.drop 1) ⟨b9M _, rfl, rfl, rfl⟩ (by simp only [rsM, F9, Q8]; exact (by (repeat first | refine uA ?_ | (refine ⟨?_, ?_⟩; focus first | rfl | simp [slot]) | rfl | simp))) ?_
 rintro ⟨i, ss, ms⟩ ⟨hi, hl, hL, hM⟩
 simp only [rsM, Q8, F9, ints] at hi hl hL hM ⊢
 (repeat first | refine uA ?_ | (refine uK ?_ ?_; focus first | omega | (intros; simp_all <;> omega)) | simp (disch := omega) only [go_sem, Nat.reduceBEq, Nat.reduceAdd, ww])
 (refine uJ rfl (fun hc => ?_) fun hc => ?_)
 ·have hi' : i < cS := by omega
  rw [show cS - i = (cS - (i + 1)) + 1 by omega, X6] at hL
  have hM2 : (ms.drop 4).drop (4 * (cS - (i + 1))) = (mp.drop 1).drop (4 * cS) := by rw [<- hM, List.drop_drop]; congr 1; omega
  have n0 := fun (E : Ctx) (hP : E.P = Tryz.prog) => F8 hP ms 40 (by decide)
  have a0 := l6 ms (n := 40) (by decide)
  have b0 := z8 ms (n := 40) (by decide)
  have n1 := fun (E : Ctx) (hP : E.P = Tryz.prog) => F8 hP (ms.drop 1) 24 (by decide)
  have a1 := l6 (ms.drop 1) (n := 24) (by decide)
  have b1 := z8 (ms.drop 1) (n := 24) (by decide)
  have n2 := fun (E : Ctx) (hP : E.P = Tryz.prog) => F8 hP (ms.drop 2) 5 (by decide)
  have a2 := l6 (ms.drop 2) (n := 5) (by decide)
  have b2 := z8 (ms.drop 2) (n := 5) (by decide)
  have n3 := fun (E : Ctx) (hP : E.P = Tryz.prog) => F8 hP (ms.drop 3) 20 (by decide)
  have a3 := l6 (ms.drop 3) (n := 20) (by decide)
  have b3 := z8 (ms.drop 3) (n := 20) (by decide)
  simp only [List.drop_drop, F9, ints] at n0 n1 n2 n3
  have hnm := b4P i (by omega)
  have o1 := O3 (nx ms 40 - 20) (nx (ms.drop 1) 24 - 12) (by omega) (by omega)
  have o2 := a0Q (nx (ms.drop 2) 5 - 2) 2 (by omega) (by decide)
  have o3 := a0Q 1 (8 + nx (ms.drop 3) 20) (by decide) (by omega)
  unfold b3z at hL
  unfold atV at o1
  generalize Q (nx ms 40 - 20) 4 = qa at *
  generalize Q (nx (ms.drop 1) 24 - 12) 4 = qb at *
  generalize Q (nx (ms.drop 2) 5 - 2) 2 = qc at *
  generalize Q 1 (8 + nx (ms.drop 3) 20) = qd at *
  generalize a3n i = nm at *
  generalize nx ms 40 = x1 at *
  generalize nx (ms.drop 1) 24 = x2 at *
  generalize nx (ms.drop 2) 5 = x3 at *
  generalize nx (ms.drop 3) 20 = x4 at *
  simp only [Vt.c, Vt.enc, rc, sb, ints] at o1 o2 o3
  (repeat first | refine uI ?_ | (refine uK ?_ ?_; focus first | omega | (intros; simp_all <;> omega)) | simp (disch := omega) only [go_sem, Nat.reduceBEq, Nat.reduceAdd, ww])
  refine S.F4 [.gone, .gone, .box 31 [.rv 3, .rv 4, .rv 5, .rv 6, .rv 7, .v (.bool false), .v (.string ⟨#[]⟩), .v (.string ⟨#[]⟩)]] (by simp [Eng.D9, Eng.V8]) ?_
  (repeat first | refine uA ?_ | (refine uK ?_ ?_; focus first | omega | (intros; simp_all <;> omega)) | simp (disch := omega) only [go_sem, Nat.reduceBEq, Nat.reduceAdd, ww, b9K, hl, D9, hnm, b9R] | refine l7.t (j5.lift (k := 1) rfl (n0 _ rfl) rfl rfl rfl) ?_ | refine l7.t (j5.lift (k := 1) rfl (n1 _ rfl) rfl rfl rfl) ?_ | refine l7.t (j5.lift (k := 1) rfl (n2 _ rfl) rfl rfl rfl) ?_ | refine l7.t (j5.lift (k := 1) rfl (n3 _ rfl) rfl rfl rfl) ?_ | (refine uB o1 ?_ ?_; exact rfl) | (refine uB o2 ?_ ?_; exact rfl) | (refine uB o3 ?_ ?_; exact rfl))
  refine S.next (x := (i, ss, ms)) (i + 1, ss ++ [⟨nm, ⟨qa, qb, false, qc⟩, qd⟩], ms.drop 4) ⟨by simp only; omega, by simp [hl], by simp only; rw [c0t]; exact hL, by simp only; exact hM2⟩ (by simp only; omega) (by simp only [rsM, F9, Q8, c0C, b9Z, c0x]; exact (by (repeat first | refine uA ?_ | (refine ⟨?_, ?_⟩; focus first | rfl | simp [slot]) | rfl | simp)))
 have hi' : i = cS := by omega
 subst hi'
 rw [Nat.sub_self, X6, List.append_nil] at hL
 rw [Nat.sub_self, Nat.mul_zero, List.drop_zero, List.drop_drop] at hM
 have hm : ms = L4 := by rw [q4]; exact hM
 subst hm
 rw [<- hL]
 (repeat first | refine uA ?_ | (refine uK ?_ ?_; focus first | omega | (intros; simp_all <;> omega)) | simp (disch := omega) only [go_sem, Nat.reduceBEq, Nat.reduceAdd, ww] | refine l7.t (j5.lift (k := 1) rfl (k4 _ rfl) rfl rfl rfl) ?_)
 rw [<- hc5]
 refine S.loop (X := Nat × List Gt × List Int) (fun x => ⟨[(2, .bp 0 0), (3, .bp 1 0), (4, .bp 2 0), (125, ints cG), (126, ints x.1)], rsM x.2.2 am ws ps ss x.2.1⟩)
  (fun x => x.1 <= cG /\ x.2.1.length = x.1 /\ x.2.1 ++ Y2 (cG - x.1) x.2.2 = Y2 cG (ms.drop 1) /\ x.2.2.drop (4 * (cG - x.1)) = (ms.drop 1).drop (4 * cG)) (fun x => cG - x.1) (0, [], ms.drop 1) ⟨b9M _, rfl, rfl, rfl⟩ (by simp only [rsM, F9, Q8]; exact (by (repeat first | refine uA ?_ | (refine ⟨?_, ?_⟩; focus first | rfl | simp [slot]) | rfl | simp))) ?_
 rintro ⟨i, gs, mg⟩ ⟨hi, hl, hL, hM⟩
 simp only [rsM, Q8, F9, ints] at hi hl hL hM ⊢
 (repeat first | refine uA ?_ | (refine uK ?_ ?_; focus first | omega | (intros; simp_all <;> omega)) | simp (disch := omega) only [go_sem, Nat.reduceBEq, Nat.reduceAdd, ww])
 (refine uJ rfl (fun hc => ?_) fun hc => ?_)
 ·have hi' : i < cG := by omega
  rw [show cG - i = (cG - (i + 1)) + 1 by omega, Y2] at hL
  have hM2 : (mg.drop 4).drop (4 * (cG - (i + 1))) = (ms.drop 1).drop (4 * cG) := by rw [<- hM, List.drop_drop]; congr 1; omega
  have n0 := fun (E : Ctx) (hP : E.P = Tryz.prog) => F8 hP mg 60 (by decide)
  have a0 := l6 mg (n := 60) (by decide)
  have b0 := z8 mg (n := 60) (by decide)
  have n1 := fun (E : Ctx) (hP : E.P = Tryz.prog) => F8 hP (mg.drop 1) 60 (by decide)
  have a1 := l6 (mg.drop 1) (n := 60) (by decide)
  have b1 := z8 (mg.drop 1) (n := 60) (by decide)
  have n2 := fun (E : Ctx) (hP : E.P = Tryz.prog) => F8 hP (mg.drop 2) 12 (by decide)
  have a2 := l6 (mg.drop 2) (n := 12) (by decide)
  have b2 := z8 (mg.drop 2) (n := 12) (by decide)
  have n3 := fun (E : Ctx) (hP : E.P = Tryz.prog) => F8 hP (mg.drop 3) 12 (by decide)
  have a3 := l6 (mg.drop 3) (n := 12) (by decide)
  have b3 := z8 (mg.drop 3) (n := 12) (by decide)
  simp only [List.drop_drop, F9, ints] at n0 n1 n2 n3
  have o1 := O3 (nx mg 60 - 30) (nx (mg.drop 1) 60 - 30) (by omega) (by omega)
  have o2 := O3 (nx mg 60 - 30 + nx (mg.drop 2) 12) (nx (mg.drop 1) 60 - 30 + nx (mg.drop 3) 12) (by omega) (by omega)
  unfold b3W at hL
  generalize atV (nx mg 60 - 30) (nx (mg.drop 1) 60 - 30) = va at *
  generalize atV (nx mg 60 - 30 + nx (mg.drop 2) 12) (nx (mg.drop 1) 60 - 30 + nx (mg.drop 3) 12) = vb at *
  generalize nx mg 60 = x1 at *
  generalize nx (mg.drop 1) 60 = x2 at *
  generalize nx (mg.drop 2) 12 = x3 at *
  generalize nx (mg.drop 3) 12 = x4 at *
  simp only [Vt.c, Vt.enc, rc, sb, ints] at o1 o2
  (repeat first | refine uI ?_ | (refine uK ?_ ?_; focus first | omega | (intros; simp_all <;> omega)) | simp (disch := omega) only [go_sem, Nat.reduceBEq, Nat.reduceAdd, ww] | refine l7.t (j5.lift (k := 1) rfl (n0 _ rfl) rfl rfl rfl) ?_ | refine l7.t (j5.lift (k := 1) rfl (n1 _ rfl) rfl rfl rfl) ?_)
  refine S.F4 [.gone, .gone, .box 31 [.rv 3, .rv 4, .rv 5, .rv 6, .rv 7, .v (.bool false), .v (.string ⟨#[]⟩), .v (.string ⟨#[]⟩)]] (by simp [Eng.D9, Eng.V8]) ?_
  (repeat first | refine uA ?_ | (refine uK ?_ ?_; focus first | omega | (intros; simp_all <;> omega)) | simp (disch := omega) only [go_sem, Nat.reduceBEq, Nat.reduceAdd, ww, b9K, hl, D9] | refine l7.t (j5.lift (k := 1) rfl (n2 _ rfl) rfl rfl rfl) ?_ | refine l7.t (j5.lift (k := 1) rfl (n3 _ rfl) rfl rfl rfl) ?_ | (refine uB o1 ?_ ?_; exact rfl) | (refine uB o2 ?_ ?_; exact rfl))
  refine S.next (x := (i, gs, mg)) (i + 1, gs ++ [⟨[100, 111, 111, 114], va, vb⟩], mg.drop 4) ⟨by simp only; omega, by simp [hl], by simp only; rw [c0t]; exact hL, by simp only; exact hM2⟩ (by simp only; omega) (by simp only [rsM, F9, Q8, c0C, b9Z, c0x]; exact (by (repeat first | refine uA ?_ | (refine ⟨?_, ?_⟩; focus first | rfl | simp [slot]) | rfl | simp)))
 have hi' : i = cG := by omega
 subst hi'
 rw [Nat.sub_self, Y2, List.append_nil] at hL
 rw [Nat.sub_self, Nat.mul_zero, List.drop_zero, List.drop_drop] at hM
 have hm : mg = L5 := by rw [q5]; exact hM
 subst hm
 rw [<- hL]
 have o1 := a0Q (nx mg 4) 8 (by omega) (by decide)
 generalize Q (nx mg 4) 8 = qw at *
 generalize nx mg 4 = x6 at *
 simp only [Wk.c, Wk.enc, ams, wls, pts, sls, gts, rc, sb, ints] at o1 ⊢
 (repeat first | refine uA ?_ | (refine uK ?_ ?_; focus first | omega | (intros; simp_all <;> omega)) | simp (disch := omega) only [go_sem, Nat.reduceBEq, Nat.reduceAdd, ww] | refine l7.t (j5.lift (k := 1) rfl (k5 _ rfl) rfl rfl rfl) ?_ | (refine uB o1 ?_ ?_; exact rfl))
 (refine S.done ?_; simp only [C8, r9, go_sem, Nat.reduceBEq, Nat.reduceAdd, Nat.reduceLeDiff, Int.reduceToNat, Int.reducePow]; (repeat (refine ⟨?_, ?_⟩; focus first | trivial | omega | simp)); exact d9.out rfl (Imp.agg (by (repeat' (first | exact l8.nil | exact Imp.refl rfl | exact Imp.frz rfl rfl rfl | exact Imp.a4o | refine l8.cons ?_ ?_)))) rfl)
set_option maxHeartbeats 16000000
theorem b7F (l : List Int) : FZ 6 [F9 l] (.tup [(F6 l).c, (J7 (F6 l)).c, .v (.bool true)]) := by
 refine kW a5M a5o (by rfl) fun w' O hw => ?_
 have hk := b0D l
 obtain ⟨ha, hs⟩ := a6p l
 have hb := b4A l
 have h1 := b7H l
 have h2 := b7I (F6 l) hb hk
 have h3 := b1j (F6 l) (J7 (F6 l)) hb (a9K hb ha hs)
 rw [b0E hk ha hs] at h3
 have h4 := b6q
 have e1 : (J7 (F6 l)).arms.length = (F6 l).arms.length := by simp [J7]
 have e2 : (J7 (F6 l)).parts.length = (F6 l).parts.length := by simp [J7]
 generalize J7 (F6 l) = s at *
 generalize F6 l = w at *
 obtain ⟨arms, walls, parts, slots, gates, walk⟩ := w
 obtain ⟨tick, sarms, sparts, people, sgates⟩ := s
 simp only at e1 e2
 have d1 : decide ((sarms.length : Int) = (arms.length : Int)) = true := decide_eq_true (by omega)
 have d2 : decide ((sparts.length : Int) = (parts.length : Int)) = true := decide_eq_true (by omega)
 simp only [a1Z, l9, TT, II, OA, OB, OC, MM, LL, VV, FF, MG, LG, VG, FG]
 simp only [Wk.c, Wk.enc, Stt.c, Stt.enc, ams, wls, pts, sls, gts, a3I, frs, vts, bls, rc, sb, ints, F9] at h1 h2 h3 h4 ⊢
 (repeat first | refine uI ?_ | (refine uK ?_ ?_; focus first | omega | (intros; simp_all <;> omega)) | simp (disch := omega) only [go_sem, Nat.reduceBEq, Nat.reduceAdd, ww] | (refine uB h1 ?_ ?_; exact rfl) | (refine uD h2 ?_ ?_ ?_; exact tz hw; exact rfl))
 refine S.F4 [.gone, .gone, .gone, .box 37 [.v (.int .i64 tick), .sl 4 (sarms.map Ast.enc), .sl 10 (sparts.map Fr.enc), .sl 6 (people.map Vt.enc), .sl 1 (sgates.map fun b => [.v (.bool b)])]] (by simp [Eng.D9, Eng.V8]) ?_
 (repeat first | refine uA ?_ | (refine uK ?_ ?_; focus first | omega | (intros; simp_all <;> omega)) | simp (disch := omega) only [go_sem, Nat.reduceBEq, Nat.reduceAdd, ww, D9, b9K, e1, e2, d1, d2, decide_true, Bool.and_self] | (refine uD h3 ?_ ?_ ?_; exact tz hw; exact rfl) | (refine uD h4 ?_ ?_ ?_; exact tz hw; exact rfl))
 (refine S.done ?_; simp only [C8, r9, go_sem, Nat.reduceBEq, Nat.reduceAdd, Nat.reduceLeDiff, Int.reduceToNat, Int.reducePow]; (repeat (refine ⟨?_, ?_⟩; focus first | trivial | omega | simp)); exact d9.out rfl (Imp.tup (by (repeat' (first | exact l8.nil | exact Imp.refl rfl | exact Imp.frz rfl rfl rfl | exact Imp.a4o | refine Imp.agg ?_ | refine l8.cons ?_ ?_)))) rfl)
open Go Eng
def a0n : E9 := ⟨109, [.tmp 2], .seq (.reg [OA 2 (.mv (.const (.bool false)))]) (.seq (.reg [MM 12 0, OA 13 (.call 6 [TT 12]), MM 11 13, OA 14 (.ext (TT 11) 0), OA 15 (.ext (TT 11) 1), OA 16 (.ext (TT 11) 2), OA 3 (.alloc 31 [.slice none 0 0,
 .slice none 0 0, .slice none 0 0, .slice none 0 0, .slice none 0 0, .bool false, .string ⟨#[]⟩, .string ⟨#[]⟩]), OA 4 (.alloc 37 [.int .i64 0, .slice none 0 0, .slice none 0 0, .slice none 0 0, .slice none 0 0]), OB (.store 8
 (TT 3) (TT 14)), OB (.store 5 (TT 4) (TT 15)), MM 5 16]) (.seq (.reg [LL 17 8 3, OA 18 (.call 7 [TT 17]), OA 6 (.alloc 31 [.slice none 0 0, .slice none 0 0, .slice none 0 0, .slice none 0 0, .slice none 0 0, .bool false, .string
 ⟨#[]⟩, .string ⟨#[]⟩]), OB (.store 8 (TT 6) (TT 18))]) (.seq (.seq (.reg [MM 19 5, OA 20 (.un .not (TT 19)), MM 21 20, LG 22 8 6 21 false, OC 23 (.call 8 [TT 22]) 21 false, OC 24 (.bin .neq (TT 23) (II 0)) 21 false, OA 25 (.pick
 (TT 21) (.const (.bool true)) (TT 24)), MM 26 25, FG 27 0 6 26 false, VG 28 27 26 false, OC 29 (.len false (TT 28)) 26 false, FG 30 0 3 26 false, VG 31 30 26 false, OC 32 (.len false (TT 31)) 26 false, OC 33 (.bin .neq (TT 29)
 (TT 32)) 26 false, OA 34 (.pick (TT 26) (.const (.bool true)) (TT 33))]) (.cond (TT 34) (.seq (.reg [OA 2 (.mv (.const (.bool false)))]) .ret) .skip)) (.seq (.seq (.reg [FF 35 0 6, VV 36 35, OA 37 (.len false (TT 36)), OA 38
 (.mv (II 0))]) (.block 0 (.loop (.seq (.reg [OA 39 (.bin .lss (TT 38) (TT 37))]) (.seq (.cond (TT 39) .skip (.exit 0)) (.seq (.block 1 (.seq (.reg [MM 40 38, MM 7 40]) (.seq (.reg [FF 41 0 6, VV 42 41, MM 43 7, OA 44 (.j6 12
 (TT 42) (TT 43)), FF 45 11 44, VV 46 45, OA 47 (.len false (TT 46)), OA 48 (.mv (II 0))]) (.block 2 (.loop (.seq (.reg [OA 49 (.bin .lss (TT 48) (TT 47))]) (.seq (.cond (TT 49) .skip (.exit 2)) (.seq (.block 3 (.seq (.reg [MM 50
 48, MM 8 50]) (.seq (.seq (.reg [FF 51 0 6, VV 52 51, MM 53 7, OA 54 (.j6 12 (TT 52) (TT 53)), FF 55 11 54, VV 56 55, MM 57 8, OA 58 (.j6 16 (TT 56) (TT 57)), FF 59 15 58, VV 60 59, OA 61 (.len false (TT 60)), OA 62 (.mv
 (II 0))]) (.block 4 (.loop (.seq (.reg [OA 63 (.bin .lss (TT 62) (TT 61))]) (.seq (.cond (TT 63) .skip (.exit 4)) (.seq (.block 5 (.seq (.reg [MM 64 62, MM 9 64]) (.reg [FF 65 0 6, VV 66 65, MM 67 7, OA 68 (.j6 12 (TT 66) (TT
 67)), FF 69 11 68, VV 70 69, MM 71 8, OA 72 (.j6 16 (TT 70) (TT 71)), FF 73 15 72, VV 74 73, MM 75 9, OA 76 (.build [.bool false, .string ⟨#[]⟩, .string ⟨#[]⟩, .bool false, .string ⟨#[]⟩, .string ⟨#[]⟩] []), OA 77 (.j6 6
 (TT 74) (TT 75)), OB (.store 6 (TT 77) (TT 76))]))) (.reg [OA 78 (.bin .add (TT 62) (II 1)), MM 62 78]))))))) (.reg [FF 79 0 6, VV 80 79, MM 81 7, OA 82 (.j6 12 (TT 80) (TT 81)), FF 83 11 82, VV 84 83, MM 85 8, OA 86 (.build
 [.bool false, .string ⟨#[]⟩, .string ⟨#[]⟩] []), OA 87 (.j6 16 (TT 84) (TT 85)), FF 88 9 87, OB (.store 3 (TT 88) (TT 86))])))) (.reg [OA 89 (.bin .add (TT 48) (II 1)), MM 48 89]))))))))) (.reg [OA 90 (.bin .add (TT 38) (II
 1)), MM 38 90]))))))) (.seq (.seq (.reg [FF 91 1 6, VV 92 91, OA 93 (.len false (TT 92)), OA 94 (.mv (II 0))]) (.block 6 (.loop (.seq (.reg [OA 95 (.bin .lss (TT 94) (TT 93))]) (.seq (.cond (TT 95) .skip (.exit 6)) (.seq (.block
 7 (.seq (.reg [MM 96 94, MM 10 96]) (.reg [FF 97 1 6, VV 98 97, MM 99 10, OA 100 (.j6 1 (TT 98) (TT 99)), VV 101 100, OA 102 (.build [.bool false, .string ⟨#[]⟩, .string ⟨#[]⟩, .bool false, .string ⟨#[]⟩, .string ⟨#[]⟩] []),
 OA 103 (.j6 6 (TT 101) (II 0)), OB (.store 6 (TT 103) (TT 102))]))) (.reg [OA 104 (.bin .add (TT 94) (II 1)), MM 94 104]))))))) (.seq (.reg [LL 105 8 3, LL 106 5 4, OA 107 (.call 9 [TT 105, TT 106]), OA 108 (.bin .eql (TT
 107) (II 0)), MM 2 108]) .ret))))))⟩
theorem a2K : D5 eff Tryz.prog Tryz.f3 = some a0n := by kernel_rfl
theorem a2W : Tryz.prog.funcs[3]? = some Tryz.f3 := Tryz.func3
set_option maxHeartbeats 32000000
instance {rs rs' : List Res} {F : World -> Prop} {X : Value} : Eng.Sb (RI rs rs' (Res.mem F X) (Res.mem F X)) True := ⟨fun _ => RI.mem _ _⟩
def evK (E : Ctx) (ops : List C9) (K : St -> Prop) (s : St) : Prop := ev E ops s K
theorem J5 {E : Ctx} {a r : C9} {rest : List C9} {st : St} {K : St -> Prop} (h : ev E [a] st (evK E (r :: rest) K)) : ev E (a :: r :: rest) st K := by
 rw [b3e] at h ⊢
 exact h
theorem J6 {E : Ctx} {ops : List C9} {K : St -> Prop} {s : St} (h : ev E ops s K) : evK E ops K s := h
theorem b0l {rs rs' : List Res} {R : Nat -> Prop} (w : Wk) : Imp rs rs' (.agg [.xs false R 12 (w.arms.map Am.enc), .xs false R 1 (w.walls.map fun s => [vts s]), .xs false R 12 (w.parts.map Pt.enc), .xs false R 14 (w.slots.map Sl.enc), .xs false R 13 (w.gates.map Gt.enc), .v (.bool w.walk.neg), sb w.walk.num, sb w.walk.den]) w.c :=
 Imp.agg (l8.cons Imp.xs (l8.cons Imp.xs (l8.cons Imp.xs (l8.cons Imp.xs (l8.cons Imp.xs (l8.cons (Imp.refl rfl) (l8.cons (Imp.refl rfl) (l8.cons (Imp.refl rfl) l8.nil))))))))
theorem b6E {rs rs' : List Res} {R : Nat -> Prop} (s : Stt) : Imp rs rs' (.agg [ints s.tick, .xs false R 4 (s.arms.map Ast.enc), .xs false R 10 (s.parts.map Fr.enc), .xs false R 6 (s.people.map Vt.enc), .xs false R 1 (s.gates.map fun b => [.v (.bool b)])]) s.c :=
 Imp.agg (l8.cons (Imp.refl rfl) (l8.cons Imp.xs (l8.cons Imp.xs (l8.cons Imp.xs (l8.cons Imp.xs l8.nil)))))
theorem b8m {w : World} {O R : Nat -> Prop} (x : Lk) (ad : Addr) (j : Nat) (h : FzA w O (Lk.P7 R x) ad j) : FzA w O x.enc ad j :=
 a4l (fun _ h => b3P h) (cs := [.v (.bool x.length.neg), sb x.length.num, sb x.length.den, .v (.bool x.low.neg), sb x.low.num, sb x.low.den, .v (.bool x.high.neg), sb x.high.num, sb x.high.den, .v (.bool x.speed.neg), sb x.speed.num, sb x.speed.den, .v (.bool x.brake.neg), sb x.brake.num, sb x.brake.den]) h
theorem b8F {α : Type} {f g : α -> List C} {w : World} {O : Nat -> Prop} {sz : Nat} {l : List α} {y : Value} (hl : ∀ x, (g x).length = (f x).length) (h : ∀ x ad j, FzA w O (f x) ad j -> FzA w O (g x) ad j) (hf : Fz w O (.sl sz (l.map f)) y) : Fz w O (.sl sz (l.map g)) y := by
 simp only [Fz, b9K] at hf ⊢
 obtain ⟨A, c, rfl, h2, h3, h4⟩ := hf
 refine ⟨A, c, rfl, h2, h3, fun h0 => ?_⟩
 obtain ⟨ad, rfl, h5, h6, h7⟩ := h4 h0
 exact ⟨ad, rfl, h5, h6, a6b hl h h7⟩
theorem b8V {w : World} {O R : Nat -> Prop} (x : Am) (ad : Addr) (j : Nat) (h : FzA w O (Am.P7 R x) ad j) : FzA w O x.enc ad j :=
 a4l (fun _ h => b8F (f := Lk.P7 R) (g := Lk.enc) (fun _ => rfl) b8m (b3P h)) (cs := [sb x.name, .v (.bool x.base.x.neg), sb x.base.x.num, sb x.base.x.den, .v (.bool x.base.y.neg), sb x.base.y.num, sb x.base.y.den, .v (.bool x.base.half), .v (.bool x.base.t.neg), sb x.base.t.num, sb x.base.t.den]) h
theorem b7z {rs rs' : List Res} {R : Nat -> Prop} (w : Wk) : Imp rs rs' (wcX R w) w.c :=
 Imp.agg (l8.cons (Imp.xsm (by simp only [b9K]) fun _ _ _ _ h => a6b (f := Am.P7 R) (g := Am.enc) (fun _ => rfl) b8V h) (l8.cons (Imp.xsm (by simp only [b9K]) fun _ _ _ _ h => a6b (f := wlX R) (g := fun s => [vts s]) (fun _ => rfl) (fun x ad j h => a4l (cs := []) (fun _ h => b3P h) h) h) (l8.cons (Imp.refl rfl) (l8.cons (Imp.refl rfl) (l8.cons (Imp.refl rfl) (l8.cons (Imp.refl rfl) (l8.cons (Imp.refl rfl) (l8.cons (Imp.refl rfl) l8.nil))))))))
theorem a7U : ∀ (k : Nat) (l : List Int), ∀ s ∈ Z9 k l, 0 < s.length
 | 0, _, s, h => by cases h
 | k + 1, l, s, h => by
  rw [Z9] at h
  rcases List.mem_cons.1 h with rfl | h
  ·show 0 < (a1R _ _ _ _).length
   simp [a1R]
  ·exact a7U k _ s h
theorem a9S (l : List Int) : FZ 3 [F9 l] (.v (.bool true)) := by
 refine kW a2W a2K (by rfl) fun w' O hw => ?_
 have hk := b0D l
 obtain ⟨ha, hs⟩ := a6p l
 have hwb := b1x l
 have hbg := b7F l
 have hst := b1j (F6 l) (J7 (F6 l)) (hwb.mono (by decide)) (a9K (hwb.mono (by decide)) ha hs)
 rw [b0E hk ha hs] at hst
 have hck := a4k (F6 l) (hwb.mono (by decide))
 rw [hk] at hck
 have hcp := b7Y (F6 l) hwb
 have hwl : ∀ s ∈ (F6 l).walls, 0 < s.length := a7U _ _
 have hnA := hwb.arms.1
 have hnW := hwb.walls.1
 have hnL := hwb.arms.2
 clear ha hs hk
 generalize J7 (F6 l) = s at *
 generalize F6 l = w at *
 obtain ⟨arms, walls, parts, slots, gates, walk⟩ := w
 obtain ⟨tick, sarms, sparts, people, sgates⟩ := s
 simp only at hwl hnA hnW hnL
 simp only [a0n, l9, TT, II, OA, OB, OC, MM, LL, VV, FF, MG, LG, VG, FG]
 simp only [Wk.c, Wk.enc, Stt.c, Stt.enc, ams, wls, pts, sls, gts, a3I, frs, vts, bls, F9, sb, ints] at hbg ⊢
 refine S.seq ?_
 refine S.join (Y := Unit) (fun _ => ⟨[(0, .sl 1 (l.map fun n => [.v (.int .i64 n)]))], []⟩) (fun _ => True) ?_ fun _ _ => ?_
 ·(repeat first | refine uA ?_ | (refine uK ?_ ?_; focus first | omega | (intros; simp_all <;> omega)) | simp (disch := omega) only [go_sem, Nat.reduceBEq, Nat.reduceAdd, ww])
  exact S.met () trivial (by (repeat first | refine uA ?_ | (refine ⟨?_, ?_⟩; focus first | rfl | simp [slot]) | rfl | simp))
 refine S.seq ?_
 refine S.join (Y := Unit) (fun _ => ⟨[(3, .bp 0 0), (4, .bp 1 0), (5, .v (.bool true))], [.box 31 [ams arms, wls walls, pts parts, sls slots, gts gates, .v (.bool walk.neg), sb walk.num, sb walk.den], .box 37 [ints tick, a3I sarms, frs sparts, vts people, bls sgates]]⟩) (fun _ => True) ?_ fun _ _ => ?_
 ·(repeat first | refine uA ?_ | (refine uK ?_ ?_; focus first | omega | (intros; simp_all <;> omega)) | simp (disch := omega) only [go_sem, Nat.reduceBEq, Nat.reduceAdd, ww] | (refine uD hbg ?_ ?_ ?_; exact tz hw; exact rfl))
  exact S.met () trivial (by (repeat first | refine uA ?_ | (refine ⟨?_, ?_⟩; focus first | rfl | simp [slot]) | rfl | simp))
 refine S.b8R fun ν a w1 wf hG => ⟨_, b6H (R := fun b => w1.heap.size <= b) (fun _ h => h) (b2M hG), ?_⟩
 have hF1 := hG.frm
 have hν0 : ν.length <= 2 := by rw [hG.rg.len]; exact b9T _
 have hlow : ∀ b, owned (St.rs _) ν b -> w'.heap.size <= b := fun b hb => (hG.rg.low b hb).2.2.elim (fun h => h.elim) id
 clear hG
 simp only [b9Z, c0x, Res.old, C.old, ams, wls, pts, sls, gts, a3I, frs, vts, bls, sb, ints] at hlow ⊢
 generalize owned _ ν = own1 at hlow ⊢
 have ht1 : ∀ N, Tz ⟨Tryz.prog, eff, N, w1, own1, O, ν, []⟩ := fun N => ⟨(tz (P := Tryz.prog) (eff := eff) (N := N) (O := O) hw).at hF1, fun h => by have := hlow _ h; have := b3F hw; omega⟩
 (repeat first | refine uA ?_ | (refine uK ?_ ?_; focus first | omega | (intros; simp_all <;> omega)) | simp (disch := omega) only [go_sem, Nat.reduceBEq, Nat.reduceAdd, ww, wcX, pts, sls, gts, vts, sb] | refine l7.t (j5.imp (a3c.t (R := fun b => b < w1.heap.size) (fun _ h => h) hcp rfl) (l8.cons (b0l ⟨arms, walls, parts, slots, gates, walk⟩) l8.nil)) ?_)
 refine uE hck ?_ ?_ ?_ ?_
 ·exact ht1 _
 ·exact rfl
 ·exact l8.cons (b7z ⟨arms, walls, parts, slots, gates, walk⟩) l8.nil
 (repeat first | refine uA ?_ | (refine uK ?_ ?_; focus first | omega | (intros; simp_all <;> omega)) | simp (disch := omega) only [go_sem, Nat.reduceBEq, Nat.reduceAdd, ww, b9K])
 refine S.cond rfl (fun hc => by simp at hc) (fun hc => ?_)
 refine S.obs fun ν2 a2 w2 wf2 hG2 => ?_
 have hlen2 := hG2.rg.len
 obtain ⟨vs, hD, hsub, hG3⟩ := b4E (j := 2) hG2 rfl
 simp only [j3] at hD
 obtain ⟨v0, _, rfl, h0, v1, _, rfl, h1, v2, _, rfl, _, v3, _, rfl, _, v4, _, rfl, _, v5, _, rfl, _, v6, _, rfl, _, v7, _, rfl, _, rfl⟩ := hD
 simp only [Den] at h0 h1
 have hG4 := b6l (R := fun b => b < w1.heap.size) (R1 := fun b => w1.heap.size <= b) (fr' := [(3, .bp 0 0), (4, .bp 1 0), (6, .bp 2 0)]) hG3 (fun b _ hb => ⟨by omega, .inr (by simp only; omega)⟩) (by
  intro r hr
  simp only [List.set_cons_succ, List.set_cons_zero, b9Z, c0x, List.mem_cons, List.not_mem_nil, or_false] at hr
  rcases hr with rfl | rfl | rfl <;> (intro c hc; simp only [List.mem_cons, List.not_mem_nil, or_false] at hc; (repeat' (rcases hc with rfl | hc)) <;> first | exact trivial | exact rfl | (subst hc; first | exact trivial | exact rfl))) (fun t => by
  by_cases e3 : t = 3
  ·subst e3; exact .inr ⟨rfl, .inr ⟨_, _, rfl⟩⟩
  by_cases e4 : t = 4
  ·subst e4; exact .inr ⟨rfl, .inr ⟨_, _, rfl⟩⟩
  by_cases e6 : t = 6
  ·subst e6; exact .inr ⟨rfl, .inr ⟨_, _, rfl⟩⟩
  ·refine .inl ?_
   have e3' : (3 == t) = false := by simp; omega
   have e4' : (4 == t) = false := by simp; omega
   have e6' : (6 == t) = false := by simp; omega
   simp only [slot, e3', e4', e6', cond_false])
 have hXm : ∀ b, b < w2.heap.size -> ¬ (OO _ _ ν2 b \/ b < w1.heap.size) -> a0W (newB w2 (OO _ _ ν2) fun b => b < w1.heap.size) b := fun b g1 g2 => b1O.2 ⟨g1, fun h => g2 (h.imp (hsub b) id)⟩
 generalize hXe : newB w2 (OO _ _ ν2) (fun b => b < w1.heap.size) = X at hG4 hXm
 clear hXe hG2 hG3 hsub
 generalize OO _ _ ν2 = P2 at h0 h1 hXm
 have hXm' : ∀ b, b < w2.heap.size -> ¬ ((P2 b \/ b < w1.heap.size) \/ b < w1.heap.size) -> a0W X b := fun b g1 g2 => hXm b g1 fun h => g2 (.inl h)
 have hXm'' : ∀ b, b < w2.heap.size -> ¬ (((P2 b \/ b < w1.heap.size) \/ b < w1.heap.size) \/ b < w1.heap.size) -> a0W X b := fun b g1 g2 => hXm b g1 fun h => g2 (.inl (.inl h))
 obtain ⟨A0, c0, rfl, hA0⟩ := a7H hXm (by decide) h0
 obtain ⟨B0, d0, rfl, hB0⟩ := a7H hXm (by decide) h1
 rw [b9K] at hA0 hB0
 refine ⟨_, _, hG4, ?_⟩
 clear hG4 h0 h1
 simp only [List.set_cons_succ, List.set_cons_zero, b9Z, c0x, List.cons_append, List.nil_append, b9K]
 have hXn := hXm
 clear hXm
 (repeat first | refine uA ?_ | with_reducible refine J6 ?_ | with_reducible refine J5 ?_ | (refine uK ?_ ?_; focus first | omega | (intros; simp_all <;> omega)) | simp (disch := omega) only [go_sem, Nat.reduceBEq, Nat.reduceAdd, ww, b9R])
 refine S.loop (X := Nat) (fun i => ⟨[(3, .bp 0 0), (4, .bp 1 0), (6, .bp 2 0), (37, ints arms.length), (38, ints i)], [.box 31 [.xs false (fun b => w1.heap.size <= b) 12 (arms.map Am.enc), .xs false (fun b => w1.heap.size <= b) 1 (walls.map fun s => [.sl 6 (s.map Vt.enc)]), .xs false (fun b => w1.heap.size <= b) 12 (parts.map Pt.enc), .xs false (fun b => w1.heap.size <= b) 14 (slots.map Sl.enc), .xs false (fun b => w1.heap.size <= b) 13 (gates.map Gt.enc), .v (.bool walk.neg), .v (.string (bs walk.num)), .v (.string (bs walk.den))], .box 37 [.v (.int .i64 tick), .xs false (fun b => w1.heap.size <= b) 4 (sarms.map Ast.enc), .xs false (fun b => w1.heap.size <= b) 10 (sparts.map Fr.enc), .xs false (fun b => w1.heap.size <= b) 6 (people.map Vt.enc), .xs false (fun b => w1.heap.size <= b) 1 (sgates.map fun b => [.v (.bool b)])], .box 31 [.v (.slice A0 arms.length c0), .v (.slice B0 walls.length d0), .v v2, .v v3, .v v4, .v v5, .v v6, .v v7], .mem (P8 w2 X) X]⟩) (fun i => i <= arms.length) (fun i => arms.length - i) 0 (b9M _) (by (repeat first | refine uA ?_ | (refine ⟨?_, ?_⟩; focus first | rfl | simp [slot]) | rfl | simp | exact b9L hν0 (by simp))) ?_
 intro i hi
 simp only [ints]
 (repeat first | refine uA ?_ | with_reducible refine J6 ?_ | with_reducible refine J5 ?_ | (refine uK ?_ ?_; focus first | omega | (intros; simp_all <;> omega)) | simp (disch := omega) only [go_sem, Nat.reduceBEq, Nat.reduceAdd, ww, b9R])
 (refine uJ rfl (fun hc => ?_) fun hc => ?_)
 ·have hi' : i < arms.length := by omega
  obtain ⟨adA, rfl, atA, eA⟩ := hA0 (by omega)
  have ga := b9I hi'
  have hnl := (hnL _ (b9W ga)).2.2.1
  have hnb := (hnL _ (b9W ga)).2.2.2
  have gea : (arms.map (Am.P7 fun b => b < w1.heap.size))[i]? = some (Am.P7 (fun b => b < w1.heap.size) arms[i]) := by rw [c0w, ga]; rfl
  generalize arms[i] = a at *
  obtain ⟨yL, cL, fL⟩ := a7u eA gea 11 _ rfl
  obtain ⟨A1, c1, rfl, hA1⟩ := a7H hXm' (by decide) fL
  rw [b9K] at hA1 cL
  have atL := (atA.add (i * 12)).add 11
  have ldL : w2.cell? ((adA.add (i * 12)).add 11) = some (.slice A1 a.links.length c1) := by rw [add_add']; exact cL
  (repeat first | refine uA ?_ | with_reducible refine J6 ?_ | with_reducible refine J5 ?_ | (refine uK ?_ ?_; focus first | omega | (intros; simp_all <;> omega)) | simp (disch := omega) only [go_sem, Nat.reduceBEq, Nat.reduceAdd, ww, b9R])
  refine ⟨_, a0q (k := 3) rfl atL ldL, ?_⟩
  (repeat first | refine uA ?_ | with_reducible refine J6 ?_ | with_reducible refine J5 ?_ | (refine uK ?_ ?_; focus first | omega | (intros; simp_all <;> omega)) | simp (disch := omega) only [go_sem, Nat.reduceBEq, Nat.reduceAdd, ww, b9R])
  refine S.loop (X := Nat) (fun k => ⟨[(3, .bp 0 0), (4, .bp 1 0), (6, .bp 2 0), (7, ints i), (37, ints arms.length), (38, ints i), (47, ints a.links.length), (48, ints k)], [.box 31 [.xs false (fun b => w1.heap.size <= b) 12 (arms.map Am.enc), .xs false (fun b => w1.heap.size <= b) 1 (walls.map fun s => [.sl 6 (s.map Vt.enc)]), .xs false (fun b => w1.heap.size <= b) 12 (parts.map Pt.enc), .xs false (fun b => w1.heap.size <= b) 14 (slots.map Sl.enc), .xs false (fun b => w1.heap.size <= b) 13 (gates.map Gt.enc), .v (.bool walk.neg), .v (.string (bs walk.num)), .v (.string (bs walk.den))], .box 37 [.v (.int .i64 tick), .xs false (fun b => w1.heap.size <= b) 4 (sarms.map Ast.enc), .xs false (fun b => w1.heap.size <= b) 10 (sparts.map Fr.enc), .xs false (fun b => w1.heap.size <= b) 6 (people.map Vt.enc), .xs false (fun b => w1.heap.size <= b) 1 (sgates.map fun b => [.v (.bool b)])], .box 31 [.v (.slice (some adA) arms.length c0), .v (.slice B0 walls.length d0), .v v2, .v v3, .v v4, .v v5, .v v6, .v v7], .mem (P8 w2 X) X]⟩) (fun k => k <= a.links.length) (fun k => a.links.length - k) 0 (b9M _) (by (repeat first | refine uA ?_ | (refine ⟨?_, ?_⟩; focus first | rfl | simp [slot]) | rfl | simp | exact b9L hν0 (by simp))) ?_
  intro k hk
  simp only [ints]
  (repeat first | refine uA ?_ | with_reducible refine J6 ?_ | with_reducible refine J5 ?_ | (refine uK ?_ ?_; focus first | omega | (intros; simp_all <;> omega)) | simp (disch := omega) only [go_sem, Nat.reduceBEq, Nat.reduceAdd, ww, b9R])
  (refine uJ rfl (fun hc => ?_) fun hc => ?_)
  ·have hk' : k < a.links.length := by omega
   obtain ⟨adL, rfl, atK, eL⟩ := hA1 (by omega)
   have gl := b9I hk'
   have gel : (a.links.map (Lk.P7 fun b => b < w1.heap.size))[k]? = some (Lk.P7 (fun b => b < w1.heap.size) a.links[k]) := by rw [c0w, gl]; rfl
   have hns := (hnb _ (b9W gl)).2.2.2.2.2.1
   generalize a.links[k] = x at *
   obtain ⟨yS, cS, fS⟩ := a7u eL gel 15 _ rfl
   obtain ⟨A2, c2, rfl, hA2⟩ := a7H hXm'' (by decide) fS
   rw [b9K] at hA2 cS
   have atS := (atK.add (k * 16)).add 15
   have ldS : w2.cell? ((adL.add (k * 16)).add 15) = some (.slice A2 x.shape.length c2) := by rw [add_add']; exact cS
   (repeat first | refine uA ?_ | with_reducible refine J6 ?_ | with_reducible refine J5 ?_ | (refine uK ?_ ?_; focus first | omega | (intros; simp_all <;> omega)) | simp (disch := omega) only [go_sem, Nat.reduceBEq, Nat.reduceAdd, ww, b9R])
   refine ⟨_, a0q (k := 3) rfl atL ldL, ?_⟩
   (repeat first | refine uA ?_ | with_reducible refine J6 ?_ | with_reducible refine J5 ?_ | (refine uK ?_ ?_; focus first | omega | (intros; simp_all <;> omega)) | simp (disch := omega) only [go_sem, Nat.reduceBEq, Nat.reduceAdd, ww, b9R])
   refine ⟨_, a0q (k := 3) rfl atS ldS, ?_⟩
   (repeat first | refine uA ?_ | with_reducible refine J6 ?_ | with_reducible refine J5 ?_ | (refine uK ?_ ?_; focus first | omega | (intros; simp_all <;> omega)) | simp (disch := omega) only [go_sem, Nat.reduceBEq, Nat.reduceAdd, ww, b9R])
   refine S.loop (X := Nat) (fun j => ⟨[(3, .bp 0 0), (4, .bp 1 0), (6, .bp 2 0), (7, ints i), (8, ints k), (37, ints arms.length), (38, ints i), (47, ints a.links.length), (48, ints k), (61, ints x.shape.length), (62, ints j)], [.box 31 [.xs false (fun b => w1.heap.size <= b) 12 (arms.map Am.enc), .xs false (fun b => w1.heap.size <= b) 1 (walls.map fun s => [.sl 6 (s.map Vt.enc)]), .xs false (fun b => w1.heap.size <= b) 12 (parts.map Pt.enc), .xs false (fun b => w1.heap.size <= b) 14 (slots.map Sl.enc), .xs false (fun b => w1.heap.size <= b) 13 (gates.map Gt.enc), .v (.bool walk.neg), .v (.string (bs walk.num)), .v (.string (bs walk.den))], .box 37 [.v (.int .i64 tick), .xs false (fun b => w1.heap.size <= b) 4 (sarms.map Ast.enc), .xs false (fun b => w1.heap.size <= b) 10 (sparts.map Fr.enc), .xs false (fun b => w1.heap.size <= b) 6 (people.map Vt.enc), .xs false (fun b => w1.heap.size <= b) 1 (sgates.map fun b => [.v (.bool b)])], .box 31 [.v (.slice (some adA) arms.length c0), .v (.slice B0 walls.length d0), .v v2, .v v3, .v v4, .v v5, .v v6, .v v7], .mem (P8 w2 X) X]⟩) (fun j => j <= x.shape.length) (fun j => x.shape.length - j) 0 (b9M _) (by (repeat first | refine uA ?_ | (refine ⟨?_, ?_⟩; focus first | rfl | simp [slot]) | rfl | simp | exact b9L hν0 (by simp))) ?_
   intro j hj
   simp only [ints]
   (repeat first | refine uA ?_ | with_reducible refine J6 ?_ | with_reducible refine J5 ?_ | (refine uK ?_ ?_; focus first | omega | (intros; simp_all <;> omega)) | simp (disch := omega) only [go_sem, Nat.reduceBEq, Nat.reduceAdd, ww, b9R])
   (refine uJ rfl (fun hc => ?_) fun hc => ?_)
   ·have hj' : j < x.shape.length := by omega
    obtain ⟨adS, rfl, atV, eS⟩ := hA2 (by omega)
    have gv := b9I hj'
    have gev : (x.shape.map Vt.enc)[j]? = some (Vt.enc x.shape[j]) := by rw [c0w, gv]; rfl
    generalize x.shape[j] = v at *
    (repeat first | refine uA ?_ | with_reducible refine J6 ?_ | with_reducible refine J5 ?_ | (refine uK ?_ ?_; focus first | omega | (intros; simp_all <;> omega)) | simp (disch := omega) only [go_sem, Nat.reduceBEq, Nat.reduceAdd, ww, b9R])
    refine ⟨_, a0q (k := 3) rfl atL ldL, ?_⟩
    (repeat first | refine uA ?_ | with_reducible refine J6 ?_ | with_reducible refine J5 ?_ | (refine uK ?_ ?_; focus first | omega | (intros; simp_all <;> omega)) | simp (disch := omega) only [go_sem, Nat.reduceBEq, Nat.reduceAdd, ww, b9R])
    refine ⟨_, a0q (k := 3) rfl atS ldS, ?_⟩
    (repeat first | refine uA ?_ | with_reducible refine J6 ?_ | with_reducible refine J5 ?_ | (refine uK ?_ ?_; focus first | omega | (intros; simp_all <;> omega)) | simp (disch := omega) only [go_sem, Nat.reduceBEq, Nat.reduceAdd, ww, b9R])
    refine ⟨3, _, _, rfl, (atV.add (j * 6)).mem, (atV.add (j * 6)).spot, a4E (atV.add (j * 6)) (by decide) (a7h eS gev (f := 0) (n := 6) fun q hq => ?_), ?_⟩
    ·rcases (show q = 0 \/ q = 1 \/ q = 2 \/ q = 3 \/ q = 4 \/ q = 5 by omega) with rfl | rfl | rfl | rfl | rfl | rfl <;> exact ⟨_, rfl, fun _ _ _ h => by cases h⟩
    (repeat first | refine uA ?_ | with_reducible refine J6 ?_ | with_reducible refine J5 ?_ | (refine uK ?_ ?_; focus first | omega | (intros; simp_all <;> omega)) | simp (disch := omega) only [go_sem, Nat.reduceBEq, Nat.reduceAdd, ww, b9R])
    refine S.next (j + 1) (by omega) (by omega) (by (repeat first | refine uA ?_ | (refine ⟨?_, ?_⟩; focus first | rfl | simp [slot]) | rfl | simp | exact b9L hν0 (by simp)))
   ·(repeat first | refine uA ?_ | with_reducible refine J6 ?_ | with_reducible refine J5 ?_ | (refine uK ?_ ?_; focus first | omega | (intros; simp_all <;> omega)) | simp (disch := omega) only [go_sem, Nat.reduceBEq, Nat.reduceAdd, ww, b9R])
    refine ⟨_, a0q (k := 3) rfl atL ldL, ?_⟩
    (repeat first | refine uA ?_ | with_reducible refine J6 ?_ | with_reducible refine J5 ?_ | (refine uK ?_ ?_; focus first | omega | (intros; simp_all <;> omega)) | simp (disch := omega) only [go_sem, Nat.reduceBEq, Nat.reduceAdd, ww, b9R])
    refine ⟨3, _, _, rfl, ((atK.add (k * 16)).add 9).mem, a4E ((atK.add (k * 16)).add 9) (by decide) (a7h eL gel (f := 9) (n := 3) fun q hq => ?_), ?_⟩
    ·rcases (show q = 0 \/ q = 1 \/ q = 2 by omega) with rfl | rfl | rfl <;> exact ⟨_, rfl, fun _ _ _ h => by cases h⟩
    (repeat first | refine uA ?_ | with_reducible refine J6 ?_ | with_reducible refine J5 ?_ | (refine uK ?_ ?_; focus first | omega | (intros; simp_all <;> omega)) | simp (disch := omega) only [go_sem, Nat.reduceBEq, Nat.reduceAdd, ww, b9R])
    refine S.next (k + 1) (by omega) (by omega) (by (repeat first | refine uA ?_ | (refine ⟨?_, ?_⟩; focus first | rfl | simp [slot]) | rfl | simp | exact b9L hν0 (by simp)))
  ·(repeat first | refine uA ?_ | with_reducible refine J6 ?_ | with_reducible refine J5 ?_ | (refine uK ?_ ?_; focus first | omega | (intros; simp_all <;> omega)) | simp (disch := omega) only [go_sem, Nat.reduceBEq, Nat.reduceAdd, ww, b9R])
   refine S.next (i + 1) (by omega) (by omega) (by (repeat first | refine uA ?_ | (refine ⟨?_, ?_⟩; focus first | rfl | simp [slot]) | rfl | simp | exact b9L hν0 (by simp)))
 ·(repeat first | refine uA ?_ | with_reducible refine J6 ?_ | with_reducible refine J5 ?_ | (refine uK ?_ ?_; focus first | omega | (intros; simp_all <;> omega)) | simp (disch := omega) only [go_sem, Nat.reduceBEq, Nat.reduceAdd, ww, b9R])
  refine S.loop (X := Nat) (fun i => ⟨[(3, .bp 0 0), (4, .bp 1 0), (6, .bp 2 0), (93, ints walls.length), (94, ints i)], [.box 31 [.xs false (fun b => w1.heap.size <= b) 12 (arms.map Am.enc), .xs false (fun b => w1.heap.size <= b) 1 (walls.map fun s => [.sl 6 (s.map Vt.enc)]), .xs false (fun b => w1.heap.size <= b) 12 (parts.map Pt.enc), .xs false (fun b => w1.heap.size <= b) 14 (slots.map Sl.enc), .xs false (fun b => w1.heap.size <= b) 13 (gates.map Gt.enc), .v (.bool walk.neg), .v (.string (bs walk.num)), .v (.string (bs walk.den))], .box 37 [.v (.int .i64 tick), .xs false (fun b => w1.heap.size <= b) 4 (sarms.map Ast.enc), .xs false (fun b => w1.heap.size <= b) 10 (sparts.map Fr.enc), .xs false (fun b => w1.heap.size <= b) 6 (people.map Vt.enc), .xs false (fun b => w1.heap.size <= b) 1 (sgates.map fun b => [.v (.bool b)])], .box 31 [.v (.slice A0 arms.length c0), .v (.slice B0 walls.length d0), .v v2, .v v3, .v v4, .v v5, .v v6, .v v7], .mem (P8 w2 X) X]⟩) (fun i => i <= walls.length) (fun i => walls.length - i) 0 (b9M _) (by (repeat first | refine uA ?_ | (refine ⟨?_, ?_⟩; focus first | rfl | simp [slot]) | rfl | simp | exact b9L hν0 (by simp))) ?_
  intro n hn
  simp only [ints]
  (repeat first | refine uA ?_ | with_reducible refine J6 ?_ | with_reducible refine J5 ?_ | (refine uK ?_ ?_; focus first | omega | (intros; simp_all <;> omega)) | simp (disch := omega) only [go_sem, Nat.reduceBEq, Nat.reduceAdd, ww, b9R])
  (refine uJ rfl (fun hc => ?_) fun hc => ?_)
  ·have hn' : n < walls.length := by omega
   obtain ⟨adW, rfl, atW, eW⟩ := hB0 (by omega)
   have gw := b9I hn'
   have gew : (walls.map (wlX fun b => b < w1.heap.size))[n]? = some (wlX (fun b => b < w1.heap.size) walls[n]) := by rw [c0w, gw]; rfl
   have hpos := hwl _ (b9W gw)
   generalize walls[n] = s at *
   obtain ⟨yW, cW, fW⟩ := a7u eW gew 0 _ rfl
   obtain ⟨A3, c3, rfl, hA3⟩ := a7H hXm' (by decide) fW
   obtain ⟨adP, rfl, atP, eP⟩ := hA3 (by rw [b9K]; exact hpos)
   have gp := b9I hpos
   have gep : (s.map Vt.enc)[0]? = some (Vt.enc s[0]) := by rw [c0w, gp]; rfl
   rw [b9K] at cW
   have atW' := atW.add (n * 1)
   have ldW : w2.cell? (adW.add (n * 1)) = some (.slice (some adP) s.length c3) := cW
   (repeat first | refine uA ?_ | with_reducible refine J6 ?_ | with_reducible refine J5 ?_ | (refine uK ?_ ?_; focus first | omega | (intros; simp_all <;> omega)) | simp (disch := omega) only [go_sem, Nat.reduceBEq, Nat.reduceAdd, ww, b9R])
   refine ⟨_, a0q (k := 3) rfl atW' ldW, ?_⟩
   (repeat first | refine uA ?_ | with_reducible refine J6 ?_ | with_reducible refine J5 ?_ | (refine uK ?_ ?_; focus first | omega | (intros; simp_all <;> omega)) | simp (disch := omega) only [go_sem, Nat.reduceBEq, Nat.reduceAdd, ww, b9R])
   refine ⟨3, _, _, rfl, (atP.add (0 * 6)).mem, (atP.add (0 * 6)).spot, a4E (atP.add (0 * 6)) (by decide) (a7h eP gep (f := 0) (n := 6) fun q hq => ?_), ?_⟩
   ·rcases (show q = 0 \/ q = 1 \/ q = 2 \/ q = 3 \/ q = 4 \/ q = 5 by omega) with rfl | rfl | rfl | rfl | rfl | rfl <;> exact ⟨_, rfl, fun _ _ _ h => by cases h⟩
   (repeat first | refine uA ?_ | with_reducible refine J6 ?_ | with_reducible refine J5 ?_ | (refine uK ?_ ?_; focus first | omega | (intros; simp_all <;> omega)) | simp (disch := omega) only [go_sem, Nat.reduceBEq, Nat.reduceAdd, ww, b9R])
   refine S.next (n + 1) (by omega) (by omega) (by (repeat first | refine uA ?_ | (refine ⟨?_, ?_⟩; focus first | rfl | simp [slot]) | rfl | simp | exact b9L hν0 (by simp)))
  ·(repeat first | refine uA ?_ | with_reducible refine J6 ?_ | with_reducible refine J5 ?_ | (refine uK ?_ ?_; focus first | omega | (intros; simp_all <;> omega)) | simp (disch := omega) only [go_sem, Nat.reduceBEq, Nat.reduceAdd, ww, b9R])
   refine uE hst ?_ ?_ ?_ ?_
   ·exact ht1 _
   ·exact rfl
   ·exact l8.cons (b0l ⟨arms, walls, parts, slots, gates, walk⟩) (l8.cons (b6E ⟨tick, sarms, sparts, people, sgates⟩) l8.nil)
   (repeat first | refine uA ?_ | with_reducible refine J6 ?_ | with_reducible refine J5 ?_ | (refine uK ?_ ?_; focus first | omega | (intros; simp_all <;> omega)) | simp (disch := omega) only [go_sem, Nat.reduceBEq, Nat.reduceAdd, ww, b9R])
   exact S.done (d9.b9y hF1 (fun _ h => h) hlow)
open Go Go.RowKit Go.ChangeShapes Go.WideShapes Eng
theorem b6m {H : Type} {l : List (DataW H)} (hk : Rows.uptoSmall H l = true) : Rows.uptoBulkAll l <= 1048576 := of_decide_eq_true hk
theorem b6K {H : Type} (l r : List (DataW H)) : Rows.uptoBulkAll (l ++ r) = Rows.uptoBulkAll l + Rows.uptoBulkAll r := by
 induction l with
 | nil => simp [Rows.uptoBulkAll]
 | cons x l ih => simp only [List.cons_append, Rows.uptoBulkAll, ih]; omega
def noB : Nat -> Prop := fun _ => False
section
variable {H : Type} {enc : TypeId × Value -> H} {P : Program} {W : World}
def Opens (enc : TypeId × Value -> H) (P : Program) (W : World) (t : TypeId) {α : Type} (tc : α -> List C) (ok : α -> Prop) (ms : α -> Nat) : Prop :=
 ∀ (fuel : Nat) (cs : List Value) (x : DataW H × List MemPlace), DataW.trod enc P W 0 (fun _ => true) true fuel t cs = some x -> ∃ a : α, FzL W noB (tc a) cs /\ (∀ u ∈ cs, u.oneCell' = true) /\ ok a /\ ms a <= Rows.uptoBulk x.1
def I64 (n : Int) : Prop := -9223372036854775808 <= n /\ n <= 9223372036854775807
theorem b4V {t : TypeId} (ht : P.underlying t = some (.int .i64)) : Opens enc P W t (fun n : Int => [.v (.int .i64 n)]) I64 fun _ => 1 := by
 intro fuel cs x h
 obtain ⟨n, rfl, rfl, hw⟩ := DataW.trod_int ht h
 refine ⟨n, by simp [FzL, Fz], by simp [Value.oneCell'], ?_, by simp [Rows.uptoBulk]⟩
 simpa [Lit.wf, IntKind.min, IntKind.max, IntKind.signed, IntKind.bits, I64] using hw
theorem Opens.imp {t : TypeId} {α β : Type} {tc : α -> List C} {ok : α -> Prop} {ms : α -> Nat} {tc' : β -> List C} {ok' : β -> Prop} {ms' : β -> Nat} (h : Opens enc P W t tc ok ms)
  (f : ∀ a, ok a -> ∃ b, tc a = tc' b /\ ok' b /\ ms' b <= ms a) : Opens enc P W t tc' ok' ms' := by
 intro fuel cs x hx
 obtain ⟨a, h0, h01, h1, h2⟩ := h fuel cs x hx
 obtain ⟨b, h3, h4, h5⟩ := f a h1
 exact ⟨b, by rw [<- h3]; exact h0, h01, h4, b9L h5 h2⟩
theorem b4D {w : World} {O : Nat -> Prop} {q : List C} {vs : List Value} {ad : Addr} {j : Nat} (hF : FzL w O q vs) (h1 : ∀ u ∈ vs, u.oneCell' = true) (hc : ∀ i v, vs[i]? = some v -> w.cell? (ad.add (j + i)) = some v) : FzA w O q ad j := FzA.of hF h1 hc
theorem b2w {t e : TypeId} {α : Type} {tc : α -> List C} {ok : α -> Prop} {ms : α -> Nat} {sz : Nat} (ht : P.underlying t = some (.slice e)) (hc : P.cellsOf e = sz) (hsz : 0 < sz) (hlen : ∀ a, (tc a).length = sz)
  (he : Opens enc P W e tc ok ms) : Opens enc P W t (fun xs : List α => [.sl sz (xs.map tc)]) (fun xs => ∀ a ∈ xs, ok a) fun xs => 1 + (xs.map ms).sum := by
 intro fuel cs x h
 rcases Deep.open_slice ht h with ⟨rfl, rfl⟩ | ⟨a, len, cap, m, n, D, Pl, rfl, _, hl, hm, hmm, rfl, hx⟩
 ·refine ⟨[], ?_, by simp [Value.oneCell'], (fun a ha => by cases ha), by simp [Rows.uptoBulk]⟩
  simp only [FzL, Fz]
  exact ⟨_, _, rfl, ⟨none, 0, rfl, b9T _, b9M _, fun h => by simp at h⟩, rfl⟩
 ·have hlm : len <= m := by rw [hmm]; split <;> omega
  have key : ∀ i, i < len -> ∃ (y : α) (vs : List Value), W.cells? 0 (a.add (i * sz)) sz = some vs /\ FzL W noB (tc y) vs /\ (∀ u ∈ vs, u.oneCell' = true) /\ ok y /\ ms y <= Rows.uptoBulk (D i) := by
   intro i hi
   obtain ⟨cs', h1, h2⟩ := hx i (by omega)
   obtain ⟨y, h31, h32, h3, h4⟩ := he _ _ _ h2
   rw [hc] at h1
   exact ⟨y, cs', h1, h31, h32, h3, h4⟩
  have build : ∀ k, k <= len -> ∃ xs : List α, xs.length = k /\ (∀ i y, xs[i]? = some y -> ∃ vs, W.cells? 0 (a.add (i * sz)) sz = some vs /\ FzL W noB (tc y) vs /\ (∀ u ∈ vs, u.oneCell' = true) /\ ok y) /\ (xs.map ms).sum <= Rows.uptoBulkAll ((List.range k).map D) := by
   intro k
   induction k with
   | zero => intro _; exact ⟨[], rfl, (fun i y h => by simp at h), by simp⟩
   | succ k ih =>
    intro hk
    obtain ⟨xs, h1, h2, h3⟩ := ih (by omega)
    obtain ⟨y, vs, h4, h41, h42, h5, h6⟩ := key k (by omega)
    refine ⟨xs ++ [y], by simp [h1], fun i z hz => ?_, ?_⟩
    ·rcases c0j i xs.length with hlt | hge
     ·rw [b9P hlt] at hz
      exact h2 i z hz
     ·rw [b9Y hge] at hz
      have : i - xs.length = 0 := by
       rcases c0f (i - xs.length) with h0 | h0
       ·exact h0
       ·obtain ⟨d, hd⟩ : ∃ d, i - xs.length = d + 1 := ⟨i - xs.length - 1, by omega⟩
        rw [hd] at hz; simp at hz
      rw [this] at hz
      simp at hz
      subst hz
      have : i = k := by omega
      subst this
      exact ⟨vs, h4, h41, h42, h5⟩
    ·rw [c0C, List.sum_append, List.range_succ, c0C, b6K]
     simp only [b9Z, c0x, List.sum_cons, List.sum_nil, Rows.uptoBulkAll]
     omega
  obtain ⟨xs, h1, h2, h3⟩ := build len (b9T _)
  have hcell : ∀ (i : Nat) (y : α), xs[i]? = some y -> (tc y).length = sz /\ FzA W noB (tc y) a (i * sz) := by
   intro i y hy
   obtain ⟨vs, h4, h41, h42, _⟩ := h2 i y hy
   obtain ⟨_, h5, h6⟩ := World.cells?_some h4
   refine ⟨hlen _, b4D h41 h42 fun j v hv => ?_⟩
   have hj : j < sz := by
    have := (b9O.1 hv).1
    rwa [h5] at this
   have h7 := h6 j hj
   rw [hv, Deep.add_add] at h7
   exact h7
  refine ⟨xs, ?_, by simp [Value.oneCell'], fun y hy => ?_, ?_⟩
  ·simp only [FzL]
   refine ⟨_, _, rfl, ?_, rfl⟩
   simp only [Fz]
   refine ⟨some a, cap, by simp [h1], by simp; omega, hm, fun h0 => ⟨a, rfl, ?_, (fun h => h), FzE.of fun k q hq => ?_⟩⟩
   ·have hi : 0 < xs.length := by simpa using h0
    obtain ⟨hq1, hq2⟩ := hcell 0 xs[0] (b9I hi)
    have h9 : 0 < (tc xs[0]).length := by omega
    match htc : tc xs[0], h9, hq2 with
    | c :: cs, _, hq2 =>
     simp only [FzA] at hq2
     obtain ⟨⟨v, hv, _⟩, _⟩ := hq2
     have h10 := block_lt_of_cell hv
     rwa [add_block] at h10
   ·rw [c0w] at hq
    obtain ⟨y, hy, rfl⟩ := Option.map_eq_some_iff.1 hq
    rw [c0n]; exact hcell k y hy
  ·obtain ⟨i, hi⟩ := List.mem_iff_getElem?.1 hy
   exact (h2 i y hi).choose_spec.2.2.2
  ·simp only [Rows.uptoBulk]
   omega
theorem FzL.app {w : World} {O : Nat -> Prop} : ∀ {cs ds : List C} {vs us : List Value}, FzL w O cs vs -> FzL w O ds us -> FzL w O (cs ++ ds) (vs ++ us)
 | [], ds, vs, us, h, k => by simp only [FzL] at h; subst h; simpa using k
 | c :: cs, ds, vs, us, h, k => by
  simp only [FzL] at h
  obtain ⟨y, ys, rfl, h1, h2⟩ := h
  exact ⟨y, ys ++ us, rfl, h1, FzL.app h2 k⟩
theorem b6L {f : Func} {s : ChangeSpec} {apart fresh handsOn again : Bool} {W' : World} {args : Array Value} {ds gs : List (DataW H)} {before : List MemPlace} {tb : TypeId} (hl : laidOutB P = true) (hpar : ∀ t ∈ f.params.toList, P.readableRec t = true /\ t < P.types.size)
  (hrt : f.resultTypes = #[tb]) (htb : P.underlying tb = some .bool) (hv : s.vars = []) (hfn : s.fn H (ds ++ gs) = { results := [.lit (.bool true)], args := ds }) (hW : DataW.Whole enc P f.params.toList s.vars apart W args.toList ds gs before) (hb : Below W.heap.size W W') :
  s.post enc P f apart fresh handsOn again W args (.bool true) W' := by
 have hlt : ∀ p ∈ before, p.block < W.heap.size := fun p hp => hW.lt p hp
 obtain ⟨p, q, hA, hV, hps, hz, hn⟩ := id hW
 rw [hv] at hV
 obtain ⟨rfl, rfl⟩ := trodVars_none hV
 rw [List.append_nil] at hps
 subst hps
 have all : ∀ (sp : Nat -> Bool) (ts : List TypeId) (vs : List Value) (es : List (DataW H)) (pl : List MemPlace), (∀ t ∈ ts, P.readableRec t = true /\ t < P.types.size) -> (∀ x ∈ pl, x.block < W.heap.size /\ sp x.block = true) -> DataW.TrodAll enc P W 0 (fun _ => true) true ts vs es pl -> DataW.TrodAll enc P W' 0 sp true ts vs es pl := by
  intro sp ts
  induction ts with
  | nil =>
   intro vs es pl _ _ h
   cases vs <;> cases es <;> simp only [DataW.TrodAll] at h ⊢ <;> exact h
  | cons t ts ih =>
   intro vs es pl hts hpl h
   cases vs <;> cases es <;> simp only [DataW.TrodAll] at h ⊢
   obtain ⟨p1, p2, h1, h2, rfl⟩ := h
   refine ⟨p1, p2, ?_, ih _ _ _ (fun t ht => hts t (List.mem_cons_of_mem _ ht)) (fun x hx => hpl x (List.mem_append_right _ hx)) h2, rfl⟩
   exact WideElems.Trod_stays hl (hts t (List.mem_cons_self ..)).1 (hts t (List.mem_cons_self ..)).2 h1 (fun x hx => hb.same (hpl x (List.mem_append_left _ hx)).1) fun x hx => (hpl x (List.mem_append_left _ hx)).2
 have hres : ∀ (b : Nat) (sp : Nat -> Bool) (hd : Bool), DataW.TrodAll enc P W' b sp hd f.resultTypes.toList ((Value.bool true).resultList f.resultTypes.size) (s.fn H (ds ++ [])).results [] := by
  intro b sp hd
  rw [hrt, hfn]
  exact trodAll_cons_mk (shut_bool htb true) trodAll_mk0
 have hargs : ∀ sp : Nat -> Bool, (∀ p' ∈ before, sp p'.block = true) -> DataW.TrodAll enc P W' 0 sp true f.params.toList args.toList (s.fn H (ds ++ [])).args before := fun sp hsp => by
  rw [hfn]
  exact all sp _ _ _ _ hpar (fun x hx => ⟨hlt x hx, hsp x hx⟩) hA
 have hvars : ∀ sp : Nat -> Bool, DataW.TrodVars enc P W' sp s.vars (s.fn H (ds ++ [])).vars [] := fun sp => by rw [hv, hfn]; rfl
 have hold : ∀ p' ∈ before, (fun b => decide (b < W.heap.size)) p'.block = true := fun p' hp => by simpa using hlt p' hp
 refine ⟨ds, [], before, [], before, [], hW, hres _ _ _, hargs _ hold, hvars _, World.keptBut_mono (fun p' hp => ⟨hp, ?_⟩) (hb.frame (· ∈ before)), fun _ => ⟨ok_one hrt rfl (okWide_bool_mk htb _), _, _, ([] ++ before) ++ [], ⟨[] ++ before, [], trodAll_append (hargs _ (fun _ _ => rfl)) (hres _ _ _), hvars _, rfl, ?_, ?_⟩, ?_⟩⟩
 ·exact Or.inr (by simpa using hp)
 ·intro b off hp
  have hin : MemPlace.cell b off ∈ before := by simpa using hp
  rw [hb.frozen (hlt _ hin)]
  exact hz b off hin
 ·intro ha
  have := hn ha
  simpa using this
 ·intro p' hp _
  simpa using hp
end
open Go Go.RowKit Go.ChangeShapes Go.WideShapes Go.ChangeAt Eng
set_option maxRecDepth 10000
theorem b6p : ownKnob Tryz.prog.godebug = none := by kernel_rfl
theorem b5W : laidOutB Tryz.prog = true := by kernel_rfl
theorem gDb : Tryz.prog.globalNamed "math/bits.deBruijn64tab" = some 1 := by kernel_rfl
theorem b7o : (Tryz.prog.globals[1]?).map (·.type) = some 223 := by kernel_rfl
theorem b5Z : Tryz.prog.cellsOf 223 = 64 := by kernel_rfl
theorem b7D : Tryz.prog.cellsOf 5 = 1 := by kernel_rfl
theorem b5V : Tryz.prog.underlying 223 = some (.array 64 5) := by kernel_rfl
theorem b8B : Tryz.prog.underlying 5 = some (.int .u8) := by kernel_rfl
theorem b7P : (Rows.laid_math_bits_deBruijn64tab : DataW Unit) = Lib.tabData .u8 (Lib.deBruijn64tab.map fun n : Nat => (n : Int)) := by rfl
theorem b9m {W : World} {rest : List (String × DataW Unit)} (h : laidMet Tryz.prog (("math/bits.deBruijn64tab", Rows.laid_math_bits_deBruijn64tab) :: rest) W) : Wz W := by
 rw [b7P] at h
 have ht := Lib.tabIs_of_head gDb b7o b5V b8B b7D b5Z h
 intro j hj
 have := ht.cell gDb j (by rw [b9K]; exact hj)
 rw [this]
 congr 2
 rw [b9Q, b9Q, c0w, b9I hj]
 rfl
section
variable {H : Type} {enc : TypeId × Value -> H} {W : World}
theorem b0V {α : Type} : ∀ l : List α, l.length = (l.map fun _ => 1).sum
 | [] => rfl
 | x :: l => by simp only [c0l, b9Z, List.sum_cons, <- b0V l]; omega
theorem b5j : Tryz.prog.cellsOf 3 = 1 := by kernel_rfl
theorem b9b : Opens enc Tryz.prog W 22 (fun l : List Int => [.sl 1 (l.map fun n => [.v (.int .i64 n)])]) (fun l => ∀ x ∈ l, I64 x) fun l => 1 + l.length :=
 (b2w Tryz.underlying22 b5j (by decide) (fun _ => rfl) (b4V Tryz.underlying3)).imp fun f hf => ⟨f, rfl, hf, by rw [<- b0V]; exact b9T _⟩
end
noncomputable def laidWorld (os : Os) : World := World.doorLaid Tryz.prog 400 os
theorem a7L (os : Os) (args : Array Value) : laidMet Tryz.prog Rows.worksCopiesUptoRow.laid ((laidWorld os).forCall (fun _ _ => 0) ⟨#[], args, []⟩).memory :=
 laidMet_of_run' 8 (by kernel_rfl) (by kernel_rfl)
theorem a4p (H : Type) (enc : TypeId × Value -> H) (W : World) (base : Nat) (args : Array Value) (ds gs : List (DataW H)) (before : List MemPlace)
  (hval : ∀ (j : Nat) t v, Tryz.f3.params[j]? = some t -> args[j]? = some v -> Value.okWide Tryz.prog W .any base t v)
  (hW : DataW.Whole enc Tryz.prog Tryz.f3.params.toList Rows.worksCopiesSpec.vars false W args.toList ds gs before) (hk : Rows.uptoSmall H (ds ++ gs) = true) (hL : laidMetH Tryz.prog Rows.worksCopiesUptoRow.laid W) (hS : W.ShapedOpen Tryz.prog) :
  Calls Tryz.prog 3 args W fun e W' => ∃ v, e = .returned v /\ Rows.worksCopiesSpec.post enc Tryz.prog Tryz.f3 false true false false W args v W' := by
 have hW' := hW
 obtain ⟨p, q, hA0, hV, rfl, hfz, hnd⟩ := hW
 have hA : DataW.TrodAll enc Tryz.prog W 0 (fun _ => true) true Tryz.f3.params.toList args.toList ds p := hA0
 rw [Tryz.params3] at hA hval
 obtain ⟨v0, vs0, d0, ds0, p0, q0, hargs, rfl, rfl, h0, r0⟩ := trodAll_cons hA
 obtain ⟨rfl, rfl, rfl⟩ := trodAll_nil r0
 obtain rfl : args = #[v0] := by cases args; simp_all
 obtain ⟨rfl, rfl⟩ := trodVars_none hV
 have hb := b6m hk
 obtain ⟨A0, n0, c0, rfl⟩ := okWide_slice Tryz.underlying22 (hval 0 22 v0 rfl rfl)
 obtain ⟨m0, h0⟩ := h0
 obtain ⟨raw, e0, _, k0, b0⟩ := b9b _ _ _ h0
 have b0 : 1 + raw.length <= Rows.uptoBulk d0 := b0
 have e0 : FzL W noB [F9 raw] [.slice A0 n0 c0] := e0
 simp only [FzL] at e0
 obtain ⟨y0, ys0, f0, g0, rfl⟩ := e0
 injection f0 with f0 _
 subst f0
 simp only [List.append_nil, List.cons_append, List.nil_append, Rows.uptoBulkAll] at hb
 have hF : FzL W noB [F9 raw] [.slice A0 n0 c0] := by
  simp only [FzL]
  exact ⟨_, _, rfl, g0, rfl⟩
 refine (a9S raw noB W _ (b9m hL) (fun _ h => h.elim) hF).mono fun e W' ⟨y, he, hbl, hy⟩ => ?_
 subst he
 simp only [Fz] at hy
 subst hy
 refine ⟨_, rfl, b6L b5W (by
  intro t ht
  rw [Tryz.params3] at ht
  simp only [List.mem_cons, List.not_mem_nil, or_false] at ht
  rcases ht with rfl
  ·exact ⟨by kernel_rfl, of_decide_eq_true (by kernel_rfl)⟩) (tb := 4) rfl Tryz.underlying4 rfl rfl hW' hbl⟩
theorem a6l (os : Os) {H : Type} (enc : TypeId × Value -> H) : ∃ places, DataW.whole enc Tryz.prog ((laidWorld os).forCall (fun _ _ => 0) ⟨#[], #[.slice none 0 0], []⟩).memory Tryz.f3.params.toList Rows.worksCopiesSpec.vars false (#[.slice none 0 0] : Array Value).toList 8 = some ([.nil], [], places) :=
 ⟨[], by kernel_rfl⟩
set_option maxRecDepth 100000 in
theorem a5A (os : Os) (started : os.Started) (H : Type) (enc : TypeId × Value -> H) (F : Stop.Interp) :
  ReturnsInHanded {} Tryz.checked os 3 .any ((Rows.OpenSpec.upto Rows.worksCopiesSpec).preRow enc Tryz.prog Tryz.f3 Rows.worksCopiesUptoRow.domain false Rows.worksCopiesUptoRow.laid) (((Rows.OpenSpec.upto Rows.worksCopiesSpec).at F).post enc Tryz.prog Tryz.f3 false true false false) := by
 obtain ⟨places, hx⟩ := a6l os enc
 refine returnsInHanded_of_row (C := Tryz.checked) (s := Rows.OpenSpec.upto Rows.worksCopiesSpec) b6p started (by kernel_rfl) Tryz.func3
  (witness_row_at (enc := enc) (C := Tryz.checked) false (laidWorld os) #[.slice none 0 0] rfl (by kernel_rfl) (by kernel_rfl) (by kernel_rfl)
   (OpenSpec.preRow_of_cond 8 hx (by kernel_rfl) (fun k hk => by cases hk; kernel_rfl) (by kernel_rfl) (a7L os _))) ?_
 intro W base args ds gs before hval hW _ hcond _ hL hS _
 exact a4p H enc W base args ds gs before hval hW (hcond _ rfl) hL hS
theorem b9B {a b : Bool} (h : a = true) (k : b = true) : (a && b) = true := by rw [h, k]; rfl
set_option maxHeartbeats 40000000 in
theorem a5w : joinedFacts Tryz.pinned.checked.prog 3 Tryz.f3 (Rows.OpenSpec.upto Rows.worksCopiesSpec).bare Rows.worksCopiesUptoRow = true := by
 unfold joinedFacts
 repeat' (with_reducible refine b9B ?_ ?_)
 all_goals (as_aux_lemma => kernel_rfl)
end Go.Proofs.YtgmlehjgpgdjhaaGreatDoor
