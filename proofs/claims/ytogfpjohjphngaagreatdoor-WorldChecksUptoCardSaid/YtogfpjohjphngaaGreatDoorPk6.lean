/- A part of the proof: lemmas only, with the conditions that each names. -/
import Derived.Test.YtogfpjohjphngaaGreatDoorProg
import Derived.KernelRfl
import Derived.Laws.Bits64b
import Derived.Test.YtogfpjohjphngaaGreatDoorRows
import Derived.Carry
import Derived.ChangeArms
import Derived.ChangeSame
import Derived.Deep.Slices
import Derived.WalkKit
import Derived.ProofKit
import Derived.OpenShut
import Derived.JoinedCond
import Derived.Test.YtogfpjohjphngaaGreatDoorCards
import Derived.Test.YtogfpjohjphngaaGreatDoorTie
import Derived.Deep.DeepHandedRow
import Derived.Deep.DeepWitnessRowRef
import Derived.Lib.LaidTab
import Derived.LaidMore
import Derived.Lay
import Derived.Test.YtogfpjohjphngaaGreatDoorPk5
set_option linter.all false
namespace Go.Proofs.YtogfpjohjphngaaGreatDoor
open Go Go.RowKit Eng
set_option maxRecDepth 100000
set_option maxHeartbeats 16000000
theorem b9y (n : Nat) (h : n <= 3) : ([[C.v (.string ⟨#[111, 110, 101]⟩)], [C.v (.string ⟨#[116, 119, 111]⟩)], [C.v (.string ⟨#[116, 104, 114, 101, 101]⟩)], [C.v (.string ⟨#[102, 111, 117, 114]⟩)]] : List (List C))[n]? = some [C.v (.string (bs (a3Z n)))] := by
  match n, h with
  | 0, _ => rfl
  | 1, _ => rfl
  | 2, _ => rfl
  | 3, _ => rfl
theorem c1v (k : Int) (h0 : 0 <= k) (h1 : k < 4) : ([[C.v (.int .i64 0)], [C.v (.int .i64 1)], [C.v (.int .i64 (-1))], [C.v (.int .i64 1)]] : List (List C))[k.toNat]? = some [C.v (.int .i64 (a3d k))] := by
  have : k = 0 \/ k = 1 \/ k = 2 \/ k = 3 := by omega
  rcases this with rfl | rfl | rfl | rfl <;> rfl
theorem b7O (k : Int) : -1 <= a3d k /\ a3d k <= 1 := by unfold a3d; split; omega; split <;> omega
theorem c2K {E : Ctx} (hP : E.P = Tryz.prog) (l : List Int) (n : Nat) (hn : n <= 3) :
    j6 E [.box 225 [J4 l]] 174 [.bp 0 0, .v (.int .i64 (n : Int))] (b0i l n).c [.box 225 [J4 (b0t l)]] [] := by
  obtain ⟨P, eff', N, w0, p9, av0, nu0, pk0⟩ := E
  simp only at hP
  subst hP
  refine j6.of (eff := eff) Tryz.func174 (by conv => { lhs; cbv }) (by exact Nat.le_of_ble_eq_true rfl) fun w own av ν hν => ?_
  have hν0 : ν.length <= 1 := by rw [hν]; exact Nat.le_refl _
  have hnm := b9y n hn
  have h1 := R4 (40 * (n : Int)) 0 (by omega) (by omega)
  have k1 := fun (E : Ctx) (hP : E.P = Tryz.prog) => H9 hP l 4 (by decide)
  have k2 := fun (E : Ctx) (hP : E.P = Tryz.prog) => H9 hP (l.drop 1) 3 (by decide)
  have k3 := fun (E : Ctx) (hP : E.P = Tryz.prog) => H9 hP (l.drop 2) 3 (by decide)
  have a1 := l8 l (n := 4) (by decide)
  have a2 := D9 l (n := 4) (by decide)
  have a3 := l8 (l.drop 1) (n := 3) (by decide)
  have a4 := D9 (l.drop 1) (n := 3) (by decide)
  have a5 := l8 (l.drop 2) (n := 3) (by decide)
  have a6 := D9 (l.drop 2) (n := 3) (by decide)
  have htn := c1v (nx l 4) a1 a2
  have htr := b7O (nx l 4)
  have h2 := a1G (a3d (nx l 4)) (1 + nx (l.drop 1) 3) (by omega) (by omega)
  rw [List.drop_drop] at k2 k3
  have hc : ((a3E l : Nat) : Int) = 1 + nx (l.drop 2) 3 := by unfold a3E; omega
  have hc3 : a3E l <= 3 := by omega
  have hR : b0t l = (l.drop 3).drop (6 * a3E l) := by unfold b0t; rw [List.drop_drop]
  unfold b0i
  rw [hR]
  generalize a3E l = c at *
  generalize l.drop 3 = l0 at *
  unfold atV at h1
  generalize Q (40 * (n : Int)) 4 = q1 at *
  generalize Q 0 4 = q2 at *
  generalize a3d (nx l 4) = tn at *
  generalize Q tn (1 + nx (l.drop 1) 3) = q3 at *
  generalize nx l 4 = x1 at *
  generalize nx (l.drop 1) 3 = x2 at *
  generalize nx (l.drop 2) 3 = x3 at *
  generalize a3Z n = nm at *
  simp only [l6]
  simp only [Am.c, Am.enc, Vt.c, Vt.enc, rc, J4, sb, ints, lks] at h1 h2 k1 k2 k3 ⊢
  (repeat first | refine uA ?_ | (apply S.exit; exact rfl) | (refine uK ?_ ?_; focus first | omega | trivial | exact id | (intros; simp_all <;> omega)) | simp (disch := omega) only [go_sem, Nat.reduceBEq, Nat.reduceAdd, Nat.reduceLeDiff, Int.reduceToNat, Int.reducePow, ww, hnm, htn, Int.toNat_natCast] | refine l9.t (j6.lift (k := 0) rfl (k1 _ rfl) rfl rfl rfl) ?_ | refine l9.t (j6.lift (k := 0) rfl (k2 _ rfl) rfl rfl rfl) ?_ | (refine uB h1 ?_ ?_; exact rfl) | (refine uB h2 ?_ ?_; exact rfl))
  (repeat first | refine uA ?_ | (apply S.exit; exact rfl) | (refine uK ?_ ?_; focus first | omega | trivial | exact id | (intros; simp_all <;> omega)) | simp (disch := omega) only [go_sem, Nat.reduceBEq, Nat.reduceAdd, Nat.reduceLeDiff, Int.reduceToNat, Int.reducePow, ww] | refine l9.t (j6.lift (k := 0) rfl (k3 _ rfl) rfl rfl rfl) ?_)
  rw [<- hc]
  refine S.loop (X := Nat × List Lk × List Int) (fun x => ⟨[(0, .bp 0 0), (4, .bp 1 0), (5, .bp 3 0), (30, ints c), (31, ints x.1)], [.box 225 [J4 x.2.2], .box 76 [.v (.string ⟨#[]⟩), .v (.bool false), .v (.string ⟨#[]⟩), .v (.string ⟨#[]⟩), .v (.bool false), .v (.string ⟨#[]⟩), .v (.string ⟨#[]⟩), .v (.bool false), .v (.bool false), .v (.string ⟨#[]⟩), .v (.string ⟨#[]⟩), .v (.slice none 0 0)], .gone, .box 76 [.v (.string (bs nm)), .v (.bool q1.neg), .v (.string (bs q1.num)), .v (.string (bs q1.den)), .v (.bool q2.neg), .v (.string (bs q2.num)), .v (.string (bs q2.den)), .v (.bool false), .v (.bool q3.neg), .v (.string (bs q3.num)), .v (.string (bs q3.den)), .rv 4], .row 158 16 (x.2.1.map Lk.enc)]⟩)
    (fun x => x.1 <= c /\ x.2.1.length = x.1 /\ x.2.1 ++ a2l (c - x.1) x.2.2 = a2l c l0 /\ x.2.2.drop (6 * (c - x.1)) = l0.drop (6 * c)) (fun x => c - x.1) (0, [], l0) ⟨Nat.zero_le _, rfl, rfl, rfl⟩ (Ent.trans (Ent.a0n 3 11 158 16 rfl rfl rfl) (by (repeat first | refine uA ?_ | (refine ⟨?_, ?_⟩; focus first | rfl | trivial | (simp [slot]; done)) | rfl | trivial | simp | exact Nat.le_trans hν0 (by simp)))) ?_
  rintro ⟨i, ls, m⟩ ⟨hi, hls, hL, hM⟩
  simp only [ints, J4] at hi hls hL hM ⊢
  (repeat first | refine uA ?_ | (apply S.exit; exact rfl) | (refine uK ?_ ?_; focus first | omega | trivial | exact id | (intros; simp_all <;> omega)) | simp (disch := omega) only [go_sem, Nat.reduceBEq, Nat.reduceAdd, Nat.reduceLeDiff, Int.reduceToNat, Int.reducePow, ww])
  (refine uJ rfl (fun hc => ?_) fun hc => ?_)
  · have hi' : c - i = (c - i - 1) + 1 := by omega
    have n0 := fun (E : Ctx) (hP : E.P = Tryz.prog) => H9 hP (m.drop 0) 4 (by decide)
    have a0 := l8 (m.drop 0) (n := 4) (by decide)
    have b0 := D9 (m.drop 0) (n := 4) (by decide)
    have n1 := fun (E : Ctx) (hP : E.P = Tryz.prog) => H9 hP (m.drop 1) 6 (by decide)
    have a1 := l8 (m.drop 1) (n := 6) (by decide)
    have b1 := D9 (m.drop 1) (n := 6) (by decide)
    have n2 := fun (E : Ctx) (hP : E.P = Tryz.prog) => H9 hP (m.drop 2) 6 (by decide)
    have a2 := l8 (m.drop 2) (n := 6) (by decide)
    have b2 := D9 (m.drop 2) (n := 6) (by decide)
    have n3 := fun (E : Ctx) (hP : E.P = Tryz.prog) => H9 hP (m.drop 3) 8 (by decide)
    have a3 := l8 (m.drop 3) (n := 8) (by decide)
    have b3 := D9 (m.drop 3) (n := 8) (by decide)
    have n4 := fun (E : Ctx) (hP : E.P = Tryz.prog) => H9 hP (m.drop 4) 20 (by decide)
    have a4 := l8 (m.drop 4) (n := 20) (by decide)
    have b4 := D9 (m.drop 4) (n := 20) (by decide)
    have n5 := fun (E : Ctx) (hP : E.P = Tryz.prog) => H9 hP (m.drop 5) 3 (by decide)
    have a5 := l8 (m.drop 5) (n := 3) (by decide)
    have b5 := D9 (m.drop 5) (n := 3) (by decide)
    rw [hi', a2l] at hL
    have hM2 : (m.drop 6).drop (6 * (c - (i + 1))) = l0.drop (6 * c) := by rw [List.drop_drop, <- hM]; congr 1; omega
    rw [show c - i - 1 = c - (i + 1) by omega] at hL
    simp only [List.drop_drop, List.drop_zero] at n0 n1 n2 n3 n4 n5 a0 b0
    unfold b5r a4P at hL
    have o1 := a1G (4 + 2 * nx m 4) 4 (by omega) (by omega)
    have o2 := a1G (-1 - nx (m.drop 1) 6) 3 (by omega) (by omega)
    have o3 := a1G (1 + nx (m.drop 2) 6) 3 (by omega) (by omega)
    have o4 := a1G 1 (4 + nx (m.drop 3) 8) (by omega) (by omega)
    have o5 := a1G 1 (10 + nx (m.drop 4) 20) (by omega) (by omega)
    have o6 := b8p (-1) (-1) (4 + 2 * nx m 4 + 1) 1 (by omega) (by omega) (by omega) (by omega)
    have o7 := R4 (-1) (-1) (by omega) (by omega)
    have o8 := R4 (4 + 2 * nx m 4 + 1) 0 (by omega) (by omega)
    have o9 := R4 (-1) 1 (by omega) (by omega)
    generalize Q (4 + 2 * nx m 4) 4 = p1 at *
    generalize Q (-1 - nx (m.drop 1) 6) 3 = p2 at *
    generalize Q (1 + nx (m.drop 2) 6) 3 = p3 at *
    generalize Q 1 (4 + nx (m.drop 3) 8) = p4 at *
    generalize Q 1 (10 + nx (m.drop 4) 20) = p5 at *
    generalize a4N (-1) (-1) (4 + 2 * nx m 4 + 1) 1 = r6 at *
    generalize atV (-1) (-1) = v7 at *
    generalize atV (4 + 2 * nx m 4 + 1) 0 = v8 at *
    generalize atV (-1) 1 = v9 at *
    generalize nx m 4 = y0 at *
    generalize nx (m.drop 1) 6 = y1 at *
    generalize nx (m.drop 2) 6 = y2 at *
    generalize nx (m.drop 3) 8 = y3 at *
    generalize nx (m.drop 4) 20 = y4 at *
    generalize nx (m.drop 5) 3 = y5 at *
    simp only [J4, ints, rc, sb, vts, Vt.c, Vt.enc] at n0 n1 n2 n3 n4 n5 o1 o2 o3 o4 o5 o6 o7 o8 o9
    (repeat first | refine uA ?_ | (apply S.exit; exact rfl) | (refine uK ?_ ?_; focus first | omega | trivial | exact id | (intros; simp_all <;> omega)) | simp (disch := omega) only [go_sem, Nat.reduceBEq, Nat.reduceAdd, Nat.reduceLeDiff, Int.reduceToNat, Int.reducePow, ww] | refine l9.t (j6.lift (k := 0) rfl (n0 _ rfl) rfl rfl rfl) ?_ | refine l9.t (j6.lift (k := 0) rfl (n1 _ rfl) rfl rfl rfl) ?_ | refine l9.t (j6.lift (k := 0) rfl (n2 _ rfl) rfl rfl rfl) ?_ | refine l9.t (j6.lift (k := 0) rfl (n3 _ rfl) rfl rfl rfl) ?_ | refine l9.t (j6.lift (k := 0) rfl (n4 _ rfl) rfl rfl rfl) ?_ | refine l9.t (j6.lift (k := 0) rfl (n5 _ rfl) rfl rfl rfl) ?_ | (refine uB o1 ?_ ?_; exact rfl) | (refine uB o2 ?_ ?_; exact rfl) | (refine uB o3 ?_ ?_; exact rfl) | (refine uB o4 ?_ ?_; exact rfl) | (refine uB o5 ?_ ?_; exact rfl) | (refine uB o6 ?_ ?_; exact rfl))
    refine S.join (Y := List Vt) (fun sh => ⟨[(0, .bp 0 0), (4, .bp 1 0), (5, .bp 3 0), (7, .bp 5 0), (30, ints c), (31, ints i)], [.box 225 [J4 (m.drop 6)], .box 76 [.v (.string ⟨#[]⟩), .v (.bool false), .v (.string ⟨#[]⟩), .v (.string ⟨#[]⟩), .v (.bool false), .v (.string ⟨#[]⟩), .v (.string ⟨#[]⟩), .v (.bool false), .v (.bool false), .v (.string ⟨#[]⟩), .v (.string ⟨#[]⟩), .v (.slice none 0 0)], .gone, .box 76 [.v (.string (bs nm)), .v (.bool q1.neg), .v (.string (bs q1.num)), .v (.string (bs q1.den)), .v (.bool q2.neg), .v (.string (bs q2.num)), .v (.string (bs q2.den)), .v (.bool false), .v (.bool q3.neg), .v (.string (bs q3.num)), .v (.string (bs q3.den)), .rv 4], .row 158 16 (ls.map Lk.enc), .box 158 (Lk.enc ⟨p1, p2, p3, p4, p5, sh⟩)]⟩) (fun sh => sh = if y5 = 2 then [v7, v8, v9] else r6) ?_ ?_
    · refine S.cond rfl (fun hc => ?_) (fun hc => ?_)
      · (repeat first | refine uA ?_ | (apply S.exit; exact rfl) | (refine uK ?_ ?_; focus first | omega | trivial | exact id | (intros; simp_all <;> omega)) | simp (disch := omega) only [go_sem, Nat.reduceBEq, Nat.reduceAdd, Nat.reduceLeDiff, Int.reduceToNat, Int.reducePow, ww] | (refine uB o7 ?_ ?_; exact rfl) | (refine uB o8 ?_ ?_; exact rfl) | (refine uB o9 ?_ ?_; exact rfl))
        exact S.met [v7, v8, v9] (by simp at hc; rw [if_pos hc]) (Ent.mk _ _ (by (repeat' (first | exact a0e.nil | exact Imp.junk | exact Imp.refl rfl | exact Imp.eq (by simp [slot]; done) rfl | refine a0e.cons ?_ ?_))) (by (repeat' (first | exact M8.nil | exact RI.gone _ | exact RI.row _ _ _ _ rfl | exact RI.map _ _ _ rfl | exact RI.box _ _ _ (p8.refl rfl) | (refine RI.box _ _ _ ?_; (repeat' (first | exact p8.nil | exact Imp.refl rfl | exact Imp.frz rfl rfl rfl | exact Imp.a1I | refine p8.cons ?_ ?_))) | refine M8.cons ?_ ?_))) (Nat.le_trans hν0 (by simp)))
      · (repeat first | refine uA ?_ | (apply S.exit; exact rfl) | (refine uK ?_ ?_; focus first | omega | trivial | exact id | (intros; simp_all <;> omega)) | simp (disch := omega) only [go_sem, Nat.reduceBEq, Nat.reduceAdd, Nat.reduceLeDiff, Int.reduceToNat, Int.reducePow, ww])
        exact S.met r6 (by simp at hc; rw [if_neg hc]) (by (repeat first | refine uA ?_ | (refine ⟨?_, ?_⟩; focus first | rfl | trivial | (simp [slot]; done)) | rfl | trivial | simp | exact Nat.le_trans hν0 (by simp)))
    rintro sh hsh
    rw [<- hsh] at hL
    simp only [J4, ints, Lk.enc, vts]
    (repeat first | refine uA ?_ | (apply S.exit; exact rfl) | (refine uK ?_ ?_; focus first | omega | trivial | exact id | (intros; simp_all <;> omega)) | simp (disch := omega) only [go_sem, Nat.reduceBEq, Nat.reduceAdd, Nat.reduceLeDiff, Int.reduceToNat, Int.reducePow, ww, List.length_map, hls])
    refine S.next (x := (i, ls, m)) (i + 1, ls ++ [⟨p1, p2, p3, p4, p5, sh⟩], m.drop 6) ⟨by simp only; omega, by simp [hls], by simp only; rw [List.append_assoc]; exact hL, by simp only; exact hM2⟩ (by simp only; omega) (by simp only [List.map_append, List.map_cons, List.map_nil]; exact (by (repeat first | refine uA ?_ | (refine ⟨?_, ?_⟩; focus first | rfl | trivial | (simp [slot]; done)) | rfl | trivial | simp | exact Nat.le_trans hν0 (by simp))))
  · have hi' : i = c := by omega
    subst hi'
    rw [Nat.sub_self, a2l, List.append_nil] at hL
    rw [Nat.sub_self, Nat.mul_zero, List.drop_zero] at hM
    subst hL
    subst hM
    (repeat first | refine uA ?_ | (apply S.exit; exact rfl) | (refine uK ?_ ?_; focus first | omega | trivial | exact id | (intros; simp_all <;> omega)) | simp (disch := omega) only [go_sem, Nat.reduceBEq, Nat.reduceAdd, Nat.reduceLeDiff, Int.reduceToNat, Int.reducePow, ww])
    (refine S.done ?_; simp only [D8, x9, go_sem, Nat.reduceBEq, Nat.reduceAdd, Nat.reduceLeDiff, Int.reduceToNat, Int.reducePow]; (repeat (refine ⟨?_, ?_⟩; focus first | trivial | omega | simp)); exact d9.M9 (Imp.agg (by (repeat' (first | exact p8.nil | exact Imp.refl rfl | exact Imp.frz rfl rfl rfl | exact Imp.a1I | refine p8.cons ?_ ?_)))) (by (repeat first | refine uA ?_ | (refine ⟨?_, ?_⟩; focus first | rfl | trivial | (simp [slot]; done)) | rfl | trivial | simp)) (Nat.le_trans hν0 (by simp)))
set_option maxHeartbeats 32000000
def V9 : List C := [.v (.slice none 0 0), .v (.slice none 0 0), .v (.slice none 0 0), .v (.slice none 0 0), .v (.slice none 0 0), .v (.bool false), .v (.string ⟨#[]⟩), .v (.string ⟨#[]⟩)]
def rsM (m : List Int) (a : List Am) (w : List (List Vt)) (p : List Pt) (s : List Sl) (g : List Gt) : List Res :=
  [.box 31 V9, .box 225 [J4 m], .box 31 [.rv 3, .rv 4, .rv 5, .rv 6, .rv 7, .v (.bool false), .v (.string ⟨#[]⟩), .v (.string ⟨#[]⟩)], .row 76 12 (a.map Am.enc), .row 34 1 (w.map fun s => [vts s]), .row 80 12 (p.map Pt.enc), .row 57 14 (s.map Sl.enc), .row 116 13 (g.map Gt.enc)]
theorem b8D (n : Nat) (h : n < 2) : ([[C.v (.string ⟨#[98, 111, 108, 116]⟩)], [C.v (.string ⟨#[110, 117, 116]⟩)]] : List (List C))[n]? = some [C.v (.string (bs (a3G n)))] := by
  match n, h with
  | 0, _ => rfl
  | 1, _ => rfl
theorem b8E (n : Nat) (h : n < 3) : ([[C.v (.string ⟨#[104, 101, 114, 101]⟩)], [C.v (.string ⟨#[116, 104, 101, 114, 101]⟩)], [C.v (.string ⟨#[98, 101, 121, 111, 110, 100]⟩)]] : List (List C))[n]? = some [C.v (.string (bs (a4I n)))] := by
  match n, h with
  | 0, _ => rfl
  | 1, _ => rfl
  | 2, _ => rfl
theorem c0O (l : List Int) : l7 Tryz.prog 69 [J4 l] (J3 l).c := by
  refine l7.of a7W a7Z (by exact Nat.le_of_ble_eq_true rfl) fun w O => ?_
  have k0 := fun (E : Ctx) (hP : E.P = Tryz.prog) => H9 hP l 2 (by decide)
  have c0 := l8 l (n := 2) (by decide)
  have d0 := D9 l (n := 2) (by decide)
  have hc1 : ((nA l : Nat) : Int) = 1 + nx l 2 := by unfold nA; omega
  have z2 := l8 (l1 l) (n := 3) (by decide)
  have z3 := l8 (l2 l) (n := 3) (by decide)
  have z4 := l8 (l3 l) (n := 2) (by decide)
  have z5 := l8 (l4 l) (n := 2) (by decide)
  have z6 := l8 (l5 l) (n := 4) (by decide)
  have y6 := D9 (l5 l) (n := 4) (by decide)
  have hc2 : ((nW l : Nat) : Int) = nx (l1 l) 3 := by unfold nW; omega
  have hc3 : ((nP l : Nat) : Int) = nx (l2 l) 3 := by unfold nP; omega
  have hc4 : ((nS l : Nat) : Int) = (nP l : Int) + nx (l3 l) 2 := by unfold nS; omega
  have hc5 : ((nG l : Nat) : Int) = nx (l4 l) 2 := by unfold nG; omega
  obtain ⟨cc1, cc2, cc3, cc4, cc5⟩ := counts l
  have q1 : l1 l = a6t (nA l) (l.drop 1) := rfl
  have q2 : l2 l = (l1 l).drop (1 + 5 * nW l) := rfl
  have q3 : l3 l = a4m (nP l) ((l2 l).drop 1) := rfl
  have q4 : l4 l = (l3 l).drop (1 + 4 * nS l) := rfl
  have q5 : l5 l = (l4 l).drop (1 + 4 * nG l) := rfl
  unfold J3
  generalize nA l = cA at *
  generalize nW l = cW at *
  generalize nP l = cP at *
  generalize nS l = cS at *
  generalize nG l = cG at *
  generalize l5 l = L5 at *
  generalize l4 l = L4 at *
  generalize l3 l = L3 at *
  generalize l2 l = L2 at *
  generalize l1 l = L1 at *
  generalize l.drop 1 = s0 at *
  generalize nx l 2 = x0 at *
  have k1 := fun (E : Ctx) (hP : E.P = Tryz.prog) => H9 hP L1 3 (by decide)
  have k2 := fun (E : Ctx) (hP : E.P = Tryz.prog) => H9 hP L2 3 (by decide)
  have k3 := fun (E : Ctx) (hP : E.P = Tryz.prog) => H9 hP L3 2 (by decide)
  have k4 := fun (E : Ctx) (hP : E.P = Tryz.prog) => H9 hP L4 2 (by decide)
  have k5 := fun (E : Ctx) (hP : E.P = Tryz.prog) => H9 hP L5 4 (by decide)
  simp only [J4, ints] at k1 k2 k3 k4 k5
  simp only [a3B, l6, TT, II, OA, OB, OC, MM, LL, VV, FF, MG, LG, VG, FG]
  simp only [J4, ints] at k0 ⊢
  (repeat first | refine uA ?_ | (refine uK ?_ ?_; focus first | omega | (intros; simp_all <;> omega)) | simp (disch := omega) only [go_sem, Nat.reduceBEq, Nat.reduceAdd, ww] | refine l9.t (j6.lift (k := 1) rfl (k0 _ rfl) rfl rfl rfl) ?_)
  rw [<- hc1]
  refine S.loop (X := Nat × List Am × List Int) (fun x => ⟨[(2, .bp 0 0), (3, .bp 1 0), (4, .bp 2 0), (17, ints cA), (18, ints x.1)], rsM x.2.2 x.2.1 [] [] [] []⟩)
    (fun x => x.1 <= cA /\ x.2.1.length = x.1 /\ x.2.1 ++ a1D (cA - x.1) x.1 x.2.2 = a1D cA 0 s0 /\ a6t (cA - x.1) x.2.2 = a6t cA s0) (fun x => cA - x.1) (0, [], s0) ⟨Nat.zero_le _, rfl, rfl, rfl⟩
    (Ent.trans (Ent.a0n 2 0 76 12 rfl rfl rfl) (Ent.trans (Ent.a0n 2 1 34 1 rfl rfl rfl) (Ent.trans (Ent.a0n 2 2 80 12 rfl rfl rfl) (Ent.trans (Ent.a0n 2 3 57 14 rfl rfl rfl) (Ent.trans (Ent.a0n 2 4 116 13 rfl rfl rfl) (by simp only [rsM, J4, V9]; exact (by (repeat first | refine uA ?_ | (refine ⟨?_, ?_⟩; focus first | rfl | simp [slot]) | rfl | simp)))))))) ?_
  rintro ⟨i, am, ma⟩ ⟨hi, hl, hL, hM⟩
  simp only [rsM, V9, J4, ints] at hi hl hL hM ⊢
  (repeat first | refine uA ?_ | (refine uK ?_ ?_; focus first | omega | (intros; simp_all <;> omega)) | simp (disch := omega) only [go_sem, Nat.reduceBEq, Nat.reduceAdd, ww])
  (refine uJ rfl (fun hc => ?_) fun hc => ?_)
  · have hi' : i < cA := by omega
    rw [show cA - i = (cA - (i + 1)) + 1 by omega, a1D] at hL
    rw [show cA - i = (cA - (i + 1)) + 1 by omega, a6t] at hM
    have ha := fun (E : Ctx) (hP : E.P = Tryz.prog) => c2K hP ma i (by omega)
    generalize b0i ma i = A at *
    generalize b0t ma = m' at *
    simp only [J4, Am.c, Am.enc, lks, sb] at ha
    (repeat first | refine uI ?_ | (refine uK ?_ ?_; focus first | omega | (intros; simp_all <;> omega)) | simp (disch := omega) only [go_sem, Nat.reduceBEq, Nat.reduceAdd, ww])
    refine S.K3 [.gone, .gone, .box 31 [.rv 3, .rv 4, .rv 5, .rv 6, .rv 7, .v (.bool false), .v (.string ⟨#[]⟩), .v (.string ⟨#[]⟩)]] (by simp [Eng.F9, Eng.a0h]) ?_
    (repeat first | refine uA ?_ | (refine uK ?_ ?_; focus first | omega | (intros; simp_all <;> omega)) | simp (disch := omega) only [go_sem, Nat.reduceBEq, Nat.reduceAdd, ww, List.length_map, hl, F9] | refine l9.t (j6.lift (k := 1) rfl (ha _ rfl) rfl rfl rfl) ?_)
    refine S.next (x := (i, am, ma)) (i + 1, am ++ [A], m') ⟨by simp only; omega, by simp [hl], by simp only; rw [List.append_assoc]; exact hL, by simp only; exact hM⟩ (by simp only; omega) (by simp only [rsM, J4, V9, List.map_append, List.map_cons, List.map_nil]; exact (by (repeat first | refine uA ?_ | (refine ⟨?_, ?_⟩; focus first | rfl | simp [slot]) | rfl | simp)))
  have hi' : i = cA := by omega
  subst hi'
  rw [Nat.sub_self, a1D, List.append_nil] at hL
  rw [Nat.sub_self, a6t] at hM
  have hm : ma = L1 := by rw [q1]; exact hM
  subst hm
  rw [<- hL]
  (repeat first | refine uA ?_ | (refine uK ?_ ?_; focus first | omega | (intros; simp_all <;> omega)) | simp (disch := omega) only [go_sem, Nat.reduceBEq, Nat.reduceAdd, ww] | refine l9.t (j6.lift (k := 1) rfl (k1 _ rfl) rfl rfl rfl) ?_)
  rw [<- hc2]
  refine S.loop (X := Nat × List (List Vt) × List Int) (fun x => ⟨[(2, .bp 0 0), (3, .bp 1 0), (4, .bp 2 0), (31, ints cW), (32, ints x.1)], rsM x.2.2 am x.2.1 [] [] []⟩)
    (fun x => x.1 <= cW /\ x.2.1.length = x.1 /\ x.2.1 ++ a1A (cW - x.1) x.2.2 = a1A cW (ma.drop 1) /\ x.2.2.drop (5 * (cW - x.1)) = (ma.drop 1).drop (5 * cW)) (fun x => cW - x.1) (0, [], ma.drop 1) ⟨Nat.zero_le _, rfl, rfl, rfl⟩ (by simp only [rsM, J4, V9]; exact (by (repeat first | refine uA ?_ | (refine ⟨?_, ?_⟩; focus first | rfl | simp [slot]) | rfl | simp))) ?_
  rintro ⟨i, ws, mw⟩ ⟨hi, hl, hL, hM⟩
  simp only [rsM, V9, J4, ints] at hi hl hL hM ⊢
  (repeat first | refine uA ?_ | (refine uK ?_ ?_; focus first | omega | (intros; simp_all <;> omega)) | simp (disch := omega) only [go_sem, Nat.reduceBEq, Nat.reduceAdd, ww])
  (refine uJ rfl (fun hc => ?_) fun hc => ?_)
  · have hi' : i < cW := by omega
    rw [show cW - i = (cW - (i + 1)) + 1 by omega, a1A] at hL
    have hM2 : (mw.drop 5).drop (5 * (cW - (i + 1))) = (ma.drop 1).drop (5 * cW) := by rw [<- hM, List.drop_drop]; congr 1; omega
    have n0 := fun (E : Ctx) (hP : E.P = Tryz.prog) => H9 hP mw 80 (by decide)
    have a0 := l8 mw (n := 80) (by decide)
    have b0 := D9 mw (n := 80) (by decide)
    have n1 := fun (E : Ctx) (hP : E.P = Tryz.prog) => H9 hP (mw.drop 1) 30 (by decide)
    have a1 := l8 (mw.drop 1) (n := 30) (by decide)
    have b1 := D9 (mw.drop 1) (n := 30) (by decide)
    have n2 := fun (E : Ctx) (hP : E.P = Tryz.prog) => H9 hP (mw.drop 2) 2 (by decide)
    have a2 := l8 (mw.drop 2) (n := 2) (by decide)
    have b2 := D9 (mw.drop 2) (n := 2) (by decide)
    have n3 := fun (E : Ctx) (hP : E.P = Tryz.prog) => H9 hP (mw.drop 3) 20 (by decide)
    have a3 := l8 (mw.drop 3) (n := 20) (by decide)
    have b3 := D9 (mw.drop 3) (n := 20) (by decide)
    have n4 := fun (E : Ctx) (hP : E.P = Tryz.prog) => H9 hP (mw.drop 4) 5 (by decide)
    have a4 := l8 (mw.drop 4) (n := 5) (by decide)
    have b4 := D9 (mw.drop 4) (n := 5) (by decide)
    simp only [List.drop_drop, J4, ints] at n0 n1 n2 n3 n4
    have hwy : -1000 <= a0T mw /\ a0T mw <= 1000 := by unfold a0T; split <;> omega
    have o1 := b8p (nx mw 80 - 30) (a0T mw) (nx mw 80 - 30 + 1 + nx (mw.drop 3) 20) (a0T mw + 1 + nx (mw.drop 4) 5) (by omega) (by omega) (by omega) (by omega)
    unfold b1U at hL
    generalize a4N (nx mw 80 - 30) (a0T mw) (nx mw 80 - 30 + 1 + nx (mw.drop 3) 20) (a0T mw + 1 + nx (mw.drop 4) 5) = R at *
    have hwe : a0T mw = if nx (mw.drop 2) 2 = 1 then -(12 + nx (mw.drop 1) 30) - 6 else 12 + nx (mw.drop 1) 30 := rfl
    generalize a0T mw = Y at *
    generalize nx mw 80 = x1 at *
    generalize nx (mw.drop 1) 30 = x2 at *
    generalize nx (mw.drop 2) 2 = x3 at *
    generalize nx (mw.drop 3) 20 = x4 at *
    generalize nx (mw.drop 4) 5 = x5 at *
    simp only [ints, vts] at o1
    (repeat first | refine uA ?_ | (refine uK ?_ ?_; focus first | omega | (intros; simp_all <;> omega)) | simp (disch := omega) only [go_sem, Nat.reduceBEq, Nat.reduceAdd, ww] | refine l9.t (j6.lift (k := 1) rfl (n0 _ rfl) rfl rfl rfl) ?_ | refine l9.t (j6.lift (k := 1) rfl (n1 _ rfl) rfl rfl rfl) ?_ | refine l9.t (j6.lift (k := 1) rfl (n2 _ rfl) rfl rfl rfl) ?_)
    refine S.join (Y := Int) (fun y => ⟨[(2, .bp 0 0), (3, .bp 1 0), (4, .bp 2 0), (6, ints (x1 - 30)), (7, ints y), (31, ints cW), (32, ints i)], rsM (mw.drop 3) am ws [] [] []⟩) (fun y => y = Y) ?_ ?_
    · refine S.cond rfl (fun hc => ?_) (fun hc => ?_)
      · have hn2 : IntKind.i64.wrap (0 - (12 + x2)) = -(12 + x2) := by rw [Eng.wrap_i64 (by omega)]; omega
        (repeat first | refine uA ?_ | (refine uK ?_ ?_; focus first | omega | (intros; simp_all <;> omega)) | simp (disch := omega) only [go_sem, Nat.reduceBEq, Nat.reduceAdd, ww, hn2])
        exact S.met (-(12 + x2) - 6) (by simp at hc; rw [hwe, if_pos hc]) (by simp only [rsM, J4, V9]; exact (by (repeat first | refine uA ?_ | (refine ⟨?_, ?_⟩; focus first | rfl | simp [slot]) | rfl | simp)))
      · (repeat first | refine uA ?_ | (refine uK ?_ ?_; focus first | omega | (intros; simp_all <;> omega)) | simp (disch := omega) only [go_sem, Nat.reduceBEq, Nat.reduceAdd, ww])
        exact S.met (12 + x2) (by simp at hc; rw [hwe, if_neg hc]) (by simp only [rsM, J4, V9]; exact (by (repeat first | refine uA ?_ | (refine ⟨?_, ?_⟩; focus first | rfl | simp [slot]) | rfl | simp)))
    rintro y rfl
    simp only [rsM, V9, J4, ints]
    (repeat first | refine uI ?_ | (refine uK ?_ ?_; focus first | omega | (intros; simp_all <;> omega)) | simp (disch := omega) only [go_sem, Nat.reduceBEq, Nat.reduceAdd, ww])
    refine S.K3 [.gone, .gone, .box 31 [.rv 3, .rv 4, .rv 5, .rv 6, .rv 7, .v (.bool false), .v (.string ⟨#[]⟩), .v (.string ⟨#[]⟩)]] (by simp [Eng.F9, Eng.a0h]) ?_
    (repeat first | refine uA ?_ | (refine uK ?_ ?_; focus first | omega | (intros; simp_all <;> omega)) | simp (disch := omega) only [go_sem, Nat.reduceBEq, Nat.reduceAdd, ww, List.length_map, hl, F9] | refine l9.t (j6.lift (k := 1) rfl (n3 _ rfl) rfl rfl rfl) ?_ | refine l9.t (j6.lift (k := 1) rfl (n4 _ rfl) rfl rfl rfl) ?_ | (refine uB o1 ?_ ?_; exact rfl))
    refine S.next (x := (i, ws, mw)) (i + 1, ws ++ [R], mw.drop 5) ⟨by simp only; omega, by simp [hl], by simp only; rw [List.append_assoc]; exact hL, by simp only; exact hM2⟩ (by simp only; omega) (by simp only [rsM, J4, V9, List.map_append, List.map_cons, List.map_nil]; exact (by (repeat first | refine uA ?_ | (refine ⟨?_, ?_⟩; focus first | rfl | simp [slot]) | rfl | simp)))
  have hi' : i = cW := by omega
  subst hi'
  rw [Nat.sub_self, a1A, List.append_nil] at hL
  rw [Nat.sub_self, Nat.mul_zero, List.drop_zero, List.drop_drop] at hM
  have hm : mw = L2 := by rw [q2]; exact hM
  subst hm
  rw [<- hL]
  (repeat first | refine uA ?_ | (refine uK ?_ ?_; focus first | omega | (intros; simp_all <;> omega)) | simp (disch := omega) only [go_sem, Nat.reduceBEq, Nat.reduceAdd, ww] | refine l9.t (j6.lift (k := 1) rfl (k2 _ rfl) rfl rfl rfl) ?_)
  rw [<- hc3]
  refine S.loop (X := Nat × List Pt × List Int) (fun x => ⟨[(2, .bp 0 0), (3, .bp 1 0), (4, .bp 2 0), (66, ints cP), (67, ints x.1)], rsM x.2.2 am ws x.2.1 [] []⟩)
    (fun x => x.1 <= cP /\ x.2.1.length = x.1 /\ x.2.1 ++ a0s (cP - x.1) x.1 x.2.2 = a0s cP 0 (mw.drop 1) /\ a4m (cP - x.1) x.2.2 = a4m cP (mw.drop 1)) (fun x => cP - x.1) (0, [], mw.drop 1) ⟨Nat.zero_le _, rfl, rfl, rfl⟩ (by simp only [rsM, J4, V9]; exact (by (repeat first | refine uA ?_ | (refine ⟨?_, ?_⟩; focus first | rfl | simp [slot]) | rfl | simp))) ?_
  rintro ⟨i, ps, mp⟩ ⟨hi, hl, hL, hM⟩
  simp only [rsM, V9, J4, ints] at hi hl hL hM ⊢
  (repeat first | refine uA ?_ | (refine uK ?_ ?_; focus first | omega | (intros; simp_all <;> omega)) | simp (disch := omega) only [go_sem, Nat.reduceBEq, Nat.reduceAdd, ww])
  (refine uJ rfl (fun hc => ?_) fun hc => ?_)
  · have hi' : i < cP := by omega
    rw [show cP - i = (cP - (i + 1)) + 1 by omega, a0s] at hL
    rw [show cP - i = (cP - (i + 1)) + 1 by omega, a4m] at hM
    have hp := fun (E : Ctx) (hP : E.P = Tryz.prog) => c1J hP mp
    have hnm := b8D i (by omega)
    have o1 := R4 0 0 (by decide) (by decide)
    have o2 := a1G 0 1 (by decide) (by decide)
    unfold c0j at hL
    unfold atV at o1
    generalize (a1j mp).1 = sh at *
    generalize (a1j mp).2 = m' at *
    generalize Q 0 4 = qa at *
    generalize Q 0 1 = qb at *
    generalize a3G i = nm at *
    simp only [J4, vts, Vt.c, Vt.enc, rc, sb, ints] at hp o1 o2
    (repeat first | refine uI ?_ | (refine uK ?_ ?_; focus first | omega | (intros; simp_all <;> omega)) | simp (disch := omega) only [go_sem, Nat.reduceBEq, Nat.reduceAdd, ww])
    refine S.K3 [.gone, .gone, .box 31 [.rv 3, .rv 4, .rv 5, .rv 6, .rv 7, .v (.bool false), .v (.string ⟨#[]⟩), .v (.string ⟨#[]⟩)]] (by simp [Eng.F9, Eng.a0h]) ?_
    (repeat first | refine uA ?_ | (refine uK ?_ ?_; focus first | omega | (intros; simp_all <;> omega)) | simp (disch := omega) only [go_sem, Nat.reduceBEq, Nat.reduceAdd, ww, List.length_map, hl, F9, hnm, Int.toNat_natCast] | refine l9.t (j6.lift (k := 1) rfl (hp _ rfl) rfl rfl rfl) ?_ | (refine uB o1 ?_ ?_; exact rfl) | (refine uB o2 ?_ ?_; exact rfl))
    refine S.next (x := (i, ps, mp)) (i + 1, ps ++ [⟨nm, sh, ⟨qa, qa, false, qb⟩⟩], m') ⟨by simp only; omega, by simp [hl], by simp only; rw [List.append_assoc]; exact hL, by simp only; exact hM⟩ (by simp only; omega) (by simp only [rsM, J4, V9, List.map_append, List.map_cons, List.map_nil]; exact (by (repeat first | refine uA ?_ | (refine ⟨?_, ?_⟩; focus first | rfl | simp [slot]) | rfl | simp)))
  have hi' : i = cP := by omega
  subst hi'
  rw [Nat.sub_self, a0s, List.append_nil] at hL
  rw [Nat.sub_self, a4m] at hM
  have hm : mp = L3 := by rw [q3]; exact hM
  subst hm
  rw [<- hL]
  (repeat first | refine uI ?_ | (refine uK ?_ ?_; focus first | omega | (intros; simp_all <;> omega)) | simp (disch := omega) only [go_sem, Nat.reduceBEq, Nat.reduceAdd, ww])
  refine S.K3 [.gone, .gone, .box 31 [.rv 3, .rv 4, .rv 5, .rv 6, .rv 7, .v (.bool false), .v (.string ⟨#[]⟩), .v (.string ⟨#[]⟩)], .gone, .gone, .row 80 12 (ps.map Pt.enc)] (by simp [Eng.F9, Eng.a0h]) ?_
  (repeat first | refine uA ?_ | (refine uK ?_ ?_; focus first | omega | (intros; simp_all <;> omega)) | simp (disch := omega) only [go_sem, Nat.reduceBEq, Nat.reduceAdd, ww, List.length_map, hl, F9] | refine l9.t (j6.lift (k := 1) rfl (k3 _ rfl) rfl rfl rfl) ?_)
  rw [<- hc4]
  refine S.loop (X := Nat × List Sl × List Int) (fun x => ⟨[(2, .bp 0 0), (3, .bp 1 0), (4, .bp 2 0), (92, ints cS), (93, ints x.1)], rsM x.2.2 am ws ps x.2.1 []⟩)
    (fun x => x.1 <= cS /\ x.2.1.length = x.1 /\ x.2.1 ++ a0q (cS - x.1) x.1 x.2.2 = a0q cS 0 (mp.drop 1) /\ x.2.2.drop (4 * (cS - x.1)) = (mp.drop 1).drop (4 * cS)) (fun x => cS - x.1) (0, [], mp.drop 1) ⟨Nat.zero_le _, rfl, rfl, rfl⟩ (by simp only [rsM, J4, V9]; exact (by (repeat first | refine uA ?_ | (refine ⟨?_, ?_⟩; focus first | rfl | simp [slot]) | rfl | simp))) ?_
  rintro ⟨i, ss, ms⟩ ⟨hi, hl, hL, hM⟩
  simp only [rsM, V9, J4, ints] at hi hl hL hM ⊢
  (repeat first | refine uA ?_ | (refine uK ?_ ?_; focus first | omega | (intros; simp_all <;> omega)) | simp (disch := omega) only [go_sem, Nat.reduceBEq, Nat.reduceAdd, ww])
  (refine uJ rfl (fun hc => ?_) fun hc => ?_)
  · have hi' : i < cS := by omega
    rw [show cS - i = (cS - (i + 1)) + 1 by omega, a0q] at hL
    have hM2 : (ms.drop 4).drop (4 * (cS - (i + 1))) = (mp.drop 1).drop (4 * cS) := by rw [<- hM, List.drop_drop]; congr 1; omega
    have n0 := fun (E : Ctx) (hP : E.P = Tryz.prog) => H9 hP ms 40 (by decide)
    have a0 := l8 ms (n := 40) (by decide)
    have b0 := D9 ms (n := 40) (by decide)
    have n1 := fun (E : Ctx) (hP : E.P = Tryz.prog) => H9 hP (ms.drop 1) 24 (by decide)
    have a1 := l8 (ms.drop 1) (n := 24) (by decide)
    have b1 := D9 (ms.drop 1) (n := 24) (by decide)
    have n2 := fun (E : Ctx) (hP : E.P = Tryz.prog) => H9 hP (ms.drop 2) 5 (by decide)
    have a2 := l8 (ms.drop 2) (n := 5) (by decide)
    have b2 := D9 (ms.drop 2) (n := 5) (by decide)
    have n3 := fun (E : Ctx) (hP : E.P = Tryz.prog) => H9 hP (ms.drop 3) 20 (by decide)
    have a3 := l8 (ms.drop 3) (n := 20) (by decide)
    have b3 := D9 (ms.drop 3) (n := 20) (by decide)
    simp only [List.drop_drop, J4, ints] at n0 n1 n2 n3
    have hnm := b8E i (by omega)
    have o1 := R4 (nx ms 40 - 20) (nx (ms.drop 1) 24 - 12) (by omega) (by omega)
    have o2 := a1G (nx (ms.drop 2) 5 - 2) 2 (by omega) (by decide)
    have o3 := a1G 1 (8 + nx (ms.drop 3) 20) (by decide) (by omega)
    unfold b5L at hL
    unfold atV at o1
    generalize Q (nx ms 40 - 20) 4 = qa at *
    generalize Q (nx (ms.drop 1) 24 - 12) 4 = qb at *
    generalize Q (nx (ms.drop 2) 5 - 2) 2 = qc at *
    generalize Q 1 (8 + nx (ms.drop 3) 20) = qd at *
    generalize a4I i = nm at *
    generalize nx ms 40 = x1 at *
    generalize nx (ms.drop 1) 24 = x2 at *
    generalize nx (ms.drop 2) 5 = x3 at *
    generalize nx (ms.drop 3) 20 = x4 at *
    simp only [Vt.c, Vt.enc, rc, sb, ints] at o1 o2 o3
    (repeat first | refine uI ?_ | (refine uK ?_ ?_; focus first | omega | (intros; simp_all <;> omega)) | simp (disch := omega) only [go_sem, Nat.reduceBEq, Nat.reduceAdd, ww])
    refine S.K3 [.gone, .gone, .box 31 [.rv 3, .rv 4, .rv 5, .rv 6, .rv 7, .v (.bool false), .v (.string ⟨#[]⟩), .v (.string ⟨#[]⟩)]] (by simp [Eng.F9, Eng.a0h]) ?_
    (repeat first | refine uA ?_ | (refine uK ?_ ?_; focus first | omega | (intros; simp_all <;> omega)) | simp (disch := omega) only [go_sem, Nat.reduceBEq, Nat.reduceAdd, ww, List.length_map, hl, F9, hnm, Int.toNat_natCast] | refine l9.t (j6.lift (k := 1) rfl (n0 _ rfl) rfl rfl rfl) ?_ | refine l9.t (j6.lift (k := 1) rfl (n1 _ rfl) rfl rfl rfl) ?_ | refine l9.t (j6.lift (k := 1) rfl (n2 _ rfl) rfl rfl rfl) ?_ | refine l9.t (j6.lift (k := 1) rfl (n3 _ rfl) rfl rfl rfl) ?_ | (refine uB o1 ?_ ?_; exact rfl) | (refine uB o2 ?_ ?_; exact rfl) | (refine uB o3 ?_ ?_; exact rfl))
    refine S.next (x := (i, ss, ms)) (i + 1, ss ++ [⟨nm, ⟨qa, qb, false, qc⟩, qd⟩], ms.drop 4) ⟨by simp only; omega, by simp [hl], by simp only; rw [List.append_assoc]; exact hL, by simp only; exact hM2⟩ (by simp only; omega) (by simp only [rsM, J4, V9, List.map_append, List.map_cons, List.map_nil]; exact (by (repeat first | refine uA ?_ | (refine ⟨?_, ?_⟩; focus first | rfl | simp [slot]) | rfl | simp)))
  have hi' : i = cS := by omega
  subst hi'
  rw [Nat.sub_self, a0q, List.append_nil] at hL
  rw [Nat.sub_self, Nat.mul_zero, List.drop_zero, List.drop_drop] at hM
  have hm : ms = L4 := by rw [q4]; exact hM
  subst hm
  rw [<- hL]
  (repeat first | refine uA ?_ | (refine uK ?_ ?_; focus first | omega | (intros; simp_all <;> omega)) | simp (disch := omega) only [go_sem, Nat.reduceBEq, Nat.reduceAdd, ww] | refine l9.t (j6.lift (k := 1) rfl (k4 _ rfl) rfl rfl rfl) ?_)
  rw [<- hc5]
  refine S.loop (X := Nat × List Gt × List Int) (fun x => ⟨[(2, .bp 0 0), (3, .bp 1 0), (4, .bp 2 0), (125, ints cG), (126, ints x.1)], rsM x.2.2 am ws ps ss x.2.1⟩)
    (fun x => x.1 <= cG /\ x.2.1.length = x.1 /\ x.2.1 ++ a0x (cG - x.1) x.2.2 = a0x cG (ms.drop 1) /\ x.2.2.drop (4 * (cG - x.1)) = (ms.drop 1).drop (4 * cG)) (fun x => cG - x.1) (0, [], ms.drop 1) ⟨Nat.zero_le _, rfl, rfl, rfl⟩ (by simp only [rsM, J4, V9]; exact (by (repeat first | refine uA ?_ | (refine ⟨?_, ?_⟩; focus first | rfl | simp [slot]) | rfl | simp))) ?_
  rintro ⟨i, gs, mg⟩ ⟨hi, hl, hL, hM⟩
  simp only [rsM, V9, J4, ints] at hi hl hL hM ⊢
  (repeat first | refine uA ?_ | (refine uK ?_ ?_; focus first | omega | (intros; simp_all <;> omega)) | simp (disch := omega) only [go_sem, Nat.reduceBEq, Nat.reduceAdd, ww])
  (refine uJ rfl (fun hc => ?_) fun hc => ?_)
  · have hi' : i < cG := by omega
    rw [show cG - i = (cG - (i + 1)) + 1 by omega, a0x] at hL
    have hM2 : (mg.drop 4).drop (4 * (cG - (i + 1))) = (ms.drop 1).drop (4 * cG) := by rw [<- hM, List.drop_drop]; congr 1; omega
    have n0 := fun (E : Ctx) (hP : E.P = Tryz.prog) => H9 hP mg 60 (by decide)
    have a0 := l8 mg (n := 60) (by decide)
    have b0 := D9 mg (n := 60) (by decide)
    have n1 := fun (E : Ctx) (hP : E.P = Tryz.prog) => H9 hP (mg.drop 1) 60 (by decide)
    have a1 := l8 (mg.drop 1) (n := 60) (by decide)
    have b1 := D9 (mg.drop 1) (n := 60) (by decide)
    have n2 := fun (E : Ctx) (hP : E.P = Tryz.prog) => H9 hP (mg.drop 2) 12 (by decide)
    have a2 := l8 (mg.drop 2) (n := 12) (by decide)
    have b2 := D9 (mg.drop 2) (n := 12) (by decide)
    have n3 := fun (E : Ctx) (hP : E.P = Tryz.prog) => H9 hP (mg.drop 3) 12 (by decide)
    have a3 := l8 (mg.drop 3) (n := 12) (by decide)
    have b3 := D9 (mg.drop 3) (n := 12) (by decide)
    simp only [List.drop_drop, J4, ints] at n0 n1 n2 n3
    have o1 := R4 (nx mg 60 - 30) (nx (mg.drop 1) 60 - 30) (by omega) (by omega)
    have o2 := R4 (nx mg 60 - 30 + nx (mg.drop 2) 12) (nx (mg.drop 1) 60 - 30 + nx (mg.drop 3) 12) (by omega) (by omega)
    unfold b6v at hL
    generalize atV (nx mg 60 - 30) (nx (mg.drop 1) 60 - 30) = va at *
    generalize atV (nx mg 60 - 30 + nx (mg.drop 2) 12) (nx (mg.drop 1) 60 - 30 + nx (mg.drop 3) 12) = vb at *
    generalize nx mg 60 = x1 at *
    generalize nx (mg.drop 1) 60 = x2 at *
    generalize nx (mg.drop 2) 12 = x3 at *
    generalize nx (mg.drop 3) 12 = x4 at *
    simp only [Vt.c, Vt.enc, rc, sb, ints] at o1 o2
    (repeat first | refine uI ?_ | (refine uK ?_ ?_; focus first | omega | (intros; simp_all <;> omega)) | simp (disch := omega) only [go_sem, Nat.reduceBEq, Nat.reduceAdd, ww] | refine l9.t (j6.lift (k := 1) rfl (n0 _ rfl) rfl rfl rfl) ?_ | refine l9.t (j6.lift (k := 1) rfl (n1 _ rfl) rfl rfl rfl) ?_)
    refine S.K3 [.gone, .gone, .box 31 [.rv 3, .rv 4, .rv 5, .rv 6, .rv 7, .v (.bool false), .v (.string ⟨#[]⟩), .v (.string ⟨#[]⟩)]] (by simp [Eng.F9, Eng.a0h]) ?_
    (repeat first | refine uA ?_ | (refine uK ?_ ?_; focus first | omega | (intros; simp_all <;> omega)) | simp (disch := omega) only [go_sem, Nat.reduceBEq, Nat.reduceAdd, ww, List.length_map, hl, F9] | refine l9.t (j6.lift (k := 1) rfl (n2 _ rfl) rfl rfl rfl) ?_ | refine l9.t (j6.lift (k := 1) rfl (n3 _ rfl) rfl rfl rfl) ?_ | (refine uB o1 ?_ ?_; exact rfl) | (refine uB o2 ?_ ?_; exact rfl))
    refine S.next (x := (i, gs, mg)) (i + 1, gs ++ [⟨[100, 111, 111, 114], va, vb⟩], mg.drop 4) ⟨by simp only; omega, by simp [hl], by simp only; rw [List.append_assoc]; exact hL, by simp only; exact hM2⟩ (by simp only; omega) (by simp only [rsM, J4, V9, List.map_append, List.map_cons, List.map_nil]; exact (by (repeat first | refine uA ?_ | (refine ⟨?_, ?_⟩; focus first | rfl | simp [slot]) | rfl | simp)))
  have hi' : i = cG := by omega
  subst hi'
  rw [Nat.sub_self, a0x, List.append_nil] at hL
  rw [Nat.sub_self, Nat.mul_zero, List.drop_zero, List.drop_drop] at hM
  have hm : mg = L5 := by rw [q5]; exact hM
  subst hm
  rw [<- hL]
  have o1 := a1G (nx mg 4) 8 (by omega) (by decide)
  generalize Q (nx mg 4) 8 = qw at *
  generalize nx mg 4 = x6 at *
  simp only [Wk.c, Wk.enc, ams, wls, pts, sls, gts, rc, sb, ints] at o1 ⊢
  (repeat first | refine uA ?_ | (refine uK ?_ ?_; focus first | omega | (intros; simp_all <;> omega)) | simp (disch := omega) only [go_sem, Nat.reduceBEq, Nat.reduceAdd, ww] | refine l9.t (j6.lift (k := 1) rfl (k5 _ rfl) rfl rfl rfl) ?_ | (refine uB o1 ?_ ?_; exact rfl))
  (refine S.done ?_; simp only [D8, x9, go_sem, Nat.reduceBEq, Nat.reduceAdd, Nat.reduceLeDiff, Int.reduceToNat, Int.reducePow]; (repeat (refine ⟨?_, ?_⟩; focus first | trivial | omega | simp)); exact d9.out rfl (Imp.agg (by (repeat' (first | exact p8.nil | exact Imp.refl rfl | exact Imp.frz rfl rfl rfl | exact Imp.a1I | refine p8.cons ?_ ?_)))) rfl)
theorem c2H {w : World} {O : Nat -> Prop} {sz : Nat} : Fz w O (.sl sz []) (.slice none 0 0) := by
  simp only [Fz]
  exact ⟨none, 0, rfl, Nat.le_refl _, Nat.zero_le _, fun h => absurd h (by simp)⟩
open Go Eng
set_option maxHeartbeats 16000000
theorem c2u (s : Stt) (hs : Stb 1073741824 s) : l7 Tryz.prog 42 [s.c] s.c := by
  refine l7.of (eff := eff) Tryz.func42 (by conv => { lhs; cbv }) (by exact Nat.le_of_ble_eq_true rfl) fun w O => ?_
  obtain ⟨⟨n1, b1⟩, ⟨n2, b2⟩, ⟨n3, b3⟩, n4⟩ := hs
  obtain ⟨tick, arms, parts, people, gates⟩ := s
  simp only at n1 b1 n2 n3 n4 ⊢
  have c1 := (b5G (parts.map Fr.enc) (by rw [List.length_map]; exact n2)).spec
  have c2 := (b8Y (people.map Vt.enc) (by rw [List.length_map]; exact n3)).spec
  have c3 := (b7S (gates.map fun b => [.v (.bool b)]) (by rw [List.length_map]; exact n4)).spec
  simp only [l6]
  simp only [Stt.c, Stt.enc, I8, frs, vts, bls, ints]
  (repeat first | refine uA ?_ | (refine uK ?_ ?_; focus first | omega | (intros; simp_all <;> omega)) | simp (disch := omega) only [go_sem, Nat.reduceBEq, Nat.reduceAdd, ww, List.length_map] | (refine uB c1 ?_ ?_; exact rfl) | (refine uB c2 ?_ ?_; exact rfl) | (refine uB c3 ?_ ?_; exact rfl))
  refine S.loop (X := Nat) (fun i => ⟨[(2, .bp 1 0), (3, .bp 2 0), (19, I8 arms), (20, ints arms.length), (21, ints i)], [.gone, .box 37 [.v (.int .i64 0), .v (.slice none 0 0), .v (.slice none 0 0), .v (.slice none 0 0), .v (.slice none 0 0)], .box 37 [ints tick, .rv 3, frs parts, vts people, bls gates], .row 90 4 ((arms.take i).map Ast.enc)]⟩) (fun i => i <= arms.length) (fun i => arms.length - i) 0 (Nat.zero_le _)
    (Ent.trans (Ent.a0n 2 1 90 4 rfl rfl rfl) (by (repeat first | refine uA ?_ | (refine ⟨?_, ?_⟩; focus first | rfl | simp [slot]) | rfl | simp))) ?_
  intro i hi
  simp only [I8, frs, vts, bls, ints]
  (repeat first | refine uA ?_ | (refine uK ?_ ?_; focus first | omega | (intros; simp_all <;> omega)) | simp (disch := omega) only [go_sem, Nat.reduceBEq, Nat.reduceAdd, ww])
  (refine uJ rfl (fun hc => ?_) fun hc => ?_)
  · have hi' : i < arms.length := by omega
    have hgi := List.getElem?_eq_getElem hi'
    have hap : arms.take (i + 1) = arms.take i ++ [arms[i]] := List.take_succ_eq_append_getElem hi'
    generalize arms[i] = x at hgi hap
    obtain ⟨⟨q1, _⟩, ⟨q2, _⟩⟩ := b1 x (List.mem_of_getElem? hgi)
    have e1 := (b3F (x.q.map rcs) (by rw [List.length_map]; exact q1)).spec
    have e2 := (b3F (x.v.map rcs) (by rw [List.length_map]; exact q2)).spec
    have htl : (arms.take i).length = i := by rw [List.length_take]; omega
    (repeat first | refine uA ?_ | (refine uK ?_ ?_; focus first | omega | (intros; simp_all <;> omega)) | simp (disch := omega) only [go_sem, Nat.reduceBEq, Nat.reduceAdd, ww, hgi, Option.map_some, List.length_map, Ast.enc, rts, ints, htl] | (refine uB e1 ?_ ?_; exact rfl) | (refine uB e2 ?_ ?_; exact rfl))
    refine S.next (i + 1) (by omega) (by omega) (by simp only [hap, List.map_append, List.map_cons, List.map_nil, Ast.enc, rts, ints]; exact (by (repeat first | refine uA ?_ | (refine ⟨?_, ?_⟩; focus first | rfl | simp [slot]) | rfl | simp)))
  · have hi' : i = arms.length := by omega
    subst hi'
    rw [List.take_length]
    (repeat first | refine uA ?_ | (refine uK ?_ ?_; focus first | omega | (intros; simp_all <;> omega)) | simp (disch := omega) only [go_sem, Nat.reduceBEq, Nat.reduceAdd, ww])
    (refine S.done ?_; simp only [D8, x9, go_sem, Nat.reduceBEq, Nat.reduceAdd, Nat.reduceLeDiff, Int.reduceToNat, Int.reducePow]; (repeat (refine ⟨?_, ?_⟩; focus first | trivial | omega | simp)); exact d9.out rfl (Imp.agg (by (repeat' (first | exact p8.nil | exact Imp.refl rfl | exact Imp.frz rfl rfl rfl | exact Imp.a1I | refine p8.cons ?_ ?_)))) rfl)
theorem b4r (w : Wk) (hwb : Wb 1073741824 w) (h : I9 w ≠ 0) : FZ 46 [w.c] (.tup [.agg b1T, ints (I9 w)]) := by
  refine q9.of a5P a5K (by exact Nat.le_of_ble_eq_true rfl) fun w' O hw => ?_
  have hck := a8V w hwb
  generalize I9 w = e at *
  obtain ⟨arms, walls, parts, slots, gates, walk⟩ := w
  simp only [a2C, l6, TT, II, OA, OB, OC, MM, LL, VV, FF, MG, LG, VG, FG]
  simp only [Wk.c, Wk.enc, ams, wls, pts, sls, gts, sb, ints, b1T] at hck ⊢
  (repeat first | refine uA ?_ | (refine uK ?_ ?_; focus first | omega | (intros; simp_all <;> omega)) | simp (disch := omega) only [go_sem, Nat.reduceBEq, Nat.reduceAdd, ww] | (refine uD hck ?_ ?_ ?_; exact tz hw; exact rfl))
  refine S.cond rfl (fun hc => ?_) (fun hc => by simp at hc; exact absurd hc h)
  (repeat first | refine uA ?_ | (refine uK ?_ ?_; focus first | omega | (intros; simp_all <;> omega)) | simp (disch := omega) only [go_sem, Nat.reduceBEq, Nat.reduceAdd, ww])
  (refine S.done ?_; simp only [D8, x9, go_sem, Nat.reduceBEq, Nat.reduceAdd, Nat.reduceLeDiff, Int.reduceToNat, Int.reducePow]; (repeat (refine ⟨?_, ?_⟩; focus first | trivial | omega | simp)); exact d9.out rfl (Imp.tup (by (repeat' (first | exact p8.nil | exact Imp.refl rfl | exact Imp.frz rfl rfl rfl | exact Imp.a1I | refine Imp.agg ?_ | refine p8.cons ?_ ?_)))) rfl)
theorem b8P : l7 Tryz.prog 69 [.v (.slice none 0 0)] (J3 []).c := by
  have h := c0O []
  intro O w vs hO hA
  refine h O w vs hO ?_
  simp only [FzL, Fz] at hA
  obtain ⟨y, ys, rfl, rfl, rfl⟩ := hA
  exact ⟨_, _, rfl, c2H, rfl⟩
theorem c0N : FZ 81 [] (.tup [(J3 []).c, (H8 (J3 [])).c]) := by
  refine q9.of (eff := eff) Tryz.func81 (by conv => { lhs; cbv }) (by exact Nat.le_of_ble_eq_true rfl) fun w' O hw => ?_
  have h1 := b8P
  have h2 := b2l (J3 []) (b1r []) (b2e [])
  generalize H8 (J3 []) = s at *
  generalize J3 [] = w at *
  obtain ⟨arms, walls, parts, slots, gates, walk⟩ := w
  obtain ⟨tick, sarms, sparts, people, sgates⟩ := s
  simp only [l6]
  simp only [Wk.c, Wk.enc, Stt.c, Stt.enc, ams, wls, pts, sls, gts, I8, frs, vts, bls, sb, ints, J4, List.map_nil] at h1 h2 ⊢
  (repeat first | refine uA ?_ | (refine uK ?_ ?_; focus first | omega | (intros; simp_all <;> omega)) | simp (disch := omega) only [go_sem, Nat.reduceBEq, Nat.reduceAdd, ww] | (refine uB h1 ?_ ?_; exact rfl) | (refine uD h2 ?_ ?_ ?_; exact tz hw; exact rfl))
  (refine S.done ?_; simp only [D8, x9, go_sem, Nat.reduceBEq, Nat.reduceAdd, Nat.reduceLeDiff, Int.reduceToNat, Int.reducePow]; (repeat (refine ⟨?_, ?_⟩; focus first | trivial | omega | simp)); exact d9.out rfl (Imp.tup (by (repeat' (first | exact p8.nil | exact Imp.refl rfl | exact Imp.frz rfl rfl rfl | exact Imp.a1I | refine Imp.agg ?_ | refine p8.cons ?_ ?_)))) rfl)
theorem b6d {w : Wk} (h : I9 w = 0) (hn : w.arms.length ≠ 0) : a0u w ⟨0, [], [], [], []⟩ = 1 := by
  unfold a0u
  rw [if_neg (by simpa using h), if_neg (by simp), if_pos (by right; right; left; simp only [List.length_nil]; omega)]
def a4w : Stt := ⟨0, [], [], [], []⟩
theorem b0p {k : Nat} : Stb k a4w := ⟨⟨Nat.zero_le _, fun x hx => (by cases hx)⟩, ⟨Nat.zero_le _, fun x hx => (by cases hx)⟩, ⟨Nat.zero_le _, fun x hx => (by cases hx)⟩, Nat.zero_le _⟩
theorem b2I : FZ 37 [] (.v (.bool true)) := by
  refine q9.of (eff := eff) Tryz.func37 (by conv => { lhs; cbv }) (by exact Nat.le_of_ble_eq_true rfl) fun w' O hw => ?_
  have hk := b2e []
  obtain ⟨ha, hs⟩ := b4n []
  have hb := b1r []
  have hf := b1f hb ha hs
  have h1 := c0N
  have h2 := b4G (J3 []) hb hk
  have h3 := a8E (J3 []) (H8 (J3 [])) hb hf
  have h0 := b2b hk ha hs
  have h4 := a9h (H8 (J3 [])) (H8 (J3 [])) hf hf
  have h5 := a8E (J3 []) a4w hb b0p
  rw [h0] at h3
  rw [show a0u (J3 []) a4w = 1 from b6d hk (by have := (b3C h0).big; omega)] at h5
  rw [decide_eq_true rfl] at h4
  generalize H8 (J3 []) = s at *
  generalize J3 [] = w at *
  obtain ⟨arms, walls, parts, slots, gates, walk⟩ := w
  obtain ⟨tick, sarms, sparts, people, sgates⟩ := s
  simp only [l6]
  simp only [Wk.c, Wk.enc, Stt.c, Stt.enc, a4w, ams, wls, pts, sls, gts, I8, frs, vts, bls, sb, ints, List.map_nil] at h1 h2 h3 h4 h5 ⊢
  (repeat first | refine uA ?_ | (refine uK ?_ ?_; focus first | omega | (intros; simp_all <;> omega)) | simp (disch := omega) only [go_sem, Nat.reduceBEq, Nat.reduceAdd, ww, decide_true] | (refine uB h4 ?_ ?_; exact rfl) | (refine uD h1 ?_ ?_ ?_; exact tz hw; exact rfl) | (refine uD h2 ?_ ?_ ?_; exact tz hw; exact rfl) | (refine uD h3 ?_ ?_ ?_; exact tz hw; exact rfl) | (refine uE h5 ?_ ?_ ?_ ?_; exact tz hw; exact rfl; focus (repeat' first | exact p8.nil | exact Imp.refl rfl | exact Imp.a1I | exact Imp.fbx rfl rfl (p8.refl rfl) rfl rfl | refine Imp.clo ?_ | exact Imp.frz rfl rfl rfl | (refine Imp.P6 rfl rfl ?_ ?_; (focus ((try simp only [List.length_append, decide_true]); omega)); (focus first | rfl | assumption)) | refine Imp.agg ?_ | refine p8.cons ?_ ?_); done))
  exact S.done (d9.out rfl (Imp.refl rfl) rfl)
def V5 (u : Nat) : List UInt8 := if u < 128 then [UInt8.ofNat u] else UInt8.ofNat (u % 128 + 128) :: V5 (u / 128)
theorem a2P {u : Nat} (h : u < 128) : V5 u = [UInt8.ofNat u] := by unfold V5; rw [if_pos h]
theorem a1X {u : Nat} (h : ¬ u < 128) : V5 u = UInt8.ofNat (u % 128 + 128) :: V5 (u / 128) := by rw [V5, if_neg h]
def a5R (n : Int) : List UInt8 := V5 (IntKind.u64.wrap n).toNat
def a0W (b : Bool) : List UInt8 := if b then [1] else [0]
def a3H (l : List UInt8) : List UInt8 := V5 l.length ++ l
def R8 (a : Nm.Rt) : List UInt8 := a0W a.neg ++ (a3H a.num ++ a3H a.den)
def a3w (v : Vt) : List UInt8 := R8 v.x ++ R8 v.y
def frB (f : Fr) : List UInt8 := (R8 f.x ++ R8 f.y) ++ (a0W f.half ++ R8 f.t)
def J2 {α : Type} (f : α -> List UInt8) (l : List α) : List UInt8 := V5 l.length ++ l.flatMap f
def a4p (x : Ast) : List UInt8 := J2 R8 x.q ++ (J2 R8 x.v ++ (a0W x.power ++ a5R (IntKind.i64.wrap (x.holds + 1))))
def a0F (s : Stt) : List UInt8 := a5R s.tick ++ (J2 a4p s.arms ++ (J2 frB s.parts ++ (J2 a3w s.people ++ J2 a0W s.gates)))
def Once {α : Type} (D : α -> Prop) (f : α -> List UInt8) : Prop := ∀ x y, D x -> D y -> ∀ r s, f x ++ r = f y ++ s -> x = y /\ r = s
def All {α : Type} : α -> Prop := fun _ => True
theorem a9I {a b : Nat} (ha : a < 256) (hb : b < 256) (h : UInt8.ofNat a = UInt8.ofNat b) : a = b := by
  have := congrArg UInt8.toNat h
  simp only [UInt8.toNat_ofNat'] at this
  omega
theorem a8T : Once All V5 := by
  intro x
  induction x using Nat.strongRecOn with
  | _ x ih =>
    intro y _ _ r s h
    by_cases hx : x < 128 <;> by_cases hy : y < 128
    · rw [a2P hx, a2P hy] at h
      injection h with h1 h2
      exact ⟨a9I (by omega) (by omega) h1, h2⟩
    · rw [a2P hx, a1X hy] at h
      injection h with h1 h2
      have := a9I (by omega) (by omega) h1
      omega
    · rw [a1X hx, a2P hy] at h
      injection h with h1 h2
      have := a9I (by omega) (by omega) h1
      omega
    · rw [a1X hx, a1X hy] at h
      injection h with h1 h2
      have h3 := a9I (by omega) (by omega) h1
      obtain ⟨h4, h5⟩ := ih (x / 128) (by omega) (y / 128) trivial trivial r s h2
      exact ⟨by omega, h5⟩
theorem a4Q : Once All a0W := by
  intro x y _ _ r s h
  cases x <;> cases y <;> simp [a0W] at h <;> simp_all
theorem b1t : Once All a3H := by
  intro x y _ _ r s h
  unfold a3H at h
  rw [List.append_assoc, List.append_assoc] at h
  obtain ⟨h1, h2⟩ := a8T _ _ trivial trivial _ _ h
  exact List.append_inj h2 h1
theorem a1R : Once All R8 := by
  intro x y _ _ r s h
  obtain ⟨a, b, c⟩ := x
  obtain ⟨a', b', c'⟩ := y
  simp only [R8, List.append_assoc] at h
  obtain ⟨h1, h2⟩ := a4Q _ _ trivial trivial _ _ h
  obtain ⟨h3, h4⟩ := b1t _ _ trivial trivial _ _ h2
  obtain ⟨h5, h6⟩ := b1t _ _ trivial trivial _ _ h4
  subst h1 h3 h5
  exact ⟨rfl, h6⟩
theorem b9t : Once All a3w := by
  intro x y _ _ r s h
  obtain ⟨a, b⟩ := x
  obtain ⟨a', b'⟩ := y
  simp only [a3w, List.append_assoc] at h
  obtain ⟨h1, h2⟩ := a1R _ _ trivial trivial _ _ h
  obtain ⟨h3, h4⟩ := a1R _ _ trivial trivial _ _ h2
  subst h1 h3
  exact ⟨rfl, h4⟩
theorem c1n : Once All frB := by
  intro x y _ _ r s h
  obtain ⟨a, b, c, d⟩ := x
  obtain ⟨a', b', c', d'⟩ := y
  simp only [frB, List.append_assoc] at h
  obtain ⟨h1, h2⟩ := a1R _ _ trivial trivial _ _ h
  obtain ⟨h3, h4⟩ := a1R _ _ trivial trivial _ _ h2
  obtain ⟨h5, h6⟩ := a4Q _ _ trivial trivial _ _ h4
  obtain ⟨h7, h8⟩ := a1R _ _ trivial trivial _ _ h6
  subst h1 h3 h5 h7
  exact ⟨rfl, h8⟩
theorem b1m {α : Type} {D : α -> Prop} {f : α -> List UInt8} (hf : Once D f) : ∀ (l m : List α), (∀ x ∈ l, D x) -> (∀ x ∈ m, D x) -> l.length = m.length -> ∀ r s, l.flatMap f ++ r = m.flatMap f ++ s -> l = m /\ r = s
  | [], [], _, _, _, r, s, h => ⟨rfl, h⟩
  | [], _ :: _, _, _, hl, _, _, _ => by simp at hl
  | _ :: _, [], _, _, hl, _, _, _ => by simp at hl
  | x :: l, y :: m, h1, h2, hl, r, s, h => by
    rw [List.flatMap_cons, List.flatMap_cons, List.append_assoc, List.append_assoc] at h
    obtain ⟨h3, h4⟩ := hf x y (h1 x (by simp)) (h2 y (by simp)) _ _ h
    obtain ⟨h5, h6⟩ := b1m hf l m (fun z hz => h1 z (by simp [hz])) (fun z hz => h2 z (by simp [hz])) (by simpa using hl) r s h4
    exact ⟨by rw [h3, h5], h6⟩
theorem a1W {α : Type} {D : α -> Prop} {f : α -> List UInt8} (hf : Once D f) : Once (fun l => ∀ x ∈ l, D x) (J2 f) := by
  intro l m hl hm r s h
  unfold J2 at h
  rw [List.append_assoc, List.append_assoc] at h
  obtain ⟨h1, h2⟩ := a8T _ _ trivial trivial _ _ h
  exact b1m hf l m hl hm h1 r s h2
def R64 (n : Int) : Prop := -9223372036854775808 <= n /\ n <= 9223372036854775807
theorem a7t (n : Int) : IntKind.u64.wrap n = n % 18446744073709551616 := by simp [IntKind.wrap, IntKind.signed, IntKind.bits]
theorem b2C (n : Int) : IntKind.i64.wrap n = if n % 18446744073709551616 >= 9223372036854775808 then n % 18446744073709551616 - 18446744073709551616 else n % 18446744073709551616 := by simp [IntKind.wrap, IntKind.signed, IntKind.bits]
theorem b2o : Once R64 a5R := by
  intro x y hx hy r s h
  obtain ⟨h1, h2⟩ := a8T _ _ trivial trivial _ _ h
  rw [a7t, a7t] at h1
  unfold R64 at hx hy
  exact ⟨by omega, h2⟩
def Aok (x : Ast) : Prop := R64 x.holds
def Sok (s : Stt) : Prop := R64 s.tick /\ ∀ x ∈ s.arms, Aok x
theorem a0M {α : Type} (l : List α) : ∀ x ∈ l, All x := fun _ _ => trivial
theorem c0n (n : Int) : R64 (IntKind.i64.wrap n) := by
  unfold R64
  rw [b2C]; split <;> omega
theorem b4m (u : Nat) : ∀ n, u < 128 ^ n -> 0 < n -> (V5 u).length <= n := by
  induction u using V5.induct with
  | case1 u h => intro n _ hn; rw [a2P h]; simp; omega
  | case2 u h ih =>
    intro n hu hn
    rw [a1X h]
    cases n with
    | zero => omega
    | succ n =>
      cases n with
      | zero => simp at hu; omega
      | succ n =>
        have := ih (n + 1) (by rw [Nat.pow_succ] at hu; omega) (by omega)
        simpa using this
theorem b2X (u : Nat) (h : u < 18446744073709551616) : (V5 u).length <= 10 := b4m u 10 (Nat.lt_of_lt_of_le h (by decide)) (by decide)
theorem b9N (n : Int) : (a5R n).length <= 10 := b2X _ (by rw [a7t]; omega)
theorem b9K : Once Aok a4p := by
  intro x y hx hy r s h
  obtain ⟨a, b, c, d⟩ := x
  obtain ⟨a', b', c', d'⟩ := y
  simp only [a4p, List.append_assoc] at h
  obtain ⟨h1, h2⟩ := a1W a1R _ _ (a0M _) (a0M _) _ _ h
  obtain ⟨h3, h4⟩ := a1W a1R _ _ (a0M _) (a0M _) _ _ h2
  obtain ⟨h5, h6⟩ := a4Q _ _ trivial trivial _ _ h4
  obtain ⟨h7, h8⟩ := b2o _ _ (c0n _) (c0n _) _ _ h6
  have h9 : d = d' := by
    unfold Aok R64 at hx hy
    rw [b2C, b2C] at h7
    simp only at hx hy
    split at h7 <;> split at h7 <;> omega
  subst h1 h3 h5 h9
  exact ⟨rfl, h8⟩
theorem b9z {x y : Stt} (hx : Sok x) (hy : Sok y) (h : a0F x = a0F y) : x = y := by
  obtain ⟨a, b, c, d, e⟩ := x
  obtain ⟨a', b', c', d', e'⟩ := y
  simp only [a0F] at h
  obtain ⟨h1, h2⟩ := b2o _ _ hx.1 hy.1 _ _ h
  obtain ⟨h3, h4⟩ := a1W b9K _ _ hx.2 hy.2 _ _ h2
  obtain ⟨h5, h6⟩ := a1W c1n _ _ (a0M _) (a0M _) _ _ h4
  obtain ⟨h7, h8⟩ := a1W b9t _ _ (a0M _) (a0M _) _ _ h6
  have h9 : J2 a0W e ++ [] = J2 a0W e' ++ [] := by rw [List.append_nil, List.append_nil]; exact h8
  obtain ⟨h10, _⟩ := a1W a4Q _ _ (a0M _) (a0M _) _ _ h9
  simp only at h1 h3 h5 h7
  subst h1 h3 h5 h7 h10
  rfl
set_option maxRecDepth 10000
set_option maxHeartbeats 4000000
theorem a2I {n : Nat} (h : n < 18446744073709551616) : a5R (n : Int) = V5 n := by
  unfold a5R
  rw [a7t, show ((n : Int) % 18446744073709551616).toNat = n by omega]
theorem b7t (n : Int) : IntKind.u8.wrap n = n % 256 := by simp [IntKind.wrap, IntKind.signed, IntKind.bits]
theorem c2b (u : Nat) (h : u < 128) : IntKind.u8.wrap (u : Int) = ((UInt8.ofNat u).toNat : Int) := by
  rw [b7t, UInt8.toNat_ofNat']
  omega
theorem c3w (u : Nat) (h : u < 18446744073709551616) : IntKind.u8.wrap (Go.bits .or .u64 (Go.bits .and .u64 (u : Int) 127) 128) = ((UInt8.ofNat (u % 128 + 128)).toNat : Int) := by
  have h1 : Go.bits .and .u64 (u : Int) 127 = ((u % 128 : Nat) : Int) := by
    have := bits_and_u64_nat u 127 h (by omega)
    rw [show (127 : Nat) = 2 ^ 7 - 1 from rfl, Nat.and_two_pow_sub_one_eq_mod] at this
    exact this
  have h2 : Go.bits .or .u64 ((u % 128 : Nat) : Int) 128 = ((u % 128 + 128 : Nat) : Int) := by
    have := bits_or_u64_nat (u % 128) 128 (by omega) (by omega)
    have h3 : u % 128 ||| 128 = u % 128 + 128 := by
      have := Nat.two_pow_add_eq_or_of_lt (i := 7) (b := u % 128) (by omega) 1
      simp at this
      rw [Nat.or_comm, <- this]
      omega
    rw [h3] at this
    exact this
  rw [h1, h2, b7t, UInt8.toNat_ofNat']
  omega
theorem b8U {u : Nat} : ((u : Int).fdiv 128) = ((u / 128 : Nat) : Int) := by
  rw [Int.fdiv_eq_ediv_of_nonneg _ (by omega)]
  omega
theorem b8F (x : UInt8) : V8 [[C.v (.int .u8 (x.toNat : Int))]] = some [x] := Q0 [x]
theorem a3T {α β : Type} (f : α -> List β) {l : List α} {i : Nat} (h : i < l.length) : (l.take (i + 1)).flatMap f = (l.take i).flatMap f ++ f l[i] := by
  rw [List.take_succ_eq_append_getElem h, List.flatMap_append]
  simp
theorem a5I {α β : Type} (f : α -> List β) {l : List α} {i : Nat} (h : i < l.length) : ((l.take i).flatMap f).length + (f l[i]).length <= (l.flatMap f).length := by
  have := a3T f h
  have h2 : l.flatMap f = (l.take (i + 1)).flatMap f ++ (l.drop (i + 1)).flatMap f := by rw [<- List.flatMap_append, List.take_append_drop]
  rw [h2, this]
  simp only [List.length_append]
  omega
theorem c2f {α β : Type} (f : α -> List β) {l : List α} {z : α} (h : z ∈ l) : (f z).length <= (l.flatMap f).length := by
  obtain ⟨i, hi, rfl⟩ := List.getElem_of_mem h
  have := a5I f hi
  omega
theorem a3o {α : Type} (f : α -> List UInt8) {l : List α} {z : α} (h : z ∈ l) {m : Nat} (hm : (J2 f l).length <= m) : (f z).length <= m := by
  have := c2f f h
  unfold J2 at hm
  rw [List.length_append] at hm
  omega
theorem a3r (n : Int) : l7 Tryz.prog 124 [ints n] (sb (a5R n)) := by
  refine l7.of (eff := eff) Tryz.func124 (by conv => { lhs; cbv }) (by exact Nat.le_of_ble_eq_true rfl) fun w O => ?_
  simp only [l6, ints]
  have hu0 : 0 <= IntKind.u64.wrap n /\ IntKind.u64.wrap n < 18446744073709551616 := by rw [a7t]; omega
  have hint : a5R n = V5 (IntKind.u64.wrap n).toNat := rfl
  rw [hint]
  obtain ⟨u0, hu⟩ : ∃ u0 : Nat, IntKind.u64.wrap n = (u0 : Int) := ⟨(IntKind.u64.wrap n).toNat, by omega⟩
  rw [hu] at hu0 ⊢
  rw [Int.toNat_natCast]
  have hl0 := b2X u0 (by omega)
  (repeat first | refine uA ?_ | (apply S.exit; exact rfl) | (refine uK ?_ ?_; focus first | omega | trivial | exact id | (intros; simp_all <;> omega)) | simp (disch := omega) only [go_sem, Nat.reduceBEq, Nat.reduceAdd, Nat.reduceLeDiff, Int.reduceToNat, Int.reducePow, ww, hu])
  refine S.loop (X := Nat × List UInt8) (fun p => ⟨[(3, sb p.2), (4, .v (.int .u64 p.1))], []⟩)
    (fun p => V5 u0 = p.2 ++ V5 p.1 /\ p.1 < 18446744073709551616) (fun p => p.1) (u0, []) ⟨rfl, by simp only; omega⟩ (by (repeat first | refine uA ?_ | (refine ⟨?_, ?_⟩; focus first | rfl | trivial | (simp [slot]; done)) | rfl | trivial | simp)) ?_
  rintro ⟨u, done⟩ ⟨hxs, hlt⟩
  simp only [sb] at hxs hlt ⊢
  have hlen : done.length + (V5 u).length <= 10 := by
    have := congrArg List.length hxs
    simp at this
    omega
  (repeat first | refine uA ?_ | (apply S.exit; exact rfl) | (refine uK ?_ ?_; focus first | omega | trivial | exact id | (intros; simp_all <;> omega)) | simp (disch := omega) only [go_sem, Nat.reduceBEq, Nat.reduceAdd, Nat.reduceLeDiff, Int.reduceToNat, Int.reducePow, ww])
  (refine uJ rfl (fun hc => ?_) fun hc => ?_)
  · have hge : u < 128 := by omega
    rw [a2P hge] at hxs
    (repeat first | refine uA ?_ | (apply S.exit; exact rfl) | (refine uK ?_ ?_; focus first | omega | trivial | exact id | (intros; simp_all <;> omega)) | simp (disch := omega) only [go_sem, Nat.reduceBEq, Nat.reduceAdd, Nat.reduceLeDiff, Int.reduceToNat, Int.reducePow, ww, b8F, a2t, w9, Z5, c2b u hge, List.length_cons, List.length_nil])
    rw [hxs]
    exact S.done (d9.out rfl (Imp.refl rfl) rfl)
  · have hge : ¬ u < 128 := by omega
    rw [a1X hge] at hxs
    have hg1 := a1X hge
    rw [hg1, List.length_cons] at hlen
    (repeat first | refine uA ?_ | (apply S.exit; exact rfl) | (refine uK ?_ ?_; focus first | omega | trivial | exact id | (intros; simp_all <;> omega)) | simp (disch := omega) only [go_sem, Nat.reduceBEq, Nat.reduceAdd, Nat.reduceLeDiff, Int.reduceToNat, Int.reducePow, ww, b8F, a2t, w9, Z5, c3w u hlt, b8U, List.length_cons, List.length_nil])
    refine S.next (x := (u, done)) (u / 128, done ++ [UInt8.ofNat (u % 128 + 128)]) ⟨by rw [hxs]; simp, by simp only; omega⟩ (by simp only; omega) (by (repeat first | refine uA ?_ | (refine ⟨?_, ?_⟩; focus first | rfl | trivial | (simp [slot]; done)) | rfl | trivial | simp))
theorem a6n (b : Bool) : l7 Tryz.prog 203 [.v (.bool b)] (sb (a0W b)) := by
  refine l7.of a7X a7Y (by exact Nat.le_of_ble_eq_true rfl) fun w O => ?_
  simp only [a3z, l6, TT, II, OA, OB, OC, MM, LL, VV, FF, MG, LG, VG, FG]
  (repeat first | refine uA ?_ | (apply S.exit; exact rfl) | (refine uK ?_ ?_; focus first | omega | trivial | exact id | (intros; simp_all <;> omega)) | simp (disch := omega) only [go_sem, Nat.reduceBEq, Nat.reduceAdd, Nat.reduceLeDiff, Int.reduceToNat, Int.reducePow, ww])
  refine S.cond rfl (fun hc => ?_) (fun hc => ?_)
  · subst hc
    (repeat first | refine uA ?_ | (apply S.exit; exact rfl) | (refine uK ?_ ?_; focus first | omega | trivial | exact id | (intros; simp_all <;> omega)) | simp (disch := omega) only [go_sem, Nat.reduceBEq, Nat.reduceAdd, Nat.reduceLeDiff, Int.reduceToNat, Int.reducePow, ww])
    exact S.done (d9.out rfl (Imp.refl rfl) rfl)
  · subst hc
    (repeat first | refine uA ?_ | (apply S.exit; exact rfl) | (refine uK ?_ ?_; focus first | omega | trivial | exact id | (intros; simp_all <;> omega)) | simp (disch := omega) only [go_sem, Nat.reduceBEq, Nat.reduceAdd, Nat.reduceLeDiff, Int.reduceToNat, Int.reducePow, ww])
    exact S.done (d9.out rfl (Imp.refl rfl) rfl)
theorem b4H (s : List UInt8) (hl : (a3H s).length <= 140737488355328) : l7 Tryz.prog 108 [sb s] (sb (a3H s)) := by
  refine l7.of a8K a8H (by exact Nat.le_of_ble_eq_true rfl) fun w O => ?_
  unfold a3H at hl ⊢
  rw [List.length_append] at hl
  have h1 := a3r s.length
  rw [a2I (by omega)] at h1
  simp only [a4B, l6, TT, II, OA, OB, OC, MM, LL, VV, FF, MG, LG, VG, FG]
  simp only [sb, ints] at *
  (repeat first | refine uA ?_ | (apply S.exit; exact rfl) | (refine uK ?_ ?_; focus first | omega | trivial | exact id | (intros; simp_all <;> omega)) | simp (disch := omega) only [go_sem, Nat.reduceBEq, Nat.reduceAdd, Nat.reduceLeDiff, Int.reduceToNat, Int.reducePow, ww, w9, Z5, List.length_append] | (refine uB h1 ?_ ?_; exact rfl))
  exact S.done (d9.out rfl (Imp.refl rfl) rfl)
theorem a3m (a : Nm.Rt) (hl : (R8 a).length <= 140737488355328) : l7 Tryz.prog 104 [rc a] (sb (R8 a)) := by
  refine l7.of a7h a6M (by exact Nat.le_of_ble_eq_true rfl) fun w O => ?_
  unfold R8 at hl ⊢
  simp only [List.length_append] at hl
  have h1 := a6n a.neg
  have h2 := b4H a.num (by omega)
  have h3 := b4H a.den (by omega)
  simp only [a3l, l6, TT, II, OA, OB, OC, MM, LL, VV, FF, MG, LG, VG, FG]
  simp only [rc, sb] at *
  (repeat first | refine uA ?_ | (apply S.exit; exact rfl) | (refine uK ?_ ?_; focus first | omega | trivial | exact id | (intros; simp_all <;> omega)) | simp (disch := omega) only [go_sem, Nat.reduceBEq, Nat.reduceAdd, Nat.reduceLeDiff, Int.reduceToNat, Int.reducePow, ww, w9, Z5, List.length_append, List.append_assoc] | (refine uB h1 ?_ ?_; exact rfl) | (refine uB h2 ?_ ?_; exact rfl) | (refine uB h3 ?_ ?_; exact rfl))
  exact S.done (d9.out rfl (Imp.refl rfl) rfl)
theorem b2N (v : Vt) (hl : (a3w v).length <= 140737488355328) : l7 Tryz.prog 118 [v.c] (sb (a3w v)) := by
  refine l7.of a8a a7T (by exact Nat.le_of_ble_eq_true rfl) fun w O => ?_
  unfold a3w at hl ⊢
  simp only [List.length_append] at hl
  have h1 := a3m v.x (by omega)
  have h2 := a3m v.y (by omega)
  generalize R8 v.x = r1 at *
  generalize R8 v.y = r2 at *
  simp only [a3y, l6, TT, II, OA, OB, OC, MM, LL, VV, FF, MG, LG, VG, FG]
  simp only [Vt.c, Vt.enc, rc, sb] at *
  (repeat first | refine uA ?_ | (apply S.exit; exact rfl) | (refine uK ?_ ?_; focus first | omega | trivial | exact id | (intros; simp_all <;> omega)) | simp (disch := omega) only [go_sem, Nat.reduceBEq, Nat.reduceAdd, Nat.reduceLeDiff, Int.reduceToNat, Int.reducePow, ww, w9, Z5, List.length_append] | (refine uB h1 ?_ ?_; exact rfl) | (refine uB h2 ?_ ?_; exact rfl))
  exact S.done (d9.out rfl (Imp.refl rfl) rfl)
theorem b7s (f : Fr) (hl : (frB f).length <= 140737488355328) : l7 Tryz.prog 109 [f.c] (sb (frB f)) := by
  refine l7.of a6V a7o (by exact Nat.le_of_ble_eq_true rfl) fun w O => ?_
  unfold frB at hl ⊢
  simp only [List.length_append] at hl
  have h1 := b2N ⟨f.x, f.y⟩ (show (R8 f.x ++ R8 f.y).length <= _ by rw [List.length_append]; omega)
  have h2 := a6n f.half
  have h3 := a3m f.t (by omega)
  unfold a3w at h1
  generalize R8 f.x = r1 at *
  generalize R8 f.y = r2 at *
  generalize R8 f.t = r3 at *
  simp only [a3t, l6, TT, II, OA, OB, OC, MM, LL, VV, FF, MG, LG, VG, FG]
  simp only [Fr.c, Fr.enc, Vt.c, Vt.enc, rc, sb] at *
  (repeat first | refine uA ?_ | (apply S.exit; exact rfl) | (refine uK ?_ ?_; focus first | omega | trivial | exact id | (intros; simp_all <;> omega)) | simp (disch := omega) only [go_sem, Nat.reduceBEq, Nat.reduceAdd, Nat.reduceLeDiff, Int.reduceToNat, Int.reducePow, ww, w9, Z5, List.length_append, List.append_assoc] | (refine uB h1 ?_ ?_; exact rfl) | (refine uB h2 ?_ ?_; exact rfl) | (refine uB h3 ?_ ?_; exact rfl))
  exact S.done (d9.out rfl (Imp.refl rfl) rfl)
theorem a8j (g : Nat) (hcal : callable Tryz.prog g = true) (f : Nm.Rt -> List UInt8) (l : List Nm.Rt) (hl : (J2 f l).length <= 140737488355328) (hn : l.length <= 1099511627776) (hg : ∀ x ∈ l, l7 Tryz.prog g [rc x] (sb (f x))) :
    l7 Tryz.prog 125 [rts l, .v (.func (.func g) #[] #[])] (sb (J2 f l)) := by
  refine l7.of (eff := eff) Tryz.func125 (by conv => { lhs; cbv }) (by exact Nat.le_of_ble_eq_true rfl) fun w O => ?_
  unfold J2 at hl ⊢
  rw [List.length_append] at hl
  have h1 := a3r l.length
  rw [a2I (by omega)] at h1
  simp only [l6, rts]
  simp only [sb, ints] at h1 hg ⊢
  generalize V5 l.length = d at *
  (repeat first | refine uA ?_ | (apply S.exit; exact rfl) | (refine uK ?_ ?_; focus first | omega | trivial | exact id | (intros; simp_all <;> omega)) | simp (disch := omega) only [go_sem, Nat.reduceBEq, Nat.reduceAdd, Nat.reduceLeDiff, Int.reduceToNat, Int.reducePow, ww, List.length_map] | (refine uB h1 ?_ ?_; exact rfl))
  refine S.loop (X := Nat) (fun i => ⟨[(1, .v (.func (.func g) #[] #[])), (5, sb (d ++ (l.take i).flatMap f)), (11, rts l), (12, ints l.length), (13, ints i)], []⟩)
    (fun i => i <= l.length) (fun i => l.length - i) 0 (Nat.zero_le _) (by simp only [List.take_zero, List.flatMap_nil, List.append_nil]; exact (by (repeat first | refine uA ?_ | (refine ⟨?_, ?_⟩; focus first | rfl | trivial | (simp [slot]; done)) | rfl | trivial | simp))) ?_
  intro i hi
  simp only [rts, sb, ints] at hi ⊢
  (repeat first | refine uA ?_ | (apply S.exit; exact rfl) | (refine uK ?_ ?_; focus first | omega | trivial | exact id | (intros; simp_all <;> omega)) | simp (disch := omega) only [go_sem, Nat.reduceBEq, Nat.reduceAdd, Nat.reduceLeDiff, Int.reduceToNat, Int.reducePow, ww])
  (refine uJ rfl (fun hc => ?_) fun hc => ?_)
  · have hi' : i < l.length := by omega
    have hgi := List.getElem?_eq_getElem hi'
    have hfm := a3T f hi'
    have hle := a5I f hi'
    generalize l[i] = x at hgi hfm hle
    have hs := hg x (List.mem_of_getElem? hgi)
    (try simp only [rc, rcs, sb] at hs)
    (repeat first | refine uA ?_ | (apply S.exit; exact rfl) | (refine uK ?_ ?_; focus first | omega | trivial | exact id | (intros; simp_all <;> omega)) | simp (disch := omega) only [go_sem, Nat.reduceBEq, Nat.reduceAdd, Nat.reduceLeDiff, Int.reduceToNat, Int.reducePow, ww, hgi, Option.map_some, List.length_map, rc, rcs, sb, Int.toNat_natCast, hcal, w9, Z5, List.length_append, List.append_assoc] | (refine uB hs ?_ ?_; exact rfl))
    refine S.next (i + 1) (by omega) (by omega) (by rw [hfm]; exact (by (repeat first | refine uA ?_ | (refine ⟨?_, ?_⟩; focus first | rfl | trivial | (simp [slot]; done)) | rfl | trivial | simp)))
  · have hi' : i = l.length := by omega
    subst hi'
    rw [List.take_length]
    (repeat first | refine uA ?_ | (apply S.exit; exact rfl) | (refine uK ?_ ?_; focus first | omega | trivial | exact id | (intros; simp_all <;> omega)) | simp (disch := omega) only [go_sem, Nat.reduceBEq, Nat.reduceAdd, Nat.reduceLeDiff, Int.reduceToNat, Int.reducePow, ww])
    exact S.done (d9.out rfl (Imp.refl rfl) rfl)
theorem b4j (g : Nat) (hcal : callable Tryz.prog g = true) (f : Ast -> List UInt8) (l : List Ast) (hl : (J2 f l).length <= 140737488355328) (hn : l.length <= 1099511627776) (hg : ∀ x ∈ l, l7 Tryz.prog g [x.c] (sb (f x))) :
    l7 Tryz.prog 206 [I8 l, .v (.func (.func g) #[] #[])] (sb (J2 f l)) := by
  refine l7.of (eff := eff) Tryz.func206 (by conv => { lhs; cbv }) (by exact Nat.le_of_ble_eq_true rfl) fun w O => ?_
  unfold J2 at hl ⊢
  rw [List.length_append] at hl
  have h1 := a3r l.length
  rw [a2I (by omega)] at h1
  simp only [l6, I8]
  simp only [sb, ints] at h1 hg ⊢
  generalize V5 l.length = d at *
  (repeat first | refine uA ?_ | (apply S.exit; exact rfl) | (refine uK ?_ ?_; focus first | omega | trivial | exact id | (intros; simp_all <;> omega)) | simp (disch := omega) only [go_sem, Nat.reduceBEq, Nat.reduceAdd, Nat.reduceLeDiff, Int.reduceToNat, Int.reducePow, ww, List.length_map] | (refine uB h1 ?_ ?_; exact rfl))
  refine S.loop (X := Nat) (fun i => ⟨[(1, .v (.func (.func g) #[] #[])), (5, sb (d ++ (l.take i).flatMap f)), (11, I8 l), (12, ints l.length), (13, ints i)], []⟩)
    (fun i => i <= l.length) (fun i => l.length - i) 0 (Nat.zero_le _) (by simp only [List.take_zero, List.flatMap_nil, List.append_nil]; exact (by (repeat first | refine uA ?_ | (refine ⟨?_, ?_⟩; focus first | rfl | trivial | (simp [slot]; done)) | rfl | trivial | simp))) ?_
  intro i hi
  simp only [I8, sb, ints] at hi ⊢
  (repeat first | refine uA ?_ | (apply S.exit; exact rfl) | (refine uK ?_ ?_; focus first | omega | trivial | exact id | (intros; simp_all <;> omega)) | simp (disch := omega) only [go_sem, Nat.reduceBEq, Nat.reduceAdd, Nat.reduceLeDiff, Int.reduceToNat, Int.reducePow, ww])
  (refine uJ rfl (fun hc => ?_) fun hc => ?_)
  · have hi' : i < l.length := by omega
    have hgi := List.getElem?_eq_getElem hi'
    have hfm := a3T f hi'
    have hle := a5I f hi'
    generalize l[i] = x at hgi hfm hle
    have hs := hg x (List.mem_of_getElem? hgi)
    (try simp only [Ast.c, Ast.enc, rts, sb, ints] at hs)
    (repeat first | refine uA ?_ | (apply S.exit; exact rfl) | (refine uK ?_ ?_; focus first | omega | trivial | exact id | (intros; simp_all <;> omega)) | simp (disch := omega) only [go_sem, Nat.reduceBEq, Nat.reduceAdd, Nat.reduceLeDiff, Int.reduceToNat, Int.reducePow, ww, hgi, Option.map_some, List.length_map, Ast.c, Ast.enc, rts, sb, ints, Int.toNat_natCast, hcal, w9, Z5, List.length_append, List.append_assoc] | (refine uB hs ?_ ?_; exact rfl))
    refine S.next (i + 1) (by omega) (by omega) (by rw [hfm]; exact (by (repeat first | refine uA ?_ | (refine ⟨?_, ?_⟩; focus first | rfl | trivial | (simp [slot]; done)) | rfl | trivial | simp)))
  · have hi' : i = l.length := by omega
    subst hi'
    rw [List.take_length]
    (repeat first | refine uA ?_ | (apply S.exit; exact rfl) | (refine uK ?_ ?_; focus first | omega | trivial | exact id | (intros; simp_all <;> omega)) | simp (disch := omega) only [go_sem, Nat.reduceBEq, Nat.reduceAdd, Nat.reduceLeDiff, Int.reduceToNat, Int.reducePow, ww])
    exact S.done (d9.out rfl (Imp.refl rfl) rfl)
theorem b5K (g : Nat) (hcal : callable Tryz.prog g = true) (f : Fr -> List UInt8) (l : List Fr) (hl : (J2 f l).length <= 140737488355328) (hn : l.length <= 1099511627776) (hg : ∀ x ∈ l, l7 Tryz.prog g [x.c] (sb (f x))) :
    l7 Tryz.prog 207 [frs l, .v (.func (.func g) #[] #[])] (sb (J2 f l)) := by
  refine l7.of (eff := eff) Tryz.func207 (by conv => { lhs; cbv }) (by exact Nat.le_of_ble_eq_true rfl) fun w O => ?_
  unfold J2 at hl ⊢
  rw [List.length_append] at hl
  have h1 := a3r l.length
  rw [a2I (by omega)] at h1
  simp only [l6, frs]
  simp only [sb, ints] at h1 hg ⊢
  generalize V5 l.length = d at *
  (repeat first | refine uA ?_ | (apply S.exit; exact rfl) | (refine uK ?_ ?_; focus first | omega | trivial | exact id | (intros; simp_all <;> omega)) | simp (disch := omega) only [go_sem, Nat.reduceBEq, Nat.reduceAdd, Nat.reduceLeDiff, Int.reduceToNat, Int.reducePow, ww, List.length_map] | (refine uB h1 ?_ ?_; exact rfl))
  refine S.loop (X := Nat) (fun i => ⟨[(1, .v (.func (.func g) #[] #[])), (5, sb (d ++ (l.take i).flatMap f)), (11, frs l), (12, ints l.length), (13, ints i)], []⟩)
    (fun i => i <= l.length) (fun i => l.length - i) 0 (Nat.zero_le _) (by simp only [List.take_zero, List.flatMap_nil, List.append_nil]; exact (by (repeat first | refine uA ?_ | (refine ⟨?_, ?_⟩; focus first | rfl | trivial | (simp [slot]; done)) | rfl | trivial | simp))) ?_
  intro i hi
  simp only [frs, sb, ints] at hi ⊢
  (repeat first | refine uA ?_ | (apply S.exit; exact rfl) | (refine uK ?_ ?_; focus first | omega | trivial | exact id | (intros; simp_all <;> omega)) | simp (disch := omega) only [go_sem, Nat.reduceBEq, Nat.reduceAdd, Nat.reduceLeDiff, Int.reduceToNat, Int.reducePow, ww])
  (refine uJ rfl (fun hc => ?_) fun hc => ?_)
  · have hi' : i < l.length := by omega
    have hgi := List.getElem?_eq_getElem hi'
    have hfm := a3T f hi'
    have hle := a5I f hi'
    generalize l[i] = x at hgi hfm hle
    have hs := hg x (List.mem_of_getElem? hgi)
    (try simp only [Fr.c, Fr.enc, sb] at hs)
    (repeat first | refine uA ?_ | (apply S.exit; exact rfl) | (refine uK ?_ ?_; focus first | omega | trivial | exact id | (intros; simp_all <;> omega)) | simp (disch := omega) only [go_sem, Nat.reduceBEq, Nat.reduceAdd, Nat.reduceLeDiff, Int.reduceToNat, Int.reducePow, ww, hgi, Option.map_some, List.length_map, Fr.c, Fr.enc, sb, Int.toNat_natCast, hcal, w9, Z5, List.length_append, List.append_assoc] | (refine uB hs ?_ ?_; exact rfl))
    refine S.next (i + 1) (by omega) (by omega) (by rw [hfm]; exact (by (repeat first | refine uA ?_ | (refine ⟨?_, ?_⟩; focus first | rfl | trivial | (simp [slot]; done)) | rfl | trivial | simp)))
  · have hi' : i = l.length := by omega
    subst hi'
    rw [List.take_length]
    (repeat first | refine uA ?_ | (apply S.exit; exact rfl) | (refine uK ?_ ?_; focus first | omega | trivial | exact id | (intros; simp_all <;> omega)) | simp (disch := omega) only [go_sem, Nat.reduceBEq, Nat.reduceAdd, Nat.reduceLeDiff, Int.reduceToNat, Int.reducePow, ww])
    exact S.done (d9.out rfl (Imp.refl rfl) rfl)
theorem b4f (g : Nat) (hcal : callable Tryz.prog g = true) (f : Vt -> List UInt8) (l : List Vt) (hl : (J2 f l).length <= 140737488355328) (hn : l.length <= 1099511627776) (hg : ∀ x ∈ l, l7 Tryz.prog g [x.c] (sb (f x))) :
    l7 Tryz.prog 204 [vts l, .v (.func (.func g) #[] #[])] (sb (J2 f l)) := by
  refine l7.of (eff := eff) Tryz.func204 (by conv => { lhs; cbv }) (by exact Nat.le_of_ble_eq_true rfl) fun w O => ?_
  unfold J2 at hl ⊢
  rw [List.length_append] at hl
  have h1 := a3r l.length
  rw [a2I (by omega)] at h1
  simp only [l6, vts]
  simp only [sb, ints] at h1 hg ⊢
  generalize V5 l.length = d at *
  (repeat first | refine uA ?_ | (apply S.exit; exact rfl) | (refine uK ?_ ?_; focus first | omega | trivial | exact id | (intros; simp_all <;> omega)) | simp (disch := omega) only [go_sem, Nat.reduceBEq, Nat.reduceAdd, Nat.reduceLeDiff, Int.reduceToNat, Int.reducePow, ww, List.length_map] | (refine uB h1 ?_ ?_; exact rfl))
  refine S.loop (X := Nat) (fun i => ⟨[(1, .v (.func (.func g) #[] #[])), (5, sb (d ++ (l.take i).flatMap f)), (11, vts l), (12, ints l.length), (13, ints i)], []⟩)
    (fun i => i <= l.length) (fun i => l.length - i) 0 (Nat.zero_le _) (by simp only [List.take_zero, List.flatMap_nil, List.append_nil]; exact (by (repeat first | refine uA ?_ | (refine ⟨?_, ?_⟩; focus first | rfl | trivial | (simp [slot]; done)) | rfl | trivial | simp))) ?_
  intro i hi
  simp only [vts, sb, ints] at hi ⊢
  (repeat first | refine uA ?_ | (apply S.exit; exact rfl) | (refine uK ?_ ?_; focus first | omega | trivial | exact id | (intros; simp_all <;> omega)) | simp (disch := omega) only [go_sem, Nat.reduceBEq, Nat.reduceAdd, Nat.reduceLeDiff, Int.reduceToNat, Int.reducePow, ww])
  (refine uJ rfl (fun hc => ?_) fun hc => ?_)
  · have hi' : i < l.length := by omega
    have hgi := List.getElem?_eq_getElem hi'
    have hfm := a3T f hi'
    have hle := a5I f hi'
    generalize l[i] = x at hgi hfm hle
    have hs := hg x (List.mem_of_getElem? hgi)
    (try simp only [Vt.c, Vt.enc, sb] at hs)
    (repeat first | refine uA ?_ | (apply S.exit; exact rfl) | (refine uK ?_ ?_; focus first | omega | trivial | exact id | (intros; simp_all <;> omega)) | simp (disch := omega) only [go_sem, Nat.reduceBEq, Nat.reduceAdd, Nat.reduceLeDiff, Int.reduceToNat, Int.reducePow, ww, hgi, Option.map_some, List.length_map, Vt.c, Vt.enc, sb, Int.toNat_natCast, hcal, w9, Z5, List.length_append, List.append_assoc] | (refine uB hs ?_ ?_; exact rfl))
    refine S.next (i + 1) (by omega) (by omega) (by rw [hfm]; exact (by (repeat first | refine uA ?_ | (refine ⟨?_, ?_⟩; focus first | rfl | trivial | (simp [slot]; done)) | rfl | trivial | simp)))
  · have hi' : i = l.length := by omega
    subst hi'
    rw [List.take_length]
    (repeat first | refine uA ?_ | (apply S.exit; exact rfl) | (refine uK ?_ ?_; focus first | omega | trivial | exact id | (intros; simp_all <;> omega)) | simp (disch := omega) only [go_sem, Nat.reduceBEq, Nat.reduceAdd, Nat.reduceLeDiff, Int.reduceToNat, Int.reducePow, ww])
    exact S.done (d9.out rfl (Imp.refl rfl) rfl)
theorem b2i (g : Nat) (hcal : callable Tryz.prog g = true) (f : Bool -> List UInt8) (l : List Bool) (hl : (J2 f l).length <= 140737488355328) (hn : l.length <= 1099511627776) (hg : ∀ x ∈ l, l7 Tryz.prog g [.v (.bool x)] (sb (f x))) :
    l7 Tryz.prog 208 [bls l, .v (.func (.func g) #[] #[])] (sb (J2 f l)) := by
  refine l7.of (eff := eff) Tryz.func208 (by conv => { lhs; cbv }) (by exact Nat.le_of_ble_eq_true rfl) fun w O => ?_
  unfold J2 at hl ⊢
  rw [List.length_append] at hl
  have h1 := a3r l.length
  rw [a2I (by omega)] at h1
  simp only [l6, bls]
  simp only [sb, ints] at h1 hg ⊢
  generalize V5 l.length = d at *
  (repeat first | refine uA ?_ | (apply S.exit; exact rfl) | (refine uK ?_ ?_; focus first | omega | trivial | exact id | (intros; simp_all <;> omega)) | simp (disch := omega) only [go_sem, Nat.reduceBEq, Nat.reduceAdd, Nat.reduceLeDiff, Int.reduceToNat, Int.reducePow, ww, List.length_map] | (refine uB h1 ?_ ?_; exact rfl))
  refine S.loop (X := Nat) (fun i => ⟨[(1, .v (.func (.func g) #[] #[])), (5, sb (d ++ (l.take i).flatMap f)), (11, bls l), (12, ints l.length), (13, ints i)], []⟩)
    (fun i => i <= l.length) (fun i => l.length - i) 0 (Nat.zero_le _) (by simp only [List.take_zero, List.flatMap_nil, List.append_nil]; exact (by (repeat first | refine uA ?_ | (refine ⟨?_, ?_⟩; focus first | rfl | trivial | (simp [slot]; done)) | rfl | trivial | simp))) ?_
  intro i hi
  simp only [bls, sb, ints] at hi ⊢
  (repeat first | refine uA ?_ | (apply S.exit; exact rfl) | (refine uK ?_ ?_; focus first | omega | trivial | exact id | (intros; simp_all <;> omega)) | simp (disch := omega) only [go_sem, Nat.reduceBEq, Nat.reduceAdd, Nat.reduceLeDiff, Int.reduceToNat, Int.reducePow, ww])
  (refine uJ rfl (fun hc => ?_) fun hc => ?_)
  · have hi' : i < l.length := by omega
    have hgi := List.getElem?_eq_getElem hi'
    have hfm := a3T f hi'
    have hle := a5I f hi'
    generalize l[i] = x at hgi hfm hle
    have hs := hg x (List.mem_of_getElem? hgi)
    (try simp only [sb] at hs)
    (repeat first | refine uA ?_ | (apply S.exit; exact rfl) | (refine uK ?_ ?_; focus first | omega | trivial | exact id | (intros; simp_all <;> omega)) | simp (disch := omega) only [go_sem, Nat.reduceBEq, Nat.reduceAdd, Nat.reduceLeDiff, Int.reduceToNat, Int.reducePow, ww, hgi, Option.map_some, List.length_map, sb, Int.toNat_natCast, hcal, w9, Z5, List.length_append, List.append_assoc] | (refine uB hs ?_ ?_; exact rfl))
    refine S.next (i + 1) (by omega) (by omega) (by rw [hfm]; exact (by (repeat first | refine uA ?_ | (refine ⟨?_, ?_⟩; focus first | rfl | trivial | (simp [slot]; done)) | rfl | trivial | simp)))
  · have hi' : i = l.length := by omega
    subst hi'
    rw [List.take_length]
    (repeat first | refine uA ?_ | (apply S.exit; exact rfl) | (refine uK ?_ ?_; focus first | omega | trivial | exact id | (intros; simp_all <;> omega)) | simp (disch := omega) only [go_sem, Nat.reduceBEq, Nat.reduceAdd, Nat.reduceLeDiff, Int.reduceToNat, Int.reducePow, ww])
    exact S.done (d9.out rfl (Imp.refl rfl) rfl)
theorem c2B (x : Ast) (hl : (a4p x).length <= 140737488355328) (hq : Rbs 1073741824 x.q) (hv : Rbs 1073741824 x.v) : l7 Tryz.prog 205 [x.c] (sb (a4p x)) := by
  refine l7.of a6D a6E (by exact Nat.le_of_ble_eq_true rfl) fun w O => ?_
  unfold a4p at hl ⊢
  simp only [List.length_append] at hl
  have n1 := hq.1
  have n2 := hv.1
  have h1 := a8j 104 (by kernel_rfl) R8 x.q (by omega) (by omega) (fun z hz => a3m z (a3o R8 hz (by omega)))
  have h2 := a8j 104 (by kernel_rfl) R8 x.v (by omega) (by omega) (fun z hz => a3m z (a3o R8 hz (by omega)))
  have h3 := a6n x.power
  have h4 := a3r (IntKind.i64.wrap (x.holds + 1))
  obtain ⟨q, v, power, holds⟩ := x
  generalize J2 R8 q = r1 at *
  generalize J2 R8 v = r2 at *
  generalize a0W power = r3 at *
  simp only [a2A, l6, TT, II, OA, OB, OC, MM, LL, VV, FF, MG, LG, VG, FG]
  simp only [Ast.c, Ast.enc, rts, sb, ints] at h1 h2 h3 h4 hl n1 n2 ⊢
  (repeat first | refine uA ?_ | (apply S.exit; exact rfl) | (refine uK ?_ ?_; focus first | omega | trivial | exact id | (intros; simp_all <;> omega)) | simp (disch := omega) only [go_sem, Nat.reduceBEq, Nat.reduceAdd, Nat.reduceLeDiff, Int.reduceToNat, Int.reducePow, ww, w9, Z5, List.length_append, List.append_assoc] | (refine uB h1 ?_ ?_; exact rfl) | (refine uB h2 ?_ ?_; exact rfl) | (refine uB h3 ?_ ?_; exact rfl) | (refine uB h4 ?_ ?_; exact rfl))
  exact S.done (d9.out rfl (Imp.refl rfl) rfl)
theorem b3v (s : Stt) (hs : Stb 1073741824 s) (hl : (a0F s).length <= 140737488355328) : l7 Tryz.prog 119 [s.c] (sb (a0F s)) := by
  refine l7.of (eff := eff) Tryz.func119 (by conv => { lhs; cbv }) (by exact Nat.le_of_ble_eq_true rfl) fun w O => ?_
  unfold a0F at hl ⊢
  simp only [List.length_append] at hl
  have n1 := hs.arms.1
  have n2 := hs.parts.1
  have n3 := hs.people.1
  have n4 := hs.gates
  have h1 := a3r s.tick
  have h2 := b4j 205 (by kernel_rfl) a4p s.arms (by omega) (by omega) (fun z hz => c2B z (a3o a4p hz (by omega)) (hs.arms.2 z hz).1 (hs.arms.2 z hz).2)
  have h3 := b5K 109 (by kernel_rfl) frB s.parts (by omega) (by omega) (fun z hz => b7s z (a3o frB hz (by omega)))
  have h4 := b4f 118 (by kernel_rfl) a3w s.people (by omega) (by omega) (fun z hz => b2N z (a3o a3w hz (by omega)))
  have h5 := b2i 203 (by kernel_rfl) a0W s.gates (by omega) (by omega) (fun z _ => a6n z)
  obtain ⟨tick, arms, parts, people, gates⟩ := s
  generalize J2 a4p arms = r2 at *
  generalize J2 frB parts = r3 at *
  generalize J2 a3w people = r4 at *
  generalize J2 a0W gates = r5 at *
  simp only [l6]
  simp only [Stt.c, Stt.enc, I8, frs, vts, bls, sb, ints] at h1 h2 h3 h4 h5 hl ⊢
  (repeat first | refine uA ?_ | (apply S.exit; exact rfl) | (refine uK ?_ ?_; focus first | omega | trivial | exact id | (intros; simp_all <;> omega)) | simp (disch := omega) only [go_sem, Nat.reduceBEq, Nat.reduceAdd, Nat.reduceLeDiff, Int.reduceToNat, Int.reducePow, ww, w9, Z5, List.length_append, List.append_assoc] | (refine uB h1 ?_ ?_; exact rfl) | (refine uB h2 ?_ ?_; exact rfl) | (refine uB h3 ?_ ?_; exact rfl) | (refine uB h4 ?_ ?_; exact rfl) | (refine uB h5 ?_ ?_; exact rfl))
  exact S.done (d9.out rfl (Imp.refl rfl) rfl)
theorem a8r (s t : Stt) (hs : Stb 1073741824 s) (ht : Stb 1073741824 t) (hl : (a0F s).length <= 140737488355328) (hm : (a0F t).length <= 140737488355328) : l7 Tryz.prog 41 [s.c, t.c] (.v (.bool (decide (a0F s = a0F t)))) := by
  refine l7.of a5M a5J (by exact Nat.le_of_ble_eq_true rfl) fun w O => ?_
  have h1 := b3v s hs hl
  have h2 := b3v t ht hm
  generalize a0F s = r1 at *
  generalize a0F t = r2 at *
  simp only [a2d, l6, TT, II, OA, OB, OC, MM, LL, VV, FF, MG, LG, VG, FG]
  simp only [Stt.c, Stt.enc, sb] at *
  (repeat first | refine uA ?_ | (apply S.exit; exact rfl) | (refine uK ?_ ?_; focus first | omega | trivial | exact id | (intros; simp_all <;> omega)) | simp (disch := omega) only [go_sem, Nat.reduceBEq, Nat.reduceAdd, Nat.reduceLeDiff, Int.reduceToNat, Int.reducePow, ww, a1q] | (refine uB h1 ?_ ?_; exact rfl) | (refine uB h2 ?_ ?_; exact rfl))
  exact S.done (d9.out rfl (Imp.refl rfl) rfl)
set_option maxRecDepth 100000
set_option maxHeartbeats 16000000
theorem c2j (a b c d e v : Int) : (if F4 id [a, b, c, d, e] ≠ 0 then F4 id [a, b, c, d, e] else v) = if a ≠ 0 then a else if b ≠ 0 then b else if c ≠ 0 then c else if d ≠ 0 then d else if e ≠ 0 then e else v := by
  simp only [F4, id]
  by_cases ha : a = 0 <;> by_cases hb : b = 0 <;> by_cases hc : c = 0 <;> by_cases hd : d = 0 <;> by_cases he : e = 0 <;> simp [ha, hb, hc, hd, he]
theorem b5o {k : Nat} {a : Nm.Rt} (h : 1 <= k) (h1 : Rb k a) : Rbs k [a] := ⟨h, fun x hx => by simp at hx; subst hx; exact h1⟩
theorem b9F {k : Nat} {a b c d : Nm.Rt} (h : 4 <= k) (h1 : Rb k a) (h2 : Rb k b) (h3 : Rb k c) (h4 : Rb k d) : Rbs k [a, b, c, d] := ⟨h, fun x hx => by simp at hx; rcases hx with rfl | rfl | rfl | rfl <;> assumption⟩
theorem walk_eq (a : Nm.Rt) : a7K a = if ([a].all j4 = false \/ A8 (Nm.j3 a) = -1) then 1 else 0 := by
  have h1 : (decide a.F3 && j4 a) = [a].all j4 := by rw [<- W9]; simp
  have h2 := b7n (Nm.j3 a)
  unfold a7K
  rw [h1]
  generalize [a].all j4 = q
  have := b3i (Nm.j3 a)
  cases q
  · simp
  · by_cases h : 0 <= A8 (Nm.j3 a)
    · rw [if_pos (by simpa using h), if_neg (by simp; omega)]
    · rw [if_neg (by simpa using h), if_pos (by right; omega)]
theorem c0U (s : Sl) : (okF s.frame && decide s.within.F3 && j4 s.within && decide (0 < A8 (Nm.j3 s.within))) = !(!okF s.frame || !([s.within].all j4) || decide (A8 (Nm.j3 s.within) < 1)) := by
  have h1 : (okF s.frame && decide s.within.F3 && j4 s.within) = (okF s.frame && [s.within].all j4) := by
    rw [Bool.and_assoc, <- W9]; simp
  rw [h1, sign_one]
  cases okF s.frame <;> cases [s.within].all j4 <;> cases decide (0 < A8 (Nm.j3 s.within)) <;> rfl
theorem c1r (g : Gt) : (okV g.low && okV g.high && decide (Nm.E5 (Nm.j3 g.low.x) (Nm.j3 g.high.x) <= 0) && decide (Nm.E5 (Nm.j3 g.low.y) (Nm.j3 g.high.y) <= 0)) = !(!([g.low.x, g.low.y, g.high.x, g.high.y].all j4) || decide (Nm.E5 (Nm.j3 g.low.x) (Nm.j3 g.high.x) = 1) || decide (Nm.E5 (Nm.j3 g.low.y) (Nm.j3 g.high.y) = 1)) := by
  have h1 : (okV g.low && okV g.high) = [g.low.x, g.low.y, g.high.x, g.high.y].all j4 := by
    rw [b3H, b3H]; simp [Bool.and_assoc]
  rw [h1, b5b, b5b]
  cases [g.low.x, g.low.y, g.high.x, g.high.y].all j4 <;> cases decide (Nm.E5 (Nm.j3 g.low.x) (Nm.j3 g.high.x) <= 0) <;> cases decide (Nm.E5 (Nm.j3 g.low.y) (Nm.j3 g.high.y) <= 0) <;> rfl
theorem c1x (n : Nms) (a : Am) : V3 n a = if N8 a ≠ 0 then (N8 a, n) else F8 n a.name := rfl
theorem b9d (n : Nms) (p : Pt) : R9 n p = if (F8 n p.name).1 ≠ 0 then F8 n p.name else if G6 p.shape ≠ 0 then (G6 p.shape, (F8 n p.name).2) else (if okF p.X5 then 0 else 1, (F8 n p.name).2) := rfl
theorem b9e (n : Nms) (s : Sl) : P5 n s = if (F8 n s.name).1 ≠ 0 then F8 n s.name else (if okF s.frame && decide s.within.F3 && j4 s.within && decide (0 < A8 (Nm.j3 s.within)) then 0 else 1, (F8 n s.name).2) := rfl
theorem b9m (n : Nms) (g : Gt) : U8 n g = if (F8 n g.name).1 ≠ 0 then F8 n g.name else (if okV g.low && okV g.high && decide (Nm.E5 (Nm.j3 g.low.x) (Nm.j3 g.high.x) <= 0) && decide (Nm.E5 (Nm.j3 g.low.y) (Nm.j3 g.high.y) <= 0) then 0 else 1, (F8 n g.name).2) := rfl
theorem b3d (w : Wk) (hb : Wb 1073741824 w) : FZ 24 [w.c] (ints (I9 w)) := by
  refine q9.of (eff := eff) Tryz.func24 (by conv => { lhs; cbv }) (by exact Nat.le_of_ble_eq_true rfl) fun w' O hw => ?_
  have hcal : callable Tryz.prog 98 = true := by kernel_rfl
  obtain ⟨⟨n1, b1⟩, ⟨n2, b2⟩, ⟨n3, b3⟩, ⟨n4, b4⟩, ⟨n5, b5⟩, b6⟩ := hb
  have hnm := fun (E : Ctx) (hP : E.P = Tryz.prog) (n : Nms) (s : List UInt8) (hs : s.length <= 1099511627776) (hn : n.length <= 1000000) => c1j hP w n s hs hn
  have h6 := a4l _ (b5o (by decide) (b6.mono (m := 17179869184) (by decide)))
  have h7 := O3 w.walk (b6.mono (by decide))
  unfold I9 a1y
  generalize hr1 : r9 V3 [] w.arms = r1
  obtain ⟨e1, m1⟩ := r1
  simp only
  generalize hr3 : r9 R9 m1 w.parts = r3
  obtain ⟨e3, m3⟩ := r3
  simp only
  generalize hr4 : r9 P5 m3 w.slots = r4
  obtain ⟨e4, m4⟩ := r4
  simp only
  generalize hr5 : r9 U8 m4 w.gates = r5
  obtain ⟨e5, m5⟩ := r5
  simp only
  generalize hr2 : F4 G6 w.walls = e2
  rw [c2j, walk_eq]
  generalize [w.walk].all j4 = q6 at *
  generalize A8 (Nm.j3 w.walk) = s7 at *
  obtain ⟨arms, walls, parts, slots, gates, walk⟩ := w
  simp only at n1 n2 n3 n4 n5 b1 b2 b3 b4 b5 hr1 hr2 hr3 hr4 hr5 ⊢
  simp only [l6]
  simp only [Wk.c, Wk.enc, rsR, ams, wls, pts, sls, gts, rts, rcs, rc, sb, ints, List.map_cons, List.map_nil] at hnm h6 h7 ⊢
  (repeat first | refine uA ?_ | (refine uK ?_ ?_; focus first | omega | (intros; simp_all <;> omega)) | simp (disch := omega) only [go_sem, Nat.reduceBEq, Nat.reduceAdd, ww, List.length_map])
  refine S.cond rfl (fun hc => ?_) (fun hc => ?_)
  · rw [if_pos (by simp only [Bool.or_eq_true, decide_eq_true_eq] at hc; omega)]
    (repeat first | refine uA ?_ | (refine uK ?_ ?_; focus first | omega | (intros; simp_all <;> omega)) | simp (disch := omega) only [go_sem, Nat.reduceBEq, Nat.reduceAdd, ww])
    exact S.done (d9.out rfl (Imp.refl rfl) rfl)
  rw [if_neg (by simp only [Bool.or_eq_false_iff, decide_eq_false_iff_not] at hc; omega)]
  simp only [Bool.or_eq_false_iff, decide_eq_false_iff_not] at hc
  (repeat first | refine uA ?_ | (refine uK ?_ ?_; focus first | omega | (intros; simp_all <;> omega)) | simp (disch := omega) only [go_sem, Nat.reduceBEq, Nat.reduceAdd, ww, List.length_map])
  refine S.cond rfl (fun hc => ?_) (fun hc => ?_)
  · rw [if_pos (by simp only [decide_eq_true_eq] at hc; omega)]
    (repeat first | refine uA ?_ | (refine uK ?_ ?_; focus first | omega | (intros; simp_all <;> omega)) | simp (disch := omega) only [go_sem, Nat.reduceBEq, Nat.reduceAdd, ww])
    exact S.done (d9.out rfl (Imp.refl rfl) rfl)
  rw [if_neg (by simp only [decide_eq_false_iff_not] at hc; omega)]
  (repeat first | refine uA ?_ | (refine uK ?_ ?_; focus first | omega | (intros; simp_all <;> omega)) | simp (disch := omega) only [go_sem, Nat.reduceBEq, Nat.reduceAdd, ww, List.length_map])
  refine S.loop (X := Nat × Nms) (fun x => ⟨[(1, .bp 0 0), (4, .clo 98 [.bp 1 0]), (58, ams arms), (59, ints arms.length), (60, ints x.1)], [.box 31 [ams arms, wls walls, pts parts, sls slots, gts gates, .v (.bool walk.neg), sb walk.num, sb walk.den], .box 153 [.rv 2], .row 9 1 (nmR x.2)]⟩)
    (fun x => x.1 <= arms.length /\ x.2.length <= x.1 /\ (e1, m1) = r9 V3 x.2 (arms.drop x.1)) (fun x => arms.length - x.1) (0, []) ⟨Nat.zero_le _, Nat.le_refl _, hr1.symm⟩ (Ent.trans (Ent.a0n 1 0 9 1 rfl rfl rfl) (by (repeat first | refine uA ?_ | (refine ⟨?_, ?_⟩; focus first | rfl | simp [slot]) | rfl | simp))) ?_
  rintro ⟨i, m⟩ ⟨hi, hml, hg⟩
  simp only [ams, wls, pts, sls, gts, sb, ints] at hi hml hg ⊢
  (repeat first | refine uA ?_ | (refine uK ?_ ?_; focus first | omega | (intros; simp_all <;> omega)) | simp (disch := omega) only [go_sem, Nat.reduceBEq, Nat.reduceAdd, ww])
  (refine uJ rfl (fun hc => ?_) fun hc => ?_)
  · have hgi := List.getElem?_eq_getElem (show i < arms.length by omega)
    generalize arms[i]'(_) = x at hgi
    have hx := b1 x (List.mem_of_getElem? hgi)
    have hst := U1 (f := V3) (s := m) hgi
    have hnx := U2 (f := V3) (s := m) hgi
    have o1 := b2V x hx
    have o2 := fun (E : Ctx) (hP : E.P = Tryz.prog) => hnm E hP m x.name (by have := hx.1; omega) (by omega)
    have hal := a5T m x.name
    rw [c1x] at hst hnx
    generalize N8 x = a1 at *
    generalize F8 m x.name = r at *
    obtain ⟨a2, m'⟩ := r
    simp only [Am.c, Am.enc, lks, sb] at o1 o2 hal hst hnx
    (repeat first | refine uG o1 ?_ | refine uA ?_ | (refine uK ?_ ?_; focus first | omega | (intros; simp_all <;> omega)) | simp (disch := omega) only [go_sem, Nat.reduceBEq, Nat.reduceAdd, ww, hgi, Option.map_some, List.length_map, Am.enc, lks, sb, Int.toNat_natCast] | (refine uD o1 ?_ ?_ ?_; exact tz hw; exact rfl))
    refine S.cond rfl (fun hc2 => ?_) (fun hc2 => ?_)
    · have h0 : a1 ≠ 0 := by simpa using hc2
      rw [if_pos h0] at hst
      rw [hst h0] at hg
      injection hg with g1 g2
      rw [if_pos (by rw [g1]; exact h0), g1]
      (repeat first | refine uA ?_ | (refine uK ?_ ?_; focus first | omega | (intros; simp_all <;> omega)) | simp (disch := omega) only [go_sem, Nat.reduceBEq, Nat.reduceAdd, ww])
      exact S.done (d9.out rfl (Imp.refl rfl) rfl)
    have h0 : ¬ a1 ≠ 0 := by simpa using hc2
    rw [if_neg h0] at hst hnx
    simp only at hst hnx
    (repeat first | refine uA ?_ | (refine uK ?_ ?_; focus first | omega | (intros; simp_all <;> omega)) | simp (disch := omega) only [go_sem, Nat.reduceBEq, Nat.reduceAdd, ww, hcal, List.map_cons, List.map_nil] | refine l9.t (j6.b6A _ (o2 _ rfl) rfl rfl rfl) ?_)
    refine S.cond rfl (fun hc3 => ?_) (fun hc3 => ?_)
    · have h1 : a2 ≠ 0 := by simpa using hc3
      rw [hst h1] at hg
      injection hg with g1 g2
      rw [if_pos (by rw [g1]; exact h1), g1]
      (repeat first | refine uA ?_ | (refine uK ?_ ?_; focus first | omega | (intros; simp_all <;> omega)) | simp (disch := omega) only [go_sem, Nat.reduceBEq, Nat.reduceAdd, ww])
      exact S.done (d9.out rfl (Imp.refl rfl) rfl)
    · have h1 : a2 = 0 := by simpa using hc3
      (repeat first | refine uA ?_ | (refine uK ?_ ?_; focus first | omega | (intros; simp_all <;> omega)) | simp (disch := omega) only [go_sem, Nat.reduceBEq, Nat.reduceAdd, ww])
      refine S.next (x := (i, m)) (i + 1, m') ⟨by simp only; omega, by simp only; omega, by simp only; rw [hg]; exact hnx h1⟩ (by simp only; omega) (by (repeat first | refine uA ?_ | (refine ⟨?_, ?_⟩; focus first | rfl | simp [slot]) | rfl | simp))
  rw [X6 (by omega)] at hg
  injection hg with g1 g2
  subst g1 g2
  rw [if_neg (show ¬ (0 : Int) ≠ 0 by simp)]
  have hm1 : m1.length <= 4 := by omega
  clear hr1 b1 hml hi
  (repeat first | refine uA ?_ | (refine uK ?_ ?_; focus first | omega | (intros; simp_all <;> omega)) | simp (disch := omega) only [go_sem, Nat.reduceBEq, Nat.reduceAdd, ww, List.length_map])
  refine S.loop (X := Nat) (fun i => ⟨[(1, .bp 0 0), (4, .clo 98 [.bp 1 0]), (78, wls walls), (79, ints walls.length), (80, ints i)], [.box 31 [ams arms, wls walls, pts parts, sls slots, gts gates, .v (.bool walk.neg), sb walk.num, sb walk.den], .box 153 [.rv 2], .row 9 1 (nmR m1)]⟩)
    (fun i => i <= walls.length /\ e2 = F4 G6 (walls.drop i)) (fun i => walls.length - i) 0 ⟨Nat.zero_le _, hr2.symm⟩ (by (repeat first | refine uA ?_ | (refine ⟨?_, ?_⟩; focus first | rfl | simp [slot]) | rfl | simp)) ?_
  rintro j ⟨hj, hg⟩
  simp only [ams, wls, pts, sls, gts, sb, ints] at hj hg ⊢
  (repeat first | refine uA ?_ | (refine uK ?_ ?_; focus first | omega | (intros; simp_all <;> omega)) | simp (disch := omega) only [go_sem, Nat.reduceBEq, Nat.reduceAdd, ww])
  (refine uJ rfl (fun hc => ?_) fun hc => ?_)
  · have hgi := List.getElem?_eq_getElem (show j < walls.length by omega)
    generalize walls[j]'(_) = x at hgi
    have hx := b2 x (List.mem_of_getElem? hgi)
    have hst := a0f (f := G6) hgi
    have hnx := a0k (f := G6) hgi
    have o1 := b3L x hx
    generalize G6 x = a1 at *
    simp only [vts] at o1
    (repeat first | refine uG o1 ?_ | refine uA ?_ | (refine uK ?_ ?_; focus first | omega | (intros; simp_all <;> omega)) | simp (disch := omega) only [go_sem, Nat.reduceBEq, Nat.reduceAdd, ww, hgi, Option.map_some, List.length_map, vts, Int.toNat_natCast] | (refine uD o1 ?_ ?_ ?_; exact tz hw; exact rfl))
    refine S.cond rfl (fun hc2 => ?_) (fun hc2 => ?_)
    · have h0 : a1 ≠ 0 := by simpa using hc2
      rw [hst h0] at hg
      rw [if_pos (by rw [hg]; exact h0), hg]
      (repeat first | refine uA ?_ | (refine uK ?_ ?_; focus first | omega | (intros; simp_all <;> omega)) | simp (disch := omega) only [go_sem, Nat.reduceBEq, Nat.reduceAdd, ww])
      exact S.done (d9.out rfl (Imp.refl rfl) rfl)
    · have h0 : a1 = 0 := by simpa using hc2
      (repeat first | refine uA ?_ | (refine uK ?_ ?_; focus first | omega | (intros; simp_all <;> omega)) | simp (disch := omega) only [go_sem, Nat.reduceBEq, Nat.reduceAdd, ww])
      refine S.next (j + 1) ⟨by omega, by rw [hg]; exact hnx h0⟩ (by omega) (by (repeat first | refine uA ?_ | (refine ⟨?_, ?_⟩; focus first | rfl | simp [slot]) | rfl | simp))
  rw [a0H (by omega)] at hg
  subst hg
  rw [if_neg (show ¬ (0 : Int) ≠ 0 by simp)]
  clear hr2 b2 hj
  (repeat first | refine uA ?_ | (refine uK ?_ ?_; focus first | omega | (intros; simp_all <;> omega)) | simp (disch := omega) only [go_sem, Nat.reduceBEq, Nat.reduceAdd, ww, List.length_map])
  refine S.loop (X := Nat × Nms) (fun x => ⟨[(1, .bp 0 0), (4, .clo 98 [.bp 1 0]), (91, pts parts), (92, ints parts.length), (93, ints x.1)], [.box 31 [ams arms, wls walls, pts parts, sls slots, gts gates, .v (.bool walk.neg), sb walk.num, sb walk.den], .box 153 [.rv 2], .row 9 1 (nmR x.2)]⟩)
    (fun x => x.1 <= parts.length /\ x.2.length <= 4 + x.1 /\ (e3, m3) = r9 R9 x.2 (parts.drop x.1)) (fun x => parts.length - x.1) (0, m1) ⟨Nat.zero_le _, hm1, hr3.symm⟩ (by (repeat first | refine uA ?_ | (refine ⟨?_, ?_⟩; focus first | rfl | simp [slot]) | rfl | simp)) ?_
  rintro ⟨k, m⟩ ⟨hk, hml, hg⟩
  simp only [ams, wls, pts, sls, gts, sb, ints] at hk hml hg ⊢
  (repeat first | refine uA ?_ | (refine uK ?_ ?_; focus first | omega | (intros; simp_all <;> omega)) | simp (disch := omega) only [go_sem, Nat.reduceBEq, Nat.reduceAdd, ww])
  (refine uJ rfl (fun hc => ?_) fun hc => ?_)
  · have hgi := List.getElem?_eq_getElem (show k < parts.length by omega)
    generalize parts[k]'(_) = x at hgi
    have hx := b3 x (List.mem_of_getElem? hgi)
    have hst := U1 (f := R9) (s := m) hgi
    have hnx := U2 (f := R9) (s := m) hgi
    have o1 := b3L x.shape hx.2.1
    have o3 := b2D x.X5 ⟨hx.2.2.1.mono (by decide), hx.2.2.2.1.mono (by decide), hx.2.2.2.2.mono (by decide)⟩
    have o2 := fun (E : Ctx) (hP : E.P = Tryz.prog) => hnm E hP m x.name (by have := hx.1; omega) (by omega)
    have hal := a5T m x.name
    rw [b9d] at hst hnx
    generalize G6 x.shape = a1 at *
    generalize okF x.X5 = q at *
    generalize F8 m x.name = r at *
    obtain ⟨a2, m'⟩ := r
    obtain ⟨xn, xs, ⟨gx, gy, gh, gt⟩⟩ := x
    simp only [Fr.c, Fr.enc, vts, sb] at o1 o2 o3 hal hst hnx
    (repeat first | refine uA ?_ | (refine uK ?_ ?_; focus first | omega | (intros; simp_all <;> omega)) | simp (disch := omega) only [go_sem, Nat.reduceBEq, Nat.reduceAdd, ww, hgi, Option.map_some, List.length_map, Pt.enc, vts, sb, Int.toNat_natCast, hcal, List.map_cons, List.map_nil] | refine l9.t (j6.b6A _ (o2 _ rfl) rfl rfl rfl) ?_)
    refine S.cond rfl (fun hc2 => ?_) (fun hc2 => ?_)
    · have h0 : a2 ≠ 0 := by simpa using hc2
      rw [if_pos h0] at hst
      rw [hst h0] at hg
      injection hg with g1 g2
      rw [if_pos (by rw [g1]; exact h0), g1]
      (repeat first | refine uA ?_ | (refine uK ?_ ?_; focus first | omega | (intros; simp_all <;> omega)) | simp (disch := omega) only [go_sem, Nat.reduceBEq, Nat.reduceAdd, ww])
      exact S.done (d9.out rfl (Imp.refl rfl) rfl)
    have h0 : ¬ a2 ≠ 0 := by simpa using hc2
    rw [if_neg h0] at hst hnx
    (repeat first | refine uG o1 ?_ | refine uA ?_ | (refine uK ?_ ?_; focus first | omega | (intros; simp_all <;> omega)) | simp (disch := omega) only [go_sem, Nat.reduceBEq, Nat.reduceAdd, ww] | (refine uD o1 ?_ ?_ ?_; exact tz hw; exact rfl))
    refine S.cond rfl (fun hc3 => ?_) (fun hc3 => ?_)
    · have h1 : a1 ≠ 0 := by simpa using hc3
      rw [if_pos h1] at hst
      rw [hst h1] at hg
      injection hg with g1 g2
      rw [if_pos (by rw [g1]; exact h1), g1]
      (repeat first | refine uA ?_ | (refine uK ?_ ?_; focus first | omega | (intros; simp_all <;> omega)) | simp (disch := omega) only [go_sem, Nat.reduceBEq, Nat.reduceAdd, ww])
      exact S.done (d9.out rfl (Imp.refl rfl) rfl)
    have h1 : ¬ a1 ≠ 0 := by simpa using hc3
    rw [if_neg h1] at hst hnx
    (repeat first | refine uG o3 ?_ | refine uA ?_ | (refine uK ?_ ?_; focus first | omega | (intros; simp_all <;> omega)) | simp (disch := omega) only [go_sem, Nat.reduceBEq, Nat.reduceAdd, ww] | (refine uD o3 ?_ ?_ ?_; exact tz hw; exact rfl))
    refine S.cond rfl (fun hc4 => ?_) (fun hc4 => ?_)
    · have h2 : ¬ q = true := by simpa using hc4
      rw [if_neg h2] at hst
      rw [hst (show (1 : Int) ≠ 0 by decide)] at hg
      injection hg with g1 g2
      rw [if_pos (by rw [g1]; decide), g1]
      (repeat first | refine uA ?_ | (refine uK ?_ ?_; focus first | omega | (intros; simp_all <;> omega)) | simp (disch := omega) only [go_sem, Nat.reduceBEq, Nat.reduceAdd, ww])
      exact S.done (d9.out rfl (Imp.refl rfl) rfl)
    · have h2 : q = true := by simpa using hc4
      rw [if_pos h2] at hnx
      (repeat first | refine uA ?_ | (refine uK ?_ ?_; focus first | omega | (intros; simp_all <;> omega)) | simp (disch := omega) only [go_sem, Nat.reduceBEq, Nat.reduceAdd, ww])
      refine S.next (x := (k, m)) (k + 1, m') ⟨by simp only; omega, by simp only; omega, by simp only; rw [hg]; exact hnx rfl⟩ (by simp only; omega) (by (repeat first | refine uA ?_ | (refine ⟨?_, ?_⟩; focus first | rfl | simp [slot]) | rfl | simp))
  rw [X6 (by omega)] at hg
  injection hg with g1 g2
  subst g1 g2
  rw [if_neg (show ¬ (0 : Int) ≠ 0 by simp)]
  have hm3 : m3.length <= 10 := by omega
  clear hr3 b3 hml hk hm1
  (repeat first | refine uA ?_ | (refine uK ?_ ?_; focus first | omega | (intros; simp_all <;> omega)) | simp (disch := omega) only [go_sem, Nat.reduceBEq, Nat.reduceAdd, ww, List.length_map])
  refine S.loop (X := Nat × Nms) (fun x => ⟨[(1, .bp 0 0), (4, .clo 98 [.bp 1 0]), (116, sls slots), (117, ints slots.length), (118, ints x.1)], [.box 31 [ams arms, wls walls, pts parts, sls slots, gts gates, .v (.bool walk.neg), sb walk.num, sb walk.den], .box 153 [.rv 2], .row 9 1 (nmR x.2)]⟩)
    (fun x => x.1 <= slots.length /\ x.2.length <= 10 + x.1 /\ (e4, m4) = r9 P5 x.2 (slots.drop x.1)) (fun x => slots.length - x.1) (0, m3) ⟨Nat.zero_le _, hm3, hr4.symm⟩ (by (repeat first | refine uA ?_ | (refine ⟨?_, ?_⟩; focus first | rfl | simp [slot]) | rfl | simp)) ?_
  rintro ⟨k, m⟩ ⟨hk, hml, hg⟩
  simp only [ams, wls, pts, sls, gts, sb, ints] at hk hml hg ⊢
  (repeat first | refine uA ?_ | (refine uK ?_ ?_; focus first | omega | (intros; simp_all <;> omega)) | simp (disch := omega) only [go_sem, Nat.reduceBEq, Nat.reduceAdd, ww])
  (refine uJ rfl (fun hc => ?_) fun hc => ?_)
  · have hgi := List.getElem?_eq_getElem (show k < slots.length by omega)
    generalize slots[k]'(_) = x at hgi
    have hx := b4 x (List.mem_of_getElem? hgi)
    have hst := U1 (f := P5) (s := m) hgi
    have hnx := U2 (f := P5) (s := m) hgi
    have o1 := b2D x.frame ⟨hx.2.1.1.mono (by decide), hx.2.1.2.1.mono (by decide), hx.2.1.2.2.mono (by decide)⟩
    have o3 := a4l _ (b5o (by decide) (hx.2.2.mono (m := 17179869184) (by decide)))
    have o4 := O3 x.within (hx.2.2.mono (by decide))
    have o2 := fun (E : Ctx) (hP : E.P = Tryz.prog) => hnm E hP m x.name (by have := hx.1; omega) (by omega)
    have hal := a5T m x.name
    rw [b9e] at hst hnx
    rw [c0U] at hst hnx
    generalize okF x.frame = q1 at *
    generalize [x.within].all j4 = q2 at *
    generalize A8 (Nm.j3 x.within) = s3 at *
    generalize F8 m x.name = r at *
    obtain ⟨a2, m'⟩ := r
    obtain ⟨xn, ⟨gx, gy, gh, gt⟩, wi⟩ := x
    simp only [Fr.c, Fr.enc, rts, rcs, rc, sb, ints, List.map_cons, List.map_nil] at o1 o2 o3 o4 hal hst hnx
    (repeat first | refine uA ?_ | (refine uK ?_ ?_; focus first | omega | (intros; simp_all <;> omega)) | simp (disch := omega) only [go_sem, Nat.reduceBEq, Nat.reduceAdd, ww, hgi, Option.map_some, List.length_map, Sl.enc, sb, Int.toNat_natCast, hcal, List.map_cons, List.map_nil] | refine l9.t (j6.b6A _ (o2 _ rfl) rfl rfl rfl) ?_)
    refine S.cond rfl (fun hc2 => ?_) (fun hc2 => ?_)
    · have h0 : a2 ≠ 0 := by simpa using hc2
      rw [if_pos h0] at hst
      rw [hst h0] at hg
      injection hg with g1 g2
      rw [if_pos (by rw [g1]; exact h0), g1]
      (repeat first | refine uA ?_ | (refine uK ?_ ?_; focus first | omega | (intros; simp_all <;> omega)) | simp (disch := omega) only [go_sem, Nat.reduceBEq, Nat.reduceAdd, ww])
      exact S.done (d9.out rfl (Imp.refl rfl) rfl)
    have h0 : ¬ a2 ≠ 0 := by simpa using hc2
    rw [if_neg h0] at hst hnx
    cases q1
    · (repeat first | refine uG o1 ?_ | refine uG o4 ?_ | refine uG o3 ?_ | refine uA ?_ | (refine uK ?_ ?_; focus first | omega | (intros; simp_all <;> omega)) | simp (disch := omega) only [go_sem, Nat.reduceBEq, Nat.reduceAdd, ww] | (refine uD o1 ?_ ?_ ?_; exact tz hw; exact rfl) | (refine uD o4 ?_ ?_ ?_; exact tz hw; exact rfl) | (refine uE o3 ?_ ?_ ?_ ?_; exact tz hw; exact rfl; focus (repeat' first | exact p8.nil | exact Imp.refl rfl | exact Imp.frz rfl rfl rfl | (refine Imp.P6 rfl rfl ?_ ?_; (focus ((try simp only [List.length_append]); omega)); (focus first | rfl | assumption)) | refine p8.cons ?_ ?_); done))
      refine S.cond rfl (fun hc3 => ?_) (fun hc3 => by simp at hc3)
      rw [if_neg (by simp)] at hst
      rw [hst (show (1 : Int) ≠ 0 by decide)] at hg
      injection hg with g1 g2
      rw [if_pos (by rw [g1]; decide), g1]
      (repeat first | refine uA ?_ | (refine uK ?_ ?_; focus first | omega | (intros; simp_all <;> omega)) | simp (disch := omega) only [go_sem, Nat.reduceBEq, Nat.reduceAdd, ww])
      exact S.done (d9.out rfl (Imp.refl rfl) rfl)
    (repeat first | refine uG o1 ?_ | refine uG o4 ?_ | refine uG o3 ?_ | refine uA ?_ | (refine uK ?_ ?_; focus first | omega | (intros; simp_all <;> omega)) | simp (disch := omega) only [go_sem, Nat.reduceBEq, Nat.reduceAdd, ww] | (refine uD o1 ?_ ?_ ?_; exact tz hw; exact rfl) | (refine uD o4 ?_ ?_ ?_; exact tz hw; exact rfl) | (refine uE o3 ?_ ?_ ?_ ?_; exact tz hw; exact rfl; focus (repeat' first | exact p8.nil | exact Imp.refl rfl | exact Imp.frz rfl rfl rfl | (refine Imp.P6 rfl rfl ?_ ?_; (focus ((try simp only [List.length_append]); omega)); (focus first | rfl | assumption)) | refine p8.cons ?_ ?_); done))
    refine S.cond rfl (fun hc3 => ?_) (fun hc3 => ?_)
    · rw [if_neg (by simp; simp at hc3; rcases hc3 with h | h <;> simp [h])] at hst
      rw [hst (show (1 : Int) ≠ 0 by decide)] at hg
      injection hg with g1 g2
      rw [if_pos (by rw [g1]; decide), g1]
      (repeat first | refine uA ?_ | (refine uK ?_ ?_; focus first | omega | (intros; simp_all <;> omega)) | simp (disch := omega) only [go_sem, Nat.reduceBEq, Nat.reduceAdd, ww])
      exact S.done (d9.out rfl (Imp.refl rfl) rfl)
    · rw [if_pos (by simpa using hc3)] at hnx
      (repeat first | refine uA ?_ | (refine uK ?_ ?_; focus first | omega | (intros; simp_all <;> omega)) | simp (disch := omega) only [go_sem, Nat.reduceBEq, Nat.reduceAdd, ww])
      refine S.next (x := (k, m)) (k + 1, m') ⟨by simp only; omega, by simp only; omega, by simp only; rw [hg]; exact hnx rfl⟩ (by simp only; omega) (by (repeat first | refine uA ?_ | (refine ⟨?_, ?_⟩; focus first | rfl | simp [slot]) | rfl | simp))
  rw [X6 (by omega)] at hg
  injection hg with g1 g2
  subst g1 g2
  rw [if_neg (show ¬ (0 : Int) ≠ 0 by simp)]
  have hm4 : m4.length <= 18 := by omega
  clear hr4 b4 hml hk hm3
  (repeat first | refine uA ?_ | (refine uK ?_ ?_; focus first | omega | (intros; simp_all <;> omega)) | simp (disch := omega) only [go_sem, Nat.reduceBEq, Nat.reduceAdd, ww, List.length_map])
  refine S.loop (X := Nat × Nms) (fun x => ⟨[(1, .bp 0 0), (4, .clo 98 [.bp 1 0]), (148, gts gates), (149, ints gates.length), (150, ints x.1)], [.box 31 [ams arms, wls walls, pts parts, sls slots, gts gates, .v (.bool walk.neg), sb walk.num, sb walk.den], .box 153 [.rv 2], .row 9 1 (nmR x.2)]⟩)
    (fun x => x.1 <= gates.length /\ x.2.length <= 18 + x.1 /\ (e5, m5) = r9 U8 x.2 (gates.drop x.1)) (fun x => gates.length - x.1) (0, m4) ⟨Nat.zero_le _, hm4, hr5.symm⟩ (by (repeat first | refine uA ?_ | (refine ⟨?_, ?_⟩; focus first | rfl | simp [slot]) | rfl | simp)) ?_
  rintro ⟨k, m⟩ ⟨hk, hml, hg⟩
  simp only [ams, wls, pts, sls, gts, sb, ints] at hk hml hg ⊢
  (repeat first | refine uA ?_ | (refine uK ?_ ?_; focus first | omega | (intros; simp_all <;> omega)) | simp (disch := omega) only [go_sem, Nat.reduceBEq, Nat.reduceAdd, ww])
  (refine uJ rfl (fun hc => ?_) fun hc => ?_)
  · have hgi := List.getElem?_eq_getElem (show k < gates.length by omega)
    generalize gates[k]'(_) = x at hgi
    obtain ⟨hx0, ⟨hx1, hx2⟩, hx3, hx4⟩ := b5 x (List.mem_of_getElem? hgi)
    have hst := U1 (f := U8) (s := m) hgi
    have hnx := U2 (f := U8) (s := m) hgi
    have o3 := a4l _ (b9F (by decide) (hx1.mono (m := 17179869184) (by decide)) (hx2.mono (m := 17179869184) (by decide)) (hx3.mono (m := 17179869184) (by decide)) (hx4.mono (m := 17179869184) (by decide)))
    have o4 := a0J x.low.x x.high.x (hx1.mono (by decide)) (hx3.mono (by decide))
    have o5 := a0J x.low.y x.high.y (hx2.mono (by decide)) (hx4.mono (by decide))
    have o2 := fun (E : Ctx) (hP : E.P = Tryz.prog) => hnm E hP m x.name (by omega) (by omega)
    have hal := a5T m x.name
    rw [b9m] at hst hnx
    rw [c1r] at hst hnx
    generalize [x.low.x, x.low.y, x.high.x, x.high.y].all j4 = q2 at *
    generalize Nm.E5 (Nm.j3 x.low.x) (Nm.j3 x.high.x) = s3 at *
    generalize Nm.E5 (Nm.j3 x.low.y) (Nm.j3 x.high.y) = s4 at *
    generalize F8 m x.name = r at *
    obtain ⟨a2, m'⟩ := r
    obtain ⟨xn, ⟨lx, ly⟩, ⟨ux, uy⟩⟩ := x
    simp only [rts, rcs, rc, sb, ints, List.map_cons, List.map_nil] at o2 o3 o4 o5 hal hst hnx
    (repeat first | refine uA ?_ | (refine uK ?_ ?_; focus first | omega | (intros; simp_all <;> omega)) | simp (disch := omega) only [go_sem, Nat.reduceBEq, Nat.reduceAdd, ww, hgi, Option.map_some, List.length_map, Gt.enc, sb, Int.toNat_natCast, hcal, List.map_cons, List.map_nil] | refine l9.t (j6.b6A _ (o2 _ rfl) rfl rfl rfl) ?_)
    refine S.cond rfl (fun hc2 => ?_) (fun hc2 => ?_)
    · have h0 : a2 ≠ 0 := by simpa using hc2
      rw [if_pos h0] at hst
      rw [hst h0] at hg
      injection hg with g1 g2
      rw [if_pos (by rw [g1]; exact h0), g1]
      (repeat first | refine uA ?_ | (refine uK ?_ ?_; focus first | omega | (intros; simp_all <;> omega)) | simp (disch := omega) only [go_sem, Nat.reduceBEq, Nat.reduceAdd, ww])
      exact S.done (d9.out rfl (Imp.refl rfl) rfl)
    have h0 : ¬ a2 ≠ 0 := by simpa using hc2
    rw [if_neg h0] at hst hnx
    (repeat first | refine uI ?_ | (refine uK ?_ ?_; focus first | omega | (intros; simp_all <;> omega)) | simp (disch := omega) only [go_sem, Nat.reduceBEq, Nat.reduceAdd, ww])
    refine S.K3 [.gone, .gone, .gone, .box 116 [.v (.string (bs xn)), .v (.bool lx.neg), .v (.string (bs lx.num)), .v (.string (bs lx.den)), .v (.bool ly.neg), .v (.string (bs ly.num)), .v (.string (bs ly.den)), .v (.bool ux.neg), .v (.string (bs ux.num)), .v (.string (bs ux.den)), .v (.bool uy.neg), .v (.string (bs uy.num)), .v (.string (bs uy.den))]] (by simp [Eng.F9, Eng.a0h]) ?_
    (repeat first | refine uG o4 ?_ | refine uG o5 ?_ | refine uG o3 ?_ | refine uA ?_ | (refine uK ?_ ?_; focus first | omega | (intros; simp_all <;> omega)) | simp (disch := omega) only [go_sem, Nat.reduceBEq, Nat.reduceAdd, ww, F9] | (refine uD o4 ?_ ?_ ?_; exact tz hw; exact rfl) | (refine uD o5 ?_ ?_ ?_; exact tz hw; exact rfl) | (refine uE o3 ?_ ?_ ?_ ?_; exact tz hw; exact rfl; focus (repeat' first | exact p8.nil | exact Imp.refl rfl | exact Imp.frz rfl rfl rfl | (refine Imp.P6 rfl rfl ?_ ?_; (focus ((try simp only [List.length_append, F9]); omega)); (focus first | rfl | assumption)) | refine p8.cons ?_ ?_); done))
    refine S.cond rfl (fun hc3 => ?_) (fun hc3 => ?_)
    · rw [if_neg (by rw [hc3]; decide)] at hst
      rw [hst (show (1 : Int) ≠ 0 by decide)] at hg
      injection hg with g1 g2
      rw [if_pos (by rw [g1]; decide), g1]
      (repeat first | refine uA ?_ | (refine uK ?_ ?_; focus first | omega | (intros; simp_all <;> omega)) | simp (disch := omega) only [go_sem, Nat.reduceBEq, Nat.reduceAdd, ww])
      exact S.done (d9.out rfl (Imp.refl rfl) rfl)
    · rw [if_pos (by rw [hc3]; rfl)] at hnx
      (repeat first | refine uA ?_ | (refine uK ?_ ?_; focus first | omega | (intros; simp_all <;> omega)) | simp (disch := omega) only [go_sem, Nat.reduceBEq, Nat.reduceAdd, ww])
      refine S.next (x := (k, m)) (k + 1, m') ⟨by simp only; omega, by simp only; omega, by simp only; rw [hg]; exact hnx rfl⟩ (by simp only; omega) (by (repeat first | refine uA ?_ | (refine ⟨?_, ?_⟩; focus first | rfl | simp [slot]) | rfl | simp))
  rw [X6 (by omega)] at hg
  injection hg with g1 g2
  subst g1
  rw [if_neg (show ¬ (0 : Int) ≠ 0 by simp)]
  (repeat first | refine uG h7 ?_ | refine uG h6 ?_ | refine uA ?_ | (refine uK ?_ ?_; focus first | omega | (intros; simp_all <;> omega)) | simp (disch := omega) only [go_sem, Nat.reduceBEq, Nat.reduceAdd, ww] | (refine uD h7 ?_ ?_ ?_; exact tz hw; exact rfl) | (refine uE h6 ?_ ?_ ?_ ?_; exact tz hw; exact rfl; focus (repeat' first | exact p8.nil | exact Imp.refl rfl | exact Imp.frz rfl rfl rfl | (refine Imp.P6 rfl rfl ?_ ?_; (focus ((try simp only [List.length_append]); omega)); (focus first | rfl | assumption)) | refine p8.cons ?_ ?_); done))
  refine S.cond rfl (fun hc => ?_) (fun hc => ?_)
  · rw [if_pos (by simpa using hc)]
    (repeat first | refine uA ?_ | (refine uK ?_ ?_; focus first | omega | (intros; simp_all <;> omega)) | simp (disch := omega) only [go_sem, Nat.reduceBEq, Nat.reduceAdd, ww])
    exact S.done (d9.out rfl (Imp.refl rfl) rfl)
  · rw [if_neg (by simpa using hc)]
    (repeat first | refine uA ?_ | (refine uK ?_ ?_; focus first | omega | (intros; simp_all <;> omega)) | simp (disch := omega) only [go_sem, Nat.reduceBEq, Nat.reduceAdd, ww])
    exact S.done (d9.out rfl (Imp.refl rfl) rfl)
theorem b7T (v s : Rat) : 0 < Nm.E5 (a2J v) s <-> (0 < Nm.E5 v s \/ 0 < Nm.E5 (-v) s) := by
  rw [a1V, a1V, a1V]
  have hn : v.num < 0 <-> v < 0 := by
    have := @Rat.num_nonneg v
    rw [<- Rat.not_le, <- this]; omega
  unfold a2J
  by_cases h : v < 0
  · rw [if_pos (hn.2 h)]
    constructor
    · exact .inr
    · rintro (h1 | h1)
      · grind
      · exact h1
  · rw [if_neg (fun h2 => h (hn.1 h2))]
    constructor
    · exact .inl
    · rintro (h1 | h1)
      · exact h1
      · grind
theorem b7x (h : List Int) (n k : Int) : (a2z h n).contains k = (h.contains k || decide (n = k)) := by
  rw [Bool.eq_iff_iff]
  unfold a2z
  split
  · rename_i h1
    simp only [List.contains_iff_mem, Bool.or_eq_true, decide_eq_true_eq] at h1 ⊢
    exact ⟨.inl, fun h2 => h2.elim id fun h3 => h3 ▸ h1⟩
  · simp only [List.contains_iff_mem, List.mem_append, List.mem_singleton, Bool.or_eq_true, decide_eq_true_eq]
    exact ⟨fun h2 => h2.imp id Eq.symm, fun h2 => h2.imp id Eq.symm⟩
theorem b4S {α : Type} {f : α -> Bool} {l : List α} {i : Nat} {x : α} (h : l[i]? = some x) : (l.take (i + 1)).any f = ((l.take i).any f || f x) := by
  rw [List.take_succ, h]; simp
theorem b9r (f : Fr) : Z8 f = !(!([f.x, f.y, f.t].all G9) || (f.half && !decide (A8 (Nm.j3 f.t) = 0))) := by
  rw [a4S]
  unfold Z8 a1F
  cases G9 f.x <;> cases G9 f.y <;> cases G9 f.t <;> cases f.half <;> cases decide (A8 (Nm.j3 f.t) = 0) <;> rfl
theorem b8V (w : Wk) (s : Stt) (hb : Wb 1073741824 w) (hs : Stb 1073741824 s) : FZ 39 [w.c, s.c] (ints (a0u w s)) := by
  refine q9.of (eff := eff) Tryz.func39 (by conv => { lhs; cbv }) (by exact Nat.le_of_ble_eq_true rfl) fun w' O hw => ?_
  have hwk := b3d w hb
  obtain ⟨⟨n1, b1⟩, ⟨n2, b2⟩, ⟨n3, b3⟩, n4⟩ := hs
  obtain ⟨m1, a1⟩ := hb.arms
  have m2 := hb.parts.1
  have m3 := hb.gates.1
  unfold a0u
  generalize I9 w = e0 at *
  generalize hr : r9 (X0 w.parts.length) [] (w.arms.zip s.arms) = r
  obtain ⟨e1, hfin⟩ := r
  generalize hg1 : s.parts.all Z8 = pA
  generalize hg2 : s.people.all a3e = pB
  obtain ⟨arms, walls, parts, slots, gates, walk⟩ := w
  obtain ⟨tick, sarms, sparts, people, sgates⟩ := s
  simp only at *
  simp only [l6]
  simp only [Wk.c, Wk.enc, Stt.c, Stt.enc, ams, wls, pts, sls, gts, I8, frs, vts, bls, sb, ints] at hwk ⊢
  (repeat first | refine uA ?_ | (refine uK ?_ ?_; focus first | omega | (intros; simp_all <;> omega)) | simp (disch := omega) only [go_sem, Nat.reduceBEq, Nat.reduceAdd, ww] | (refine uD hwk ?_ ?_ ?_; exact tz hw; exact rfl))
  refine S.cond rfl (fun hc => ?_) (fun hc => ?_)
  · rw [if_pos (by simpa using hc)]
    (repeat first | refine uA ?_ | (refine uK ?_ ?_; focus first | omega | (intros; simp_all <;> omega)) | simp (disch := omega) only [go_sem, Nat.reduceBEq, Nat.reduceAdd, ww])
    exact S.done (d9.out rfl (Imp.refl rfl) rfl)
  rw [if_neg (by simpa using hc)]
  (repeat first | refine uA ?_ | (refine uK ?_ ?_; focus first | omega | (intros; simp_all <;> omega)) | simp (disch := omega) only [go_sem, Nat.reduceBEq, Nat.reduceAdd, ww, List.length_map])
  refine S.cond rfl (fun hc => ?_) (fun hc => ?_)
  · rw [if_pos (by simp only [decide_eq_true_eq] at hc; omega)]
    (repeat first | refine uA ?_ | (refine uK ?_ ?_; focus first | omega | (intros; simp_all <;> omega)) | simp (disch := omega) only [go_sem, Nat.reduceBEq, Nat.reduceAdd, ww])
    exact S.done (d9.out rfl (Imp.refl rfl) rfl)
  rw [if_neg (by simp only [decide_eq_false_iff_not] at hc; omega)]
  (repeat first | refine uA ?_ | (refine uK ?_ ?_; focus first | omega | (intros; simp_all <;> omega)) | simp (disch := omega) only [go_sem, Nat.reduceBEq, Nat.reduceAdd, ww, List.length_map])
  refine S.cond rfl (fun hc => ?_) (fun hc => ?_)
  · rw [if_pos (by simp only [Bool.or_eq_true, Bool.not_eq_true', decide_eq_true_eq, decide_eq_false_iff_not] at hc; omega)]
    (repeat first | refine uA ?_ | (refine uK ?_ ?_; focus first | omega | (intros; simp_all <;> omega)) | simp (disch := omega) only [go_sem, Nat.reduceBEq, Nat.reduceAdd, ww])
    exact S.done (d9.out rfl (Imp.refl rfl) rfl)
  have hls : sarms.length = arms.length := by simp only [Bool.or_eq_false_iff, Bool.not_eq_false', decide_eq_true_eq, decide_eq_false_iff_not] at hc; omega
  rw [if_neg (by simp only [Bool.or_eq_false_iff, Bool.not_eq_false', decide_eq_true_eq, decide_eq_false_iff_not] at hc; omega)]
  clear hc
  (repeat first | refine uA ?_ | (refine uK ?_ ?_; focus first | omega | (intros; simp_all <;> omega)) | simp (disch := omega) only [go_sem, Nat.reduceBEq, Nat.reduceAdd, ww, List.length_map])
  refine S.loop (X := Nat × List Int) (fun x => ⟨[(2, .bp 0 0), (3, .bp 1 0), (63, I8 sarms), (64, ints sarms.length), (65, ints x.1)], [.box 31 [ams arms, wls walls, pts parts, sls slots, gts gates, .v (.bool walk.neg), sb walk.num, sb walk.den], .box 37 [ints tick, I8 sarms, frs sparts, vts people, bls sgates]]⟩)
    (fun x => x.1 <= sarms.length /\ (∀ k, x.2.contains k = (sarms.take x.1).any fun y => decide (y.holds = k)) /\ (e1, hfin) = r9 (X0 parts.length) x.2 ((arms.zip sarms).drop x.1)) (fun x => sarms.length - x.1) (0, []) ⟨Nat.zero_le _, fun k => rfl, hr.symm⟩ (by (repeat first | refine uA ?_ | (refine ⟨?_, ?_⟩; focus first | rfl | simp [slot]) | rfl | simp)) ?_
  rintro ⟨i, h⟩ ⟨hi, hk, hg⟩
  simp only [ams, wls, pts, sls, gts, I8, frs, vts, bls, sb, ints] at hi hk hg ⊢
  (repeat first | refine uA ?_ | (refine uK ?_ ?_; focus first | omega | (intros; simp_all <;> omega)) | simp (disch := omega) only [go_sem, Nat.reduceBEq, Nat.reduceAdd, ww])
  (refine uJ rfl (fun hc => ?_) fun hc => ?_)
  · have hgx := List.getElem?_eq_getElem (show i < sarms.length by omega)
    have hga := List.getElem?_eq_getElem (show i < arms.length by omega)
    generalize sarms[i]'_ = x at hgx
    generalize arms[i]'_ = a at hga
    have hz := a5z hga hgx
    have hst := U1 (f := X0 parts.length) (s := h) hz
    have hnx := U2 (f := X0 parts.length) (s := h) hz
    have hv : X0 parts.length h (a, x) = if a1J a x parts.length ≠ 0 then (a1J a x parts.length, h) else if (decide (0 <= x.holds) && h.contains x.holds) = true then (10, h) else (0, a2z h x.holds) := rfl
    rw [hv] at hst hnx
    clear hv
    have hxb := b1 x (List.mem_of_getElem? hgx)
    have hab := a1 a (List.mem_of_getElem? hga)
    have o1 := a7P x.q ⟨by have := hxb.1.1; omega, fun r hr => (hxb.1.2 r hr).mono (by decide)⟩
    have o2 := a7P x.v ⟨by have := hxb.2.1; omega, fun r hr => (hxb.2.2 r hr).mono (by decide)⟩
    have o3 := b6S a x.q hab hxb.1
    have hone : a1J a x parts.length = if (x.q.all G9 && x.v.all G9) = false then 3 else if a1H a x.q ≠ 0 then a1H a x.q else if x.v.length ≠ a.links.length \/ x.holds < -1 \/ (parts.length : Int) <= x.holds then 1 else F4 V6 (a.links.zip x.v) := rfl
    have hkh := hk x.holds
    have hkn : ∀ k, (a2z h x.holds).contains k = (sarms.take (i + 1)).any fun y => decide (y.holds = k) := fun k => by rw [b7x, hk, b4S hgx]
    generalize h.contains x.holds = c1 at *
    generalize a2z h x.holds = h' at *
    generalize a1J a x parts.length = o at *
    generalize hq1 : x.q.all G9 = q1 at *
    generalize hq2 : x.v.all G9 = q2 at *
    generalize a1H a x.q = fe at *
    obtain ⟨hvn, hvb⟩ := hxb.2
    obtain ⟨_, _, hln, hlb⟩ := hab
    obtain ⟨an, ⟨bx, by', bh, bt⟩, links⟩ := a
    obtain ⟨xq, xv, xp, xh⟩ := x
    have hai : (i : Int) < arms.length := by omega
    simp only [Am.c, Am.enc, lks, rts, sb, ints] at o1 o2 o3 hone hkh hkn hvn hvb hln hlb hst hnx
    clear hq1 hq2 hk
    (repeat first | refine uA ?_ | (refine uK ?_ ?_; focus first | omega | (intros; simp_all <;> omega)) | simp (disch := omega) only [go_sem, Nat.reduceBEq, Nat.reduceAdd, ww, hga, hgx, Option.map_some, List.length_map, Am.enc, Ast.enc, lks, rts, sb, ints, Int.toNat_natCast] | (refine uD o1 ?_ ?_ ?_; exact tz hw; exact rfl) | (refine uD o2 ?_ ?_ ?_; exact tz hw; exact rfl))
    refine S.cond rfl (fun hc2 => ?_) (fun hc2 => ?_)
    · rw [if_pos (by cases q1 <;> cases q2 <;> simp_all)] at hone
      subst hone
      rw [if_pos (by decide)] at hst
      rw [hst (show (3 : Int) ≠ 0 by decide)] at hg
      injection hg with g1 g2
      rw [if_pos (by rw [g1]; decide), g1]
      (repeat first | refine uA ?_ | (refine uK ?_ ?_; focus first | omega | (intros; simp_all <;> omega)) | simp (disch := omega) only [go_sem, Nat.reduceBEq, Nat.reduceAdd, ww])
      exact S.done (d9.out rfl (Imp.refl rfl) rfl)
    rw [if_neg (by cases q1 <;> cases q2 <;> simp_all)] at hone
    (repeat first | refine uA ?_ | (refine uK ?_ ?_; focus first | omega | (intros; simp_all <;> omega)) | simp (disch := omega) only [go_sem, Nat.reduceBEq, Nat.reduceAdd, ww, hga, Option.map_some, List.length_map, Am.enc, lks, sb, Int.toNat_natCast] | (refine uD o3 ?_ ?_ ?_; exact tz hw; exact rfl))
    refine S.cond rfl (fun hc3 => ?_) (fun hc3 => ?_)
    · have h0 : fe ≠ 0 := by simpa using hc3
      rw [if_pos h0] at hone
      subst hone
      rw [if_pos h0] at hst
      rw [hst h0] at hg
      injection hg with g1 g2
      rw [if_pos (by rw [g1]; exact h0), g1]
      (repeat first | refine uA ?_ | (refine uK ?_ ?_; focus first | omega | (intros; simp_all <;> omega)) | simp (disch := omega) only [go_sem, Nat.reduceBEq, Nat.reduceAdd, ww])
      exact S.done (d9.out rfl (Imp.refl rfl) rfl)
    rw [if_neg (by simpa using hc3)] at hone
    (repeat first | refine uA ?_ | (refine uK ?_ ?_; focus first | omega | (intros; simp_all <;> omega)) | simp (disch := omega) only [go_sem, Nat.reduceBEq, Nat.reduceAdd, ww, List.length_map])
    refine S.cond rfl (fun hc4 => ?_) (fun hc4 => ?_)
    · rw [if_pos (by simp only [Bool.or_eq_true, Bool.not_eq_true', decide_eq_true_eq, decide_eq_false_iff_not] at hc4; omega)] at hone
      subst hone
      rw [if_pos (by decide)] at hst
      rw [hst (show (1 : Int) ≠ 0 by decide)] at hg
      injection hg with g1 g2
      rw [if_pos (by rw [g1]; decide), g1]
      (repeat first | refine uA ?_ | (refine uK ?_ ?_; focus first | omega | (intros; simp_all <;> omega)) | simp (disch := omega) only [go_sem, Nat.reduceBEq, Nat.reduceAdd, ww])
      exact S.done (d9.out rfl (Imp.refl rfl) rfl)
    rw [if_neg (by simp only [Bool.or_eq_false_iff, Bool.not_eq_false', decide_eq_true_eq, decide_eq_false_iff_not] at hc4; omega)] at hone
    have hvl : xv.length = links.length := by simp only [Bool.or_eq_false_iff, Bool.not_eq_false', decide_eq_true_eq, decide_eq_false_iff_not] at hc4; omega
    clear hc3 hc4 hc2 o1 o2 o3
    (repeat first | refine uA ?_ | (refine uK ?_ ?_; focus first | omega | (intros; simp_all <;> omega)) | simp (disch := omega) only [go_sem, Nat.reduceBEq, Nat.reduceAdd, ww, List.length_map])
    refine S.loop (X := Nat) (fun j => ⟨[(2, .bp 0 0), (3, .bp 1 0), (63, I8 sarms), (64, ints sarms.length), (65, ints i), (6, ints i), (7, .bp 2 0), (8, lks links), (117, rts xv), (118, ints xv.length), (119, ints j)], [.box 31 [ams arms, wls walls, pts parts, sls slots, gts gates, .v (.bool walk.neg), sb walk.num, sb walk.den], .box 37 [ints tick, I8 sarms, frs sparts, vts people, bls sgates], .box 90 [rts xq, rts xv, .v (.bool xp), ints xh]]⟩)
      (fun j => j <= xv.length /\ o = F4 V6 ((links.zip xv).drop j)) (fun j => xv.length - j) 0 ⟨Nat.zero_le _, hone⟩ (by (repeat first | refine uA ?_ | (refine ⟨?_, ?_⟩; focus first | rfl | simp [slot]) | rfl | simp)) ?_
    rintro j ⟨hj, hsp⟩
    simp only [ams, wls, pts, sls, gts, I8, frs, vts, bls, lks, rts, sb, ints] at hj hsp ⊢
    (repeat first | refine uA ?_ | (refine uK ?_ ?_; focus first | omega | (intros; simp_all <;> omega)) | simp (disch := omega) only [go_sem, Nat.reduceBEq, Nat.reduceAdd, ww])
    (refine uJ rfl (fun hc => ?_) fun hc => ?_)
    · have hgv := List.getElem?_eq_getElem (show j < xv.length by omega)
      have hgl := List.getElem?_eq_getElem (show j < links.length by omega)
      generalize xv[j]'_ = v at hgv
      generalize links[j]'_ = l at hgl
      have hz2 := a5z hgl hgv
      have s1 := a0f (f := V6) hz2
      have s2 := a0k (f := V6) hz2
      have vb := hvb v (List.mem_of_getElem? hgv)
      have lb := (hlb l (List.mem_of_getElem? hgl)).2.2.2.1
      have p1 := a0J v l.speed (vb.mono (by decide)) (lb.mono (by decide))
      have p2 := b7u v (vb.mono (by decide))
      have p3 := a0J (Nm.ofQ (- Nm.j3 v)) l.speed ((b8e vb (by decide)).mono (by decide)) (lb.mono (by decide))
      rw [Nm.a0b] at p3
      have hsv : V6 (l, v) = if (0 < Nm.E5 (Nm.j3 v) (Nm.j3 l.speed) \/ 0 < Nm.E5 (- Nm.j3 v) (Nm.j3 l.speed)) then 1 else 0 := by
        unfold V6
        simp only [b7T]
      rw [hsv] at s1 s2
      unfold rq at p2
      generalize Nm.E5 (Nm.j3 v) (Nm.j3 l.speed) = c2 at *
      generalize Nm.E5 (- Nm.j3 v) (Nm.j3 l.speed) = c3 at *
      generalize Nm.ofQ (- Nm.j3 v) = nv at *
      have hjl : (j : Int) < links.length := by omega
      simp only [rc, sb, ints] at p1 p2 p3
      (repeat first | refine uA ?_ | (refine uK ?_ ?_; focus first | omega | (intros; simp_all <;> omega)) | simp (disch := omega) only [go_sem, Nat.reduceBEq, Nat.reduceAdd, ww, hgv, hgl, Option.map_some, List.length_map, rcs, Lk.enc, vts, sb, Int.toNat_natCast] | (refine uD p1 ?_ ?_ ?_; exact tz hw; exact rfl) | (refine uD p2 ?_ ?_ ?_; exact tz hw; exact rfl) | (refine uD p3 ?_ ?_ ?_; exact tz hw; exact rfl))
      refine S.cond rfl (fun hc5 => ?_) (fun hc5 => ?_)
      · rw [if_pos (by simp only [Bool.or_eq_true, decide_eq_true_eq] at hc5; omega)] at s1
        rw [s1 (by decide)] at hsp
        subst hsp
        rw [if_pos (by decide)] at hst
        rw [hst (show (1 : Int) ≠ 0 by decide)] at hg
        injection hg with g1 g2
        rw [if_pos (by rw [g1]; decide), g1]
        (repeat first | refine uA ?_ | (refine uK ?_ ?_; focus first | omega | (intros; simp_all <;> omega)) | simp (disch := omega) only [go_sem, Nat.reduceBEq, Nat.reduceAdd, ww])
        exact S.done (d9.out rfl (Imp.refl rfl) rfl)
      · rw [if_neg (by simp only [Bool.or_eq_false_iff, decide_eq_false_iff_not] at hc5; omega)] at s2
        (repeat first | refine uA ?_ | (refine uK ?_ ?_; focus first | omega | (intros; simp_all <;> omega)) | simp (disch := omega) only [go_sem, Nat.reduceBEq, Nat.reduceAdd, ww])
        refine S.next (j + 1) ⟨by omega, by rw [hsp]; exact s2 rfl⟩ (by omega) (by (repeat first | refine uA ?_ | (refine ⟨?_, ?_⟩; focus first | rfl | simp [slot]) | rfl | simp))
    rw [a0H (by rw [List.length_zip]; omega)] at hsp
    subst hsp
    rw [if_neg (by decide)] at hst hnx
    clear hj hone
    have htl : (sarms.take i).length = i := by rw [List.length_take]; omega
    (repeat first | refine uA ?_ | (refine uK ?_ ?_; focus first | omega | (intros; simp_all <;> omega)) | simp (disch := omega) only [go_sem, Nat.reduceBEq, Nat.reduceAdd, ww, List.length_map, htl, Int.toNat_natCast])
    refine S.loop (X := Nat) (fun j => ⟨[(2, .bp 0 0), (3, .bp 1 0), (63, I8 sarms), (64, ints sarms.length), (65, ints i), (6, ints i), (7, .bp 2 0), (147, I8 (sarms.take i)), (148, ints i), (149, ints j)], [.box 31 [ams arms, wls walls, pts parts, sls slots, gts gates, .v (.bool walk.neg), sb walk.num, sb walk.den], .box 37 [ints tick, I8 sarms, frs sparts, vts people, bls sgates], .box 90 [rts xq, rts xv, .v (.bool xp), ints xh]]⟩)
      (fun j => j <= i /\ (0 <= xh -> ((sarms.take i).take j).any (fun y => decide (y.holds = xh)) = false)) (fun j => i - j) 0 ⟨Nat.zero_le _, fun _ => rfl⟩ (by (repeat first | refine uA ?_ | (refine ⟨?_, ?_⟩; focus first | rfl | simp [slot]) | rfl | simp)) ?_
    rintro j ⟨hj, hno⟩
    simp only [ams, wls, pts, sls, gts, I8, frs, vts, bls, rts, sb, ints] at hj hno ⊢
    (repeat first | refine uA ?_ | (refine uK ?_ ?_; focus first | omega | (intros; simp_all <;> omega)) | simp (disch := omega) only [go_sem, Nat.reduceBEq, Nat.reduceAdd, ww])
    (refine uJ rfl (fun hc => ?_) fun hc => ?_)
    · have hgy := List.getElem?_eq_getElem (show j < (sarms.take i).length by omega)
      generalize (sarms.take i)[j]'_ = y at hgy
      have hae := b4S (f := fun y : Ast => decide (y.holds = xh)) hgy
      have hah := List.mem_of_getElem? hgy
      generalize sarms.take i = L at *
      obtain ⟨yq, yv, yp, yh⟩ := y
      simp only at hae
      (repeat first | refine uA ?_ | (refine uK ?_ ?_; focus first | omega | (intros; simp_all <;> omega)) | simp (disch := omega) only [go_sem, Nat.reduceBEq, Nat.reduceAdd, ww, hgy, Option.map_some, List.length_map, Ast.enc, rts, sb, ints, Int.toNat_natCast, htl])
      refine S.cond rfl (fun hc5 => ?_) (fun hc5 => ?_)
      · have hx0 : 0 <= xh /\ xh = yh := by simpa using hc5
        have hc1 : c1 = true := by
          rw [hkh, List.any_eq_true]
          exact ⟨_, hah, by simp [hx0.2]⟩
        rw [if_pos (by rw [hc1]; simp [hx0.1])] at hst
        rw [hst (show (10 : Int) ≠ 0 by decide)] at hg
        injection hg with g1 g2
        rw [if_pos (by rw [g1]; decide), g1]
        (repeat first | refine uA ?_ | (refine uK ?_ ?_; focus first | omega | (intros; simp_all <;> omega)) | simp (disch := omega) only [go_sem, Nat.reduceBEq, Nat.reduceAdd, ww])
        exact S.done (d9.out rfl (Imp.refl rfl) rfl)
      · (repeat first | refine uA ?_ | (refine uK ?_ ?_; focus first | omega | (intros; simp_all <;> omega)) | simp (disch := omega) only [go_sem, Nat.reduceBEq, Nat.reduceAdd, ww])
        refine S.next (j + 1) ⟨by omega, fun h0 => ?_⟩ (by omega) (by (repeat first | refine uA ?_ | (refine ⟨?_, ?_⟩; focus first | rfl | simp [slot]) | rfl | simp))
        rw [hae, hno h0, Bool.false_or]
        have : ¬ (0 <= xh /\ xh = yh) := by simpa using hc5
        exact decide_eq_false (fun e => this ⟨h0, e.symm⟩)
    have hj' : j = i := by omega
    subst hj'
    rw [if_neg (by
      intro hc6
      rw [Bool.and_eq_true, decide_eq_true_eq] at hc6
      have := hno hc6.1
      rw [List.take_of_length_le (by omega)] at this
      rw [hkh, this] at hc6
      exact absurd hc6.2 (by decide))] at hnx
    (repeat first | refine uA ?_ | (refine uK ?_ ?_; focus first | omega | (intros; simp_all <;> omega)) | simp (disch := omega) only [go_sem, Nat.reduceBEq, Nat.reduceAdd, ww])
    refine S.next (x := (j, h)) (j + 1, h') ⟨by simp only; omega, hkn, by simp only; rw [hg]; exact hnx rfl⟩ (by simp only; omega) (by (repeat first | refine uA ?_ | (refine ⟨?_, ?_⟩; focus first | rfl | simp [slot]) | rfl | simp))
  rw [X6 (by rw [List.length_zip]; omega)] at hg
  injection hg with g1 g2
  subst g1
  rw [if_neg (show ¬ (0 : Int) ≠ 0 by simp)]
  clear hr b1 a1 hk hi
  (repeat first | refine uA ?_ | (refine uK ?_ ?_; focus first | omega | (intros; simp_all <;> omega)) | simp (disch := omega) only [go_sem, Nat.reduceBEq, Nat.reduceAdd, ww, List.length_map])
  refine S.loop (X := Nat) (fun i => ⟨[(2, .bp 0 0), (3, .bp 1 0), (166, frs sparts), (167, ints sparts.length), (168, ints i)], [.box 31 [ams arms, wls walls, pts parts, sls slots, gts gates, .v (.bool walk.neg), sb walk.num, sb walk.den], .box 37 [ints tick, I8 sarms, frs sparts, vts people, bls sgates]]⟩)
    (fun i => i <= sparts.length /\ pA = (sparts.drop i).all Z8) (fun i => sparts.length - i) 0 ⟨Nat.zero_le _, hg1.symm⟩ (by (repeat first | refine uA ?_ | (refine ⟨?_, ?_⟩; focus first | rfl | simp [slot]) | rfl | simp)) ?_
  rintro i' ⟨hi, hg⟩
  simp only [ams, wls, pts, sls, gts, I8, frs, vts, bls, sb, ints] at hi ⊢
  (repeat first | refine uA ?_ | (refine uK ?_ ?_; focus first | omega | (intros; simp_all <;> omega)) | simp (disch := omega) only [go_sem, Nat.reduceBEq, Nat.reduceAdd, ww])
  (refine uJ rfl (fun hc => ?_) fun hc => ?_)
  · have hgi := List.getElem?_eq_getElem (show i' < sparts.length by omega)
    generalize sparts[i']'(_) = f at hgi
    obtain ⟨f1, f2, f3⟩ := b2 f (List.mem_of_getElem? hgi)
    have hs := a4q (f := Z8) hgi
    rw [b9r] at hs
    have o1 := a7P _ (Rbs.three (by decide) (f1.mono (m := 17179869184) (by decide)) (f2.mono (m := 17179869184) (by decide)) (f3.mono (m := 17179869184) (by decide)))
    have o2 := O3 f.t (f3.mono (by decide))
    generalize [f.x, f.y, f.t].all G9 = q1 at *
    generalize A8 (Nm.j3 f.t) = s1 at *
    obtain ⟨fx, fy, fh, ft⟩ := f
    simp only [rts, rcs, rc, sb, ints, List.map_cons, List.map_nil] at o1 o2 hs
    (repeat first | refine uA ?_ | (refine uK ?_ ?_; focus first | omega | (intros; simp_all <;> omega)) | simp (disch := omega) only [go_sem, Nat.reduceBEq, Nat.reduceAdd, ww, hgi, Option.map_some, List.length_map, Fr.enc, sb, Int.toNat_natCast] | (refine uD o2 ?_ ?_ ?_; exact tz hw; exact rfl) | (refine uE o1 ?_ ?_ ?_ ?_; exact tz hw; exact rfl; focus (repeat' first | exact p8.nil | exact Imp.refl rfl | exact Imp.frz rfl rfl rfl | (refine Imp.P6 rfl rfl ?_ ?_; (focus ((try simp only [List.length_append, hgi, Option.map_some, List.length_map, Fr.enc, sb, Int.toNat_natCast]); omega)); (focus first | rfl | assumption)) | refine p8.cons ?_ ?_); done))
    refine S.cond rfl (fun hc2 => ?_) (fun hc2 => ?_)
    · rw [hc2] at hs
      rw [hg, hs, Bool.not_true, Bool.false_and, Bool.false_and, if_neg (by decide)]
      (repeat first | refine uA ?_ | (refine uK ?_ ?_; focus first | omega | (intros; simp_all <;> omega)) | simp (disch := omega) only [go_sem, Nat.reduceBEq, Nat.reduceAdd, ww])
      exact S.done (d9.out rfl (Imp.refl rfl) rfl)
    · rw [hc2] at hs
      (repeat first | refine uA ?_ | (refine uK ?_ ?_; focus first | omega | (intros; simp_all <;> omega)) | simp (disch := omega) only [go_sem, Nat.reduceBEq, Nat.reduceAdd, ww])
      refine S.next (i' + 1) ⟨by omega, by rw [hg, hs]; rfl⟩ (by omega) (by (repeat first | refine uA ?_ | (refine ⟨?_, ?_⟩; focus first | rfl | simp [slot]) | rfl | simp))
  rw [a5O (by omega)] at hg
  subst hg
  rw [Bool.true_and]
  clear hg1 b2 hi
  (repeat first | refine uA ?_ | (refine uK ?_ ?_; focus first | omega | (intros; simp_all <;> omega)) | simp (disch := omega) only [go_sem, Nat.reduceBEq, Nat.reduceAdd, ww, List.length_map])
  refine S.loop (X := Nat) (fun i => ⟨[(198, vts people), (199, ints people.length), (200, ints i)], [.box 31 [ams arms, wls walls, pts parts, sls slots, gts gates, .v (.bool walk.neg), sb walk.num, sb walk.den], .box 37 [ints tick, I8 sarms, frs sparts, vts people, bls sgates]]⟩)
    (fun i => i <= people.length /\ pB = (people.drop i).all a3e) (fun i => people.length - i) 0 ⟨Nat.zero_le _, hg2.symm⟩ (by (repeat first | refine uA ?_ | (refine ⟨?_, ?_⟩; focus first | rfl | simp [slot]) | rfl | simp)) ?_
  rintro i2 ⟨hi, hg⟩
  simp only [ams, wls, pts, sls, gts, I8, frs, vts, bls, sb, ints] at hi ⊢
  (repeat first | refine uA ?_ | (refine uK ?_ ?_; focus first | omega | (intros; simp_all <;> omega)) | simp (disch := omega) only [go_sem, Nat.reduceBEq, Nat.reduceAdd, ww])
  (refine uJ rfl (fun hc => ?_) fun hc => ?_)
  · have hgi := List.getElem?_eq_getElem (show i2 < people.length by omega)
    generalize people[i2]'(_) = f at hgi
    obtain ⟨f1, f2⟩ := b3 f (List.mem_of_getElem? hgi)
    have hs := a4q (f := a3e) hgi
    rw [show a3e f = [f.x, f.y].all G9 by rw [a5H]; rfl] at hs
    have o1 := a7P _ (Rbs.two (by decide) (f1.mono (m := 17179869184) (by decide)) (f2.mono (m := 17179869184) (by decide)))
    generalize [f.x, f.y].all G9 = q1 at *
    obtain ⟨fx, fy⟩ := f
    simp only [rts, rcs, rc, sb, ints, List.map_cons, List.map_nil] at o1 hs
    (repeat first | refine uA ?_ | (refine uK ?_ ?_; focus first | omega | (intros; simp_all <;> omega)) | simp (disch := omega) only [go_sem, Nat.reduceBEq, Nat.reduceAdd, ww, hgi, Option.map_some, List.length_map, Vt.enc, sb, Int.toNat_natCast] | (refine uE o1 ?_ ?_ ?_ ?_; exact tz hw; exact rfl; focus (repeat' first | exact p8.nil | exact Imp.refl rfl | exact Imp.frz rfl rfl rfl | (refine Imp.P6 rfl rfl ?_ ?_; (focus ((try simp only [List.length_append, hgi, Option.map_some, List.length_map, Vt.enc, sb, Int.toNat_natCast]); omega)); (focus first | rfl | assumption)) | refine p8.cons ?_ ?_); done))
    refine S.cond rfl (fun hc2 => ?_) (fun hc2 => ?_)
    · have h0 : q1 = false := by simpa using hc2
      rw [hg, hs, h0, Bool.false_and, if_neg (by decide)]
      (repeat first | refine uA ?_ | (refine uK ?_ ?_; focus first | omega | (intros; simp_all <;> omega)) | simp (disch := omega) only [go_sem, Nat.reduceBEq, Nat.reduceAdd, ww])
      exact S.done (d9.out rfl (Imp.refl rfl) rfl)
    · have h0 : q1 = true := by simpa using hc2
      (repeat first | refine uA ?_ | (refine uK ?_ ?_; focus first | omega | (intros; simp_all <;> omega)) | simp (disch := omega) only [go_sem, Nat.reduceBEq, Nat.reduceAdd, ww])
      refine S.next (i2 + 1) ⟨by omega, by rw [hg, hs, h0, Bool.true_and]⟩ (by omega) (by (repeat first | refine uA ?_ | (refine ⟨?_, ?_⟩; focus first | rfl | simp [slot]) | rfl | simp))
  rw [a5O (by omega)] at hg
  subst hg
  rw [if_pos rfl]
  (repeat first | refine uA ?_ | (refine uK ?_ ?_; focus first | omega | (intros; simp_all <;> omega)) | simp (disch := omega) only [go_sem, Nat.reduceBEq, Nat.reduceAdd, ww])
  exact S.done (d9.out rfl (Imp.refl rfl) rfl)
open Go Go.RowKit Go.ChangeShapes Go.WideShapes Eng
theorem b9I {H : Type} {l : List (DataW H)} (hk : Rows.uptoSmall H l = true) : Rows.uptoBulkAll l <= 1048576 := of_decide_eq_true hk
theorem b9Q {H : Type} (l r : List (DataW H)) : Rows.uptoBulkAll (l ++ r) = Rows.uptoBulkAll l + Rows.uptoBulkAll r := by
  induction l with
  | nil => simp [Rows.uptoBulkAll]
  | cons x l ih => simp only [List.cons_append, Rows.uptoBulkAll, ih]; omega
def noB : Nat -> Prop := fun _ => False
section
variable {H : Type} {enc : TypeId × Value -> H} {P : Program} {W : World}
def Opens (enc : TypeId × Value -> H) (P : Program) (W : World) (t : TypeId) {α : Type} (tc : α -> List C) (ok : α -> Prop) (ms : α -> Nat) : Prop :=
  ∀ (fuel : Nat) (cs : List Value) (x : DataW H × List MemPlace), DataW.trod enc P W 0 (fun _ => true) true fuel t cs = some x -> ∃ a : α, FzL W noB (tc a) cs /\ (∀ u ∈ cs, u.oneCell' = true) /\ ok a /\ ms a <= Rows.uptoBulk x.1
def I64 (n : Int) : Prop := -9223372036854775808 <= n /\ n <= 9223372036854775807
theorem b5R {t : TypeId} (ht : P.underlying t = some .bool) : Opens enc P W t (fun b : Bool => [.v (.bool b)]) (fun _ => True) fun _ => 1 := by
  intro fuel cs x h
  obtain ⟨b, rfl, rfl⟩ := DataW.trod_bool ht h
  exact ⟨b, by simp [FzL, Fz], by simp [Value.oneCell'], trivial, by simp [Rows.uptoBulk]⟩
theorem b7P {t : TypeId} (ht : P.underlying t = some (.int .i64)) : Opens enc P W t (fun n : Int => [.v (.int .i64 n)]) I64 fun _ => 1 := by
  intro fuel cs x h
  obtain ⟨n, rfl, rfl, hw⟩ := DataW.trod_int ht h
  refine ⟨n, by simp [FzL, Fz], by simp [Value.oneCell'], ?_, by simp [Rows.uptoBulk]⟩
  simpa [Lit.wf, IntKind.min, IntKind.max, IntKind.signed, IntKind.bits, I64] using hw
theorem b8c {t : TypeId} (ht : P.underlying t = some .string) : Opens enc P W t (fun s : ByteArray => [.v (.string s)]) (fun s => s.size <= 9223372036854775807) fun s => s.size + 1 := by
  intro fuel cs x h
  obtain ⟨s, rfl, rfl, hw⟩ := DataW.trod_string ht h
  refine ⟨s, by simp [FzL, Fz], by simp [Value.oneCell'], hw, ?_⟩
  have : s.data.toList.length = s.size := by cases s; simp [ByteArray.size]
  simp only [Rows.uptoBulk, this]
  omega
theorem Opens.imp {t : TypeId} {α β : Type} {tc : α -> List C} {ok : α -> Prop} {ms : α -> Nat} {tc' : β -> List C} {ok' : β -> Prop} {ms' : β -> Nat} (h : Opens enc P W t tc ok ms)
    (f : ∀ a, ok a -> ∃ b, tc a = tc' b /\ ok' b /\ ms' b <= ms a) : Opens enc P W t tc' ok' ms' := by
  intro fuel cs x hx
  obtain ⟨a, h0, h01, h1, h2⟩ := h fuel cs x hx
  obtain ⟨b, h3, h4, h5⟩ := f a h1
  exact ⟨b, by rw [<- h3]; exact h0, h01, h4, Nat.le_trans h5 h2⟩
theorem b8j {w : World} {O : Nat -> Prop} {q : List C} {vs : List Value} {ad : Addr} {j : Nat} (hF : FzL w O q vs) (h1 : ∀ u ∈ vs, u.oneCell' = true) (hc : ∀ i v, vs[i]? = some v -> w.cell? (ad.add (j + i)) = some v) : FzA w O q ad j := FzA.of hF h1 hc
theorem N7 {t e : TypeId} {α : Type} {tc : α -> List C} {ok : α -> Prop} {ms : α -> Nat} {sz : Nat} (ht : P.underlying t = some (.slice e)) (hc : P.cellsOf e = sz) (hsz : 0 < sz) (hlen : ∀ a, (tc a).length = sz)
    (he : Opens enc P W e tc ok ms) : Opens enc P W t (fun xs : List α => [.sl sz (xs.map tc)]) (fun xs => ∀ a ∈ xs, ok a) fun xs => 1 + (xs.map ms).sum := by
  intro fuel cs x h
  rcases Deep.open_slice ht h with ⟨rfl, rfl⟩ | ⟨a, len, cap, m, n, D, Pl, rfl, _, hl, hm, hmm, rfl, hx⟩
  · refine ⟨[], ?_, by simp [Value.oneCell'], (fun a ha => by cases ha), by simp [Rows.uptoBulk]⟩
    simp only [FzL, Fz]
    exact ⟨_, _, rfl, ⟨none, 0, rfl, Nat.le_refl _, Nat.zero_le _, fun h => by simp at h⟩, rfl⟩
  · have hlm : len <= m := by rw [hmm]; split <;> omega
    have key : ∀ i, i < len -> ∃ (y : α) (vs : List Value), W.cells? 0 (a.add (i * sz)) sz = some vs /\ FzL W noB (tc y) vs /\ (∀ u ∈ vs, u.oneCell' = true) /\ ok y /\ ms y <= Rows.uptoBulk (D i) := by
      intro i hi
      obtain ⟨cs', h1, h2⟩ := hx i (by omega)
      obtain ⟨y, h31, h32, h3, h4⟩ := he _ _ _ h2
      rw [hc] at h1
      exact ⟨y, cs', h1, h31, h32, h3, h4⟩
    have build : ∀ k, k <= len -> ∃ xs : List α, xs.length = k /\ (∀ i y, xs[i]? = some y -> ∃ vs, W.cells? 0 (a.add (i * sz)) sz = some vs /\ FzL W noB (tc y) vs /\ (∀ u ∈ vs, u.oneCell' = true) /\ ok y) /\ (xs.map ms).sum <= Rows.uptoBulkAll ((List.range k).map D) := by
      intro k
      induction k with
      | zero => intro _; exact ⟨[], rfl, (fun i y h => by simp at h), by simp⟩
      | succ k ih =>
        intro hk
        obtain ⟨xs, h1, h2, h3⟩ := ih (by omega)
        obtain ⟨y, vs, h4, h41, h42, h5, h6⟩ := key k (by omega)
        refine ⟨xs ++ [y], by simp [h1], fun i z hz => ?_, ?_⟩
        · rcases Nat.lt_or_ge i xs.length with hlt | hge
          · rw [List.getElem?_append_left hlt] at hz
            exact h2 i z hz
          · rw [List.getElem?_append_right hge] at hz
            have : i - xs.length = 0 := by
              rcases Nat.eq_zero_or_pos (i - xs.length) with h0 | h0
              · exact h0
              · obtain ⟨d, hd⟩ : ∃ d, i - xs.length = d + 1 := ⟨i - xs.length - 1, by omega⟩
                rw [hd] at hz; simp at hz
            rw [this] at hz
            simp at hz
            subst hz
            have : i = k := by omega
            subst this
            exact ⟨vs, h4, h41, h42, h5⟩
        · rw [List.map_append, List.sum_append, List.range_succ, List.map_append, b9Q]
          simp only [List.map_cons, List.map_nil, List.sum_cons, List.sum_nil, Rows.uptoBulkAll]
          omega
    obtain ⟨xs, h1, h2, h3⟩ := build len (Nat.le_refl _)
    have hcell : ∀ (i : Nat) (y : α), xs[i]? = some y -> (tc y).length = sz /\ FzA W noB (tc y) a (i * sz) := by
      intro i y hy
      obtain ⟨vs, h4, h41, h42, _⟩ := h2 i y hy
      obtain ⟨_, h5, h6⟩ := World.cells?_some h4
      refine ⟨hlen _, b8j h41 h42 fun j v hv => ?_⟩
      have hj : j < sz := by
        have := (List.getElem?_eq_some_iff.1 hv).1
        rwa [h5] at this
      have h7 := h6 j hj
      rw [hv, Deep.add_add] at h7
      exact h7
    refine ⟨xs, ?_, by simp [Value.oneCell'], fun y hy => ?_, ?_⟩
    · simp only [FzL]
      refine ⟨_, _, rfl, ?_, rfl⟩
      simp only [Fz]
      refine ⟨some a, cap, by simp [h1], by simp; omega, hm, fun h0 => ⟨a, rfl, ?_, (fun h => h), FzE.of fun k q hq => ?_⟩⟩
      · have hi : 0 < xs.length := by simpa using h0
        obtain ⟨hq1, hq2⟩ := hcell 0 xs[0] (List.getElem?_eq_getElem hi)
        have h9 : 0 < (tc xs[0]).length := by omega
        match htc : tc xs[0], h9, hq2 with
        | c :: cs, _, hq2 =>
          simp only [FzA] at hq2
          obtain ⟨⟨v, hv, _⟩, _⟩ := hq2
          have h10 := block_lt_of_cell hv
          rwa [add_block] at h10
      · rw [List.getElem?_map] at hq
        obtain ⟨y, hy, rfl⟩ := Option.map_eq_some_iff.1 hq
        rw [Nat.zero_add]; exact hcell k y hy
    · obtain ⟨i, hi⟩ := List.mem_iff_getElem?.1 hy
      exact (h2 i y hi).choose_spec.2.2.2
    · simp only [Rows.uptoBulk]
      omega
def P9 (P : Program) : List Field -> Nat -> Option Nat
  | [], n => some n
  | f :: fs, n => if f.offset = n then P9 P fs (n + P.cellsOf f.type) else none
def Parts (enc : TypeId × Value -> H) (P : Program) (W : World) (n : Nat) : List TypeId -> List (List Value) -> List (DataW H × List MemPlace) -> Prop
  | [], cs, ys => cs = [] /\ ys = []
  | f :: fs, cs, ys => ∃ c cr y yr, cs = c :: cr /\ ys = y :: yr /\ DataW.trod enc P W 0 (fun _ => true) true n f c = some y /\ Parts enc P W n fs cr yr
theorem b3P {t : TypeId} {fs : Array Field} {fuel : Nat} {cs : List Value} {x : DataW H × List MemPlace} (hu : P.underlying t = some (.struct fs)) (hc : P9 P fs.toList 0 = some (P.cellsOf t)) (h : DataW.trod enc P W 0 (fun _ => true) true fuel t cs = some x) :
    ∃ (n : Nat) (ps : List (List Value)) (ys : List (DataW H × List MemPlace)), cs = ps.flatten /\ x = (.agg (ys.map (·.1)), ys.flatMap (·.2)) /\ Parts enc P W n (fs.toList.map (·.type)) ps ys := by
  obtain ⟨xs, n, rfl, rfl, hlen, hxl, hf⟩ := DataW.trod_struct hu h
  have gen : ∀ (l : List Field) (off tot : Nat) (zs : List (DataW H × List MemPlace)), P9 P l off = some tot -> zs.length = l.length -> (∀ (i : Nat) (f : Field), l[i]? = some f -> DataW.trod enc P W 0 (fun _ => true) true n f.type ((cs.drop f.offset).take (P.cellsOf f.type)) = zs[i]?) ->
      off <= tot /\ ∃ ps, (cs.drop off).take (tot - off) = ps.flatten /\ Parts enc P W n (l.map (·.type)) ps zs := by
    intro l
    induction l with
    | nil =>
      intro off tot zs hc hl _
      simp only [P9, Option.some.injEq] at hc
      subst hc
      have : zs = [] := List.length_eq_zero_iff.1 hl
      subst this
      exact ⟨Nat.le_refl _, [], by simp, rfl, rfl⟩
    | cons f l ih =>
      intro off tot zs hc hl hf
      simp only [P9] at hc
      split at hc
      · rename_i ho
        cases zs with
        | nil => simp at hl
        | cons z zs =>
          obtain ⟨h1, ps, h2, h3⟩ := ih _ tot zs hc (by simpa using hl) fun i g hg => by have := hf (i + 1) g (by simpa using hg); simpa using this
          have h0 := hf 0 f rfl
          rw [ho] at h0
          refine ⟨by omega, ((cs.drop off).take (P.cellsOf f.type)) :: ps, ?_, _, _, _, _, rfl, rfl, h0, h3⟩
          rw [List.flatten_cons, <- h2, <- List.drop_drop]
          have e : tot - off = P.cellsOf f.type + (tot - (off + P.cellsOf f.type)) := by omega
          rw [e, List.take_add]
      · cases hc
  obtain ⟨_, ps, h2, h3⟩ := gen fs.toList 0 _ xs hc (by simpa using hxl) fun i f hi => hf i f (by simpa using hi)
  refine ⟨n, ps, xs, ?_, rfl, h3⟩
  rw [<- h2, Nat.sub_zero, List.drop_zero, <- hlen, List.take_length]
theorem FzL.app {w : World} {O : Nat -> Prop} : ∀ {cs ds : List C} {vs us : List Value}, FzL w O cs vs -> FzL w O ds us -> FzL w O (cs ++ ds) (vs ++ us)
  | [], ds, vs, us, h, k => by simp only [FzL] at h; subst h; simpa using k
  | c :: cs, ds, vs, us, h, k => by
    simp only [FzL] at h
    obtain ⟨y, ys, rfl, h1, h2⟩ := h
    exact ⟨y, ys ++ us, rfl, h1, FzL.app h2 k⟩
def a9s (enc : TypeId × Value -> H) (P : Program) (W : World) (ts : List TypeId) {α : Type} (tc : α -> List C) (ok : α -> Prop) (ms : α -> Nat) : Prop :=
  ∀ (n : Nat) (ps : List (List Value)) (ys : List (DataW H × List MemPlace)), Parts enc P W n ts ps ys -> ∃ a : α, FzL W noB (tc a) ps.flatten /\ (∀ u ∈ ps.flatten, u.oneCell' = true) /\ ok a /\ ms a <= Rows.uptoBulkAll (ys.map (·.1))
theorem M6 : a9s enc P W [] (fun _ : Unit => []) (fun _ => True) fun _ => 0 := by
  rintro n ps ys ⟨rfl, rfl⟩
  exact ⟨(), by simp [FzL], by simp, trivial, Nat.zero_le _⟩
theorem q8 {t : TypeId} {ts : List TypeId} {α β : Type} {tc : α -> List C} {ok : α -> Prop} {ms : α -> Nat} {tc' : β -> List C} {ok' : β -> Prop} {ms' : β -> Nat} (h : Opens enc P W t tc ok ms) (h' : a9s enc P W ts tc' ok' ms') :
    a9s enc P W (t :: ts) (fun p : α × β => tc p.1 ++ tc' p.2) (fun p => ok p.1 /\ ok' p.2) fun p => ms p.1 + ms' p.2 := by
  rintro n ps ys ⟨c, cr, y, yr, rfl, rfl, h1, h2⟩
  obtain ⟨a, a1, a2, a3, a4⟩ := h _ _ _ h1
  obtain ⟨b, b1, b2, b3, b4⟩ := h' _ _ _ h2
  refine ⟨(a, b), by rw [List.flatten_cons]; exact FzL.app a1 b1, fun u hu => ?_, ⟨a3, b3⟩, ?_⟩
  · rw [List.flatten_cons] at hu
    rcases List.mem_append.1 hu with hu | hu
    · exact a2 u hu
    · exact b2 u hu
  · simp only [List.map_cons, Rows.uptoBulkAll]
    omega
theorem K4 {t : TypeId} {fs : Array Field} {ts : List TypeId} {α : Type} {tc : α -> List C} {ok : α -> Prop} {ms : α -> Nat} (hu : P.underlying t = some (.struct fs)) (hts : fs.toList.map (·.type) = ts) (hc : P9 P fs.toList 0 = some (P.cellsOf t)) (h : a9s enc P W ts tc ok ms) :
    Opens enc P W t tc ok fun a => ms a + 1 := by
  intro fuel cs x hx
  obtain ⟨n, ps, ys, rfl, rfl, hp⟩ := b3P hu hc hx
  rw [hts] at hp
  obtain ⟨a, a1, a2, a3, a4⟩ := h _ _ _ hp
  exact ⟨a, a1, a2, a3, by simp only [Rows.uptoBulk]; omega⟩
theorem b9O {f : Func} {s : ChangeSpec} {apart fresh handsOn again : Bool} {W' : World} {args : Array Value} {ds gs : List (DataW H)} {before : List MemPlace} {tb : TypeId} (hl : laidOutB P = true) (hpar : ∀ t ∈ f.params.toList, P.readableRec t = true /\ t < P.types.size)
    (hrt : f.resultTypes = #[tb]) (htb : P.underlying tb = some .bool) (hv : s.vars = []) (hfn : s.fn H (ds ++ gs) = { results := [.lit (.bool true)], args := ds }) (hW : DataW.Whole enc P f.params.toList s.vars apart W args.toList ds gs before) (hb : Below W.heap.size W W') :
    s.post enc P f apart fresh handsOn again W args (.bool true) W' := by
  have hlt : ∀ p ∈ before, p.block < W.heap.size := fun p hp => hW.lt p hp
  obtain ⟨p, q, hA, hV, hps, hz, hn⟩ := id hW
  rw [hv] at hV
  obtain ⟨rfl, rfl⟩ := trodVars_none hV
  rw [List.append_nil] at hps
  subst hps
  have all : ∀ (sp : Nat -> Bool) (ts : List TypeId) (vs : List Value) (es : List (DataW H)) (pl : List MemPlace), (∀ t ∈ ts, P.readableRec t = true /\ t < P.types.size) -> (∀ x ∈ pl, x.block < W.heap.size /\ sp x.block = true) -> DataW.TrodAll enc P W 0 (fun _ => true) true ts vs es pl -> DataW.TrodAll enc P W' 0 sp true ts vs es pl := by
    intro sp ts
    induction ts with
    | nil =>
      intro vs es pl _ _ h
      cases vs <;> cases es <;> simp only [DataW.TrodAll] at h ⊢ <;> exact h
    | cons t ts ih =>
      intro vs es pl hts hpl h
      cases vs <;> cases es <;> simp only [DataW.TrodAll] at h ⊢
      obtain ⟨p1, p2, h1, h2, rfl⟩ := h
      refine ⟨p1, p2, ?_, ih _ _ _ (fun t ht => hts t (List.mem_cons_of_mem _ ht)) (fun x hx => hpl x (List.mem_append_right _ hx)) h2, rfl⟩
      exact WideElems.Trod_stays hl (hts t (List.mem_cons_self ..)).1 (hts t (List.mem_cons_self ..)).2 h1 (fun x hx => hb.same (hpl x (List.mem_append_left _ hx)).1) fun x hx => (hpl x (List.mem_append_left _ hx)).2
  have hres : ∀ (b : Nat) (sp : Nat -> Bool) (hd : Bool), DataW.TrodAll enc P W' b sp hd f.resultTypes.toList ((Value.bool true).resultList f.resultTypes.size) (s.fn H (ds ++ [])).results [] := by
    intro b sp hd
    rw [hrt, hfn]
    exact trodAll_cons_mk (shut_bool htb true) trodAll_mk0
  have hargs : ∀ sp : Nat -> Bool, (∀ p' ∈ before, sp p'.block = true) -> DataW.TrodAll enc P W' 0 sp true f.params.toList args.toList (s.fn H (ds ++ [])).args before := fun sp hsp => by
    rw [hfn]
    exact all sp _ _ _ _ hpar (fun x hx => ⟨hlt x hx, hsp x hx⟩) hA
  have hvars : ∀ sp : Nat -> Bool, DataW.TrodVars enc P W' sp s.vars (s.fn H (ds ++ [])).vars [] := fun sp => by rw [hv, hfn]; rfl
  have hold : ∀ p' ∈ before, (fun b => decide (b < W.heap.size)) p'.block = true := fun p' hp => by simpa using hlt p' hp
  refine ⟨ds, [], before, [], before, [], hW, hres _ _ _, hargs _ hold, hvars _, World.keptBut_mono (fun p' hp => ⟨hp, ?_⟩) (hb.frame (· ∈ before)), fun _ => ⟨ok_one hrt rfl (okWide_bool_mk htb _), _, _, ([] ++ before) ++ [], ⟨[] ++ before, [], trodAll_append (hargs _ (fun _ _ => rfl)) (hres _ _ _), hvars _, rfl, ?_, ?_⟩, ?_⟩⟩
  · exact Or.inr (by simpa using hp)
  · intro b off hp
    have hin : MemPlace.cell b off ∈ before := by simpa using hp
    rw [hb.frozen (hlt _ hin)]
    exact hz b off hin
  · intro ha
    have := hn ha
    simpa using this
  · intro p' hp _
    simpa using hp
end
open Go Go.RowKit Go.ChangeShapes Go.WideShapes Go.ChangeAt Eng
set_option maxRecDepth 10000
theorem b9w : ownKnob Tryz.prog.godebug = none := by kernel_rfl
theorem b9V : laidOutB Tryz.prog = true := by kernel_rfl
theorem gDb : Tryz.prog.globalNamed "math/bits.deBruijn64tab" = some 3 := by kernel_rfl
theorem c1l : (Tryz.prog.globals[3]?).map (·.type) = some 305 := by kernel_rfl
theorem b8S : Tryz.prog.cellsOf 305 = 64 := by kernel_rfl
theorem c1w : Tryz.prog.cellsOf 5 = 1 := by kernel_rfl
theorem b9j : Tryz.prog.underlying 305 = some (.array 64 5) := by kernel_rfl
theorem c2D : Tryz.prog.underlying 5 = some (.int .u8) := by kernel_rfl
theorem c0P : (Rows.laid_math_bits_deBruijn64tab : DataW Unit) = Lib.tabData .u8 (Lib.deBruijn64tab.map fun n : Nat => (n : Int)) := by rfl
theorem c3c {W : World} {rest : List (String × DataW Unit)} (h : laidMet Tryz.prog (("math/bits.deBruijn64tab", Rows.laid_math_bits_deBruijn64tab) :: rest) W) : Wz W := by
  rw [c0P] at h
  have ht := Lib.tabIs_of_head gDb c1l b9j c2D c1w b8S h
  intro j hj
  have := ht.cell gDb j (by rw [List.length_map]; exact hj)
  rw [this]
  congr 2
  rw [List.getD_eq_getElem?_getD, List.getD_eq_getElem?_getD, List.getElem?_map, List.getElem?_eq_getElem hj]
  rfl
section
variable {H : Type} {enc : TypeId × Value -> H} {W : World}
end
noncomputable def laidWorld (os : Os) : World := World.doorLaid Tryz.prog 400 os
theorem b4P {α : Type} {f : α -> Nat} : ∀ {l : List α} {x : α}, x ∈ l -> f x <= (l.map f).sum
  | y :: l, x, h => by
    rw [List.map_cons, List.sum_cons]
    rcases List.mem_cons.1 h with rfl | h
    · omega
    · have := b4P (f := f) h; omega
theorem b0s {α : Type} {f : α -> Nat} (hf : ∀ x, 1 <= f x) : ∀ (l : List α), l.length <= (l.map f).sum
  | [] => Nat.le_refl _
  | y :: l => by
    have h1 := hf y
    have h2 := b0s hf l
    rw [List.map_cons, List.sum_cons, List.length_cons]; omega
def rtM (a : Nm.Rt) : Nat := 3 + a.num.length + a.den.length
def vtM (v : Vt) : Nat := rtM v.x + rtM v.y
def frM (f : Fr) : Nat := rtM f.x + rtM f.y + rtM f.t
def lsM {α : Type} (f : α -> Nat) (l : List α) : Nat := 1 + (l.map f).sum
def lkM (l : Lk) : Nat := rtM l.length + rtM l.low + rtM l.high + rtM l.speed + rtM l.a0E + lsM vtM l.shape
def amM (a : Am) : Nat := a.name.length + frM a.base + lsM lkM a.links
def ptM (p : Pt) : Nat := p.name.length + lsM vtM p.shape + frM p.X5
def slM (s : Sl) : Nat := s.name.length + frM s.frame + rtM s.within
def gtM (g : Gt) : Nat := g.name.length + vtM g.low + vtM g.high
def wkM (w : Wk) : Nat := lsM amM w.arms + lsM (lsM vtM) w.walls + lsM ptM w.parts + lsM slM w.slots + lsM gtM w.gates + rtM w.walk
def asM (x : Ast) : Nat := lsM rtM x.q + lsM rtM x.v + 1
def stM (s : Stt) : Nat := lsM asM s.arms + lsM frM s.parts + lsM vtM s.people + lsM (fun _ => 1) s.gates + 1
theorem a2q {a : Nm.Rt} {k : Nat} (h : rtM a <= k) : Rb k a := by unfold rtM at h; exact ⟨by omega, by omega⟩
theorem b9W {a : Vt} {k : Nat} (h : vtM a <= k) : Vb k a := by unfold vtM at h; exact ⟨a2q (by omega), a2q (by omega)⟩
theorem b5t {a : Fr} {k : Nat} (h : frM a <= k) : Fb k a := by unfold frM at h; exact ⟨a2q (by omega), a2q (by omega), a2q (by omega)⟩
theorem a3u {α : Type} {f : α -> Nat} {l : List α} {k : Nat} (hf : ∀ x, 1 <= f x) (h : lsM f l <= k) : l.length <= k /\ ∀ x ∈ l, f x <= k := by
  unfold lsM at h
  have := b0s hf l
  exact ⟨by omega, fun x hx => by have := b4P (f := f) hx; omega⟩
theorem a2f (a : Nm.Rt) : 1 <= rtM a := by unfold rtM; omega
theorem b0f (a : Vt) : 1 <= vtM a := by have := a2f a.x; unfold vtM; omega
theorem a5n (a : Fr) : 1 <= frM a := by have := a2f a.x; unfold frM; omega
theorem c1s {α : Type} (f : α -> Nat) (l : List α) : 1 <= lsM f l := by unfold lsM; omega
theorem c1u (a : Lk) : 1 <= lkM a := by have := a2f a.length; unfold lkM; omega
theorem c1f (a : Am) : 1 <= amM a := by have := a5n a.base; unfold amM; omega
theorem c0E (a : Pt) : 1 <= ptM a := by have := a5n a.X5; unfold ptM; omega
theorem c0D (a : Sl) : 1 <= slM a := by have := a5n a.frame; unfold slM; omega
theorem c1A (a : Gt) : 1 <= gtM a := by have := b0f a.low; unfold gtM; omega
theorem b5h (a : Ast) : 1 <= asM a := by unfold asM; omega
theorem b1W {l : List Vt} {k : Nat} (h : lsM vtM l <= k) : Vbs k l := by
  obtain ⟨h1, h2⟩ := a3u b0f h
  exact ⟨h1, fun x hx => b9W (h2 x hx)⟩
theorem c3o {w : Wk} {k : Nat} (h : wkM w <= k) : Wb k w := by
  unfold wkM at h
  obtain ⟨a1, a2⟩ := a3u c1f (show lsM amM w.arms <= k by omega)
  obtain ⟨b1, b2⟩ := a3u (c1s vtM) (show lsM (lsM vtM) w.walls <= k by omega)
  obtain ⟨c1, c2⟩ := a3u c0E (show lsM ptM w.parts <= k by omega)
  obtain ⟨d1, d2⟩ := a3u c0D (show lsM slM w.slots <= k by omega)
  obtain ⟨e1, e2⟩ := a3u c1A (show lsM gtM w.gates <= k by omega)
  refine ⟨⟨a1, fun x hx => ?_⟩, ⟨b1, fun x hx => b1W (b2 x hx)⟩, ⟨c1, fun x hx => ?_⟩, ⟨d1, fun x hx => ?_⟩, ⟨e1, fun x hx => ?_⟩, a2q (by omega)⟩
  · have := a2 x hx
    unfold amM at this
    obtain ⟨f1, f2⟩ := a3u c1u (show lsM lkM x.links <= k by omega)
    refine ⟨by omega, b5t (by omega), f1, fun l hl => ?_⟩
    have := f2 l hl
    unfold lkM at this
    exact ⟨a2q (by omega), a2q (by omega), a2q (by omega), a2q (by omega), a2q (by omega), b1W (by omega)⟩
  · have := c2 x hx
    unfold ptM at this
    exact ⟨by omega, b1W (by omega), b5t (by omega)⟩
  · have := d2 x hx
    unfold slM at this
    exact ⟨by omega, b5t (by omega), a2q (by omega)⟩
  · have := e2 x hx
    unfold gtM at this
    exact ⟨by omega, b9W (by omega), b9W (by omega)⟩
theorem c2E {s : Stt} {k : Nat} (h : stM s <= k) : Stb k s := by
  unfold stM at h
  obtain ⟨a1, a2⟩ := a3u b5h (show lsM asM s.arms <= k by omega)
  obtain ⟨b1, b2⟩ := a3u a5n (show lsM frM s.parts <= k by omega)
  obtain ⟨c1, _⟩ := a3u (fun _ => Nat.le_refl _) (show lsM (fun _ => 1) s.gates <= k by omega)
  refine ⟨⟨a1, fun x hx => ?_⟩, ⟨b1, fun x hx => b5t (b2 x hx)⟩, b1W (by omega), c1⟩
  have := a2 x hx
  unfold asM at this
  obtain ⟨d1, d2⟩ := a3u a2f (show lsM rtM x.q <= k by omega)
  obtain ⟨e1, e2⟩ := a3u a2f (show lsM rtM x.v <= k by omega)
  exact ⟨⟨d1, fun r hr => a2q (d2 r hr)⟩, e1, fun r hr => a2q (e2 r hr)⟩
section
variable {H : Type} {enc : TypeId × Value -> H} {W : World}
theorem o_b : Opens enc Tryz.prog W 4 (fun b : Bool => [.v (.bool b)]) (fun _ => True) fun _ => 1 := b5R Tryz.underlying4
theorem o_i : Opens enc Tryz.prog W 3 (fun n : Int => [.v (.int .i64 n)]) I64 fun _ => 1 := b7P Tryz.underlying3
theorem o_s : Opens enc Tryz.prog W 9 (fun l : List UInt8 => [sb l]) (fun _ => True) fun l => l.length + 1 :=
  (b8c Tryz.underlying9).imp fun s _ => ⟨s.data.toList, by simp only [sb, c0W], trivial, by have h : s.data.toList.length = s.size := (by cases s; simp [ByteArray.size]); omega⟩
theorem b7A : ∃ fs, Tryz.prog.underlying 29 = some (.struct fs) /\ fs.toList.map (·.type) = [4, 9, 9] /\ P9 Tryz.prog fs.toList 0 = some (Tryz.prog.cellsOf 29) := ⟨_, Tryz.underlying29, rfl, by kernel_rfl⟩
theorem b9o : Tryz.prog.cellsOf 29 = 3 := by kernel_rfl
theorem a3Y : Opens enc Tryz.prog W 29 rcs (fun _ => True) rtM := by
  obtain ⟨fs, h1, h2, h3⟩ := b7A
  refine (K4 h1 h2 h3 (q8 o_b (q8 o_s (q8 o_s M6)))).imp ?_
  rintro ⟨a, b, c, _⟩ hok
  exact ⟨⟨a, b, c⟩, rfl, trivial, by simp only [rtM]; omega⟩
theorem b6W : ∃ fs, Tryz.prog.underlying 51 = some (.struct fs) /\ fs.toList.map (·.type) = [29, 29] /\ P9 Tryz.prog fs.toList 0 = some (Tryz.prog.cellsOf 51) := ⟨_, Tryz.underlying51, rfl, by kernel_rfl⟩
theorem b9k : Tryz.prog.cellsOf 51 = 6 := by kernel_rfl
theorem b6t : Opens enc Tryz.prog W 51 Vt.enc (fun _ => True) vtM := by
  obtain ⟨fs, h1, h2, h3⟩ := b6W
  refine (K4 h1 h2 h3 (q8 a3Y (q8 a3Y M6))).imp ?_
  rintro ⟨a, b, _⟩ hok
  exact ⟨⟨a, b⟩, rfl, trivial, by simp only [vtM]; omega⟩
theorem b7M : ∃ fs, Tryz.prog.underlying 53 = some (.struct fs) /\ fs.toList.map (·.type) = [4, 29] /\ P9 Tryz.prog fs.toList 0 = some (Tryz.prog.cellsOf 53) := ⟨_, Tryz.underlying53, rfl, by kernel_rfl⟩
theorem c3n : Opens enc Tryz.prog W 53 (fun p : Bool × Nm.Rt => .v (.bool p.1) :: rcs p.2) (fun _ => True) fun p => rtM p.2 := by
  obtain ⟨fs, h1, h2, h3⟩ := b7M
  refine (K4 h1 h2 h3 (q8 o_b (q8 a3Y M6))).imp ?_
  rintro ⟨a, b, _⟩ hok
  exact ⟨⟨a, b⟩, rfl, trivial, by simp only; omega⟩
theorem b8i : ∃ fs, Tryz.prog.underlying 55 = some (.struct fs) /\ fs.toList.map (·.type) = [51, 53] /\ P9 Tryz.prog fs.toList 0 = some (Tryz.prog.cellsOf 55) := ⟨_, Tryz.underlying55, rfl, by kernel_rfl⟩
theorem b9n : Tryz.prog.cellsOf 55 = 10 := by kernel_rfl
theorem b6H : Opens enc Tryz.prog W 55 Fr.enc (fun _ => True) frM := by
  obtain ⟨fs, h1, h2, h3⟩ := b8i
  refine (K4 h1 h2 h3 (q8 b6t (q8 c3n M6))).imp ?_
  rintro ⟨⟨x, y⟩, ⟨h, t⟩, _⟩ hok
  exact ⟨⟨x, y, h, t⟩, rfl, trivial, by simp only [frM, vtM]; omega⟩
theorem b1X : Opens enc Tryz.prog W 34 (fun l => [vts l]) (fun _ => True) (lsM vtM) :=
  (N7 Tryz.underlying34 b9k (by decide) (fun _ => rfl) b6t).imp fun l hl => ⟨l, rfl, trivial, Nat.le_refl _⟩
theorem b7U : Tryz.prog.cellsOf 34 = 1 := by kernel_rfl
theorem b7j : ∃ fs, Tryz.prog.underlying 158 = some (.struct fs) /\ fs.toList.map (·.type) = [29, 29, 29, 29, 29, 34] /\ P9 Tryz.prog fs.toList 0 = some (Tryz.prog.cellsOf 158) := ⟨_, Tryz.underlying158, rfl, by kernel_rfl⟩
theorem b8M : Tryz.prog.cellsOf 158 = 16 := by kernel_rfl
theorem c3y : Opens enc Tryz.prog W 158 Lk.enc (fun _ => True) lkM := by
  obtain ⟨fs, h1, h2, h3⟩ := b7j
  refine (K4 h1 h2 h3 (q8 a3Y (q8 a3Y (q8 a3Y (q8 a3Y (q8 a3Y (q8 b1X M6))))))).imp ?_
  rintro ⟨a, b, c, d, e, f, _⟩ hok
  exact ⟨⟨a, b, c, d, e, f⟩, rfl, trivial, by simp only [lkM]; omega⟩
theorem c3f : Opens enc Tryz.prog W 74 (fun l => [lks l]) (fun _ => True) (lsM lkM) :=
  (N7 Tryz.underlying74 b8M (by decide) (fun _ => rfl) c3y).imp fun l hl => ⟨l, rfl, trivial, Nat.le_refl _⟩
theorem b7c : ∃ fs, Tryz.prog.underlying 76 = some (.struct fs) /\ fs.toList.map (·.type) = [9, 55, 74] /\ P9 Tryz.prog fs.toList 0 = some (Tryz.prog.cellsOf 76) := ⟨_, Tryz.underlying76, rfl, by kernel_rfl⟩
theorem b9C : Tryz.prog.cellsOf 76 = 12 := by kernel_rfl
theorem c3x : Opens enc Tryz.prog W 76 Am.enc (fun _ => True) amM := by
  obtain ⟨fs, h1, h2, h3⟩ := b7c
  refine (K4 h1 h2 h3 (q8 o_s (q8 b6H (q8 c3f M6)))).imp ?_
  rintro ⟨a, b, c, _⟩ hok
  exact ⟨⟨a, b, c⟩, rfl, trivial, by simp only [amM]; omega⟩
theorem c3d : Opens enc Tryz.prog W 23 (fun l => [ams l]) (fun _ => True) (lsM amM) :=
  (N7 Tryz.underlying23 b9C (by decide) (fun _ => rfl) c3x).imp fun l hl => ⟨l, rfl, trivial, Nat.le_refl _⟩
theorem c3i : Opens enc Tryz.prog W 24 (fun l => [wls l]) (fun _ => True) (lsM (lsM vtM)) :=
  (N7 Tryz.underlying24 b7U (by decide) (fun _ => rfl) b1X).imp fun l hl => ⟨l, rfl, trivial, Nat.le_refl _⟩
theorem b8z : ∃ fs, Tryz.prog.underlying 80 = some (.struct fs) /\ fs.toList.map (·.type) = [9, 34, 55] /\ P9 Tryz.prog fs.toList 0 = some (Tryz.prog.cellsOf 80) := ⟨_, Tryz.underlying80, rfl, by kernel_rfl⟩
theorem b9L : Tryz.prog.cellsOf 80 = 12 := by kernel_rfl
theorem c3p : Opens enc Tryz.prog W 80 Pt.enc (fun _ => True) ptM := by
  obtain ⟨fs, h1, h2, h3⟩ := b8z
  refine (K4 h1 h2 h3 (q8 o_s (q8 b1X (q8 b6H M6)))).imp ?_
  rintro ⟨a, b, c, _⟩ hok
  exact ⟨⟨a, b, c⟩, rfl, trivial, by simp only [ptM]; omega⟩
theorem c2O : Opens enc Tryz.prog W 25 (fun l => [pts l]) (fun _ => True) (lsM ptM) :=
  (N7 Tryz.underlying25 b9L (by decide) (fun _ => rfl) c3p).imp fun l hl => ⟨l, rfl, trivial, Nat.le_refl _⟩
theorem b6N : ∃ fs, Tryz.prog.underlying 57 = some (.struct fs) /\ fs.toList.map (·.type) = [9, 55, 29] /\ P9 Tryz.prog fs.toList 0 = some (Tryz.prog.cellsOf 57) := ⟨_, Tryz.underlying57, rfl, by kernel_rfl⟩
theorem b8N : Tryz.prog.cellsOf 57 = 14 := by kernel_rfl
theorem c3m : Opens enc Tryz.prog W 57 Sl.enc (fun _ => True) slM := by
  obtain ⟨fs, h1, h2, h3⟩ := b6N
  refine (K4 h1 h2 h3 (q8 o_s (q8 b6H (q8 a3Y M6)))).imp ?_
  rintro ⟨a, b, c, _⟩ hok
  exact ⟨⟨a, b, c⟩, rfl, trivial, by simp only [slM]; omega⟩
theorem c2L : Opens enc Tryz.prog W 26 (fun l => [sls l]) (fun _ => True) (lsM slM) :=
  (N7 Tryz.underlying26 b8N (by decide) (fun _ => rfl) c3m).imp fun l hl => ⟨l, rfl, trivial, Nat.le_refl _⟩
theorem b7E : ∃ fs, Tryz.prog.underlying 114 = some (.struct fs) /\ fs.toList.map (·.type) = [51, 51] /\ P9 Tryz.prog fs.toList 0 = some (Tryz.prog.cellsOf 114) := ⟨_, Tryz.underlying114, rfl, by kernel_rfl⟩
theorem c3u : Opens enc Tryz.prog W 114 (fun p : Vt × Vt => p.1.enc ++ p.2.enc) (fun _ => True) fun p => vtM p.1 + vtM p.2 := by
  obtain ⟨fs, h1, h2, h3⟩ := b7E
  refine (K4 h1 h2 h3 (q8 b6t (q8 b6t M6))).imp ?_
  rintro ⟨a, b, _⟩ hok
  exact ⟨⟨a, b⟩, rfl, trivial, by simp only; omega⟩
theorem b7f : ∃ fs, Tryz.prog.underlying 116 = some (.struct fs) /\ fs.toList.map (·.type) = [9, 114] /\ P9 Tryz.prog fs.toList 0 = some (Tryz.prog.cellsOf 116) := ⟨_, Tryz.underlying116, rfl, by kernel_rfl⟩
theorem b8Q : Tryz.prog.cellsOf 116 = 13 := by kernel_rfl
theorem c3A : Opens enc Tryz.prog W 116 Gt.enc (fun _ => True) gtM := by
  obtain ⟨fs, h1, h2, h3⟩ := b7f
  refine (K4 h1 h2 h3 (q8 o_s (q8 c3u M6))).imp ?_
  rintro ⟨a, ⟨b, c⟩, _⟩ hok
  exact ⟨⟨a, b, c⟩, rfl, trivial, by simp only [gtM]; omega⟩
theorem c2Z : Opens enc Tryz.prog W 27 (fun l => [gts l]) (fun _ => True) (lsM gtM) :=
  (N7 Tryz.underlying27 b8Q (by decide) (fun _ => rfl) c3A).imp fun l hl => ⟨l, rfl, trivial, Nat.le_refl _⟩
theorem b8o : ∃ fs, Tryz.prog.underlying 31 = some (.struct fs) /\ fs.toList.map (·.type) = [23, 24, 25, 26, 27, 29] /\ P9 Tryz.prog fs.toList 0 = some (Tryz.prog.cellsOf 31) := ⟨_, Tryz.underlying31, rfl, by kernel_rfl⟩
theorem c3s : Opens enc Tryz.prog W 31 Wk.enc (fun _ => True) wkM := by
  obtain ⟨fs, h1, h2, h3⟩ := b8o
  refine (K4 h1 h2 h3 (q8 c3d (q8 c3i (q8 c2O (q8 c2L (q8 c2Z (q8 a3Y M6))))))).imp ?_
  rintro ⟨a, b, c, d, e, f, _⟩ hok
  exact ⟨⟨a, b, c, d, e, f⟩, rfl, trivial, by simp only [wkM]; omega⟩
theorem c0q : Opens enc Tryz.prog W 88 (fun l => [rts l]) (fun _ => True) (lsM rtM) :=
  (N7 Tryz.underlying88 b9o (by decide) (fun _ => rfl) a3Y).imp fun l hl => ⟨l, rfl, trivial, Nat.le_refl _⟩
theorem b6O : ∃ fs, Tryz.prog.underlying 90 = some (.struct fs) /\ fs.toList.map (·.type) = [88, 88, 4, 3] /\ P9 Tryz.prog fs.toList 0 = some (Tryz.prog.cellsOf 90) := ⟨_, Tryz.underlying90, rfl, by kernel_rfl⟩
theorem b9Y : Tryz.prog.cellsOf 90 = 4 := by kernel_rfl
theorem c3B : Opens enc Tryz.prog W 90 Ast.enc (Aok) asM := by
  obtain ⟨fs, h1, h2, h3⟩ := b6O
  refine (K4 h1 h2 h3 (q8 c0q (q8 c0q (q8 o_b (q8 o_i M6))))).imp ?_
  rintro ⟨a, b, c, d, _⟩ hok
  exact ⟨⟨a, b, c, d⟩, rfl, hok.2.2.2.1, by simp only [asM]; omega⟩
theorem c1K : Opens enc Tryz.prog W 32 (fun l => [I8 l]) (fun l => ∀ x ∈ l, Aok x) (lsM asM) :=
  (N7 Tryz.underlying32 b9Y (by decide) (fun _ => rfl) c3B).imp fun l hl => ⟨l, rfl, hl, Nat.le_refl _⟩
theorem c3l : Opens enc Tryz.prog W 33 (fun l => [frs l]) (fun _ => True) (lsM frM) :=
  (N7 Tryz.underlying33 b9n (by decide) (fun _ => rfl) b6H).imp fun l hl => ⟨l, rfl, trivial, Nat.le_refl _⟩
theorem c1q : Tryz.prog.cellsOf 4 = 1 := by kernel_rfl
theorem c3h : Opens enc Tryz.prog W 35 (fun l => [bls l]) (fun _ => True) (lsM fun _ => 1) :=
  (N7 Tryz.underlying35 c1q (by decide) (fun _ => rfl) o_b).imp fun l hl => ⟨l, rfl, trivial, Nat.le_refl _⟩
theorem b8d : ∃ fs, Tryz.prog.underlying 37 = some (.struct fs) /\ fs.toList.map (·.type) = [3, 32, 33, 34, 35] /\ P9 Tryz.prog fs.toList 0 = some (Tryz.prog.cellsOf 37) := ⟨_, Tryz.underlying37, rfl, by kernel_rfl⟩
theorem c1T : Opens enc Tryz.prog W 37 Stt.enc (Sok) stM := by
  obtain ⟨fs, h1, h2, h3⟩ := b8d
  refine (K4 h1 h2 h3 (q8 o_i (q8 c1K (q8 c3l (q8 b1X (q8 c3h M6)))))).imp ?_
  rintro ⟨a, b, c, d, e, _⟩ hok
  exact ⟨⟨a, b, c, d, e⟩, rfl, ⟨hok.1, hok.2.1⟩, by simp only [stM]; omega⟩
end
theorem b5i (u : Nat) : (V5 u).length <= u + 1 := by
  induction u using V5.induct with
  | case1 u h => rw [a2P h]; simp
  | case2 u h ih => rw [a1X h, List.length_cons]; omega
theorem a4W (b : Bool) : (a0W b).length = 1 := by cases b <;> rfl
theorem b5n (n : Int) : (a5R n).length <= 10 := b9N n
theorem b3D (l : List UInt8) : (a3H l).length <= 2 * l.length + 1 := by
  have := b5i l.length
  unfold a3H; rw [List.length_append]; omega
theorem a2E (a : Nm.Rt) : (R8 a).length <= 10 * rtM a := by
  have h1 := b3D a.num
  have h2 := b3D a.den
  have h3 := a4W a.neg
  unfold R8 rtM; simp only [List.length_append]; omega
theorem a2O {α : Type} {f : α -> List UInt8} {m : α -> Nat} {c : Nat} (hm : ∀ x, 1 <= m x) (h : ∀ x, (f x).length <= c * m x) (l : List α) : (J2 f l).length <= (c + 1) * lsM m l := by
  have h1 : ∀ l : List α, (l.flatMap f).length <= c * (l.map m).sum := fun l => by
    induction l with
    | nil => simp
    | cons x l ih =>
      have := h x
      rw [List.flatMap_cons, List.length_append, List.map_cons, List.sum_cons, Nat.mul_add]; omega
  have h2 := b5i l.length
  have h3 := b0s hm l
  have h4 := h1 l
  unfold J2 lsM
  rw [List.length_append, Nat.add_mul, Nat.mul_add, Nat.mul_add]
  omega
theorem b0B (s : Stt) : (a0F s).length <= 40 * stM s := by
  have h1 := b5n s.tick
  have h2 : ∀ x : Ast, (a4p x).length <= 22 * asM x := fun x => by
    have a1 := a2O a2f a2E x.q
    have a2 := a2O a2f a2E x.v
    have a3 := a4W x.power
    have a4 := b5n (IntKind.i64.wrap (x.holds + 1))
    unfold a4p asM; simp only [List.length_append]; omega
  have h3 : ∀ f : Fr, (frB f).length <= 11 * frM f := fun f => by
    have a1 := a2E f.x
    have a2 := a2E f.y
    have a3 := a4W f.half
    have a4 := a2E f.t
    have := a2f f.x
    unfold frB frM; simp only [List.length_append]; omega
  have h4 : ∀ v : Vt, (a3w v).length <= 10 * vtM v := fun f => by
    have a1 := a2E f.x
    have a2 := a2E f.y
    unfold a3w vtM; simp only [List.length_append]; omega
  have b2 := a2O b5h h2 s.arms
  have b3 := a2O a5n h3 s.parts
  have b4 := a2O b0f h4 s.people
  have b5 := a2O (f := a0W) (m := fun _ => 1) (c := 1) (fun _ => Nat.le_refl _) (fun b => by rw [a4W]; omega) s.gates
  unfold a0F stM; simp only [List.length_append]; omega
theorem a5x {α : Type} {f : α -> Nat} {n b : Nat} : ∀ {l : List α}, l.length <= n -> (∀ x ∈ l, f x <= b) -> lsM f l <= 1 + n * b := by
  intro l hn hb
  have h1 : ∀ l : List α, (∀ x ∈ l, f x <= b) -> (l.map f).sum <= l.length * b := fun l => by
    induction l with
    | nil => intro _; simp
    | cons x l ih =>
      intro h
      have h2 := h x (by simp)
      have h3 := ih fun y hy => h y (by simp [hy])
      rw [List.map_cons, List.sum_cons, List.length_cons, Nat.add_mul]; omega
  have h2 := h1 l hb
  have h3 := Nat.mul_le_mul_right b hn
  unfold lsM; omega
structure Stc (k : Nat) (s : Stt) : Prop where
  arms : s.arms.length <= 4 /\ ∀ x ∈ s.arms, (x.q.length <= 3 /\ ∀ r ∈ x.q, Rb k r) /\ (x.v.length <= 3 /\ ∀ r ∈ x.v, Rb k r)
  parts : s.parts.length <= 6 /\ ∀ f ∈ s.parts, Fb k f
  people : s.people.length <= 4 /\ ∀ v ∈ s.people, Vb k v
  gates : s.gates.length <= 4
theorem c2r {s : Stt} {k : Nat} (h : Stc k s) : stM s <= 100 * (2 * k + 3) + 100 := by
  obtain ⟨⟨a1, a2⟩, ⟨b1, b2⟩, ⟨c1, c2⟩, d1⟩ := h
  have hr : ∀ r : Nm.Rt, Rb k r -> rtM r <= 2 * k + 3 := fun r hr => by have := hr.1; have := hr.2; unfold rtM; omega
  generalize 2 * k + 3 = m at *
  have e1 := a5x (f := asM) (b := 6 * m + 3) a1 fun x hx => by
    obtain ⟨⟨q1, q2⟩, v1, v2⟩ := a2 x hx
    have f1 := a5x q1 fun r h => hr r (q2 r h)
    have f2 := a5x v1 fun r h => hr r (v2 r h)
    unfold asM; omega
  have e2 := a5x (f := frM) (b := 3 * m) b1 fun f hf => by
    obtain ⟨f1, f2, f3⟩ := b2 f hf
    have := hr _ f1; have := hr _ f2; have := hr _ f3
    unfold frM; omega
  have e3 := a5x (f := vtM) (b := 2 * m) c1 fun v hv => by
    obtain ⟨f1, f2⟩ := c2 v hv
    have := hr _ f1; have := hr _ f2
    unfold vtM; omega
  have e4 := a5x (f := fun _ : Bool => 1) (b := 1) d1 fun _ _ => Nat.le_refl _
  unfold stM; omega
theorem b8K {w : Wk} (h : I9 w = 0) : ∀ s ∈ w.slots, okF s.frame = true := by
  have h1 : F4 id (a1y w) = 0 := by
    unfold I9 at h
    split at h
    · cases h
    · split at h
      · cases h
      · split at h
        · rename_i h2; exact absurd h h2
        · exact Classical.not_not.1 (by assumption)
  have h2 : ∃ n, (r9 P5 n w.slots).1 = 0 := ⟨(r9 R9 (r9 V3 [] w.arms).2 w.parts).2, a7u h1 _ (by unfold a1y; simp)⟩
  obtain ⟨n, h2⟩ := h2
  have key : ∀ (l : List Sl) (n : Nms), (r9 P5 n l).1 = 0 -> ∀ s ∈ l, okF s.frame = true := by
    intro l
    induction l with
    | nil => intro n _ a ha; cases ha
    | cons x l ih =>
      intro n hn a ha
      have hx : (P5 n x).1 = 0 := by
        unfold r9 at hn
        split at hn
        · assumption
        · exact hn
      unfold r9 at hn
      rw [if_pos hx] at hn
      rcases List.mem_cons.1 ha with rfl | ha
      · unfold P5 at hx
        split at hx
        · rename_i h3; exact absurd hx h3
        · simp only at hx
          split at hx
          · rename_i h4
            simp only [Bool.and_eq_true] at h4
            exact h4.1.1.1
          · cases hx
      · exact ih _ hn a ha
  exact key _ _ h2
theorem b7g {w : Wk} (hw : Wb 1048576 w) (h : a0u w (H8 w) = 0) (hs : ∀ s ∈ w.slots, okF s.frame = true) : Stc 1048576 (H8 w) := by
  have ho := b3C h
  have ha : ∀ a ∈ w.arms, N8 a = 0 := b0k ho.works
  have hb := b3e (k := 1048576) (by decide) hw ha hs
  refine ⟨⟨by have := ho.arms; have := ho.big; omega, fun x hx => ?_⟩, ⟨by have := ho.parts; have := ho.big; omega, hb.parts.2⟩, ⟨ho.people, hb.people.2⟩, by have := ho.gates; have := ho.big; omega⟩
  obtain ⟨a, hm, rfl⟩ := List.mem_map.1 (show x ∈ w.arms.map M7 from hx)
  obtain ⟨b1, b2⟩ := hb.arms.2 _ hx
  have := b6C (ha a hm)
  exact ⟨⟨by simp only [M7, List.length_map]; omega, b1.2⟩, by simp only [M7, List.length_map]; omega, b2.2⟩
def a0S : F5 := ⟨6, [.tmp 2], .seq (.reg [OA 1 (.box 29 (TT 0)), OA 2 (.mv (.const (.bool false)))]) (.seq (.reg [LL 3 3 1, OA 4 (.call 15 [TT 3]), OA 5 (.bin .neq (TT 4) (II 0)), MM 2 5]) .ret)⟩
theorem a3I : C8 eff Tryz.prog Tryz.f45 = some a0S := by kernel_rfl
theorem a3Q : Tryz.prog.funcs[45]? = some Tryz.f45 := Tryz.func45
set_option maxRecDepth 100000
theorem c3k (a : Nm.Rt) (ha : Rb 17179869184 a) : FZ 45 [rc a] (.v (.bool (!decide (A8 (Nm.j3 a) = 0)))) := by
  refine q9.of a3Q a3I (by exact Nat.le_of_ble_eq_true rfl) fun w O hw => ?_
  have h := O3 a ha
  generalize A8 (Nm.j3 a) = n at *
  simp only [a0S, l6, TT, II, OA, OB, OC, MM, LL, VV, FF, MG, LG, VG, FG]
  simp only [rc, sb, ints] at *
  (repeat first | refine uA ?_ | (refine uK ?_ ?_; focus first | omega | (intros; simp_all <;> omega)) | simp (disch := omega) only [go_sem, Nat.reduceBEq, Nat.reduceAdd, ww] | (refine uD h ?_ ?_ ?_; exact tz hw; exact rfl))
  exact S.done (d9.out rfl (Imp.refl rfl) rfl)
theorem b1F (w : Wk) (s t : Stt) (hwb : Wb 1048576 w) (hs : Stb 1048576 s) (ht : Stb 1048576 t) (ks : Sok s) (kt : Sok t) (ls : (a0F s).length <= 140737488355328) (lt : (a0F t).length <= 140737488355328) :
    FZ 5 [w.c, s.c, t.c] (.v (.bool true)) := by
  refine q9.of (eff := eff) Tryz.func5 (by conv => { lhs; cbv }) (by exact Nat.le_of_ble_eq_true rfl) fun w' O hw => ?_
  have hwb' : Wb 1073741824 w := hwb.mono (by decide)
  have hs' : Stb 1073741824 s := hs.mono (by decide)
  have ht' : Stb 1073741824 t := ht.mono (by decide)
  have c1 : callable Tryz.prog 45 = true := by kernel_rfl
  have o1 := b2I
  have o2 := a8E w s hwb' hs'
  have o3 := b8V w s hwb' hs'
  have o4 := a9h s t hs' ht'
  have o5 := a8r s t hs' ht' ls lt
  have o6 := c2u s hs'
  have o7 := a9h s s hs' hs'
  rw [show decide (a0F s = a0F t) = decide (s = t) from decide_eq_decide.2 ⟨b9z ks kt, fun h => by rw [h]⟩] at o5
  rw [decide_eq_true rfl] at o7
  have hmv := fun x hx => b9H x (hs'.arms.2 x hx)
  have hhs := fun x hx => a8W 45 (by kernel_rfl) (fun v => !decide (A8 (Nm.j3 v) = 0)) x.v (by have := (hs'.arms.2 x hx).2.1; omega) (fun v hv => c3k v (((hs'.arms.2 x hx).2.2 v hv).mono (by decide)))
  have hmm : ∀ x : Ast, (x.v.any fun v => !decide (A8 (Nm.j3 v) = 0)) = a9p x := fun _ => rfl
  simp only [hmm] at hhs
  have n1 := hs.arms.1
  have p1 := b3d w hwb'
  have p2 : I9 w ≠ 0 -> FZ 46 [w.c] (.tup [.agg b1T, ints (I9 w)]) := b4r w hwb'
  have p3 := a9h a4w a4w b0p b0p
  rw [decide_eq_true rfl] at p3
  have p4 : I9 w = 0 -> FZ 46 [w.c] (.tup [(H8 w).c, ints 0]) := b4G w hwb'
  have p5 : I9 w = 0 -> FZ 47 [w.c] (H8 w).c := b2l w hwb'
  have p6 : I9 w = 0 -> l7 Tryz.prog 41 [(H8 w).c, (H8 w).c] (.v (.bool true)) := fun h => by
    have ha := b0k h
    have hsl := b8K h
    have h0 := b2b h ha hsl
    have hf := b1f hwb' ha hsl
    have hc := b7g hwb h0 hsl
    have hl : (a0F (H8 w)).length <= 140737488355328 := by
      have := c2r hc
      have := b0B (H8 w)
      omega
    have := a8r _ _ hf hf hl hl
    rwa [decide_eq_true rfl] at this
  generalize decide (s = t) = d at *
  generalize a0u w s = e at *
  generalize I9 w = e1 at *
  generalize H8 w = fs at *
  obtain ⟨arms, walls, parts, slots, gates, walk⟩ := w
  obtain ⟨tick, sarms, sparts, people, sgates⟩ := s
  obtain ⟨tick2, sarms2, sparts2, people2, sgates2⟩ := t
  obtain ⟨tick3, sarms3, sparts3, people3, sgates3⟩ := fs
  simp only at n1 hmv hhs
  simp only [l6]
  simp only [Wk.c, Wk.enc, Stt.c, Stt.enc, a4w, b1T, ams, wls, pts, sls, gts, I8, frs, vts, bls, sb, ints, List.map_nil] at o2 o3 o4 o5 o6 o7 p1 p2 p3 p4 p5 p6 ⊢
  (repeat first | refine uA ?_ | (refine uK ?_ ?_; focus first | omega | (intros; simp_all <;> omega)) | simp (disch := omega) only [go_sem, Nat.reduceBEq, Nat.reduceAdd, ww] | (refine uB o4 ?_ ?_; exact rfl) | (refine uB o5 ?_ ?_; exact rfl) | (refine uB o6 ?_ ?_; exact rfl) | (refine uB o7 ?_ ?_; exact rfl) | (refine uD o1 ?_ ?_ ?_; exact tz hw; exact rfl) | (refine uD o2 ?_ ?_ ?_; exact tz hw; exact rfl) | (refine uD o3 ?_ ?_ ?_; exact tz hw; exact rfl))
  refine S.cond rfl (fun hc => by simp at hc) (fun hc => ?_)
  (repeat first | refine uA ?_ | (refine uK ?_ ?_; focus first | omega | (intros; simp_all <;> omega)) | simp (disch := omega) only [go_sem, Nat.reduceBEq, Nat.reduceAdd, ww, List.length_map])
  refine S.loop (X := Nat) (fun i => ⟨[(3, .bp 0 0), (40, I8 sarms), (41, ints sarms.length), (42, ints i)], [.box 31 [ams arms, wls walls, pts parts, sls slots, gts gates, .v (.bool walk.neg), sb walk.num, sb walk.den]]⟩) (fun i => i <= sarms.length) (fun i => sarms.length - i) 0 (Nat.zero_le _) (by (repeat first | refine uA ?_ | (refine ⟨?_, ?_⟩; focus first | rfl | simp [slot]) | rfl | simp)) ?_
  intro i hi
  simp only [ams, wls, pts, sls, gts, I8, vts, sb, ints]
  (repeat first | refine uA ?_ | (refine uK ?_ ?_; focus first | omega | (intros; simp_all <;> omega)) | simp (disch := omega) only [go_sem, Nat.reduceBEq, Nat.reduceAdd, ww])
  (refine uJ rfl (fun hc => ?_) fun hc => ?_)
  · have hgi := List.getElem?_eq_getElem (show i < sarms.length by omega)
    generalize sarms[i]'_ = x at hgi
    have t1 := hmv x (List.mem_of_getElem? hgi)
    have t2 := hhs x (List.mem_of_getElem? hgi)
    generalize a9p x = m at *
    simp only [Ast.c, Ast.enc, rts, sb, ints] at t1 t2
    (repeat first | refine uA ?_ | (refine uK ?_ ?_; focus first | omega | (intros; simp_all <;> omega)) | simp (disch := omega) only [go_sem, Nat.reduceBEq, Nat.reduceAdd, ww, hgi, Option.map_some, List.length_map, Ast.enc, rts, sb, ints, Int.toNat_natCast, c1] | (refine uD t1 ?_ ?_ ?_; exact tz hw; exact rfl) | (refine uD t2 ?_ ?_ ?_; exact tz hw; exact rfl))
    refine S.cond rfl (fun hc2 => by simp at hc2) (fun hc2 => ?_)
    (repeat first | refine uA ?_ | (refine uK ?_ ?_; focus first | omega | (intros; simp_all <;> omega)) | simp (disch := omega) only [go_sem, Nat.reduceBEq, Nat.reduceAdd, ww])
    refine S.next (i + 1) (by omega) (by omega) (by (repeat first | refine uA ?_ | (refine ⟨?_, ?_⟩; focus first | rfl | simp [slot]) | rfl | simp))
  by_cases h1 : e1 = 0
  · subst h1
    have p4 := p4 rfl
    have p5 := p5 rfl
    have p6 := p6 rfl
    (repeat first | refine uA ?_ | (refine uK ?_ ?_; focus first | omega | (intros; simp_all <;> omega)) | simp (disch := omega) only [go_sem, Nat.reduceBEq, Nat.reduceAdd, ww] | (refine uD p4 ?_ ?_ ?_; exact tz hw; exact rfl) | (refine uD p1 ?_ ?_ ?_; exact tz hw; exact rfl))
    refine S.cond rfl (fun hc => by simp at hc) (fun hc => ?_)
    (repeat first | refine uA ?_ | (refine uK ?_ ?_; focus first | omega | (intros; simp_all <;> omega)) | simp (disch := omega) only [go_sem, Nat.reduceBEq, Nat.reduceAdd, ww, decide_true] | (refine uB p6 ?_ ?_; exact rfl) | (refine uD p5 ?_ ?_ ?_; exact tz hw; exact rfl))
    exact S.done (d9.out rfl (Imp.refl rfl) rfl)
  · have p2 := p2 h1
    (repeat first | refine uA ?_ | (refine uK ?_ ?_; focus first | omega | (intros; simp_all <;> omega)) | simp (disch := omega) only [go_sem, Nat.reduceBEq, Nat.reduceAdd, ww] | (refine uD p2 ?_ ?_ ?_; exact tz hw; exact rfl) | (refine uD p1 ?_ ?_ ?_; exact tz hw; exact rfl))
    refine S.cond rfl (fun hc => ?_) (fun hc => by simp at hc; exact absurd hc h1)
    (repeat first | refine uA ?_ | (refine uK ?_ ?_; focus first | omega | (intros; simp_all <;> omega)) | simp (disch := omega) only [go_sem, Nat.reduceBEq, Nat.reduceAdd, ww, decide_true] | (refine uC p3 ?_ ?_ ?_; exact rfl; focus (repeat' first | exact p8.nil | exact Imp.refl rfl | exact Imp.a1I | exact Imp.fbx rfl rfl (p8.refl rfl) rfl rfl | refine Imp.clo ?_ | exact Imp.frz rfl rfl rfl | (refine Imp.P6 rfl rfl ?_ ?_; (focus ((try simp only [List.length_append, decide_true]); omega)); (focus first | rfl | assumption)) | refine Imp.agg ?_ | refine p8.cons ?_ ?_); done))
    exact S.done (d9.out rfl (Imp.refl rfl) rfl)
set_option maxRecDepth 10000
noncomputable def laidWorldU (os : Os) : World := World.laidAll Tryz.prog os Rows.worldChecksUptoRow.laid
theorem b6U (os : Os) (args : Array Value) : laidMet Tryz.prog Rows.worldChecksUptoRow.laid ((laidWorldU os).forCall (fun _ _ => 0) ⟨#[], args, []⟩).memory :=
  laidMet_laidAll args (by kernel_rfl) (by kernel_rfl)
theorem b4D {H : Type} {enc : TypeId × Value -> H} {C : Checked} {os : Os} {f : FuncId} {fn : Func} {s : OpenSpec} {conds : List PathCond} {apart : Bool} {laid : List (String × DataW Unit)} (modest : Bool) (w0 : World) (args : Array Value) (hos : w0.os = os)
    (hv : (w0.forCall (fun _ _ => 0) ⟨#[], args, []⟩).variablesZipB C.prog = true)
    (hr : ((w0.forCall (fun _ _ => 0) ⟨#[], args, []⟩).heap.toList.drop C.prog.globals.size).take ((begin C.prog (fun _ _ => 0) default).world.heap.size - C.prog.globals.size) =
      (begin C.prog (fun _ _ => 0) default).world.heap.toList.drop C.prog.globals.size)
    (hok : Input.okWideB C.prog (w0.forCall (fun _ _ => 0) ⟨#[], args, []⟩) f ⟨#[], args, []⟩ = true)
    (hrow : s.preRow enc C.prog fn conds apart laid (w0.forCall (fun _ _ => 0) ⟨#[], args, []⟩).memory args) :
    ∃ (w : World) (tape : Tape) (i : Input), w.os = os /\ (w.forCall tape i).Shaped C.prog /\ i.vars = [] /\ Input.okWide C.prog (w.forCall tape i) .any w.heap.size f i /\
      s.preRow enc C.prog fn conds apart laid (w.forCall tape i).memory i.args /\ ({ modest := modest } : Assume).holds C.prog (lone (Frame.enter C.prog f i.args .normal) [] (w.forCall tape i)) :=
  ⟨w0, fun _ _ => 0, ⟨#[], args, []⟩, hos, World.shaped_of_ZipB hv hr, (Input.okWide_of_okWideB (base := 0) hok).1, (Input.okWide_of_okWideB hok).2, hrow, by
    simp only [Assume.holds]
    exact ⟨by simp, by simp, fun _ => Modest.zero, by simp, by simp⟩⟩
theorem a9y (os : Os) (args : Array Value) : laidMet Tryz.prog Rows.worldChecksUptoRow.laid ((laidWorldU os).forCall (fun _ _ => 0) ⟨#[], args, []⟩).memory :=
  b6U os args
theorem a6a (H : Type) (enc : TypeId × Value -> H) (W : World) (base : Nat) (args : Array Value) (ds gs : List (DataW H)) (before : List MemPlace)
    (hval : ∀ (j : Nat) t v, Tryz.f5.params[j]? = some t -> args[j]? = some v -> Value.okWide Tryz.prog W .any base t v)
    (hW : DataW.Whole enc Tryz.prog Tryz.f5.params.toList Rows.worldChecksSpec.vars false W args.toList ds gs before) (hk : Rows.uptoSmall H (ds ++ gs) = true) (hL : laidMetH Tryz.prog Rows.worldChecksUptoRow.laid W) (hS : W.ShapedOpen Tryz.prog) :
    Calls Tryz.prog 5 args W fun e W' => ∃ v, e = .returned v /\ Rows.worldChecksSpec.post enc Tryz.prog Tryz.f5 false true false false W args v W' := by
  have hW' := hW
  obtain ⟨p, q, hA0, hV, rfl, hfz, hnd⟩ := hW
  have hA : DataW.TrodAll enc Tryz.prog W 0 (fun _ => true) true Tryz.f5.params.toList args.toList ds p := hA0
  rw [Tryz.params5] at hA hval
  obtain ⟨v0, vs0, d0, ds0, p0, q0, hargs, rfl, rfl, h0, r0⟩ := trodAll_cons hA
  obtain ⟨v1, vs1, d1, ds1, p1, q1, rfl, rfl, rfl, h1, r1⟩ := trodAll_cons r0
  obtain ⟨v2, vs2, d2, ds2, p2, q2, rfl, rfl, rfl, h2, r2⟩ := trodAll_cons r1
  obtain ⟨rfl, rfl, rfl⟩ := trodAll_nil r2
  obtain rfl : args = #[v0, v1, v2] := by cases args; simp_all
  obtain ⟨rfl, rfl⟩ := trodVars_none hV
  have hb := b9I hk
  obtain ⟨cs0, rfl, _⟩ := okWide_struct Tryz.underlying31 (hval 0 31 v0 rfl rfl)
  obtain ⟨m0, h0⟩ := h0
  obtain ⟨wk0, e0, _, k0, b0⟩ := c3s _ _ _ h0
  have b0 : wkM wk0 <= Rows.uptoBulk d0 := b0
  have e0 : FzL W noB wk0.enc cs0.toList := e0
  have g0 : Fz W noB wk0.c (.agg cs0) := by simp only [Wk.c, Fz]; exact ⟨_, e0, by simp⟩
  obtain ⟨cs1, rfl, _⟩ := okWide_struct Tryz.underlying37 (hval 1 37 v1 rfl rfl)
  obtain ⟨m1, h1⟩ := h1
  obtain ⟨st0, e1, _, k1, b1⟩ := c1T _ _ _ h1
  have b1 : stM st0 <= Rows.uptoBulk d1 := b1
  have e1 : FzL W noB st0.enc cs1.toList := e1
  have g1 : Fz W noB st0.c (.agg cs1) := by simp only [Stt.c, Fz]; exact ⟨_, e1, by simp⟩
  obtain ⟨cs2, rfl, _⟩ := okWide_struct Tryz.underlying37 (hval 2 37 v2 rfl rfl)
  obtain ⟨m2, h2⟩ := h2
  obtain ⟨st1, e2, _, k2, b2⟩ := c1T _ _ _ h2
  have b2 : stM st1 <= Rows.uptoBulk d2 := b2
  have e2 : FzL W noB st1.enc cs2.toList := e2
  have g2 : Fz W noB st1.c (.agg cs2) := by simp only [Stt.c, Fz]; exact ⟨_, e2, by simp⟩
  simp only [List.append_nil, List.cons_append, List.nil_append, Rows.uptoBulkAll] at hb
  have hF : FzL W noB [wk0.c, st0.c, st1.c] [.agg cs0, .agg cs1, .agg cs2] := by
    simp only [FzL]
    exact ⟨_, _, rfl, g0, ⟨_, _, rfl, g1, ⟨_, _, rfl, g2, rfl⟩⟩⟩
  refine (b1F wk0 st0 st1 (c3o (by omega)) (c2E (by omega)) (c2E (by omega)) k1 k2 (by have := b0B st0; omega) (by have := b0B st1; omega) noB W _ (c3c hL) (fun _ h => h.elim) hF).mono fun e W' ⟨y, he, hbl, hy⟩ => ?_
  subst he
  simp only [Fz] at hy
  subst hy
  refine ⟨_, rfl, b9O b9V (by
    intro t ht
    rw [Tryz.params5] at ht
    simp only [List.mem_cons, List.not_mem_nil, or_false] at ht
    rcases ht with rfl | rfl | rfl
    · exact ⟨by kernel_rfl, of_decide_eq_true (by kernel_rfl)⟩
    · exact ⟨by kernel_rfl, of_decide_eq_true (by kernel_rfl)⟩
    · exact ⟨by kernel_rfl, of_decide_eq_true (by kernel_rfl)⟩) (tb := 4) rfl Tryz.underlying4 rfl rfl hW' hbl⟩
theorem a7R (os : Os) {H : Type} (enc : TypeId × Value -> H) : ∃ places, DataW.whole enc Tryz.prog ((laidWorldU os).forCall (fun _ _ => 0) ⟨#[], #[.agg #[.slice none 0 0, .slice none 0 0, .slice none 0 0, .slice none 0 0, .slice none 0 0, .bool false, .string ⟨#[]⟩, .string ⟨#[]⟩], .agg #[.int .i64 0, .slice none 0 0, .slice none 0 0, .slice none 0 0, .slice none 0 0], .agg #[.int .i64 0, .slice none 0 0, .slice none 0 0, .slice none 0 0, .slice none 0 0]], []⟩).memory Tryz.f5.params.toList Rows.worldChecksSpec.vars false (#[.agg #[.slice none 0 0, .slice none 0 0, .slice none 0 0, .slice none 0 0, .slice none 0 0, .bool false, .string ⟨#[]⟩, .string ⟨#[]⟩], .agg #[.int .i64 0, .slice none 0 0, .slice none 0 0, .slice none 0 0, .slice none 0 0], .agg #[.int .i64 0, .slice none 0 0, .slice none 0 0, .slice none 0 0, .slice none 0 0]] : Array Value).toList 8 = some ([.agg [.nil, .nil, .nil, .nil, .nil, .agg [.lit (.bool false), .lit (.string []), .lit (.string [])]], .agg [.lit (.int .i64 0), .nil, .nil, .nil, .nil], .agg [.lit (.int .i64 0), .nil, .nil, .nil, .nil]], [], places) :=
  ⟨[], by kernel_rfl⟩
set_option maxRecDepth 100000 in
theorem a6O (os : Os) (started : os.Started) (H : Type) (enc : TypeId × Value -> H) (F : Stop.Interp) :
    ReturnsInHanded {} Tryz.checked os 5 .any ((Rows.OpenSpec.upto Rows.worldChecksSpec).preRow enc Tryz.prog Tryz.f5 Rows.worldChecksUptoRow.domain false Rows.worldChecksUptoRow.laid) (((Rows.OpenSpec.upto Rows.worldChecksSpec).at F).post enc Tryz.prog Tryz.f5 false true false false) := by
  obtain ⟨places, hx⟩ := a7R os enc
  refine returnsInHanded_of_row (C := Tryz.checked) (s := Rows.OpenSpec.upto Rows.worldChecksSpec) b9w started (by kernel_rfl) Tryz.func5
    (b4D (enc := enc) (C := Tryz.checked) false (laidWorldU os) #[.agg #[.slice none 0 0, .slice none 0 0, .slice none 0 0, .slice none 0 0, .slice none 0 0, .bool false, .string ⟨#[]⟩, .string ⟨#[]⟩], .agg #[.int .i64 0, .slice none 0 0, .slice none 0 0, .slice none 0 0, .slice none 0 0], .agg #[.int .i64 0, .slice none 0 0, .slice none 0 0, .slice none 0 0, .slice none 0 0]] rfl (by kernel_rfl) (by kernel_rfl) (by kernel_rfl)
      (OpenSpec.preRow_of_cond 8 hx (by kernel_rfl) (fun k hk => by cases hk; kernel_rfl) (by kernel_rfl) (a9y os _))) ?_
  intro W base args ds gs before hval hW _ hcond _ hL hS _
  exact a6a H enc W base args ds gs before hval hW (hcond _ rfl) hL hS
theorem c3v {a b : Bool} (h : a = true) (k : b = true) : (a && b) = true := by rw [h, k]; rfl
set_option maxHeartbeats 40000000 in
theorem a7w : joinedFacts Tryz.pinned.checked.prog 5 Tryz.f5 (Rows.OpenSpec.upto Rows.worldChecksSpec).bare Rows.worldChecksUptoRow = true := by
  unfold joinedFacts
  repeat' (with_reducible refine c3v ?_ ?_)
  all_goals (as_aux_lemma => kernel_rfl)
end Go.Proofs.YtogfpjohjphngaaGreatDoor
