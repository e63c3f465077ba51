/- A part of the proof: lemmas only, with the conditions that each names. -/
import Derived.Test.YtogfpjohjphngaaGreatDoorRows
import Derived.Carry
import Derived.ChangeArms
import Derived.ChangeSame
import Derived.Deep.Slices
import Derived.WalkKit
import Derived.ProofKit
import Derived.OpenShut
import Derived.JoinedCond
import Derived.Test.YtogfpjohjphngaaGreatDoorCards
import Derived.Test.YtogfpjohjphngaaGreatDoorTie
import Derived.Deep.DeepHandedRow
import Derived.Deep.DeepWitnessRowRef
import Derived.Lib.LaidTab
import Derived.LaidMore
import Derived.Test.YtogfpjohjphngaaGreatDoorPk5
namespace Go.Proofs.YtogfpjohjphngaaGreatDoor
set_option linter.all false
open Go Go.RowKit Eng
set_option maxRecDepth 10000
set_option maxHeartbeats 4000000
def a9b (w : Wk) (s : Stt) (p q : Int) : Bool := if S9 w s p q ≠ 0 then false else !(s.arms.any fun x => decide (x.holds = p)) && decide (Nm.G5 (Q5 w s p.toNat q.toNat) (Nm.j3 (w.slots.getD q.toNat c0T).within) <= 0)
theorem b6L {w : Wk} {s : Stt} {p q : Nat} (hwb : Wb 1048576 w) (hs : Stb 1048576 s) (h1 : p < s.parts.length) (h2 : p < w.parts.length) (h3 : q < w.slots.length) : Rb 23068749 (Nm.ofQ (Q5 w s p q)) := by
 unfold Q5
 rw [List.getD_eq_getElem?_getD, List.getD_eq_getElem?_getD, List.getD_eq_getElem?_getD, List.getElem?_eq_getElem h1, List.getElem?_eq_getElem h2, List.getElem?_eq_getElem h3]
 exact (b9R (k := 1048576) (by decide) (hs.parts.2 _ (List.getElem_mem _)) (hwb.slots.2 _ (List.getElem_mem _)).2.1 _ (hwb.parts.2 _ (List.getElem_mem _)).2.1.2).mono (by decide)
theorem c0C {α : Type} {f : α -> Bool} {l : List α} {i : Nat} {x : α} (h : l[i]? = some x) : (l.take (i + 1)).any f = ((l.take i).any f || f x) := by
 rw [List.take_succ, h]; simp
theorem c1L {α : Type} {f : α -> Bool} {l : List α} {i : Nat} {x : α} (h : l[i]? = some x) (hf : f x = true) : l.any f = true := List.any_eq_true.2 ⟨x, List.mem_of_getElem? h, hf⟩
theorem b9X (w : Wk) (s : Stt) (p q : Int) (hwb : Wb 1048576 w) (hs : Stb 1048576 s) :
  FZ 11 [w.c, s.c, ints p, ints q] (.tup [.v (.bool (a9b w s p q)), ints (S9 w s p q)]) := by
 refine q8.of b7Q b7M (by exact Nat.le_of_ble_eq_true rfl) fun w' O hw => ?_
 have hof := b2U w s p q hwb hs
 have n1 := hs.arms.1
 have n2 := hwb.slots.1
 unfold a9b
 by_cases hd : S9 w s p q = 0
 ·unfold a9c at hof
  rw [hd] at hof ⊢
  rw [if_neg (by simp)] at hof
  rw [if_neg (by simp)]
  obtain ⟨hst, p0, p1, q0, q1⟩ := b6t hd
  have hpl := a4V hst
  clear hd hst
  obtain ⟨q, rfl⟩ : ∃ n : Nat, q = n := ⟨q.toNat, by omega⟩
  have hrb := b6L (p := p.toNat) (q := q) hwb hs (by omega) (by omega) (by omega)
  rw [Int.toNat_natCast] at hof ⊢
  have gs := List.getElem?_eq_getElem (show q < w.slots.length by omega)
  rw [List.getD_eq_getElem?_getD, gs, Option.getD_some]
  generalize Q5 w s p.toNat q = off at *
  generalize w.slots[q]'(_) = sl at gs
  have bs' := (hwb.slots.2 sl (List.mem_of_getElem? gs)).2.2
  have o1 := a1n (Nm.ofQ off) sl.within (hrb.mono (by decide)) (bs'.mono (by decide))
  rw [Nm.G9] at o1
  generalize Nm.G5 off (Nm.j3 sl.within) = z1 at *
  generalize Nm.ofQ off = z2 at *
  obtain ⟨sn, g, within⟩ := sl
  obtain ⟨arms, walls, parts, slots, gates, walk⟩ := w
  obtain ⟨tick, sarms, sparts, people, sgates⟩ := s
  simp only at gs q1 n1 n2 ⊢
  simp only [a5K, l9, TT, II, OA, OB, OC, MM, LL, VV, FF, MG, LG, VG, FG]
  simp only [Wk.c, Wk.enc, Stt.c, Stt.enc, ams, wls, pts, sls, gts, U2, frs, vts, bls, rc, sb, ints] at hof o1 ⊢
  (repeat first | refine uA ?_ | (apply S.exit; exact rfl) | ((with_reducible refine And.intro ?_ ?_); focus first | omega | trivial | exact id | (intros; simp_all <;> omega)) | simp (disch := omega) only [go_sem, Nat.reduceBEq, Nat.reduceAdd, Nat.reduceLeDiff, Int.reduceToNat, Int.reducePow, ww] | (refine uD hof ?_ ?_ ?_; exact tz hw; exact rfl))
  refine S.cond rfl (fun hc => by simp at hc) (fun hc => ?_)
  (repeat first | refine uA ?_ | (apply S.exit; exact rfl) | ((with_reducible refine And.intro ?_ ?_); focus first | omega | trivial | exact id | (intros; simp_all <;> omega)) | simp (disch := omega) only [go_sem, Nat.reduceBEq, Nat.reduceAdd, Nat.reduceLeDiff, Int.reduceToNat, Int.reducePow, ww, List.length_map])
  refine S.loop (X := Nat) (fun i => ⟨[(2, ints p), (3, ints q), (4, .bp 0 0), (5, .bp 1 0), (10, .bp 2 0), (26, U2 sarms), (27, ints sarms.length), (28, ints i)], [.box 31 [ams arms, wls walls, pts parts, sls slots, gts gates, .v (.bool walk.neg), sb walk.num, sb walk.den], .box 37 [ints tick, U2 sarms, frs sparts, vts people, bls sgates], .box 29 (rcs z2)]⟩) (fun i => i <= sarms.length /\ (sarms.take i).any (fun x => decide (x.holds = p)) = false) (fun i => sarms.length - i) 0 ⟨Nat.zero_le _, rfl⟩ (by simp only [rcs, sb]; exact (by (repeat first | refine uA ?_ | (refine ⟨?_, ?_⟩; focus first | rfl | trivial | (simp [slot]; done)) | rfl | trivial | simp))) ?_
  rintro i ⟨hi, ha⟩
  simp only [ams, wls, pts, sls, gts, U2, frs, vts, bls, rcs, sb, ints] at hi ⊢
  (repeat first | refine uA ?_ | (apply S.exit; exact rfl) | ((with_reducible refine And.intro ?_ ?_); focus first | omega | trivial | exact id | (intros; simp_all <;> omega)) | simp (disch := omega) only [go_sem, Nat.reduceBEq, Nat.reduceAdd, Nat.reduceLeDiff, Int.reduceToNat, Int.reducePow, ww])
  (refine uJ rfl (fun hc => ?_) fun hc => ?_)
  ·have hgi := List.getElem?_eq_getElem (show i < sarms.length by omega)
   generalize sarms[i]'(_) = x at hgi
   have h1 := c0C (f := fun x : Ast => decide (x.holds = p)) hgi
   have h2 := c1L (f := fun x : Ast => decide (x.holds = p)) hgi
   rw [ha, Bool.false_or] at h1
   obtain ⟨xq, xv, xp, xh⟩ := x
   simp only at h1 h2
   (repeat first | refine uA ?_ | (apply S.exit; exact rfl) | ((with_reducible refine And.intro ?_ ?_); focus first | omega | trivial | exact id | (intros; simp_all <;> omega)) | simp (disch := omega) only [go_sem, Nat.reduceBEq, Nat.reduceAdd, Nat.reduceLeDiff, Int.reduceToNat, Int.reducePow, ww, hgi, Option.map_some, List.length_map, Ast.enc, rts, sb, ints, Int.toNat_natCast])
   refine S.cond rfl (fun hc2 => ?_) (fun hc2 => ?_)
   ·rw [h2 hc2]
    (repeat first | refine uA ?_ | (apply S.exit; exact rfl) | ((with_reducible refine And.intro ?_ ?_); focus first | omega | trivial | exact id | (intros; simp_all <;> omega)) | simp (disch := omega) only [go_sem, Nat.reduceBEq, Nat.reduceAdd, Nat.reduceLeDiff, Int.reduceToNat, Int.reducePow, ww])
    exact S.done (d9.out rfl (Imp.refl rfl) rfl)
   ·(repeat first | refine uA ?_ | (apply S.exit; exact rfl) | ((with_reducible refine And.intro ?_ ?_); focus first | omega | trivial | exact id | (intros; simp_all <;> omega)) | simp (disch := omega) only [go_sem, Nat.reduceBEq, Nat.reduceAdd, Nat.reduceLeDiff, Int.reduceToNat, Int.reducePow, ww])
    refine S.next (i + 1) ⟨by omega, by rw [h1]; exact hc2⟩ (by omega) (by (repeat first | refine uA ?_ | (refine ⟨?_, ?_⟩; focus first | rfl | trivial | (simp [slot]; done)) | rfl | trivial | simp))
  ·have hi' : i = sarms.length := by omega
   subst hi'
   rw [List.take_length] at ha
   rw [ha]
   (repeat first | refine uA ?_ | (apply S.exit; exact rfl) | ((with_reducible refine And.intro ?_ ?_); focus first | omega | trivial | exact id | (intros; simp_all <;> omega)) | simp (disch := omega) only [go_sem, Nat.reduceBEq, Nat.reduceAdd, Nat.reduceLeDiff, Int.reduceToNat, Int.reducePow, ww, gs, Option.map_some, List.length_map, Sl.enc, sb, Int.toNat_natCast] | (refine uD o1 ?_ ?_ ?_; exact tz hw; exact rfl))
   exact S.done (d9.out rfl (Imp.refl rfl) rfl)
 ·rw [if_pos hd]
  generalize a9c w s p q = z2 at *
  generalize S9 w s p q = e at *
  obtain ⟨arms, walls, parts, slots, gates, walk⟩ := w
  obtain ⟨tick, sarms, sparts, people, sgates⟩ := s
  simp only [a5K, l9, TT, II, OA, OB, OC, MM, LL, VV, FF, MG, LG, VG, FG]
  simp only [Wk.c, Wk.enc, Stt.c, Stt.enc, ams, wls, pts, sls, gts, U2, frs, vts, bls, rc, sb, ints] at hof ⊢
  (repeat first | refine uA ?_ | (apply S.exit; exact rfl) | ((with_reducible refine And.intro ?_ ?_); focus first | omega | trivial | exact id | (intros; simp_all <;> omega)) | simp (disch := omega) only [go_sem, Nat.reduceBEq, Nat.reduceAdd, Nat.reduceLeDiff, Int.reduceToNat, Int.reducePow, ww] | (refine uD hof ?_ ?_ ?_; exact tz hw; exact rfl))
  refine S.cond rfl (fun hc => ?_) (fun hc => by simp at hc; exact absurd hc hd)
  (repeat first | refine uA ?_ | (apply S.exit; exact rfl) | ((with_reducible refine And.intro ?_ ?_); focus first | omega | trivial | exact id | (intros; simp_all <;> omega)) | simp (disch := omega) only [go_sem, Nat.reduceBEq, Nat.reduceAdd, Nat.reduceLeDiff, Int.reduceToNat, Int.reducePow, ww])
  exact S.done (d9.out rfl (Imp.refl rfl) rfl)
def a5C (w : Wk) (s : Stt) (p : Int) : Int := if O4 w s ≠ 0 then O4 w s else if p < 0 \/ (w.parts.length : Int) <= p then 1 else if w.slots.length = 0 then 4 else 0
def a7G (w : Wk) (s : Stt) (p : Int) : Nat × Rat := K3 (Q5 w s p.toNat) w.slots.length
def b4i (w : Wk) (s : Stt) (p : Int) : Nat := if a5C w s p ≠ 0 then 0 else (a7G w s p).1
def b4D (w : Wk) (s : Stt) (p : Int) : Nm.Rt := if a5C w s p ≠ 0 then ⟨false, [], []⟩ else Nm.ofQ (a7G w s p).2
theorem b6F {o : Nat -> Rat} {k n : Nat} (hk : 8 <= k) (h : ∀ j, j < n -> Rb k (Nm.ofQ (o j))) : ∀ i, i <= n -> Rb k (Nm.ofQ (K3 o i).2)
 | 0, _ => a5j.mono hk
 | i + 1, hi => by
  unfold K3
  split
  ·exact h i (by omega)
  ·exact b6F hk h i (by omega)
theorem c2q (w : Wk) (s : Stt) (p : Int) (hwb : Wb 1048576 w) (hs : Stb 1048576 s) :
  FZ 14 [w.c, s.c, ints p] (.tup [.v (.int .i64 (b4i w s p)), rc (b4D w s p), ints (a5C w s p)]) := by
 refine q8.of b3s b3L (by exact Nat.le_of_ble_eq_true rfl) fun w' O hw => ?_
 have hck := a8J w s (hwb.mono (by decide)) (hs.mono (by decide))
 have hof := fun i : Nat => b2U w s p i hwb hs
 have n1 := hwb.parts.1
 have n2 := hwb.slots.1
 have hE : a5C w s p = if O4 w s ≠ 0 then O4 w s else if p < 0 \/ (w.parts.length : Int) <= p then 1 else if w.slots.length = 0 then 4 else 0 := rfl
 unfold b4i b4D
 have hz := a5Y 0 (by decide) (by decide)
 rw [show ((0 : Int) : Rat) = 0 from rfl] at hz
 have hzf : ∀ x : Int, x ≠ 0 -> (if x ≠ 0 then 0 else (a7G w s p).1) = 0 := fun x hx => if_pos hx
 have hzr : ∀ x : Int, x ≠ 0 -> (if x ≠ 0 then (⟨false, [], []⟩ : Nm.Rt) else Nm.ofQ (a7G w s p).2) = ⟨false, [], []⟩ := fun x hx => if_pos hx
 by_cases hst : O4 w s = 0
 ·rw [if_neg (by simpa using hst)] at hE
  have hpl := a4V hst
  by_cases hp : p < 0 \/ (w.parts.length : Int) <= p
  ·rw [if_pos hp] at hE
   rw [hE, hzf 1 (by decide), hzr 1 (by decide), a7C]
   rw [hst] at hck
   clear hof hst hE hzf hzr hpl
   obtain ⟨arms, walls, parts, slots, gates, walk⟩ := w
   obtain ⟨tick, sarms, sparts, people, sgates⟩ := s
   simp only at hp n1 n2
   simp only [a0I, l9, TT, II, OA, OB, OC, MM, LL, VV, FF, MG, LG, VG, FG]
   simp only [Wk.c, Wk.enc, Stt.c, Stt.enc, ams, wls, pts, sls, gts, U2, frs, vts, bls, rc, sb, ints] at hck ⊢
   (repeat first | refine uA ?_ | (apply S.exit; exact rfl) | ((with_reducible refine And.intro ?_ ?_); focus first | omega | trivial | exact id | (intros; simp_all <;> omega)) | simp (disch := omega) only [go_sem, Nat.reduceBEq, Nat.reduceAdd, Nat.reduceLeDiff, Int.reduceToNat, Int.reducePow, ww] | (refine uD hck ?_ ?_ ?_; exact tz hw; exact rfl))
   refine S.cond rfl (fun hc => by simp at hc) (fun hc => ?_)
   (repeat first | refine uA ?_ | (apply S.exit; exact rfl) | ((with_reducible refine And.intro ?_ ?_); focus first | omega | trivial | exact id | (intros; simp_all <;> omega)) | simp (disch := omega) only [go_sem, Nat.reduceBEq, Nat.reduceAdd, Nat.reduceLeDiff, Int.reduceToNat, Int.reducePow, ww, List.length_map])
   refine S.cond rfl (fun hc => ?_) (fun hc => by simp only [Bool.or_eq_false_iff, decide_eq_false_iff_not] at hc; omega)
   (repeat first | refine uA ?_ | (apply S.exit; exact rfl) | ((with_reducible refine And.intro ?_ ?_); focus first | omega | trivial | exact id | (intros; simp_all <;> omega)) | simp (disch := omega) only [go_sem, Nat.reduceBEq, Nat.reduceAdd, Nat.reduceLeDiff, Int.reduceToNat, Int.reducePow, ww])
   (refine S.done ?_; simp only [x9, u6, go_sem, Nat.reduceBEq, Nat.reduceAdd, Nat.reduceLeDiff, Int.reduceToNat, Int.reducePow]; (repeat (refine ⟨?_, ?_⟩; focus first | trivial | omega | simp)); exact d9.out rfl (Imp.refl rfl) rfl)
  ·rw [if_neg hp] at hE
   by_cases hsl : w.slots.length = 0
   ·rw [if_pos hsl] at hE
    rw [hE, hzf 4 (by decide), hzr 4 (by decide), a7C]
    rw [hst] at hck
    clear hof hst hE hzf hzr hpl
    obtain ⟨arms, walls, parts, slots, gates, walk⟩ := w
    obtain ⟨tick, sarms, sparts, people, sgates⟩ := s
    simp only at hp n1 n2 hsl
    simp only [a0I, l9, TT, II, OA, OB, OC, MM, LL, VV, FF, MG, LG, VG, FG]
    simp only [Wk.c, Wk.enc, Stt.c, Stt.enc, ams, wls, pts, sls, gts, U2, frs, vts, bls, rc, sb, ints] at hck ⊢
    (repeat first | refine uA ?_ | (apply S.exit; exact rfl) | ((with_reducible refine And.intro ?_ ?_); focus first | omega | trivial | exact id | (intros; simp_all <;> omega)) | simp (disch := omega) only [go_sem, Nat.reduceBEq, Nat.reduceAdd, Nat.reduceLeDiff, Int.reduceToNat, Int.reducePow, ww] | (refine uD hck ?_ ?_ ?_; exact tz hw; exact rfl))
    refine S.cond rfl (fun hc => by simp at hc) (fun hc => ?_)
    (repeat first | refine uA ?_ | (apply S.exit; exact rfl) | ((with_reducible refine And.intro ?_ ?_); focus first | omega | trivial | exact id | (intros; simp_all <;> omega)) | simp (disch := omega) only [go_sem, Nat.reduceBEq, Nat.reduceAdd, Nat.reduceLeDiff, Int.reduceToNat, Int.reducePow, ww, List.length_map])
    refine S.cond rfl (fun hc => by simp only [Bool.or_eq_true, decide_eq_true_eq] at hc; omega) (fun hc => ?_)
    (repeat first | refine uA ?_ | (apply S.exit; exact rfl) | ((with_reducible refine And.intro ?_ ?_); focus first | omega | trivial | exact id | (intros; simp_all <;> omega)) | simp (disch := omega) only [go_sem, Nat.reduceBEq, Nat.reduceAdd, Nat.reduceLeDiff, Int.reduceToNat, Int.reducePow, ww, List.length_map])
    refine S.cond rfl (fun hc => ?_) (fun hc => by simp only [decide_eq_false_iff_not] at hc; omega)
    (repeat first | refine uA ?_ | (apply S.exit; exact rfl) | ((with_reducible refine And.intro ?_ ?_); focus first | omega | trivial | exact id | (intros; simp_all <;> omega)) | simp (disch := omega) only [go_sem, Nat.reduceBEq, Nat.reduceAdd, Nat.reduceLeDiff, Int.reduceToNat, Int.reducePow, ww])
    (refine S.done ?_; simp only [x9, u6, go_sem, Nat.reduceBEq, Nat.reduceAdd, Nat.reduceLeDiff, Int.reduceToNat, Int.reducePow]; (repeat (refine ⟨?_, ?_⟩; focus first | trivial | omega | simp)); exact d9.out rfl (Imp.refl rfl) rfl)
   ·rw [if_neg hsl] at hE
    rw [hE, if_neg (by simp), if_neg (by simp)]
    have hdk : ∀ i : Nat, i < w.slots.length -> S9 w s p i = 0 := fun i hi => by
     unfold S9
     rw [if_neg (by simpa using hst), if_neg (by omega)]
    have hrb : ∀ i : Nat, i < w.slots.length -> Rb 23068749 (Nm.ofQ (Q5 w s p.toNat i)) := fun i hi => b6L hwb hs (by omega) (by omega) hi
    have hbr := fun i => b6F (by decide) hrb i
    have hof' : ∀ i : Nat, i < w.slots.length -> FZ 13 [w.c, s.c, ints p, ints i] (.tup [rc (Nm.ofQ (Q5 w s p.toNat i)), ints 0]) := fun i hi => by
     have := hof i
     unfold a9c at this
     rw [hdk i hi, if_neg (by simp), Int.toNat_natCast] at this
     exact this
    have hcm : ∀ i : Nat, i < w.slots.length -> FZ 52 [rc (Nm.ofQ (Q5 w s p.toNat i)), rc (Nm.ofQ (K3 (Q5 w s p.toNat) i).2)] (ints (Nm.G5 (Q5 w s p.toNat i) (K3 (Q5 w s p.toNat) i).2)) := fun i hi => by
     have := a1n _ _ ((hrb i hi).mono (by decide)) ((hbr i (by omega)).mono (by decide))
     rw [Nm.G9, Nm.G9] at this
     exact this
    have hsu : ∀ i, K3 (Q5 w s p.toNat) (i + 1) = if i = 0 \/ Nm.G5 (Q5 w s p.toNat i) (K3 (Q5 w s p.toNat) i).2 < 0 then (i, Q5 w s p.toNat i) else K3 (Q5 w s p.toNat) i := fun i => by
     conv => lhs; unfold K3
    have hb0 : K3 (Q5 w s p.toNat) 0 = (0, 0) := rfl
    unfold a7G
    generalize Q5 w s p.toNat = o at *
    rw [hst] at hck
    clear hof hst hE hzf hzr hpl hrb hbr hdk
    have hbl : ∀ i, (K3 o i).1 <= i := fun i => by
     cases i with
     | zero => exact Nat.le_refl _
     | succ i => exact Nat.le_of_lt (a5b o (i + 1) (by omega)).1
    generalize hB : K3 o = B at *
    obtain ⟨arms, walls, parts, slots, gates, walk⟩ := w
    obtain ⟨tick, sarms, sparts, people, sgates⟩ := s
    simp only at hp n1 n2 hsl hof' hcm ⊢
    simp only [a0I, l9, TT, II, OA, OB, OC, MM, LL, VV, FF, MG, LG, VG, FG]
    simp only [Wk.c, Wk.enc, Stt.c, Stt.enc, ams, wls, pts, sls, gts, U2, frs, vts, bls, rq, rc, sb, ints] at hck hz hof' hcm ⊢
    (repeat first | refine uA ?_ | (apply S.exit; exact rfl) | ((with_reducible refine And.intro ?_ ?_); focus first | omega | trivial | exact id | (intros; simp_all <;> omega)) | simp (disch := omega) only [go_sem, Nat.reduceBEq, Nat.reduceAdd, Nat.reduceLeDiff, Int.reduceToNat, Int.reducePow, ww] | (refine uD hck ?_ ?_ ?_; exact tz hw; exact rfl))
    refine S.cond rfl (fun hc => by simp at hc) (fun hc => ?_)
    (repeat first | refine uA ?_ | (apply S.exit; exact rfl) | ((with_reducible refine And.intro ?_ ?_); focus first | omega | trivial | exact id | (intros; simp_all <;> omega)) | simp (disch := omega) only [go_sem, Nat.reduceBEq, Nat.reduceAdd, Nat.reduceLeDiff, Int.reduceToNat, Int.reducePow, ww, List.length_map])
    refine S.cond rfl (fun hc => by simp only [Bool.or_eq_true, decide_eq_true_eq] at hc; omega) (fun hc => ?_)
    (repeat first | refine uA ?_ | (apply S.exit; exact rfl) | ((with_reducible refine And.intro ?_ ?_); focus first | omega | trivial | exact id | (intros; simp_all <;> omega)) | simp (disch := omega) only [go_sem, Nat.reduceBEq, Nat.reduceAdd, Nat.reduceLeDiff, Int.reduceToNat, Int.reducePow, ww, List.length_map])
    refine S.cond rfl (fun hc => by simp only [decide_eq_true_eq] at hc; omega) (fun hc => ?_)
    (repeat first | refine uA ?_ | (apply S.exit; exact rfl) | ((with_reducible refine And.intro ?_ ?_); focus first | omega | trivial | exact id | (intros; simp_all <;> omega)) | simp (disch := omega) only [go_sem, Nat.reduceBEq, Nat.reduceAdd, Nat.reduceLeDiff, Int.reduceToNat, Int.reducePow, ww, List.length_map] | (refine uD hz ?_ ?_ ?_; exact tz hw; exact rfl))
    refine S.loop (X := Nat) (fun i => ⟨[(2, ints p), (3, .bp 0 0), (4, .bp 1 0), (7, .bp 2 0), (10, .v (.int .i64 ((B i).1 : Int))), (11, .bp 3 0), (40, ints slots.length), (41, ints i)], [.box 31 [ams arms, wls walls, pts parts, sls slots, gts gates, .v (.bool walk.neg), sb walk.num, sb walk.den], .box 37 [ints tick, U2 sarms, frs sparts, vts people, bls sgates], .box 29 [.v (.bool false), .v (.string ⟨#[]⟩), .v (.string ⟨#[]⟩)], .box 29 (rcs (Nm.ofQ (B i).2))]⟩) (fun i => i <= slots.length) (fun i => slots.length - i) 0 (Nat.zero_le _) (by simp only [hb0, rcs, sb]; exact (by (repeat first | refine uA ?_ | (refine ⟨?_, ?_⟩; focus first | rfl | trivial | (simp [slot]; done)) | rfl | trivial | simp))) ?_
    intro i hi
    simp only [ams, wls, pts, sls, gts, U2, frs, vts, bls, rcs, sb, ints] at hi ⊢
    (repeat first | refine uA ?_ | (apply S.exit; exact rfl) | ((with_reducible refine And.intro ?_ ?_); focus first | omega | trivial | exact id | (intros; simp_all <;> omega)) | simp (disch := omega) only [go_sem, Nat.reduceBEq, Nat.reduceAdd, Nat.reduceLeDiff, Int.reduceToNat, Int.reducePow, ww])
    (refine uJ rfl (fun hc => ?_) fun hc => ?_)
    ·have hi' : i < slots.length := by omega
     have o1 := hof' i hi'
     have o2 := hcm i hi'
     have s1 := hsu i
     have s2 := hbl i
     clear hof' hcm hsu hbl
     generalize hb1 : B (i + 1) = b1 at *
     generalize B i = b0 at *
     generalize Nm.G5 (o i) b0.2 = c at *
     generalize hoi : o i = oi at *
     generalize hN : Nm.ofQ oi = N at *
     generalize hM : Nm.ofQ b0.2 = M at *
     (repeat first | refine uA ?_ | (apply S.exit; exact rfl) | ((with_reducible refine And.intro ?_ ?_); focus first | omega | trivial | exact id | (intros; simp_all <;> omega)) | simp (disch := omega) only [go_sem, Nat.reduceBEq, Nat.reduceAdd, Nat.reduceLeDiff, Int.reduceToNat, Int.reducePow, ww] | (refine uD o1 ?_ ?_ ?_; exact tz hw; exact rfl))
     refine S.cond rfl (fun hc => by simp at hc) (fun hc => ?_)
     (repeat first | refine uA ?_ | (apply S.exit; exact rfl) | ((with_reducible refine And.intro ?_ ?_); focus first | omega | trivial | exact id | (intros; simp_all <;> omega)) | simp (disch := omega) only [go_sem, Nat.reduceBEq, Nat.reduceAdd, Nat.reduceLeDiff, Int.reduceToNat, Int.reducePow, ww] | (refine uD o2 ?_ ?_ ?_; exact tz hw; exact rfl))
     refine S.cond rfl (fun hc2 => ?_) (fun hc2 => ?_)
     ·rw [if_pos (by simp only [Bool.or_eq_true, decide_eq_true_eq] at hc2; omega)] at s1
      (repeat first | refine uA ?_ | (apply S.exit; exact rfl) | ((with_reducible refine And.intro ?_ ?_); focus first | omega | trivial | exact id | (intros; simp_all <;> omega)) | simp (disch := omega) only [go_sem, Nat.reduceBEq, Nat.reduceAdd, Nat.reduceLeDiff, Int.reduceToNat, Int.reducePow, ww])
      refine S.next (i + 1) (by omega) (by omega) (by simp only [hb1, s1, hN, rcs, sb]; exact (by (repeat first | refine uA ?_ | (refine ⟨?_, ?_⟩; focus first | rfl | trivial | (simp [slot]; done)) | rfl | trivial | simp)))
     ·rw [if_neg (by simp only [Bool.or_eq_false_iff, decide_eq_false_iff_not] at hc2; omega)] at s1
      (repeat first | refine uA ?_ | (apply S.exit; exact rfl) | ((with_reducible refine And.intro ?_ ?_); focus first | omega | trivial | exact id | (intros; simp_all <;> omega)) | simp (disch := omega) only [go_sem, Nat.reduceBEq, Nat.reduceAdd, Nat.reduceLeDiff, Int.reduceToNat, Int.reducePow, ww])
      refine S.next (i + 1) (by omega) (by omega) (by simp only [hb1, s1, hM, rcs, sb]; exact (by (repeat first | refine uA ?_ | (refine ⟨?_, ?_⟩; focus first | rfl | trivial | (simp [slot]; done)) | rfl | trivial | simp)))
    ·have hi' : i = slots.length := by omega
     subst hi'
     (repeat first | refine uA ?_ | (apply S.exit; exact rfl) | ((with_reducible refine And.intro ?_ ?_); focus first | omega | trivial | exact id | (intros; simp_all <;> omega)) | simp (disch := omega) only [go_sem, Nat.reduceBEq, Nat.reduceAdd, Nat.reduceLeDiff, Int.reduceToNat, Int.reducePow, ww])
     (refine S.done ?_; simp only [x9, u6, go_sem, Nat.reduceBEq, Nat.reduceAdd, Nat.reduceLeDiff, Int.reduceToNat, Int.reducePow]; (repeat (refine ⟨?_, ?_⟩; focus first | trivial | omega | simp)); exact d9.out rfl (Imp.refl rfl) rfl)
 ·rw [if_pos hst] at hE
  rw [hE, hzf _ hst, hzr _ hst, a7C]
  clear hof hE hzf hzr
  generalize O4 w s = e at *
  obtain ⟨arms, walls, parts, slots, gates, walk⟩ := w
  obtain ⟨tick, sarms, sparts, people, sgates⟩ := s
  simp only [a0I, l9, TT, II, OA, OB, OC, MM, LL, VV, FF, MG, LG, VG, FG]
  simp only [Wk.c, Wk.enc, Stt.c, Stt.enc, ams, wls, pts, sls, gts, U2, frs, vts, bls, rc, sb, ints] at hck ⊢
  (repeat first | refine uA ?_ | (apply S.exit; exact rfl) | ((with_reducible refine And.intro ?_ ?_); focus first | omega | trivial | exact id | (intros; simp_all <;> omega)) | simp (disch := omega) only [go_sem, Nat.reduceBEq, Nat.reduceAdd, Nat.reduceLeDiff, Int.reduceToNat, Int.reducePow, ww] | (refine uD hck ?_ ?_ ?_; exact tz hw; exact rfl))
  refine S.cond rfl (fun hc => ?_) (fun hc => by simp at hc; exact absurd hc hst)
  (repeat first | refine uA ?_ | (apply S.exit; exact rfl) | ((with_reducible refine And.intro ?_ ?_); focus first | omega | trivial | exact id | (intros; simp_all <;> omega)) | simp (disch := omega) only [go_sem, Nat.reduceBEq, Nat.reduceAdd, Nat.reduceLeDiff, Int.reduceToNat, Int.reducePow, ww])
  (refine S.done ?_; simp only [x9, u6, go_sem, Nat.reduceBEq, Nat.reduceAdd, Nat.reduceLeDiff, Int.reduceToNat, Int.reducePow]; (repeat (refine ⟨?_, ?_⟩; focus first | trivial | omega | simp)); exact d9.out rfl (Imp.refl rfl) rfl)
end Go.Proofs.YtogfpjohjphngaaGreatDoor
namespace Go.Proofs.YtogfpjohjphngaaGreatDoor
set_option linter.all false
open Go Go.RowKit Eng
set_option maxRecDepth 10000
set_option maxHeartbeats 4000000
theorem c0f {q : Rat} (h : 0 < J2 q) : 0 < q := by
 unfold J2 at h
 split at h
 ·omega
 ·split at h
  ·omega
  ·rename_i h1 h2
   have h3 : 0 <= q := Rat.num_nonneg.1 (by omega)
   have h4 : q ≠ 0 := fun e => h1 (by rw [e]; rfl)
   grind
theorem b8j (l : List Int) : (D9 l).parts.length <= (D9 l).slots.length /\ (D9 l).slots.length <= 3 /\ (∀ p ∈ (D9 l).parts, p.shape ≠ []) /\ ∀ s ∈ (D9 l).slots, Fb 3 s.frame /\ Y8 s.frame = true /\ Rb 3 s.within /\ 0 < Nm.j3 s.within := by
 obtain ⟨c1, c2, c3, c4, c5⟩ := counts l
 have x3 := a4g (nP l) 0 ((l2 l).drop 1)
 have x4 := a2O (nS l) 0 ((l3 l).drop 1)
 have l3' : (D9 l).parts.length = nP l := x3.2.1
 have l4' : (D9 l).slots.length = nS l := x4.2.1
 refine ⟨by omega, by omega, fun p hp h0 => ?_, fun s hs => ?_⟩
 ·have h1 := a2B (x3.1 p hp).1.1
  rw [h0] at h1
  exact absurd h1 (by decide)
 ·have h := x4.1 s hs
  simp only [Bool.and_eq_true, decide_eq_true_eq] at h
  obtain ⟨⟨⟨h1, h2⟩, h3⟩, h4⟩ := h
  have g := (a5B h1).2
  refine ⟨?_, g, a2n h3, c0f h4⟩
  unfold okF okV at h1
  simp only [Bool.and_eq_true] at h1
  exact ⟨a2n h1.1.1.1.1.2, a2n h1.1.1.1.2, a2n h1.1.2⟩
end Go.Proofs.YtogfpjohjphngaaGreatDoor
namespace Go.Proofs.YtogfpjohjphngaaGreatDoor
set_option linter.all false
open Go Go.RowKit Eng
set_option maxRecDepth 100000
set_option maxHeartbeats 16000000
theorem c1Y {E : Ctx} (hP : E.P = Tryz.prog) (ht0 : Tz E) (w : Wk) (hwb : Wb 1073741824 w) (h : a1o w = 0) :
  j6 E [] 46 [w.c] (.tup [.agg [ints 0, .rv 3, .rv 4, .v (.slice none 0 0), .rv 5], ints 0]) [.gone, .gone, .gone, .row 90 4 ((F8 w).arms.map Ast.enc), .row 55 10 ((F8 w).parts.map Fr.enc), .row 4 1 ((F8 w).gates.map fun b => [.v (.bool b)])] [] := by
 obtain ⟨P, eff', N, w0, own0, av0, nu0, pk0⟩ := E
 simp only at hP
 subst hP
 refine j6.ofT (eff := eff) ht0 b0P b0X (by exact Nat.le_of_ble_eq_true rfl) fun w' own av ν hν ht => ?_
 have hν0 : ν.length <= 0 := by rw [hν]; exact Nat.le_refl _
 have hck := a9l w hwb
 rw [h] at hck
 obtain ⟨n1, b1⟩ := hwb.arms
 have n3 := hwb.parts.1
 have n4 := hwb.slots.1
 have n5 := hwb.gates.1
 have hz := c1k
 have hfz := c2e
 have hpe : ∀ i, a3T w i = if h : i < w.slots.length then (w.slots[i]).frame else a1u := fun _ => rfl
 unfold F8
 generalize hfp : a3T w = fP at *
 obtain ⟨arms, walls, parts, slots, gates, walk⟩ := w
 simp only at n1 b1 n3 n4 n5 hpe ⊢
 simp only [a5E, l9, TT, II, OA, OB, OC, MM, LL, VV, FF, MG, LG, VG, FG]
 simp only [Wk.c, Wk.enc, Stt.c, Stt.enc, ams, wls, pts, sls, gts, U2, frs, vts, bls, rc, sb, ints] at hck ⊢
 (repeat first | refine uA ?_ | (apply S.exit; exact rfl) | ((with_reducible refine And.intro ?_ ?_); focus first | omega | trivial | exact id | (intros; simp_all <;> omega)) | simp (disch := omega) only [go_sem, Nat.reduceBEq, Nat.reduceAdd, Nat.reduceLeDiff, Int.reduceToNat, Int.reducePow, ww] | (refine uD hck ?_ ?_ ?_; exact ht; exact rfl))
 refine S.cond rfl (fun hc => by simp at hc) (fun hc => ?_)
 (repeat first | refine uA ?_ | (apply S.exit; exact rfl) | ((with_reducible refine And.intro ?_ ?_); focus first | omega | trivial | exact id | (intros; simp_all <;> omega)) | simp (disch := omega) only [go_sem, Nat.reduceBEq, Nat.reduceAdd, Nat.reduceLeDiff, Int.reduceToNat, Int.reducePow, ww, List.length_map])
 refine S.loop (X := Nat) (fun i => ⟨[(1, .bp 0 0), (2, .bp 1 0), (5, .bp 2 0), (20, ams arms), (21, ints arms.length), (22, ints i)], [.box 31 [ams arms, wls walls, pts parts, sls slots, gts gates, .v (.bool walk.neg), sb walk.num, sb walk.den], .box 37 [.v (.int .i64 0), .v (.slice none 0 0), .v (.slice none 0 0), .v (.slice none 0 0), .v (.slice none 0 0)], .box 37 [.v (.int .i64 0), .rv 3, .rv 4, .v (.slice none 0 0), .v (.slice none 0 0)], .row 90 4 (((arms.take i).map a0g).map Ast.enc), .row 55 10 []]⟩) (fun i => i <= arms.length) (fun i => arms.length - i) 0 (Nat.zero_le _)
  (Ent.trans (Ent.a2H 2 1 90 4 rfl rfl rfl) (Ent.trans (Ent.a2H 2 2 55 10 rfl rfl rfl) (by (repeat first | refine uA ?_ | (refine ⟨?_, ?_⟩; focus first | rfl | trivial | (simp [slot]; done)) | rfl | trivial | simp | exact Nat.le_trans hν0 (by simp))))) ?_
 intro i hi
 simp only [ams, wls, pts, sls, gts, vts, sb, ints]
 (repeat first | refine uA ?_ | (apply S.exit; exact rfl) | ((with_reducible refine And.intro ?_ ?_); focus first | omega | trivial | exact id | (intros; simp_all <;> omega)) | simp (disch := omega) only [go_sem, Nat.reduceBEq, Nat.reduceAdd, Nat.reduceLeDiff, Int.reduceToNat, Int.reducePow, ww])
 (refine uJ rfl (fun hc => ?_) fun hc => ?_)
 ·have hi' : i < arms.length := by omega
  have hgi := List.getElem?_eq_getElem hi'
  have hap : arms.take (i + 1) = arms.take i ++ [arms[i]] := List.take_succ_eq_append_getElem hi'
  have htl : (arms.take i).length = i := by rw [List.length_take]; omega
  generalize arms[i] = a at hgi hap
  obtain ⟨b0, _, nl, bl⟩ := b1 a (List.mem_of_getElem? hgi)
  (repeat first | refine uA ?_ | (apply S.exit; exact rfl) | ((with_reducible refine And.intro ?_ ?_); focus first | omega | trivial | exact id | (intros; simp_all <;> omega)) | simp (disch := omega) only [go_sem, Nat.reduceBEq, Nat.reduceAdd, Nat.reduceLeDiff, Int.reduceToNat, Int.reducePow, ww, hgi, Option.map_some, List.length_map, Am.enc, lks, sb])
  refine S.loop (X := Nat) (fun k => ⟨[(1, .bp 0 0), (2, .bp 1 0), (5, .bp 2 0), (8, .bp 6 0), (20, ams arms), (21, ints arms.length), (22, ints i), (28, lks a.links), (29, ints a.links.length), (30, ints k)], [.box 31 [ams arms, wls walls, pts parts, sls slots, gts gates, .v (.bool walk.neg), sb walk.num, sb walk.den], .box 37 [.v (.int .i64 0), .v (.slice none 0 0), .v (.slice none 0 0), .v (.slice none 0 0), .v (.slice none 0 0)], .box 37 [.v (.int .i64 0), .rv 3, .rv 4, .v (.slice none 0 0), .v (.slice none 0 0)], .row 90 4 (((arms.take i).map a0g).map Ast.enc), .row 55 10 [], .gone, .box 90 [.rv 7, .rv 8, .v (.bool false), .v (.int .i64 (-1))], .row 29 3 (((a.links.take k).map a1k).map rcs), .row 29 3 (((a.links.take k).map fun _ => Nm.ofQ 0).map rcs)]⟩) (fun k => k <= a.links.length) (fun k => a.links.length - k) 0 (Nat.zero_le _)
   (Ent.trans (Ent.a2H 6 0 29 3 rfl rfl rfl) (Ent.trans (Ent.a2H 6 1 29 3 rfl rfl rfl) (by (repeat first | refine uA ?_ | (refine ⟨?_, ?_⟩; focus first | rfl | trivial | (simp [slot]; done)) | rfl | trivial | simp | exact Nat.le_trans hν0 (by simp))))) ?_
  intro k hk
  simp only [ams, wls, pts, sls, gts, lks, vts, sb, ints]
  (repeat first | refine uA ?_ | (apply S.exit; exact rfl) | ((with_reducible refine And.intro ?_ ?_); focus first | omega | trivial | exact id | (intros; simp_all <;> omega)) | simp (disch := omega) only [go_sem, Nat.reduceBEq, Nat.reduceAdd, Nat.reduceLeDiff, Int.reduceToNat, Int.reducePow, ww])
  (refine uJ rfl (fun hc => ?_) fun hc => ?_)
  ·have hk' : k < a.links.length := by omega
   have hgk := List.getElem?_eq_getElem hk'
   have hak : a.links.take (k + 1) = a.links.take k ++ [a.links[k]] := List.take_succ_eq_append_getElem hk'
   have htk : (a.links.take k).length = k := by rw [List.length_take]; omega
   generalize a.links[k] = l at hgk hak
   obtain ⟨_, l2, l3, _⟩ := bl l (List.mem_of_getElem? hgk)
   have z1 := a5j
   have z2 := l3.fit (by decide)
   have o1 := b9z l.high (Nm.ofQ 0) (l3.mono (by decide)) (a5j.mono (by decide))
   rw [Nm.G9] at o1
   have z3 : Rb 1073741824 (Nm.ofQ (a2w (Nm.j3 l.high) 0)) := by unfold a2w; split; exact z2; exact z1.mono (by decide)
   have o2 := b3v l.low (Nm.ofQ (a2w (Nm.j3 l.high) 0)) (l2.mono (by decide)) (z3.mono (by decide))
   rw [Nm.G9] at o2
   have hq : a1k l = Nm.ofQ (a0a (Nm.j3 l.low) (a2w (Nm.j3 l.high) 0)) := rfl
   unfold rq at o1 o2 hz
   generalize Nm.ofQ (a0a (Nm.j3 l.low) (a2w (Nm.j3 l.high) 0)) = r2 at *
   generalize Nm.ofQ (a2w (Nm.j3 l.high) 0) = r1 at *
   generalize Nm.ofQ 0 = r0 at *
   simp only [rc, sb] at o1 o2 hz
   (repeat first | refine uA ?_ | (apply S.exit; exact rfl) | ((with_reducible refine And.intro ?_ ?_); focus first | omega | trivial | exact id | (intros; simp_all <;> omega)) | simp (disch := omega) only [go_sem, Nat.reduceBEq, Nat.reduceAdd, Nat.reduceLeDiff, Int.reduceToNat, Int.reducePow, ww, hgk, Option.map_some, List.length_map, htk, Lk.enc, vts, sb] | (refine uD hz ?_ ?_ ?_; exact ht; exact rfl) | (refine uD o1 ?_ ?_ ?_; exact ht; exact rfl) | (refine uD o2 ?_ ?_ ?_; exact ht; exact rfl))
   refine S.next (k + 1) (by omega) (by omega) (by simp only [hak, hq, List.map_append, List.map_cons, List.map_nil, rcs, sb]; exact (by (repeat first | refine uA ?_ | (refine ⟨?_, ?_⟩; focus first | rfl | trivial | (simp [slot]; done)) | rfl | trivial | simp | exact Nat.le_trans hν0 (by simp))))
  ·have hk' : k = a.links.length := by omega
   subst hk'
   rw [List.take_length]
   refine S.exit rfl ?_
   refine S.weaken (st' := ⟨[(1, .bp 0 0), (2, .bp 1 0), (5, .bp 2 0), (8, .bp 6 0), (20, ams arms), (21, ints arms.length), (22, ints i)], [.box 31 [ams arms, wls walls, pts parts, sls slots, gts gates, .v (.bool walk.neg), sb walk.num, sb walk.den], .box 37 [.v (.int .i64 0), .v (.slice none 0 0), .v (.slice none 0 0), .v (.slice none 0 0), .v (.slice none 0 0)], .box 37 [.v (.int .i64 0), .rv 3, .rv 4, .v (.slice none 0 0), .v (.slice none 0 0)], .row 90 4 (((arms.take i).map a0g).map Ast.enc), .row 55 10 [], .gone, .box 90 (a0g a).enc]⟩) (Ent.mk _ _ (by (repeat' (first | exact V7.nil | exact Imp.junk | exact Imp.refl rfl | exact Imp.eq (by simp [slot]; done) rfl | refine V7.cons ?_ ?_))) (by (repeat' (first | exact M6.nil | exact RI.gone _ | exact RI.row _ _ _ _ rfl | exact RI.map _ _ _ rfl | exact RI.box _ _ _ (q9.refl rfl) | (refine RI.box _ _ _ ?_; (repeat' (first | exact q9.nil | exact Imp.refl rfl | exact Imp.frz rfl rfl rfl | exact Imp.a0W | refine q9.cons ?_ ?_))) | refine M6.cons ?_ ?_))) (Nat.le_trans hν0 (by simp))) ?_
   simp only [ams, wls, pts, sls, gts, vts, sb, ints, Ast.enc, rts]
   (repeat first | refine uA ?_ | (apply S.exit; exact rfl) | ((with_reducible refine And.intro ?_ ?_); focus first | omega | trivial | exact id | (intros; simp_all <;> omega)) | simp (disch := omega) only [go_sem, Nat.reduceBEq, Nat.reduceAdd, Nat.reduceLeDiff, Int.reduceToNat, Int.reducePow, ww, List.length_map, htl])
   refine S.next (i + 1) (by omega) (by omega) (by simp only [hap, List.map_append, List.map_cons, List.map_nil, Ast.enc, rts, ints]; exact (by (repeat first | refine uA ?_ | (refine ⟨?_, ?_⟩; focus first | rfl | trivial | (simp [slot]; done)) | rfl | trivial | simp | exact Nat.le_trans hν0 (by simp))))
 ·have hi' : i = arms.length := by omega
  subst hi'
  rw [List.take_length]
  (repeat first | refine uA ?_ | (apply S.exit; exact rfl) | ((with_reducible refine And.intro ?_ ?_); focus first | omega | trivial | exact id | (intros; simp_all <;> omega)) | simp (disch := omega) only [go_sem, Nat.reduceBEq, Nat.reduceAdd, Nat.reduceLeDiff, Int.reduceToNat, Int.reducePow, ww, List.length_map])
  refine S.loop (X := Nat) (fun i => ⟨[(1, .bp 0 0), (2, .bp 1 0), (5, .bp 2 0), (62, ints parts.length), (63, ints i)], [.box 31 [ams arms, wls walls, pts parts, sls slots, gts gates, .v (.bool walk.neg), sb walk.num, sb walk.den], .box 37 [.v (.int .i64 0), .v (.slice none 0 0), .v (.slice none 0 0), .v (.slice none 0 0), .v (.slice none 0 0)], .box 37 [.v (.int .i64 0), .rv 3, .rv 4, .v (.slice none 0 0), .v (.slice none 0 0)], .row 90 4 ((arms.map a0g).map Ast.enc), .row 55 10 (((List.range i).map fP).map Fr.enc)]⟩) (fun i => i <= parts.length) (fun i => parts.length - i) 0 (Nat.zero_le _) (by (repeat first | refine uA ?_ | (refine ⟨?_, ?_⟩; focus first | rfl | trivial | (simp [slot]; done)) | rfl | trivial | simp | exact Nat.le_trans hν0 (by simp))) ?_
  intro i hi
  simp only [ams, wls, pts, sls, gts, vts, sb, ints]
  (repeat first | refine uA ?_ | (apply S.exit; exact rfl) | ((with_reducible refine And.intro ?_ ?_); focus first | omega | trivial | exact id | (intros; simp_all <;> omega)) | simp (disch := omega) only [go_sem, Nat.reduceBEq, Nat.reduceAdd, Nat.reduceLeDiff, Int.reduceToNat, Int.reducePow, ww])
  (refine uJ rfl (fun hc => ?_) fun hc => ?_)
  ·have hrl : ((List.range i).map fP).length = i := by simp
   simp only [a1u, Fr.c, Fr.enc, sb] at hfz
   (repeat first | refine uA ?_ | (apply S.exit; exact rfl) | ((with_reducible refine And.intro ?_ ?_); focus first | omega | trivial | exact id | (intros; simp_all <;> omega)) | simp (disch := omega) only [go_sem, Nat.reduceBEq, Nat.reduceAdd, Nat.reduceLeDiff, Int.reduceToNat, Int.reducePow, ww] | (refine uD hfz ?_ ?_ ?_; exact ht; exact rfl))
   refine S.join (Y := Fr) (fun f => ⟨[(1, .bp 0 0), (2, .bp 1 0), (5, .bp 2 0), (12, .bp 5 0), (62, ints parts.length), (63, ints i)], [.box 31 [ams arms, wls walls, pts parts, sls slots, gts gates, .v (.bool walk.neg), sb walk.num, sb walk.den], .box 37 [.v (.int .i64 0), .v (.slice none 0 0), .v (.slice none 0 0), .v (.slice none 0 0), .v (.slice none 0 0)], .box 37 [.v (.int .i64 0), .rv 3, .rv 4, .v (.slice none 0 0), .v (.slice none 0 0)], .row 90 4 ((arms.map a0g).map Ast.enc), .row 55 10 (((List.range i).map fP).map Fr.enc), .box 55 f.enc]⟩) (fun f => f = fP i) ?_ ?_
   ·refine S.cond rfl (fun hc => ?_) (fun hc => ?_)
    ·have hsi : i < slots.length := by simp at hc; omega
     have hgs := List.getElem?_eq_getElem hsi
     have hf : fP i = (slots[i]).frame := by rw [hpe i, dif_pos hsi]
     generalize slots[i] = s at hgs hf
     (repeat first | refine uA ?_ | (apply S.exit; exact rfl) | ((with_reducible refine And.intro ?_ ?_); focus first | omega | trivial | exact id | (intros; simp_all <;> omega)) | simp (disch := omega) only [go_sem, Nat.reduceBEq, Nat.reduceAdd, Nat.reduceLeDiff, Int.reduceToNat, Int.reducePow, ww, hgs, Option.map_some, List.length_map, Sl.enc, sb, Int.toNat_natCast])
     exact S.met s.frame hf.symm (by simp only [ams, wls, pts, sls, gts, vts, sb, ints, Fr.enc]; exact (by (repeat first | refine uA ?_ | (refine ⟨?_, ?_⟩; focus first | rfl | trivial | (simp [slot]; done)) | rfl | trivial | simp | exact Nat.le_trans hν0 (by simp))))
    ·have hf : fP i = a1u := by rw [hpe i, dif_neg (by simp at hc; omega)]
     (repeat first | refine uA ?_ | (apply S.exit; exact rfl) | ((with_reducible refine And.intro ?_ ?_); focus first | omega | trivial | exact id | (intros; simp_all <;> omega)) | simp (disch := omega) only [go_sem, Nat.reduceBEq, Nat.reduceAdd, Nat.reduceLeDiff, Int.reduceToNat, Int.reducePow, ww])
     exact S.met a1u hf.symm (by simp only [ams, wls, pts, sls, gts, vts, sb, ints, Fr.enc, a1u]; exact (by (repeat first | refine uA ?_ | (refine ⟨?_, ?_⟩; focus first | rfl | trivial | (simp [slot]; done)) | rfl | trivial | simp | exact Nat.le_trans hν0 (by simp))))
   rintro f hf
   simp only [ams, wls, pts, sls, gts, vts, sb, ints, Fr.enc]
   (repeat first | refine uA ?_ | (apply S.exit; exact rfl) | ((with_reducible refine And.intro ?_ ?_); focus first | omega | trivial | exact id | (intros; simp_all <;> omega)) | simp (disch := omega) only [go_sem, Nat.reduceBEq, Nat.reduceAdd, Nat.reduceLeDiff, Int.reduceToNat, Int.reducePow, ww, List.length_map, hrl, List.length_range])
   refine S.next (i + 1) (by omega) (by omega) (by simp only [List.range_succ, List.map_append, List.map_cons, List.map_nil, <- hf, Fr.enc, sb]; exact (by (repeat first | refine uA ?_ | (refine ⟨?_, ?_⟩; focus first | rfl | trivial | (simp [slot]; done)) | rfl | trivial | simp | exact Nat.le_trans hν0 (by simp))))
  ·have hi' : i = parts.length := by omega
   subst hi'
   simp only [List.map_replicate]
   (repeat first | refine uA ?_ | (apply S.exit; exact rfl) | ((with_reducible refine And.intro ?_ ?_); focus first | omega | trivial | exact id | (intros; simp_all <;> omega)) | simp (disch := omega) only [go_sem, Nat.reduceBEq, Nat.reduceAdd, Nat.reduceLeDiff, Int.reduceToNat, Int.reducePow, ww, List.length_map, Int.toNat_natCast])
   (refine S.done ?_; simp only [x9, u6, go_sem, Nat.reduceBEq, Nat.reduceAdd, Nat.reduceLeDiff, Int.reduceToNat, Int.reducePow]; (repeat (refine ⟨?_, ?_⟩; focus first | trivial | omega | simp)); exact d9.L9 (Imp.tup (by (repeat' (first | exact q9.nil | exact Imp.refl rfl | exact Imp.frz rfl rfl rfl | exact Imp.a0W | refine Imp.agg ?_ | refine q9.cons ?_ ?_)))) (by (repeat first | refine uA ?_ | (refine ⟨?_, ?_⟩; focus first | rfl | trivial | (simp [slot]; done)) | rfl | trivial | simp)) (Nat.le_trans hν0 (by simp)))
end Go.Proofs.YtogfpjohjphngaaGreatDoor
namespace Go.Proofs.YtogfpjohjphngaaGreatDoor
set_option linter.all false
open Go Go.RowKit Eng
set_option maxRecDepth 10000
set_option maxHeartbeats 8000000
theorem b8R (x n : Int) (h : 1 <= n) : x % n = (if x.tmod n < 0 then x.tmod n + n else x.tmod n) /\ -n < x.tmod n /\ x.tmod n < n := by
 have hq : x = n * (x.tdiv n) + x.tmod n := (Int.mul_tdiv_add_tmod x n).symm
 have he : x % n = x.tmod n % n := by
  conv => lhs; rw [hq]
  exact Int.mul_add_emod_self_left ..
 have h2 := Int.tmod_lt_of_pos x (show 0 < n by omega)
 have h3 : -n < x.tmod n := by
  have := Int.tmod_lt_of_pos (-x) (show 0 < n by omega)
  rw [Int.neg_tmod] at this
  omega
 refine ⟨?_, h3, h2⟩
 rw [he]
 split
 ·rename_i hc
  have : x.tmod n % n = (x.tmod n + n) % n := by simp
  rw [this]
  exact Int.emod_eq_of_lt (by omega) (by omega)
 ·exact Int.emod_eq_of_lt (by omega) (by omega)
theorem a9i (x n : Int) (h : 1 <= n /\ n <= 4611686018427387904) : A8 Tryz.prog 12 [ints x, ints n] (ints (x % n)) := by
 refine A8.of a8d a8a (by exact Nat.le_of_ble_eq_true rfl) fun w O => ?_
 simp only [a3g, l9, TT, II, OA, OB, OC, MM, LL, VV, FF, MG, LG, VG, FG, ints]
 have hn : ¬ n = 0 := by omega
 obtain ⟨he, hlt⟩ := b8R x n (by omega)
 (repeat first | refine uA ?_ | (apply S.exit; exact rfl) | ((with_reducible refine And.intro ?_ ?_); focus first | omega | trivial | exact id | (intros; simp_all <;> omega)) | simp (disch := omega) only [go_sem, Nat.reduceBEq, Nat.reduceAdd, Nat.reduceLeDiff, Int.reduceToNat, Int.reducePow, ww, hn])
 (refine uJ rfl (fun hc => ?_) fun hc => ?_)
 ·rw [he, if_pos hc]
  (repeat first | refine uA ?_ | (apply S.exit; exact rfl) | ((with_reducible refine And.intro ?_ ?_); focus first | omega | trivial | exact id | (intros; simp_all <;> omega)) | simp (disch := omega) only [go_sem, Nat.reduceBEq, Nat.reduceAdd, Nat.reduceLeDiff, Int.reduceToNat, Int.reducePow, ww])
  exact S.done (d9.out rfl (Imp.refl rfl) rfl)
 ·rw [he, if_neg hc]
  (repeat first | refine uA ?_ | (apply S.exit; exact rfl) | ((with_reducible refine And.intro ?_ ?_); focus first | omega | trivial | exact id | (intros; simp_all <;> omega)) | simp (disch := omega) only [go_sem, Nat.reduceBEq, Nat.reduceAdd, Nat.reduceLeDiff, Int.reduceToNat, Int.reducePow, ww])
  exact S.done (d9.out rfl (Imp.refl rfl) rfl)
def G7 (l : List Int) : C := .sl 1 (l.map fun n => [.v (.int .i64 n)])
theorem G8 {E : Ctx} (hP : E.P = Tryz.prog) (l : List Int) (n : Int) (h : 1 <= n /\ n <= 4611686018427387904) :
  j6 E [.box 225 [G7 l]] 173 [.bp 0 0, ints n] (ints (nx l n)) [.box 225 [G7 (l.drop 1)]] [] := by
 obtain ⟨P, eff', N, w0, own0, av0, nu0, pk0⟩ := E
 simp only at hP
 subst hP
 refine j6.of (eff := eff) a4b a4c (by exact Nat.le_of_ble_eq_true rfl) fun w own av ν hν => ?_
 have hν0 : ν.length <= 1 := by rw [hν]; exact Nat.le_refl _
 have hn1 : decide (n < 1) = false := decide_eq_false (by omega)
 cases l with
 | nil =>
  have e : nx [] n = 0 := by unfold nx; rw [List.headD_nil, Int.zero_emod]
  rw [e]
  simp only [W9, l9, TT, II, OA, OB, OC, MM, LL, VV, FF, MG, LG, VG, FG, G7, ints, List.drop_nil, List.map_nil]
  (repeat first | refine uA ?_ | (apply S.exit; exact rfl) | ((with_reducible refine And.intro ?_ ?_); focus first | omega | trivial | exact id | (intros; simp_all <;> omega)) | simp (disch := omega) only [go_sem, Nat.reduceBEq, Nat.reduceAdd, Nat.reduceLeDiff, Int.reduceToNat, Int.reducePow, ww, hn1, List.length_nil])
  refine S.cond rfl (fun hc => ?_) (fun hc => by simp at hc)
  (repeat first | refine uA ?_ | (apply S.exit; exact rfl) | ((with_reducible refine And.intro ?_ ?_); focus first | omega | trivial | exact id | (intros; simp_all <;> omega)) | simp (disch := omega) only [go_sem, Nat.reduceBEq, Nat.reduceAdd, Nat.reduceLeDiff, Int.reduceToNat, Int.reducePow, ww])
  (refine S.done ?_; simp only [x9, u6, go_sem, Nat.reduceBEq, Nat.reduceAdd, Nat.reduceLeDiff, Int.reduceToNat, Int.reducePow]; (repeat (refine ⟨?_, ?_⟩; focus first | trivial | omega | simp)); exact d9.L9 (Imp.refl rfl) (by (repeat first | refine uA ?_ | (refine ⟨?_, ?_⟩; focus first | rfl | trivial | (simp [slot]; done)) | rfl | trivial | simp)) (Nat.le_trans hν0 (by simp)))
 | cons x r =>
  have e : nx (x :: r) n = x % n := by unfold nx; rw [List.headD_cons]
  rw [e]
  have hb := a9i x n h
  have h0 : decide (((r.length : Int) + 1) = 0) = false := decide_eq_false (by omega)
  simp only [W9, l9, TT, II, OA, OB, OC, MM, LL, VV, FF, MG, LG, VG, FG, G7, ints, List.map_cons, List.drop_succ_cons, List.drop_zero] at *
  (repeat first | refine uA ?_ | (apply S.exit; exact rfl) | ((with_reducible refine And.intro ?_ ?_); focus first | omega | trivial | exact id | (intros; simp_all <;> omega)) | simp (disch := omega) only [go_sem, Nat.reduceBEq, Nat.reduceAdd, Nat.reduceLeDiff, Int.reduceToNat, Int.reducePow, ww, hn1, h0, List.length_cons, List.length_map] | (refine uB hb ?_ ?_; exact rfl))
  refine S.cond rfl (fun hc => by simp at hc; omega) (fun hc => ?_)
  (repeat first | refine uA ?_ | (apply S.exit; exact rfl) | ((with_reducible refine And.intro ?_ ?_); focus first | omega | trivial | exact id | (intros; simp_all <;> omega)) | simp (disch := omega) only [go_sem, Nat.reduceBEq, Nat.reduceAdd, Nat.reduceLeDiff, Int.reduceToNat, Int.reducePow, ww, hn1, List.length_cons, List.length_map, List.getElem?_cons_zero, a5H, List.take_succ_cons, List.drop_succ_cons, Nat.add_sub_cancel, List.take_length] | (refine uB hb ?_ ?_; exact rfl))
  (refine S.done ?_; simp only [x9, u6, go_sem, Nat.reduceBEq, Nat.reduceAdd, Nat.reduceLeDiff, Int.reduceToNat, Int.reducePow]; (repeat (refine ⟨?_, ?_⟩; focus first | trivial | omega | simp)); exact d9.L9 (Imp.refl rfl) (by (repeat first | refine uA ?_ | (refine ⟨?_, ?_⟩; focus first | rfl | trivial | (simp [slot]; done)) | rfl | trivial | simp)) (Nat.le_trans hν0 (by simp)))
end Go.Proofs.YtogfpjohjphngaaGreatDoor
namespace Go.Proofs.YtogfpjohjphngaaGreatDoor
set_option linter.all false
open Go Go.RowKit Eng
set_option maxRecDepth 10000
set_option maxHeartbeats 8000000
def a7i (l : List UInt8) (i : Nat) (out : List UInt8) : Prop :=
 out.length = l.length /\ ∀ k, k < l.length -> out[k]? = if k < i \/ l.length - i <= k then l[l.length - 1 - k]? else l[k]?
theorem b5X (l : List UInt8) : a7i l 0 l := ⟨rfl, fun k hk => by rw [if_neg (by omega)]⟩
theorem b5g {l out : List UInt8} {i : Nat} {x y : UInt8} (h : a7i l i out) (hi : i + 1 < l.length - i) (hx : out[i]? = some x) (hy : out[l.length - 1 - i]? = some y) : a7i l (i + 1) ((out.set i y).set (l.length - 1 - i) x) := by
 obtain ⟨h1, h2⟩ := h
 have e1 := h2 i (by omega)
 have e2 := h2 (l.length - 1 - i) (by omega)
 rw [if_neg (by omega), hx] at e1
 rw [if_neg (by omega), hy] at e2
 refine ⟨by simp [h1], fun k hk => ?_⟩
 by_cases k1 : k = l.length - 1 - i
 ·subst k1
  rw [List.getElem?_set_self (by simp; omega), if_pos (by omega), e1]
  congr 1
  omega
 ·rw [List.getElem?_set_ne (fun e => k1 e.symm)]
  by_cases k2 : k = i
  ·subst k2
   rw [List.getElem?_set_self (by omega), if_pos (by omega), e2]
  ·rw [List.getElem?_set_ne (fun e => k2 e.symm), h2 k hk]
   by_cases k3 : k < i \/ l.length - i <= k
   ·rw [if_pos k3, if_pos (by omega)]
   ·rw [if_neg k3, if_neg (by omega)]
theorem b6S {l out : List UInt8} {i : Nat} (h : a7i l i out) (hi : l.length - i <= i + 1) : out = l.reverse := by
 obtain ⟨h1, h2⟩ := h
 apply List.ext_getElem?
 intro k
 rcases Nat.lt_or_ge k l.length with hk | hk
 ·rw [h2 k hk, List.getElem?_reverse hk]
  by_cases k3 : k < i \/ l.length - i <= k
  ·rw [if_pos k3]
  ·rw [if_neg k3, show l.length - 1 - k = k by omega]
 ·rw [List.getElem?_eq_none (by omega), List.getElem?_eq_none (by simp; omega)]
theorem c3p {E : Ctx} (hP : E.P = Tryz.prog) (l : List UInt8) (hl : l.length <= 1099511627776) : j6 E [.row 5 1 (l.map F7)] 189 [.rv 0] (.tup []) [.row 5 1 (l.reverse.map F7)] [] := by
 obtain ⟨P, eff', N, w0, own0, av0, nu0, pk0⟩ := E
 simp only at hP
 subst hP
 refine j6.of (eff := eff) a2T a2R (by exact Nat.le_of_ble_eq_true rfl) fun w own av ν hν => ?_
 have hν0 : ν.length <= 1 := by rw [hν]; exact Nat.le_refl _
 simp only [a0h, l9, TT, II, OA, OB, OC, MM, LL, VV, FF, MG, LG, VG, FG]
 (repeat first | refine uA ?_ | (apply S.exit; exact rfl) | ((with_reducible refine And.intro ?_ ?_); focus first | omega | trivial | exact id | (intros; simp_all <;> omega)) | simp (disch := omega) only [go_sem, Nat.reduceBEq, Nat.reduceAdd, Nat.reduceLeDiff, Int.reduceToNat, Int.reducePow, ww, List.length_map])
 refine S.loop (X := Nat × List UInt8) (fun x => ⟨[(0, .rv 0), (2, ints x.1), (3, ints ((l.length : Int) - 1 - (x.1 : Int)))], [.row 5 1 (x.2.map F7)]⟩) (fun x => x.1 <= l.length /\ a7i l x.1 x.2) (fun x => l.length - x.1) (0, l) ⟨Nat.zero_le _, b5X l⟩ (by simp only [Int.natCast_zero, Int.sub_zero]; exact (by (repeat first | refine uA ?_ | (refine ⟨?_, ?_⟩; focus first | rfl | trivial | (simp [slot]; done)) | rfl | trivial | simp | exact Nat.le_trans hν0 (by simp)))) ?_
 rintro ⟨i, out⟩ ⟨hi, hinv⟩
 simp only [ints] at hi hinv ⊢
 have hol := hinv.1
 (repeat first | refine uA ?_ | (apply S.exit; exact rfl) | ((with_reducible refine And.intro ?_ ?_); focus first | omega | trivial | exact id | (intros; simp_all <;> omega)) | simp (disch := omega) only [go_sem, Nat.reduceBEq, Nat.reduceAdd, Nat.reduceLeDiff, Int.reduceToNat, Int.reducePow, ww])
 (refine uJ rfl (fun hc => ?_) fun hc => ?_)
 ·have gi : out[i]? = some (out[i]'(by omega)) := List.getElem?_eq_getElem (by omega)
  have gj : out[l.length - 1 - i]? = some (out[l.length - 1 - i]'(by omega)) := List.getElem?_eq_getElem (by omega)
  have hst := b5g hinv (by omega) gi gj
  have hsk : l.length - 1 - i ≠ i := by omega
  generalize out[i]'_ = xi at *
  generalize out[l.length - 1 - i]'_ = xj at *
  have gj2 : (out.set i xj)[l.length - 1 - i]? = some xj := by rw [List.getElem?_set_ne (Ne.symm hsk)]; exact gj
  have n0 : ((l.length : Int) - 1 - (i : Int)).toNat = l.length - 1 - i := by omega
  have e1 : (out.map F7).set i [.v (.int .u8 ((xj.toNat : Nat) : Int))] = (out.set i xj).map F7 := a2L out i xj
  have e2 : ((out.set i xj).map F7).set (l.length - 1 - i) [.v (.int .u8 ((xi.toNat : Nat) : Int))] = ((out.set i xj).set (l.length - 1 - i) xi).map F7 := a2L _ _ _
  have hr : (l.length : Int) - 1 - ((i + 1 : Nat) : Int) = (l.length : Int) - 1 - (i : Int) - 1 := by omega
  (repeat first | refine uA ?_ | (apply S.exit; exact rfl) | ((with_reducible refine And.intro ?_ ?_); focus first | omega | trivial | exact id | (intros; simp_all <;> omega)) | simp (disch := omega) only [go_sem, Nat.reduceBEq, Nat.reduceAdd, Nat.reduceLeDiff, Int.reduceToNat, Int.reducePow, ww, List.length_map, gi, gj, gj2, n0, e1, e2, F7, Option.map_some, Int.toNat_natCast, List.length_set])
  refine S.next (x := (i, out)) (i + 1, _) ⟨by simp only; omega, hst⟩ (by simp only; omega) (by simp only [hr]; exact (by (repeat first | refine uA ?_ | (refine ⟨?_, ?_⟩; focus first | rfl | trivial | (simp [slot]; done)) | rfl | trivial | simp | exact Nat.le_trans hν0 (by simp))))
 ·have := b6S hinv (by omega)
  subst this
  (repeat first | refine uA ?_ | (apply S.exit; exact rfl) | ((with_reducible refine And.intro ?_ ?_); focus first | omega | trivial | exact id | (intros; simp_all <;> omega)) | simp (disch := omega) only [go_sem, Nat.reduceBEq, Nat.reduceAdd, Nat.reduceLeDiff, Int.reduceToNat, Int.reducePow, ww])
  exact S.end_ (d9.own rfl)
theorem b4e (n : Nat) (hn : n < 4611686018427387904) : A8 Tryz.prog 80 [.v (.int .i64 (n : Int))] (sb (Nm.enc n)) := by
  refine A8.of a7k a7q (by exact Nat.le_of_ble_eq_true rfl) fun w O => ?_
  have h8 : (Nm.enc n).length <= 8 := Nm.I5 (by omega)
  simp only [a2X, l9, TT, II, OA, OB, OC, MM, LL, VV, FF, MG, LG, VG, FG, sb]
  (repeat first | refine uA ?_ | (apply S.exit; exact rfl) | ((with_reducible refine And.intro ?_ ?_); focus first | omega | trivial | exact id | (intros; simp_all <;> omega)) | simp (disch := omega) only [go_sem, Nat.reduceBEq, Nat.reduceAdd, Nat.reduceLeDiff, Int.reduceToNat, Int.reducePow, ww])
  refine S.loop (X := Nat × List UInt8) (fun x => ⟨[(0, ints x.1), (3, .rv 0)], [.row 5 1 (x.2.map F7)]⟩) (fun x => x.1 <= n /\ Nm.enc x.1 ++ x.2.reverse = Nm.enc n) (fun x => x.1) (n, []) ⟨Nat.le_refl _, by simp⟩ (Ent.trans (Ent.pack 3 5 1 rfl) (by (repeat first | refine uA ?_ | (refine ⟨?_, ?_⟩; focus first | rfl | trivial | (simp [slot]; done)) | rfl | trivial | simp))) ?_
  rintro ⟨m, out⟩ ⟨hm, hinv⟩
  simp only [ints] at hm hinv ⊢
  have hol : out.length <= 8 := by
    have := congrArg List.length hinv
    simp only [List.length_append, List.length_reverse] at this
    omega
  (repeat first | refine uA ?_ | (apply S.exit; exact rfl) | ((with_reducible refine And.intro ?_ ?_); focus first | omega | trivial | exact id | (intros; simp_all <;> omega)) | simp (disch := omega) only [go_sem, Nat.reduceBEq, Nat.reduceAdd, Nat.reduceLeDiff, Int.reduceToNat, Int.reducePow, ww])
  (refine uJ rfl (fun hc => ?_) fun hc => ?_)
  · have he : Nm.enc m = Nm.enc (m / 256) ++ [UInt8.ofNat (m % 256)] := by
      conv => lhs; unfold Nm.enc
      rw [if_neg (by omega)]
    have hb : (UInt8.ofNat (m % 256)).toNat = m % 256 := by simp
    have h1 : IntKind.u8.wrap (Int.tmod (m : Int) 256) = (((UInt8.ofNat (m % 256)).toNat : Nat) : Int) := by
      rw [hb, show Int.tmod (m : Int) 256 = ((m % 256 : Nat) : Int) from rfl, a1m]
      omega
    have h2 : Int.tdiv (m : Int) 256 = ((m / 256 : Nat) : Int) := rfl
    have hap : Nm.enc (m / 256) ++ (out ++ [UInt8.ofNat (m % 256)]).reverse = Nm.enc n := by
      rw [List.reverse_append, <- hinv, he]
      simp
    generalize UInt8.ofNat (m % 256) = b at *
    (repeat first | refine uA ?_ | (apply S.exit; exact rfl) | ((with_reducible refine And.intro ?_ ?_); focus first | omega | trivial | exact id | (intros; simp_all <;> omega)) | simp (disch := omega) only [go_sem, Nat.reduceBEq, Nat.reduceAdd, Nat.reduceLeDiff, Int.reduceToNat, Int.reducePow, ww, List.length_map, h1, h2])
    refine S.next (x := (m, out)) (m / 256, out ++ [b]) ⟨by simp only; omega, hap⟩ (by simp only; omega) (by simp only [List.map_append, List.map_cons, List.map_nil, F7]; exact (by (repeat first | refine uA ?_ | (refine ⟨?_, ?_⟩; focus first | rfl | trivial | (simp [slot]; done)) | rfl | trivial | simp)))
  · have h0 : m = 0 := by omega
    subst h0
    rw [Nm.a0N, List.nil_append] at hinv
    have hr := fun (E : Ctx) (hP : E.P = Tryz.prog) => c3p hP out (by omega)
    rw [hinv] at hr
    (repeat first | refine uA ?_ | (apply S.exit; exact rfl) | ((with_reducible refine And.intro ?_ ?_); focus first | omega | trivial | exact id | (intros; simp_all <;> omega)) | simp (disch := omega) only [go_sem, Nat.reduceBEq, Nat.reduceAdd, Nat.reduceLeDiff, Int.reduceToNat, Int.reducePow, ww, Q6, a3t] | refine l8.t (j6.lift (k := 0) rfl (hr _ rfl) rfl rfl rfl) ?_)
    exact S.done (d9.out rfl (Imp.refl rfl) rfl)
theorem c0D (a b : Nat) (h : 0 < b) : Nat.gcd b (a % b) = Nat.gcd a b := by
 rw [Nat.gcd_comm b, <- Nat.gcd_rec, Nat.gcd_comm]
theorem a0Z (n d : Int) (hn : -1099511627776 <= n /\ n <= 1099511627776) (hd : 1 <= d /\ d <= 1099511627776) : A8 Tryz.prog 17 [ints n, ints d] (rc (Q n d)) := by
 refine A8.of b1r b0Z (by exact Nat.le_of_ble_eq_true rfl) fun w O => ?_
 obtain ⟨m, rfl⟩ : ∃ m : Nat, d = m := ⟨d.toNat, by omega⟩
 have hq : Q n m = Nm.ofQ (mkRat (Nm.sgn (decide (n < 0)) n.natAbs) m) := by
  unfold Q
  have : Nm.sgn (decide (n < 0)) n.natAbs = n := by unfold Nm.sgn; by_cases h : n < 0 <;> simp [h] <;> omega
  rw [this, Int.toNat_natCast]
 rw [hq, <- Nm.b0N _ (by omega)]
 have hmx : (if n < -n then -n else n) = ((n.natAbs : Nat) : Int) := by split <;> omega
 have hwn : IntKind.i64.wrap (0 - n) = -n := by rw [Eng.wrap_i64 (by omega)]; omega
 have hgp : 0 < Nat.gcd n.natAbs m := Nat.gcd_pos_of_pos_right _ (by omega)
 simp only [a5h, l9, TT, II, OA, OB, OC, MM, LL, VV, FF, MG, LG, VG, FG, ints]
 (repeat first | refine uA ?_ | (apply S.exit; exact rfl) | ((with_reducible refine And.intro ?_ ?_); focus first | omega | trivial | exact id | (intros; simp_all <;> omega)) | simp (disch := omega) only [go_sem, Nat.reduceBEq, Nat.reduceAdd, Nat.reduceLeDiff, Int.reduceToNat, Int.reducePow, ww, hwn, hmx])
 refine S.loop (X := Nat × Nat) (fun x => ⟨[(0, ints n), (1, ints m), (4, .bp 0 0), (5, ints x.1), (6, ints x.2)], [.box 29 [.v (.bool false), .v (.string ⟨#[]⟩), .v (.string ⟨#[]⟩)]]⟩) (fun x => Nat.gcd x.1 x.2 = Nat.gcd n.natAbs m /\ x.1 <= 1099511627776 /\ x.2 <= 1099511627776) (fun x => x.2) (n.natAbs, m) ⟨rfl, by omega, by omega⟩ (by (repeat first | refine uA ?_ | (refine ⟨?_, ?_⟩; focus first | rfl | trivial | (simp [slot]; done)) | rfl | trivial | simp)) ?_
 rintro ⟨a, b⟩ ⟨hg, ha, hb⟩
 simp only [ints] at hg ha hb ⊢
 (repeat first | refine uA ?_ | (apply S.exit; exact rfl) | ((with_reducible refine And.intro ?_ ?_); focus first | omega | trivial | exact id | (intros; simp_all <;> omega)) | simp (disch := omega) only [go_sem, Nat.reduceBEq, Nat.reduceAdd, Nat.reduceLeDiff, Int.reduceToNat, Int.reducePow, ww])
 (refine uJ rfl (fun hc => ?_) fun hc => ?_)
 ·have h1 : Int.tmod (a : Int) (b : Int) = ((a % b : Nat) : Int) := rfl
  have hlt : a % b < b := Nat.mod_lt _ (by omega)
  have hb0 : ¬ ((b : Int) = 0) := by omega
  (repeat first | refine uA ?_ | (apply S.exit; exact rfl) | ((with_reducible refine And.intro ?_ ?_); focus first | omega | trivial | exact id | (intros; simp_all <;> omega)) | simp (disch := omega) only [go_sem, Nat.reduceBEq, Nat.reduceAdd, Nat.reduceLeDiff, Int.reduceToNat, Int.reducePow, ww, h1, hb0])
  refine S.next (x := (a, b)) (b, a % b) ⟨by simp only; rw [c0D a b (by omega)]; exact hg, by simp only; omega, by simp only; omega⟩ (by simp only; omega) (by (repeat first | refine uA ?_ | (refine ⟨?_, ?_⟩; focus first | rfl | trivial | (simp [slot]; done)) | rfl | trivial | simp))
 ·have hb0 : b = 0 := by omega
  subst hb0
  rw [Nat.gcd_zero_right] at hg
  subst hg
  have ha0 : ¬ (((Nat.gcd n.natAbs m : Nat) : Int) = 0) := by omega
  generalize hgg : Nat.gcd n.natAbs m = g at *
  have hdvn : g ∣ n.natAbs := by rw [<- hgg]; exact Nat.gcd_dvd_left ..
  have e2 : Int.tdiv (m : Int) (g : Int) = ((m / g : Nat) : Int) := rfl
  obtain ⟨k, hk⟩ := hdvn
  have hkq : n.natAbs / g = k := by rw [hk]; exact Nat.mul_div_cancel_left _ hgp
  have e1 : Int.tdiv n (g : Int) = Nm.sgn (decide (n < 0)) k := by
   have h3 : (n : Int) = (g : Int) * Nm.sgn (decide (n < 0)) k := by
    have h4 : ((n.natAbs : Nat) : Int) = (g : Int) * (k : Int) := by rw [hk]; simp
    unfold Nm.sgn
    by_cases h : n < 0
    ·simp only [h, decide_true, if_true, Int.mul_neg]; omega
    ·simp only [h, decide_false, Bool.false_eq_true, if_false]; omega
   rw [show Int.tdiv n (g : Int) = Int.tdiv ((g : Int) * Nm.sgn (decide (n < 0)) k) (g : Int) from congrArg (fun z => Int.tdiv z (g : Int)) h3]
   exact Int.mul_tdiv_cancel_left _ (by omega)
  have hkb : k <= 1099511627776 := by
   have : k <= g * k := Nat.le_mul_of_pos_left k hgp
   omega
  have hmb : m / g <= m := Nat.div_le_self _ _
  have hs : -1099511627776 <= Nm.sgn (decide (n < 0)) k /\ Nm.sgn (decide (n < 0)) k <= 1099511627776 := by unfold Nm.sgn; split <;> omega
  have hneg : decide (Nm.sgn (decide (n < 0)) k < 0) = (decide (n < 0) && !decide (k = 0)) := by
   unfold Nm.sgn
   by_cases h : n < 0
   ·by_cases h0 : k = 0
    ·subst h0; simp [h]
    ·simp [h, h0]; try omega
   ·simp [h]; try omega
  have hab : (if Nm.sgn (decide (n < 0)) k < -(Nm.sgn (decide (n < 0)) k) then -(Nm.sgn (decide (n < 0)) k) else Nm.sgn (decide (n < 0)) k) = ((k : Nat) : Int) := by unfold Nm.sgn; split <;> split <;> omega
  have hws : IntKind.i64.wrap (0 - Nm.sgn (decide (n < 0)) k) = -(Nm.sgn (decide (n < 0)) k) := by rw [Eng.wrap_i64 (by omega)]; omega
  have hwm : IntKind.i64.wrap ((m / g : Nat) : Int) = ((m / g : Nat) : Int) := by
   generalize m / g = z at *
   exact Eng.wrap_i64 (by omega)
  have d1 := b4e k (by omega)
  have d2 := b4e (m / g) (by omega)
  have hres : (if n.natAbs = 0 then Nm.a2D else ⟨decide (n < 0), Nm.enc (n.natAbs / g), Nm.enc (m / g)⟩ : Nm.Rt) = ⟨decide (n < 0) && !decide (k = 0), Nm.enc k, Nm.enc (m / g)⟩ := by
   rw [hkq]
   by_cases h0 : n.natAbs = 0
   ·have hn0 : n = 0 := by omega
    subst hn0
    have hk0 : k = 0 := by
     rcases Nat.eq_zero_or_pos k with h | h
     ·exact h
     ·have := Nat.mul_pos hgp h; omega
    have hgm : g = m := by rw [<- hgg]; simp
    subst hk0
    have h1 : m / g = 1 := by rw [hgm]; exact Nat.div_self (by omega)
    rw [h1, Nm.a1E, Nm.a0N]
    rfl
   ·have hk0 : k ≠ 0 := by intro h; subst h; omega
    rw [if_neg h0]
    simp [hk0]
  rw [hres]
  rw [<- hneg]
  simp only [rc, sb] at d1 d2 ⊢
  generalize Nm.sgn (decide (n < 0)) k = s at *
  (repeat first | refine uA ?_ | (apply S.exit; exact rfl) | ((with_reducible refine And.intro ?_ ?_); focus first | omega | trivial | exact id | (intros; simp_all <;> omega)) | simp (disch := omega) only [go_sem, Nat.reduceBEq, Nat.reduceAdd, Nat.reduceLeDiff, Int.reduceToNat, Int.reducePow, ww, ha0, e1, e2, hws, hab, hwm] | (refine uB d1 ?_ ?_; exact rfl) | (refine uB d2 ?_ ?_; exact rfl))
  (refine S.done ?_; simp only [x9, u6, go_sem, Nat.reduceBEq, Nat.reduceAdd, Nat.reduceLeDiff, Int.reduceToNat, Int.reducePow]; (repeat (refine ⟨?_, ?_⟩; focus first | trivial | omega | simp)); exact d9.out rfl (Imp.refl rfl) rfl)
end Go.Proofs.YtogfpjohjphngaaGreatDoor
namespace Go.Proofs.YtogfpjohjphngaaGreatDoor
set_option linter.all false
open Go Go.RowKit Eng
set_option maxRecDepth 10000
set_option maxHeartbeats 8000000
theorem P5 (x y : Int) (hx : -1000000 <= x /\ x <= 1000000) (hy : -1000000 <= y /\ y <= 1000000) : A8 Tryz.prog 177 [ints x, ints y] (atV x y).c := by
 refine A8.of b0I b0L (by exact Nat.le_of_ble_eq_true rfl) fun w O => ?_
 have h1 := a0Z x 4 (by omega) (by omega)
 have h2 := a0Z y 4 (by omega) (by omega)
 unfold atV
 generalize Q x 4 = qx at *
 generalize Q y 4 = qy at *
 simp only [a5e, l9, TT, II, OA, OB, OC, MM, LL, VV, FF, MG, LG, VG, FG]
 simp only [rc, sb, ints, Vt.c, Vt.enc] at *
 (repeat first | refine uA ?_ | (apply S.exit; exact rfl) | ((with_reducible refine And.intro ?_ ?_); focus first | omega | trivial | exact id | (intros; simp_all <;> omega)) | simp (disch := omega) only [go_sem, Nat.reduceBEq, Nat.reduceAdd, Nat.reduceLeDiff, Int.reduceToNat, Int.reducePow, ww] | (refine uB h1 ?_ ?_; exact rfl) | (refine uB h2 ?_ ?_; exact rfl))
 (refine S.done ?_; simp only [x9, u6, go_sem, Nat.reduceBEq, Nat.reduceAdd, Nat.reduceLeDiff, Int.reduceToNat, Int.reducePow]; (repeat (refine ⟨?_, ?_⟩; focus first | trivial | omega | simp)); exact d9.out rfl (Imp.refl rfl) rfl)
theorem b9m (x y u v : Int) (hx : -100000 <= x /\ x <= 100000) (hy : -100000 <= y /\ y <= 100000) (hu : -100000 <= u /\ u <= 100000) (hv : -100000 <= v /\ v <= 100000) : A8 Tryz.prog 175 [ints x, ints y, ints u, ints v] (vts (a4s x y u v)) := by
 refine A8.of a5t a5p (by exact Nat.le_of_ble_eq_true rfl) fun w O => ?_
 have h1 := P5 x y (by omega) (by omega)
 have h2 := P5 u y (by omega) (by omega)
 have h3 := P5 u v (by omega) (by omega)
 have h4 := P5 x v (by omega) (by omega)
 unfold a4s
 generalize atV x y = p1 at *
 generalize atV u y = p2 at *
 generalize atV u v = p3 at *
 generalize atV x v = p4 at *
 simp only [a1G, l9, TT, II, OA, OB, OC, MM, LL, VV, FF, MG, LG, VG, FG]
 simp only [vts, Vt.c, Vt.enc, sb, ints] at *
 (repeat first | refine uA ?_ | (apply S.exit; exact rfl) | ((with_reducible refine And.intro ?_ ?_); focus first | omega | trivial | exact id | (intros; simp_all <;> omega)) | simp (disch := omega) only [go_sem, Nat.reduceBEq, Nat.reduceAdd, Nat.reduceLeDiff, Int.reduceToNat, Int.reducePow, ww] | (refine uB h1 ?_ ?_; exact rfl) | (refine uB h2 ?_ ?_; exact rfl) | (refine uB h3 ?_ ?_; exact rfl) | (refine uB h4 ?_ ?_; exact rfl))
 exact S.done (d9.out rfl (Imp.frz rfl rfl rfl) rfl)
theorem c0O (l : List Int) : a1c l = if nx (l.drop 2) 4 = 1 then (a1a (1 + nx l 6) (1 + nx (l.drop 1) 6) 1 (nx (l.drop 3) (2 * (1 + nx l 6) + 1)), l.drop 4) else (a1a (1 + nx l 6) (1 + nx (l.drop 1) 6) (nx (l.drop 2) 4) 0, l.drop 3) := by
 unfold a1c
 by_cases h : nx (l.drop 2) 4 = 1
 ·simp only [h, if_true]
 ·simp only [if_neg h]
theorem c2K {E : Ctx} (hP : E.P = Tryz.prog) (l : List Int) :
  j6 E [.box 225 [G7 l]] 176 [.bp 0 0] (vts (a1c l).1) [.box 225 [G7 (a1c l).2]] [] := by
 obtain ⟨P, eff', N, w0, own0, av0, nu0, pk0⟩ := E
 simp only at hP
 subst hP
 refine j6.of (eff := eff) a8N a9m (by exact Nat.le_of_ble_eq_true rfl) fun w own av ν hν => ?_
 have hν0 : ν.length <= 1 := by rw [hν]; exact Nat.le_refl _
 have n1 := fun (E : Ctx) (hP : E.P = Tryz.prog) => G8 hP l 6 (by decide)
 have n2 := fun (E : Ctx) (hP : E.P = Tryz.prog) => G8 hP (l.drop 1) 6 (by decide)
 have n3 := fun (E : Ctx) (hP : E.P = Tryz.prog) => G8 hP (l.drop 2) 4 (by decide)
 have b1 := l7 l (n := 6) (by decide)
 have b2 := D7 l (n := 6) (by decide)
 have b3 := l7 (l.drop 1) (n := 6) (by decide)
 have b4 := D7 (l.drop 1) (n := 6) (by decide)
 have b5 := l7 (l.drop 2) (n := 4) (by decide)
 have b6 := D7 (l.drop 2) (n := 4) (by decide)
 rw [c0O]
 generalize hw : nx l 6 = w' at *
 generalize hh : nx (l.drop 1) 6 = h' at *
 have n4 := fun (E : Ctx) (hP : E.P = Tryz.prog) => G8 hP (l.drop 3) (2 * (1 + w') + 1) (by omega)
 have b7 := l7 (l.drop 3) (n := 2 * (1 + w') + 1) (by omega)
 have b8 := D7 (l.drop 3) (n := 2 * (1 + w') + 1) (by omega)
 generalize hk : nx (l.drop 2) 4 = k at *
 generalize hs : nx (l.drop 3) (2 * (1 + w') + 1) = s at *
 rw [List.drop_drop] at n2 n3 n4
 generalize hu1 : 1 + w' = u at *
 generalize hv1 : 1 + h' = v at *
 have ru : IntKind.i64.wrap (0 - u) = -u := by rw [Eng.wrap_i64 (by omega)]; omega
 have rv : IntKind.i64.wrap (0 - v) = -v := by rw [Eng.wrap_i64 (by omega)]; omega
 simp only [a3W, l9, TT, II, OA, OB, OC, MM, LL, VV, FF, MG, LG, VG, FG]
 simp only [G7, ints] at n1 n2 n3 n4 ⊢
 (repeat first | refine uA ?_ | (apply S.exit; exact rfl) | ((with_reducible refine And.intro ?_ ?_); focus first | omega | trivial | exact id | (intros; simp_all <;> omega)) | simp (disch := omega) only [go_sem, Nat.reduceBEq, Nat.reduceAdd, Nat.reduceLeDiff, Int.reduceToNat, Int.reducePow, ww, hu1, hv1] | refine l8.t (j6.lift (k := 0) rfl (n1 _ rfl) rfl rfl rfl) ?_ | refine l8.t (j6.lift (k := 0) rfl (n2 _ rfl) rfl rfl rfl) ?_)
 (repeat first | refine uA ?_ | (apply S.exit; exact rfl) | ((with_reducible refine And.intro ?_ ?_); focus first | omega | trivial | exact id | (intros; simp_all <;> omega)) | simp (disch := omega) only [go_sem, Nat.reduceBEq, Nat.reduceAdd, Nat.reduceLeDiff, Int.reduceToNat, Int.reducePow, ww] | refine l8.t (j6.lift (k := 0) rfl (n3 _ rfl) rfl rfl rfl) ?_)
 by_cases k0 : k = 0
 ·subst k0
  rw [if_neg (by decide), show a1a u v 0 0 = [atV (-u) (-v), atV u (-v), atV u v, atV (-u) v] from rfl]
  have h1 := P5 (-u) (-v) (by omega) (by omega)
  have h2 := P5 (u) (-v) (by omega) (by omega)
  have h3 := P5 (u) (v) (by omega) (by omega)
  have h4 := P5 (-u) (v) (by omega) (by omega)
  generalize hq1 : atV (-u) (-v) = p1 at *
  generalize hq2 : atV (u) (-v) = p2 at *
  generalize hq3 : atV (u) (v) = p3 at *
  generalize hq4 : atV (-u) (v) = p4 at *
  simp only [vts, Vt.c, Vt.enc, sb, ints] at h1 h2 h3 h4 ⊢
  refine S.cond rfl (fun hc => ?_) (fun hc => by simp at hc)
  (repeat first | refine uA ?_ | (apply S.exit; exact rfl) | ((with_reducible refine And.intro ?_ ?_); focus first | omega | trivial | exact id | (intros; simp_all <;> omega)) | simp (disch := omega) only [go_sem, Nat.reduceBEq, Nat.reduceAdd, Nat.reduceLeDiff, Int.reduceToNat, Int.reducePow, ww, ru, rv] | (refine uB h1 ?_ ?_; exact rfl) | (refine uB h2 ?_ ?_; exact rfl) | (refine uB h3 ?_ ?_; exact rfl) | (refine uB h4 ?_ ?_; exact rfl))
  (refine S.done ?_; simp only [x9, u6, go_sem, Nat.reduceBEq, Nat.reduceAdd, Nat.reduceLeDiff, Int.reduceToNat, Int.reducePow]; (repeat (refine ⟨?_, ?_⟩; focus first | trivial | omega | simp)); exact d9.L9 (Imp.frz rfl rfl rfl) (by (repeat first | refine uA ?_ | (refine ⟨?_, ?_⟩; focus first | rfl | trivial | (simp [slot]; done)) | rfl | trivial | simp)) (Nat.le_trans hν0 (by simp)))
 refine S.cond rfl (fun hc => by simp at hc; exact absurd hc k0) (fun hc => ?_)
 (repeat first | refine uA ?_ | (apply S.exit; exact rfl) | ((with_reducible refine And.intro ?_ ?_); focus first | omega | trivial | exact id | (intros; simp_all <;> omega)) | simp (disch := omega) only [go_sem, Nat.reduceBEq, Nat.reduceAdd, Nat.reduceLeDiff, Int.reduceToNat, Int.reducePow, ww])
 by_cases k1 : k = 1
 ·subst k1
  rw [if_pos rfl, show a1a u v 1 s = [atV (-u) (-v), atV u (-v), atV (s - u) v] from rfl]
  have h1 := P5 (-u) (-v) (by omega) (by omega)
  have h2 := P5 (u) (-v) (by omega) (by omega)
  have h3 := P5 (s - u) (v) (by omega) (by omega)
  generalize hq1 : atV (-u) (-v) = p1 at *
  generalize hq2 : atV (u) (-v) = p2 at *
  generalize hq3 : atV (s - u) (v) = p3 at *
  simp only [vts, Vt.c, Vt.enc, sb, ints] at h1 h2 h3 ⊢
  refine S.cond rfl (fun hc => ?_) (fun hc => by simp at hc)
  (repeat first | refine uA ?_ | (apply S.exit; exact rfl) | ((with_reducible refine And.intro ?_ ?_); focus first | omega | trivial | exact id | (intros; simp_all <;> omega)) | simp (disch := omega) only [go_sem, Nat.reduceBEq, Nat.reduceAdd, Nat.reduceLeDiff, Int.reduceToNat, Int.reducePow, ww, ru, rv] | refine l8.t (j6.lift (k := 0) rfl (n4 _ rfl) rfl rfl rfl) ?_ | (refine uB h1 ?_ ?_; exact rfl) | (refine uB h2 ?_ ?_; exact rfl) | (refine uB h3 ?_ ?_; exact rfl))
  (refine S.done ?_; simp only [x9, u6, go_sem, Nat.reduceBEq, Nat.reduceAdd, Nat.reduceLeDiff, Int.reduceToNat, Int.reducePow]; (repeat (refine ⟨?_, ?_⟩; focus first | trivial | omega | simp)); exact d9.L9 (Imp.frz rfl rfl rfl) (by (repeat first | refine uA ?_ | (refine ⟨?_, ?_⟩; focus first | rfl | trivial | (simp [slot]; done)) | rfl | trivial | simp)) (Nat.le_trans hν0 (by simp)))
 rw [if_neg k1]
 refine S.cond rfl (fun hc => by simp at hc; exact absurd hc k1) (fun hc => ?_)
 (repeat first | refine uA ?_ | (apply S.exit; exact rfl) | ((with_reducible refine And.intro ?_ ?_); focus first | omega | trivial | exact id | (intros; simp_all <;> omega)) | simp (disch := omega) only [go_sem, Nat.reduceBEq, Nat.reduceAdd, Nat.reduceLeDiff, Int.reduceToNat, Int.reducePow, ww])
 by_cases k2 : k = 2
 ·subst k2
  rw [show a1a u v 2 0 = [atV (-u - 1) (-v - 1), atV u (-v - 1), atV (u + 1) (-v), atV (u + 1) v, atV (-u - 1) v] from rfl]
  have h1 := P5 (-u - 1) (-v - 1) (by omega) (by omega)
  have h2 := P5 (u) (-v - 1) (by omega) (by omega)
  have h3 := P5 (u + 1) (-v) (by omega) (by omega)
  have h4 := P5 (u + 1) (v) (by omega) (by omega)
  have h5 := P5 (-u - 1) (v) (by omega) (by omega)
  generalize hq1 : atV (-u - 1) (-v - 1) = p1 at *
  generalize hq2 : atV (u) (-v - 1) = p2 at *
  generalize hq3 : atV (u + 1) (-v) = p3 at *
  generalize hq4 : atV (u + 1) (v) = p4 at *
  generalize hq5 : atV (-u - 1) (v) = p5 at *
  simp only [vts, Vt.c, Vt.enc, sb, ints] at h1 h2 h3 h4 h5 ⊢
  refine S.cond rfl (fun hc => ?_) (fun hc => by simp at hc)
  (repeat first | refine uA ?_ | (apply S.exit; exact rfl) | ((with_reducible refine And.intro ?_ ?_); focus first | omega | trivial | exact id | (intros; simp_all <;> omega)) | simp (disch := omega) only [go_sem, Nat.reduceBEq, Nat.reduceAdd, Nat.reduceLeDiff, Int.reduceToNat, Int.reducePow, ww, ru, rv] | (refine uB h1 ?_ ?_; exact rfl) | (refine uB h2 ?_ ?_; exact rfl) | (refine uB h3 ?_ ?_; exact rfl) | (refine uB h4 ?_ ?_; exact rfl) | (refine uB h5 ?_ ?_; exact rfl))
  (refine S.done ?_; simp only [x9, u6, go_sem, Nat.reduceBEq, Nat.reduceAdd, Nat.reduceLeDiff, Int.reduceToNat, Int.reducePow]; (repeat (refine ⟨?_, ?_⟩; focus first | trivial | omega | simp)); exact d9.L9 (Imp.frz rfl rfl rfl) (by (repeat first | refine uA ?_ | (refine ⟨?_, ?_⟩; focus first | rfl | trivial | (simp [slot]; done)) | rfl | trivial | simp)) (Nat.le_trans hν0 (by simp)))
 ·rw [show a1a u v k 0 = [atV (-u) 0, atV 0 (-v), atV u 0, atV 0 v] by unfold a1a; rw [if_neg k0, if_neg k1, if_neg k2]]
  have h1 := P5 (-u) (0) (by omega) (by omega)
  have h2 := P5 (0) (-v) (by omega) (by omega)
  have h3 := P5 (u) (0) (by omega) (by omega)
  have h4 := P5 (0) (v) (by omega) (by omega)
  generalize hq1 : atV (-u) (0) = p1 at *
  generalize hq2 : atV (0) (-v) = p2 at *
  generalize hq3 : atV (u) (0) = p3 at *
  generalize hq4 : atV (0) (v) = p4 at *
  simp only [vts, Vt.c, Vt.enc, sb, ints] at h1 h2 h3 h4 ⊢
  refine S.cond rfl (fun hc => by simp at hc; exact absurd hc k2) (fun hc => ?_)
  (repeat first | refine uA ?_ | (apply S.exit; exact rfl) | ((with_reducible refine And.intro ?_ ?_); focus first | omega | trivial | exact id | (intros; simp_all <;> omega)) | simp (disch := omega) only [go_sem, Nat.reduceBEq, Nat.reduceAdd, Nat.reduceLeDiff, Int.reduceToNat, Int.reducePow, ww, ru, rv] | (refine uB h1 ?_ ?_; exact rfl) | (refine uB h2 ?_ ?_; exact rfl) | (refine uB h3 ?_ ?_; exact rfl) | (refine uB h4 ?_ ?_; exact rfl))
  (refine S.done ?_; simp only [x9, u6, go_sem, Nat.reduceBEq, Nat.reduceAdd, Nat.reduceLeDiff, Int.reduceToNat, Int.reducePow]; (repeat (refine ⟨?_, ?_⟩; focus first | trivial | omega | simp)); exact d9.L9 (Imp.frz rfl rfl rfl) (by (repeat first | refine uA ?_ | (refine ⟨?_, ?_⟩; focus first | rfl | trivial | (simp [slot]; done)) | rfl | trivial | simp)) (Nat.le_trans hν0 (by simp)))
end Go.Proofs.YtogfpjohjphngaaGreatDoor
namespace Go.Proofs.YtogfpjohjphngaaGreatDoor
set_option linter.all false
open Go Go.RowKit Eng
set_option maxRecDepth 100000
set_option maxHeartbeats 16000000
theorem c0l (n : Nat) (h : n <= 3) : ([[C.v (.string ⟨#[111, 110, 101]⟩)], [C.v (.string ⟨#[116, 119, 111]⟩)], [C.v (.string ⟨#[116, 104, 114, 101, 101]⟩)], [C.v (.string ⟨#[102, 111, 117, 114]⟩)]] : List (List C))[n]? = some [C.v (.string (bs (a3L n)))] := by
 match n, h with
 | 0, _ => rfl
 | 1, _ => rfl
 | 2, _ => rfl
 | 3, _ => rfl
theorem c1R (k : Int) (h0 : 0 <= k) (h1 : k < 4) : ([[C.v (.int .i64 0)], [C.v (.int .i64 1)], [C.v (.int .i64 (-1))], [C.v (.int .i64 1)]] : List (List C))[k.toNat]? = some [C.v (.int .i64 (a2E k))] := by
 have : k = 0 \/ k = 1 \/ k = 2 \/ k = 3 := by omega
 rcases this with rfl | rfl | rfl | rfl <;> rfl
theorem b9B (k : Int) : -1 <= a2E k /\ a2E k <= 1 := by unfold a2E; split; omega; split <;> omega
theorem c3t {E : Ctx} (hP : E.P = Tryz.prog) (l : List Int) (n : Nat) (hn : n <= 3) :
  j6 E [.box 225 [G7 l]] 174 [.bp 0 0, .v (.int .i64 (n : Int))] (b0Y l n).c [.box 225 [G7 (b0W l)]] [] := by
 obtain ⟨P, eff', N, w0, own0, av0, nu0, pk0⟩ := E
 simp only at hP
 subst hP
 refine j6.of (eff := eff) a9Z b0x (by exact Nat.le_of_ble_eq_true rfl) fun w own av ν hν => ?_
 have hν0 : ν.length <= 1 := by rw [hν]; exact Nat.le_refl _
 have hnm := c0l n hn
 have h1 := P5 (40 * (n : Int)) 0 (by omega) (by omega)
 have k1 := fun (E : Ctx) (hP : E.P = Tryz.prog) => G8 hP l 4 (by decide)
 have k2 := fun (E : Ctx) (hP : E.P = Tryz.prog) => G8 hP (l.drop 1) 3 (by decide)
 have k3 := fun (E : Ctx) (hP : E.P = Tryz.prog) => G8 hP (l.drop 2) 3 (by decide)
 have a1 := l7 l (n := 4) (by decide)
 have a2 := D7 l (n := 4) (by decide)
 have a3 := l7 (l.drop 1) (n := 3) (by decide)
 have a4 := D7 (l.drop 1) (n := 3) (by decide)
 have a5 := l7 (l.drop 2) (n := 3) (by decide)
 have a6 := D7 (l.drop 2) (n := 3) (by decide)
 have htn := c1R (nx l 4) a1 a2
 have htr := b9B (nx l 4)
 have h2 := a0Z (a2E (nx l 4)) (1 + nx (l.drop 1) 3) (by omega) (by omega)
 rw [List.drop_drop] at k2 k3
 have hc : ((a3p l : Nat) : Int) = 1 + nx (l.drop 2) 3 := by unfold a3p; omega
 have hc3 : a3p l <= 3 := by omega
 have hR : b0W l = (l.drop 3).drop (6 * a3p l) := by unfold b0W; rw [List.drop_drop]
 unfold b0Y
 rw [hR]
 generalize a3p l = c at *
 generalize l.drop 3 = l0 at *
 unfold atV at h1
 generalize Q (40 * (n : Int)) 4 = q1 at *
 generalize Q 0 4 = q2 at *
 generalize a2E (nx l 4) = tn at *
 generalize Q tn (1 + nx (l.drop 1) 3) = q3 at *
 generalize nx l 4 = x1 at *
 generalize nx (l.drop 1) 3 = x2 at *
 generalize nx (l.drop 2) 3 = x3 at *
 generalize a3L n = nm at *
 simp only [a4y, l9, TT, II, OA, OB, OC, MM, LL, VV, FF, MG, LG, VG, FG]
 simp only [Am.c, Am.enc, Vt.c, Vt.enc, rc, G7, sb, ints, lks] at h1 h2 k1 k2 k3 ⊢
 (repeat first | refine uA ?_ | (apply S.exit; exact rfl) | ((with_reducible refine And.intro ?_ ?_); focus first | omega | trivial | exact id | (intros; simp_all <;> omega)) | simp (disch := omega) only [go_sem, Nat.reduceBEq, Nat.reduceAdd, Nat.reduceLeDiff, Int.reduceToNat, Int.reducePow, ww, hnm, htn, Int.toNat_natCast] | refine l8.t (j6.lift (k := 0) rfl (k1 _ rfl) rfl rfl rfl) ?_ | refine l8.t (j6.lift (k := 0) rfl (k2 _ rfl) rfl rfl rfl) ?_ | (refine uB h1 ?_ ?_; exact rfl) | (refine uB h2 ?_ ?_; exact rfl))
 (repeat first | refine uA ?_ | (apply S.exit; exact rfl) | ((with_reducible refine And.intro ?_ ?_); focus first | omega | trivial | exact id | (intros; simp_all <;> omega)) | simp (disch := omega) only [go_sem, Nat.reduceBEq, Nat.reduceAdd, Nat.reduceLeDiff, Int.reduceToNat, Int.reducePow, ww] | refine l8.t (j6.lift (k := 0) rfl (k3 _ rfl) rfl rfl rfl) ?_)
 rw [<- hc]
 refine S.loop (X := Nat × List Lk × List Int) (fun x => ⟨[(0, .bp 0 0), (4, .bp 1 0), (5, .bp 3 0), (30, ints c), (31, ints x.1)], [.box 225 [G7 x.2.2], .box 76 [.v (.string ⟨#[]⟩), .v (.bool false), .v (.string ⟨#[]⟩), .v (.string ⟨#[]⟩), .v (.bool false), .v (.string ⟨#[]⟩), .v (.string ⟨#[]⟩), .v (.bool false), .v (.bool false), .v (.string ⟨#[]⟩), .v (.string ⟨#[]⟩), .v (.slice none 0 0)], .gone, .box 76 [.v (.string (bs nm)), .v (.bool q1.neg), .v (.string (bs q1.num)), .v (.string (bs q1.den)), .v (.bool q2.neg), .v (.string (bs q2.num)), .v (.string (bs q2.den)), .v (.bool false), .v (.bool q3.neg), .v (.string (bs q3.num)), .v (.string (bs q3.den)), .rv 4], .row 158 16 (x.2.1.map Lk.enc)]⟩)
  (fun x => x.1 <= c /\ x.2.1.length = x.1 /\ x.2.1 ++ a1U (c - x.1) x.2.2 = a1U c l0 /\ x.2.2.drop (6 * (c - x.1)) = l0.drop (6 * c)) (fun x => c - x.1) (0, [], l0) ⟨Nat.zero_le _, rfl, rfl, rfl⟩ (Ent.trans (Ent.a2H 3 11 158 16 rfl rfl rfl) (by (repeat first | refine uA ?_ | (refine ⟨?_, ?_⟩; focus first | rfl | trivial | (simp [slot]; done)) | rfl | trivial | simp | exact Nat.le_trans hν0 (by simp)))) ?_
 rintro ⟨i, ls, m⟩ ⟨hi, hls, hL, hM⟩
 simp only [ints, G7] at hi hls hL hM ⊢
 (repeat first | refine uA ?_ | (apply S.exit; exact rfl) | ((with_reducible refine And.intro ?_ ?_); focus first | omega | trivial | exact id | (intros; simp_all <;> omega)) | simp (disch := omega) only [go_sem, Nat.reduceBEq, Nat.reduceAdd, Nat.reduceLeDiff, Int.reduceToNat, Int.reducePow, ww])
 (refine uJ rfl (fun hc => ?_) fun hc => ?_)
 ·have hi' : c - i = (c - i - 1) + 1 := by omega
  have n0 := fun (E : Ctx) (hP : E.P = Tryz.prog) => G8 hP (m.drop 0) 4 (by decide)
  have a0 := l7 (m.drop 0) (n := 4) (by decide)
  have b0 := D7 (m.drop 0) (n := 4) (by decide)
  have n1 := fun (E : Ctx) (hP : E.P = Tryz.prog) => G8 hP (m.drop 1) 6 (by decide)
  have a1 := l7 (m.drop 1) (n := 6) (by decide)
  have b1 := D7 (m.drop 1) (n := 6) (by decide)
  have n2 := fun (E : Ctx) (hP : E.P = Tryz.prog) => G8 hP (m.drop 2) 6 (by decide)
  have a2 := l7 (m.drop 2) (n := 6) (by decide)
  have b2 := D7 (m.drop 2) (n := 6) (by decide)
  have n3 := fun (E : Ctx) (hP : E.P = Tryz.prog) => G8 hP (m.drop 3) 8 (by decide)
  have a3 := l7 (m.drop 3) (n := 8) (by decide)
  have b3 := D7 (m.drop 3) (n := 8) (by decide)
  have n4 := fun (E : Ctx) (hP : E.P = Tryz.prog) => G8 hP (m.drop 4) 20 (by decide)
  have a4 := l7 (m.drop 4) (n := 20) (by decide)
  have b4 := D7 (m.drop 4) (n := 20) (by decide)
  have n5 := fun (E : Ctx) (hP : E.P = Tryz.prog) => G8 hP (m.drop 5) 3 (by decide)
  have a5 := l7 (m.drop 5) (n := 3) (by decide)
  have b5 := D7 (m.drop 5) (n := 3) (by decide)
  rw [hi', a1U] at hL
  have hM2 : (m.drop 6).drop (6 * (c - (i + 1))) = l0.drop (6 * c) := by rw [List.drop_drop, <- hM]; congr 1; omega
  rw [show c - i - 1 = c - (i + 1) by omega] at hL
  simp only [List.drop_drop, List.drop_zero] at n0 n1 n2 n3 n4 n5 a0 b0
  unfold b7p a4w at hL
  have o1 := a0Z (4 + 2 * nx m 4) 4 (by omega) (by omega)
  have o2 := a0Z (-1 - nx (m.drop 1) 6) 3 (by omega) (by omega)
  have o3 := a0Z (1 + nx (m.drop 2) 6) 3 (by omega) (by omega)
  have o4 := a0Z 1 (4 + nx (m.drop 3) 8) (by omega) (by omega)
  have o5 := a0Z 1 (10 + nx (m.drop 4) 20) (by omega) (by omega)
  have o6 := b9m (-1) (-1) (4 + 2 * nx m 4 + 1) 1 (by omega) (by omega) (by omega) (by omega)
  have o7 := P5 (-1) (-1) (by omega) (by omega)
  have o8 := P5 (4 + 2 * nx m 4 + 1) 0 (by omega) (by omega)
  have o9 := P5 (-1) 1 (by omega) (by omega)
  generalize Q (4 + 2 * nx m 4) 4 = p1 at *
  generalize Q (-1 - nx (m.drop 1) 6) 3 = p2 at *
  generalize Q (1 + nx (m.drop 2) 6) 3 = p3 at *
  generalize Q 1 (4 + nx (m.drop 3) 8) = p4 at *
  generalize Q 1 (10 + nx (m.drop 4) 20) = p5 at *
  generalize a4s (-1) (-1) (4 + 2 * nx m 4 + 1) 1 = r6 at *
  generalize atV (-1) (-1) = v7 at *
  generalize atV (4 + 2 * nx m 4 + 1) 0 = v8 at *
  generalize atV (-1) 1 = v9 at *
  generalize nx m 4 = y0 at *
  generalize nx (m.drop 1) 6 = y1 at *
  generalize nx (m.drop 2) 6 = y2 at *
  generalize nx (m.drop 3) 8 = y3 at *
  generalize nx (m.drop 4) 20 = y4 at *
  generalize nx (m.drop 5) 3 = y5 at *
  simp only [G7, ints, rc, sb, vts, Vt.c, Vt.enc] at n0 n1 n2 n3 n4 n5 o1 o2 o3 o4 o5 o6 o7 o8 o9
  (repeat first | refine uA ?_ | (apply S.exit; exact rfl) | ((with_reducible refine And.intro ?_ ?_); focus first | omega | trivial | exact id | (intros; simp_all <;> omega)) | simp (disch := omega) only [go_sem, Nat.reduceBEq, Nat.reduceAdd, Nat.reduceLeDiff, Int.reduceToNat, Int.reducePow, ww] | refine l8.t (j6.lift (k := 0) rfl (n0 _ rfl) rfl rfl rfl) ?_ | refine l8.t (j6.lift (k := 0) rfl (n1 _ rfl) rfl rfl rfl) ?_ | refine l8.t (j6.lift (k := 0) rfl (n2 _ rfl) rfl rfl rfl) ?_ | refine l8.t (j6.lift (k := 0) rfl (n3 _ rfl) rfl rfl rfl) ?_ | refine l8.t (j6.lift (k := 0) rfl (n4 _ rfl) rfl rfl rfl) ?_ | refine l8.t (j6.lift (k := 0) rfl (n5 _ rfl) rfl rfl rfl) ?_ | (refine uB o1 ?_ ?_; exact rfl) | (refine uB o2 ?_ ?_; exact rfl) | (refine uB o3 ?_ ?_; exact rfl) | (refine uB o4 ?_ ?_; exact rfl) | (refine uB o5 ?_ ?_; exact rfl) | (refine uB o6 ?_ ?_; exact rfl))
  refine S.join (Y := List Vt) (fun sh => ⟨[(0, .bp 0 0), (4, .bp 1 0), (5, .bp 3 0), (7, .bp 5 0), (30, ints c), (31, ints i)], [.box 225 [G7 (m.drop 6)], .box 76 [.v (.string ⟨#[]⟩), .v (.bool false), .v (.string ⟨#[]⟩), .v (.string ⟨#[]⟩), .v (.bool false), .v (.string ⟨#[]⟩), .v (.string ⟨#[]⟩), .v (.bool false), .v (.bool false), .v (.string ⟨#[]⟩), .v (.string ⟨#[]⟩), .v (.slice none 0 0)], .gone, .box 76 [.v (.string (bs nm)), .v (.bool q1.neg), .v (.string (bs q1.num)), .v (.string (bs q1.den)), .v (.bool q2.neg), .v (.string (bs q2.num)), .v (.string (bs q2.den)), .v (.bool false), .v (.bool q3.neg), .v (.string (bs q3.num)), .v (.string (bs q3.den)), .rv 4], .row 158 16 (ls.map Lk.enc), .box 158 (Lk.enc ⟨p1, p2, p3, p4, p5, sh⟩)]⟩) (fun sh => sh = if y5 = 2 then [v7, v8, v9] else r6) ?_ ?_
  ·refine S.cond rfl (fun hc => ?_) (fun hc => ?_)
   ·(repeat first | refine uA ?_ | (apply S.exit; exact rfl) | ((with_reducible refine And.intro ?_ ?_); focus first | omega | trivial | exact id | (intros; simp_all <;> omega)) | simp (disch := omega) only [go_sem, Nat.reduceBEq, Nat.reduceAdd, Nat.reduceLeDiff, Int.reduceToNat, Int.reducePow, ww] | (refine uB o7 ?_ ?_; exact rfl) | (refine uB o8 ?_ ?_; exact rfl) | (refine uB o9 ?_ ?_; exact rfl))
    exact S.met [v7, v8, v9] (by simp at hc; rw [if_pos hc]) (Ent.mk _ _ (by (repeat' (first | exact V7.nil | exact Imp.junk | exact Imp.refl rfl | exact Imp.eq (by simp [slot]; done) rfl | refine V7.cons ?_ ?_))) (by (repeat' (first | exact M6.nil | exact RI.gone _ | exact RI.row _ _ _ _ rfl | exact RI.map _ _ _ rfl | exact RI.box _ _ _ (q9.refl rfl) | (refine RI.box _ _ _ ?_; (repeat' (first | exact q9.nil | exact Imp.refl rfl | exact Imp.frz rfl rfl rfl | exact Imp.a0W | refine q9.cons ?_ ?_))) | refine M6.cons ?_ ?_))) (Nat.le_trans hν0 (by simp)))
   ·(repeat first | refine uA ?_ | (apply S.exit; exact rfl) | ((with_reducible refine And.intro ?_ ?_); focus first | omega | trivial | exact id | (intros; simp_all <;> omega)) | simp (disch := omega) only [go_sem, Nat.reduceBEq, Nat.reduceAdd, Nat.reduceLeDiff, Int.reduceToNat, Int.reducePow, ww])
    exact S.met r6 (by simp at hc; rw [if_neg hc]) (by (repeat first | refine uA ?_ | (refine ⟨?_, ?_⟩; focus first | rfl | trivial | (simp [slot]; done)) | rfl | trivial | simp | exact Nat.le_trans hν0 (by simp)))
  rintro sh hsh
  rw [<- hsh] at hL
  simp only [G7, ints, Lk.enc, vts]
  (repeat first | refine uA ?_ | (apply S.exit; exact rfl) | ((with_reducible refine And.intro ?_ ?_); focus first | omega | trivial | exact id | (intros; simp_all <;> omega)) | simp (disch := omega) only [go_sem, Nat.reduceBEq, Nat.reduceAdd, Nat.reduceLeDiff, Int.reduceToNat, Int.reducePow, ww, List.length_map, hls])
  refine S.next (x := (i, ls, m)) (i + 1, ls ++ [⟨p1, p2, p3, p4, p5, sh⟩], m.drop 6) ⟨by simp only; omega, by simp [hls], by simp only; rw [List.append_assoc]; exact hL, by simp only; exact hM2⟩ (by simp only; omega) (by simp only [List.map_append, List.map_cons, List.map_nil]; exact (by (repeat first | refine uA ?_ | (refine ⟨?_, ?_⟩; focus first | rfl | trivial | (simp [slot]; done)) | rfl | trivial | simp | exact Nat.le_trans hν0 (by simp))))
 ·have hi' : i = c := by omega
  subst hi'
  rw [Nat.sub_self, a1U, List.append_nil] at hL
  rw [Nat.sub_self, Nat.mul_zero, List.drop_zero] at hM
  subst hL
  subst hM
  (repeat first | refine uA ?_ | (apply S.exit; exact rfl) | ((with_reducible refine And.intro ?_ ?_); focus first | omega | trivial | exact id | (intros; simp_all <;> omega)) | simp (disch := omega) only [go_sem, Nat.reduceBEq, Nat.reduceAdd, Nat.reduceLeDiff, Int.reduceToNat, Int.reducePow, ww])
  (refine S.done ?_; simp only [x9, u6, go_sem, Nat.reduceBEq, Nat.reduceAdd, Nat.reduceLeDiff, Int.reduceToNat, Int.reducePow]; (repeat (refine ⟨?_, ?_⟩; focus first | trivial | omega | simp)); exact d9.L9 (Imp.agg (by (repeat' (first | exact q9.nil | exact Imp.refl rfl | exact Imp.frz rfl rfl rfl | exact Imp.a0W | refine q9.cons ?_ ?_)))) (by (repeat first | refine uA ?_ | (refine ⟨?_, ?_⟩; focus first | rfl | trivial | (simp [slot]; done)) | rfl | trivial | simp)) (Nat.le_trans hν0 (by simp)))
end Go.Proofs.YtogfpjohjphngaaGreatDoor
namespace Go.Proofs.YtogfpjohjphngaaGreatDoor
set_option linter.all false
open Go Go.RowKit Eng
set_option maxRecDepth 100000
set_option maxHeartbeats 32000000
def U6 : List C := [.v (.slice none 0 0), .v (.slice none 0 0), .v (.slice none 0 0), .v (.slice none 0 0), .v (.slice none 0 0), .v (.bool false), .v (.string ⟨#[]⟩), .v (.string ⟨#[]⟩)]
def rsM (m : List Int) (a : List Am) (w : List (List Vt)) (p : List Pt) (s : List Sl) (g : List Gt) : List Res :=
 [.box 31 U6, .box 225 [G7 m], .box 31 [.rv 3, .rv 4, .rv 5, .rv 6, .rv 7, .v (.bool false), .v (.string ⟨#[]⟩), .v (.string ⟨#[]⟩)], .row 76 12 (a.map Am.enc), .row 34 1 (w.map fun s => [vts s]), .row 80 12 (p.map Pt.enc), .row 57 14 (s.map Sl.enc), .row 116 13 (g.map Gt.enc)]
theorem b9I (n : Nat) (h : n < 2) : ([[C.v (.string ⟨#[98, 111, 108, 116]⟩)], [C.v (.string ⟨#[110, 117, 116]⟩)]] : List (List C))[n]? = some [C.v (.string (bs (a3s n)))] := by
 match n, h with
 | 0, _ => rfl
 | 1, _ => rfl
theorem b9q (n : Nat) (h : n < 3) : ([[C.v (.string ⟨#[104, 101, 114, 101]⟩)], [C.v (.string ⟨#[116, 104, 101, 114, 101]⟩)], [C.v (.string ⟨#[98, 101, 121, 111, 110, 100]⟩)]] : List (List C))[n]? = some [C.v (.string (bs (a4h n)))] := by
 match n, h with
 | 0, _ => rfl
 | 1, _ => rfl
 | 2, _ => rfl
theorem c2b (l : List Int) : A8 Tryz.prog 69 [G7 l] (D9 l).c := by
 refine A8.of a8b a7Z (by exact Nat.le_of_ble_eq_true rfl) fun w O => ?_
 have k0 := fun (E : Ctx) (hP : E.P = Tryz.prog) => G8 hP l 2 (by decide)
 have c0 := l7 l (n := 2) (by decide)
 have d0 := D7 l (n := 2) (by decide)
 have hc1 : ((nA l : Nat) : Int) = 1 + nx l 2 := by unfold nA; omega
 have z2 := l7 (l1 l) (n := 3) (by decide)
 have z3 := l7 (l2 l) (n := 3) (by decide)
 have z4 := l7 (l3 l) (n := 2) (by decide)
 have z5 := l7 (l4 l) (n := 2) (by decide)
 have z6 := l7 (l5 l) (n := 4) (by decide)
 have y6 := D7 (l5 l) (n := 4) (by decide)
 have hc2 : ((nW l : Nat) : Int) = nx (l1 l) 3 := by unfold nW; omega
 have hc3 : ((nP l : Nat) : Int) = nx (l2 l) 3 := by unfold nP; omega
 have hc4 : ((nS l : Nat) : Int) = (nP l : Int) + nx (l3 l) 2 := by unfold nS; omega
 have hc5 : ((nG l : Nat) : Int) = nx (l4 l) 2 := by unfold nG; omega
 obtain ⟨cc1, cc2, cc3, cc4, cc5⟩ := counts l
 have q1 : l1 l = a5X (nA l) (l.drop 1) := rfl
 have q2 : l2 l = (l1 l).drop (1 + 5 * nW l) := rfl
 have q3 : l3 l = a3P (nP l) ((l2 l).drop 1) := rfl
 have q4 : l4 l = (l3 l).drop (1 + 4 * nS l) := rfl
 have q5 : l5 l = (l4 l).drop (1 + 4 * nG l) := rfl
 unfold D9
 generalize nA l = cA at *
 generalize nW l = cW at *
 generalize nP l = cP at *
 generalize nS l = cS at *
 generalize nG l = cG at *
 generalize l5 l = L5 at *
 generalize l4 l = L4 at *
 generalize l3 l = L3 at *
 generalize l2 l = L2 at *
 generalize l1 l = L1 at *
 generalize l.drop 1 = s0 at *
 generalize nx l 2 = x0 at *
 have k1 := fun (E : Ctx) (hP : E.P = Tryz.prog) => G8 hP L1 3 (by decide)
 have k2 := fun (E : Ctx) (hP : E.P = Tryz.prog) => G8 hP L2 3 (by decide)
 have k3 := fun (E : Ctx) (hP : E.P = Tryz.prog) => G8 hP L3 2 (by decide)
 have k4 := fun (E : Ctx) (hP : E.P = Tryz.prog) => G8 hP L4 2 (by decide)
 have k5 := fun (E : Ctx) (hP : E.P = Tryz.prog) => G8 hP L5 4 (by decide)
 simp only [G7, ints] at k1 k2 k3 k4 k5
 simp only [a3h, l9, TT, II, OA, OB, OC, MM, LL, VV, FF, MG, LG, VG, FG]
 simp only [G7, ints] at k0 ⊢
 (repeat first | refine uA ?_ | (apply S.exit; exact rfl) | ((with_reducible refine And.intro ?_ ?_); focus first | omega | trivial | exact id | (intros; simp_all <;> omega)) | simp (disch := omega) only [go_sem, Nat.reduceBEq, Nat.reduceAdd, Nat.reduceLeDiff, Int.reduceToNat, Int.reducePow, ww] | refine l8.t (j6.lift (k := 1) rfl (k0 _ rfl) rfl rfl rfl) ?_)
 rw [<- hc1]
 refine S.loop (X := Nat × List Am × List Int) (fun x => ⟨[(2, .bp 0 0), (3, .bp 1 0), (4, .bp 2 0), (17, ints cA), (18, ints x.1)], rsM x.2.2 x.2.1 [] [] [] []⟩)
  (fun x => x.1 <= cA /\ x.2.1.length = x.1 /\ x.2.1 ++ a1x (cA - x.1) x.1 x.2.2 = a1x cA 0 s0 /\ a5X (cA - x.1) x.2.2 = a5X cA s0) (fun x => cA - x.1) (0, [], s0) ⟨Nat.zero_le _, rfl, rfl, rfl⟩
  (Ent.trans (Ent.a2H 2 0 76 12 rfl rfl rfl) (Ent.trans (Ent.a2H 2 1 34 1 rfl rfl rfl) (Ent.trans (Ent.a2H 2 2 80 12 rfl rfl rfl) (Ent.trans (Ent.a2H 2 3 57 14 rfl rfl rfl) (Ent.trans (Ent.a2H 2 4 116 13 rfl rfl rfl) (by simp only [rsM, G7, U6]; exact (by (repeat first | refine uA ?_ | (refine ⟨?_, ?_⟩; focus first | rfl | trivial | (simp [slot]; done)) | rfl | trivial | simp)))))))) ?_
 rintro ⟨i, am, ma⟩ ⟨hi, hl, hL, hM⟩
 simp only [rsM, U6, G7, ints] at hi hl hL hM ⊢
 (repeat first | refine uA ?_ | (apply S.exit; exact rfl) | ((with_reducible refine And.intro ?_ ?_); focus first | omega | trivial | exact id | (intros; simp_all <;> omega)) | simp (disch := omega) only [go_sem, Nat.reduceBEq, Nat.reduceAdd, Nat.reduceLeDiff, Int.reduceToNat, Int.reducePow, ww])
 (refine uJ rfl (fun hc => ?_) fun hc => ?_)
 ·have hi' : i < cA := by omega
  rw [show cA - i = (cA - (i + 1)) + 1 by omega, a1x] at hL
  rw [show cA - i = (cA - (i + 1)) + 1 by omega, a5X] at hM
  have ha := fun (E : Ctx) (hP : E.P = Tryz.prog) => c3t hP ma i (by omega)
  generalize b0Y ma i = A at *
  generalize b0W ma = m' at *
  simp only [G7, Am.c, Am.enc, lks, sb] at ha
  (repeat first | refine uI ?_ | (apply S.exit; exact rfl) | ((with_reducible refine And.intro ?_ ?_); focus first | omega | trivial | exact id | (intros; simp_all <;> omega)) | simp (disch := omega) only [go_sem, Nat.reduceBEq, Nat.reduceAdd, Nat.reduceLeDiff, Int.reduceToNat, Int.reducePow, ww])
  refine S.D6 [.gone, .gone, .box 31 [.rv 3, .rv 4, .rv 5, .rv 6, .rv 7, .v (.bool false), .v (.string ⟨#[]⟩), .v (.string ⟨#[]⟩)]] ⟨rfl, True.intro⟩ ?_
  (repeat first | refine uA ?_ | (apply S.exit; exact rfl) | ((with_reducible refine And.intro ?_ ?_); focus first | omega | trivial | exact id | (intros; simp_all <;> omega)) | simp (disch := omega) only [go_sem, Nat.reduceBEq, Nat.reduceAdd, Nat.reduceLeDiff, Int.reduceToNat, Int.reducePow, ww, List.length_map, hl, J5] | refine l8.t (j6.lift (k := 1) rfl (ha _ rfl) rfl rfl rfl) ?_)
  refine S.next (x := (i, am, ma)) (i + 1, am ++ [A], m') ⟨by simp only; omega, by simp [hl], by simp only; rw [List.append_assoc]; exact hL, by simp only; exact hM⟩ (by simp only; omega) (by simp only [rsM, G7, U6, List.map_append, List.map_cons, List.map_nil]; exact (by (repeat first | refine uA ?_ | (refine ⟨?_, ?_⟩; focus first | rfl | trivial | (simp [slot]; done)) | rfl | trivial | simp)))
 have hi' : i = cA := by omega
 subst hi'
 rw [Nat.sub_self, a1x, List.append_nil] at hL
 rw [Nat.sub_self, a5X] at hM
 have hm : ma = L1 := by rw [q1]; exact hM
 subst hm
 rw [<- hL]
 (repeat first | refine uA ?_ | (apply S.exit; exact rfl) | ((with_reducible refine And.intro ?_ ?_); focus first | omega | trivial | exact id | (intros; simp_all <;> omega)) | simp (disch := omega) only [go_sem, Nat.reduceBEq, Nat.reduceAdd, Nat.reduceLeDiff, Int.reduceToNat, Int.reducePow, ww] | refine l8.t (j6.lift (k := 1) rfl (k1 _ rfl) rfl rfl rfl) ?_)
 rw [<- hc2]
 refine S.loop (X := Nat × List (List Vt) × List Int) (fun x => ⟨[(2, .bp 0 0), (3, .bp 1 0), (4, .bp 2 0), (31, ints cW), (32, ints x.1)], rsM x.2.2 am x.2.1 [] [] []⟩)
  (fun x => x.1 <= cW /\ x.2.1.length = x.1 /\ x.2.1 ++ a1q (cW - x.1) x.2.2 = a1q cW (ma.drop 1) /\ x.2.2.drop (5 * (cW - x.1)) = (ma.drop 1).drop (5 * cW)) (fun x => cW - x.1) (0, [], ma.drop 1) ⟨Nat.zero_le _, rfl, rfl, rfl⟩ (by simp only [rsM, G7, U6]; exact (by (repeat first | refine uA ?_ | (refine ⟨?_, ?_⟩; focus first | rfl | trivial | (simp [slot]; done)) | rfl | trivial | simp))) ?_
 rintro ⟨i, ws, mw⟩ ⟨hi, hl, hL, hM⟩
 simp only [rsM, U6, G7, ints] at hi hl hL hM ⊢
 (repeat first | refine uA ?_ | (apply S.exit; exact rfl) | ((with_reducible refine And.intro ?_ ?_); focus first | omega | trivial | exact id | (intros; simp_all <;> omega)) | simp (disch := omega) only [go_sem, Nat.reduceBEq, Nat.reduceAdd, Nat.reduceLeDiff, Int.reduceToNat, Int.reducePow, ww])
 (refine uJ rfl (fun hc => ?_) fun hc => ?_)
 ·have hi' : i < cW := by omega
  rw [show cW - i = (cW - (i + 1)) + 1 by omega, a1q] at hL
  have hM2 : (mw.drop 5).drop (5 * (cW - (i + 1))) = (ma.drop 1).drop (5 * cW) := by rw [<- hM, List.drop_drop]; congr 1; omega
  have n0 := fun (E : Ctx) (hP : E.P = Tryz.prog) => G8 hP mw 80 (by decide)
  have a0 := l7 mw (n := 80) (by decide)
  have b0 := D7 mw (n := 80) (by decide)
  have n1 := fun (E : Ctx) (hP : E.P = Tryz.prog) => G8 hP (mw.drop 1) 30 (by decide)
  have a1 := l7 (mw.drop 1) (n := 30) (by decide)
  have b1 := D7 (mw.drop 1) (n := 30) (by decide)
  have n2 := fun (E : Ctx) (hP : E.P = Tryz.prog) => G8 hP (mw.drop 2) 2 (by decide)
  have a2 := l7 (mw.drop 2) (n := 2) (by decide)
  have b2 := D7 (mw.drop 2) (n := 2) (by decide)
  have n3 := fun (E : Ctx) (hP : E.P = Tryz.prog) => G8 hP (mw.drop 3) 20 (by decide)
  have a3 := l7 (mw.drop 3) (n := 20) (by decide)
  have b3 := D7 (mw.drop 3) (n := 20) (by decide)
  have n4 := fun (E : Ctx) (hP : E.P = Tryz.prog) => G8 hP (mw.drop 4) 5 (by decide)
  have a4 := l7 (mw.drop 4) (n := 5) (by decide)
  have b4 := D7 (mw.drop 4) (n := 5) (by decide)
  simp only [List.drop_drop, G7, ints] at n0 n1 n2 n3 n4
  have hwy : -1000 <= a0E mw /\ a0E mw <= 1000 := by unfold a0E; split <;> omega
  have o1 := b9m (nx mw 80 - 30) (a0E mw) (nx mw 80 - 30 + 1 + nx (mw.drop 3) 20) (a0E mw + 1 + nx (mw.drop 4) 5) (by omega) (by omega) (by omega) (by omega)
  unfold b2W at hL
  generalize a4s (nx mw 80 - 30) (a0E mw) (nx mw 80 - 30 + 1 + nx (mw.drop 3) 20) (a0E mw + 1 + nx (mw.drop 4) 5) = R at *
  have hwe : a0E mw = if nx (mw.drop 2) 2 = 1 then -(12 + nx (mw.drop 1) 30) - 6 else 12 + nx (mw.drop 1) 30 := rfl
  generalize a0E mw = Y at *
  generalize nx mw 80 = x1 at *
  generalize nx (mw.drop 1) 30 = x2 at *
  generalize nx (mw.drop 2) 2 = x3 at *
  generalize nx (mw.drop 3) 20 = x4 at *
  generalize nx (mw.drop 4) 5 = x5 at *
  simp only [ints, vts] at o1
  (repeat first | refine uA ?_ | (apply S.exit; exact rfl) | ((with_reducible refine And.intro ?_ ?_); focus first | omega | trivial | exact id | (intros; simp_all <;> omega)) | simp (disch := omega) only [go_sem, Nat.reduceBEq, Nat.reduceAdd, Nat.reduceLeDiff, Int.reduceToNat, Int.reducePow, ww] | refine l8.t (j6.lift (k := 1) rfl (n0 _ rfl) rfl rfl rfl) ?_ | refine l8.t (j6.lift (k := 1) rfl (n1 _ rfl) rfl rfl rfl) ?_ | refine l8.t (j6.lift (k := 1) rfl (n2 _ rfl) rfl rfl rfl) ?_)
  refine S.join (Y := Int) (fun y => ⟨[(2, .bp 0 0), (3, .bp 1 0), (4, .bp 2 0), (6, ints (x1 - 30)), (7, ints y), (31, ints cW), (32, ints i)], rsM (mw.drop 3) am ws [] [] []⟩) (fun y => y = Y) ?_ ?_
  ·refine S.cond rfl (fun hc => ?_) (fun hc => ?_)
   ·have hn2 : IntKind.i64.wrap (0 - (12 + x2)) = -(12 + x2) := by rw [Eng.wrap_i64 (by omega)]; omega
    (repeat first | refine uA ?_ | (apply S.exit; exact rfl) | ((with_reducible refine And.intro ?_ ?_); focus first | omega | trivial | exact id | (intros; simp_all <;> omega)) | simp (disch := omega) only [go_sem, Nat.reduceBEq, Nat.reduceAdd, Nat.reduceLeDiff, Int.reduceToNat, Int.reducePow, ww, hn2])
    exact S.met (-(12 + x2) - 6) (by simp at hc; rw [hwe, if_pos hc]) (by simp only [rsM, G7, U6]; exact (by (repeat first | refine uA ?_ | (refine ⟨?_, ?_⟩; focus first | rfl | trivial | (simp [slot]; done)) | rfl | trivial | simp)))
   ·(repeat first | refine uA ?_ | (apply S.exit; exact rfl) | ((with_reducible refine And.intro ?_ ?_); focus first | omega | trivial | exact id | (intros; simp_all <;> omega)) | simp (disch := omega) only [go_sem, Nat.reduceBEq, Nat.reduceAdd, Nat.reduceLeDiff, Int.reduceToNat, Int.reducePow, ww])
    exact S.met (12 + x2) (by simp at hc; rw [hwe, if_neg hc]) (by simp only [rsM, G7, U6]; exact (by (repeat first | refine uA ?_ | (refine ⟨?_, ?_⟩; focus first | rfl | trivial | (simp [slot]; done)) | rfl | trivial | simp)))
  rintro y rfl
  simp only [rsM, U6, G7, ints]
  (repeat first | refine uI ?_ | (apply S.exit; exact rfl) | ((with_reducible refine And.intro ?_ ?_); focus first | omega | trivial | exact id | (intros; simp_all <;> omega)) | simp (disch := omega) only [go_sem, Nat.reduceBEq, Nat.reduceAdd, Nat.reduceLeDiff, Int.reduceToNat, Int.reducePow, ww])
  refine S.D6 [.gone, .gone, .box 31 [.rv 3, .rv 4, .rv 5, .rv 6, .rv 7, .v (.bool false), .v (.string ⟨#[]⟩), .v (.string ⟨#[]⟩)]] ⟨rfl, True.intro⟩ ?_
  (repeat first | refine uA ?_ | (apply S.exit; exact rfl) | ((with_reducible refine And.intro ?_ ?_); focus first | omega | trivial | exact id | (intros; simp_all <;> omega)) | simp (disch := omega) only [go_sem, Nat.reduceBEq, Nat.reduceAdd, Nat.reduceLeDiff, Int.reduceToNat, Int.reducePow, ww, List.length_map, hl, J5] | refine l8.t (j6.lift (k := 1) rfl (n3 _ rfl) rfl rfl rfl) ?_ | refine l8.t (j6.lift (k := 1) rfl (n4 _ rfl) rfl rfl rfl) ?_ | (refine uB o1 ?_ ?_; exact rfl))
  refine S.next (x := (i, ws, mw)) (i + 1, ws ++ [R], mw.drop 5) ⟨by simp only; omega, by simp [hl], by simp only; rw [List.append_assoc]; exact hL, by simp only; exact hM2⟩ (by simp only; omega) (by simp only [rsM, G7, U6, List.map_append, List.map_cons, List.map_nil]; exact (by (repeat first | refine uA ?_ | (refine ⟨?_, ?_⟩; focus first | rfl | trivial | (simp [slot]; done)) | rfl | trivial | simp)))
 have hi' : i = cW := by omega
 subst hi'
 rw [Nat.sub_self, a1q, List.append_nil] at hL
 rw [Nat.sub_self, Nat.mul_zero, List.drop_zero, List.drop_drop] at hM
 have hm : mw = L2 := by rw [q2]; exact hM
 subst hm
 rw [<- hL]
 (repeat first | refine uA ?_ | (apply S.exit; exact rfl) | ((with_reducible refine And.intro ?_ ?_); focus first | omega | trivial | exact id | (intros; simp_all <;> omega)) | simp (disch := omega) only [go_sem, Nat.reduceBEq, Nat.reduceAdd, Nat.reduceLeDiff, Int.reduceToNat, Int.reducePow, ww] | refine l8.t (j6.lift (k := 1) rfl (k2 _ rfl) rfl rfl rfl) ?_)
 rw [<- hc3]
 refine S.loop (X := Nat × List Pt × List Int) (fun x => ⟨[(2, .bp 0 0), (3, .bp 1 0), (4, .bp 2 0), (66, ints cP), (67, ints x.1)], rsM x.2.2 am ws x.2.1 [] []⟩)
  (fun x => x.1 <= cP /\ x.2.1.length = x.1 /\ x.2.1 ++ Z7 (cP - x.1) x.1 x.2.2 = Z7 cP 0 (mw.drop 1) /\ a3P (cP - x.1) x.2.2 = a3P cP (mw.drop 1)) (fun x => cP - x.1) (0, [], mw.drop 1) ⟨Nat.zero_le _, rfl, rfl, rfl⟩ (by simp only [rsM, G7, U6]; exact (by (repeat first | refine uA ?_ | (refine ⟨?_, ?_⟩; focus first | rfl | trivial | (simp [slot]; done)) | rfl | trivial | simp))) ?_
 rintro ⟨i, ps, mp⟩ ⟨hi, hl, hL, hM⟩
 simp only [rsM, U6, G7, ints] at hi hl hL hM ⊢
 (repeat first | refine uA ?_ | (apply S.exit; exact rfl) | ((with_reducible refine And.intro ?_ ?_); focus first | omega | trivial | exact id | (intros; simp_all <;> omega)) | simp (disch := omega) only [go_sem, Nat.reduceBEq, Nat.reduceAdd, Nat.reduceLeDiff, Int.reduceToNat, Int.reducePow, ww])
 (refine uJ rfl (fun hc => ?_) fun hc => ?_)
 ·have hi' : i < cP := by omega
  rw [show cP - i = (cP - (i + 1)) + 1 by omega, Z7] at hL
  rw [show cP - i = (cP - (i + 1)) + 1 by omega, a3P] at hM
  have hp := fun (E : Ctx) (hP : E.P = Tryz.prog) => c2K hP mp
  have hnm := b9I i (by omega)
  have o1 := P5 0 0 (by decide) (by decide)
  have o2 := a0Z 0 1 (by decide) (by decide)
  unfold c1f at hL
  unfold atV at o1
  generalize (a1c mp).1 = sh at *
  generalize (a1c mp).2 = m' at *
  generalize Q 0 4 = qa at *
  generalize Q 0 1 = qb at *
  generalize a3s i = nm at *
  simp only [G7, vts, Vt.c, Vt.enc, rc, sb, ints] at hp o1 o2
  (repeat first | refine uI ?_ | (apply S.exit; exact rfl) | ((with_reducible refine And.intro ?_ ?_); focus first | omega | trivial | exact id | (intros; simp_all <;> omega)) | simp (disch := omega) only [go_sem, Nat.reduceBEq, Nat.reduceAdd, Nat.reduceLeDiff, Int.reduceToNat, Int.reducePow, ww])
  refine S.D6 [.gone, .gone, .box 31 [.rv 3, .rv 4, .rv 5, .rv 6, .rv 7, .v (.bool false), .v (.string ⟨#[]⟩), .v (.string ⟨#[]⟩)]] ⟨rfl, True.intro⟩ ?_
  (repeat first | refine uA ?_ | (apply S.exit; exact rfl) | ((with_reducible refine And.intro ?_ ?_); focus first | omega | trivial | exact id | (intros; simp_all <;> omega)) | simp (disch := omega) only [go_sem, Nat.reduceBEq, Nat.reduceAdd, Nat.reduceLeDiff, Int.reduceToNat, Int.reducePow, ww, List.length_map, hl, J5, hnm, Int.toNat_natCast] | refine l8.t (j6.lift (k := 1) rfl (hp _ rfl) rfl rfl rfl) ?_ | (refine uB o1 ?_ ?_; exact rfl) | (refine uB o2 ?_ ?_; exact rfl))
  refine S.next (x := (i, ps, mp)) (i + 1, ps ++ [⟨nm, sh, ⟨qa, qa, false, qb⟩⟩], m') ⟨by simp only; omega, by simp [hl], by simp only; rw [List.append_assoc]; exact hL, by simp only; exact hM⟩ (by simp only; omega) (by simp only [rsM, G7, U6, List.map_append, List.map_cons, List.map_nil]; exact (by (repeat first | refine uA ?_ | (refine ⟨?_, ?_⟩; focus first | rfl | trivial | (simp [slot]; done)) | rfl | trivial | simp)))
 have hi' : i = cP := by omega
 subst hi'
 rw [Nat.sub_self, Z7, List.append_nil] at hL
 rw [Nat.sub_self, a3P] at hM
 have hm : mp = L3 := by rw [q3]; exact hM
 subst hm
 rw [<- hL]
 (repeat first | refine uI ?_ | (apply S.exit; exact rfl) | ((with_reducible refine And.intro ?_ ?_); focus first | omega | trivial | exact id | (intros; simp_all <;> omega)) | simp (disch := omega) only [go_sem, Nat.reduceBEq, Nat.reduceAdd, Nat.reduceLeDiff, Int.reduceToNat, Int.reducePow, ww])
 refine S.D6 [.gone, .gone, .box 31 [.rv 3, .rv 4, .rv 5, .rv 6, .rv 7, .v (.bool false), .v (.string ⟨#[]⟩), .v (.string ⟨#[]⟩)], .gone, .gone, .row 80 12 (ps.map Pt.enc)] ⟨rfl, rfl, True.intro⟩ ?_
 (repeat first | refine uA ?_ | (apply S.exit; exact rfl) | ((with_reducible refine And.intro ?_ ?_); focus first | omega | trivial | exact id | (intros; simp_all <;> omega)) | simp (disch := omega) only [go_sem, Nat.reduceBEq, Nat.reduceAdd, Nat.reduceLeDiff, Int.reduceToNat, Int.reducePow, ww, List.length_map, hl, J5] | refine l8.t (j6.lift (k := 1) rfl (k3 _ rfl) rfl rfl rfl) ?_)
 rw [<- hc4]
 refine S.loop (X := Nat × List Sl × List Int) (fun x => ⟨[(2, .bp 0 0), (3, .bp 1 0), (4, .bp 2 0), (92, ints cS), (93, ints x.1)], rsM x.2.2 am ws ps x.2.1 []⟩)
  (fun x => x.1 <= cS /\ x.2.1.length = x.1 /\ x.2.1 ++ Z5 (cS - x.1) x.1 x.2.2 = Z5 cS 0 (mp.drop 1) /\ x.2.2.drop (4 * (cS - x.1)) = (mp.drop 1).drop (4 * cS)) (fun x => cS - x.1) (0, [], mp.drop 1) ⟨Nat.zero_le _, rfl, rfl, rfl⟩ (by simp only [rsM, G7, U6]; exact (by (repeat first | refine uA ?_ | (refine ⟨?_, ?_⟩; focus first | rfl | trivial | (simp [slot]; done)) | rfl | trivial | simp))) ?_
 rintro ⟨i, ss, ms⟩ ⟨hi, hl, hL, hM⟩
 simp only [rsM, U6, G7, ints] at hi hl hL hM ⊢
 (repeat first | refine uA ?_ | (apply S.exit; exact rfl) | ((with_reducible refine And.intro ?_ ?_); focus first | omega | trivial | exact id | (intros; simp_all <;> omega)) | simp (disch := omega) only [go_sem, Nat.reduceBEq, Nat.reduceAdd, Nat.reduceLeDiff, Int.reduceToNat, Int.reducePow, ww])
 (refine uJ rfl (fun hc => ?_) fun hc => ?_)
 ·have hi' : i < cS := by omega
  rw [show cS - i = (cS - (i + 1)) + 1 by omega, Z5] at hL
  have hM2 : (ms.drop 4).drop (4 * (cS - (i + 1))) = (mp.drop 1).drop (4 * cS) := by rw [<- hM, List.drop_drop]; congr 1; omega
  have n0 := fun (E : Ctx) (hP : E.P = Tryz.prog) => G8 hP ms 40 (by decide)
  have a0 := l7 ms (n := 40) (by decide)
  have b0 := D7 ms (n := 40) (by decide)
  have n1 := fun (E : Ctx) (hP : E.P = Tryz.prog) => G8 hP (ms.drop 1) 24 (by decide)
  have a1 := l7 (ms.drop 1) (n := 24) (by decide)
  have b1 := D7 (ms.drop 1) (n := 24) (by decide)
  have n2 := fun (E : Ctx) (hP : E.P = Tryz.prog) => G8 hP (ms.drop 2) 5 (by decide)
  have a2 := l7 (ms.drop 2) (n := 5) (by decide)
  have b2 := D7 (ms.drop 2) (n := 5) (by decide)
  have n3 := fun (E : Ctx) (hP : E.P = Tryz.prog) => G8 hP (ms.drop 3) 20 (by decide)
  have a3 := l7 (ms.drop 3) (n := 20) (by decide)
  have b3 := D7 (ms.drop 3) (n := 20) (by decide)
  simp only [List.drop_drop, G7, ints] at n0 n1 n2 n3
  have hnm := b9q i (by omega)
  have o1 := P5 (nx ms 40 - 20) (nx (ms.drop 1) 24 - 12) (by omega) (by omega)
  have o2 := a0Z (nx (ms.drop 2) 5 - 2) 2 (by omega) (by decide)
  have o3 := a0Z 1 (8 + nx (ms.drop 3) 20) (by decide) (by omega)
  unfold b8r at hL
  unfold atV at o1
  generalize Q (nx ms 40 - 20) 4 = qa at *
  generalize Q (nx (ms.drop 1) 24 - 12) 4 = qb at *
  generalize Q (nx (ms.drop 2) 5 - 2) 2 = qc at *
  generalize Q 1 (8 + nx (ms.drop 3) 20) = qd at *
  generalize a4h i = nm at *
  generalize nx ms 40 = x1 at *
  generalize nx (ms.drop 1) 24 = x2 at *
  generalize nx (ms.drop 2) 5 = x3 at *
  generalize nx (ms.drop 3) 20 = x4 at *
  simp only [Vt.c, Vt.enc, rc, sb, ints] at o1 o2 o3
  (repeat first | refine uI ?_ | (apply S.exit; exact rfl) | ((with_reducible refine And.intro ?_ ?_); focus first | omega | trivial | exact id | (intros; simp_all <;> omega)) | simp (disch := omega) only [go_sem, Nat.reduceBEq, Nat.reduceAdd, Nat.reduceLeDiff, Int.reduceToNat, Int.reducePow, ww])
  refine S.D6 [.gone, .gone, .box 31 [.rv 3, .rv 4, .rv 5, .rv 6, .rv 7, .v (.bool false), .v (.string ⟨#[]⟩), .v (.string ⟨#[]⟩)]] ⟨rfl, True.intro⟩ ?_
  (repeat first | refine uA ?_ | (apply S.exit; exact rfl) | ((with_reducible refine And.intro ?_ ?_); focus first | omega | trivial | exact id | (intros; simp_all <;> omega)) | simp (disch := omega) only [go_sem, Nat.reduceBEq, Nat.reduceAdd, Nat.reduceLeDiff, Int.reduceToNat, Int.reducePow, ww, List.length_map, hl, J5, hnm, Int.toNat_natCast] | refine l8.t (j6.lift (k := 1) rfl (n0 _ rfl) rfl rfl rfl) ?_ | refine l8.t (j6.lift (k := 1) rfl (n1 _ rfl) rfl rfl rfl) ?_ | refine l8.t (j6.lift (k := 1) rfl (n2 _ rfl) rfl rfl rfl) ?_ | refine l8.t (j6.lift (k := 1) rfl (n3 _ rfl) rfl rfl rfl) ?_ | (refine uB o1 ?_ ?_; exact rfl) | (refine uB o2 ?_ ?_; exact rfl) | (refine uB o3 ?_ ?_; exact rfl))
  refine S.next (x := (i, ss, ms)) (i + 1, ss ++ [⟨nm, ⟨qa, qb, false, qc⟩, qd⟩], ms.drop 4) ⟨by simp only; omega, by simp [hl], by simp only; rw [List.append_assoc]; exact hL, by simp only; exact hM2⟩ (by simp only; omega) (by simp only [rsM, G7, U6, List.map_append, List.map_cons, List.map_nil]; exact (by (repeat first | refine uA ?_ | (refine ⟨?_, ?_⟩; focus first | rfl | trivial | (simp [slot]; done)) | rfl | trivial | simp)))
 have hi' : i = cS := by omega
 subst hi'
 rw [Nat.sub_self, Z5, List.append_nil] at hL
 rw [Nat.sub_self, Nat.mul_zero, List.drop_zero, List.drop_drop] at hM
 have hm : ms = L4 := by rw [q4]; exact hM
 subst hm
 rw [<- hL]
 (repeat first | refine uA ?_ | (apply S.exit; exact rfl) | ((with_reducible refine And.intro ?_ ?_); focus first | omega | trivial | exact id | (intros; simp_all <;> omega)) | simp (disch := omega) only [go_sem, Nat.reduceBEq, Nat.reduceAdd, Nat.reduceLeDiff, Int.reduceToNat, Int.reducePow, ww] | refine l8.t (j6.lift (k := 1) rfl (k4 _ rfl) rfl rfl rfl) ?_)
 rw [<- hc5]
 refine S.loop (X := Nat × List Gt × List Int) (fun x => ⟨[(2, .bp 0 0), (3, .bp 1 0), (4, .bp 2 0), (125, ints cG), (126, ints x.1)], rsM x.2.2 am ws ps ss x.2.1⟩)
  (fun x => x.1 <= cG /\ x.2.1.length = x.1 /\ x.2.1 ++ a0b (cG - x.1) x.2.2 = a0b cG (ms.drop 1) /\ x.2.2.drop (4 * (cG - x.1)) = (ms.drop 1).drop (4 * cG)) (fun x => cG - x.1) (0, [], ms.drop 1) ⟨Nat.zero_le _, rfl, rfl, rfl⟩ (by simp only [rsM, G7, U6]; exact (by (repeat first | refine uA ?_ | (refine ⟨?_, ?_⟩; focus first | rfl | trivial | (simp [slot]; done)) | rfl | trivial | simp))) ?_
 rintro ⟨i, gs, mg⟩ ⟨hi, hl, hL, hM⟩
 simp only [rsM, U6, G7, ints] at hi hl hL hM ⊢
 (repeat first | refine uA ?_ | (apply S.exit; exact rfl) | ((with_reducible refine And.intro ?_ ?_); focus first | omega | trivial | exact id | (intros; simp_all <;> omega)) | simp (disch := omega) only [go_sem, Nat.reduceBEq, Nat.reduceAdd, Nat.reduceLeDiff, Int.reduceToNat, Int.reducePow, ww])
 (refine uJ rfl (fun hc => ?_) fun hc => ?_)
 ·have hi' : i < cG := by omega
  rw [show cG - i = (cG - (i + 1)) + 1 by omega, a0b] at hL
  have hM2 : (mg.drop 4).drop (4 * (cG - (i + 1))) = (ms.drop 1).drop (4 * cG) := by rw [<- hM, List.drop_drop]; congr 1; omega
  have n0 := fun (E : Ctx) (hP : E.P = Tryz.prog) => G8 hP mg 60 (by decide)
  have a0 := l7 mg (n := 60) (by decide)
  have b0 := D7 mg (n := 60) (by decide)
  have n1 := fun (E : Ctx) (hP : E.P = Tryz.prog) => G8 hP (mg.drop 1) 60 (by decide)
  have a1 := l7 (mg.drop 1) (n := 60) (by decide)
  have b1 := D7 (mg.drop 1) (n := 60) (by decide)
  have n2 := fun (E : Ctx) (hP : E.P = Tryz.prog) => G8 hP (mg.drop 2) 12 (by decide)
  have a2 := l7 (mg.drop 2) (n := 12) (by decide)
  have b2 := D7 (mg.drop 2) (n := 12) (by decide)
  have n3 := fun (E : Ctx) (hP : E.P = Tryz.prog) => G8 hP (mg.drop 3) 12 (by decide)
  have a3 := l7 (mg.drop 3) (n := 12) (by decide)
  have b3 := D7 (mg.drop 3) (n := 12) (by decide)
  simp only [List.drop_drop, G7, ints] at n0 n1 n2 n3
  have o1 := P5 (nx mg 60 - 30) (nx (mg.drop 1) 60 - 30) (by omega) (by omega)
  have o2 := P5 (nx mg 60 - 30 + nx (mg.drop 2) 12) (nx (mg.drop 1) 60 - 30 + nx (mg.drop 3) 12) (by omega) (by omega)
  unfold b7f at hL
  generalize atV (nx mg 60 - 30) (nx (mg.drop 1) 60 - 30) = va at *
  generalize atV (nx mg 60 - 30 + nx (mg.drop 2) 12) (nx (mg.drop 1) 60 - 30 + nx (mg.drop 3) 12) = vb at *
  generalize nx mg 60 = x1 at *
  generalize nx (mg.drop 1) 60 = x2 at *
  generalize nx (mg.drop 2) 12 = x3 at *
  generalize nx (mg.drop 3) 12 = x4 at *
  simp only [Vt.c, Vt.enc, rc, sb, ints] at o1 o2
  (repeat first | refine uI ?_ | (apply S.exit; exact rfl) | ((with_reducible refine And.intro ?_ ?_); focus first | omega | trivial | exact id | (intros; simp_all <;> omega)) | simp (disch := omega) only [go_sem, Nat.reduceBEq, Nat.reduceAdd, Nat.reduceLeDiff, Int.reduceToNat, Int.reducePow, ww] | refine l8.t (j6.lift (k := 1) rfl (n0 _ rfl) rfl rfl rfl) ?_ | refine l8.t (j6.lift (k := 1) rfl (n1 _ rfl) rfl rfl rfl) ?_)
  refine S.D6 [.gone, .gone, .box 31 [.rv 3, .rv 4, .rv 5, .rv 6, .rv 7, .v (.bool false), .v (.string ⟨#[]⟩), .v (.string ⟨#[]⟩)]] ⟨rfl, True.intro⟩ ?_
  (repeat first | refine uA ?_ | (apply S.exit; exact rfl) | ((with_reducible refine And.intro ?_ ?_); focus first | omega | trivial | exact id | (intros; simp_all <;> omega)) | simp (disch := omega) only [go_sem, Nat.reduceBEq, Nat.reduceAdd, Nat.reduceLeDiff, Int.reduceToNat, Int.reducePow, ww, List.length_map, hl, J5] | refine l8.t (j6.lift (k := 1) rfl (n2 _ rfl) rfl rfl rfl) ?_ | refine l8.t (j6.lift (k := 1) rfl (n3 _ rfl) rfl rfl rfl) ?_ | (refine uB o1 ?_ ?_; exact rfl) | (refine uB o2 ?_ ?_; exact rfl))
  refine S.next (x := (i, gs, mg)) (i + 1, gs ++ [⟨[100, 111, 111, 114], va, vb⟩], mg.drop 4) ⟨by simp only; omega, by simp [hl], by simp only; rw [List.append_assoc]; exact hL, by simp only; exact hM2⟩ (by simp only; omega) (by simp only [rsM, G7, U6, List.map_append, List.map_cons, List.map_nil]; exact (by (repeat first | refine uA ?_ | (refine ⟨?_, ?_⟩; focus first | rfl | trivial | (simp [slot]; done)) | rfl | trivial | simp)))
 have hi' : i = cG := by omega
 subst hi'
 rw [Nat.sub_self, a0b, List.append_nil] at hL
 rw [Nat.sub_self, Nat.mul_zero, List.drop_zero, List.drop_drop] at hM
 have hm : mg = L5 := by rw [q5]; exact hM
 subst hm
 rw [<- hL]
 have o1 := a0Z (nx mg 4) 8 (by omega) (by decide)
 generalize Q (nx mg 4) 8 = qw at *
 generalize nx mg 4 = x6 at *
 simp only [Wk.c, Wk.enc, ams, wls, pts, sls, gts, rc, sb, ints] at o1 ⊢
 (repeat first | refine uA ?_ | (apply S.exit; exact rfl) | ((with_reducible refine And.intro ?_ ?_); focus first | omega | trivial | exact id | (intros; simp_all <;> omega)) | simp (disch := omega) only [go_sem, Nat.reduceBEq, Nat.reduceAdd, Nat.reduceLeDiff, Int.reduceToNat, Int.reducePow, ww] | refine l8.t (j6.lift (k := 1) rfl (k5 _ rfl) rfl rfl rfl) ?_ | (refine uB o1 ?_ ?_; exact rfl))
 (refine S.done ?_; simp only [x9, u6, go_sem, Nat.reduceBEq, Nat.reduceAdd, Nat.reduceLeDiff, Int.reduceToNat, Int.reducePow]; (repeat (refine ⟨?_, ?_⟩; focus first | trivial | omega | simp)); exact d9.out rfl (Imp.agg (by (repeat' (first | exact q9.nil | exact Imp.refl rfl | exact Imp.frz rfl rfl rfl | exact Imp.a0W | refine q9.cons ?_ ?_)))) rfl)
end Go.Proofs.YtogfpjohjphngaaGreatDoor
namespace Go.Proofs.YtogfpjohjphngaaGreatDoor
set_option linter.all false
open Go Go.RowKit Eng
def b6N : Wk := ⟨[], [], [], [], [], ⟨false, [], []⟩⟩
theorem a6W {w : World} {O : Nat -> Prop} {sz : Nat} : Fz w O (.sl sz []) (.slice none 0 0) := by
 simp only [Fz]
 exact ⟨none, 0, rfl, Nat.le_refl _, Nat.zero_le _, fun h => absurd h (by simp)⟩
theorem c0R : FZ 23 [.agg [.v (.slice none 0 0), .v (.slice none 0 0), .v (.slice none 0 0), .v (.slice none 0 0), .v (.slice none 0 0), .v (.bool false), .v (.string ⟨#[]⟩), .v (.string ⟨#[]⟩)]] (ints 4) := by
 have h := a9l b6N ⟨⟨Nat.zero_le _, fun x hx => (by cases hx)⟩, ⟨Nat.zero_le _, fun x hx => (by cases hx)⟩, ⟨Nat.zero_le _, fun x hx => (by cases hx)⟩, ⟨Nat.zero_le _, fun x hx => (by cases hx)⟩, ⟨Nat.zero_le _, fun x hx => (by cases hx)⟩, ⟨Nat.zero_le _, Nat.zero_le _⟩⟩
 have he : a1o b6N = 4 := rfl
 rw [he] at h
 intro O w vs hw hO hA
 refine h O w vs hw hO ?_
 simp only [FzL, Fz] at hA
 obtain ⟨y, ys, rfl, ⟨us, ⟨y1, r1, rfl, rfl, y2, r2, rfl, rfl, y3, r3, rfl, rfl, y4, r4, rfl, rfl, y5, r5, rfl, rfl, y6, r6, rfl, rfl, y7, r7, rfl, rfl, y8, r8, rfl, rfl, rfl⟩, rfl⟩, rfl⟩ := hA
 refine ⟨_, _, rfl, ?_, rfl⟩
 simp only [Wk.c, Wk.enc, b6N, Fz]
 exact ⟨_, ⟨_, _, rfl, a6W, _, _, rfl, a6W, _, _, rfl, a6W, _, _, rfl, a6W, _, _, rfl, a6W, _, _, rfl, by simp only [Fz], _, _, rfl, by simp only [sb, Fz]; rfl, _, _, rfl, by simp only [sb, Fz]; rfl, rfl⟩, rfl⟩
end Go.Proofs.YtogfpjohjphngaaGreatDoor
namespace Go.Proofs.YtogfpjohjphngaaGreatDoor.Eng
set_option linter.all false
open Go Go.RowKit
mutual
def C.sh (n : Nat) : C -> C
 | .rv k => .rv (n + k)
 | .agg cs => .agg (C.shL n cs)
 | .tup cs => .tup (C.shL n cs)
 | c => c
def C.shL (n : Nat) : List C -> List C
 | [] => []
 | c :: cs => C.sh n c :: C.shL n cs
end
mutual
def C.okS : C -> Bool
 | .rv _ => true
 | .agg cs => C.b3X cs
 | .tup cs => C.b3X cs
 | c => c.cl
def C.b3X : List C -> Bool
 | [] => true
 | c :: cs => C.okS c && C.b3X cs
end
section
variable {ν ν' : List Value} {w : World} {O O' : Nat -> Prop}
mutual
theorem b9F (hO : ∀ b, O' b -> O b) : ∀ {c : C} {y : Value}, c.okS = true -> Den ν' w O c y -> Den (ν ++ ν') w O' (C.sh ν.length c) y
 | .rv k, y, _, h => by
  simp only [C.sh, Den] at h ⊢
  exact ⟨by rw [List.getElem?_append_right (by omega), show ν.length + k - ν.length = k by omega]; exact h.1, h.2⟩
 | .agg cs, y, hc, h => by
  simp only [C.sh, Den, C.okS] at h hc ⊢
  obtain ⟨vs, h1, h2⟩ := h
  exact ⟨vs, b1b hO hc h1, h2⟩
 | .tup cs, y, hc, h => by
  simp only [C.sh, Den, C.okS] at h hc ⊢
  obtain ⟨vs, h1, h2⟩ := h
  exact ⟨vs, b1b hO hc h1, h2⟩
 | .v x, y, hc, h => by simpa only [C.sh, Den] using h
 | .sl sz es, y, hc, h => by simp only [C.sh]; exact (Fz.keep (Keeps.sub hO) (h.fz hc)).den _
 | .nl, y, hc, h => by simpa only [C.sh, Den] using h
 | .ep cs, y, hc, h => by simp only [C.sh]; exact (Fz.keep (Keeps.sub hO) (h.fz hc)).den _
 | .clo f cs, y, hc, h => by simp only [C.sh]; exact (Fz.keep (Keeps.sub hO) (h.fz hc)).den _
 | .bnd f x, y, hc, h => by simp only [C.sh]; exact (Fz.keep (Keeps.sub hO) (h.fz hc)).den _
 | .any S, y, hc, h => by simpa only [C.sh, Den] using h
 | .bp _ _, y, hc, h => by simp only [C.okS, C.cl] at hc; cases hc
 | .rp _ _ _ _, y, hc, h => by simp only [C.okS, C.cl] at hc; cases hc
 | .mp _, y, hc, h => by simp only [C.okS, C.cl] at hc; cases hc
 | .wv _ _ _ _, y, hc, h => by simp only [C.okS, C.cl] at hc; cases hc
 | .g _ _, y, hc, h => by simp only [C.okS, C.cl] at hc; cases hc
 | .junk, y, hc, h => by simp only [C.okS, C.cl] at hc; cases hc
theorem b1b (hO : ∀ b, O' b -> O b) : ∀ {cs : List C} {vs : List Value}, C.b3X cs = true -> j4 ν' w O cs vs -> j4 (ν ++ ν') w O' (C.shL ν.length cs) vs
 | [], vs, _, h => by simpa only [C.shL, j4] using h
 | c :: cs, vs, hc, h => by
  simp only [C.shL, j4, C.b3X, Bool.and_eq_true] at h hc ⊢
  obtain ⟨y, ys, e, h1, h2⟩ := h
  exact ⟨y, ys, e, b9F hO hc.1 h1, b1b hO hc.2 h2⟩
end
end
def Res.c0Z : Res -> Bool
 | .gone => true
 | r => r.shut
theorem c0u {ν ν' : List Value} {w : World} {O O' : Nat -> Prop} {x : Value} {r : Res} (hs : r.c0Z = true) (hO : ∀ b, O' b -> O b) (h : K6 ν w O x r) : K6 ν' w O' x r := by
 cases r with
 | gone => trivial
 | box t cs => exact a5z hs hO h
 | row e sz es => exact a5z rfl hO h
 | map s es => exact a5z rfl hO h
theorem j6.pre {E : Ctx} {rs rs' : List Res} {f : Nat} {args : List C} {s : C} (h : j6 E [] f args s rs' []) (hr : rs'.all Res.c0Z = true) (hs : s.okS = true) (ha : C.clL args = true) : j6 E rs f args (C.sh rs.length s) (rs ++ rs') [] := by
  intro av ν w vs hR hav hF hD
  rw [List.all_eq_true] at hr
  let av' : Nat -> Prop := OO av rs ν
  have hlt : ∀ b, av' b -> b < w.heap.size := fun b hb => by
    rcases hb with hb | hb
    · exact hR.av b hb
    · exact (hR.low b hb).1
  have ho0 : ∀ b, ¬ owned [] [] b := fun b ⟨k, r, x, hk, _⟩ => by simp at hk
  have hRG : RG av' E.own0 E.w0.heap.size [] [] w := ⟨rfl, fun k r hk => by simp at hk, fun k l r r' x x' b _ hk => by simp at hk, fun b hb => (ho0 b hb).elim, hlt, hR.n0⟩
  have hOO : ∀ b, OO av' [] [] b -> OO av rs ν b := fun b hb => hb.elim id fun h => (ho0 b h).elim
  refine (h av' [] w vs hRG (fun b hb => .inl (hav b hb)) hF ((FzL.keep (Keeps.sub hOO) (hD.fz ha)).den _)).mono ?_
  rintro e w' ⟨y, ν', rfl, h1, h2, h3⟩
  have hlen : (ν ++ ν').length = (rs ++ rs').length := by rw [List.length_append, List.length_append, hR.len, h1.len]
  have htk : (ν ++ ν').take rs.length = ν := by rw [<- hR.len]; simp
  have hown := fun b => a7n hlen b
  rw [htk] at hown
  have hnew : ∀ b, (∃ k r x, rs'[k]? = some r /\ (ν ++ ν')[rs.length + k]? = some x /\ fp r x b) -> owned rs' ν' b := by
    rintro b ⟨k, r, x, g1, g2, g3⟩
    rw [<- hR.len, List.getElem?_append_right (by omega), show ν.length + k - ν.length = k by omega] at g2
    exact ⟨k, r, x, g1, g2, g3⟩
  have hge : ∀ b, owned rs' ν' b -> w.heap.size <= b := fun b hb => (h2.own b hb).elim (fun h => (ho0 b h).elim) id
  have hnu : U7 [] ν (ν ++ ν') := fun k x _ hx => by rw [List.getElem?_append_left (List.getElem?_eq_some_iff.1 hx).1]; exact hx
  have hM : Mv rs ν w [] (rs ++ rs') (ν ++ ν') w' := by
    refine ⟨h2.os, h2.tape, h2.output, h2.size, fun b hb _ => h2.block b hb (ho0 b), fun b hb => ?_, hnu⟩
    rcases (hown b).1 hb with hb | hb
    · exact .inl hb
    · exact .inr (hge b (hnew b hb))
  have hOO' : ∀ b, OO av (rs ++ rs') (ν ++ ν') b -> OO av' rs' ν' b := fun b hb => by
    rcases hb with hb | hb
    · exact .inl (.inl hb)
    · rcases (hown b).1 hb with hb | hb
      · exact .inl (.inr hb)
      · exact .inr (hnew b hb)
  refine ⟨y, ν ++ ν', rfl, ⟨hlen, fun k r hk => ?_, fun l m q q' z z' b hne g1 g2 g3 g4 g5 => ?_, fun b hb => ?_, fun b hb => Nat.lt_of_lt_of_le (hR.av b hb) h2.size, Nat.le_trans hR.n0 h2.size⟩, hM, by rw [<- hR.len]; exact b9F hOO' hs h3⟩
  · rcases Nat.lt_or_ge k rs.length with hlt' | hge'
    · rw [List.getElem?_append_left hlt'] at hk
      obtain ⟨x, hx, hok⟩ := hR.res k r hk
      have := hok.mv (hM.keeps (av := av)) hM.nu (fun b hf => h2.block b (hR.lt hk hx hf) (ho0 b))
      rw [a1Z] at this
      exact ⟨x, hnu k x (fun h => by cases h) hx, this⟩
    · rw [List.getElem?_append_right hge'] at hk
      obtain ⟨x, hx, hok⟩ := h1.res _ r hk
      refine ⟨x, by rw [List.getElem?_append_right (by rw [hR.len]; exact hge'), hR.len]; exact hx, c0u (hr r (List.mem_of_getElem? hk)) hOO' hok⟩
  · have old : ∀ {l q z}, l < rs.length -> (rs ++ rs')[l]? = some q -> (ν ++ ν')[l]? = some z -> rs[l]? = some q /\ ν[l]? = some z := fun hl a1 a2 => by
      rw [List.getElem?_append_left hl] at a1
      rw [List.getElem?_append_left (by rw [hR.len]; exact hl)] at a2
      exact ⟨a1, a2⟩
    have new : ∀ {l q z}, rs.length <= l -> (rs ++ rs')[l]? = some q -> (ν ++ ν')[l]? = some z -> rs'[l - rs.length]? = some q /\ ν'[l - rs.length]? = some z := fun hl a1 a2 => by
      rw [List.getElem?_append_right hl] at a1
      rw [List.getElem?_append_right (by rw [hR.len]; exact hl), hR.len] at a2
      exact ⟨a1, a2⟩
    rcases Nat.lt_or_ge l rs.length with hl1 | hl1 <;> rcases Nat.lt_or_ge m rs.length with hm1 | hm1
    · obtain ⟨a1, a2⟩ := old hl1 g1 g3
      obtain ⟨a3, a4⟩ := old hm1 g2 g4
      exact hR.dis l m q q' z z' b hne a1 a3 a2 a4 g5
    · obtain ⟨a1, a2⟩ := old hl1 g1 g3
      obtain ⟨a3, a4⟩ := new hm1 g2 g4
      intro hf
      have := hR.lt a1 a2 g5
      have := hge b ⟨_, _, _, a3, a4, hf⟩
      omega
    · obtain ⟨a1, a2⟩ := new hl1 g1 g3
      obtain ⟨a3, a4⟩ := old hm1 g2 g4
      intro hf
      have := hR.lt a3 a4 hf
      have := hge b ⟨_, _, _, a1, a2, g5⟩
      omega
    · obtain ⟨a1, a2⟩ := new hl1 g1 g3
      obtain ⟨a3, a4⟩ := new hm1 g2 g4
      exact h1.dis _ _ q q' z z' b (by omega) a1 a3 a2 a4 g5
  · rcases (hown b).1 hb with hb | hb
    · obtain ⟨a1, a2, a3⟩ := hR.low b hb
      exact ⟨Nat.lt_of_lt_of_le a1 h2.size, a2, a3⟩
    · obtain ⟨a1, a2, a3⟩ := h1.low b (hnew b hb)
      exact ⟨a1, fun ha => a2 (.inl ha), a3⟩
end Go.Proofs.YtogfpjohjphngaaGreatDoor.Eng
namespace Go.Proofs.YtogfpjohjphngaaGreatDoor
set_option linter.all false
open Go Go.RowKit Eng
set_option maxRecDepth 100000
set_option maxHeartbeats 16000000
theorem c2g {E : Ctx} (hP : E.P = Tryz.prog) (ht0 : Tz E) (l : List Int) :
  j6 E [] 10 [G7 l] (.tup [(D9 l).c, .agg [ints 0, .rv 6, .rv 7, .v (.slice none 0 0), .rv 8], .v (.bool true)]) [.gone, .gone, .gone, .gone, .gone, .gone, .row 90 4 ((F8 (D9 l)).arms.map Ast.enc), .row 55 10 ((F8 (D9 l)).parts.map Fr.enc), .row 4 1 ((F8 (D9 l)).gates.map fun b => [.v (.bool b)]), .gone] [] := by
 obtain ⟨P, eff', N, w0, own0, av0, nu0, pk0⟩ := E
 simp only at hP
 subst hP
 refine j6.ofT (eff := eff) ht0 a7u a7l (by exact Nat.le_of_ble_eq_true rfl) fun w' own av ν hν ht => ?_
 have hν0 : ν.length <= 0 := by rw [hν]; exact Nat.le_refl _
 have hk := b3p l
 obtain ⟨ha, hs⟩ := a8A l
 have hb := b9N l
 have h1 := c2b l
 have h2 := fun (E : Ctx) (hP : E.P = Tryz.prog) (ht : Tz E) => c1Y hP ht (D9 l) hb hk
 have h3 := a8J (D9 l) (F8 (D9 l)) hb (b8B hb ha hs)
 rw [b4S hk ha hs] at h3
 have h4 := c0R
 have e1 : (F8 (D9 l)).arms.length = (D9 l).arms.length := by simp [F8]
 have e2 : (F8 (D9 l)).parts.length = (D9 l).parts.length := by simp [F8]
 have e3 : (F8 (D9 l)).people = [] := rfl
 have e4 : (F8 (D9 l)).tick = 0 := rfl
 generalize F8 (D9 l) = s at *
 generalize D9 l = w at *
 obtain ⟨arms, walls, parts, slots, gates, walk⟩ := w
 obtain ⟨tick, sarms, sparts, people, sgates⟩ := s
 simp only at e1 e2 e3 e4
 subst e3 e4
 have d1 : decide ((sarms.length : Int) = (arms.length : Int)) = true := decide_eq_true (by omega)
 have d2 : decide ((sparts.length : Int) = (parts.length : Int)) = true := decide_eq_true (by omega)
 simp only [a2Y, l9, TT, II, OA, OB, OC, MM, LL, VV, FF, MG, LG, VG, FG]
 simp only [Wk.c, Wk.enc, Stt.c, Stt.enc, ams, wls, pts, sls, gts, U2, frs, vts, bls, rc, sb, ints, G7, List.map_nil] at h1 h2 h3 h4 ⊢
 (repeat first | refine uI ?_ | (apply S.exit; exact rfl) | ((with_reducible refine And.intro ?_ ?_); focus first | omega | trivial | exact id | (intros; simp_all <;> omega)) | simp (disch := omega) only [go_sem, Nat.reduceBEq, Nat.reduceAdd, Nat.reduceLeDiff, Int.reduceToNat, Int.reducePow, ww, C.sh, C.shL, List.length_cons, List.length_nil, List.length_map] | refine l8.t (j6.pre (h2 _ rfl ht) rfl rfl rfl) ?_ | (refine uB h1 ?_ ?_; exact rfl))
 refine S.D6 [.gone, .gone, .gone, .gone, .gone, .gone, .gone, .gone, .gone, .box 37 [.v (.int .i64 0), .rv 6, .rv 7, .v (.slice none 0 0), .rv 8]] ⟨rfl, True.intro⟩ ?_
 (repeat first | refine uA ?_ | (apply S.exit; exact rfl) | ((with_reducible refine And.intro ?_ ?_); focus first | omega | trivial | exact id | (intros; simp_all <;> omega)) | simp (disch := omega) only [go_sem, Nat.reduceBEq, Nat.reduceAdd, Nat.reduceLeDiff, Int.reduceToNat, Int.reducePow, ww, J5, List.length_map, e1, e2, d1, d2, decide_true, Bool.and_self] | (refine uD h4 ?_ ?_ ?_; exact ht; exact rfl) | (refine uE h3 ?_ ?_ ?_ ?_; exact ht; exact rfl; focus (repeat' first | exact q9.nil | exact Imp.refl rfl | exact Imp.a0W | exact Imp.frz rfl rfl rfl | (refine Imp.R6 rfl rfl ?_ ?_; (focus ((try simp only [List.length_append, J5, List.length_map, e1, e2, d1, d2, decide_true, Bool.and_self]); omega)); (focus first | rfl | assumption)) | refine Imp.agg ?_ | refine q9.cons ?_ ?_); done))
 (refine S.done ?_; simp only [x9, u6, go_sem, Nat.reduceBEq, Nat.reduceAdd, Nat.reduceLeDiff, Int.reduceToNat, Int.reducePow]; (repeat (refine ⟨?_, ?_⟩; focus first | trivial | omega | simp)); exact d9.L9 (Imp.tup (by (repeat' (first | exact q9.nil | exact Imp.refl rfl | exact Imp.frz rfl rfl rfl | exact Imp.a0W | refine Imp.agg ?_ | refine q9.cons ?_ ?_)))) (by (repeat first | refine uA ?_ | (refine ⟨?_, ?_⟩; focus first | rfl | trivial | (simp [slot]; done)) | rfl | trivial | simp)) (Nat.le_trans hν0 (by simp)))
end Go.Proofs.YtogfpjohjphngaaGreatDoor
namespace Go.Proofs.YtogfpjohjphngaaGreatDoor
set_option linter.all false
open Go Go.RowKit Eng
set_option maxRecDepth 100000
set_option maxHeartbeats 16000000
theorem sign_zero : J2 0 = 0 := by decide +kernel
theorem b5P (l : List Int) (i by' : Int) : FZ 3 [G7 l, ints i, ints by'] (.v (.bool true)) := by
 refine q8.of a4D a4C (by exact Nat.le_of_ble_eq_true rfl) fun w' O hw => ?_
 have ht : Tz ⟨Tryz.prog, eff, Q9.ntmps, w', fun _ => False, O, [], []⟩ := tz hw
 have hk := b3p l
 obtain ⟨ha, hs⟩ := a8A l
 have hb := b4x l
 have hbg := fun (E : Ctx) (hP : E.P = Tryz.prog) (ht : Tz E) => c2g hP ht l
 have hsb := b3m (Nat.le_refl 1048576) hb ha hs
 have hst := b4S hk ha hs
 obtain ⟨f1, f2, f3, f4⟩ := b8j l
 have e3 : (F8 (D9 l)).people = [] := rfl
 have e4 : (F8 (D9 l)).tick = 0 := rfl
 have e5 : (F8 (D9 l)).parts.length = (D9 l).parts.length := by simp [F8]
 have e6 : ∀ j sl, j < (D9 l).parts.length -> (D9 l).slots[j]? = some sl -> (F8 (D9 l)).parts[j]? = some sl.frame := fun j sl h hj => by
  show ((List.range _).map (a3T (D9 l)))[j]? = _
  rw [List.getElem?_map, List.getElem?_range h]
  simp only [Option.map_some, a3T]
  obtain ⟨h1, h2⟩ := List.getElem?_eq_some_iff.1 hj
  rw [dif_pos h1, h2]
 have e7 : ∀ x ∈ (F8 (D9 l)).arms, x.holds = -1 := fun x hx => by
  obtain ⟨a, _, rfl⟩ := List.mem_map.1 hx
  rfl
 generalize F8 (D9 l) = s at *
 generalize D9 l = w at *
 by_cases hp : w.parts.length = 0
 ·have hin := b9X w s 0 0 hb hsb
  have hdk : S9 w s 0 0 = 1 := by
   unfold S9
   rw [if_neg (by simpa using hst), if_pos (by omega)]
  unfold a9b at hin
  rw [hdk, if_pos (by decide)] at hin
  obtain ⟨arms, walls, parts, slots, gates, walk⟩ := w
  obtain ⟨tick, sarms, sparts, people, sgates⟩ := s
  simp only at e3 e4 hp
  subst e3 e4
  have d0 : decide ((parts.length : Int) = 0) = true := decide_eq_true (by omega)
  simp only [Q9, l9, TT, II, OA, OB, OC, MM, LL, VV, FF, MG, LG, VG, FG] at ht ⊢
  simp only [Wk.c, Wk.enc, Stt.c, Stt.enc, ams, wls, pts, sls, gts, U2, frs, vts, bls, rc, sb, ints, G7, List.map_nil] at hbg hin ⊢
  (repeat first | refine uA ?_ | (apply S.exit; exact rfl) | ((with_reducible refine And.intro ?_ ?_); focus first | omega | trivial | exact id | (intros; simp_all <;> omega)) | simp (disch := omega) only [go_sem, Nat.reduceBEq, Nat.reduceAdd, Nat.reduceLeDiff, Int.reduceToNat, Int.reducePow, ww, C.sh, C.shL, List.length_cons, List.length_nil, List.length_map] | refine l8.t (j6.pre (hbg _ rfl ht) rfl rfl rfl) ?_)
  refine S.cond rfl (fun hc => by simp at hc) (fun hc => ?_)
  (repeat first | refine uA ?_ | (apply S.exit; exact rfl) | ((with_reducible refine And.intro ?_ ?_); focus first | omega | trivial | exact id | (intros; simp_all <;> omega)) | simp (disch := omega) only [go_sem, Nat.reduceBEq, Nat.reduceAdd, Nat.reduceLeDiff, Int.reduceToNat, Int.reducePow, ww, List.length_map, d0])
  refine S.cond rfl (fun hc => ?_) (fun hc => by simp at hc)
  (repeat first | refine uA ?_ | (apply S.exit; exact rfl) | ((with_reducible refine And.intro ?_ ?_); focus first | omega | trivial | exact id | (intros; simp_all <;> omega)) | simp (disch := omega) only [go_sem, Nat.reduceBEq, Nat.reduceAdd, Nat.reduceLeDiff, Int.reduceToNat, Int.reducePow, ww, decide_true] | (refine uE hin ?_ ?_ ?_ ?_; exact tz hw; exact rfl; focus (repeat' first | exact q9.nil | exact Imp.refl rfl | exact Imp.a0W | exact Imp.frz rfl rfl rfl | (refine Imp.R6 rfl rfl ?_ ?_; (focus ((try simp only [List.length_append, decide_true]); omega)); (focus first | rfl | assumption)) | refine Imp.agg ?_ | refine q9.cons ?_ ?_); done))
  exact S.done (d9.out rfl (Imp.refl rfl) rfl)
 have hn : 1 <= (w.parts.length : Int) /\ (w.parts.length : Int) <= 4611686018427387904 := by omega
 have o1 := a9i i w.parts.length hn
 have hi0 := Int.emod_nonneg i (show (w.parts.length : Int) ≠ 0 by omega)
 have hi1 := Int.emod_lt_of_pos i (show 0 < (w.parts.length : Int) by omega)
 obtain ⟨n, hin'⟩ : ∃ n : Nat, i % (w.parts.length : Int) = n := ⟨(i % (w.parts.length : Int)).toNat, by omega⟩
 rw [hin'] at o1 hi1
 clear hi0 hin'
 have hnp : n < w.parts.length := by omega
 have gp := List.getElem?_eq_getElem hnp
 have gs := List.getElem?_eq_getElem (show n < w.slots.length by omega)
 generalize w.parts[n]'(_) = pt at gp
 generalize w.slots[n]'(_) = sl at gs
 have gf := e6 n sl hnp gs
 have g3 := f3 pt (List.mem_of_getElem? gp)
 obtain ⟨bf, gof, bw, wp⟩ := f4 sl (List.mem_of_getElem? gs)
 clear f3 f4 e6 hs ha
 have dk : S9 w s n n = 0 := by
  unfold S9
  rw [if_neg (by simpa using hst), if_neg (by omega)]
 have of0 : Q5 w s n n = 0 := by
  unfold Q5
  rw [List.getD_eq_getElem?_getD, List.getD_eq_getElem?_getD, List.getD_eq_getElem?_getD, gp, gs, gf]
  exact b8K _ _
 have nohold : ∀ k : Int, 0 <= k -> (s.arms.any fun x => decide (x.holds = k)) = false := fun k hk0 => by
  rw [List.any_eq_false]
  intro x hx
  rw [e7 x hx]
  simp; omega
 have wcmp : Nm.G5 0 (Nm.j3 sl.within) <= 0 := by
  have := (a0U 0 (Nm.j3 sl.within)).2 wp
  omega
 have o2 := b9X w s n n hb hsb
 have hin1 : a9b w s n n = true := by
  unfold a9b
  rw [if_neg (by rw [dk]; decide), nohold n (by omega), Int.toNat_natCast, of0, List.getD_eq_getElem?_getD, gs]
  exact decide_eq_true wcmp
 rw [dk, hin1] at o2
 have o3 := b2U w s n n hb hsb
 unfold a9c at o3
 rw [dk, if_neg (by decide), Int.toNat_natCast, of0] at o3
 have o4 := c2q w s n hb hsb
 have hbE : a5C w s n = 0 := by
  unfold a5C
  rw [if_neg (by simpa using hst), if_neg (by omega), if_neg (by omega)]
 have hbz := b9r (o := Q5 w s n) (n := w.slots.length) (i := n) (by omega) of0 (fun j _ => b5s _ _ _)
 unfold b4i b4D a7G at o4
 rw [hbE, if_neg (by decide), if_neg (by decide), Int.toNat_natCast, hbz.2] at o4
 have hbz := hbz.1
 generalize (K3 (Q5 w s n) w.slots.length).1 = best at *
 have o5 := a0u (Nm.ofQ 0) (a5j.mono (by decide))
 rw [Nm.G9, sign_zero] at o5
 have hk0 := Int.emod_nonneg by' (show (50 : Int) ≠ 0 by decide)
 have hk1 := Int.emod_lt_of_pos by' (show 0 < (50 : Int) by decide)
 have o6 := a9i by' 50 (by decide)
 generalize by' % 50 = k at *
 have o7 := a0Z (1 + k) 100 (by omega) (by decide)
 have r7 : Rb 3 (Q (1 + k) 100) := a2n (M8 _ _ (by omega) (by decide))
 have o8 := a3M sl.within (Q (1 + k) 100) (bw.mono (by decide)) (r7.mono (by decide))
 rw [a1T, show Int.toNat 100 = 100 from rfl] at o8
 have r7' : Rb 3 (Nm.ofQ (mkRat (1 + k) 100)) := r7
 have r8 := a0e (bw.fit (by decide)) r7'
 have kpos := (mk_pos (1 + k) (n := 100) (by decide)).2 (by omega)
 have mpos : 0 < Nm.j3 sl.within + mkRat (1 + k) 100 := by grind
 have mlt : Nm.j3 sl.within < Nm.j3 sl.within + mkRat (1 + k) 100 := by grind
 generalize Nm.j3 sl.within + mkRat (1 + k) 100 = more at *
 have o9 := a3M sl.frame.x (Nm.ofQ more) (bf.1.mono (by decide)) (r8.mono (by decide))
 rw [Nm.G9] at o9
 have r9 := a0e (bf.1.fit (by decide)) r8
 generalize hg : (⟨Nm.ofQ (Nm.j3 sl.frame.x + more), sl.frame.y, sl.frame.half, sl.frame.t⟩ : Fr) = g
 have gg : Y8 g = true := by
  subst hg
  unfold Y8 at gof ⊢
  simp only [Bool.and_eq_true] at gof ⊢
  exact ⟨⟨⟨decide_eq_true (Nm.a2q _), gof.1.1.2⟩, gof.1.2⟩, gof.2⟩
 have hst2 := b5O g hst gf gg
 have hsb2 : Stb 1048576 ⟨s.tick, s.arms, s.parts.set n g, s.people, s.gates⟩ := by
  refine ⟨hsb.arms, ⟨by rw [List.length_set]; exact hsb.parts.1, fun x hx => ?_⟩, hsb.people, hsb.gates⟩
  rcases List.mem_or_eq_of_mem_set hx with h | h
  ·exact hsb.parts.2 x h
  ·rw [h]; subst hg
   exact ⟨r9.mono (by decide), bf.2.1.mono (by decide), bf.2.2.mono (by decide)⟩
 have dk2 : S9 w ⟨s.tick, s.arms, s.parts.set n g, s.people, s.gates⟩ n n = 0 := by
  unfold S9
  rw [if_neg (by simpa using hst2), if_neg (by omega)]
 have of2 : Q5 w ⟨s.tick, s.arms, s.parts.set n g, s.people, s.gates⟩ n n = more := by
  unfold Q5
  simp only
  rw [List.getD_eq_getElem?_getD, List.getD_eq_getElem?_getD, List.getD_eq_getElem?_getD, gp, gs, List.getElem?_set_self (by omega)]
  subst hg
  exact b7d sl.frame ⟨Nm.ofQ (Nm.j3 sl.frame.x + more), sl.frame.y, sl.frame.half, sl.frame.t⟩ more mpos (Nm.G9 _) rfl rfl rfl _ g3
 have o10 := b9X w ⟨s.tick, s.arms, s.parts.set n g, s.people, s.gates⟩ n n hb hsb2
 have hin2 : a9b w ⟨s.tick, s.arms, s.parts.set n g, s.people, s.gates⟩ n n = false := by
  unfold a9b
  rw [if_neg (by rw [dk2]; decide), Int.toNat_natCast, of2, List.getD_eq_getElem?_getD, gs]
  have h := (a7N more (Nm.j3 sl.within)).2 mlt
  rw [Option.getD_some, decide_eq_false (by omega), Bool.and_false]
 rw [dk2, hin2] at o10
 have o11 := b2U w ⟨s.tick, s.arms, s.parts.set n g, s.people, s.gates⟩ n n hb hsb2
 unfold a9c at o11
 rw [dk2, if_neg (by decide), Int.toNat_natCast, of2] at o11
 clear dk dk2 of0 of2 hin1 hin2 hbE hst hst2 hsb hsb2 hb hk gg gof nohold wcmp g3 e7
 unfold rq at o8 o9
 obtain ⟨gx, gy, gh, gt⟩ := g
 injection hg with q1 q2 q3 q4
 subst q2 q3 q4
 rw [q1] at o9
 clear q1 r9 r8 mpos mlt
 generalize Nm.ofQ more = M at *
 generalize hZ : Nm.ofQ 0 = Z at *
 generalize Q (1 + k) 100 = q7 at *
 obtain ⟨sn, ⟨fx, fy, fh, ft⟩, within⟩ := sl
 obtain ⟨arms, walls, parts, slots, gates, walk⟩ := w
 obtain ⟨tick, sarms, sparts, people, sgates⟩ := s
 simp only at e3 e4 e5 hp hnp gp gs gf hn f1 f2
 subst e3 e4
 have d0 : decide ((parts.length : Int) = 0) = false := decide_eq_false (by omega)
 simp only [Q9, l9, TT, II, OA, OB, OC, MM, LL, VV, FF, MG, LG, VG, FG] at ht ⊢
 simp only [Wk.c, Wk.enc, Stt.c, Stt.enc, ams, wls, pts, sls, gts, U2, frs, vts, bls, rc, Fr.enc, sb, ints, G7, List.map_nil, List.map_set, List.drop_succ_cons, List.drop_zero, List.cons_append, List.nil_append] at hbg o1 o2 o3 o4 o5 o6 o7 o8 o9 o10 o11 ⊢
 (repeat first | refine uA ?_ | (apply S.exit; exact rfl) | ((with_reducible refine And.intro ?_ ?_); focus first | omega | trivial | exact id | (intros; simp_all <;> omega)) | simp (disch := omega) only [go_sem, Nat.reduceBEq, Nat.reduceAdd, Nat.reduceLeDiff, Int.reduceToNat, Int.reducePow, ww, C.sh, C.shL, List.length_cons, List.length_nil, List.length_map] | refine l8.t (j6.pre (hbg _ rfl ht) rfl rfl rfl) ?_)
 refine S.cond rfl (fun hc => by simp at hc) (fun hc => ?_)
 (repeat first | refine uA ?_ | (apply S.exit; exact rfl) | ((with_reducible refine And.intro ?_ ?_); focus first | omega | trivial | exact id | (intros; simp_all <;> omega)) | simp (disch := omega) only [go_sem, Nat.reduceBEq, Nat.reduceAdd, Nat.reduceLeDiff, Int.reduceToNat, Int.reducePow, ww, List.length_map, d0])
 refine S.cond rfl (fun hc => by simp at hc) (fun hc => ?_)
 (repeat first | refine uA ?_ | (apply S.exit; exact rfl) | ((with_reducible refine And.intro ?_ ?_); focus first | omega | trivial | exact id | (intros; simp_all <;> omega)) | simp (disch := omega) only [go_sem, Nat.reduceBEq, Nat.reduceAdd, Nat.reduceLeDiff, Int.reduceToNat, Int.reducePow, ww, List.length_map] | (refine uB o1 ?_ ?_; exact rfl) | (refine uD o5 ?_ ?_ ?_; exact tz hw; exact rfl) | (refine uE o2 ?_ ?_ ?_ ?_; exact tz hw; exact rfl; focus (repeat' first | exact q9.nil | exact Imp.refl rfl | exact Imp.a0W | exact Imp.frz rfl rfl rfl | (refine Imp.R6 rfl rfl ?_ ?_; (focus ((try simp only [List.length_append, List.length_map]); omega)); (focus first | rfl | assumption)) | refine Imp.agg ?_ | refine q9.cons ?_ ?_); done) | (refine uE o3 ?_ ?_ ?_ ?_; exact tz hw; exact rfl; focus (repeat' first | exact q9.nil | exact Imp.refl rfl | exact Imp.a0W | exact Imp.frz rfl rfl rfl | (refine Imp.R6 rfl rfl ?_ ?_; (focus ((try simp only [List.length_append, List.length_map]); omega)); (focus first | rfl | assumption)) | refine Imp.agg ?_ | refine q9.cons ?_ ?_); done) | (refine uE o4 ?_ ?_ ?_ ?_; exact tz hw; exact rfl; focus (repeat' first | exact q9.nil | exact Imp.refl rfl | exact Imp.a0W | exact Imp.frz rfl rfl rfl | (refine Imp.R6 rfl rfl ?_ ?_; (focus ((try simp only [List.length_append, List.length_map]); omega)); (focus first | rfl | assumption)) | refine Imp.agg ?_ | refine q9.cons ?_ ?_); done))
 refine S.cond rfl (fun hc => by simp at hc; omega) (fun hc => ?_)
 (repeat first | refine uA ?_ | (apply S.exit; exact rfl) | ((with_reducible refine And.intro ?_ ?_); focus first | omega | trivial | exact id | (intros; simp_all <;> omega)) | simp (disch := omega) only [go_sem, Nat.reduceBEq, Nat.reduceAdd, Nat.reduceLeDiff, Int.reduceToNat, Int.reducePow, ww, List.length_map, gs, gf, Option.map_some, Sl.enc, Fr.enc, sb, Int.toNat_natCast] | (refine uB o6 ?_ ?_; exact rfl) | (refine uB o7 ?_ ?_; exact rfl) | (refine uD o8 ?_ ?_ ?_; exact tz hw; exact rfl) | (refine uD o9 ?_ ?_ ?_; exact tz hw; exact rfl))
 (repeat first | refine uA ?_ | (apply S.exit; exact rfl) | ((with_reducible refine And.intro ?_ ?_); focus first | omega | trivial | exact id | (intros; simp_all <;> omega)) | simp (disch := omega) only [go_sem, Nat.reduceBEq, Nat.reduceAdd, Nat.reduceLeDiff, Int.reduceToNat, Int.reducePow, ww, decide_true, beq_self_eq_true] | (refine uE o10 ?_ ?_ ?_ ?_; exact tz hw; exact rfl; focus (repeat' first | exact q9.nil | exact Imp.refl rfl | exact Imp.a0W | exact Imp.frz rfl rfl rfl | (refine Imp.R6 rfl rfl ?_ ?_; (focus ((try simp only [List.length_append, decide_true, beq_self_eq_true]); omega)); (focus first | rfl | assumption)) | refine Imp.agg ?_ | refine q9.cons ?_ ?_); done) | (refine uE o11 ?_ ?_ ?_ ?_; exact tz hw; exact rfl; focus (repeat' first | exact q9.nil | exact Imp.refl rfl | exact Imp.a0W | exact Imp.frz rfl rfl rfl | (refine Imp.R6 rfl rfl ?_ ?_; (focus ((try simp only [List.length_append, decide_true, beq_self_eq_true]); omega)); (focus first | rfl | assumption)) | refine Imp.agg ?_ | refine q9.cons ?_ ?_); done))
 exact S.done (d9.out rfl (Imp.refl rfl) rfl)
end Go.Proofs.YtogfpjohjphngaaGreatDoor
namespace Go.Proofs.YtogfpjohjphngaaGreatDoor
set_option linter.all false
open Go Go.RowKit Go.ChangeShapes Go.WideShapes Eng
theorem c0n {H : Type} {l : List (DataW H)} (hk : Rows.uptoSmall H l = true) : Rows.uptoBulkAll l <= 1048576 := of_decide_eq_true hk
theorem c0y {H : Type} (l r : List (DataW H)) : Rows.uptoBulkAll (l ++ r) = Rows.uptoBulkAll l + Rows.uptoBulkAll r := by
 induction l with
 | nil => simp [Rows.uptoBulkAll]
 | cons x l ih => simp only [List.cons_append, Rows.uptoBulkAll, ih]; omega
def noB : Nat -> Prop := fun _ => False
section
variable {H : Type} {enc : TypeId × Value -> H} {P : Program} {W : World}
def Opens (enc : TypeId × Value -> H) (P : Program) (W : World) (t : TypeId) {α : Type} (tc : α -> List C) (ok : α -> Prop) (ms : α -> Nat) : Prop :=
 ∀ (fuel : Nat) (cs : List Value) (x : DataW H × List MemPlace), DataW.trod enc P W 0 (fun _ => true) true fuel t cs = some x -> ∃ a : α, FzL W noB (tc a) cs /\ (∀ u ∈ cs, u.oneCell' = true) /\ ok a /\ ms a <= Rows.uptoBulk x.1
def I64 (n : Int) : Prop := -9223372036854775808 <= n /\ n <= 9223372036854775807
theorem b9t {t : TypeId} (ht : P.underlying t = some (.int .i64)) : Opens enc P W t (fun n : Int => [.v (.int .i64 n)]) I64 fun _ => 1 := by
 intro fuel cs x h
 obtain ⟨n, rfl, rfl, hw⟩ := DataW.trod_int ht h
 refine ⟨n, by simp [FzL, Fz], by simp [Value.oneCell'], ?_, by simp [Rows.uptoBulk]⟩
 simpa [Lit.wf, IntKind.min, IntKind.max, IntKind.signed, IntKind.bits, I64] using hw
theorem Opens.imp {t : TypeId} {α β : Type} {tc : α -> List C} {ok : α -> Prop} {ms : α -> Nat} {tc' : β -> List C} {ok' : β -> Prop} {ms' : β -> Nat} (h : Opens enc P W t tc ok ms)
  (f : ∀ a, ok a -> ∃ b, tc a = tc' b /\ ok' b /\ ms' b <= ms a) : Opens enc P W t tc' ok' ms' := by
 intro fuel cs x hx
 obtain ⟨a, h0, h01, h1, h2⟩ := h fuel cs x hx
 obtain ⟨b, h3, h4, h5⟩ := f a h1
 exact ⟨b, by rw [<- h3]; exact h0, h01, h4, Nat.le_trans h5 h2⟩
theorem b9P {w : World} {O : Nat -> Prop} {q : List C} {vs : List Value} {ad : Addr} {j : Nat} (hF : FzL w O q vs) (h1 : ∀ u ∈ vs, u.oneCell' = true) (hc : ∀ i v, vs[i]? = some v -> w.cell? (ad.add (j + i)) = some v) : FzA w O q ad j := FzA.of hF h1 hc
theorem b6i {t e : TypeId} {α : Type} {tc : α -> List C} {ok : α -> Prop} {ms : α -> Nat} {sz : Nat} (ht : P.underlying t = some (.slice e)) (hc : P.cellsOf e = sz) (hsz : 0 < sz) (hlen : ∀ a, (tc a).length = sz)
  (he : Opens enc P W e tc ok ms) : Opens enc P W t (fun xs : List α => [.sl sz (xs.map tc)]) (fun xs => ∀ a ∈ xs, ok a) fun xs => 1 + (xs.map ms).sum := by
 intro fuel cs x h
 rcases Deep.open_slice ht h with ⟨rfl, rfl⟩ | ⟨a, len, cap, m, n, D, Pl, rfl, _, hl, hm, hmm, rfl, hx⟩
 ·refine ⟨[], ?_, by simp [Value.oneCell'], (fun a ha => by cases ha), by simp [Rows.uptoBulk]⟩
  simp only [FzL, Fz]
  exact ⟨_, _, rfl, ⟨none, 0, rfl, Nat.le_refl _, Nat.zero_le _, fun h => by simp at h⟩, rfl⟩
 ·have hlm : len <= m := by rw [hmm]; split <;> omega
  have key : ∀ i, i < len -> ∃ (y : α) (vs : List Value), W.cells? 0 (a.add (i * sz)) sz = some vs /\ FzL W noB (tc y) vs /\ (∀ u ∈ vs, u.oneCell' = true) /\ ok y /\ ms y <= Rows.uptoBulk (D i) := by
   intro i hi
   obtain ⟨cs', h1, h2⟩ := hx i (by omega)
   obtain ⟨y, h31, h32, h3, h4⟩ := he _ _ _ h2
   rw [hc] at h1
   exact ⟨y, cs', h1, h31, h32, h3, h4⟩
  have build : ∀ k, k <= len -> ∃ xs : List α, xs.length = k /\ (∀ i y, xs[i]? = some y -> ∃ vs, W.cells? 0 (a.add (i * sz)) sz = some vs /\ FzL W noB (tc y) vs /\ (∀ u ∈ vs, u.oneCell' = true) /\ ok y) /\ (xs.map ms).sum <= Rows.uptoBulkAll ((List.range k).map D) := by
   intro k
   induction k with
   | zero => intro _; exact ⟨[], rfl, (fun i y h => by simp at h), by simp⟩
   | succ k ih =>
    intro hk
    obtain ⟨xs, h1, h2, h3⟩ := ih (by omega)
    obtain ⟨y, vs, h4, h41, h42, h5, h6⟩ := key k (by omega)
    refine ⟨xs ++ [y], by simp [h1], fun i z hz => ?_, ?_⟩
    ·rcases Nat.lt_or_ge i xs.length with hlt | hge
     ·rw [List.getElem?_append_left hlt] at hz
      exact h2 i z hz
     ·rw [List.getElem?_append_right hge] at hz
      have : i - xs.length = 0 := by
       rcases Nat.eq_zero_or_pos (i - xs.length) with h0 | h0
       ·exact h0
       ·obtain ⟨d, hd⟩ : ∃ d, i - xs.length = d + 1 := ⟨i - xs.length - 1, by omega⟩
        rw [hd] at hz; simp at hz
      rw [this] at hz
      simp at hz
      subst hz
      have : i = k := by omega
      subst this
      exact ⟨vs, h4, h41, h42, h5⟩
    ·rw [List.map_append, List.sum_append, List.range_succ, List.map_append, c0y]
     simp only [List.map_cons, List.map_nil, List.sum_cons, List.sum_nil, Rows.uptoBulkAll]
     omega
  obtain ⟨xs, h1, h2, h3⟩ := build len (Nat.le_refl _)
  have hcell : ∀ (i : Nat) (y : α), xs[i]? = some y -> (tc y).length = sz /\ FzA W noB (tc y) a (i * sz) := by
   intro i y hy
   obtain ⟨vs, h4, h41, h42, _⟩ := h2 i y hy
   obtain ⟨_, h5, h6⟩ := World.cells?_some h4
   refine ⟨hlen _, b9P h41 h42 fun j v hv => ?_⟩
   have hj : j < sz := by
    have := (List.getElem?_eq_some_iff.1 hv).1
    rwa [h5] at this
   have h7 := h6 j hj
   rw [hv, Deep.add_add] at h7
   exact h7
  refine ⟨xs, ?_, by simp [Value.oneCell'], fun y hy => ?_, ?_⟩
  ·simp only [FzL]
   refine ⟨_, _, rfl, ?_, rfl⟩
   simp only [Fz]
   refine ⟨some a, cap, by simp [h1], by simp; omega, hm, fun h0 => ⟨a, rfl, ?_, (fun h => h), FzE.of fun k q hq => ?_⟩⟩
   ·have hi : 0 < xs.length := by simpa using h0
    obtain ⟨hq1, hq2⟩ := hcell 0 xs[0] (List.getElem?_eq_getElem hi)
    have h9 : 0 < (tc xs[0]).length := by omega
    match htc : tc xs[0], h9, hq2 with
    | c :: cs, _, hq2 =>
     simp only [FzA] at hq2
     obtain ⟨⟨v, hv, _⟩, _⟩ := hq2
     have h10 := block_lt_of_cell hv
     rwa [add_block] at h10
   ·rw [List.getElem?_map] at hq
    obtain ⟨y, hy, rfl⟩ := Option.map_eq_some_iff.1 hq
    rw [Nat.zero_add]; exact hcell k y hy
  ·obtain ⟨i, hi⟩ := List.mem_iff_getElem?.1 hy
   exact (h2 i y hi).choose_spec.2.2.2
  ·simp only [Rows.uptoBulk]
   omega
theorem FzL.app {w : World} {O : Nat -> Prop} : ∀ {cs ds : List C} {vs us : List Value}, FzL w O cs vs -> FzL w O ds us -> FzL w O (cs ++ ds) (vs ++ us)
 | [], ds, vs, us, h, k => by simp only [FzL] at h; subst h; simpa using k
 | c :: cs, ds, vs, us, h, k => by
  simp only [FzL] at h
  obtain ⟨y, ys, rfl, h1, h2⟩ := h
  exact ⟨y, ys ++ us, rfl, h1, FzL.app h2 k⟩
theorem c0x {f : Func} {s : ChangeSpec} {apart fresh handsOn again : Bool} {W' : World} {args : Array Value} {ds gs : List (DataW H)} {before : List MemPlace} {tb : TypeId} (hl : laidOutB P = true) (hpar : ∀ t ∈ f.params.toList, P.readableRec t = true /\ t < P.types.size)
  (hrt : f.resultTypes = #[tb]) (htb : P.underlying tb = some .bool) (hv : s.vars = []) (hfn : s.fn H (ds ++ gs) = { results := [.lit (.bool true)], args := ds }) (hW : DataW.Whole enc P f.params.toList s.vars apart W args.toList ds gs before) (hb : Below W.heap.size W W') :
  s.post enc P f apart fresh handsOn again W args (.bool true) W' := by
 have hlt : ∀ p ∈ before, p.block < W.heap.size := fun p hp => hW.lt p hp
 obtain ⟨p, q, hA, hV, hps, hz, hn⟩ := id hW
 rw [hv] at hV
 obtain ⟨rfl, rfl⟩ := trodVars_none hV
 rw [List.append_nil] at hps
 subst hps
 have all : ∀ (sp : Nat -> Bool) (ts : List TypeId) (vs : List Value) (es : List (DataW H)) (pl : List MemPlace), (∀ t ∈ ts, P.readableRec t = true /\ t < P.types.size) -> (∀ x ∈ pl, x.block < W.heap.size /\ sp x.block = true) -> DataW.TrodAll enc P W 0 (fun _ => true) true ts vs es pl -> DataW.TrodAll enc P W' 0 sp true ts vs es pl := by
  intro sp ts
  induction ts with
  | nil =>
   intro vs es pl _ _ h
   cases vs <;> cases es <;> simp only [DataW.TrodAll] at h ⊢ <;> exact h
  | cons t ts ih =>
   intro vs es pl hts hpl h
   cases vs <;> cases es <;> simp only [DataW.TrodAll] at h ⊢
   obtain ⟨p1, p2, h1, h2, rfl⟩ := h
   refine ⟨p1, p2, ?_, ih _ _ _ (fun t ht => hts t (List.mem_cons_of_mem _ ht)) (fun x hx => hpl x (List.mem_append_right _ hx)) h2, rfl⟩
   exact WideElems.Trod_stays hl (hts t (List.mem_cons_self ..)).1 (hts t (List.mem_cons_self ..)).2 h1 (fun x hx => hb.same (hpl x (List.mem_append_left _ hx)).1) fun x hx => (hpl x (List.mem_append_left _ hx)).2
 have hres : ∀ (b : Nat) (sp : Nat -> Bool) (hd : Bool), DataW.TrodAll enc P W' b sp hd f.resultTypes.toList ((Value.bool true).resultList f.resultTypes.size) (s.fn H (ds ++ [])).results [] := by
  intro b sp hd
  rw [hrt, hfn]
  exact trodAll_cons_mk (shut_bool htb true) trodAll_mk0
 have hargs : ∀ sp : Nat -> Bool, (∀ p' ∈ before, sp p'.block = true) -> DataW.TrodAll enc P W' 0 sp true f.params.toList args.toList (s.fn H (ds ++ [])).args before := fun sp hsp => by
  rw [hfn]
  exact all sp _ _ _ _ hpar (fun x hx => ⟨hlt x hx, hsp x hx⟩) hA
 have hvars : ∀ sp : Nat -> Bool, DataW.TrodVars enc P W' sp s.vars (s.fn H (ds ++ [])).vars [] := fun sp => by rw [hv, hfn]; rfl
 have hold : ∀ p' ∈ before, (fun b => decide (b < W.heap.size)) p'.block = true := fun p' hp => by simpa using hlt p' hp
 refine ⟨ds, [], before, [], before, [], hW, hres _ _ _, hargs _ hold, hvars _, World.keptBut_mono (fun p' hp => ⟨hp, ?_⟩) (hb.frame (· ∈ before)), fun _ => ⟨ok_one hrt rfl (okWide_bool_mk htb _), _, _, ([] ++ before) ++ [], ⟨[] ++ before, [], trodAll_append (hargs _ (fun _ _ => rfl)) (hres _ _ _), hvars _, rfl, ?_, ?_⟩, ?_⟩⟩
 ·exact Or.inr (by simpa using hp)
 ·intro b off hp
  have hin : MemPlace.cell b off ∈ before := by simpa using hp
  rw [hb.frozen (hlt _ hin)]
  exact hz b off hin
 ·intro ha
  have := hn ha
  simpa using this
 ·intro p' hp _
  simpa using hp
end
end Go.Proofs.YtogfpjohjphngaaGreatDoor
namespace Go.Proofs.YtogfpjohjphngaaGreatDoor
set_option linter.all false
open Go Go.RowKit Go.ChangeShapes Go.WideShapes Go.ChangeAt Eng
set_option maxRecDepth 10000
theorem c0G : ownKnob Tryz.prog.godebug = none := by kernel_rfl
theorem c0L : laidOutB Tryz.prog = true := by kernel_rfl
theorem gDb : Tryz.prog.globalNamed "math/bits.deBruijn64tab" = some 3 := by kernel_rfl
theorem c1U : (Tryz.prog.globals[3]?).map (·.type) = some 305 := by kernel_rfl
theorem c0P : Tryz.prog.cellsOf 305 = 64 := by kernel_rfl
theorem c1G : Tryz.prog.cellsOf 5 = 1 := by kernel_rfl
theorem b9W : Tryz.prog.underlying 305 = some (.array 64 5) := by kernel_rfl
theorem c2R : Tryz.prog.underlying 5 = some (.int .u8) := by kernel_rfl
theorem c1s : (Rows.laid_math_bits_deBruijn64tab : DataW Unit) = Lib.tabData .u8 (Lib.deBruijn64tab.map fun n : Nat => (n : Int)) := by rfl
theorem c3i {W : World} {rest : List (String × DataW Unit)} (h : laidMet Tryz.prog (("math/bits.deBruijn64tab", Rows.laid_math_bits_deBruijn64tab) :: rest) W) : Wz W := by
 rw [c1s] at h
 have ht := Lib.tabIs_of_head gDb c1U b9W c2R c1G c0P h
 intro j hj
 have := ht.cell gDb j (by rw [List.length_map]; exact hj)
 rw [this]
 congr 2
 rw [List.getD_eq_getElem?_getD, List.getD_eq_getElem?_getD, List.getElem?_map, List.getElem?_eq_getElem hj]
 rfl
section
variable {H : Type} {enc : TypeId × Value -> H} {W : World}
theorem b4y {α : Type} : ∀ l : List α, l.length = (l.map fun _ => 1).sum
 | [] => rfl
 | x :: l => by simp only [List.length_cons, List.map_cons, List.sum_cons, <- b4y l]; omega
theorem b9y : Tryz.prog.cellsOf 3 = 1 := by kernel_rfl
theorem c2G : Opens enc Tryz.prog W 22 (fun l : List Int => [.sl 1 (l.map fun n => [.v (.int .i64 n)])]) (fun l => ∀ x ∈ l, I64 x) fun l => 1 + l.length :=
 (b6i Tryz.underlying22 b9y (by decide) (fun _ => rfl) (b9t Tryz.underlying3)).imp fun f hf => ⟨f, rfl, hf, by rw [<- b4y]; exact Nat.le_refl _⟩
end
noncomputable def laidWorld (os : Os) : World := World.doorLaid Tryz.prog 400 os
end Go.Proofs.YtogfpjohjphngaaGreatDoor
