/- A part of the proof: lemmas only, with the conditions that each names. -/
import Derived.Test.YtgmlehjgpgdjhaaGreatDoorProg
import Derived.KernelRfl
import Derived.Shelf.Strings.SlTrimAscii
import Derived.Test.YtgmlehjgpgdjhaaGreatDoorHk4
set_option linter.all false
namespace Go.Proofs.YtgmlehjgpgdjhaaGreatDoor
open Go Go.RowKit Eng
set_option maxRecDepth 10000
set_option maxHeartbeats 8000000
theorem b8d {α : Type} (p : α -> Bool) (a b c d e : α) : [a, b, c, d, e].all p = (p a && p b && p c && p d && p e) := by simp [Bool.and_assoc]
theorem b0P {α : Type} (p : α -> Bool) (a b c : α) : [a, b, c].all p = (p a && p b && p c) := by simp [Bool.and_assoc]
theorem a9s {α : Type} (p : α -> Bool) (a b : α) : [a, b].all p = (p a && p b) := by simp
theorem Rbs.five {k : Nat} {a b c d e : Nm.Rt} (h : 5 <= k) (h1 : Rb k a) (h2 : Rb k b) (h3 : Rb k c) (h4 : Rb k d) (h5 : Rb k e) : Rbs k [a, b, c, d, e] := ⟨h, fun x hx => by simp at hx; rcases hx with rfl | rfl | rfl | rfl | rfl <;> assumption⟩
theorem Rbs.three {k : Nat} {a b c : Nm.Rt} (h : 3 <= k) (h1 : Rb k a) (h2 : Rb k b) (h3 : Rb k c) : Rbs k [a, b, c] := ⟨h, fun x hx => by simp at hx; rcases hx with rfl | rfl | rfl <;> assumption⟩
theorem Rbs.two {k : Nat} {a b : Nm.Rt} (h : 2 <= k) (h1 : Rb k a) (h2 : Rb k b) : Rbs k [a, b] := ⟨h, fun x hx => by simp at hx; rcases hx with rfl | rfl <;> assumption⟩
theorem b9e (l : Lk) (hl : Lb 1073741824 l) : FZ 89 [l.c] (ints (M8 l)) := by
  refine kW Tryz.func89 (by cbv) (by rfl) fun w O hw => ?_
  obtain ⟨length, low, high, speed, brake, shape⟩ := l
  obtain ⟨b1, b2, b3, b4, b5, b6⟩ := hl
  simp only at b1 b2 b3 b4 b5 b6
  have c1 := b1.mono (m := 17179869184) (by decide)
  have c2 := b2.mono (m := 17179869184) (by decide)
  have c3 := b3.mono (m := 17179869184) (by decide)
  have c4 := b4.mono (m := 17179869184) (by decide)
  have c5 := b5.mono (m := 17179869184) (by decide)
  have hsm := a7Z _ (Rbs.five (by decide) c1 c2 c3 c4 c5)
  rw [b8d] at hsm
  have hs1 := Z7 length c1
  have hcm := U1 low high c2 c3
  have hs2 := Z7 speed c4
  have hs3 := Z7 brake c5
  have hp := a7t shape b6
  have hv := fun (v : Vt) (h : v ∈ shape) => a7Z _ (Rbs.two (by decide) ((b6.2 v h).1.mono (m := 17179869184) (by decide)) ((b6.2 v h).2.mono (m := 17179869184) (by decide)))
  have hn := b6.1
  unfold M8
  simp only
  generalize (j4 length && j4 low && j4 high && j4 speed && j4 brake) = q at *
  generalize F3 (Nm.d9 length) = n1 at *
  generalize Nm.u7 (Nm.d9 low) (Nm.d9 high) = n2 at *
  generalize F3 (Nm.d9 speed) = n3 at *
  generalize F3 (Nm.d9 brake) = n4 at *
  generalize S9 shape 8 = n5 at *
  simp only [l6]
  simp only [Lk.c, Lk.enc, rc, rts, rcs, vts, sb, ints, c2b, c2w] at *
  (repeat first | refine uG hs1 ?_ | refine uG hcm ?_ | refine uG hsm ?_ | refine uA ?_ | (refine uK ?_ ?_; focus first | omega | (intros; simp_all <;> omega)) | simp (disch := omega) only [go_sem, Nat.reduceBEq, Nat.reduceAdd, ww] | (refine uD hs1 ?_ ?_ ?_; exact tz hw; exact rfl) | (refine uD hcm ?_ ?_ ?_; exact tz hw; exact rfl) | (refine uE hsm ?_ ?_ ?_ ?_; exact tz hw; exact rfl; focus (repeat' first | exact l7.nil | exact Imp.refl rfl | exact Imp.frz rfl rfl rfl | (refine Imp.a0j rfl rfl ?_ ?_; (focus ((try simp only [c1Y]); omega)); (focus first | rfl | assumption)) | refine l7.cons ?_ ?_); done))
  refine S.cond rfl (fun hc => ?_) (fun hc => ?_)
  · rw [if_pos (by simp only [c2v, Bool.not_eq_true', c1P] at hc; rcases hc with (hc | hc) | hc <;> simp [hc])]
    (repeat first | refine uA ?_ | (refine uK ?_ ?_; focus first | omega | (intros; simp_all <;> omega)) | simp (disch := omega) only [go_sem, Nat.reduceBEq, Nat.reduceAdd, ww])
    exact S.done (j3.out rfl (Imp.refl rfl) rfl)
  rw [if_neg (by simp only [c2d, Bool.not_eq_false', c1S] at hc; simp [hc])]
  (repeat first | refine uG hs2 ?_ | refine uG hs3 ?_ | refine uA ?_ | (refine uK ?_ ?_; focus first | omega | (intros; simp_all <;> omega)) | simp (disch := omega) only [go_sem, Nat.reduceBEq, Nat.reduceAdd, ww] | (refine uD hs2 ?_ ?_ ?_; exact tz hw; exact rfl) | (refine uD hs3 ?_ ?_ ?_; exact tz hw; exact rfl))
  refine S.cond rfl (fun hc => ?_) (fun hc => ?_)
  · rw [if_pos (by simp only [c2v, c1P] at hc; exact hc)]
    (repeat first | refine uA ?_ | (refine uK ?_ ?_; focus first | omega | (intros; simp_all <;> omega)) | simp (disch := omega) only [go_sem, Nat.reduceBEq, Nat.reduceAdd, ww])
    exact S.done (j3.out rfl (Imp.refl rfl) rfl)
  rw [if_neg (by simp only [c2d, c1S] at hc; simp [hc])]
  (repeat first | refine uG hp ?_ | refine uA ?_ | (refine uK ?_ ?_; focus first | omega | (intros; simp_all <;> omega)) | simp (disch := omega) only [go_sem, Nat.reduceBEq, Nat.reduceAdd, ww] | (refine uD hp ?_ ?_ ?_; exact tz hw; exact rfl))
  refine S.cond rfl (fun hc => ?_) (fun hc => ?_)
  · rw [if_pos (by simpa using hc)]
    (repeat first | refine uA ?_ | (refine uK ?_ ?_; focus first | omega | (intros; simp_all <;> omega)) | simp (disch := omega) only [go_sem, Nat.reduceBEq, Nat.reduceAdd, ww])
    exact S.done (j3.out rfl (Imp.refl rfl) rfl)
  rw [if_neg (by simpa using hc)]
  (repeat first | refine uA ?_ | (refine uK ?_ ?_; focus first | omega | (intros; simp_all <;> omega)) | simp (disch := omega) only [go_sem, Nat.reduceBEq, Nat.reduceAdd, ww, c1J])
  refine S.loop (X := Nat) (fun i => ⟨[(50, vts shape), (51, ints shape.length), (52, ints i)], []⟩) (fun i => i <= shape.length /\ (shape.all fun v => j4 v.x && j4 v.y) = (shape.drop i).all fun v => j4 v.x && j4 v.y) (fun i => shape.length - i) 0 ⟨c1Q _, rfl⟩ (by (repeat first | refine uA ?_ | (refine ⟨?_, ?_⟩; focus first | rfl | simp [slot]) | rfl | simp)) ?_
  rintro i ⟨hi, hg⟩
  simp only [vts, ints]
  (repeat first | refine uA ?_ | (refine uK ?_ ?_; focus first | omega | (intros; simp_all <;> omega)) | simp (disch := omega) only [go_sem, Nat.reduceBEq, Nat.reduceAdd, ww])
  (refine uJ rfl (fun hc => ?_) fun hc => ?_)
  · have hi' : i < shape.length := by omega
    have hgi := c1I hi'
    generalize shape[i] = x at hgi
    have hd := drop_at hgi
    have hs := hv x (c1L hgi)
    rw [a9s] at hs
    (repeat first | refine uG hs ?_ | refine uA ?_ | (refine uK ?_ ?_; focus first | omega | (intros; simp_all <;> omega)) | simp (disch := omega) only [go_sem, Nat.reduceBEq, Nat.reduceAdd, ww, hgi, c1K, c1J, Vt.enc, sb] | (refine uE hs ?_ ?_ ?_ ?_; exact tz hw; exact rfl; focus (repeat' first | exact l7.nil | exact Imp.refl rfl | exact Imp.frz rfl rfl rfl | (refine Imp.a0j rfl rfl ?_ ?_; (focus ((try simp only [c1Y, hgi, c1K, c1J, Vt.enc, sb]); omega)); (focus first | rfl | assumption)) | refine l7.cons ?_ ?_); done))
    refine S.cond rfl (fun hc2 => ?_) (fun hc2 => ?_)
    · have : (shape.all fun v => j4 v.x && j4 v.y) = false := by
        rw [hg, hd, List.all_cons]
        simp only [Bool.not_eq_true'] at hc2
        rw [hc2]; rfl
      rw [this]
      (repeat first | refine uA ?_ | (refine uK ?_ ?_; focus first | omega | (intros; simp_all <;> omega)) | simp (disch := omega) only [go_sem, Nat.reduceBEq, Nat.reduceAdd, ww])
      exact S.done (j3.out rfl (Imp.refl rfl) rfl)
    · (repeat first | refine uA ?_ | (refine uK ?_ ?_; focus first | omega | (intros; simp_all <;> omega)) | simp (disch := omega) only [go_sem, Nat.reduceBEq, Nat.reduceAdd, ww])
      refine S.next (i + 1) ⟨by omega, ?_⟩ (by omega) (by (repeat first | refine uA ?_ | (refine ⟨?_, ?_⟩; focus first | rfl | simp [slot]) | rfl | simp))
      rw [hg, hd, List.all_cons]
      simp only [Bool.not_eq_false'] at hc2
      rw [hc2]; rfl
  · have : (shape.all fun v => j4 v.x && j4 v.y) = true := by rw [hg, List.drop_eq_nil_of_le (by omega)]; rfl
    rw [this]
    (repeat first | refine uA ?_ | (refine uK ?_ ?_; focus first | omega | (intros; simp_all <;> omega)) | simp (disch := omega) only [go_sem, Nat.reduceBEq, Nat.reduceAdd, ww])
    exact S.done (j3.out rfl (Imp.refl rfl) rfl)
theorem b1U (a : Am) (hl : Ab 1073741824 a) : FZ 29 [a.c] (ints (J4 a)) := by
 refine kW b2C b1W (by rfl) fun w O hw => ?_
 obtain ⟨name, ⟨x, y, half, t⟩, links⟩ := a
 obtain ⟨b0, ⟨b1, b2, b3⟩, hn, hb⟩ := hl
 simp only at b0 b1 b2 b3 hn hb
 have c1 := b1.mono (m := 17179869184) (by decide)
 have c2 := b2.mono (m := 17179869184) (by decide)
 have c3 := b3.mono (m := 17179869184) (by decide)
 have hnm := b7J name (by omega)
 have hsm := a7Z _ (Rbs.three (by decide) c1 c2 c3)
 rw [b0P] at hsm
 have hs := Z7 t c3
 unfold J4 a3w
 simp only
 generalize a1C name = q0 at *
 generalize (j4 x && j4 y && j4 t) = q at *
 generalize F3 (Nm.d9 t) = n1 at *
 simp only [a6s, l6, TT, II, OA, OB, OC, MM, LL, VV, FF, MG, LG, VG, FG]
 simp only [Am.c, Am.enc, rc, rts, rcs, lks, sb, ints, c2b, c2w] at *
 (repeat first | refine uF hnm ?_ | refine uA ?_ | (refine uK ?_ ?_; focus first | omega | (intros; simp_all <;> omega)) | simp (disch := omega) only [go_sem, Nat.reduceBEq, Nat.reduceAdd, ww] | (refine uB hnm ?_ ?_; exact rfl))
 refine S.cond rfl (fun hc => ?_) (fun hc => ?_)
 ·rw [if_pos (by simpa using hc)]
  (repeat first | refine uA ?_ | (refine uK ?_ ?_; focus first | omega | (intros; simp_all <;> omega)) | simp (disch := omega) only [go_sem, Nat.reduceBEq, Nat.reduceAdd, ww])
  exact S.done (j3.out rfl (Imp.refl rfl) rfl)
 rw [if_neg (by simpa using hc)]
 (repeat first | refine uA ?_ | (refine uK ?_ ?_; focus first | omega | (intros; simp_all <;> omega)) | simp (disch := omega) only [go_sem, Nat.reduceBEq, Nat.reduceAdd, ww, c1J])
 refine S.cond rfl (fun hc => ?_) (fun hc => ?_)
 ·rw [if_pos (by simp only [c1P] at hc; omega)]
  (repeat first | refine uA ?_ | (refine uK ?_ ?_; focus first | omega | (intros; simp_all <;> omega)) | simp (disch := omega) only [go_sem, Nat.reduceBEq, Nat.reduceAdd, ww])
  exact S.done (j3.out rfl (Imp.refl rfl) rfl)
 rw [if_neg (by simp only [c1S] at hc; omega)]
 by_cases h0 : links.length = 0
 ·rw [if_pos (.inl h0)]
  have e0 : decide ((links.length : Int) = 0) = true := decide_eq_true (by omega)
  (repeat first | refine uG hs ?_ | refine uG hsm ?_ | refine uA ?_ | (refine uK ?_ ?_; focus first | omega | (intros; simp_all <;> omega)) | simp (disch := omega) only [go_sem, Nat.reduceBEq, Nat.reduceAdd, ww, c1J, e0] | (refine uD hs ?_ ?_ ?_; exact tz hw; exact rfl) | (refine uE hsm ?_ ?_ ?_ ?_; exact tz hw; exact rfl; focus (repeat' first | exact l7.nil | exact Imp.refl rfl | exact Imp.frz rfl rfl rfl | (refine Imp.a0j rfl rfl ?_ ?_; (focus ((try simp only [c1Y, c1J, e0]); omega)); (focus first | rfl | assumption)) | refine l7.cons ?_ ?_); done))
  refine S.cond rfl (fun _ => ?_) (fun hc => by simp at hc)
  (repeat first | refine uA ?_ | (refine uK ?_ ?_; focus first | omega | (intros; simp_all <;> omega)) | simp (disch := omega) only [go_sem, Nat.reduceBEq, Nat.reduceAdd, ww])
  exact S.done (j3.out rfl (Imp.refl rfl) rfl)
 have e0 : decide ((links.length : Int) = 0) = false := decide_eq_false (by omega)
 (repeat first | refine uG hs ?_ | refine uG hsm ?_ | refine uA ?_ | (refine uK ?_ ?_; focus first | omega | (intros; simp_all <;> omega)) | simp (disch := omega) only [go_sem, Nat.reduceBEq, Nat.reduceAdd, ww, c1J, e0] | (refine uD hs ?_ ?_ ?_; exact tz hw; exact rfl) | (refine uE hsm ?_ ?_ ?_ ?_; exact tz hw; exact rfl; focus (repeat' first | exact l7.nil | exact Imp.refl rfl | exact Imp.frz rfl rfl rfl | (refine Imp.a0j rfl rfl ?_ ?_; (focus ((try simp only [c1Y, c1J, e0]); omega)); (focus first | rfl | assumption)) | refine l7.cons ?_ ?_); done))
 refine S.cond rfl (fun hc => ?_) (fun hc => ?_)
 ·rw [if_pos (by simp only [c2v, Bool.not_eq_true', c1P] at hc; rcases hc with hc | hc; (· exact .inr (.inl hc)); (· exact .inr (.inr (by cases half <;> simp_all))))]
  (repeat first | refine uA ?_ | (refine uK ?_ ?_; focus first | omega | (intros; simp_all <;> omega)) | simp (disch := omega) only [go_sem, Nat.reduceBEq, Nat.reduceAdd, ww])
  exact S.done (j3.out rfl (Imp.refl rfl) rfl)
 rw [if_neg (by simp only [c2d, Bool.not_eq_false', c1S] at hc; rintro (h | h | h); (· omega); (· simp_all); (· cases half <;> simp_all))]
 (repeat first | refine uA ?_ | (refine uK ?_ ?_; focus first | omega | (intros; simp_all <;> omega)) | simp (disch := omega) only [go_sem, Nat.reduceBEq, Nat.reduceAdd, ww, c1J])
 refine S.loop (X := Nat) (fun i => ⟨[(48, lks links), (49, ints links.length), (50, ints i)], []⟩) (fun i => i <= links.length /\ H7 M8 links = H7 M8 (links.drop i)) (fun i => links.length - i) 0 ⟨c1Q _, rfl⟩ (by (repeat first | refine uA ?_ | (refine ⟨?_, ?_⟩; focus first | rfl | simp [slot]) | rfl | simp)) ?_
 rintro i ⟨hi, hg⟩
 simp only [lks, ints]
 (repeat first | refine uA ?_ | (refine uK ?_ ?_; focus first | omega | (intros; simp_all <;> omega)) | simp (disch := omega) only [go_sem, Nat.reduceBEq, Nat.reduceAdd, ww])
 (refine uJ rfl (fun hc => ?_) fun hc => ?_)
 ·have hi' : i < links.length := by omega
  have hgi := c1I hi'
  generalize links[i] = x at hgi
  have hst := a1I (f := M8) hgi
  have hnx := a1G (f := M8) hgi
  have hs := b9e x (hb x (c1L hgi))
  generalize M8 x = e at *
  simp only [Lk.c, Lk.enc, vts, sb, ints] at hs
  (repeat first | refine uG hs ?_ | refine uA ?_ | (refine uK ?_ ?_; focus first | omega | (intros; simp_all <;> omega)) | simp (disch := omega) only [go_sem, Nat.reduceBEq, Nat.reduceAdd, ww, hgi, c1K, c1J, Lk.enc, vts, sb] | (refine uD hs ?_ ?_ ?_; exact tz hw; exact rfl))
  refine S.cond rfl (fun hc2 => ?_) (fun hc2 => ?_)
  ·rw [hg, hst (by simpa using hc2)]
   (repeat first | refine uA ?_ | (refine uK ?_ ?_; focus first | omega | (intros; simp_all <;> omega)) | simp (disch := omega) only [go_sem, Nat.reduceBEq, Nat.reduceAdd, ww])
   exact S.done (j3.out rfl (Imp.refl rfl) rfl)
  ·(repeat first | refine uA ?_ | (refine uK ?_ ?_; focus first | omega | (intros; simp_all <;> omega)) | simp (disch := omega) only [go_sem, Nat.reduceBEq, Nat.reduceAdd, ww])
   refine S.next (i + 1) ⟨by omega, ?_⟩ (by omega) (by (repeat first | refine uA ?_ | (refine ⟨?_, ?_⟩; focus first | rfl | simp [slot]) | rfl | simp))
   rw [hg, hnx (by simpa using hc2)]
 ·rw [hg, a2m (by omega)]
  (repeat first | refine uA ?_ | (refine uK ?_ ?_; focus first | omega | (intros; simp_all <;> omega)) | simp (disch := omega) only [go_sem, Nat.reduceBEq, Nat.reduceAdd, ww])
  exact S.done (j3.out rfl (Imp.refl rfl) rfl)
def a3l (a : Am) (n : Int) : Int := if J4 a ≠ 0 then J4 a else if n ≠ a.links.length then 1 else 0
theorem b7f (a : Am) (n : Int) (hl : Ab 1073741824 a) : FZ 101 [a.c, ints n] (ints (a3l a n)) := by
 refine kW Tryz.func101 (by cbv) (by rfl) fun w O hw => ?_
 have h := b1U a hl
 unfold a3l
 generalize J4 a = e at *
 obtain ⟨name, ⟨x, y, half, t⟩, links⟩ := a
 simp only [l6]
 simp only [Am.c, Am.enc, lks, sb, ints] at *
 (repeat first | refine uA ?_ | (refine uK ?_ ?_; focus first | omega | (intros; simp_all <;> omega)) | simp (disch := omega) only [go_sem, Nat.reduceBEq, Nat.reduceAdd, ww] | (refine uD h ?_ ?_ ?_; exact tz hw; exact rfl))
 refine S.cond rfl (fun hc => ?_) (fun hc => ?_)
 ·rw [if_pos (by simpa using hc)]
  (repeat first | refine uA ?_ | (refine uK ?_ ?_; focus first | omega | (intros; simp_all <;> omega)) | simp (disch := omega) only [go_sem, Nat.reduceBEq, Nat.reduceAdd, ww])
  exact S.done (j3.out rfl (Imp.refl rfl) rfl)
 rw [if_neg (by simpa using hc)]
 (repeat first | refine uA ?_ | (refine uK ?_ ?_; focus first | omega | (intros; simp_all <;> omega)) | simp (disch := omega) only [go_sem, Nat.reduceBEq, Nat.reduceAdd, ww, c1J])
 refine S.cond rfl (fun hc => ?_) (fun hc => ?_)
 ·rw [if_pos (by simpa using hc)]
  (repeat first | refine uA ?_ | (refine uK ?_ ?_; focus first | omega | (intros; simp_all <;> omega)) | simp (disch := omega) only [go_sem, Nat.reduceBEq, Nat.reduceAdd, ww])
  exact S.done (j3.out rfl (Imp.refl rfl) rfl)
 ·rw [if_neg (by simpa using hc)]
  (repeat first | refine uA ?_ | (refine uK ?_ ?_; focus first | omega | (intros; simp_all <;> omega)) | simp (disch := omega) only [go_sem, Nat.reduceBEq, Nat.reduceAdd, ww])
  exact S.done (j3.out rfl (Imp.refl rfl) rfl)
def a4C (x : Lk × Nm.Rt) : Int := if Nm.u7 (Nm.d9 x.2) (Nm.d9 x.1.low) < 0 \/ 0 < Nm.u7 (Nm.d9 x.2) (Nm.d9 x.1.high) then 17 else 0
theorem b2a (a : Am) (q : List Nm.Rt) : a1t a q = if a3l a q.length ≠ 0 then a3l a q.length else H7 a4C (a.links.zip q) := by
 unfold a1t a3l
 by_cases h : J4 a = 0
 ·rw [if_neg (by simp [h])]
  by_cases h2 : q.length = a.links.length
  ·simp [h, h2]; rfl
  ·have h3 : ¬ (q.length : Int) = a.links.length := by omega
   simp [h, h2, h3]
 ·simp [h]
theorem J8 {α β : Type} {l : List α} {m : List β} {i : Nat} {x : α} {y : β} (h : l[i]? = some x) (k : m[i]? = some y) : (l.zip m)[i]? = some (x, y) := by
 rw [List.getElem?_zip_eq_some]; exact ⟨h, k⟩
theorem c0v (a : Am) (q : List Nm.Rt) (hl : Ab 1073741824 a) (hq : Rbs 1073741824 q) : FZ 96 [a.c, rts q] (ints (a1t a q)) := by
 refine kW Tryz.func96 (by cbv) (by rfl) fun w O hw => ?_
 have h := b7f a q.length hl
 rw [b2a]
 have hlen : a3l a q.length = 0 -> q.length = a.links.length := by
  unfold a3l
  intro h
  split at h
  ·rename_i h1; exact absurd h h1
  ·split at h
   ·cases h
   ·rename_i h1; have := Classical.not_not.1 h1; omega
 generalize a3l a q.length = e at *
 obtain ⟨hqn, hqb⟩ := hq
 obtain ⟨name, ⟨x, y, half, t⟩, links⟩ := a
 obtain ⟨b0, ⟨b1, b2, b3⟩, hn, hb⟩ := hl
 simp only at b0 b1 b2 b3 hn hb hlen
 simp only [l6]
 simp only [Am.c, Am.enc, lks, sb, ints, rts] at *
 (repeat first | refine uA ?_ | (refine uK ?_ ?_; focus first | omega | (intros; simp_all <;> omega)) | simp (disch := omega) only [go_sem, Nat.reduceBEq, Nat.reduceAdd, ww, c1J] | (refine uD h ?_ ?_ ?_; exact tz hw; exact rfl))
 refine S.cond rfl (fun hc => ?_) (fun hc => ?_)
 ·rw [if_pos (by simpa using hc)]
  (repeat first | refine uA ?_ | (refine uK ?_ ?_; focus first | omega | (intros; simp_all <;> omega)) | simp (disch := omega) only [go_sem, Nat.reduceBEq, Nat.reduceAdd, ww])
  exact S.done (j3.out rfl (Imp.refl rfl) rfl)
 rw [if_neg (by simpa using hc)]
 have hlen := hlen (by simpa using hc)
 (repeat first | refine uA ?_ | (refine uK ?_ ?_; focus first | omega | (intros; simp_all <;> omega)) | simp (disch := omega) only [go_sem, Nat.reduceBEq, Nat.reduceAdd, ww, c1J])
 refine S.loop (X := Nat) (fun i => ⟨[(1, rts q), (16, lks links), (17, ints links.length), (18, ints i)], []⟩) (fun i => i <= links.length /\ H7 a4C (links.zip q) = H7 a4C ((links.zip q).drop i)) (fun i => links.length - i) 0 ⟨c1Q _, rfl⟩ (by (repeat first | refine uA ?_ | (refine ⟨?_, ?_⟩; focus first | rfl | simp [slot]) | rfl | simp)) ?_
 rintro i ⟨hi, hg⟩
 simp only [rts, lks, ints]
 (repeat first | refine uA ?_ | (refine uK ?_ ?_; focus first | omega | (intros; simp_all <;> omega)) | simp (disch := omega) only [go_sem, Nat.reduceBEq, Nat.reduceAdd, ww])
 (refine uJ rfl (fun hc => ?_) fun hc => ?_)
 ·have hi' : i < links.length := by omega
  have hgi := c1I hi'
  have hgq := c1I (show i < q.length by omega)
  generalize links[i] = x at hgi
  generalize q[i]'_ = v at hgq
  have hz := J8 hgi hgq
  have hst := a1I (f := a4C) hz
  have hnx := a1G (f := a4C) hz
  have bx := hb x (c1L hgi)
  have bv := (hqb v (c1L hgq)).mono (m := 17179869184) (by decide)
  have h1 := U1 v x.low bv (bx.2.1.mono (by decide))
  have h2 := U1 v x.high bv (bx.2.2.1.mono (by decide))
  unfold a4C at hst hnx
  simp only at hst hnx
  generalize Nm.u7 (Nm.d9 v) (Nm.d9 x.low) = n1 at *
  generalize Nm.u7 (Nm.d9 v) (Nm.d9 x.high) = n2 at *
  have hqi : (i : Int) < q.length := by omega
  simp only [rc, sb, ints] at h1 h2
  (repeat first | refine uA ?_ | (refine uK ?_ ?_; focus first | omega | (intros; simp_all <;> omega)) | simp (disch := omega) only [go_sem, Nat.reduceBEq, Nat.reduceAdd, ww, hgi, hgq, c1K, c1J, Lk.enc, rcs, vts, sb, c1R] | (refine uD h1 ?_ ?_ ?_; exact tz hw; exact rfl) | (refine uD h2 ?_ ?_ ?_; exact tz hw; exact rfl))
  refine S.cond rfl (fun hc2 => ?_) (fun hc2 => ?_)
  ·have hp : n1 < 0 \/ 0 < n2 := by simpa using hc2
   rw [if_pos hp] at hst
   rw [hg, show a4C = fun x : Lk × Nm.Rt => if Nm.u7 (Nm.d9 x.2) (Nm.d9 x.1.low) < 0 \/ 0 < Nm.u7 (Nm.d9 x.2) (Nm.d9 x.1.high) then 17 else 0 from rfl, hst (by decide)]
   (repeat first | refine uA ?_ | (refine uK ?_ ?_; focus first | omega | (intros; simp_all <;> omega)) | simp (disch := omega) only [go_sem, Nat.reduceBEq, Nat.reduceAdd, ww])
   exact S.done (j3.out rfl (Imp.refl rfl) rfl)
  ·have hp : ¬ (n1 < 0 \/ 0 < n2) := by simpa using hc2
   rw [if_neg hp] at hnx
   (repeat first | refine uA ?_ | (refine uK ?_ ?_; focus first | omega | (intros; simp_all <;> omega)) | simp (disch := omega) only [go_sem, Nat.reduceBEq, Nat.reduceAdd, ww])
   refine S.next (i + 1) ⟨by omega, ?_⟩ (by omega) (by (repeat first | refine uA ?_ | (refine ⟨?_, ?_⟩; focus first | rfl | simp [slot]) | rfl | simp))
   rw [hg, show a4C = fun x : Lk × Nm.Rt => if Nm.u7 (Nm.d9 x.2) (Nm.d9 x.1.low) < 0 \/ 0 < Nm.u7 (Nm.d9 x.2) (Nm.d9 x.1.high) then 17 else 0 from rfl, hnx rfl]
 ·rw [hg, a2m (by rw [List.length_zip]; omega)]
  (repeat first | refine uA ?_ | (refine uK ?_ ?_; focus first | omega | (intros; simp_all <;> omega)) | simp (disch := omega) only [go_sem, Nat.reduceBEq, Nat.reduceAdd, ww])
  exact S.done (j3.out rfl (Imp.refl rfl) rfl)
set_option maxRecDepth 100000
set_option maxHeartbeats 4000000
theorem W9 {a : Nm.Rt} (h : j4 a = true) : Rb 3 a := by
 unfold j4 at h
 simp only [c1N, c1P] at h
 exact ⟨h.1.1.1.1, by have := h.1.1.1.2; omega⟩
theorem I6 {a : Nm.Rt} (h : j4 a = true) : Rb 1048576 a := (W9 h).mono (by decide)
theorem a4m {α : Type} {f : α -> Int} : ∀ {l : List α}, H7 f l = 0 -> ∀ x ∈ l, f x = 0
 | [], _, x, hx => by cases hx
 | y :: l, h, x, hx => by
  rw [H7] at h
  split at h
  ·rename_i h0
   rcases List.mem_cons.1 hx with rfl | hx
   ·exact h0
   ·exact a4m h x hx
  ·rename_i h0; exact absurd h h0
theorem b0f {l : List Vt} (h : S9 l 8 = 0) : l.length <= 8 := by
 unfold S9 at h
 split at h
 ·cases h
 ·omega
theorem b0g {l : List Vt} (h : K3 l = 0) : Vbs 1048576 l := by
 have hl := b0f (a4J h)
 unfold K3 at h
 rw [a4J h, if_neg (by decide)] at h
 split at h
 ·rename_i ha
  rw [List.all_eq_true] at ha
  refine ⟨by omega, fun v hv => ?_⟩
  have := ha v hv
  unfold okV at this
  simp only [c1N] at this
  exact ⟨I6 this.1.2, I6 this.2⟩
 ·cases h
theorem a3u {l : Lk} (h : M8 l = 0) : Lb 1048576 l /\ Nm.u7 (Nm.d9 l.low) (Nm.d9 l.high) < 0 /\ 0 < F3 (Nm.d9 l.speed) := by
 unfold M8 at h
 split at h
 ·cases h
 rename_i h1
 split at h
 ·cases h
 rename_i h2
 split at h
 ·rename_i h3; exact absurd h h3
 rename_i h3
 split at h
 ·rename_i h4
  have h1a : (j4 l.length && j4 l.low && j4 l.high && j4 l.speed && j4 l.brake) = true := by
   cases hb : (j4 l.length && j4 l.low && j4 l.high && j4 l.speed && j4 l.brake) with
   | true => rfl
   | false => exact absurd (.inl hb) h1
  simp only [c1N] at h1a
  obtain ⟨⟨⟨⟨s1, s2⟩, s3⟩, s4⟩, s5⟩ := h1a
  have hpe := b0f (Classical.not_not.1 h3)
  rw [List.all_eq_true] at h4
  refine ⟨⟨I6 s1, I6 s2, I6 s3, I6 s4, I6 s5, by omega, fun v hv => ?_⟩, ?_, ?_⟩
  ·have := h4 v hv
   simp only [c1N] at this
   exact ⟨I6 this.1, I6 this.2⟩
  ·have : ¬ 0 <= Nm.u7 (Nm.d9 l.low) (Nm.d9 l.high) := fun h => h1 (.inr (.inr h))
   omega
  ·have : ¬ F3 (Nm.d9 l.speed) <= 0 := fun h => h2 (.inl h)
   omega
 ·cases h
theorem O4 {a : Am} (h : J4 a = 0) : Ab 1048576 a /\ ∀ l ∈ a.links, M8 l = 0 := by
 unfold J4 at h
 split at h
 ·cases h
 rename_i h1
 split at h
 ·cases h
 split at h
 ·cases h
 rename_i h2 h3
 have hn : a.name.length <= 12 := by
  have : a1C a.name = true := by simpa using h1
  unfold a1C at this
  simp only [c1N, c1P] at this
  exact this.2
 have h3a : (j4 a.base.x && j4 a.base.y && j4 a.base.t) = true := by
  cases hb : (j4 a.base.x && j4 a.base.y && j4 a.base.t) with
  | true => rfl
  | false => exact absurd (.inr (.inl hb)) h3
 simp only [c1N] at h3a
 have hl := a4m h
 exact ⟨⟨by omega, ⟨I6 h3a.1.1, I6 h3a.1.2, I6 h3a.2⟩, by omega, fun l hl' => (a3u (hl l hl')).1⟩, hl⟩
theorem a7m {f : Fr} (h : okF f = true) : Fb 1048576 f /\ V8 f = true := by
 unfold okF okV at h
 simp only [c1N, c1P] at h
 obtain ⟨⟨⟨⟨⟨⟨g1, g2⟩, s1⟩, s2⟩, g3⟩, s3⟩, z⟩ := h
 refine ⟨⟨I6 s1, I6 s2, I6 s3⟩, ?_⟩
 unfold V8 I5
 simp [g1, g2, g3, z]
theorem b6E {n : Nat} : (a4d n).length <= 5 /\ (a3z n).length <= 4 /\ (a4v n).length <= 6 := by
 refine ⟨?_, ?_, ?_⟩
 ·unfold a4d
  match n with
  | 0 | 1 | 2 | 3 => decide
  | n + 4 => simp
 ·unfold a3z
  match n with
  | 0 | 1 => decide
  | n + 2 => simp
 ·unfold a4v
  match n with
  | 0 | 1 | 2 => decide
  | n + 3 => simp
theorem b0x : ∀ (c n : Nat) (l : List Int), ∀ p ∈ Y0 c n l, p.name.length <= 4
 | 0, _, _, p, hp => by cases hp
 | c + 1, n, l, p, hp => by
  rcases List.mem_cons.1 hp with rfl | hp
  ·exact b6E.2.1
  ·exact b0x c _ _ p hp
theorem b0p : ∀ (c n : Nat) (l : List Int), ∀ p ∈ a0y c n l, p.name.length <= 6
 | 0, _, _, p, hp => by cases hp
 | c + 1, n, l, p, hp => by
  rcases List.mem_cons.1 hp with rfl | hp
  ·exact b6E.2.2
  ·exact b0p c _ _ p hp
theorem b0y : ∀ (c : Nat) (l : List Int), ∀ p ∈ a0z c l, p.name.length <= 4
 | 0, _, p, hp => by cases hp
 | c + 1, l, p, hp => by
  rcases List.mem_cons.1 hp with rfl | hp
  ·exact (by decide : ([100, 111, 111, 114] : List UInt8).length <= 4)
  ·exact b0y c _ p hp
theorem Fb.mono {k m : Nat} {f : Fr} (h : Fb k f) (hm : k <= m) : Fb m f := ⟨h.1.mono hm, h.2.1.mono hm, h.2.2.mono hm⟩
theorem Vbs.mono {k m : Nat} {l : List Vt} (h : Vbs k l) (hm : k <= m) : Vbs m l := ⟨c1M h.1 hm, fun v hv => ⟨(h.2 v hv).1.mono hm, (h.2 v hv).2.mono hm⟩⟩
theorem Ab.mono {k m : Nat} {a : Am} (h : Ab k a) (hm : k <= m) : Ab m a := ⟨c1M h.1 hm, h.2.1.mono hm, c1M h.2.2.1 hm, fun l hl => by
 obtain ⟨h1, h2, h3, h4, h5, h6⟩ := h.2.2.2 l hl
 exact ⟨h1.mono hm, h2.mono hm, h3.mono hm, h4.mono hm, h5.mono hm, h6.mono hm⟩⟩
theorem Wb.mono {k m : Nat} {w : Wk} (h : Wb k w) (hm : k <= m) : Wb m w :=
  ⟨⟨c1M h.arms.1 hm, fun x hx => (h.arms.2 x hx).mono hm⟩, ⟨c1M h.walls.1 hm, fun x hx => (h.walls.2 x hx).mono hm⟩, ⟨c1M h.parts.1 hm, fun x hx => ⟨c1M (h.parts.2 x hx).1 hm, (h.parts.2 x hx).2.1.mono hm, (h.parts.2 x hx).2.2.mono hm⟩⟩,
   ⟨c1M h.slots.1 hm, fun x hx => ⟨c1M (h.slots.2 x hx).1 hm, (h.slots.2 x hx).2.1.mono hm, (h.slots.2 x hx).2.2.mono hm⟩⟩, ⟨c1M h.gates.1 hm, fun x hx => ⟨c1M (h.gates.2 x hx).1 hm, ⟨(h.gates.2 x hx).2.1.1.mono hm, (h.gates.2 x hx).2.1.2.mono hm⟩, (h.gates.2 x hx).2.2.1.mono hm, (h.gates.2 x hx).2.2.2.mono hm⟩⟩, h.walk.mono hm⟩
theorem Stb.mono {k m : Nat} {s : Stt} (h : Stb k s) (hm : k <= m) : Stb m s :=
 ⟨⟨c1M h.arms.1 hm, fun x hx => ⟨⟨c1M (h.arms.2 x hx).1.1 hm, fun r hr => ((h.arms.2 x hx).1.2 r hr).mono hm⟩, c1M (h.arms.2 x hx).2.1 hm, fun r hr => ((h.arms.2 x hx).2.2 r hr).mono hm⟩⟩, ⟨c1M h.parts.1 hm, fun x hx => (h.parts.2 x hx).mono hm⟩, h.people.mono hm, c1M h.gates hm⟩
theorem b2L (l : List Int) : Wb 1048576 (D6 l) := by
 obtain ⟨c1, c2, c3, c4, c5⟩ := counts l
 have x1 := a5I (nA l) 0 (l.drop 1) (by omega)
 have x2 := a4j (nW l) ((l1 l).drop 1)
 have x3 := a6l (nP l) 0 ((l2 l).drop 1)
 have x4 := a4s (nS l) 0 ((l3 l).drop 1)
 have x5 := a6L (nG l) ((l4 l).drop 1)
 have a1 := p8 (l5 l) (n := 4) (by decide)
 have a2 := D5 (l5 l) (n := 4) (by decide)
 refine ⟨⟨?_, fun x hx => (O4 (x1 x hx)).1⟩, ⟨?_, fun x hx => b0g (x2.1 x hx).1⟩, ⟨?_, fun x hx => ?_⟩, ⟨?_, fun x hx => ?_⟩, ⟨?_, fun x hx => ?_⟩, ?_⟩
 ·show (a1A _ _ _).length <= _
  rw [a6F]; omega
 ·show (a1J _ _).length <= _
  rw [x2.2]; omega
 ·show (Y0 _ _ _).length <= _
  rw [x3.2.1]; omega
 ·obtain ⟨⟨h1, h2⟩, h3⟩ := x3.1 x hx
  have := b0x _ _ _ x hx
  exact ⟨by omega, b0g h1, (a7m h2).1⟩
 ·show (a0y _ _ _).length <= _
  rw [x4.2.1]; omega
 ·have h := x4.1 x hx
  simp only [c1N] at h
  have := b0p _ _ _ x hx
  exact ⟨by omega, (a7m h.1.1.1).1, I6 h.1.2⟩
 ·show (a0z _ _).length <= _
  rw [x5.2.1]; omega
 ·have h := x5.1 x hx
  simp only [c1N] at h
  have := b0y _ _ x hx
  obtain ⟨⟨⟨h1, h2⟩, _⟩, _⟩ := h
  unfold okV at h1 h2
  simp only [c1N] at h1 h2
  exact ⟨by omega, ⟨I6 h1.1.2, I6 h1.2⟩, I6 h2.1.2, I6 h2.2⟩
 ·exact I6 (R6 _ _ (by omega) (by decide))
theorem b5F (l : List Int) : Wb 1073741824 (D6 l) := (b2L l).mono (by decide)
theorem a4Y {α β : Type} {f : α -> β} : ∀ {l : List α} {x : α × β}, x ∈ l.zip (l.map f) -> x.1 ∈ l /\ x.2 = f x.1
 | [], x, h => by simp at h
 | a :: l, x, h => by
  simp only [c2b, List.zip_cons_cons] at h
  rcases List.mem_cons.1 h with rfl | h
  ·exact ⟨List.mem_cons_self .., rfl⟩
  ·exact ⟨List.mem_cons_of_mem _ (a4Y h).1, (a4Y h).2⟩
theorem a1s (p q : Rat) : Nm.u7 p q < 0 <-> p < q := by
 unfold Nm.u7
 split
 ·simp_all
 ·split
  ·simp_all
  ·simp_all
theorem Y8 (p q : Rat) : 0 < Nm.u7 p q <-> q < p := by
 unfold Nm.u7
 split
 ·rename_i h; simp; grind
 ·split
  ·rename_i h1 h2; simp; grind
  ·rename_i h1 h2; simp; grind
theorem b7e {l : Lk} (h : M8 l = 0) : a4C (l, a0v l) = 0 := by
 have hc := (a1s _ _).1 (a3u h).2.1
 unfold a4C a0v
 simp only [Nm.D7]
 rw [if_neg]
 rw [a1s, Y8]
 unfold a1D a0k
 have e1 : ∀ p q : Rat, (Nm.u7 p q >= 0) <-> ¬ p < q := fun p q => by rw [<- a1s]; omega
 have e2 : ∀ p q : Rat, (Nm.u7 p q <= 0) <-> ¬ q < p := fun p q => by rw [<- Y8]; omega
 simp only [e1, e2]
 repeat' split
 all_goals grind
theorem a4L {l : Lk} (h : M8 l = 0) : a0A (l, Nm.ofQ 0) = 0 := by
 have hs := (a3u h).2.2
 unfold a0A
 simp only [Nm.D7]
 rw [if_neg]
 have h0 : I4 0 = 0 := rfl
 rw [h0, Y8]
 have hn : 0 < (Nm.d9 l.speed).num := by
  unfold F3 at hs
  split at hs
  ·omega
  ·split at hs <;> omega
 intro hlt
 have := (Rat.lt_iff _ _).1 hlt
 simp at this
 omega
theorem b5X {a : Am} (h : J4 a = 0) (n : Nat) : Y3 a (Q6 a) n = 0 := by
 have hl := (O4 h).2
 unfold Y3 Q6
 simp only
 have g1 : (a.links.map a0v).all I5 = true := by
  rw [List.all_eq_true]
  intro x hx
  obtain ⟨l, _, rfl⟩ := List.mem_map.1 hx
  exact decide_eq_true (Nm.X8 _)
 have g2 : (a.links.map fun _ => Nm.ofQ 0).all I5 = true := by
  rw [List.all_eq_true]
  intro x hx
  obtain ⟨l, _, rfl⟩ := List.mem_map.1 hx
  exact decide_eq_true (Nm.X8 _)
 have hf : a1t a (a.links.map a0v) = 0 := by
  rw [b2a]
  have : a3l a (a.links.map a0v).length = 0 := by
   unfold a3l
   rw [h, if_neg (by decide), c1J, if_neg (by simp)]
  rw [this, if_neg (by decide)]
  refine a1u fun x hx => ?_
  obtain ⟨h1, h2⟩ := a4Y hx
  obtain ⟨x1, x2⟩ := x
  simp only at h1 h2
  rw [h2]
  exact b7e (hl x1 h1)
 rw [g1, g2, if_neg (by decide), hf, if_neg (by decide), if_neg (by simp; omega)]
 refine a1u fun x hx => ?_
 obtain ⟨h1, h2⟩ := a4Y hx
 obtain ⟨x1, x2⟩ := x
 simp only at h1 h2
 rw [h2]
 exact a4L (hl x1 h1)
theorem a7D (n : Nat) : ∀ (l : List Am) (h : List Int), (∀ a ∈ l, J4 a = 0) -> (w9 (a0q n) h (l.zip (l.map Q6))).1 = 0
 | [], _, _ => rfl
 | a :: l, h, ha => by
  have e : a0q n h (a, Q6 a) = (0, a6Z h (-1)) := by
   unfold a0q
   simp only
   rw [b5X (ha a (by simp)) n, if_neg (by decide), if_neg (by simp [Q6])]
   rfl
  simp only [c2b, List.zip_cons_cons, w9, e]
  exact a7D n l _ fun x hx => ha x (by simp [hx])
theorem a5v {w : Wk} (h : a0d w = 0) (ha : ∀ a ∈ w.arms, J4 a = 0) (hs : ∀ s ∈ w.slots, okF s.frame = true) : K5 w (G9 w) = 0 := by
 unfold K5
 have l1 : (G9 w).arms.length = w.arms.length := by simp [G9]
 have l2 : (G9 w).parts.length = w.parts.length := by simp [G9]
 have l3 : (G9 w).gates.length = w.gates.length := by simp [G9]
 have l4 : (G9 w).people = [] := rfl
 have l5 : (G9 w).tick = 0 := rfl
 have hh : (w9 (a0q w.parts.length) [] (w.arms.zip (G9 w).arms)).1 = 0 := a7D _ w.arms [] ha
 have hp : (G9 w).parts.all V8 = true := by
  rw [List.all_eq_true]
  intro f hf
  obtain ⟨i, _, rfl⟩ := List.mem_map.1 hf
  unfold a6h
  split
  ·exact (a7m (hs _ (c1X _))).2
  ·unfold a0W V8 I5 a3w
   simp [Nm.X8]
 rw [h, if_neg (by decide), l4, if_neg (by decide), l1, l2, l3, l5, if_neg (by simp), hh, if_neg (by decide), hp]
 rfl
theorem a3L : Rb 1048576 (Nm.ofQ 0) := ⟨c1M (Nm.E8 (k := 8) (by decide)) (by decide), c1M (Nm.E8 (k := 8) (by decide)) (by decide)⟩
theorem b3g {k : Nat} (hk : 1048576 <= k) {w : Wk} (hw : Wb k w) (ha : ∀ a ∈ w.arms, J4 a = 0) (hs : ∀ s ∈ w.slots, okF s.frame = true) : Stb k (G9 w) := by
 refine ⟨⟨?_, fun x hx => ?_⟩, ⟨?_, fun x hx => ?_⟩, ⟨c1Q _, fun v hv => by cases hv⟩, ?_⟩
 ·show (w.arms.map Q6).length <= _
  rw [c1J]; exact hw.arms.1
 ·obtain ⟨a, haa, rfl⟩ := List.mem_map.1 hx
  have hab := hw.arms.2 a haa
  refine ⟨⟨?_, fun r hr => ?_⟩, ?_, fun r hr => ?_⟩
  ·show (a.links.map a0v).length <= _
   rw [c1J]; exact hab.2.2.1
  ·obtain ⟨l, hl, rfl⟩ := List.mem_map.1 hr
   have hlb := hab.2.2.2 l hl
   unfold a0v a1D a0k
   repeat' split
   all_goals first | exact hlb.2.1.fit (by omega) | exact hlb.2.2.1.fit (by omega) | exact a3L.mono hk
  ·show (a.links.map fun _ => Nm.ofQ 0).length <= _
   rw [c1J]; exact hab.2.2.1
  ·obtain ⟨l, hl, rfl⟩ := List.mem_map.1 hr
   exact a3L.mono hk
 ·show ((List.range _).map _).length <= _
  simp; exact hw.parts.1
 ·obtain ⟨i, _, rfl⟩ := List.mem_map.1 hx
  unfold a6h
  split
  ·exact (a7m (hs _ (c1X _))).1.mono hk
  ·exact ⟨a3L.mono hk, a3L.mono hk, a3L.mono hk⟩
 ·show (List.replicate _ _).length <= _
  rw [List.length_replicate]; exact hw.gates.1
theorem b5G {w : Wk} (hw : Wb 1073741824 w) (ha : ∀ a ∈ w.arms, J4 a = 0) (hs : ∀ s ∈ w.slots, okF s.frame = true) : Stb 1073741824 (G9 w) := b3g (by decide) hw ha hs
theorem a4Q (l : List Int) : (∀ a ∈ (D6 l).arms, J4 a = 0) /\ ∀ s ∈ (D6 l).slots, okF s.frame = true := by
 obtain ⟨c1, c2, c3, c4, c5⟩ := counts l
 refine ⟨a5I (nA l) 0 (l.drop 1) (by omega), fun s hs => ?_⟩
 have h := (a4s (nS l) 0 ((l3 l).drop 1)).1 s hs
 simp only [c1N] at h
 exact h.1.1.1
def a1E (a b : Nm.Rt) : Nm.Rt := Nm.ofQ (Nm.d9 a + Nm.d9 b)
def Z9 (b v : Nm.Rt) : Nm.Rt := if Nm.u7 (I4 (Nm.d9 v)) (Nm.d9 b) <= 0 then Nm.ofQ 0 else if F3 (Nm.d9 v) < 0 then a1E v b else Nm.ofQ (Nm.d9 v - Nm.d9 b)
def a1b (a : Am) (x : Ast) : List Nm.Rt := (a.links.zip x.v).map fun p => Z9 p.1.brake p.2
def a2s (a : Am) (x : Ast) : List Nm.Rt := (x.q.zip (a1b a x)).map fun p => a1E p.1 p.2
def b1s (a : Am) (x : Ast) : Ast := ⟨a2s a x, a1b a x, false, x.holds⟩
def mvQ (x : Ast) (u : List Nm.Rt) : List Nm.Rt := (x.q.zip u).map fun p => a1E p.1 p.2
def mvA (x : Ast) (u : List Nm.Rt) : Ast := ⟨mvQ x u, u, true, x.holds⟩
def b4V (x : Lk × Nm.Rt × Nm.Rt) : Bool := !(decide (0 < Nm.u7 (I4 (Nm.d9 x.2.2)) (Nm.d9 x.1.speed)) || decide (0 < Nm.u7 (Nm.d9 x.1.low) (Nm.d9 x.2.1 + Nm.d9 x.2.2)) || decide (0 < Nm.u7 (Nm.d9 x.2.1 + Nm.d9 x.2.2) (Nm.d9 x.1.high)))
def a5T (a : Am) (q u : List Nm.Rt) : Bool := decide (u.length = a.links.length) && (u.all I5 && (a.links.zip (q.zip u)).all b4V)
def X7 (a : Am) (x : Ast) (u : List Nm.Rt) (p : Bool) : Ast := if p && a5T a x.q u then mvA x u else b1s a x
def K8 (a b : Fr) : Fr := ⟨Nm.ofQ (a0l a ⟨b.x, b.y⟩), Nm.ofQ (a0i a ⟨b.x, b.y⟩), (a1q a.half (r9 a.half a.t) b.half (r9 b.half b.t)).1, Nm.ofQ (a1q a.half (r9 a.half a.t) b.half (r9 b.half b.t)).2⟩
def V5 (q : Nm.Rt) : Fr := ⟨Nm.ofQ 0, Nm.ofQ 0, false, Nm.ofQ (Nm.d9 q)⟩
def a4n (l : Lk) : Fr := ⟨l.length, Nm.ofQ 0, false, Nm.ofQ 0⟩
def a0P : Fr -> List (Lk × Nm.Rt) -> List Fr
 | e, [] => [e]
 | e, (l, q) :: r => K8 e (V5 q) :: a0P (K8 (K8 e (V5 q)) (a4n l)) r
def M7 : Fr -> List (Lk × Nm.Rt) -> Fr
 | e, [] => e
 | e, (l, q) :: r => M7 (K8 (K8 e (V5 q)) (a4n l)) r
def a0s (f : Fr) : Fr := ⟨Nm.ofQ (Nm.d9 (Nm.ofQ (0 - Nm.d9 f.x)) * U3 f.half (r9 f.half (Nm.ofQ (- r9 f.half f.t))) - Nm.d9 (Nm.ofQ (0 - Nm.d9 f.y)) * U5 (r9 f.half (Nm.ofQ (- r9 f.half f.t)))), Nm.ofQ (Nm.d9 (Nm.ofQ (0 - Nm.d9 f.x)) * U5 (r9 f.half (Nm.ofQ (- r9 f.half f.t))) + Nm.d9 (Nm.ofQ (0 - Nm.d9 f.y)) * U3 f.half (r9 f.half (Nm.ofQ (- r9 f.half f.t)))), f.half, Nm.ofQ (- r9 f.half f.t)⟩
def F9 (a : Am) (q : List Nm.Rt) (g : Fr) : Fr := K8 (M7 a.base (a.links.zip q)) (a0s g)
def a6M (w : Wk) (s : Stt) (u : List (List Nm.Rt)) (p : List Bool) : List Ast := ((w.arms.zip s.arms).zip (u.zip p)).map fun z => X7 z.1.1 z.1.2 z.2.1 z.2.2
def a7X (w : Wk) (P : List Fr) (z : Am × Ast) : List Fr :=
 if z.2.holds < 0 then P else match w.parts[z.2.holds.toNat]? with
  | some pt => P.set z.2.holds.toNat (F9 z.1 z.2.q pt.grasp)
  | none => P
def a5L (k : Nm.Rt) (v : Vt) : Bool := a5y v && !decide (0 < Nm.u7 (a1D (I4 (Nm.d9 v.x)) (I4 (Nm.d9 v.y))) (Nm.d9 k))
def a9q (p : Vt × Vt) : Vt := ⟨a1E p.1.x p.2.x, a1E p.1.y p.2.y⟩
def a2W (w : Wk) (s : Stt) (u : List (List Nm.Rt)) (p : List Bool) (v : List Vt) : Int :=
 if K5 w s ≠ 0 then K5 w s else
 if u.length ≠ w.arms.length \/ p.length ≠ w.arms.length \/ v.length ≠ s.people.length then 1 else
 if v.all (a5L w.walk) = false then 1 else
 if s.tick = 2000 then 7 else 0
def a8s (w : Wk) (s : Stt) (u : List (List Nm.Rt)) (p : List Bool) (v : List Vt) : Stt :=
 ⟨s.tick + 1, a6M w s u p, (w.arms.zip (a6M w s u p)).foldl (a7X w) s.parts, (s.people.zip v).map a9q, s.gates⟩
theorem b1H {n : Nat} : ∀ {l : List (Am × Ast)} {h : List Int}, (w9 (a0q n) h l).1 = 0 -> ∀ z ∈ l, Y3 z.1 z.2 n = 0
 | [], _, _, z, hz => by cases hz
 | y :: l, h, e, z, hz => by
  have hy : (a0q n h y).1 = 0 := by
   unfold w9 at e
   split at e
   ·assumption
   ·exact e
  unfold w9 at e
  rw [if_pos hy] at e
  rcases List.mem_cons.1 hz with rfl | hz
  ·unfold a0q at hy
   split at hy
   ·exact hy
   ·exact Classical.not_not.1 (by assumption)
  ·exact b1H e z hz
structure c1B (w : Wk) (s : Stt) : Prop where
 works : a0d w = 0
 people : s.people.length <= 4
 tick : 0 <= s.tick /\ s.tick <= 2000
 arms : s.arms.length = w.arms.length
 parts : s.parts.length = w.parts.length
 gates : s.gates.length = w.gates.length
 one : ∀ z ∈ w.arms.zip s.arms, Y3 z.1 z.2 w.parts.length = 0
 big : 1 <= w.arms.length /\ w.arms.length <= 4 /\ w.parts.length <= 6 /\ w.gates.length <= 4
theorem a0n {w : Wk} {s : Stt} (h : K5 w s = 0) : c1B w s := by
 unfold K5 at h
 split at h
 ·rename_i h1; exact absurd h h1
 rename_i h1
 split at h
 ·cases h
 split at h
 ·cases h
 split at h
 ·rename_i h2; exact absurd h h2
 rename_i h2 h3 h4
 have h1 := Classical.not_not.1 h1
 have hb := h1
 unfold a0d at hb
 split at hb
 ·cases hb
 split at hb
 ·cases hb
 exact ⟨h1, by omega, by omega, by omega, by omega, by omega, b1H (Classical.not_not.1 h4), by omega⟩
structure b5l (a : Am) (x : Ast) (n : Nat) : Prop where
 arm : J4 a = 0
 q : x.q.length = a.links.length
 v : x.v.length = a.links.length
 holds : -1 <= x.holds /\ x.holds < n
theorem a1h {a : Am} {x : Ast} {n : Nat} (h : Y3 a x n = 0) : b5l a x n := by
 unfold Y3 at h
 split at h
 ·cases h
 split at h
 ·rename_i h1; exact absurd h h1
 rename_i h1
 split at h
 ·cases h
 have h2 := Classical.not_not.1 h1
 unfold a1t at h2
 split at h2
 ·rename_i h3; exact absurd h2 h3
 rename_i h3
 split at h2
 ·cases h2
 exact ⟨Classical.not_not.1 h3, by omega, by omega, by omega⟩
theorem O8 {a : Am} (h : J4 a = 0) : 1 <= a.links.length /\ a.links.length <= 3 := by
 unfold J4 at h
 split at h
 ·cases h
 split at h
 ·cases h
 split at h
 ·cases h
 ·omega
theorem c0R {a : Am} {n : Int} (h : J4 a = 0) (hn : n = a.links.length) : a3l a n = 0 := by
 unfold a3l
 rw [if_neg (by simp [h]), if_neg (by simp [hn])]
theorem a8q {l : Lk} (h : M8 l = 0) : 0 < F3 (Nm.d9 l.brake) := by
 unfold M8 at h
 split at h
 ·cases h
 split at h
 ·cases h
 ·omega
theorem a6J (q : Rat) : (F3 q = -1 /\ q < 0) \/ (F3 q = 0 /\ q = 0) \/ (F3 q = 1 /\ 0 < q) := by
 have h1 := @Rat.num_nonneg q
 have h2 := @Rat.num_eq_zero q
 unfold F3
 by_cases h0 : q.num = 0
 ·right; left; exact ⟨if_pos h0, h2.1 h0⟩
 rw [if_neg h0]
 by_cases hn : q.num < 0
 ·left
  refine ⟨if_pos hn, ?_⟩
  rw [<- Rat.not_le, <- h1]; omega
 ·right; right
  refine ⟨if_neg hn, ?_⟩
  have h5 : 0 <= q := h1.1 (by omega)
  have h6 : q ≠ 0 := fun e => h0 (h2.2 e)
  grind
theorem b8s {w : Wk} {s : Stt} {u : List (List Nm.Rt)} {p : List Bool} (h1 : s.arms.length = w.arms.length) (h2 : u.length = w.arms.length) (h3 : p.length = w.arms.length) : (a6M w s u p).length = w.arms.length := by
 unfold a6M; simp only [c1J, List.length_zip]; omega
theorem b8v {w : Wk} {s : Stt} {u : List (List Nm.Rt)} {p : List Bool} {i : Nat} {a : Am} {x : Ast} {v : List Nm.Rt} {b : Bool} (h1 : w.arms[i]? = some a) (h2 : s.arms[i]? = some x) (h3 : u[i]? = some v) (h4 : p[i]? = some b) : (a6M w s u p)[i]? = some (X7 a x v b) := by
 unfold a6M
 rw [c2x, J8 (J8 h1 h2) (J8 h3 h4)]
 rfl
theorem holds_one (a : Am) (x : Ast) (u : List Nm.Rt) (p : Bool) : (X7 a x u p).holds = x.holds := by
 unfold X7; split <;> rfl
theorem a9S {a : Am} {x : Ast} {n : Nat} {u : List Nm.Rt} {p : Bool} (h : b5l a x n) : (X7 a x u p).q.length = a.links.length /\ (X7 a x u p).v.length = a.links.length := by
 unfold X7
 have h1 := h.q
 have h2 := h.v
 split
 ·rename_i hc
  simp only [c1N, a5T, c1P] at hc
  have h3 := hc.2.1
  simp only [mvA, mvQ, c1J, List.length_zip]; omega
 ·simp only [b1s, a2s, a1b, c1J, List.length_zip]; omega
theorem b4v {α : Type} {l m : List α} {i : Nat} {y : α} (hl : l.length = m.length) (hy : l[i]? = some y) : (l.take i ++ m.drop i).set i y = l.take (i + 1) ++ m.drop (i + 1) := by
 obtain ⟨hi, rfl⟩ := c1O.1 hy
 have h1 : (l.take i).length = i := by rw [c1V]; omega
 rw [List.set_append_right _ _ (by omega), h1, Nat.sub_self, List.drop_eq_getElem_cons (show i < m.length by omega), List.set_cons_zero, c2A hi, c2r]
 rfl
theorem a3C {α : Type} {l m : List α} {i : Nat} (hl : l.length = m.length) (hi : i <= m.length) : (l.take i ++ m.drop i).length = m.length := by
 simp only [c1Y, c1V, c2t]; omega
theorem mid_end {α : Type} {l m : List α} (hl : l.length = m.length) : l.take m.length ++ m.drop m.length = l := by
 rw [<- hl, c2i, hl, List.drop_length, List.append_nil]
theorem a7x : ∀ (z : List (Lk × Nm.Rt)) (e : Fr), (a0P e z)[z.length]? = some (M7 e z) /\ (a0P e z).length = z.length + 1
 | [], e => ⟨rfl, rfl⟩
 | (l, q) :: r, e => by
  obtain ⟨h1, h2⟩ := a7x r (K8 (K8 e (V5 q)) (a4n l))
  simp only [a0P, M7, c1W, List.getElem?_cons_succ]
  exact ⟨h1, by rw [h2]⟩
set_option maxRecDepth 10000
set_option maxHeartbeats 8000000
theorem b5Z (v : Vt) (hv : Vb 17179869184 v) : FZ 134 [v.c] (.v (.bool (!okV v))) := by
 refine kW Tryz.func134 (by cbv) (by rfl) fun w O hw => ?_
 obtain ⟨x, y⟩ := v
 obtain ⟨b1, b2⟩ := hv
 simp only at b1 b2
 have h1 := a1g x (b1.mono (by decide))
 have h2 := a1g y (b2.mono (by decide))
 have h3 := a3E x b1
 have h4 := a3E y b2
 unfold okV
 simp only
 generalize decide x.G7 = q1 at *
 generalize decide y.G7 = q2 at *
 generalize j4 x = q3 at *
 generalize j4 y = q4 at *
 simp only [l6]
 simp only [Vt.c, Vt.enc, rc, sb] at *
 (repeat first | refine uA ?_ | (refine uK ?_ ?_; focus first | omega | (intros; simp_all <;> omega)) | simp (disch := omega) only [go_sem, Nat.reduceBEq, Nat.reduceAdd, ww] | (refine uD h1 ?_ ?_ ?_; exact tz hw; exact rfl) | (refine uD h2 ?_ ?_ ?_; exact tz hw; exact rfl) | (refine uD h3 ?_ ?_ ?_; exact tz hw; exact rfl) | (refine uD h4 ?_ ?_ ?_; exact tz hw; exact rfl))
 have e : (!(q1 && q2 && q3 && q4)) = (!q1 || !q2 || !q3 || !q4) := by cases q1 <;> cases q2 <;> cases q3 <;> cases q4 <;> rfl
 (try rw [e])
 exact S.done (j3.out rfl (Imp.refl rfl) rfl)
theorem a7O (l : List Vt) (hl : Vbs 17179869184 l) : FZ 92 [vts l] (.v (.bool (l.all okV))) := by
 refine kW Tryz.func92 (by cbv) (by rfl) fun w O hw => ?_
 have h := b1K 134 (by kernel_rfl) (fun v => !okV v) l (by have := hl.1; omega) (fun v hv => b5Z v (hl.2 v hv))
 have e : l.all okV = !l.any fun v => !okV v := by rw [List.not_any_eq_all_not]; simp
 rw [e]
 generalize (l.any fun v => !okV v) = q at *
 simp only [l6]
 simp only [vts] at *
 (repeat first | refine uA ?_ | (refine uK ?_ ?_; focus first | omega | (intros; simp_all <;> omega)) | simp (disch := omega) only [go_sem, Nat.reduceBEq, Nat.reduceAdd, ww] | (refine uD h ?_ ?_ ?_; exact tz hw; exact rfl))
 exact S.done (j3.out rfl (Imp.refl rfl) rfl)
theorem Vbs.one {k : Nat} {v : Vt} (h : 1 <= k) (h1 : Vb k v) : Vbs k [v] := ⟨h, fun x hx => by simp at hx; subst hx; exact h1⟩
theorem Vbs.two {k : Nat} {v u : Vt} (h : 2 <= k) (h1 : Vb k v) (h2 : Vb k u) : Vbs k [v, u] := ⟨h, fun x hx => by simp at hx; rcases hx with rfl | rfl <;> assumption⟩
theorem b2I (f : Fr) (hf : Fb 17179869184 f) : FZ 93 [f.c] (.v (.bool (okF f))) := by
 refine kW Tryz.func93 (by cbv) (by rfl) fun w O hw => ?_
 obtain ⟨x, y, half, t⟩ := f
 obtain ⟨b1, b2, b3⟩ := hf
 simp only at b1 b2 b3
 have h1 := a7O [⟨x, y⟩] (Vbs.one (by decide) ⟨b1, b2⟩)
 rw [List.all_cons, List.all_nil, Bool.and_true] at h1
 have h2 := a1g t (b3.mono (by decide))
 have h3 := a3E t b3
 have h4 := Z7 t b3
 unfold okF a3w
 simp only
 generalize okV ⟨x, y⟩ = q1 at *
 generalize decide t.G7 = q2 at *
 generalize j4 t = q3 at *
 generalize F3 (Nm.d9 t) = n at *
 simp only [l6]
 simp only [Fr.c, Fr.enc, vts, Vt.enc, rc, sb, ints, c2b, c2w] at *
 (repeat first | refine uA ?_ | (refine uK ?_ ?_; focus first | omega | (intros; simp_all <;> omega)) | simp (disch := omega) only [go_sem, Nat.reduceBEq, Nat.reduceAdd, ww] | (refine uD h2 ?_ ?_ ?_; exact tz hw; exact rfl) | (refine uD h3 ?_ ?_ ?_; exact tz hw; exact rfl) | (refine uD h4 ?_ ?_ ?_; exact tz hw; exact rfl) | (refine uE h1 ?_ ?_ ?_ ?_; exact tz hw; exact rfl; focus (repeat' first | exact l7.nil | exact Imp.refl rfl | exact Imp.frz rfl rfl rfl | (refine Imp.a0j rfl rfl ?_ ?_; (focus ((try simp only [c1Y]); omega)); (focus first | rfl | assumption)) | refine l7.cons ?_ ?_); done))
 have e : (q1 && q2 && q3 && !(half && !decide (n = 0))) = (q1 && q2 && q3 && (!half || decide (n = 0))) := by cases q1 <;> cases q2 <;> cases q3 <;> cases half <;> simp
 rw [e]
 exact S.done (j3.out rfl (Imp.refl (by rfl)) rfl)
theorem b2W (l : List Vt) (hl : Vbs 1073741824 l) : FZ 33 [vts l] (ints (K3 l)) := by
 refine kW Tryz.func33 (by cbv) (by rfl) fun w O hw => ?_
 have h1 := a7t l hl
 have h2 := a7O l ⟨by have := hl.1; omega, fun v hv => (hl.2 v hv).mono (by decide)⟩
 unfold K3
 generalize S9 l 8 = e at *
 generalize l.all okV = q at *
 simp only [l6]
 simp only [vts, ints] at *
 (repeat first | refine uA ?_ | (refine uK ?_ ?_; focus first | omega | (intros; simp_all <;> omega)) | simp (disch := omega) only [go_sem, Nat.reduceBEq, Nat.reduceAdd, ww] | (refine uD h1 ?_ ?_ ?_; exact tz hw; exact rfl))
 refine S.cond rfl (fun hc => ?_) (fun hc => ?_)
 ·rw [if_pos (by simpa using hc)]
  (repeat first | refine uA ?_ | (refine uK ?_ ?_; focus first | omega | (intros; simp_all <;> omega)) | simp (disch := omega) only [go_sem, Nat.reduceBEq, Nat.reduceAdd, ww])
  exact S.done (j3.out rfl (Imp.refl rfl) rfl)
 rw [if_neg (by simpa using hc)]
 (repeat first | refine uA ?_ | (refine uK ?_ ?_; focus first | omega | (intros; simp_all <;> omega)) | simp (disch := omega) only [go_sem, Nat.reduceBEq, Nat.reduceAdd, ww] | (refine uD h2 ?_ ?_ ?_; exact tz hw; exact rfl))
 refine S.cond rfl (fun hc => ?_) (fun hc => ?_)
 ·rw [if_neg (by simpa using hc)]
  (repeat first | refine uA ?_ | (refine uK ?_ ?_; focus first | omega | (intros; simp_all <;> omega)) | simp (disch := omega) only [go_sem, Nat.reduceBEq, Nat.reduceAdd, ww])
  exact S.done (j3.out rfl (Imp.refl rfl) rfl)
 ·rw [if_pos (by simpa using hc)]
  (repeat first | refine uA ?_ | (refine uK ?_ ?_; focus first | omega | (intros; simp_all <;> omega)) | simp (disch := omega) only [go_sem, Nat.reduceBEq, Nat.reduceAdd, ww])
  exact S.done (j3.out rfl (Imp.refl rfl) rfl)
end Go.Proofs.YtgmlehjgpgdjhaaGreatDoor
namespace Go.Proofs.YtgmlehjgpgdjhaaGreatDoor.Eng
open Go Go.RowKit
theorem j5.ofT {E : Ctx} {eff : Nat -> Bool} {f : Nat} {fn : Func} {ir : Q8} (ht : Tz E) (hf : E.P.funcs[f]? = some fn) (hc : M6 eff E.P fn = some ir) {rs : List Res} {args : List C} {s : C} {rs' : List Res} {pk : List Nat} (hn : args.length <= ir.ntmps)
  (h : ∀ w own av ν, ν.length = rs.length -> Tz ⟨E.P, eff, ir.ntmps, w, own, av, ν, pk⟩ -> S ⟨E.P, eff, ir.ntmps, w, own, av, ν, pk⟩ (Fin E.P ir.results (b5y ⟨E.P, eff, ir.ntmps, w, own, av, ν, pk⟩ rs' s)) ⟨l6 0 args, rs⟩ [.code ir.body]) : j5 E rs f args s rs' pk := by
 intro av ν w vs hR hav hF hD
 have hR' : RG av (owned rs ν) w.heap.size ν rs w := ⟨hR.len, hR.res, hR.dis, fun b hb => ⟨(hR.low b hb).1, (hR.low b hb).2.1, .inl hb⟩, hR.av, c1T _⟩
 have ht' : Tz ⟨E.P, eff, ir.ntmps, w, owned rs ν, av, ν, pk⟩ := ⟨ht.at hF, fun ho => by
  rcases (hR.low _ ho).2.2 with h1 | h1
  ·exact ht.2 h1
  ·have := b8P ht.1; omega⟩
 refine (b2U (E := ⟨E.P, eff, ir.ntmps, w, owned rs ν, av, ν, pk⟩) hf hc rfl rfl hR.av rs hR' args hD hn (h w (owned rs ν) av ν hR.len ht')).mono ?_
 rintro e w' ⟨y, rfl, ν', h1, h2, h3, h4⟩
 refine ⟨y, ν', rfl, ⟨h1.len, h1.res, h1.dis, fun b hb => ?_, h1.av, c1M hR.n0 h2.size⟩, ⟨h2.os, h2.tape, h2.output, h2.size, h2.block, fun b hb => (h1.low b hb).2.2, h3⟩, h4⟩
 obtain ⟨g1, g2, g3⟩ := h1.low b hb
 refine ⟨g1, g2, ?_⟩
 rcases g3 with g3 | g3
 ·exact (hR.low b g3).2.2
 ·exact .inr (c1M hR.n0 g3)
def Res.shut : Res -> Bool
 | .gone => false
 | .box _ cs => C.clL cs
 | .row _ _ _ => true
 | .map _ _ => true
theorem a5f {ν ν' : List Value} {w : World} {O O' : Nat -> Prop} {x : Value} {r : Res} (hs : r.shut = true) (hO : ∀ b, O' b -> O b) (h : M9 ν w O x r) : M9 ν' w O' x r := by
 cases r with
 | gone => cases hs
 | box t cs =>
  obtain ⟨b, vs, h1, h2, h3, h4⟩ := h
  exact ⟨b, vs, h1, (FzL.keep (Keeps.sub hO) (h2.fz hs)).den ν', h3, h4⟩
 | row e sz es => exact a4W hO h
 | map s es => exact h
theorem b9h {r r' : Res} (hs : r.shut = true) {x : Value} {b : Nat} (h : fp r' x b) : fp r x b := by
 cases r <;> cases r' <;> first | exact False.elim h | exact h | (cases hs; done)
def at0 (k : Nat) : C -> C
 | .mp 0 => .mp k
 | .bp 0 o => .bp k o
 | .rv 0 => .rv k
 | .bnd f (.mp 0) => .bnd f (.mp k)
 | c => c
def okA : C -> Bool
 | .mp 0 => true
 | .bp 0 _ => true
 | .rv 0 => true
 | .bnd _ (.mp 0) => true
 | c => c.cl
theorem b9C {ν : List Value} {w : World} {O O' : Nat -> Prop} {k : Nat} {x : Value} (hk : ν[k]? = some x) (hO : ∀ b, O' b -> O b) {c : C} {y : Value} (hc : okA c = true) (h : Den ν w O (at0 k c) y) : Den [x] w O' c y := by
 unfold okA at hc
 split at hc
 ·simp only [at0, Den] at h ⊢
  rw [hk] at h
  exact h
 ·simp only [at0, Den] at h ⊢
  rw [hk] at h
  exact h
 ·simp only [at0, Den] at h ⊢
  rw [hk] at h
  exact h
 ·simp only [at0, Den] at h ⊢
  rw [hk] at h
  exact h
 ·rename_i c0 h1 h2 h3 h4
  have e : at0 k c = c := by
   cases c with
   | mp j => cases j with
    | zero => exact (h1 rfl).elim
    | succ j => rfl
   | bp j o => cases j with
    | zero => exact (h2 _ rfl).elim
    | succ j => rfl
   | rv j => cases j with
    | zero => exact (h3 rfl).elim
    | succ j => rfl
   | bnd g d => cases d with
    | mp j => cases j with
     | zero => exact (h4 _ rfl).elim
     | succ j => rfl
    | _ => rfl
   | _ => rfl
  rw [e] at h
  exact (Fz.keep (Keeps.sub hO) (h.fz hc)).den _
theorem b1N {ν : List Value} {w : World} {O O' : Nat -> Prop} {k : Nat} {x : Value} (hk : ν[k]? = some x) (hO : ∀ b, O' b -> O b) : ∀ {cs : List C} {vs : List Value}, cs.all okA = true -> j6 ν w O (cs.map (at0 k)) vs -> j6 [x] w O' cs vs
 | [], vs, _, h => by simpa only [c2w, j6] using h
 | c :: cs, vs, hc, h => by
  simp only [c2b, j6, List.all_cons, c1N] at h hc ⊢
  obtain ⟨y, ys, e, h1, h2⟩ := h
  exact ⟨y, ys, e, b9C hk hO hc.1 h1, b1N hk hO hc.2 h2⟩
theorem j5.lift {E : Ctx} {rs : List Res} {k f : Nat} {args : List C} {s : C} {r r' : Res} (hk : rs[k]? = some r) (h : j5 E [r] f args s [r'] []) (hs : (r.shut && r'.shut) = true) (ha : args.all okA = true) (hc : s.cl = true) : j5 E rs f (args.map (at0 k)) s (rs.set k r') [] := by
 rw [c1N] at hs
 intro av ν w vs hR hav hF hD
 obtain ⟨x, hx, hok⟩ := hR.res k r hk
 have hown : ∀ b, fp r x b -> owned rs ν b := fun b hb => ⟨k, r, x, hk, hx, hb⟩
 have ho1 : ∀ (q : Res) b, owned [q] [x] b <-> fp q x b := fun q b => by
  constructor
  ·rintro ⟨l, q', y, h1, h2, h3⟩
   cases l with
   | zero => simp at h1 h2; subst h1 h2; exact h3
   | succ l => simp at h1
  ·exact fun hb => ⟨0, q, x, rfl, rfl, hb⟩
 let av' : Nat -> Prop := fun b => OO av rs ν b /\ ¬ fp r x b
 have hOO : ∀ b, OO av' [r] [x] b -> OO av rs ν b := fun b hb => by
  rcases hb with hb | hb
  ·exact hb.1
  ·exact .inr (hown b ((ho1 r b).1 hb))
 have hRG : RG av' E.own0 E.w0.heap.size [x] [r] w := by
  refine ⟨rfl, fun l q hq => ?_, fun l m q q' y y' b hne h1 h2 => ?_, fun b hb => ?_, fun b hb => ?_, hR.n0⟩
  ·cases l with
   | zero => simp at hq; subst hq; exact ⟨x, rfl, a5f hs.1 hOO hok⟩
   | succ l => simp at hq
  ·have e1 : l = 0 := by have := (c1O.1 h1).1; simp at this; exact this
   have e2 : m = 0 := by have := (c1O.1 h2).1; simp at this; exact this
   omega
  ·have hb' := (ho1 r b).1 hb
   obtain ⟨g1, g2, g3⟩ := hR.low b (hown b hb')
   exact ⟨g1, fun h => h.2 hb', g3⟩
  ·rcases hb.1 with h1 | h1
   ·exact hR.av b h1
   ·exact (hR.low b h1).1
 have hav' : ∀ b, E.av b -> av' b := fun b hb => ⟨.inl (hav b hb), fun hf => (hR.low b (hown b hf)).2.1 (hav b hb)⟩
 have hD' : j6 [x] w (OO av' [r] [x]) args vs := b1N hx hOO ha hD
 refine (h av' [x] w vs hRG hav' hF hD').mono ?_
 rintro e w' ⟨y, ν', rfl, h1, h2, h3⟩
 have hν : ν' = [x] := by
  have hl := h1.len
  have h0 := h2.nu 0 x (fun hm => by cases hm) rfl
  match ν', hl, h0 with
  | [z], _, h0 => simp at h0; rw [h0]
 subst hν
 have hT : Turned w w' (fp r x) := ⟨h2.os, h2.tape, h2.output, h2.size, fun b hb hn => h2.block b hb fun ho => hn ((ho1 r b).1 ho)⟩
 have hOO' : ∀ b, OO av (rs.set k r') ν b -> OO av' [r'] [x] b := fun b hb => by
  rcases hb with hb | ⟨l, q, z, hq, hz, hf⟩
  ·exact .inl ⟨.inl hb, fun hf => (hR.low b (hown b hf)).2.1 hb⟩
  ·by_cases e : k = l
   ·subst e
    have hkl := (c1O.1 hk).1
    rw [List.getElem?_set_self hkl] at hq
    rw [hx] at hz
    cases hq
    cases hz
    exact .inr ((ho1 r' b).2 hf)
   ·rw [List.getElem?_set_ne e] at hq
    exact .inl ⟨.inr ⟨l, q, z, hq, hz, hf⟩, fun hf' => hR.dis k l r q x z b e hk hq hx hz hf' hf⟩
 have hup := hR.upd (r' := r') hk hx hT (fun b hb => b9h hs.1 hb) (fun _ => by
  obtain ⟨x', hx', hok'⟩ := h1.res 0 r' rfl
  simp at hx'
  subst hx'
  exact a5f hs.2 hOO' hok')
 exact ⟨y, ν, rfl, hup.1, hup.2, (Fz.keep (Keeps.sub hOO') (h3.fz hc)).den ν⟩
end Go.Proofs.YtgmlehjgpgdjhaaGreatDoor.Eng
namespace Go.Proofs.YtgmlehjgpgdjhaaGreatDoor
open Go Go.RowKit Eng
set_option maxRecDepth 10000
set_option maxHeartbeats 8000000
theorem c1h (n : Nms) (s : List UInt8) : (a0Y (.string (bs s)) (nmE n)).getD (.bool false) = .bool (n.contains s) := by
 rw [b9M]; cases n.contains s <;> rfl
theorem b1q {E : Ctx} (hP : E.P = Tryz.prog) (n : Nms) (s : List UInt8) (hs : s.length <= 1099511627776) :
  j5 E [.map true (nmE n)] 30 [.mp 0, sb s] (ints (K9 n s).1) [.map true (nmE (K9 n s).2)] [] := by
 obtain ⟨P, eff', N, w0, own0, av0, nu0, pk0⟩ := E
 simp only at hP
 subst hP
 refine j5.of (eff := eff) Tryz.func30 (by cbv) (by exact c2a rfl) fun w own av ν hν => ?_
 have hν0 : ν.length <= 1 := by rw [hν]; exact c1T _
 have h1 := b9j s hs
 have hk := c1h n s
 have hp := c0y n s
 unfold K9
 generalize a1C s = q at *
 generalize n.contains s = c at *
 simp only [l6]
 simp only [sb, ints] at *
 (repeat first | refine uA ?_ | (refine uK ?_ ?_; focus first | omega | (intros; simp_all <;> omega)) | simp (disch := omega) only [go_sem, Nat.reduceBEq, Nat.reduceAdd, ww] | (refine uB h1 ?_ ?_; exact rfl))
 refine S.cond rfl (fun hc => ?_) (fun hc => ?_)
 ·rw [if_pos (by simpa using hc)]
  (repeat first | refine uA ?_ | (refine uK ?_ ?_; focus first | omega | (intros; simp_all <;> omega)) | simp (disch := omega) only [go_sem, Nat.reduceBEq, Nat.reduceAdd, ww])
  (refine S.done ?_; simp only [q8, l9, go_sem, Nat.reduceBEq, Nat.reduceAdd, Nat.reduceLeDiff, Int.reduceToNat, Int.reducePow]; (repeat (refine ⟨?_, ?_⟩; focus first | trivial | omega | simp)); exact j3.N9 (Imp.refl rfl) (by (repeat first | refine uA ?_ | (refine ⟨?_, ?_⟩; focus first | rfl | simp [slot]) | rfl | simp)) (c1M hν0 (by simp)))
 rw [if_neg (by simpa using hc)]
 (repeat first | refine uA ?_ | (refine uK ?_ ?_; focus first | omega | (intros; simp_all <;> omega)) | simp (disch := omega) only [go_sem, Nat.reduceBEq, Nat.reduceAdd, ww, hk])
 refine S.cond rfl (fun hc => ?_) (fun hc => ?_)
 ·rw [if_pos hc]
  (repeat first | refine uA ?_ | (refine uK ?_ ?_; focus first | omega | (intros; simp_all <;> omega)) | simp (disch := omega) only [go_sem, Nat.reduceBEq, Nat.reduceAdd, ww])
  (refine S.done ?_; simp only [q8, l9, go_sem, Nat.reduceBEq, Nat.reduceAdd, Nat.reduceLeDiff, Int.reduceToNat, Int.reducePow]; (repeat (refine ⟨?_, ?_⟩; focus first | trivial | omega | simp)); exact j3.N9 (Imp.refl rfl) (by (repeat first | refine uA ?_ | (refine ⟨?_, ?_⟩; focus first | rfl | simp [slot]) | rfl | simp)) (c1M hν0 (by simp)))
 ·rw [if_neg (by rw [hc]; decide)]
  have hp := hp hc
  (repeat first | refine uA ?_ | (refine uK ?_ ?_; focus first | omega | (intros; simp_all <;> omega)) | simp (disch := omega) only [go_sem, Nat.reduceBEq, Nat.reduceAdd, ww, hp])
  (refine S.done ?_; simp only [q8, l9, go_sem, Nat.reduceBEq, Nat.reduceAdd, Nat.reduceLeDiff, Int.reduceToNat, Int.reducePow]; (repeat (refine ⟨?_, ?_⟩; focus first | trivial | omega | simp)); exact j3.N9 (Imp.refl rfl) (by (repeat first | refine uA ?_ | (refine ⟨?_, ?_⟩; focus first | rfl | simp [slot]) | rfl | simp)) (c1M hν0 (by simp)))
theorem b9Z {E : Ctx} (hP : E.P = Tryz.prog) (ht0 : Tz E) (n : Nms) (p : Pt) (hb : Pb 1073741824 p) :
  j5 E [.map true (nmE n)] 35 [.mp 0, p.c] (ints (a0H n p).1) [.map true (nmE (a0H n p).2)] [] := by
 obtain ⟨P, eff', N, w0, own0, av0, nu0, pk0⟩ := E
 simp only at hP
 subst hP
 refine j5.ofT (eff := eff) ht0 Tryz.func35 (by cbv) (by exact c2a rfl) fun w own av ν hν ht => ?_
 have hν0 : ν.length <= 1 := by rw [hν]; exact c1T _
 obtain ⟨name, shape, ⟨x, y, half, t⟩⟩ := p
 obtain ⟨b0, b1, b2, b3, b4⟩ := hb
 simp only at b0 b1 b2 b3 b4
 have h1 := fun (E : Ctx) (hP : E.P = Tryz.prog) => b1q hP n name (by omega)
 have h2 := b2W shape b1
 have h3 := b2I ⟨x, y, half, t⟩ ⟨b2.mono (by decide), b3.mono (by decide), b4.mono (by decide)⟩
 unfold a0H
 simp only
 generalize K9 n name = r at *
 obtain ⟨e1, m⟩ := r
 generalize K3 shape = e2 at *
 generalize okF ⟨x, y, half, t⟩ = q at *
 simp only [l6]
 simp only [Pt.c, Pt.enc, Fr.c, Fr.enc, vts, sb, ints] at *
 (repeat first | refine uA ?_ | (refine uK ?_ ?_; focus first | omega | (intros; simp_all <;> omega)) | simp (disch := omega) only [go_sem, Nat.reduceBEq, Nat.reduceAdd, ww] | refine l8.t (j5.lift (k := 0) rfl (h1 _ rfl) rfl rfl rfl) ?_)
 refine S.cond rfl (fun hc => ?_) (fun hc => ?_)
 ·rw [if_pos (by simpa using hc)]
  (repeat first | refine uA ?_ | (refine uK ?_ ?_; focus first | omega | (intros; simp_all <;> omega)) | simp (disch := omega) only [go_sem, Nat.reduceBEq, Nat.reduceAdd, ww])
  (refine S.done ?_; simp only [q8, l9, go_sem, Nat.reduceBEq, Nat.reduceAdd, Nat.reduceLeDiff, Int.reduceToNat, Int.reducePow]; (repeat (refine ⟨?_, ?_⟩; focus first | trivial | omega | simp)); exact j3.N9 (Imp.refl rfl) (by (repeat first | refine uA ?_ | (refine ⟨?_, ?_⟩; focus first | rfl | simp [slot]) | rfl | simp)) (c1M hν0 (by simp)))
 rw [if_neg (by simpa using hc)]
 (repeat first | refine uA ?_ | (refine uK ?_ ?_; focus first | omega | (intros; simp_all <;> omega)) | simp (disch := omega) only [go_sem, Nat.reduceBEq, Nat.reduceAdd, ww] | (refine uD h2 ?_ ?_ ?_; exact ht; exact rfl))
 refine S.cond rfl (fun hc => ?_) (fun hc => ?_)
 ·rw [if_pos (by simpa using hc)]
  (repeat first | refine uA ?_ | (refine uK ?_ ?_; focus first | omega | (intros; simp_all <;> omega)) | simp (disch := omega) only [go_sem, Nat.reduceBEq, Nat.reduceAdd, ww])
  (refine S.done ?_; simp only [q8, l9, go_sem, Nat.reduceBEq, Nat.reduceAdd, Nat.reduceLeDiff, Int.reduceToNat, Int.reducePow]; (repeat (refine ⟨?_, ?_⟩; focus first | trivial | omega | simp)); exact j3.N9 (Imp.refl rfl) (by (repeat first | refine uA ?_ | (refine ⟨?_, ?_⟩; focus first | rfl | simp [slot]) | rfl | simp)) (c1M hν0 (by simp)))
 rw [if_neg (by simpa using hc)]
 (repeat first | refine uA ?_ | (refine uK ?_ ?_; focus first | omega | (intros; simp_all <;> omega)) | simp (disch := omega) only [go_sem, Nat.reduceBEq, Nat.reduceAdd, ww] | (refine uD h3 ?_ ?_ ?_; exact ht; exact rfl))
 refine S.cond rfl (fun hc => ?_) (fun hc => ?_)
 ·rw [if_neg (by simpa using hc)]
  (repeat first | refine uA ?_ | (refine uK ?_ ?_; focus first | omega | (intros; simp_all <;> omega)) | simp (disch := omega) only [go_sem, Nat.reduceBEq, Nat.reduceAdd, ww])
  (refine S.done ?_; simp only [q8, l9, go_sem, Nat.reduceBEq, Nat.reduceAdd, Nat.reduceLeDiff, Int.reduceToNat, Int.reducePow]; (repeat (refine ⟨?_, ?_⟩; focus first | trivial | omega | simp)); exact j3.N9 (Imp.refl rfl) (by (repeat first | refine uA ?_ | (refine ⟨?_, ?_⟩; focus first | rfl | simp [slot]) | rfl | simp)) (c1M hν0 (by simp)))
 ·rw [if_pos (by simpa using hc)]
  (repeat first | refine uA ?_ | (refine uK ?_ ?_; focus first | omega | (intros; simp_all <;> omega)) | simp (disch := omega) only [go_sem, Nat.reduceBEq, Nat.reduceAdd, ww])
  (refine S.done ?_; simp only [q8, l9, go_sem, Nat.reduceBEq, Nat.reduceAdd, Nat.reduceLeDiff, Int.reduceToNat, Int.reducePow]; (repeat (refine ⟨?_, ?_⟩; focus first | trivial | omega | simp)); exact j3.N9 (Imp.refl rfl) (by (repeat first | refine uA ?_ | (refine ⟨?_, ?_⟩; focus first | rfl | simp [slot]) | rfl | simp)) (c1M hν0 (by simp)))
theorem c0M {E : Ctx} (hP : E.P = Tryz.prog) (ht0 : Tz E) (n : Nms) (s : Sl) (hb : Sb 1073741824 s) :
  j5 E [.map true (nmE n)] 37 [.mp 0, s.c] (ints (a0D n s).1) [.map true (nmE (a0D n s).2)] [] := by
 obtain ⟨P, eff', N, w0, own0, av0, nu0, pk0⟩ := E
 simp only at hP
 subst hP
 refine j5.ofT (eff := eff) ht0 Tryz.func37 (by cbv) (by exact c2a rfl) fun w own av ν hν ht => ?_
 have hν0 : ν.length <= 1 := by rw [hν]; exact c1T _
 obtain ⟨name, ⟨x, y, half, t⟩, within⟩ := s
 obtain ⟨b0, ⟨b2, b3, b4⟩, b5⟩ := hb
 simp only at b0 b2 b3 b4 b5
 have h1 := fun (E : Ctx) (hP : E.P = Tryz.prog) => b1q hP n name (by omega)
 have h3 := b2I ⟨x, y, half, t⟩ ⟨b2.mono (by decide), b3.mono (by decide), b4.mono (by decide)⟩
 have h4 := a1g within (b5.mono (by decide))
 have h5 := a3E within (b5.mono (by decide))
 have h6 := Z7 within (b5.mono (by decide))
 unfold a0D
 simp only
 generalize K9 n name = r at *
 obtain ⟨e1, m⟩ := r
 generalize okF ⟨x, y, half, t⟩ = q1 at *
 generalize decide within.G7 = q2 at *
 generalize j4 within = q3 at *
 generalize F3 (Nm.d9 within) = n4 at *
 simp only [l6]
 simp only [Sl.c, Sl.enc, Fr.c, Fr.enc, vts, rc, sb, ints] at *
 (repeat first | refine uA ?_ | (refine uK ?_ ?_; focus first | omega | (intros; simp_all <;> omega)) | simp (disch := omega) only [go_sem, Nat.reduceBEq, Nat.reduceAdd, ww] | refine l8.t (j5.lift (k := 0) rfl (h1 _ rfl) rfl rfl rfl) ?_)
 refine S.cond rfl (fun hc => ?_) (fun hc => ?_)
 ·rw [if_pos (by simpa using hc)]
  (repeat first | refine uA ?_ | (refine uK ?_ ?_; focus first | omega | (intros; simp_all <;> omega)) | simp (disch := omega) only [go_sem, Nat.reduceBEq, Nat.reduceAdd, ww])
  (refine S.done ?_; simp only [q8, l9, go_sem, Nat.reduceBEq, Nat.reduceAdd, Nat.reduceLeDiff, Int.reduceToNat, Int.reducePow]; (repeat (refine ⟨?_, ?_⟩; focus first | trivial | omega | simp)); exact j3.N9 (Imp.refl rfl) (by (repeat first | refine uA ?_ | (refine ⟨?_, ?_⟩; focus first | rfl | simp [slot]) | rfl | simp)) (c1M hν0 (by simp)))
 rw [if_neg (by simpa using hc)]
 (repeat first | refine uA ?_ | (refine uK ?_ ?_; focus first | omega | (intros; simp_all <;> omega)) | simp (disch := omega) only [go_sem, Nat.reduceBEq, Nat.reduceAdd, ww] | (refine uD h3 ?_ ?_ ?_; exact ht; exact rfl) | (refine uD h4 ?_ ?_ ?_; exact ht; exact rfl) | (refine uD h5 ?_ ?_ ?_; exact ht; exact rfl) | (refine uD h6 ?_ ?_ ?_; exact ht; exact rfl))
 refine S.cond rfl (fun hc => ?_) (fun hc => ?_)
 ·rw [if_neg (by simp only [c2v, Bool.not_eq_true', c1P] at hc; simp only [c1N, c1P]; rintro ⟨⟨⟨h7, h8⟩, h9⟩, h10⟩; rcases hc with ((hc | hc) | hc) | hc <;> first | (rw [hc] at h7; cases h7; done) | (rw [hc] at h8; cases h8; done) | (rw [hc] at h9; cases h9; done) | omega)]
  (repeat first | refine uA ?_ | (refine uK ?_ ?_; focus first | omega | (intros; simp_all <;> omega)) | simp (disch := omega) only [go_sem, Nat.reduceBEq, Nat.reduceAdd, ww])
  (refine S.done ?_; simp only [q8, l9, go_sem, Nat.reduceBEq, Nat.reduceAdd, Nat.reduceLeDiff, Int.reduceToNat, Int.reducePow]; (repeat (refine ⟨?_, ?_⟩; focus first | trivial | omega | simp)); exact j3.N9 (Imp.refl rfl) (by (repeat first | refine uA ?_ | (refine ⟨?_, ?_⟩; focus first | rfl | simp [slot]) | rfl | simp)) (c1M hν0 (by simp)))
 ·rw [if_pos (by simp only [c2d, Bool.not_eq_false', c1S] at hc; simp only [c1N, c1P]; obtain ⟨⟨⟨h7, h8⟩, h9⟩, h10⟩ := hc; exact ⟨⟨⟨h7, h8⟩, h9⟩, by omega⟩)]
  (repeat first | refine uA ?_ | (refine uK ?_ ?_; focus first | omega | (intros; simp_all <;> omega)) | simp (disch := omega) only [go_sem, Nat.reduceBEq, Nat.reduceAdd, ww])
  (refine S.done ?_; simp only [q8, l9, go_sem, Nat.reduceBEq, Nat.reduceAdd, Nat.reduceLeDiff, Int.reduceToNat, Int.reducePow]; (repeat (refine ⟨?_, ?_⟩; focus first | trivial | omega | simp)); exact j3.N9 (Imp.refl rfl) (by (repeat first | refine uA ?_ | (refine ⟨?_, ?_⟩; focus first | rfl | simp [slot]) | rfl | simp)) (c1M hν0 (by simp)))
theorem c1d {E : Ctx} (hP : E.P = Tryz.prog) (ht0 : Tz E) (n : Nms) (g : Gt) (hb : Gb 1073741824 g) :
  j5 E [.map true (nmE n)] 39 [.mp 0, g.c] (ints (a0G n g).1) [.map true (nmE (a0G n g).2)] [] := by
 obtain ⟨P, eff', N, w0, own0, av0, nu0, pk0⟩ := E
 simp only at hP
 subst hP
 refine j5.ofT (eff := eff) ht0 Tryz.func39 (by cbv) (by exact c2a rfl) fun w own av ν hν ht => ?_
 have hν0 : ν.length <= 1 := by rw [hν]; exact c1T _
 obtain ⟨name, ⟨lx, ly⟩, ⟨hx, hy⟩⟩ := g
 obtain ⟨b0, ⟨b1, b2⟩, ⟨b3, b4⟩⟩ := hb
 simp only at b0 b1 b2 b3 b4
 have h1 := fun (E : Ctx) (hP : E.P = Tryz.prog) => b1q hP n name (by omega)
 have h3 := a7O [⟨lx, ly⟩, ⟨hx, hy⟩] (Vbs.two (by decide) ⟨b1.mono (by decide), b2.mono (by decide)⟩ ⟨b3.mono (by decide), b4.mono (by decide)⟩)
 rw [a9s] at h3
 have h4 := U1 lx hx (b1.mono (by decide)) (b3.mono (by decide))
 have h5 := U1 ly hy (b2.mono (by decide)) (b4.mono (by decide))
 unfold a0G
 simp only
 generalize K9 n name = r at *
 obtain ⟨e1, m⟩ := r
 generalize (okV ⟨lx, ly⟩ && okV ⟨hx, hy⟩) = q1 at *
 generalize Nm.u7 (Nm.d9 lx) (Nm.d9 hx) = n1 at *
 generalize Nm.u7 (Nm.d9 ly) (Nm.d9 hy) = n2 at *
 simp only [l6]
 simp only [Gt.c, Gt.enc, vts, Vt.enc, rc, sb, ints, c2b, c2w] at *
 (repeat first | refine uA ?_ | (refine uK ?_ ?_; focus first | omega | (intros; simp_all <;> omega)) | simp (disch := omega) only [go_sem, Nat.reduceBEq, Nat.reduceAdd, ww] | refine l8.t (j5.lift (k := 0) rfl (h1 _ rfl) rfl rfl rfl) ?_)
 refine S.cond rfl (fun hc => ?_) (fun hc => ?_)
 ·rw [if_pos (by simpa using hc)]
  (repeat first | refine uA ?_ | (refine uK ?_ ?_; focus first | omega | (intros; simp_all <;> omega)) | simp (disch := omega) only [go_sem, Nat.reduceBEq, Nat.reduceAdd, ww])
  (refine S.done ?_; simp only [q8, l9, go_sem, Nat.reduceBEq, Nat.reduceAdd, Nat.reduceLeDiff, Int.reduceToNat, Int.reducePow]; (repeat (refine ⟨?_, ?_⟩; focus first | trivial | omega | simp)); exact j3.N9 (Imp.refl rfl) (by (repeat first | refine uA ?_ | (refine ⟨?_, ?_⟩; focus first | rfl | simp [slot]) | rfl | simp)) (c1M hν0 (by simp)))
 rw [if_neg (by simpa using hc)]
 (repeat first | refine uA ?_ | (refine uK ?_ ?_; focus first | omega | (intros; simp_all <;> omega)) | simp (disch := omega) only [go_sem, Nat.reduceBEq, Nat.reduceAdd, ww] | (refine uD h4 ?_ ?_ ?_; exact ht; exact rfl) | (refine uD h5 ?_ ?_ ?_; exact ht; exact rfl) | (refine uE h3 ?_ ?_ ?_ ?_; exact ht; exact rfl; focus (repeat' first | exact l7.nil | exact Imp.refl rfl | exact Imp.frz rfl rfl rfl | (refine Imp.a0j rfl rfl ?_ ?_; (focus ((try simp only [c1Y]); omega)); (focus first | rfl | assumption)) | refine l7.cons ?_ ?_); done))
 refine S.cond rfl (fun hc => ?_) (fun hc => ?_)
 ·rw [if_neg (by simp only [c2v, Bool.not_eq_true', c1P] at hc; simp only [c1N, c1P]; rintro ⟨⟨h7, h8⟩, h9⟩; rcases hc with (hc | hc) | hc <;> first | (rw [hc] at h7; cases h7; done) | omega)]
  (repeat first | refine uA ?_ | (refine uK ?_ ?_; focus first | omega | (intros; simp_all <;> omega)) | simp (disch := omega) only [go_sem, Nat.reduceBEq, Nat.reduceAdd, ww])
  (refine S.done ?_; simp only [q8, l9, go_sem, Nat.reduceBEq, Nat.reduceAdd, Nat.reduceLeDiff, Int.reduceToNat, Int.reducePow]; (repeat (refine ⟨?_, ?_⟩; focus first | trivial | omega | simp)); exact j3.N9 (Imp.refl rfl) (by (repeat first | refine uA ?_ | (refine ⟨?_, ?_⟩; focus first | rfl | simp [slot]) | rfl | simp)) (c1M hν0 (by simp)))
 ·rw [if_pos (by simp only [c2d, Bool.not_eq_false', c1S] at hc; simp only [c1N, c1P]; obtain ⟨⟨h7, h8⟩, h9⟩ := hc; exact ⟨⟨h7, by omega⟩, by omega⟩)]
  (repeat first | refine uA ?_ | (refine uK ?_ ?_; focus first | omega | (intros; simp_all <;> omega)) | simp (disch := omega) only [go_sem, Nat.reduceBEq, Nat.reduceAdd, ww])
  (refine S.done ?_; simp only [q8, l9, go_sem, Nat.reduceBEq, Nat.reduceAdd, Nat.reduceLeDiff, Int.reduceToNat, Int.reducePow]; (repeat (refine ⟨?_, ?_⟩; focus first | trivial | omega | simp)); exact j3.N9 (Imp.refl rfl) (by (repeat first | refine uA ?_ | (refine ⟨?_, ?_⟩; focus first | rfl | simp [slot]) | rfl | simp)) (c1M hν0 (by simp)))
theorem b5w {E : Ctx} (hP : E.P = Tryz.prog) (ht0 : Tz E) (n : Nms) (l : List Pt) (hn : l.length <= 1073741824) (hb : ∀ x ∈ l, Pb 1073741824 x) :
  j5 E [.map true (nmE n)] 34 [pts l, .bnd 35 (.mp 0)] (ints (w9 a0H n l).1) [.map true (nmE (w9 a0H n l).2)] [] := by
 obtain ⟨P, eff', N, w0, own0, av0, nu0, pk0⟩ := E
 simp only at hP
 subst hP
 refine j5.ofT (eff := eff) ht0 Tryz.func34 (by cbv) (by exact c2a rfl) fun w own av ν hν ht => ?_
 have hν0 : ν.length <= 1 := by rw [hν]; exact c1T _
 simp only [l6, pts, ints]
 (repeat first | refine uA ?_ | (refine uK ?_ ?_; focus first | omega | trivial | (intros; simp_all <;> omega)) | simp (disch := omega) only [go_sem, Nat.reduceBEq, Nat.reduceAdd, Nat.reduceLeDiff, Int.reduceToNat, Int.reducePow, ww, c1J])
 refine S.loop (X := Nat × Nms) (fun x => ⟨[(1, .bnd 35 (.mp 0)), (8, pts l), (9, ints l.length), (10, ints x.1)], [.map true (nmE x.2)]⟩) (fun x => x.1 <= l.length /\ w9 a0H n l = w9 a0H x.2 (l.drop x.1)) (fun x => l.length - x.1) (0, n) ⟨c1Q _, rfl⟩ (by (repeat first | refine uA ?_ | (refine ⟨?_, ?_⟩; focus first | rfl | trivial | (simp [slot]; done)) | rfl | trivial | simp | exact c1M hν0 (by simp))) ?_
 rintro ⟨i, m⟩ ⟨hi, hg⟩
 simp only [pts, ints] at hi hg ⊢
 (repeat first | refine uA ?_ | (refine uK ?_ ?_; focus first | omega | trivial | (intros; simp_all <;> omega)) | simp (disch := omega) only [go_sem, Nat.reduceBEq, Nat.reduceAdd, Nat.reduceLeDiff, Int.reduceToNat, Int.reducePow, ww])
 (refine uJ rfl (fun hc => ?_) fun hc => ?_)
 ·have hi' : i < l.length := by omega
  have hgi := c1I hi'
  generalize l[i] = x at hgi
  have hst := a2h (f := a0H) (s := m) hgi
  have hnx := a2l (f := a0H) (s := m) hgi
  have hs := fun (E : Ctx) (hP : E.P = Tryz.prog) (ht : Tz E) => b9Z hP ht m x (hb x (c1L hgi))
  generalize a0H m x = r at *
  obtain ⟨e, m'⟩ := r
  simp only [Pt.c, Pt.enc, vts, sb, ints] at hs hst hnx
  (repeat first | refine uA ?_ | (refine uK ?_ ?_; focus first | omega | trivial | (intros; simp_all <;> omega)) | simp (disch := omega) only [go_sem, Nat.reduceBEq, Nat.reduceAdd, Nat.reduceLeDiff, Int.reduceToNat, Int.reducePow, ww, hgi, c1K, c1J, Pt.c, Pt.enc, vts, sb] | refine l8.t (j5.lift (k := 0) rfl (hs _ rfl ht) rfl rfl rfl) ?_)
  refine S.cond rfl (fun hc2 => ?_) (fun hc2 => ?_)
  ·rw [hg, hst (by simpa using hc2)]
   (repeat first | refine uA ?_ | (refine uK ?_ ?_; focus first | omega | trivial | (intros; simp_all <;> omega)) | simp (disch := omega) only [go_sem, Nat.reduceBEq, Nat.reduceAdd, Nat.reduceLeDiff, Int.reduceToNat, Int.reducePow, ww])
   (refine S.done ?_; simp only [q8, l9, go_sem, Nat.reduceBEq, Nat.reduceAdd, Nat.reduceLeDiff, Int.reduceToNat, Int.reducePow]; (repeat (refine ⟨?_, ?_⟩; focus first | trivial | omega | simp)); exact j3.N9 (Imp.refl rfl) (by (repeat first | refine uA ?_ | (refine ⟨?_, ?_⟩; focus first | rfl | trivial | (simp [slot]; done)) | rfl | trivial | simp)) (c1M hν0 (by simp)))
  ·have hc3 : e = 0 := by simpa using hc2
   (repeat first | refine uA ?_ | (refine uK ?_ ?_; focus first | omega | trivial | (intros; simp_all <;> omega)) | simp (disch := omega) only [go_sem, Nat.reduceBEq, Nat.reduceAdd, Nat.reduceLeDiff, Int.reduceToNat, Int.reducePow, ww])
   refine S.next (x := (i, m)) (i + 1, m') ⟨by simp only; omega, by simp only; rw [hg, hnx hc3]⟩ (by simp only; omega) (by (repeat first | refine uA ?_ | (refine ⟨?_, ?_⟩; focus first | rfl | trivial | (simp [slot]; done)) | rfl | trivial | simp | exact c1M hν0 (by simp)))
 ·rw [hg, a3d (by omega)]
  (repeat first | refine uA ?_ | (refine uK ?_ ?_; focus first | omega | trivial | (intros; simp_all <;> omega)) | simp (disch := omega) only [go_sem, Nat.reduceBEq, Nat.reduceAdd, Nat.reduceLeDiff, Int.reduceToNat, Int.reducePow, ww])
  (refine S.done ?_; simp only [q8, l9, go_sem, Nat.reduceBEq, Nat.reduceAdd, Nat.reduceLeDiff, Int.reduceToNat, Int.reducePow]; (repeat (refine ⟨?_, ?_⟩; focus first | trivial | omega | simp)); exact j3.N9 (Imp.refl rfl) (by (repeat first | refine uA ?_ | (refine ⟨?_, ?_⟩; focus first | rfl | trivial | (simp [slot]; done)) | rfl | trivial | simp)) (c1M hν0 (by simp)))
theorem b5z {E : Ctx} (hP : E.P = Tryz.prog) (ht0 : Tz E) (n : Nms) (l : List Sl) (hn : l.length <= 1073741824) (hb : ∀ x ∈ l, Sb 1073741824 x) :
  j5 E [.map true (nmE n)] 36 [sls l, .bnd 37 (.mp 0)] (ints (w9 a0D n l).1) [.map true (nmE (w9 a0D n l).2)] [] := by
 obtain ⟨P, eff', N, w0, own0, av0, nu0, pk0⟩ := E
 simp only at hP
 subst hP
 refine j5.ofT (eff := eff) ht0 Tryz.func36 (by cbv) (by exact c2a rfl) fun w own av ν hν ht => ?_
 have hν0 : ν.length <= 1 := by rw [hν]; exact c1T _
 simp only [l6, sls, ints]
 (repeat first | refine uA ?_ | (refine uK ?_ ?_; focus first | omega | trivial | (intros; simp_all <;> omega)) | simp (disch := omega) only [go_sem, Nat.reduceBEq, Nat.reduceAdd, Nat.reduceLeDiff, Int.reduceToNat, Int.reducePow, ww, c1J])
 refine S.loop (X := Nat × Nms) (fun x => ⟨[(1, .bnd 37 (.mp 0)), (8, sls l), (9, ints l.length), (10, ints x.1)], [.map true (nmE x.2)]⟩) (fun x => x.1 <= l.length /\ w9 a0D n l = w9 a0D x.2 (l.drop x.1)) (fun x => l.length - x.1) (0, n) ⟨c1Q _, rfl⟩ (by (repeat first | refine uA ?_ | (refine ⟨?_, ?_⟩; focus first | rfl | trivial | (simp [slot]; done)) | rfl | trivial | simp | exact c1M hν0 (by simp))) ?_
 rintro ⟨i, m⟩ ⟨hi, hg⟩
 simp only [sls, ints] at hi hg ⊢
 (repeat first | refine uA ?_ | (refine uK ?_ ?_; focus first | omega | trivial | (intros; simp_all <;> omega)) | simp (disch := omega) only [go_sem, Nat.reduceBEq, Nat.reduceAdd, Nat.reduceLeDiff, Int.reduceToNat, Int.reducePow, ww])
 (refine uJ rfl (fun hc => ?_) fun hc => ?_)
 ·have hi' : i < l.length := by omega
  have hgi := c1I hi'
  generalize l[i] = x at hgi
  have hst := a2h (f := a0D) (s := m) hgi
  have hnx := a2l (f := a0D) (s := m) hgi
  have hs := fun (E : Ctx) (hP : E.P = Tryz.prog) (ht : Tz E) => c0M hP ht m x (hb x (c1L hgi))
  generalize a0D m x = r at *
  obtain ⟨e, m'⟩ := r
  simp only [Sl.c, Sl.enc, sb, ints] at hs hst hnx
  (repeat first | refine uA ?_ | (refine uK ?_ ?_; focus first | omega | trivial | (intros; simp_all <;> omega)) | simp (disch := omega) only [go_sem, Nat.reduceBEq, Nat.reduceAdd, Nat.reduceLeDiff, Int.reduceToNat, Int.reducePow, ww, hgi, c1K, c1J, Sl.c, Sl.enc, sb] | refine l8.t (j5.lift (k := 0) rfl (hs _ rfl ht) rfl rfl rfl) ?_)
  refine S.cond rfl (fun hc2 => ?_) (fun hc2 => ?_)
  ·rw [hg, hst (by simpa using hc2)]
   (repeat first | refine uA ?_ | (refine uK ?_ ?_; focus first | omega | trivial | (intros; simp_all <;> omega)) | simp (disch := omega) only [go_sem, Nat.reduceBEq, Nat.reduceAdd, Nat.reduceLeDiff, Int.reduceToNat, Int.reducePow, ww])
   (refine S.done ?_; simp only [q8, l9, go_sem, Nat.reduceBEq, Nat.reduceAdd, Nat.reduceLeDiff, Int.reduceToNat, Int.reducePow]; (repeat (refine ⟨?_, ?_⟩; focus first | trivial | omega | simp)); exact j3.N9 (Imp.refl rfl) (by (repeat first | refine uA ?_ | (refine ⟨?_, ?_⟩; focus first | rfl | trivial | (simp [slot]; done)) | rfl | trivial | simp)) (c1M hν0 (by simp)))
  ·have hc3 : e = 0 := by simpa using hc2
   (repeat first | refine uA ?_ | (refine uK ?_ ?_; focus first | omega | trivial | (intros; simp_all <;> omega)) | simp (disch := omega) only [go_sem, Nat.reduceBEq, Nat.reduceAdd, Nat.reduceLeDiff, Int.reduceToNat, Int.reducePow, ww])
   refine S.next (x := (i, m)) (i + 1, m') ⟨by simp only; omega, by simp only; rw [hg, hnx hc3]⟩ (by simp only; omega) (by (repeat first | refine uA ?_ | (refine ⟨?_, ?_⟩; focus first | rfl | trivial | (simp [slot]; done)) | rfl | trivial | simp | exact c1M hν0 (by simp)))
 ·rw [hg, a3d (by omega)]
  (repeat first | refine uA ?_ | (refine uK ?_ ?_; focus first | omega | trivial | (intros; simp_all <;> omega)) | simp (disch := omega) only [go_sem, Nat.reduceBEq, Nat.reduceAdd, Nat.reduceLeDiff, Int.reduceToNat, Int.reducePow, ww])
  (refine S.done ?_; simp only [q8, l9, go_sem, Nat.reduceBEq, Nat.reduceAdd, Nat.reduceLeDiff, Int.reduceToNat, Int.reducePow]; (repeat (refine ⟨?_, ?_⟩; focus first | trivial | omega | simp)); exact j3.N9 (Imp.refl rfl) (by (repeat first | refine uA ?_ | (refine ⟨?_, ?_⟩; focus first | rfl | trivial | (simp [slot]; done)) | rfl | trivial | simp)) (c1M hν0 (by simp)))
theorem b4Y {E : Ctx} (hP : E.P = Tryz.prog) (ht0 : Tz E) (n : Nms) (l : List Gt) (hn : l.length <= 1073741824) (hb : ∀ x ∈ l, Gb 1073741824 x) :
  j5 E [.map true (nmE n)] 38 [gts l, .bnd 39 (.mp 0)] (ints (w9 a0G n l).1) [.map true (nmE (w9 a0G n l).2)] [] := by
 obtain ⟨P, eff', N, w0, own0, av0, nu0, pk0⟩ := E
 simp only at hP
 subst hP
 refine j5.ofT (eff := eff) ht0 Tryz.func38 (by cbv) (by exact c2a rfl) fun w own av ν hν ht => ?_
 have hν0 : ν.length <= 1 := by rw [hν]; exact c1T _
 simp only [l6, gts, ints]
 (repeat first | refine uA ?_ | (refine uK ?_ ?_; focus first | omega | trivial | (intros; simp_all <;> omega)) | simp (disch := omega) only [go_sem, Nat.reduceBEq, Nat.reduceAdd, Nat.reduceLeDiff, Int.reduceToNat, Int.reducePow, ww, c1J])
 refine S.loop (X := Nat × Nms) (fun x => ⟨[(1, .bnd 39 (.mp 0)), (8, gts l), (9, ints l.length), (10, ints x.1)], [.map true (nmE x.2)]⟩) (fun x => x.1 <= l.length /\ w9 a0G n l = w9 a0G x.2 (l.drop x.1)) (fun x => l.length - x.1) (0, n) ⟨c1Q _, rfl⟩ (by (repeat first | refine uA ?_ | (refine ⟨?_, ?_⟩; focus first | rfl | trivial | (simp [slot]; done)) | rfl | trivial | simp | exact c1M hν0 (by simp))) ?_
 rintro ⟨i, m⟩ ⟨hi, hg⟩
 simp only [gts, ints] at hi hg ⊢
 (repeat first | refine uA ?_ | (refine uK ?_ ?_; focus first | omega | trivial | (intros; simp_all <;> omega)) | simp (disch := omega) only [go_sem, Nat.reduceBEq, Nat.reduceAdd, Nat.reduceLeDiff, Int.reduceToNat, Int.reducePow, ww])
 (refine uJ rfl (fun hc => ?_) fun hc => ?_)
 ·have hi' : i < l.length := by omega
  have hgi := c1I hi'
  generalize l[i] = x at hgi
  have hst := a2h (f := a0G) (s := m) hgi
  have hnx := a2l (f := a0G) (s := m) hgi
  have hs := fun (E : Ctx) (hP : E.P = Tryz.prog) (ht : Tz E) => c1d hP ht m x (hb x (c1L hgi))
  generalize a0G m x = r at *
  obtain ⟨e, m'⟩ := r
  simp only [Gt.c, Gt.enc, sb, ints] at hs hst hnx
  (repeat first | refine uA ?_ | (refine uK ?_ ?_; focus first | omega | trivial | (intros; simp_all <;> omega)) | simp (disch := omega) only [go_sem, Nat.reduceBEq, Nat.reduceAdd, Nat.reduceLeDiff, Int.reduceToNat, Int.reducePow, ww, hgi, c1K, c1J, Gt.c, Gt.enc, sb] | refine l8.t (j5.lift (k := 0) rfl (hs _ rfl ht) rfl rfl rfl) ?_)
  refine S.cond rfl (fun hc2 => ?_) (fun hc2 => ?_)
  ·rw [hg, hst (by simpa using hc2)]
   (repeat first | refine uA ?_ | (refine uK ?_ ?_; focus first | omega | trivial | (intros; simp_all <;> omega)) | simp (disch := omega) only [go_sem, Nat.reduceBEq, Nat.reduceAdd, Nat.reduceLeDiff, Int.reduceToNat, Int.reducePow, ww])
   (refine S.done ?_; simp only [q8, l9, go_sem, Nat.reduceBEq, Nat.reduceAdd, Nat.reduceLeDiff, Int.reduceToNat, Int.reducePow]; (repeat (refine ⟨?_, ?_⟩; focus first | trivial | omega | simp)); exact j3.N9 (Imp.refl rfl) (by (repeat first | refine uA ?_ | (refine ⟨?_, ?_⟩; focus first | rfl | trivial | (simp [slot]; done)) | rfl | trivial | simp)) (c1M hν0 (by simp)))
  ·have hc3 : e = 0 := by simpa using hc2
   (repeat first | refine uA ?_ | (refine uK ?_ ?_; focus first | omega | trivial | (intros; simp_all <;> omega)) | simp (disch := omega) only [go_sem, Nat.reduceBEq, Nat.reduceAdd, Nat.reduceLeDiff, Int.reduceToNat, Int.reducePow, ww])
   refine S.next (x := (i, m)) (i + 1, m') ⟨by simp only; omega, by simp only; rw [hg, hnx hc3]⟩ (by simp only; omega) (by (repeat first | refine uA ?_ | (refine ⟨?_, ?_⟩; focus first | rfl | trivial | (simp [slot]; done)) | rfl | trivial | simp | exact c1M hν0 (by simp)))
 ·rw [hg, a3d (by omega)]
  (repeat first | refine uA ?_ | (refine uK ?_ ?_; focus first | omega | trivial | (intros; simp_all <;> omega)) | simp (disch := omega) only [go_sem, Nat.reduceBEq, Nat.reduceAdd, Nat.reduceLeDiff, Int.reduceToNat, Int.reducePow, ww])
  (refine S.done ?_; simp only [q8, l9, go_sem, Nat.reduceBEq, Nat.reduceAdd, Nat.reduceLeDiff, Int.reduceToNat, Int.reducePow]; (repeat (refine ⟨?_, ?_⟩; focus first | trivial | omega | simp)); exact j3.N9 (Imp.refl rfl) (by (repeat first | refine uA ?_ | (refine ⟨?_, ?_⟩; focus first | rfl | trivial | (simp [slot]; done)) | rfl | trivial | simp)) (c1M hν0 (by simp)))
theorem b4F (l : List (List Vt)) (hn : l.length <= 1073741824) (hb : ∀ x ∈ l, Vbs 1073741824 x) : FZ 32 [wls l, .v (.func (.func 33) #[] #[])] (ints (H7 K3 l)) := by
 refine kW Tryz.func32 (by cbv) (by rfl) fun w O hw => ?_
 have hcal : callable Tryz.prog 33 = true := by kernel_rfl
 simp only [l6, wls, ints]
 (repeat first | refine uA ?_ | (refine uK ?_ ?_; focus first | omega | trivial | (intros; simp_all <;> omega)) | simp (disch := omega) only [go_sem, Nat.reduceBEq, Nat.reduceAdd, Nat.reduceLeDiff, Int.reduceToNat, Int.reducePow, ww, c1J])
 refine S.loop (X := Nat) (fun i => ⟨[(1, .v (.func (.func 33) #[] #[])), (8, wls l), (9, ints l.length), (10, ints i)], []⟩) (fun i => i <= l.length /\ H7 K3 l = H7 K3 (l.drop i)) (fun i => l.length - i) 0 ⟨c1Q _, rfl⟩ (by (repeat first | refine uA ?_ | (refine ⟨?_, ?_⟩; focus first | rfl | trivial | (simp [slot]; done)) | rfl | trivial | simp)) ?_
 rintro i ⟨hi, hg⟩
 simp only [wls, ints] at hi hg ⊢
 (repeat first | refine uA ?_ | (refine uK ?_ ?_; focus first | omega | trivial | (intros; simp_all <;> omega)) | simp (disch := omega) only [go_sem, Nat.reduceBEq, Nat.reduceAdd, Nat.reduceLeDiff, Int.reduceToNat, Int.reducePow, ww])
 (refine uJ rfl (fun hc => ?_) fun hc => ?_)
 ·have hi' : i < l.length := by omega
  have hgi := c1I hi'
  generalize l[i] = x at hgi
  have hst := a1I (f := K3) hgi
  have hnx := a1G (f := K3) hgi
  have hs := b2W x (hb x (c1L hgi))
  generalize K3 x = e at *
  simp only [ints] at hs
  (repeat first | refine uA ?_ | (refine uK ?_ ?_; focus first | omega | trivial | (intros; simp_all <;> omega)) | simp (disch := omega) only [go_sem, Nat.reduceBEq, Nat.reduceAdd, Nat.reduceLeDiff, Int.reduceToNat, Int.reducePow, ww, hgi, c1K, c1J, hcal] | (refine uD hs ?_ ?_ ?_; exact tz hw; exact rfl))
  refine S.cond rfl (fun hc2 => ?_) (fun hc2 => ?_)
  ·rw [hg, hst (by simpa using hc2)]
   (repeat first | refine uA ?_ | (refine uK ?_ ?_; focus first | omega | trivial | (intros; simp_all <;> omega)) | simp (disch := omega) only [go_sem, Nat.reduceBEq, Nat.reduceAdd, Nat.reduceLeDiff, Int.reduceToNat, Int.reducePow, ww])
   exact S.done (j3.out rfl (Imp.refl rfl) rfl)
  ·have hc3 : e = 0 := by simpa using hc2
   (repeat first | refine uA ?_ | (refine uK ?_ ?_; focus first | omega | trivial | (intros; simp_all <;> omega)) | simp (disch := omega) only [go_sem, Nat.reduceBEq, Nat.reduceAdd, Nat.reduceLeDiff, Int.reduceToNat, Int.reducePow, ww])
   refine S.next (i + 1) ⟨by omega, by rw [hg, hnx hc3]⟩ (by omega) (by (repeat first | refine uA ?_ | (refine ⟨?_, ?_⟩; focus first | rfl | trivial | (simp [slot]; done)) | rfl | trivial | simp))
 ·rw [hg, a2m (by omega)]
  (repeat first | refine uA ?_ | (refine uK ?_ ?_; focus first | omega | trivial | (intros; simp_all <;> omega)) | simp (disch := omega) only [go_sem, Nat.reduceBEq, Nat.reduceAdd, Nat.reduceLeDiff, Int.reduceToNat, Int.reducePow, ww])
  exact S.done (j3.out rfl (Imp.refl rfl) rfl)
end Go.Proofs.YtgmlehjgpgdjhaaGreatDoor
namespace Go.Proofs.YtgmlehjgpgdjhaaGreatDoor.Eng
open Go Go.RowKit
def Res.bdr (n : Nat) : Res -> Bool
 | .box _ cs => C.bdL n cs
 | _ => true
theorem c0E {ν : List Value} {w : World} {O O' : Nat -> Prop} {x : Value} {r : Res} {n : Nat} (hs : r.bdr n = true) (hO : ∀ b, O' b -> O b) (h : M9 ν w O x r) : M9 (ν.take n) w O' x r := by
 cases r with
 | gone => exact h
 | box t cs =>
  obtain ⟨b, vs, h1, h2, h3, h4⟩ := h
  exact ⟨b, vs, h1, j6.keep (Keeps.sub hO) (j6.takeν n hs h2), h3, h4⟩
 | row e sz es => exact a4W hO h
 | map s es => exact h
theorem c1m {ν ν' : List Value} {w : World} {O O' : Nat -> Prop} {x : Value} {r : Res} (hn : X5 [] ν ν') (hO : ∀ b, O' b -> O b) (h : M9 ν w O x r) : M9 ν' w O' x r := by
 cases r with
 | gone => exact h
 | box t cs =>
  obtain ⟨b, vs, h1, h2, h3, h4⟩ := h
  exact ⟨b, vs, h1, j6.keep (Keeps.sub hO) (j6.nu hn (fun k hk => by cases hk) h2), h3, h4⟩
 | row e sz es => exact a4W hO h
 | map s es => exact h
theorem X5.take (ν : List Value) (n : Nat) : X5 [] (ν.take n) ν := fun _ _ _ h => a0E h
theorem c1n {ν ν' : List Value} (h : X5 [] ν ν') (hl : ν'.length = ν.length) : ν' = ν := by
 apply List.ext_getElem?
 intro i
 rcases c2o i ν.length with h1 | h1
 ·have := h i _ (fun hk => by cases hk) (c1I h1)
  rw [this, c1I h1]
 ·rw [c2u h1, c2u (by omega)]
theorem a6k {rs ext : List Res} {ν : List Value} (hl : ν.length = (rs ++ ext).length) (b : Nat) : owned (rs ++ ext) ν b <-> owned rs (ν.take rs.length) b \/ ∃ k r x, ext[k]? = some r /\ ν[rs.length + k]? = some x /\ fp r x b := by
 constructor
 ·rintro ⟨k, r, x, h1, h2, h3⟩
  rcases c2o k rs.length with h | h
  ·rw [c1Z h] at h1
   exact .inl ⟨k, r, x, h1, O1 h h2, h3⟩
  ·rw [c2c h] at h1
   exact .inr ⟨k - rs.length, r, x, h1, by rw [show rs.length + (k - rs.length) = k by omega]; exact h2, h3⟩
 ·rintro (⟨k, r, x, h1, h2, h3⟩ | ⟨k, r, x, h1, h2, h3⟩)
  ·have h := (c1O.1 h1).1
   exact ⟨k, r, x, by rw [c1Z h]; exact h1, a0E h2, h3⟩
  ·exact ⟨rs.length + k, r, x, by rw [c2c (by omega), show rs.length + k - rs.length = k by omega]; exact h1, h2, h3⟩
theorem j5.ext {E : Ctx} {rs rs' : List Res} (ex : List Res) {f : Nat} {args : List C} {s : C} (h : j5 E rs f args s rs' []) (hl : rs'.length = rs.length) (hb : rs.all (Res.bdr rs.length) = true) (ha : C.bdL rs.length args = true) : j5 E (rs ++ ex) f args s (rs' ++ ex) [] := by
  intro av ν w vs hR hav hF hD
  have hlen := hR.len
  have hl1 : (ν.take rs.length).length = rs.length := by rw [c1V, hlen, c1Y]; omega
  generalize hν1 : ν.take rs.length = ν1 at hl1
  have hown := fun b => a6k hlen b
  rw [hν1] at hown
  have hx : ∀ b k r x, ex[k]? = some r -> ν[rs.length + k]? = some x -> fp r x b -> ¬ owned rs ν1 b := by
    rintro b k r x h1 h2 h3 ⟨l, q, y, g1, g2, g3⟩
    have hlt := (c1O.1 g1).1
    rw [<- hν1] at g2
    exact hR.dis l (rs.length + k) q r y x b (by omega) (by rw [c1Z hlt]; exact g1) (by rw [c2c (by omega), show rs.length + k - rs.length = k by omega]; exact h1) (a0E g2) h2 g3 h3
  let av' : Nat -> Prop := fun b => OO av (rs ++ ex) ν b /\ ¬ owned rs ν1 b
  have hOO : ∀ b, OO av' rs ν1 b -> OO av (rs ++ ex) ν b := fun b hb => by
    rcases hb with hb | hb
    · exact hb.1
    · exact .inr ((hown b).2 (.inl hb))
  have hRG : RG av' E.own0 E.w0.heap.size ν1 rs w := by
    refine ⟨hl1, fun k r hk => ?_, fun l m q q' y y' b hne h1 h2 h3 h4 => ?_, fun b hb => ?_, fun b hb => ?_, hR.n0⟩
    · have hlt := (c1O.1 hk).1
      obtain ⟨x, hx, hok⟩ := hR.res k r (by rw [c1Z hlt]; exact hk)
      refine ⟨x, by rw [<- hν1]; exact O1 hlt hx, ?_⟩
      rw [<- hν1]
      rw [List.all_eq_true] at hb
      exact c0E (hb r (c1L hk)) (by rw [hν1]; exact hOO) hok
    · have g1 := (c1O.1 h1).1
      have g2 := (c1O.1 h2).1
      rw [<- hν1] at h3 h4
      exact hR.dis l m q q' y y' b hne (by rw [c1Z g1]; exact h1) (by rw [c1Z g2]; exact h2) (a0E h3) (a0E h4)
    · obtain ⟨g1, g2, g3⟩ := hR.low b ((hown b).2 (.inl hb))
      exact ⟨g1, fun h => h.2 hb, g3⟩
    · rcases hb.1 with h1 | h1
      · exact hR.av b h1
      · exact (hR.low b h1).1
  have hnav : ∀ b, av b -> ¬ owned rs ν1 b := fun b hb ho => (hR.low b ((hown b).2 (.inl ho))).2.1 hb
  have hD' : j6 ν1 w (OO av' rs ν1) args vs := by
    have := j6.keep (Keeps.sub hOO) (j6.takeν rs.length ha hD)
    rwa [hν1] at this
  refine (h av' ν1 w vs hRG (fun b hb => ⟨.inl (hav b hb), hnav b (hav b hb)⟩) hF hD').mono ?_
  rintro e w' ⟨y, ν', rfl, h1, h2, h3⟩
  have hν' : ν' = ν1 := c1n h2.nu (by rw [h1.len, hl, hl1])
  subst hν'
  have hlen' : ν.length = (rs' ++ ex).length := by rw [hlen, c1Y, c1Y, hl]
  have hν1' : ν.take rs'.length = ν' := by rw [hl]; exact hν1
  have hown' := fun b => a6k hlen' b
  rw [hν1', hl] at hown'
  have hnu : X5 [] ν' ν := by rw [<- hν1]; exact X5.take ν _
  have hxo : ∀ b k r x, ex[k]? = some r -> ν[rs.length + k]? = some x -> fp r x b -> owned (rs ++ ex) ν b := fun b k r x g1 g2 g3 => (hown b).2 (.inr ⟨k, r, x, g1, g2, g3⟩)
  have hOO' : ∀ b, OO av (rs' ++ ex) ν b -> OO av' rs' ν' b := fun b hb => by
    rcases hb with hb | hb
    · exact .inl ⟨.inl hb, hnav b hb⟩
    · rcases (hown' b).1 hb with hb | ⟨k, r, x, g1, g2, g3⟩
      · exact .inr hb
      · exact .inl ⟨.inr (hxo b k r x g1 g2 g3), hx b k r x g1 g2 g3⟩
  have hM : Mv (rs ++ ex) ν w [] (rs' ++ ex) ν w' := by
    refine ⟨h2.os, h2.tape, h2.output, h2.size, fun b hb hn => h2.block b hb fun ho => hn ((hown b).2 (.inl ho)), fun b hb => ?_, fun _ _ _ h => h⟩
    rcases (hown' b).1 hb with hb | ⟨k, r, x, g1, g2, g3⟩
    · rcases h2.own b hb with g | g
      · exact .inl ((hown b).2 (.inl g))
      · exact .inr g
    · exact .inl (hxo b k r x g1 g2 g3)
  refine ⟨y, ν, rfl, ⟨hlen', fun k r hk => ?_, fun l m q q' z z' b hne g1 g2 g3 g4 g5 => ?_, fun b hb => ?_, fun b hb => c2g (hR.av b hb) h2.size, c1M hR.n0 h2.size⟩, hM, Den.keep (Keeps.sub hOO') (Den.nu hnu (fun k hk => by cases hk) h3)⟩
  · rcases c2o k rs'.length with hlt | hge
    · rw [c1Z hlt] at hk
      obtain ⟨x, hx', hok⟩ := h1.res k r hk
      exact ⟨x, hnu k x (fun hk => by cases hk) hx', c1m hnu hOO' hok⟩
    · have hk' : (rs ++ ex)[k]? = some r := by
        rw [c2c hge] at hk
        rw [c2c (by omega), <- hl]; exact hk
      obtain ⟨x, hx', hok⟩ := hR.res k r hk'
      refine ⟨x, hx', ?_⟩
      have := hok.mv (O' := OO av (rs' ++ ex) ν) (hM.keeps (av := av)) hM.nu (fun b hf => h2.block b (hR.lt hk' hx' hf) (by
        rw [c2c hge] at hk
        exact hx b (k - rs'.length) r x hk (by rw [show rs.length + (k - rs'.length) = k by omega]; exact hx') hf))
      rwa [a2y] at this
  · rcases c2o l rs'.length with hl1' | hl1' <;> rcases c2o m rs'.length with hm1 | hm1
    · rw [c1Z hl1'] at g1
      rw [c1Z hm1] at g2
      have e1 : ν'[l]? = some z := by rw [<- hν1']; exact O1 hl1' g3
      have e2 : ν'[m]? = some z' := by rw [<- hν1']; exact O1 hm1 g4
      exact h1.dis l m q q' z z' b hne g1 g2 e1 e2 g5
    · rw [c1Z hl1'] at g1
      rw [c2c hm1] at g2
      have e1 : ν'[l]? = some z := by rw [<- hν1']; exact O1 hl1' g3
      have g4' : ν[rs.length + (m - rs'.length)]? = some z' := by rw [show rs.length + (m - rs'.length) = m by omega]; exact g4
      intro hf
      rcases h2.own b ⟨l, q, z, g1, e1, g5⟩ with ho | ho
      · exact hx b _ q' z' g2 g4' hf ho
      · have := (hR.low b (hxo b _ q' z' g2 g4' hf)).1; omega
    · rw [c2c hl1'] at g1
      rw [c1Z hm1] at g2
      have e2 : ν'[m]? = some z' := by rw [<- hν1']; exact O1 hm1 g4
      have g3' : ν[rs.length + (l - rs'.length)]? = some z := by rw [show rs.length + (l - rs'.length) = l by omega]; exact g3
      intro hf
      rcases h2.own b ⟨m, q', z', g2, e2, hf⟩ with ho | ho
      · exact hx b _ q z g1 g3' g5 ho
      · have := (hR.low b (hxo b _ q z g1 g3' g5)).1; omega
    · rw [c2c hl1'] at g1
      rw [c2c hm1] at g2
      exact hR.dis l m q q' z z' b hne (by rw [c2c (by omega), <- hl]; exact g1) (by rw [c2c (by omega), <- hl]; exact g2) g3 g4 g5
  · rcases (hown' b).1 hb with hb | ⟨k, r, x, g1, g2, g3⟩
    · obtain ⟨a1, a2, a3⟩ := h1.low b hb
      exact ⟨a1, fun ha => a2 ⟨.inl ha, hnav b ha⟩, a3⟩
    · obtain ⟨a1, a2, a3⟩ := hR.low b (hxo b k r x g1 g2 g3)
      exact ⟨c2g a1 h2.size, a2, a3⟩
end Go.Proofs.YtgmlehjgpgdjhaaGreatDoor.Eng
namespace Go.Proofs.YtgmlehjgpgdjhaaGreatDoor
open Go Go.RowKit Eng
set_option maxRecDepth 10000
set_option maxHeartbeats 8000000
def rsW (w : Wk) (n : Nms) : List Res := [.box 31 w.enc, .map true (nmE n), .box 94 [.mp 1]]
theorem b8r {E : Ctx} (hP : E.P = Tryz.prog) (ht0 : Tz E) (w : Wk) (n : Nms) (a : Am) (hb : Ab 1073741824 a) :
  j5 E (rsW w n) 28 [a.c, .bp 2 0] (ints (a1T n a).1) (rsW w (a1T n a).2) [] := by
 obtain ⟨P, eff', N, w0, own0, av0, nu0, pk0⟩ := E
 simp only at hP
 subst hP
 refine j5.ofT (eff := eff) ht0 Tryz.func28 (by cbv) (by exact c2a rfl) fun w' own av ν hν ht => ?_
 have hν0 : ν.length <= 3 := by rw [hν]; exact c1T _
 have b0 := hb.1
 have h2 := b1U a hb
 have h1 := fun (E : Ctx) (hP : E.P = Tryz.prog) => b1q hP n a.name (by omega)
 unfold a1T
 generalize K9 n a.name = r at *
 obtain ⟨e1, m⟩ := r
 generalize J4 a = e2 at *
 obtain ⟨name, ⟨x, y, half, t⟩, links⟩ := a
 obtain ⟨arms, walls, parts, slots, gates, walk⟩ := w
 simp only [l6]
 simp only [Am.c, Am.enc, lks, sb, ints, rsW, Wk.enc, ams, wls, pts, sls, gts] at *
 (repeat first | refine uA ?_ | (refine uK ?_ ?_; focus first | omega | (intros; simp_all <;> omega)) | simp (disch := omega) only [go_sem, Nat.reduceBEq, Nat.reduceAdd, ww] | (refine uD h2 ?_ ?_ ?_; exact ht; exact rfl))
 refine S.cond rfl (fun hc => ?_) (fun hc => ?_)
 ·rw [if_pos (by simpa using hc)]
  (repeat first | refine uA ?_ | (refine uK ?_ ?_; focus first | omega | (intros; simp_all <;> omega)) | simp (disch := omega) only [go_sem, Nat.reduceBEq, Nat.reduceAdd, ww])
  (refine S.done ?_; simp only [q8, l9, go_sem, Nat.reduceBEq, Nat.reduceAdd, Nat.reduceLeDiff, Int.reduceToNat, Int.reducePow]; (repeat (refine ⟨?_, ?_⟩; focus first | trivial | omega | simp)); exact j3.N9 (Imp.refl rfl) (by (repeat first | refine uA ?_ | (refine ⟨?_, ?_⟩; focus first | rfl | simp [slot]) | rfl | simp)) (c1M hν0 (by simp)))
 rw [if_neg (by simpa using hc)]
 (repeat first | refine uA ?_ | (refine uK ?_ ?_; focus first | omega | (intros; simp_all <;> omega)) | simp (disch := omega) only [go_sem, Nat.reduceBEq, Nat.reduceAdd, ww] | refine l8.t (j5.lift (k := 1) rfl (h1 _ rfl) rfl rfl rfl) ?_)
 (refine S.done ?_; simp only [q8, l9, go_sem, Nat.reduceBEq, Nat.reduceAdd, Nat.reduceLeDiff, Int.reduceToNat, Int.reducePow]; (repeat (refine ⟨?_, ?_⟩; focus first | trivial | omega | simp)); exact j3.N9 (Imp.refl rfl) (by (repeat first | refine uA ?_ | (refine ⟨?_, ?_⟩; focus first | rfl | simp [slot]) | rfl | simp)) (c1M hν0 (by simp)))
theorem b6r {E : Ctx} (hP : E.P = Tryz.prog) (ht0 : Tz E) (w : Wk) (n : Nms) (l : List Am) (hn : l.length <= 1073741824) (hb : ∀ x ∈ l, Ab 1073741824 x) :
  j5 E (rsW w n) 31 [ams l, .clo 28 [.bp 2 0]] (ints (w9 a1T n l).1) (rsW w (w9 a1T n l).2) [] := by
 obtain ⟨P, eff', N, w0, own0, av0, nu0, pk0⟩ := E
 simp only at hP
 subst hP
 refine j5.ofT (eff := eff) ht0 Tryz.func31 (by cbv) (by exact c2a rfl) fun w' own av ν hν ht => ?_
 have hν0 : ν.length <= 3 := by rw [hν]; exact c1T _
 have hcal : callable Tryz.prog 28 = true := by kernel_rfl
 simp only [l6, ams, ints]
 simp only [rsW, Wk.enc, ams, wls, pts, sls, gts]
 (repeat first | refine uA ?_ | (refine uK ?_ ?_; focus first | omega | (intros; simp_all <;> omega)) | simp (disch := omega) only [go_sem, Nat.reduceBEq, Nat.reduceAdd, ww, c1J])
 refine S.loop (X := Nat × Nms) (fun x => ⟨[(1, .clo 28 [.bp 2 0]), (8, ams l), (9, ints l.length), (10, ints x.1)], rsW w x.2⟩) (fun x => x.1 <= l.length /\ w9 a1T n l = w9 a1T x.2 (l.drop x.1)) (fun x => l.length - x.1) (0, n) ⟨c1Q _, rfl⟩ (by simp only [rsW, Wk.enc, ams, wls, pts, sls, gts]; exact (by (repeat first | refine uA ?_ | (refine ⟨?_, ?_⟩; focus first | rfl | simp [slot]) | rfl | simp | exact c1M hν0 (by simp)))) ?_
 rintro ⟨i, m⟩ ⟨hi, hg⟩
 simp only [ams, ints, rsW, Wk.enc, wls, pts, sls, gts] at hi hg ⊢
 (repeat first | refine uA ?_ | (refine uK ?_ ?_; focus first | omega | (intros; simp_all <;> omega)) | simp (disch := omega) only [go_sem, Nat.reduceBEq, Nat.reduceAdd, ww])
 (refine uJ rfl (fun hc => ?_) fun hc => ?_)
 ·have hi' : i < l.length := by omega
  have hgi := c1I hi'
  generalize l[i] = x at hgi
  have hst := a2h (f := a1T) (s := m) hgi
  have hnx := a2l (f := a1T) (s := m) hgi
  have hs := fun (E : Ctx) (hP : E.P = Tryz.prog) (ht : Tz E) => b8r hP ht w m x (hb x (c1L hgi))
  generalize a1T m x = r at *
  obtain ⟨e, m'⟩ := r
  simp only [Am.c, Am.enc, lks, sb, ints, rsW, Wk.enc, ams, wls, pts, sls, gts] at hs hst hnx
  (repeat first | refine uA ?_ | (refine uK ?_ ?_; focus first | omega | (intros; simp_all <;> omega)) | simp (disch := omega) only [go_sem, Nat.reduceBEq, Nat.reduceAdd, ww, hgi, c1K, c1J, Am.enc, lks, sb, hcal] | refine l8.t (j5.ext _ (hs _ rfl ht) rfl rfl rfl) ?_)
  refine S.cond rfl (fun hc2 => ?_) (fun hc2 => ?_)
  ·rw [hg, hst (by simpa using hc2)]
   (repeat first | refine uA ?_ | (refine uK ?_ ?_; focus first | omega | (intros; simp_all <;> omega)) | simp (disch := omega) only [go_sem, Nat.reduceBEq, Nat.reduceAdd, ww])
   (refine S.done ?_; simp only [q8, l9, go_sem, Nat.reduceBEq, Nat.reduceAdd, Nat.reduceLeDiff, Int.reduceToNat, Int.reducePow]; (repeat (refine ⟨?_, ?_⟩; focus first | trivial | omega | simp)); exact j3.N9 (Imp.refl rfl) (by (repeat first | refine uA ?_ | (refine ⟨?_, ?_⟩; focus first | rfl | simp [slot]) | rfl | simp)) (c1M hν0 (by simp)))
  ·have hc3 : e = 0 := by simpa using hc2
   (repeat first | refine uA ?_ | (refine uK ?_ ?_; focus first | omega | (intros; simp_all <;> omega)) | simp (disch := omega) only [go_sem, Nat.reduceBEq, Nat.reduceAdd, ww])
   refine S.next (x := (i, m)) (i + 1, m') ⟨by simp only; omega, by simp only; rw [hg, hnx hc3]⟩ (by simp only; omega) (by (repeat first | refine uA ?_ | (refine ⟨?_, ?_⟩; focus first | rfl | simp [slot]) | rfl | simp | exact c1M hν0 (by simp)))
 ·rw [hg, a3d (by omega)]
  (repeat first | refine uA ?_ | (refine uK ?_ ?_; focus first | omega | (intros; simp_all <;> omega)) | simp (disch := omega) only [go_sem, Nat.reduceBEq, Nat.reduceAdd, ww])
  (refine S.done ?_; simp only [q8, l9, go_sem, Nat.reduceBEq, Nat.reduceAdd, Nat.reduceLeDiff, Int.reduceToNat, Int.reducePow]; (repeat (refine ⟨?_, ?_⟩; focus first | trivial | omega | simp)); exact j3.N9 (Imp.refl rfl) (by (repeat first | refine uA ?_ | (refine ⟨?_, ?_⟩; focus first | rfl | simp [slot]) | rfl | simp)) (c1M hν0 (by simp)))
theorem a8f (w : Wk) (hb : Wb 1073741824 w) : FZ 8 [w.c] (ints (a0d w)) := by
 refine kW a9U a9F (by rfl) fun w' O hw => ?_
 have ht : Tz ⟨Tryz.prog, eff, a2F.ntmps, w', fun _ => False, O, [], []⟩ := tz hw
 obtain ⟨⟨n1, b1⟩, ⟨n2, b2⟩, ⟨n3, b3⟩, ⟨n4, b4⟩, ⟨n5, b5⟩, b6⟩ := hb
 have h1 := fun (E : Ctx) (hP : E.P = Tryz.prog) (ht : Tz E) => b6r hP ht w [] w.arms n1 b1
 have h2 := b4F w.walls n2 b2
 unfold a0d a6P
 generalize w9 a1T [] w.arms = r1 at *
 obtain ⟨e1, m1⟩ := r1
 have h3 := fun (E : Ctx) (hP : E.P = Tryz.prog) (ht : Tz E) => b5w hP ht m1 w.parts n3 b3
 simp only at h3 ⊢
 generalize w9 a0H m1 w.parts = r3 at *
 obtain ⟨e3, m3⟩ := r3
 have h4 := fun (E : Ctx) (hP : E.P = Tryz.prog) (ht : Tz E) => b5z hP ht m3 w.slots n4 b4
 simp only at h4 ⊢
 generalize w9 a0D m3 w.slots = r4 at *
 obtain ⟨e4, m4⟩ := r4
 have h5 := fun (E : Ctx) (hP : E.P = Tryz.prog) (ht : Tz E) => b4Y hP ht m4 w.gates n5 b5
 simp only at h5 ⊢
 generalize w9 a0G m4 w.gates = r5 at *
 obtain ⟨e5, m5⟩ := r5
 generalize H7 K3 w.walls = e2 at *
 simp only
 have h6 := a1g w.walk (b6.mono (by decide))
 have h7 := a3E w.walk (b6.mono (by decide))
 have h8 := Z7 w.walk (b6.mono (by decide))
 unfold b1j
 generalize decide w.walk.G7 = q1 at *
 generalize j4 w.walk = q2 at *
 generalize F3 (Nm.d9 w.walk) = s8 at *
 obtain ⟨arms, walls, parts, slots, gates, walk⟩ := w
 simp only [a2F, l6, TT, II, OA, OB, OC, MM, LL, VV, FF, MG, LG, VG, FG] at ht ⊢
 simp only [Wk.c, Wk.enc, rsW, ams, wls, pts, sls, gts, rc, sb, ints] at *
 (repeat first | refine uA ?_ | (refine uK ?_ ?_; focus first | omega | (intros; simp_all <;> omega)) | simp (disch := omega) only [go_sem, Nat.reduceBEq, Nat.reduceAdd, ww, c1J])
 refine S.cond rfl (fun hc => ?_) (fun hc => ?_)
 ·rw [if_pos (by simp only [c2v, c1P] at hc; omega)]
  (repeat first | refine uA ?_ | (refine uK ?_ ?_; focus first | omega | (intros; simp_all <;> omega)) | simp (disch := omega) only [go_sem, Nat.reduceBEq, Nat.reduceAdd, ww])
  exact S.done (j3.out rfl (Imp.refl rfl) rfl)
 rw [if_neg (by simp only [c2d, c1S] at hc; omega)]
 (repeat first | refine uA ?_ | (refine uK ?_ ?_; focus first | omega | (intros; simp_all <;> omega)) | simp (disch := omega) only [go_sem, Nat.reduceBEq, Nat.reduceAdd, ww, c1J])
 refine S.cond rfl (fun hc => ?_) (fun hc => ?_)
 ·rw [if_pos (by simp only [c1P] at hc; omega)]
  (repeat first | refine uA ?_ | (refine uK ?_ ?_; focus first | omega | (intros; simp_all <;> omega)) | simp (disch := omega) only [go_sem, Nat.reduceBEq, Nat.reduceAdd, ww])
  exact S.done (j3.out rfl (Imp.refl rfl) rfl)
 rw [if_neg (by simp only [c1S] at hc; omega)]
 (repeat first | refine uI ?_ | (refine uK ?_ ?_; focus first | omega | (intros; simp_all <;> omega)) | simp (disch := omega) only [go_sem, Nat.reduceBEq, Nat.reduceAdd, ww])
 refine S.F5 [.box 31 [.sl 12 (arms.map Am.enc), .sl 1 (walls.map fun s => [vts s]), .sl 12 (parts.map Pt.enc), .sl 14 (slots.map Sl.enc), .sl 13 (gates.map Gt.enc), .v (.bool walk.neg), .v (.string (bs walk.num)), .v (.string (bs walk.den))], .gone, .box 94 [.mp 1]] (by simp [Eng.F4, Eng.P5]) ?_
 (repeat first | refine uA ?_ | (refine uK ?_ ?_; focus first | omega | (intros; simp_all <;> omega)) | simp (disch := omega) only [go_sem, Nat.reduceBEq, Nat.reduceAdd, ww, c1J, F4] | refine l8.t (h1 _ rfl ht) ?_ | refine l8.t (j5.lift (k := 1) rfl (h3 _ rfl ht) rfl rfl rfl) ?_ | refine l8.t (j5.lift (k := 1) rfl (h4 _ rfl ht) rfl rfl rfl) ?_ | refine l8.t (j5.lift (k := 1) rfl (h5 _ rfl ht) rfl rfl rfl) ?_ | (refine uD h2 ?_ ?_ ?_; exact tz hw; exact rfl))
 generalize hL : [e1, e2, e3, e4, e5] = L
 have hl5 : L.length = 5 := by rw [<- hL]; rfl
 have e63 : [[C.v (Value.int IntKind.i64 e1)], [C.v (Value.int IntKind.i64 e2)], [C.v (Value.int IntKind.i64 e3)], [C.v (Value.int IntKind.i64 e4)], [C.v (Value.int IntKind.i64 e5)]] = L.map fun e => [C.v (Value.int IntKind.i64 e)] := by rw [<- hL]; rfl
 simp only [e63]
 refine S.loop (X := Nat) (fun i => ⟨[(1, .bp 0 0), (63, .sl 1 (L.map fun e => [.v (.int .i64 e)])), (64, ints 5), (65, ints i)], [.box 31 [.sl 12 (arms.map Am.enc), .sl 1 (walls.map fun s => [vts s]), .sl 12 (parts.map Pt.enc), .sl 14 (slots.map Sl.enc), .sl 13 (gates.map Gt.enc), .v (.bool walk.neg), .v (.string (bs walk.num)), .v (.string (bs walk.den))]]⟩) (fun i => i <= 5 /\ H7 id L = H7 id (L.drop i)) (fun i => 5 - i) 0 ⟨c1Q _, rfl⟩ (by (repeat first | refine uA ?_ | (refine ⟨?_, ?_⟩; focus first | rfl | simp [slot]) | rfl | simp)) ?_
 rintro i ⟨hi, hg⟩
 simp only [ints] at hi hg ⊢
 (repeat first | refine uA ?_ | (refine uK ?_ ?_; focus first | omega | (intros; simp_all <;> omega)) | simp (disch := omega) only [go_sem, Nat.reduceBEq, Nat.reduceAdd, ww])
 (refine uJ rfl (fun hc => ?_) fun hc => ?_)
 ·have hi' : i < L.length := by omega
  have hgi := c1I hi'
  generalize L[i] = x at hgi
  have hst := a1I (f := id) hgi
  have hnx := a1G (f := id) hgi
  simp only [id] at hst hnx
  (repeat first | refine uA ?_ | (refine uK ?_ ?_; focus first | omega | (intros; simp_all <;> omega)) | simp (disch := omega) only [go_sem, Nat.reduceBEq, Nat.reduceAdd, ww, hgi, c1K, c1J, hl5])
  refine S.cond rfl (fun hc2 => ?_) (fun hc2 => ?_)
  ·have h0 : x ≠ 0 := by simpa using hc2
   rw [hg, hst h0, if_pos h0]
   (repeat first | refine uA ?_ | (refine uK ?_ ?_; focus first | omega | (intros; simp_all <;> omega)) | simp (disch := omega) only [go_sem, Nat.reduceBEq, Nat.reduceAdd, ww])
   exact S.done (j3.out rfl (Imp.refl rfl) rfl)
  ·have hc3 : x = 0 := by simpa using hc2
   (repeat first | refine uA ?_ | (refine uK ?_ ?_; focus first | omega | (intros; simp_all <;> omega)) | simp (disch := omega) only [go_sem, Nat.reduceBEq, Nat.reduceAdd, ww])
   refine S.next (i + 1) ⟨by omega, by rw [hg]; exact hnx hc3⟩ (by omega) (by (repeat first | refine uA ?_ | (refine ⟨?_, ?_⟩; focus first | rfl | simp [slot]) | rfl | simp))
 ·rw [hg, a2m (by omega), if_neg (by decide)]
  (repeat first | refine uA ?_ | (refine uK ?_ ?_; focus first | omega | (intros; simp_all <;> omega)) | simp (disch := omega) only [go_sem, Nat.reduceBEq, Nat.reduceAdd, ww] | (refine uD h6 ?_ ?_ ?_; exact tz hw; exact rfl) | (refine uD h7 ?_ ?_ ?_; exact tz hw; exact rfl) | (refine uD h8 ?_ ?_ ?_; exact tz hw; exact rfl))
  refine S.cond rfl (fun hc => ?_) (fun hc => ?_)
  ·rw [if_neg (by simp only [c2v, Bool.not_eq_true', c1P] at hc; simp only [c1N, c1P]; rintro ⟨⟨g7, g8⟩, g9⟩; rcases hc with (hc | hc) | hc <;> first | (rw [hc] at g7; cases g7; done) | (rw [hc] at g8; cases g8; done) | omega)]
   (repeat first | refine uA ?_ | (refine uK ?_ ?_; focus first | omega | (intros; simp_all <;> omega)) | simp (disch := omega) only [go_sem, Nat.reduceBEq, Nat.reduceAdd, ww])
   exact S.done (j3.out rfl (Imp.refl rfl) rfl)
  ·rw [if_pos (by simp only [c2d, Bool.not_eq_false', c1S] at hc; simp only [c1N, c1P]; obtain ⟨⟨g7, g8⟩, g9⟩ := hc; exact ⟨⟨g7, g8⟩, by omega⟩)]
   (repeat first | refine uA ?_ | (refine uK ?_ ?_; focus first | omega | (intros; simp_all <;> omega)) | simp (disch := omega) only [go_sem, Nat.reduceBEq, Nat.reduceAdd, ww])
   exact S.done (j3.out rfl (Imp.refl rfl) rfl)
end Go.Proofs.YtgmlehjgpgdjhaaGreatDoor
namespace Go.Proofs.YtgmlehjgpgdjhaaGreatDoor.Eng
open Go Go.RowKit
mutual
def C.sh (n : Nat) : C -> C
 | .rv k => .rv (n + k)
 | .agg cs => .agg (C.shL n cs)
 | .tup cs => .tup (C.shL n cs)
 | c => c
def C.shL (n : Nat) : List C -> List C
 | [] => []
 | c :: cs => C.sh n c :: C.shL n cs
end
mutual
def C.okS : C -> Bool
 | .rv _ => true
 | .agg cs => C.b3e cs
 | .tup cs => C.b3e cs
 | c => c.cl
def C.b3e : List C -> Bool
 | [] => true
 | c :: cs => C.okS c && C.b3e cs
end
section
variable {ν ν' : List Value} {w : World} {O O' : Nat -> Prop}
mutual
theorem b6j (hO : ∀ b, O' b -> O b) : ∀ {c : C} {y : Value}, c.okS = true -> Den ν' w O c y -> Den (ν ++ ν') w O' (C.sh ν.length c) y
 | .rv k, y, _, h => by
  simp only [C.sh, Den] at h ⊢
  exact ⟨by rw [c2c (by omega), show ν.length + k - ν.length = k by omega]; exact h.1, h.2⟩
 | .agg cs, y, hc, h => by
  simp only [C.sh, Den, C.okS] at h hc ⊢
  obtain ⟨vs, h1, h2⟩ := h
  exact ⟨vs, a9u hO hc h1, h2⟩
 | .tup cs, y, hc, h => by
  simp only [C.sh, Den, C.okS] at h hc ⊢
  obtain ⟨vs, h1, h2⟩ := h
  exact ⟨vs, a9u hO hc h1, h2⟩
 | .v x, y, hc, h => by simpa only [C.sh, Den] using h
 | .sl sz es, y, hc, h => by simp only [C.sh]; exact (Fz.keep (Keeps.sub hO) (h.fz hc)).den _
 | .nl, y, hc, h => by simpa only [C.sh, Den] using h
 | .ep cs, y, hc, h => by simp only [C.sh]; exact (Fz.keep (Keeps.sub hO) (h.fz hc)).den _
 | .clo f cs, y, hc, h => by simp only [C.sh]; exact (Fz.keep (Keeps.sub hO) (h.fz hc)).den _
 | .bnd f x, y, hc, h => by simp only [C.sh]; exact (Fz.keep (Keeps.sub hO) (h.fz hc)).den _
 | .any S, y, hc, h => by simpa only [C.sh, Den] using h
 | .bp _ _, y, hc, h => by simp only [C.okS, C.cl] at hc; cases hc
 | .rp _ _ _ _, y, hc, h => by simp only [C.okS, C.cl] at hc; cases hc
 | .mp _, y, hc, h => by simp only [C.okS, C.cl] at hc; cases hc
 | .wv _ _ _ _, y, hc, h => by simp only [C.okS, C.cl] at hc; cases hc
 | .g _ _, y, hc, h => by simp only [C.okS, C.cl] at hc; cases hc
 | .junk, y, hc, h => by simp only [C.okS, C.cl] at hc; cases hc
theorem a9u (hO : ∀ b, O' b -> O b) : ∀ {cs : List C} {vs : List Value}, C.b3e cs = true -> j6 ν' w O cs vs -> j6 (ν ++ ν') w O' (C.shL ν.length cs) vs
 | [], vs, _, h => by simpa only [C.shL, j6] using h
 | c :: cs, vs, hc, h => by
  simp only [C.shL, j6, C.b3e, c1N] at h hc ⊢
  obtain ⟨y, ys, e, h1, h2⟩ := h
  exact ⟨y, ys, e, b6j hO hc.1 h1, a9u hO hc.2 h2⟩
end
end
def Res.b8M : Res -> Bool
 | .gone => true
 | r => r.shut
theorem b7S {ν ν' : List Value} {w : World} {O O' : Nat -> Prop} {x : Value} {r : Res} (hs : r.b8M = true) (hO : ∀ b, O' b -> O b) (h : M9 ν w O x r) : M9 ν' w O' x r := by
 cases r with
 | gone => trivial
 | box t cs => exact a5f hs hO h
 | row e sz es => exact a5f rfl hO h
 | map s es => exact a5f rfl hO h
theorem j5.pre {E : Ctx} {rs rs' : List Res} {f : Nat} {args : List C} {s : C} (h : j5 E [] f args s rs' []) (hr : rs'.all Res.b8M = true) (hs : s.okS = true) (ha : C.clL args = true) : j5 E rs f args (C.sh rs.length s) (rs ++ rs') [] := by
  intro av ν w vs hR hav hF hD
  rw [List.all_eq_true] at hr
  let av' : Nat -> Prop := OO av rs ν
  have hlt : ∀ b, av' b -> b < w.heap.size := fun b hb => by
    rcases hb with hb | hb
    · exact hR.av b hb
    · exact (hR.low b hb).1
  have ho0 : ∀ b, ¬ owned [] [] b := fun b ⟨k, r, x, hk, _⟩ => by simp at hk
  have hRG : RG av' E.own0 E.w0.heap.size [] [] w := ⟨rfl, fun k r hk => by simp at hk, fun k l r r' x x' b _ hk => by simp at hk, fun b hb => (ho0 b hb).elim, hlt, hR.n0⟩
  have hOO : ∀ b, OO av' [] [] b -> OO av rs ν b := fun b hb => hb.elim id fun h => (ho0 b h).elim
  refine (h av' [] w vs hRG (fun b hb => .inl (hav b hb)) hF ((FzL.keep (Keeps.sub hOO) (hD.fz ha)).den _)).mono ?_
  rintro e w' ⟨y, ν', rfl, h1, h2, h3⟩
  have hlen : (ν ++ ν').length = (rs ++ rs').length := by rw [c1Y, c1Y, hR.len, h1.len]
  have htk : (ν ++ ν').take rs.length = ν := by rw [<- hR.len]; simp
  have hown := fun b => a6k hlen b
  rw [htk] at hown
  have hnew : ∀ b, (∃ k r x, rs'[k]? = some r /\ (ν ++ ν')[rs.length + k]? = some x /\ fp r x b) -> owned rs' ν' b := by
    rintro b ⟨k, r, x, g1, g2, g3⟩
    rw [<- hR.len, c2c (by omega), show ν.length + k - ν.length = k by omega] at g2
    exact ⟨k, r, x, g1, g2, g3⟩
  have hge : ∀ b, owned rs' ν' b -> w.heap.size <= b := fun b hb => (h2.own b hb).elim (fun h => (ho0 b h).elim) id
  have hnu : X5 [] ν (ν ++ ν') := fun k x _ hx => by rw [c1Z (c1O.1 hx).1]; exact hx
  have hM : Mv rs ν w [] (rs ++ rs') (ν ++ ν') w' := by
    refine ⟨h2.os, h2.tape, h2.output, h2.size, fun b hb _ => h2.block b hb (ho0 b), fun b hb => ?_, hnu⟩
    rcases (hown b).1 hb with hb | hb
    · exact .inl hb
    · exact .inr (hge b (hnew b hb))
  have hOO' : ∀ b, OO av (rs ++ rs') (ν ++ ν') b -> OO av' rs' ν' b := fun b hb => by
    rcases hb with hb | hb
    · exact .inl (.inl hb)
    · rcases (hown b).1 hb with hb | hb
      · exact .inl (.inr hb)
      · exact .inr (hnew b hb)
  refine ⟨y, ν ++ ν', rfl, ⟨hlen, fun k r hk => ?_, fun l m q q' z z' b hne g1 g2 g3 g4 g5 => ?_, fun b hb => ?_, fun b hb => c2g (hR.av b hb) h2.size, c1M hR.n0 h2.size⟩, hM, by rw [<- hR.len]; exact b6j hOO' hs h3⟩
  · rcases c2o k rs.length with hlt' | hge'
    · rw [c1Z hlt'] at hk
      obtain ⟨x, hx, hok⟩ := hR.res k r hk
      have := hok.mv (hM.keeps (av := av)) hM.nu (fun b hf => h2.block b (hR.lt hk hx hf) (ho0 b))
      rw [a2y] at this
      exact ⟨x, hnu k x (fun h => by cases h) hx, this⟩
    · rw [c2c hge'] at hk
      obtain ⟨x, hx, hok⟩ := h1.res _ r hk
      refine ⟨x, by rw [c2c (by rw [hR.len]; exact hge'), hR.len]; exact hx, b7S (hr r (c1L hk)) hOO' hok⟩
  · have old : ∀ {l q z}, l < rs.length -> (rs ++ rs')[l]? = some q -> (ν ++ ν')[l]? = some z -> rs[l]? = some q /\ ν[l]? = some z := fun hl a1 a2 => by
      rw [c1Z hl] at a1
      rw [c1Z (by rw [hR.len]; exact hl)] at a2
      exact ⟨a1, a2⟩
    have new : ∀ {l q z}, rs.length <= l -> (rs ++ rs')[l]? = some q -> (ν ++ ν')[l]? = some z -> rs'[l - rs.length]? = some q /\ ν'[l - rs.length]? = some z := fun hl a1 a2 => by
      rw [c2c hl] at a1
      rw [c2c (by rw [hR.len]; exact hl), hR.len] at a2
      exact ⟨a1, a2⟩
    rcases c2o l rs.length with hl1 | hl1 <;> rcases c2o m rs.length with hm1 | hm1
    · obtain ⟨a1, a2⟩ := old hl1 g1 g3
      obtain ⟨a3, a4⟩ := old hm1 g2 g4
      exact hR.dis l m q q' z z' b hne a1 a3 a2 a4 g5
    · obtain ⟨a1, a2⟩ := old hl1 g1 g3
      obtain ⟨a3, a4⟩ := new hm1 g2 g4
      intro hf
      have := hR.lt a1 a2 g5
      have := hge b ⟨_, _, _, a3, a4, hf⟩
      omega
    · obtain ⟨a1, a2⟩ := new hl1 g1 g3
      obtain ⟨a3, a4⟩ := old hm1 g2 g4
      intro hf
      have := hR.lt a3 a4 hf
      have := hge b ⟨_, _, _, a1, a2, g5⟩
      omega
    · obtain ⟨a1, a2⟩ := new hl1 g1 g3
      obtain ⟨a3, a4⟩ := new hm1 g2 g4
      exact h1.dis _ _ q q' z z' b (by omega) a1 a3 a2 a4 g5
  · rcases (hown b).1 hb with hb | hb
    · obtain ⟨a1, a2, a3⟩ := hR.low b hb
      exact ⟨c2g a1 h2.size, a2, a3⟩
    · obtain ⟨a1, a2, a3⟩ := h1.low b (hnew b hb)
      exact ⟨a1, fun ha => a2 (.inl ha), a3⟩
end Go.Proofs.YtgmlehjgpgdjhaaGreatDoor.Eng
namespace Go.Proofs.YtgmlehjgpgdjhaaGreatDoor
open Go Go.RowKit Eng
set_option maxRecDepth 100000
set_option maxHeartbeats 8000000
theorem b7Q (es : List (List C)) (hn : es.length <= 1073741824) : FNew Tryz.prog 27 [.sl 6 es] 44 6 es := by
 refine FNew.of (eff := eff) Tryz.func27 (by cbv) (by exact c2a rfl) fun w O => ?_
 simp only [l6]
 (repeat first | refine uA ?_ | (refine uK ?_ ?_; focus first | omega | (intros; simp_all <;> omega)) | simp (disch := omega) only [go_sem, Nat.reduceBEq, Nat.reduceAdd, ww])
 refine S.split 4 (Sx := fun y => ∃ b, y = .bool b /\ (es ≠ [] -> b = false)) rfl fun y hy => ?_
 obtain ⟨b, rfl, hb⟩ := hy
 refine S.cond rfl (fun hc => ?_) (fun hc => ?_)
 ·have he : es = [] := Classical.byContradiction fun h => by rw [hb h] at hc; cases hc
  subst he
  (repeat first | refine uA ?_ | (refine uK ?_ ?_; focus first | omega | (intros; simp_all <;> omega)) | simp (disch := omega) only [go_sem, Nat.reduceBEq, Nat.reduceAdd, ww])
  refine S.weaken (Ent.pack 2 44 6 rfl) ?_
  exact S.done (j3.new rfl rfl rfl)
 ·(repeat first | refine uA ?_ | (refine uK ?_ ?_; focus first | omega | (intros; simp_all <;> omega)) | simp (disch := omega) only [go_sem, Nat.reduceBEq, Nat.reduceAdd, ww])
  exact S.done (j3.new rfl rfl rfl)
theorem b6a (es : List (List C)) (hn : es.length <= 1073741824) : FNew Tryz.prog 112 [.sl 1 es] 4 1 es := by
 refine FNew.of (eff := eff) Tryz.func112 (by cbv) (by exact c2a rfl) fun w O => ?_
 simp only [l6]
 (repeat first | refine uA ?_ | (refine uK ?_ ?_; focus first | omega | (intros; simp_all <;> omega)) | simp (disch := omega) only [go_sem, Nat.reduceBEq, Nat.reduceAdd, ww])
 refine S.split 4 (Sx := fun y => ∃ b, y = .bool b /\ (es ≠ [] -> b = false)) rfl fun y hy => ?_
 obtain ⟨b, rfl, hb⟩ := hy
 refine S.cond rfl (fun hc => ?_) (fun hc => ?_)
 ·have he : es = [] := Classical.byContradiction fun h => by rw [hb h] at hc; cases hc
  subst he
  (repeat first | refine uA ?_ | (refine uK ?_ ?_; focus first | omega | (intros; simp_all <;> omega)) | simp (disch := omega) only [go_sem, Nat.reduceBEq, Nat.reduceAdd, ww])
  refine S.weaken (Ent.pack 2 4 1 rfl) ?_
  exact S.done (j3.new rfl rfl rfl)
 ·(repeat first | refine uA ?_ | (refine uK ?_ ?_; focus first | omega | (intros; simp_all <;> omega)) | simp (disch := omega) only [go_sem, Nat.reduceBEq, Nat.reduceAdd, ww])
  exact S.done (j3.new rfl rfl rfl)
theorem a4a (es : List (List C)) (hn : es.length <= 1073741824) : FNew Tryz.prog 113 [.sl 3 es] 29 3 es := by
 refine FNew.of (eff := eff) Tryz.func113 (by cbv) (by exact c2a rfl) fun w O => ?_
 simp only [l6]
 (repeat first | refine uA ?_ | (refine uK ?_ ?_; focus first | omega | (intros; simp_all <;> omega)) | simp (disch := omega) only [go_sem, Nat.reduceBEq, Nat.reduceAdd, ww])
 refine S.split 4 (Sx := fun y => ∃ b, y = .bool b /\ (es ≠ [] -> b = false)) rfl fun y hy => ?_
 obtain ⟨b, rfl, hb⟩ := hy
 refine S.cond rfl (fun hc => ?_) (fun hc => ?_)
 ·have he : es = [] := Classical.byContradiction fun h => by rw [hb h] at hc; cases hc
  subst he
  (repeat first | refine uA ?_ | (refine uK ?_ ?_; focus first | omega | (intros; simp_all <;> omega)) | simp (disch := omega) only [go_sem, Nat.reduceBEq, Nat.reduceAdd, ww])
  refine S.weaken (Ent.pack 2 29 3 rfl) ?_
  exact S.done (j3.new rfl rfl rfl)
 ·(repeat first | refine uA ?_ | (refine uK ?_ ?_; focus first | omega | (intros; simp_all <;> omega)) | simp (disch := omega) only [go_sem, Nat.reduceBEq, Nat.reduceAdd, ww])
  exact S.done (j3.new rfl rfl rfl)
theorem b5E (es : List (List C)) (hn : es.length <= 1073741824) : FNew Tryz.prog 111 [.sl 10 es] 48 10 es := by
 refine FNew.of (eff := eff) Tryz.func111 (by cbv) (by exact c2a rfl) fun w O => ?_
 simp only [l6]
 (repeat first | refine uA ?_ | (refine uK ?_ ?_; focus first | omega | (intros; simp_all <;> omega)) | simp (disch := omega) only [go_sem, Nat.reduceBEq, Nat.reduceAdd, ww])
 refine S.split 4 (Sx := fun y => ∃ b, y = .bool b /\ (es ≠ [] -> b = false)) rfl fun y hy => ?_
 obtain ⟨b, rfl, hb⟩ := hy
 refine S.cond rfl (fun hc => ?_) (fun hc => ?_)
 ·have he : es = [] := Classical.byContradiction fun h => by rw [hb h] at hc; cases hc
  subst he
  (repeat first | refine uA ?_ | (refine uK ?_ ?_; focus first | omega | (intros; simp_all <;> omega)) | simp (disch := omega) only [go_sem, Nat.reduceBEq, Nat.reduceAdd, ww])
  refine S.weaken (Ent.pack 2 48 10 rfl) ?_
  exact S.done (j3.new rfl rfl rfl)
 ·(repeat first | refine uA ?_ | (refine uK ?_ ?_; focus first | omega | (intros; simp_all <;> omega)) | simp (disch := omega) only [go_sem, Nat.reduceBEq, Nat.reduceAdd, ww])
  exact S.done (j3.new rfl rfl rfl)
theorem b4h (q : Rat) : Nm.ofQ (I4 q) = ⟨false, Nm.enc q.num.natAbs, Nm.enc q.den⟩ := by
 unfold I4
 by_cases h : q.num < 0
 ·rw [if_pos h, a8W]
  simp [h]
 ·rw [if_neg h]
  unfold Nm.ofQ
  rw [decide_eq_false h]
theorem a5N (a : Nm.Rt) (ha : Rb 17179869184 a) : FZ 61 [rc a] (rq (I4 (Nm.d9 a))) := by
 unfold rq
 rw [b4h]
 exact c0e a ha
theorem a3Z {k : Nat} {p : Rat} (h : Rb k (Nm.ofQ p)) : Rb k (Nm.ofQ (I4 p)) := by rw [b4h]; exact h
theorem b7X (a : Nm.Rt) (ha : Rb 68719476736 a) : FZ 99 [rc a] (.v (.bool (!I5 a))) := by
 refine kW Tryz.func99 (by cbv) (by rfl) fun w O hw => ?_
 have h := a1g a ha
 unfold I5
 generalize decide a.G7 = q at *
 simp only [l6]
 simp only [rc, sb] at *
 (repeat first | refine uA ?_ | (refine uK ?_ ?_; focus first | omega | (intros; simp_all <;> omega)) | simp (disch := omega) only [go_sem, Nat.reduceBEq, Nat.reduceAdd, ww] | (refine uD h ?_ ?_ ?_; exact tz hw; exact rfl))
 exact S.done (j3.out rfl (Imp.refl rfl) rfl)
theorem a6U (l : List Nm.Rt) (hl : Rbs 68719476736 l) : FZ 49 [rts l] (.v (.bool (l.all I5))) := by
 refine kW Tryz.func49 (by cbv) (by rfl) fun w O hw => ?_
 have h := b2T 99 (by kernel_rfl) (fun a => !I5 a) l (by have := hl.1; omega) (fun a ha => b7X a (hl.2 a ha))
 have e : l.all I5 = !l.any fun a => !I5 a := by rw [List.not_any_eq_all_not]; simp
 rw [e]
 generalize (l.any fun a => !I5 a) = q at *
 simp only [l6]
 simp only [rts] at *
 (repeat first | refine uA ?_ | (refine uK ?_ ?_; focus first | omega | (intros; simp_all <;> omega)) | simp (disch := omega) only [go_sem, Nat.reduceBEq, Nat.reduceAdd, ww] | (refine uD h ?_ ?_ ?_; exact tz hw; exact rfl))
 exact S.done (j3.out rfl (Imp.refl rfl) rfl)
theorem b8j (f : Fr) (hf : Fb 17179869184 f) : FZ 46 [f.c] (.v (.bool (V8 f))) := by
 refine kW Tryz.func46 (by cbv) (by rfl) fun w O hw => ?_
 obtain ⟨x, y, half, t⟩ := f
 obtain ⟨b1, b2, b3⟩ := hf
 simp only at b1 b2 b3
 have h1 := a6U _ (Rbs.three (by decide) (b1.mono (m := 68719476736) (by decide)) (b2.mono (m := 68719476736) (by decide)) (b3.mono (m := 68719476736) (by decide)))
 rw [b0P] at h1
 have h4 := Z7 t b3
 unfold V8 a3w
 simp only
 generalize (I5 x && I5 y && I5 t) = q1 at *
 generalize F3 (Nm.d9 t) = n at *
 simp only [l6]
 simp only [Fr.c, Fr.enc, rts, rcs, rc, sb, ints, c2b, c2w] at *
 (repeat first | refine uA ?_ | (refine uK ?_ ?_; focus first | omega | (intros; simp_all <;> omega)) | simp (disch := omega) only [go_sem, Nat.reduceBEq, Nat.reduceAdd, ww] | (refine uD h4 ?_ ?_ ?_; exact tz hw; exact rfl) | (refine uE h1 ?_ ?_ ?_ ?_; exact tz hw; exact rfl; focus (repeat' first | exact l7.nil | exact Imp.refl rfl | exact Imp.frz rfl rfl rfl | (refine Imp.a0j rfl rfl ?_ ?_; (focus ((try simp only [c1Y]); omega)); (focus first | rfl | assumption)) | refine l7.cons ?_ ?_); done))
 have e : (q1 && !(half && !decide (n = 0))) = (q1 && (!half || decide (n = 0))) := by cases q1 <;> cases half <;> simp
 rw [e]
 exact S.done (j3.out rfl (Imp.refl (by rfl)) rfl)
theorem b9K (f : Fr) (hf : Fb 17179869184 f) : FZ 45 [f.c] (.v (.bool (!V8 f))) := by
 refine kW Tryz.func45 (by cbv) (by rfl) fun w O hw => ?_
 have h := b8j f hf
 generalize V8 f = q at *
 simp only [l6]
 simp only [Fr.c, Fr.enc, sb] at *
 (repeat first | refine uA ?_ | (refine uK ?_ ?_; focus first | omega | (intros; simp_all <;> omega)) | simp (disch := omega) only [go_sem, Nat.reduceBEq, Nat.reduceAdd, ww] | (refine uD h ?_ ?_ ?_; exact tz hw; exact rfl))
 exact S.done (j3.out rfl (Imp.refl rfl) rfl)
theorem b9r (v : Vt) (hv : Vb 68719476736 v) : FZ 48 [v.c] (.v (.bool (!a5y v))) := by
 refine kW Tryz.func48 (by cbv) (by rfl) fun w O hw => ?_
 have h := a6U _ (Rbs.two (by decide) hv.1 hv.2)
 rw [a9s] at h
 unfold a5y
 generalize (I5 v.x && I5 v.y) = q at *
 simp only [l6]
 simp only [Vt.c, Vt.enc, rts, rcs, sb, c2b, c2w] at *
 (repeat first | refine uA ?_ | (refine uK ?_ ?_; focus first | omega | (intros; simp_all <;> omega)) | simp (disch := omega) only [go_sem, Nat.reduceBEq, Nat.reduceAdd, ww] | (refine uE h ?_ ?_ ?_ ?_; exact tz hw; exact rfl; focus (repeat' first | exact l7.nil | exact Imp.refl rfl | exact Imp.frz rfl rfl rfl | (refine Imp.a0j rfl rfl ?_ ?_; (focus ((try simp only [c1Y]); omega)); (focus first | rfl | assumption)) | refine l7.cons ?_ ?_); done))
 exact S.done (j3.out rfl (Imp.refl rfl) rfl)
theorem b5I {a : Am} {q : List Nm.Rt} (h : a1t a q = 0) : q.length = a.links.length := by
 unfold a1t at h
 split at h
 ·rename_i h1; exact absurd h h1
 ·split at h
  ·cases h
  ·rename_i h2; exact Classical.not_not.1 h2
theorem c1i (a : Am) (x : Ast) (parts : Nat) (ha : Ab 1073741824 a) (hx : Asb 1073741824 x) (hp : parts <= 1073741824) : FZ 43 [a.c, x.c, .v (.int .i64 (parts : Int))] (ints (Y3 a x parts)) := by
 refine kW Tryz.func43 (by cbv) (by rfl) fun w O hw => ?_
 have h1 := a6U x.q ⟨by have := hx.1.1; omega, fun r hr => (hx.1.2 r hr).mono (by decide)⟩
 have h2 := a6U x.v ⟨by have := hx.2.1; omega, fun r hr => (hx.2.2 r hr).mono (by decide)⟩
 have h3 := c0v a x.q ha hx.1
 have hln := b5I (a := a) (q := x.q)
 unfold Y3
 generalize a1t a x.q = e at *
 obtain ⟨q, v, power, holds⟩ := x
 simp only at h1 h2 h3 hln ⊢
 generalize q.all I5 = g1 at *
 generalize v.all I5 = g2 at *
 obtain ⟨hvn, hvb⟩ := hx.2
 obtain ⟨name, ⟨bx, by', half, t⟩, links⟩ := a
 obtain ⟨b0, ⟨b1, b2, b3⟩, hn, hb⟩ := ha
 simp only at b0 b1 b2 b3 hn hb hln hvn hvb ⊢
 simp only [l6]
 simp only [Am.c, Am.enc, Ast.c, Ast.enc, lks, rts, sb, ints] at *
 (repeat first | refine uA ?_ | (refine uK ?_ ?_; focus first | omega | (intros; simp_all <;> omega)) | simp (disch := omega) only [go_sem, Nat.reduceBEq, Nat.reduceAdd, ww] | (refine uD h1 ?_ ?_ ?_; exact tz hw; exact rfl) | (refine uD h2 ?_ ?_ ?_; exact tz hw; exact rfl))
 refine S.cond rfl (fun hc => ?_) (fun hc => ?_)
 ·rw [if_pos (by cases g1 <;> cases g2 <;> simp_all)]
  (repeat first | refine uA ?_ | (refine uK ?_ ?_; focus first | omega | (intros; simp_all <;> omega)) | simp (disch := omega) only [go_sem, Nat.reduceBEq, Nat.reduceAdd, ww])
  exact S.done (j3.out rfl (Imp.refl rfl) rfl)
 rw [if_neg (by cases g1 <;> cases g2 <;> simp_all)]
 (repeat first | refine uA ?_ | (refine uK ?_ ?_; focus first | omega | (intros; simp_all <;> omega)) | simp (disch := omega) only [go_sem, Nat.reduceBEq, Nat.reduceAdd, ww] | (refine uD h3 ?_ ?_ ?_; exact tz hw; exact rfl))
 refine S.cond rfl (fun hc => ?_) (fun hc => ?_)
 ·rw [if_pos (by simpa using hc)]
  (repeat first | refine uA ?_ | (refine uK ?_ ?_; focus first | omega | (intros; simp_all <;> omega)) | simp (disch := omega) only [go_sem, Nat.reduceBEq, Nat.reduceAdd, ww])
  exact S.done (j3.out rfl (Imp.refl rfl) rfl)
 rw [if_neg (by simpa using hc)]
 have hln := hln (by simpa using hc)
 (repeat first | refine uA ?_ | (refine uK ?_ ?_; focus first | omega | (intros; simp_all <;> omega)) | simp (disch := omega) only [go_sem, Nat.reduceBEq, Nat.reduceAdd, ww, c1J])
 refine S.cond rfl (fun hc => ?_) (fun hc => ?_)
 ·rw [if_pos (by simp only [c2v, Bool.not_eq_true', c1P, c1S] at hc; omega)]
  (repeat first | refine uA ?_ | (refine uK ?_ ?_; focus first | omega | (intros; simp_all <;> omega)) | simp (disch := omega) only [go_sem, Nat.reduceBEq, Nat.reduceAdd, ww])
  exact S.done (j3.out rfl (Imp.refl rfl) rfl)
 rw [if_neg (by simp only [c2d, Bool.not_eq_false', c1P, c1S] at hc; omega)]
 have hvl : v.length = links.length := by simp only [c2d, Bool.not_eq_false', c1P, c1S] at hc; omega
 (repeat first | refine uA ?_ | (refine uK ?_ ?_; focus first | omega | (intros; simp_all <;> omega)) | simp (disch := omega) only [go_sem, Nat.reduceBEq, Nat.reduceAdd, ww, c1J])
 refine S.loop (X := Nat) (fun i => ⟨[(4, .bp 1 0), (46, lks links), (47, ints links.length), (48, ints i)], [.gone, .box 61 [rts q, rts v, .v (.bool power), ints holds]]⟩) (fun i => i <= links.length /\ H7 a0A (links.zip v) = H7 a0A ((links.zip v).drop i)) (fun i => links.length - i) 0 ⟨c1Q _, rfl⟩ (by (repeat first | refine uA ?_ | (refine ⟨?_, ?_⟩; focus first | rfl | simp [slot]) | rfl | simp)) ?_
 rintro i ⟨hi, hg⟩
 simp only [lks, ints, rts]
 (repeat first | refine uA ?_ | (refine uK ?_ ?_; focus first | omega | (intros; simp_all <;> omega)) | simp (disch := omega) only [go_sem, Nat.reduceBEq, Nat.reduceAdd, ww])
 (refine uJ rfl (fun hc => ?_) fun hc => ?_)
 ·have hi' : i < links.length := by omega
  have hgi := c1I hi'
  have hgv := c1I (show i < v.length by omega)
  generalize links[i] = l at hgi
  generalize v[i]'_ = r at hgv
  have hz := J8 hgi hgv
  have hst := a1I (f := a0A) hz
  have hnx := a1G (f := a0A) hz
  have bl := hb l (c1L hgi)
  have br := (hvb r (c1L hgv)).mono (m := 17179869184) (by decide)
  have o1 := a5N r br
  have o2 := U1 (Nm.ofQ (I4 (Nm.d9 r))) l.speed (a3Z (br.fit (by decide))) (bl.2.2.2.1.mono (by decide))
  rw [Nm.D7] at o2
  unfold a0A at hst hnx
  simp only at hst hnx
  generalize Nm.u7 (I4 (Nm.d9 r)) (Nm.d9 l.speed) = n1 at *
  unfold rq at o1
  generalize Nm.ofQ (I4 (Nm.d9 r)) = ar at *
  have hvi : (i : Int) < v.length := by omega
  simp only [rc, sb, ints] at o1 o2
  (repeat first | refine uA ?_ | (refine uK ?_ ?_; focus first | omega | (intros; simp_all <;> omega)) | simp (disch := omega) only [go_sem, Nat.reduceBEq, Nat.reduceAdd, ww, hgi, hgv, c1K, c1J, Lk.enc, rcs, vts, sb, c1R] | (refine uD o1 ?_ ?_ ?_; exact tz hw; exact rfl) | (refine uD o2 ?_ ?_ ?_; exact tz hw; exact rfl))
  refine S.cond rfl (fun hc2 => ?_) (fun hc2 => ?_)
  ·have hp : 0 < n1 := by simpa using hc2
   rw [if_pos hp] at hst
   rw [hg, show a0A = fun x : Lk × Nm.Rt => if 0 < Nm.u7 (I4 (Nm.d9 x.2)) (Nm.d9 x.1.speed) then 1 else 0 from rfl, hst (by decide)]
   (repeat first | refine uA ?_ | (refine uK ?_ ?_; focus first | omega | (intros; simp_all <;> omega)) | simp (disch := omega) only [go_sem, Nat.reduceBEq, Nat.reduceAdd, ww])
   exact S.done (j3.out rfl (Imp.refl rfl) rfl)
  ·have hp : ¬ 0 < n1 := by simpa using hc2
   rw [if_neg hp] at hnx
   (repeat first | refine uA ?_ | (refine uK ?_ ?_; focus first | omega | (intros; simp_all <;> omega)) | simp (disch := omega) only [go_sem, Nat.reduceBEq, Nat.reduceAdd, ww])
   refine S.next (i + 1) ⟨by omega, ?_⟩ (by omega) (by (repeat first | refine uA ?_ | (refine ⟨?_, ?_⟩; focus first | rfl | simp [slot]) | rfl | simp))
   rw [hg, show a0A = fun x : Lk × Nm.Rt => if 0 < Nm.u7 (I4 (Nm.d9 x.2)) (Nm.d9 x.1.speed) then 1 else 0 from rfl, hnx rfl]
 ·rw [hg, a2m (by rw [List.length_zip]; omega)]
  (repeat first | refine uA ?_ | (refine uK ?_ ?_; focus first | omega | (intros; simp_all <;> omega)) | simp (disch := omega) only [go_sem, Nat.reduceBEq, Nat.reduceAdd, ww])
  exact S.done (j3.out rfl (Imp.refl rfl) rfl)
set_option maxHeartbeats 16000000
theorem c1j (h : List Int) (n : Int) : (a0Y (.int .i64 n) (hdE h)).getD (.bool false) = .bool (h.contains n) := by
 rw [b9w]; cases h.contains n <;> rfl
theorem b4i {α : Type} (p : α -> Bool) (l : List α) : l.all p = !l.any fun x => !p x := by rw [List.not_any_eq_all_not]; simp
theorem a7Y (w : Wk) (s : Stt) (hb : Wb 1073741824 w) (hs : Stb 1073741824 s) : FZ 9 [w.c, s.c] (ints (K5 w s)) := by
 refine kW a9I a9O (by rfl) fun w' O hw => ?_
 have hwk := a8f w hb
 obtain ⟨⟨n1, b1⟩, ⟨n2, b2⟩, ⟨n3, b3⟩, n4⟩ := hs
 have hone := fun (a : Am) (x : Ast) (ha : a ∈ w.arms) (hx : x ∈ s.arms) => c1i a x w.parts.length (hb.arms.2 a ha) (b1 x hx) (by have := hb.parts.1; omega)
 have hfr := b4E 45 (by kernel_rfl) (fun f => !V8 f) s.parts (by omega) (fun f hf => b9K f ⟨(b2 f hf).1.mono (by decide), (b2 f hf).2.1.mono (by decide), (b2 f hf).2.2.mono (by decide)⟩)
 have hvc := b1K 48 (by kernel_rfl) (fun v => !a5y v) s.people (by omega) (fun v hv => b9r v ((b3 v hv).mono (by decide)))
 have m1 := hb.arms.1
 have m2 := hb.parts.1
 have m3 := hb.gates.1
 unfold K5
 rw [b4i V8, b4i a5y]
 generalize a0d w = e0 at *
 generalize (s.parts.any fun f => !V8 f) = g1 at *
 generalize (s.people.any fun v => !a5y v) = g2 at *
 obtain ⟨arms, walls, parts, slots, gates, walk⟩ := w
 obtain ⟨tick, sarms, sparts, people, sgates⟩ := s
 simp only at *
 simp only [a5a, l6, TT, II, OA, OB, OC, MM, LL, VV, FF, MG, LG, VG, FG]
 simp only [Wk.c, Wk.enc, Stt.c, Stt.enc, ams, wls, pts, sls, gts, L8, frs, vts, bls, sb, ints] at hwk hfr hvc ⊢
 (repeat first | refine uA ?_ | (refine uK ?_ ?_; focus first | omega | (intros; simp_all <;> omega)) | simp (disch := omega) only [go_sem, Nat.reduceBEq, Nat.reduceAdd, ww] | (refine uD hwk ?_ ?_ ?_; exact tz hw; exact rfl))
 refine S.cond rfl (fun hc => ?_) (fun hc => ?_)
 ·rw [if_pos (by simpa using hc)]
  (repeat first | refine uA ?_ | (refine uK ?_ ?_; focus first | omega | (intros; simp_all <;> omega)) | simp (disch := omega) only [go_sem, Nat.reduceBEq, Nat.reduceAdd, ww])
  exact S.done (j3.out rfl (Imp.refl rfl) rfl)
 rw [if_neg (by simpa using hc)]
 (repeat first | refine uA ?_ | (refine uK ?_ ?_; focus first | omega | (intros; simp_all <;> omega)) | simp (disch := omega) only [go_sem, Nat.reduceBEq, Nat.reduceAdd, ww, c1J])
 refine S.cond rfl (fun hc => ?_) (fun hc => ?_)
 ·rw [if_pos (by simp only [c1P] at hc; omega)]
  (repeat first | refine uA ?_ | (refine uK ?_ ?_; focus first | omega | (intros; simp_all <;> omega)) | simp (disch := omega) only [go_sem, Nat.reduceBEq, Nat.reduceAdd, ww])
  exact S.done (j3.out rfl (Imp.refl rfl) rfl)
 rw [if_neg (by simp only [c1S] at hc; omega)]
 (repeat first | refine uA ?_ | (refine uK ?_ ?_; focus first | omega | (intros; simp_all <;> omega)) | simp (disch := omega) only [go_sem, Nat.reduceBEq, Nat.reduceAdd, ww, c1J])
 refine S.cond rfl (fun hc => ?_) (fun hc => ?_)
 ·rw [if_pos (by simp only [c2v, Bool.not_eq_true', c1P, c1S] at hc; omega)]
  (repeat first | refine uA ?_ | (refine uK ?_ ?_; focus first | omega | (intros; simp_all <;> omega)) | simp (disch := omega) only [go_sem, Nat.reduceBEq, Nat.reduceAdd, ww])
  exact S.done (j3.out rfl (Imp.refl rfl) rfl)
 have hls : sarms.length = arms.length := by simp only [c2d, Bool.not_eq_false', c1P, c1S] at hc; omega
 rw [if_neg (by simp only [c2d, Bool.not_eq_false', c1P, c1S] at hc; omega)]
 (repeat first | refine uA ?_ | (refine uK ?_ ?_; focus first | omega | (intros; simp_all <;> omega)) | simp (disch := omega) only [go_sem, Nat.reduceBEq, Nat.reduceAdd, ww, c1J])
 refine S.loop (X := Nat × List Int) (fun x => ⟨[(2, .bp 0 0), (3, .bp 1 0), (6, .mp 2), (56, L8 sarms), (57, ints sarms.length), (58, ints x.1)], [.box 31 [ams arms, wls walls, pts parts, sls slots, gts gates, .v (.bool walk.neg), sb walk.num, sb walk.den], .box 37 [ints tick, L8 sarms, frs sparts, vts people, bls sgates], .map false (hdE x.2)]⟩)
  (fun x => x.1 <= sarms.length /\ w9 (a0q parts.length) [] (arms.zip sarms) = w9 (a0q parts.length) x.2 ((arms.zip sarms).drop x.1)) (fun x => sarms.length - x.1) (0, []) ⟨c1Q _, rfl⟩ (by (repeat first | refine uA ?_ | (refine ⟨?_, ?_⟩; focus first | rfl | simp [slot]) | rfl | simp)) ?_
 rintro ⟨i, h⟩ ⟨hi, hg⟩
 simp only [ams, wls, pts, sls, gts, L8, frs, vts, bls, sb, ints] at hi hg ⊢
 (repeat first | refine uA ?_ | (refine uK ?_ ?_; focus first | omega | (intros; simp_all <;> omega)) | simp (disch := omega) only [go_sem, Nat.reduceBEq, Nat.reduceAdd, ww])
 (refine uJ rfl (fun hc => ?_) fun hc => ?_)
 ·have hgx := c1I (show i < sarms.length by omega)
  have hga := c1I (show i < arms.length by omega)
  generalize sarms[i]'_ = x at hgx
  generalize arms[i]'_ = a at hga
  have hz := J8 hga hgx
  have hst := a2h (f := a0q parts.length) (s := h) hz
  have hnx := a2l (f := a0q parts.length) (s := h) hz
  have ho := hone a x (c1L hga) (c1L hgx)
  have hlk := c1j h x.holds
  have hpt := c0D h x.holds
  have hai : (i : Int) < arms.length := by omega
  have hv : a0q parts.length h (a, x) = if Y3 a x parts.length ≠ 0 then (Y3 a x parts.length, h) else if (decide (0 <= x.holds) && h.contains x.holds) = true then (10, h) else (0, a6Z h x.holds) := rfl
  rw [hv] at hst hnx
  clear hv
  generalize Y3 a x parts.length = e1 at *
  generalize h.contains x.holds = c1 at *
  simp only [Am.c, Am.enc, Ast.c, Ast.enc, lks, rts, sb, ints] at ho
  (repeat first | refine uA ?_ | (refine uK ?_ ?_; focus first | omega | (intros; simp_all <;> omega)) | simp (disch := omega) only [go_sem, Nat.reduceBEq, Nat.reduceAdd, ww, hga, hgx, c1K, c1J, Am.enc, Ast.enc, lks, rts, sb, ints, c1R] | (refine uD ho ?_ ?_ ?_; exact tz hw; exact rfl))
  refine S.cond rfl (fun hc2 => ?_) (fun hc2 => ?_)
  ·have h0 : e1 ≠ 0 := by simpa using hc2
   rw [if_pos h0] at hst
   rw [hg, hst h0, if_pos h0]
   (repeat first | refine uA ?_ | (refine uK ?_ ?_; focus first | omega | (intros; simp_all <;> omega)) | simp (disch := omega) only [go_sem, Nat.reduceBEq, Nat.reduceAdd, ww])
   exact S.done (j3.out rfl (Imp.refl rfl) rfl)
  have h0 : e1 = 0 := by simpa using hc2
  rw [if_neg (by simp [h0])] at hst hnx
  (repeat first | refine uA ?_ | (refine uK ?_ ?_; focus first | omega | (intros; simp_all <;> omega)) | simp (disch := omega) only [go_sem, Nat.reduceBEq, Nat.reduceAdd, ww, hlk])
  refine S.cond rfl (fun hc3 => ?_) (fun hc3 => ?_)
  ·rw [if_pos hc3] at hst
   rw [hg, hst (by simp), if_pos (by simp)]
   (repeat first | refine uA ?_ | (refine uK ?_ ?_; focus first | omega | (intros; simp_all <;> omega)) | simp (disch := omega) only [go_sem, Nat.reduceBEq, Nat.reduceAdd, ww])
   exact S.done (j3.out rfl (Imp.refl rfl) rfl)
  ·rw [if_neg (by rw [hc3]; decide)] at hnx
   (repeat first | refine uA ?_ | (refine uK ?_ ?_; focus first | omega | (intros; simp_all <;> omega)) | simp (disch := omega) only [go_sem, Nat.reduceBEq, Nat.reduceAdd, ww, hpt])
   refine S.next (x := (i, h)) (i + 1, a6Z h x.holds) ⟨by simp only; omega, by simp only; rw [hg, hnx rfl]⟩ (by simp only; omega) (by (repeat first | refine uA ?_ | (refine ⟨?_, ?_⟩; focus first | rfl | simp [slot]) | rfl | simp))
 ·rw [hg, a3d (by rw [List.length_zip]; omega), if_neg (by simp)]
  (repeat first | refine uA ?_ | (refine uK ?_ ?_; focus first | omega | (intros; simp_all <;> omega)) | simp (disch := omega) only [go_sem, Nat.reduceBEq, Nat.reduceAdd, ww] | (refine uD hfr ?_ ?_ ?_; exact tz hw; exact rfl) | (refine uD hvc ?_ ?_ ?_; exact tz hw; exact rfl))
  refine S.cond rfl (fun hc => ?_) (fun hc => ?_)
  ·rw [if_neg (by cases g1 <;> cases g2 <;> simp_all)]
   (repeat first | refine uA ?_ | (refine uK ?_ ?_; focus first | omega | (intros; simp_all <;> omega)) | simp (disch := omega) only [go_sem, Nat.reduceBEq, Nat.reduceAdd, ww])
   exact S.done (j3.out rfl (Imp.refl rfl) rfl)
  ·rw [if_pos (by cases g1 <;> cases g2 <;> simp_all)]
   (repeat first | refine uA ?_ | (refine uK ?_ ?_; focus first | omega | (intros; simp_all <;> omega)) | simp (disch := omega) only [go_sem, Nat.reduceBEq, Nat.reduceAdd, ww])
   exact S.done (j3.out rfl (Imp.refl rfl) rfl)
theorem H6 : Rb 8 (Nm.ofQ 0) := ⟨Nm.E8 (by decide), Nm.E8 (by decide)⟩
theorem b1n : FZ 86 [.v (.int .i64 0)] (rq 0) := by
 have := a2Y 0 (by decide) (by decide)
 rwa [show ((0 : Int) : Rat) = 0 from rfl] at this
theorem b4p : FZ 56 [] a0W.c := by
 refine kW Tryz.func56 (by cbv) (by rfl) fun w O hw => ?_
 have h1 := b1n
 have h2 := a5M (Nm.ofQ 0) (H6.mono (by decide))
 rw [Nm.D7] at h2
 unfold tq rq at *
 unfold a0W
 generalize Nm.ofQ 0 = r at *
 simp only [l6]
 simp only [Fr.c, Fr.enc, rc, tc, sb] at *
 (repeat first | refine uA ?_ | (refine uK ?_ ?_; focus first | omega | (intros; simp_all <;> omega)) | simp (disch := omega) only [go_sem, Nat.reduceBEq, Nat.reduceAdd, ww] | (refine uD h1 ?_ ?_ ?_; exact tz hw; exact rfl) | (refine uD h2 ?_ ?_ ?_; exact tz hw; exact rfl))
 (refine S.done ?_; simp only [q8, l9, go_sem, Nat.reduceBEq, Nat.reduceAdd, Nat.reduceLeDiff, Int.reduceToNat, Int.reducePow]; (repeat (refine ⟨?_, ?_⟩; focus first | trivial | omega | simp)); exact j3.out rfl (Imp.refl rfl) rfl)
open Go Eng
def c1e : List Nat := [113]
def c0w (f : Nat) : Bool := c1e.contains f
def a3a : Q8 := ⟨68, [.cell 4 true 4, .tmp 5], .seq (.reg [OA 2 (.box 51 (TT 0)), OA 3 (.box 61 (TT 1)), OA 4 (.alloc 61 [.slice none 0 0, .slice none 0 0, .bool false, .int .i64 0]), OA 5 (.mv (II 0))]) (.seq (.seq (.reg [LL 10 12 2, FF 11 0 3,
 VV 12 11, FF 13 1 3, VV 14 13, OA 15 (.call 119 [TT 10, TT 12, TT 14]), MM 6 15]) (.seq (.reg [MM 16 6, OA 17 (.bin .neq (TT 16) (II 0))]) (.cond (TT 17) (.seq (.reg [OA 18 (.build [.slice none 0 0, .slice none 0 0, .bool false,
 .int .i64 0] []), MM 19 6, OB (.store 4 (TT 4) (TT 18)), MM 5 19]) .ret) .skip))) (.seq (.F5 [.q, .q, .e none false, .l, .l, .e none false, .l, .l, .l, .l, .q, .a, .e (some 7) true] [FF 20 0 3, VV 21 20, OA 22 (.call 113 [TT
 21]), FF 23 1 3, VV 24 23, OA 25 (.call 113 [TT 24]), FF 26 2 3, VV 27 26, FF 28 3 3, VV 29 28, OA 30 (.build [.slice none 0 0, .slice none 0 0, .bool false, .int .i64 0] [(0, (1, TT 22)), (1, (1, TT 25)), (2, (1, TT 27)), (3,
 (1, TT 29))]), OA 7 (.alloc 61 [.slice none 0 0, .slice none 0 0, .bool false, .int .i64 0]), OB (.store 4 (TT 7) (TT 30))]) (.seq (.seq (.reg [FF 31 11 2, VV 32 31, OA 33 (.len false (TT 32)), OA 34 (.mv (II 0))]) (.block 0
 (.loop (.seq (.reg [OA 35 (.bin .lss (TT 34) (TT 33))]) (.seq (.cond (TT 35) .skip (.exit 0)) (.seq (.block 1 (.seq (.reg [MM 36 34, OA 37 (.p9 16 (TT 32) (TT 34)), LL 38 16 37, OA 9 (.alloc 53 [.bool false, .string ⟨#[]⟩,
 .string ⟨#[]⟩, .bool false, .string ⟨#[]⟩, .string ⟨#[]⟩, .bool false, .string ⟨#[]⟩, .string ⟨#[]⟩, .bool false, .string ⟨#[]⟩, .string ⟨#[]⟩, .bool false, .string ⟨#[]⟩, .string ⟨#[]⟩, .slice none 0 0]), MM 8 36, OB (.store 16
 (TT 9) (TT 38))]) (.seq (.F5 [.q, .q, .q, .q, .q, .q, .q, .q, .q, .q, .q, .q, .e none true] [FF 39 1 7, VV 40 39, MM 41 8, FF 42 12 9, LL 43 3 42, FF 44 1 3, VV 45 44, MM 46 8, OA 47 (.p9 3 (TT 45) (TT 46)), LL 48 3 47, OA
 49 (.call 139 [TT 43, TT 48]), OA 50 (.p9 3 (TT 40) (TT 41)), OB (.store 3 (TT 50) (TT 49))]) (.F5 [.q, .q, .q, .q, .q, .q, .q, .q, .q, .q, .q, .q, .q, .q, .q, .e none true] [FF 51 0 7, VV 52 51, MM 53 8, FF 54 0 3, VV 55
 54, MM 56 8, OA 57 (.p9 3 (TT 55) (TT 56)), LL 58 3 57, FF 59 1 7, VV 60 59, MM 61 8, OA 62 (.p9 3 (TT 60) (TT 61)), LL 63 3 62, OA 64 (.call 72 [TT 58, TT 63]), OA 65 (.p9 3 (TT 52) (TT 53)), OB (.store 3 (TT 65) (TT
 64))])))) (.reg [OA 66 (.bin .add (TT 34) (II 1)), MM 34 66]))))))) (.seq (.reg [LL 67 4 7, OB (.store 4 (TT 4) (TT 67)), OA 5 (.mv (II 0))]) .ret))))⟩
theorem a6y : M6 c0w Tryz.prog Tryz.f115 = some a3a := by kernel_rfl
theorem a6n : Tryz.prog.funcs[115]? = some Tryz.f115 := Tryz.func115
set_option maxHeartbeats 8000000
theorem b0B {b v : Rat} (h : 0 < F3 b) (hv : F3 v = 0) : Nm.u7 (I4 v) b <= 0 := by
 have h1 := a6J b
 have h2 := a6J v
 have h3 : v = 0 := by
  rcases h2 with h2 | h2 | h2
  ·omega
  ·exact h2.2
  ·omega
 have h4 : 0 < b := by
  rcases h1 with h1 | h1 | h1
  ·omega
  ·omega
  ·exact h1.2
 have h5 : ¬ 0 < Nm.u7 (I4 v) b := fun h => by
  have := (Y8 _ _).1 h
  rw [h3, show I4 0 = 0 from rfl] at this
  grind
 omega
theorem b7B (b v : Nm.Rt) (hb : Rb 1073741824 b) (hv : Rb 1073741824 v) (h : 0 < F3 (Nm.d9 b)) : FZ 139 [rc b, rc v] (rc (Z9 b v)) := by
 refine kW Tryz.func139 (by cbv) (by rfl) fun w O hw => ?_
 have o1 := Z7 b (hb.mono (by decide))
 have o2 := a5N v (hv.mono (by decide))
 have o3 := U1 (Nm.ofQ (I4 (Nm.d9 v))) b (a3Z ((hv.mono (m := 17179869184) (by decide)).fit (by decide))) (hb.mono (by decide))
 rw [Nm.D7] at o3
 have o4 := b1n
 have o5 := Z7 v (hv.mono (by decide))
 have o6 := a5c v b (hv.mono (by decide)) (hb.mono (by decide))
 have o7 := a2o v b (hv.mono (by decide)) (hb.mono (by decide))
 have hz := b0B (v := Nm.d9 v) h
 have hs := a6J (Nm.d9 v)
 unfold Z9 a1E
 generalize Nm.u7 (I4 (Nm.d9 v)) (Nm.d9 b) = c at *
 generalize F3 (Nm.d9 b) = s1 at *
 generalize F3 (Nm.d9 v) = s2 at *
 unfold rq at *
 generalize Nm.ofQ (I4 (Nm.d9 v)) = av at *
 generalize Nm.ofQ (Nm.d9 v - Nm.d9 b) = d at *
 generalize Nm.ofQ (Nm.d9 v + Nm.d9 b) = e at *
 generalize Nm.ofQ 0 = z at *
 simp only [l6]
 simp only [rc, sb, ints] at *
 (repeat first | refine uA ?_ | (refine uK ?_ ?_; focus first | omega | (intros; simp_all <;> omega)) | simp (disch := omega) only [go_sem, Nat.reduceBEq, Nat.reduceAdd, ww] | (refine uD o1 ?_ ?_ ?_; exact tz hw; exact rfl) | (refine uD o2 ?_ ?_ ?_; exact tz hw; exact rfl) | (refine uD o3 ?_ ?_ ?_; exact tz hw; exact rfl))
 refine S.cond rfl (fun hc => ?_) (fun hc => ?_)
 ·rw [if_pos (by simp only [c2v, c1P] at hc; omega)]
  (repeat first | refine uA ?_ | (refine uK ?_ ?_; focus first | omega | (intros; simp_all <;> omega)) | simp (disch := omega) only [go_sem, Nat.reduceBEq, Nat.reduceAdd, ww] | (refine uD o4 ?_ ?_ ?_; exact tz hw; exact rfl))
  (refine S.done ?_; simp only [q8, l9, go_sem, Nat.reduceBEq, Nat.reduceAdd, Nat.reduceLeDiff, Int.reduceToNat, Int.reducePow]; (repeat (refine ⟨?_, ?_⟩; focus first | trivial | omega | simp)); exact j3.out rfl (Imp.refl rfl) rfl)
 have hc1 : ¬ c <= 0 := by simp only [c2d, c1S] at hc; omega
 rw [if_neg hc1]
 (repeat first | refine uA ?_ | (refine uK ?_ ?_; focus first | omega | (intros; simp_all <;> omega)) | simp (disch := omega) only [go_sem, Nat.reduceBEq, Nat.reduceAdd, ww] | (refine uD o5 ?_ ?_ ?_; exact tz hw; exact rfl))
 refine S.cond rfl (fun hc => ?_) (fun hc => ?_)
 ·rw [if_neg (by simp only [c1P] at hc; omega)]
  (repeat first | refine uA ?_ | (refine uK ?_ ?_; focus first | omega | (intros; simp_all <;> omega)) | simp (disch := omega) only [go_sem, Nat.reduceBEq, Nat.reduceAdd, ww] | (refine uD o6 ?_ ?_ ?_; exact tz hw; exact rfl))
  (refine S.done ?_; simp only [q8, l9, go_sem, Nat.reduceBEq, Nat.reduceAdd, Nat.reduceLeDiff, Int.reduceToNat, Int.reducePow]; (repeat (refine ⟨?_, ?_⟩; focus first | trivial | omega | simp)); exact j3.out rfl (Imp.refl rfl) rfl)
 ·rw [if_pos (by simp only [c1S] at hc; omega)]
  (repeat first | refine uA ?_ | (refine uK ?_ ?_; focus first | omega | (intros; simp_all <;> omega)) | simp (disch := omega) only [go_sem, Nat.reduceBEq, Nat.reduceAdd, ww] | (refine uD o7 ?_ ?_ ?_; exact tz hw; exact rfl))
  (refine S.done ?_; simp only [q8, l9, go_sem, Nat.reduceBEq, Nat.reduceAdd, Nat.reduceLeDiff, Int.reduceToNat, Int.reducePow]; (repeat (refine ⟨?_, ?_⟩; focus first | trivial | omega | simp)); exact j3.out rfl (Imp.refl rfl) rfl)
theorem b9i (a : Am) (q v : List Nm.Rt) (hl : Ab 1073741824 a) (ha : J4 a = 0) (hq : q.length = a.links.length) (hv : v.length = a.links.length) : FZ 119 [a.c, rts q, rts v] (ints 0) := by
 refine kW Tryz.func119 (by cbv) (by rfl) fun w O hw => ?_
 have h := b1U a hl
 rw [ha] at h
 have hn := hl.2.2.1
 obtain ⟨name, ⟨x, y, half, t⟩, links⟩ := a
 simp only at hq hv hn
 simp only [l6]
 simp only [Am.c, Am.enc, lks, rts, sb, ints] at *
 (repeat first | refine uA ?_ | (refine uK ?_ ?_; focus first | omega | (intros; simp_all <;> omega)) | simp (disch := omega) only [go_sem, Nat.reduceBEq, Nat.reduceAdd, ww] | (refine uD h ?_ ?_ ?_; exact tz hw; exact rfl))
 refine S.cond rfl (fun hc => by simp at hc) (fun hc => ?_)
 (repeat first | refine uA ?_ | (refine uK ?_ ?_; focus first | omega | (intros; simp_all <;> omega)) | simp (disch := omega) only [go_sem, Nat.reduceBEq, Nat.reduceAdd, ww, c1J])
 refine S.cond rfl (fun hc => by simp only [c2v, Bool.not_eq_true', c1S] at hc; omega) (fun hc => ?_)
 (repeat first | refine uA ?_ | (refine uK ?_ ?_; focus first | omega | (intros; simp_all <;> omega)) | simp (disch := omega) only [go_sem, Nat.reduceBEq, Nat.reduceAdd, ww])
 exact S.done (j3.out rfl (Imp.refl rfl) rfl)
theorem a9J {a : Am} {x : Ast} {i : Nat} {l : Lk} {q v : Nm.Rt} (h1 : a.links[i]? = some l) (h2 : x.v[i]? = some v) (h3 : x.q[i]? = some q) : (a1b a x)[i]? = some (Z9 l.brake v) /\ (a2s a x)[i]? = some (a1E q (Z9 l.brake v)) := by
 have h4 : (a1b a x)[i]? = some (Z9 l.brake v) := by
  unfold a1b
  rw [c2x, J8 h1 h2]; rfl
 refine ⟨h4, ?_⟩
 unfold a2s
 rw [c2x, J8 h3 h4]; rfl
theorem b8Q {a : Am} {x : Ast} (h1 : x.q.length = a.links.length) (h2 : x.v.length = a.links.length) : (a1b a x).length = a.links.length /\ (a2s a x).length = a.links.length := by
 unfold a2s a1b
 simp only [c1J, List.length_zip]; omega
theorem a7o {α : Type} {l m : List α} {i : Nat} {y : α} (f : α -> List C) (hl : l.length = m.length) (hy : l[i]? = some y) : ((l.take i ++ m.drop i).map f).set i (f y) = (l.take (i + 1) ++ m.drop (i + 1)).map f := by
 rw [<- List.map_set, b4v hl hy]
theorem b9o {α : Type} {l m : List α} {i : Nat} {y : α} (hl : l.length = m.length) (hy : l[i]? = some y) : (l.take (i + 1) ++ m.drop (i + 1))[i]? = some y := by
 obtain ⟨hi, rfl⟩ := c1O.1 hy
 rw [c1Z (by rw [c1V]; omega), List.getElem?_take, if_pos (by omega), c1I hi]
theorem b9X {k : Nat} {b v : Nm.Rt} (hk : 8 <= k) (hb : Rb k b) (hv : Rb k v) : Rb (k + k + 1) (Z9 b v) := by
 unfold Z9
 split
 ·exact H6.mono (by omega)
 split
 ·exact T9 (hv.fit (by omega)) (hb.fit (by omega))
 ·exact M5 (hv.fit (by omega)) (hb.fit (by omega))
theorem b9P (a : Am) (x : Ast) (hl : Ab 1073741824 a) (hx : Asb 1073741824 x) (ha : J4 a = 0) (hq : x.q.length = a.links.length) (hv : x.v.length = a.links.length) : FZ 115 [a.c, x.c] (.tup [(Ast.mk (a2s a x) (a1b a x) x.power x.holds).c, ints 0]) := by
 refine Y5.of (eff := c0w) a6n a6y (by exact c2a rfl) fun w O hw => ?_
 have h := b9i a x.q x.v hl ha hq hv
 have hbr := fun l hl => a8q ((O4 ha).2 l hl)
 have hbg := @a9J a x
 obtain ⟨hVl, hQl⟩ := b8Q hq hv
 have c1 := a4a (x.q.map rcs) (by rw [c1J]; exact hx.1.1)
 have c2 := a4a (x.v.map rcs) (by rw [c1J]; exact hx.2.1)
 generalize a1b a x = V at *
 generalize a2s a x = Q at *
 obtain ⟨hqn, hqb⟩ := hx.1
 obtain ⟨hvn, hvb⟩ := hx.2
 obtain ⟨name, ⟨bx, by', half, t⟩, links⟩ := a
 obtain ⟨q, v, power, holds⟩ := x
 obtain ⟨b0, ⟨b1, b2, b3⟩, hn, hb⟩ := hl
 simp only at hq hv hn hb hbr hqn hqb hvn hvb hVl hQl hbg h c1 c2 ⊢
 simp only [a3a, l6, TT, II, OA, OB, OC, MM, LL, VV, FF, MG, LG, VG, FG]
 simp only [Am.c, Am.enc, Ast.c, Ast.enc, lks, rts, sb, ints] at h c1 c2 ⊢
 (repeat first | refine uA ?_ | (refine uK ?_ ?_; focus first | omega | (intros; simp_all <;> omega)) | simp (disch := omega) only [go_sem, Nat.reduceBEq, Nat.reduceAdd, ww] | (refine uD h ?_ ?_ ?_; exact tz hw; exact rfl))
 refine S.cond rfl (fun hc => by simp at hc) (fun hc => ?_)
 (repeat first | refine uI ?_ | (refine uK ?_ ?_; focus first | omega | (intros; simp_all <;> omega)) | simp (disch := omega) only [go_sem, Nat.reduceBEq, Nat.reduceAdd, ww])
 refine S.F5 [.gone, .box 61 [.sl 3 (q.map rcs), .sl 3 (v.map rcs), .v (.bool power), .v (.int .i64 holds)]] (by simp [Eng.F4, Eng.P5]) ?_
 (repeat first | refine uA ?_ | (refine uK ?_ ?_; focus first | omega | (intros; simp_all <;> omega)) | simp (disch := omega) only [go_sem, Nat.reduceBEq, Nat.reduceAdd, ww, F4, c1J] | refine l8.t (FNew.t c1 rfl) ?_ | refine l8.t (FNew.t c2 rfl) ?_)
 refine S.loop (X := Nat) (fun i => ⟨[(3, .bp 1 0), (4, .bp 2 0), (7, .bp 5 0), (32, lks links), (33, ints links.length), (34, ints i)], [.gone, .box 61 [.sl 3 (q.map rcs), .sl 3 (v.map rcs), .v (.bool power), .v (.int .i64 holds)], .box 61 [.v (.slice none 0 0), .v (.slice none 0 0), .v (.bool false), .v (.int .i64 0)], .row 29 3 ((Q.take i ++ q.drop i).map rcs), .row 29 3 ((V.take i ++ v.drop i).map rcs), .box 61 [.rv 3, .rv 4, .v (.bool power), .v (.int .i64 holds)]]⟩) (fun i => i <= links.length) (fun i => links.length - i) 0 (c1Q _) (by (repeat first | refine uA ?_ | (refine ⟨?_, ?_⟩; focus first | rfl | simp [slot]) | rfl | simp)) ?_
 intro i hi
 simp only [lks, ints]
 (repeat first | refine uA ?_ | (refine uK ?_ ?_; focus first | omega | (intros; simp_all <;> omega)) | simp (disch := omega) only [go_sem, Nat.reduceBEq, Nat.reduceAdd, ww])
 (refine uJ rfl (fun hc => ?_) fun hc => ?_)
 ·have hi' : i < links.length := by omega
  have hgl := c1I hi'
  have hgq := c1I (show i < q.length by omega)
  have hgv := c1I (show i < v.length by omega)
  generalize links[i] = l at hgl
  generalize q[i]'_ = qi at hgq
  generalize v[i]'_ = vi at hgv
  obtain ⟨g1, g2⟩ := hbg hgl hgv hgq
  have bl := hb l (c1L hgl)
  have bv := hvb vi (c1L hgv)
  have bq := hqb qi (c1L hgq)
  have o1 := b7B l.brake vi bl.2.2.2.2.1 bv (hbr l (c1L hgl))
  have o2 := a2o qi (Z9 l.brake vi) (bq.mono (by decide)) ((b9X (by decide) bl.2.2.2.2.1 bv).mono (by decide))
  have s1 := a7o rcs (by omega) g1 (m := v)
  have s2 := a7o rcs (by omega) g2 (m := q)
  have s3 := b9o (by omega) g1 (m := v)
  have m1 := a3C (l := V) (m := v) (i := i) (by omega) (by omega)
  have m2 := a3C (l := Q) (m := q) (i := i) (by omega) (by omega)
  have m3 := a3C (l := V) (m := v) (i := i + 1) (by omega) (by omega)
  unfold rq at o2
  unfold a1E at s2
  generalize Nm.ofQ (Nm.d9 qi + Nm.d9 (Z9 l.brake vi)) = z at *
  generalize Z9 l.brake vi = y at *
  generalize V.take i ++ v.drop i = V0 at *
  generalize hV1 : V.take (i + 1) ++ v.drop (i + 1) = V1 at *
  generalize hQ1 : Q.take (i + 1) ++ q.drop (i + 1) = Q1 at *
  generalize Q.take i ++ q.drop i = Q0 at *
  have e1 : ∃ u, V0[i]? = some u := ⟨_, c1I (show i < V0.length by omega)⟩
  have e2 : ∃ u, Q0[i]? = some u := ⟨_, c1I (show i < Q0.length by omega)⟩
  obtain ⟨u1, e1⟩ := e1
  obtain ⟨u2, e2⟩ := e2
  simp only [rc, rcs, sb] at o1 o2 s1 s2
  (repeat first | refine uA ?_ | (refine uK ?_ ?_; focus first | omega | (intros; simp_all <;> omega)) | simp (disch := omega) only [go_sem, Nat.reduceBEq, Nat.reduceAdd, ww, hgl, hgq, hgv, e1, e2, s1, s2, s3, m1, m2, m3, c1K, c1J, Lk.enc, rcs, vts, sb, c1R] | (refine uD o1 ?_ ?_ ?_; exact tz hw; exact rfl) | (refine uD o2 ?_ ?_ ?_; exact tz hw; exact rfl))
  refine S.next (i + 1) (by omega) (by omega) (by simp only [hV1, hQ1]; exact (by (repeat first | refine uA ?_ | (refine ⟨?_, ?_⟩; focus first | rfl | simp [slot]) | rfl | simp)))
 ·have hi' : i = links.length := by omega
  subst hi'
  rw [show Q.take links.length ++ q.drop links.length = Q by rw [<- hq]; exact mid_end (by omega), show V.take links.length ++ v.drop links.length = V by rw [<- hv]; exact mid_end (by omega)]
  (repeat first | refine uA ?_ | (refine uK ?_ ?_; focus first | omega | (intros; simp_all <;> omega)) | simp (disch := omega) only [go_sem, Nat.reduceBEq, Nat.reduceAdd, ww])
  (refine S.done ?_; simp only [q8, l9, go_sem, Nat.reduceBEq, Nat.reduceAdd, Nat.reduceLeDiff, Int.reduceToNat, Int.reducePow]; (repeat (refine ⟨?_, ?_⟩; focus first | trivial | omega | simp)); exact j3.out rfl (Imp.tup (by (repeat' (first | exact l7.nil | exact Imp.refl rfl | exact Imp.frz rfl rfl rfl | exact Imp.I9 | refine Imp.agg ?_ | refine l7.cons ?_ ?_)))) rfl)
def a7B : Q8 := ⟨63, [.cell 8 true 4, .tmp 9], .seq (.reg [OA 4 (.box 51 (TT 0)), OA 5 (.box 61 (TT 1)), OA 8 (.alloc 61 [.slice none 0 0, .slice none 0 0, .bool false, .int .i64 0]), OA 9 (.mv (II 0))]) (.seq (.seq (.reg [MM 15 3, OA 16 (.un
 .not (TT 15)), MM 17 16, LG 18 12 4 17 false, FG 19 0 5 17 false, VG 20 19 17 false, MG 21 2 17 false, OC 22 (.call 114 [TT 18, TT 20, TT 21]) 17 false, OC 23 (.un .not (TT 22)) 17 false, OA 24 (.pick (TT 17) (.const (.bool
 true)) (TT 23))]) (.cond (TT 24) (.seq (.reg [LL 26 12 4, LL 27 4 5, OA 28 (.call 115 [TT 26, TT 27]), MM 25 28, OA 29 (.ext (TT 25) 0), OA 30 (.ext (TT 25) 1), OA 10 (.alloc 61 [.slice none 0 0, .slice none 0 0, .bool false,
 .int .i64 0]), OB (.store 4 (TT 10) (TT 29)), MM 11 30]) (.seq (.F5 [.l, .l, .q, .e none false, .q, .e none true] [FF 31 3 5, VV 32 31, FF 33 2 10, OB (.store 1 (TT 33) (.const (.bool false))), FF 34 3 10, OB (.store 1 (TT 34)
 (TT 32))]) (.seq (.reg [LL 35 4 10, MM 36 11, OB (.store 4 (TT 8) (TT 35)), MM 9 36]) .ret))) .skip)) (.seq (.F5 [.q, .q, .q, .q, .q, .a, .e (some 12) true] [MM 37 2, OA 38 (.call 113 [TT 37]), FF 39 3 5, VV 40 39, OA 41
 (.build [.slice none 0 0, .slice none 0 0, .bool false, .int .i64 0] [(1, (1, TT 38)), (2, (1, .const (.bool true))), (3, (1, TT 40))]), OA 12 (.alloc 61 [.slice none 0 0, .slice none 0 0, .bool false, .int .i64 0]), OB (.store
 4 (TT 12) (TT 41))]) (.seq (.seq (.reg [FF 42 0 5, VV 43 42, OA 44 (.len false (TT 43)), OA 45 (.mv (II 0))]) (.block 0 (.loop (.seq (.reg [OA 46 (.bin .lss (TT 45) (TT 44))]) (.seq (.cond (TT 46) .skip (.exit 0)) (.seq (.block
 1 (.seq (.reg [MM 47 45, OA 48 (.p9 3 (TT 43) (TT 45)), LL 49 3 48, OA 14 (.alloc 29 [.bool false, .string ⟨#[]⟩, .string ⟨#[]⟩]), MM 13 47, OB (.store 3 (TT 14) (TT 49))]) (.F5 [.q, .q, .q, .q, .q, .q, .q, .q, .q, .e none
 true, .q, .e none true] [FF 50 0 12, VV 51 50, LL 52 3 14, MM 53 2, MM 54 13, OA 55 (.p9 3 (TT 53) (TT 54)), LL 56 3 55, OA 57 (.call 72 [TT 52, TT 56]), OA 58 (.bsl 29 3 1 [.bool false, .string ⟨#[]⟩, .string ⟨#[]⟩] [(0, TT
 57)]), OA 59 (.app 29 3 40 (TT 51) (TT 58)), FF 60 0 12, OB (.store 1 (TT 60) (TT 59))]))) (.reg [OA 61 (.bin .add (TT 45) (II 1)), MM 45 61]))))))) (.seq (.reg [LL 62 4 12, OB (.store 4 (TT 8) (TT 62)), OA 9 (.mv (II 0))])
 .ret))))⟩
theorem b3M : M6 eff Tryz.prog Tryz.f64 = some a7B := by kernel_rfl
theorem b3D : Tryz.prog.funcs[64]? = some Tryz.f64 := Tryz.func64
def a7J : Q8 := ⟨65, [.tmp 6], .seq (.reg [OA 3 (.box 51 (TT 0)), OA 6 (.mv (.const (.bool false)))]) (.seq (.seq (.reg [MM 10 2, OA 11 (.len false (TT 10)), FF 12 11 3, VV 13 12, OA 14 (.len false (TT 13)), OA 15 (.bin .neq (TT 11) (TT 14))])
 (.cond (TT 15) (.seq (.reg [OA 6 (.mv (.const (.bool false)))]) .ret) .skip)) (.seq (.seq (.reg [FF 16 11 3, VV 17 16, OA 18 (.len false (TT 17)), OA 19 (.mv (II 0))]) (.block 0 (.loop (.seq (.reg [OA 20 (.bin .lss (TT 19) (TT
 18))]) (.seq (.cond (TT 20) .skip (.exit 0)) (.seq (.block 1 (.seq (.reg [MM 21 19, OA 22 (.p9 16 (TT 17) (TT 19)), LL 23 16 22, OA 8 (.alloc 53 [.bool false, .string ⟨#[]⟩, .string ⟨#[]⟩, .bool false, .string ⟨#[]⟩, .string
 ⟨#[]⟩, .bool false, .string ⟨#[]⟩, .string ⟨#[]⟩, .bool false, .string ⟨#[]⟩, .string ⟨#[]⟩, .bool false, .string ⟨#[]⟩, .string ⟨#[]⟩, .slice none 0 0]), MM 7 21, OB (.store 16 (TT 8) (TT 23))]) (.seq (.F5 [.q, .q, .q, .q,
 .q, .q, .q, .q, .q, .a, .e (some 9) true] [MM 24 1, MM 25 7, OA 26 (.p9 3 (TT 24) (TT 25)), LL 27 3 26, MM 28 2, MM 29 7, OA 30 (.p9 3 (TT 28) (TT 29)), LL 31 3 30, OA 32 (.call 72 [TT 27, TT 31]), OA 9 (.alloc 29 [.bool
 false, .string ⟨#[]⟩, .string ⟨#[]⟩]), OB (.store 3 (TT 9) (TT 32))]) (.seq (.F5 [.q, .q, .q, .q, .q, .q, .q, .q, .q, .q, .q, .q, .q, .q, .q, .q, .q, .q, .q, .q, .q, .q, .q, .q, .q, .q, .q, .q, .q, .q, .q] [MM 33 2, MM 34 7,
 OA 35 (.p9 3 (TT 33) (TT 34)), LL 36 3 35, OA 37 (.call 40 [TT 36]), OA 38 (.un .not (TT 37)), MM 39 38, MG 40 2 39 false, MG 41 7 39 false, OC 42 (.p9 3 (TT 40) (TT 41)) 39 false, LG 43 3 42 39 false, OC 44 (.call 61 [TT
 43]) 39 false, FG 45 9 8 39 false, LG 46 3 45 39 false, OC 47 (.call 22 [TT 44, TT 46]) 39 false, OC 48 (.bin .gtr (TT 47) (II 0)) 39 false, OA 49 (.pick (TT 39) (.const (.bool true)) (TT 48)), MM 50 49, LG 51 3 9 50 false, FG
 52 3 8 50 false, LG 53 3 52 50 false, OC 54 (.call 22 [TT 51, TT 53]) 50 false, OC 55 (.bin .lss (TT 54) (II 0)) 50 false, OA 56 (.pick (TT 50) (.const (.bool true)) (TT 55)), MM 57 56, LG 58 3 9 57 false, FG 59 6 8 57 false, LG
 60 3 59 57 false, OC 61 (.call 22 [TT 58, TT 60]) 57 false, OC 62 (.bin .gtr (TT 61) (II 0)) 57 false, OA 63 (.pick (TT 57) (.const (.bool true)) (TT 62))]) (.cond (TT 63) (.seq (.reg [OA 6 (.mv (.const (.bool false)))]) .ret)
 .skip))))) (.reg [OA 64 (.bin .add (TT 19) (II 1)), MM 19 64]))))))) (.seq (.reg [OA 6 (.mv (.const (.bool true)))]) .ret)))⟩
theorem b3s : M6 eff Tryz.prog Tryz.f114 = some a7J := by kernel_rfl
theorem b3l : Tryz.prog.funcs[114]? = some Tryz.f114 := Tryz.func114
theorem b4u {α β γ : Type} {f : α × β × γ -> Bool} {g : γ -> Bool} : ∀ (l : List α) (q : List β) (u : List γ), q.length = l.length -> u.length = l.length -> (u.all g && (l.zip (q.zip u)).all f) = (l.zip (q.zip u)).all fun x => g x.2.2 && f x
 | [], [], [], _, _ => rfl
 | a :: l, b :: q, c :: u, h1, h2 => by
  have ih := b4u (f := f) (g := g) l q u (by simpa using h1) (by simpa using h2)
  simp only [List.zip_cons_cons, List.all_cons, <- ih]
  cases g c <;> cases u.all g <;> simp
theorem b2j {α : Type} {f : α -> Bool} {l : List α} {i : Nat} {x : α} (h : l[i]? = some x) : (l.drop i).all f = (f x && (l.drop (i + 1)).all f) := by
 rw [drop_at h, List.all_cons]
theorem b8t (p q : Rat) : Nm.u7 p q < 0 <-> 0 < Nm.u7 q p := by rw [a1s, Y8]
def b2Q (x : Lk × Nm.Rt × Nm.Rt) : Bool := I5 x.2.2 && b4V x
theorem c1p (a : Am) (q u : List Nm.Rt) (hl : Ab 1073741824 a) (hq : Rbs 1073741824 q) (hu : Rbs 1073741824 u) (hql : q.length = a.links.length) : FZ 114 [a.c, rts q, rts u] (.v (.bool (a5T a q u))) := by
  refine kW b3l b3s (by rfl) fun w O hw => ?_
  obtain ⟨hqn, hqb⟩ := hq
  obtain ⟨hun, hub⟩ := hu
  unfold a5T
  obtain ⟨name, ⟨bx, by', half, t⟩, links⟩ := a
  obtain ⟨b0, ⟨b1, b2, b3⟩, hn, hb⟩ := hl
  simp only at b0 b1 b2 b3 hn hb hql ⊢
  simp only [a7J, l6, TT, II, OA, OB, OC, MM, LL, VV, FF, MG, LG, VG, FG]
  simp only [Am.c, Am.enc, lks, rts, sb, ints]
  (repeat first | refine uA ?_ | (refine uK ?_ ?_; focus first | omega | (intros; simp_all <;> omega)) | simp (disch := omega) only [go_sem, Nat.reduceBEq, Nat.reduceAdd, ww, c1J])
  refine S.cond rfl (fun hc => ?_) (fun hc => ?_)
  · rw [show decide (u.length = links.length) = false from decide_eq_false (by simp only [Bool.not_eq_true', c1S] at hc; omega), Bool.false_and]
    (repeat first | refine uA ?_ | (refine uK ?_ ?_; focus first | omega | (intros; simp_all <;> omega)) | simp (disch := omega) only [go_sem, Nat.reduceBEq, Nat.reduceAdd, ww])
    exact S.done (j3.out rfl (Imp.refl rfl) rfl)
  have hul : u.length = links.length := by simp only [Bool.not_eq_false', c1P] at hc; omega
  rw [decide_eq_true hul, Bool.true_and, b4u links q u hql hul, show (fun x : Lk × Nm.Rt × Nm.Rt => I5 x.2.2 && b4V x) = b2Q from rfl]
  (repeat first | refine uA ?_ | (refine uK ?_ ?_; focus first | omega | (intros; simp_all <;> omega)) | simp (disch := omega) only [go_sem, Nat.reduceBEq, Nat.reduceAdd, ww, c1J])
  refine S.loop (X := Nat) (fun i => ⟨[(1, rts q), (2, rts u), (17, lks links), (18, ints links.length), (19, ints i)], []⟩) (fun i => i <= links.length /\ (links.zip (q.zip u)).all b2Q = ((links.zip (q.zip u)).drop i).all b2Q) (fun i => links.length - i) 0 ⟨c1Q _, rfl⟩ (by (repeat first | refine uA ?_ | (refine ⟨?_, ?_⟩; focus first | rfl | simp [slot]) | rfl | simp)) ?_
  rintro i ⟨hi, hg⟩
  simp only [rts, lks, ints]
  (repeat first | refine uA ?_ | (refine uK ?_ ?_; focus first | omega | (intros; simp_all <;> omega)) | simp (disch := omega) only [go_sem, Nat.reduceBEq, Nat.reduceAdd, ww])
  (refine uJ rfl (fun hc => ?_) fun hc => ?_)
  · have hi' : i < links.length := by omega
    have hgl := c1I hi'
    have hgq := c1I (show i < q.length by omega)
    have hgu := c1I (show i < u.length by omega)
    generalize links[i] = l at hgl
    generalize q[i]'_ = qi at hgq
    generalize u[i]'_ = ui at hgu
    have hd := b2j (f := b2Q) (J8 hgl (J8 hgq hgu))
    have bl := hb l (c1L hgl)
    have bq := (hqb qi (c1L hgq)).mono (m := 17179869184) (by decide)
    have bu := (hub ui (c1L hgu)).mono (m := 17179869184) (by decide)
    have bz := (T9 ((hqb qi (c1L hgq)).fit (by decide)) ((hub ui (c1L hgu)).fit (by decide))).mono (m := 17179869184) (by decide)
    have o1 := a2o qi ui bq bu
    have o2 := a1g ui (bu.mono (by decide))
    have o3 := a5N ui bu
    have o4 := U1 (Nm.ofQ (I4 (Nm.d9 ui))) l.speed (a3Z (bu.fit (by decide))) (bl.2.2.2.1.mono (by decide))
    have o5 := U1 (Nm.ofQ (Nm.d9 qi + Nm.d9 ui)) l.low bz (bl.2.1.mono (by decide))
    have o6 := U1 (Nm.ofQ (Nm.d9 qi + Nm.d9 ui)) l.high bz (bl.2.2.1.mono (by decide))
    have hsw := b8t (Nm.d9 qi + Nm.d9 ui) (Nm.d9 l.low)
    rw [Nm.D7] at o4 o5 o6
    have hv : b2Q (l, qi, ui) = (decide ui.G7 && !(decide (0 < Nm.u7 (I4 (Nm.d9 ui)) (Nm.d9 l.speed)) || decide (0 < Nm.u7 (Nm.d9 l.low) (Nm.d9 qi + Nm.d9 ui)) || decide (0 < Nm.u7 (Nm.d9 qi + Nm.d9 ui) (Nm.d9 l.high)))) := rfl
    rw [hv] at hd
    clear hv
    generalize decide ui.G7 = g at *
    generalize Nm.u7 (I4 (Nm.d9 ui)) (Nm.d9 l.speed) = c1 at *
    generalize Nm.u7 (Nm.d9 l.low) (Nm.d9 qi + Nm.d9 ui) = c2 at *
    generalize Nm.u7 (Nm.d9 qi + Nm.d9 ui) (Nm.d9 l.low) = c3 at *
    generalize Nm.u7 (Nm.d9 qi + Nm.d9 ui) (Nm.d9 l.high) = c4 at *
    unfold rq at o1 o3
    generalize Nm.ofQ (Nm.d9 qi + Nm.d9 ui) = z at *
    generalize Nm.ofQ (I4 (Nm.d9 ui)) = au at *
    have hqi : (i : Int) < q.length := by omega
    have hui : (i : Int) < u.length := by omega
    simp only [rc, sb, ints] at o1 o2 o3 o4 o5 o6
    (repeat first | refine uG o1 ?_ | refine uG o2 ?_ | refine uG o3 ?_ | refine uG o4 ?_ | refine uG o5 ?_ | refine uG o6 ?_ | refine uA ?_ | (refine uK ?_ ?_; focus first | omega | (intros; simp_all <;> omega)) | simp (disch := omega) only [go_sem, Nat.reduceBEq, Nat.reduceAdd, ww, hgl, hgq, hgu, c1K, c1J, Lk.enc, rcs, vts, sb, c1R] | (refine uD o1 ?_ ?_ ?_; exact tz hw; exact rfl) | (refine uD o2 ?_ ?_ ?_; exact tz hw; exact rfl) | (refine uD o3 ?_ ?_ ?_; exact tz hw; exact rfl) | (refine uD o4 ?_ ?_ ?_; exact tz hw; exact rfl) | (refine uD o5 ?_ ?_ ?_; exact tz hw; exact rfl) | (refine uD o6 ?_ ?_ ?_; exact tz hw; exact rfl))
    refine S.cond rfl (fun hc2 => ?_) (fun hc2 => ?_)
    · rw [hg, hd, show (g && !(decide (0 < c1) || decide (0 < c2) || decide (0 < c4))) = false by
        cases g
        · rfl
        · simp only [Bool.not_true, Bool.false_or, c2v, c1P] at hc2
          rw [show (decide (0 < c1) || decide (0 < c2) || decide (0 < c4)) = true by simp only [c2v, c1P]; omega]
          rfl, Bool.false_and]
      (repeat first | refine uA ?_ | (refine uK ?_ ?_; focus first | omega | (intros; simp_all <;> omega)) | simp (disch := omega) only [go_sem, Nat.reduceBEq, Nat.reduceAdd, ww])
      exact S.done (j3.out rfl (Imp.refl rfl) rfl)
    · (repeat first | refine uA ?_ | (refine uK ?_ ?_; focus first | omega | (intros; simp_all <;> omega)) | simp (disch := omega) only [go_sem, Nat.reduceBEq, Nat.reduceAdd, ww])
      refine S.next (i + 1) ⟨by omega, ?_⟩ (by omega) (by (repeat first | refine uA ?_ | (refine ⟨?_, ?_⟩; focus first | rfl | simp [slot]) | rfl | simp))
      rw [hg, hd, show (g && !(decide (0 < c1) || decide (0 < c2) || decide (0 < c4))) = true by
        cases g
        · simp at hc2
        · simp only [Bool.not_true, Bool.false_or, c2d, c1S] at hc2
          rw [show (decide (0 < c1) || decide (0 < c2) || decide (0 < c4)) = false by simp only [c2d, c1S]; omega]
          rfl, Bool.true_and]
  · rw [hg, List.drop_eq_nil_of_le (by simp only [List.length_zip]; omega), List.all_nil]
    (repeat first | refine uA ?_ | (refine uK ?_ ?_; focus first | omega | (intros; simp_all <;> omega)) | simp (disch := omega) only [go_sem, Nat.reduceBEq, Nat.reduceAdd, ww])
    exact S.done (j3.out rfl (Imp.refl rfl) rfl)
theorem b6J {x : Ast} {u : List Nm.Rt} {i : Nat} {q v : Nm.Rt} (h1 : x.q[i]? = some q) (h2 : u[i]? = some v) : (mvQ x u)[i]? = some (a1E q v) := by
 unfold mvQ
 rw [c2x, J8 h1 h2]; rfl
theorem take_at {α : Type} {l : List α} {i : Nat} {x : α} (h : l[i]? = some x) : l.take (i + 1) = l.take i ++ [x] := by
 obtain ⟨hi, rfl⟩ := c1O.1 h
 exact c2A hi
theorem c0d (a : Am) (x : Ast) (u : List Nm.Rt) (p : Bool) (hl : Ab 1073741824 a) (hx : Asb 1073741824 x) (hu : Rbs 1073741824 u) (ha : J4 a = 0) (hq : x.q.length = a.links.length) (hv : x.v.length = a.links.length) : FZ 64 [a.c, x.c, rts u, .v (.bool p)] (.tup [(X7 a x u p).c, ints 0]) := by
 refine kW b3D b3M (by rfl) fun w O hw => ?_
 have h1 := b9P a x hl hx ha hq hv
 have h2 := c1p a x.q u hl hx.1 hu hq
 have h3 : a5T a x.q u = true -> u.length = a.links.length := fun h => by unfold a5T at h; rw [c1N] at h; exact of_decide_eq_true h.1
 have h4 := @b6J x u
 have h5 : (mvQ x u).length = min x.q.length u.length := by unfold mvQ; rw [c1J, List.length_zip]
 have c1 := (a4a (u.map rcs) (by rw [c1J]; exact hu.1)).spec
 obtain ⟨hqn, hqb⟩ := hx.1
 obtain ⟨hun, hub⟩ := hu
 unfold X7 mvA b1s
 generalize a2s a x = BQ at *
 generalize a1b a x = BV at *
 generalize mvQ x u = M at *
 generalize a5T a x.q u = m at *
 obtain ⟨name, ⟨bx, by', half, t⟩, links⟩ := a
 obtain ⟨q, v, power, holds⟩ := x
 simp only at h1 h2 h3 h4 h5 hq hv hqn hqb ⊢
 have hn := hl.2.2.1
 simp only at hn
 simp only [a7B, l6, TT, II, OA, OB, OC, MM, LL, VV, FF, MG, LG, VG, FG]
 simp only [Am.c, Am.enc, Ast.c, Ast.enc, lks, rts, sb, ints] at h1 h2 c1 ⊢
 by_cases hm : (p && m) = true
 ·rw [if_pos hm]
  rw [c1N] at hm
  obtain ⟨rfl, rfl⟩ := hm
  have h3 := h3 rfl
  (repeat first | refine uG h2 ?_ | refine uA ?_ | (refine uK ?_ ?_; focus first | omega | (intros; simp_all <;> omega)) | simp (disch := omega) only [go_sem, Nat.reduceBEq, Nat.reduceAdd, ww] | (refine uD h2 ?_ ?_ ?_; exact tz hw; exact rfl))
  refine S.cond rfl (fun hc => by simp at hc) (fun hc => ?_)
  (repeat first | refine uF c1 ?_ | refine uA ?_ | (refine uK ?_ ?_; focus first | omega | (intros; simp_all <;> omega)) | simp (disch := omega) only [go_sem, Nat.reduceBEq, Nat.reduceAdd, ww, c1J] | (refine uB c1 ?_ ?_; exact rfl))
  refine S.loop (X := Nat) (fun i => ⟨[(2, rts u), (8, .bp 2 0), (12, .bp 3 0), (43, rts q), (44, ints q.length), (45, ints i)], [.gone, .gone, .box 61 [.v (.slice none 0 0), .v (.slice none 0 0), .v (.bool false), .v (.int .i64 0)], .box 61 [.rv 4, rts u, .v (.bool true), ints holds], .row 29 3 ((M.take i).map rcs)]⟩) (fun i => i <= q.length) (fun i => q.length - i) 0 (c1Q _) (Ent.trans (Ent.a1M 3 0 29 3 rfl rfl rfl) (by (repeat first | refine uA ?_ | (refine ⟨?_, ?_⟩; focus first | rfl | simp [slot]) | rfl | simp))) ?_
  intro i hi
  simp only [rts, ints]
  (repeat first | refine uA ?_ | (refine uK ?_ ?_; focus first | omega | (intros; simp_all <;> omega)) | simp (disch := omega) only [go_sem, Nat.reduceBEq, Nat.reduceAdd, ww])
  (refine uJ rfl (fun hc => ?_) fun hc => ?_)
  ·have hgq := c1I (show i < q.length by omega)
   have hgu := c1I (show i < u.length by omega)
   generalize q[i]'_ = qi at hgq
   generalize u[i]'_ = ui at hgu
   have hap := take_at (h4 hgq hgu)
   have htl : (M.take i).length = i := by rw [c1V]; omega
   have o1 := a2o qi ui ((hqb qi (c1L hgq)).mono (by decide)) ((hub ui (c1L hgu)).mono (by decide))
   unfold rq at o1
   unfold a1E at hap
   generalize Nm.ofQ (Nm.d9 qi + Nm.d9 ui) = z at *
   have hui : (i : Int) < u.length := by omega
   simp only [rc, sb] at o1
   (repeat first | refine uG o1 ?_ | refine uA ?_ | (refine uK ?_ ?_; focus first | omega | (intros; simp_all <;> omega)) | simp (disch := omega) only [go_sem, Nat.reduceBEq, Nat.reduceAdd, ww, hgq, hgu, c1K, c1J, rcs, sb, htl, c1R] | (refine uD o1 ?_ ?_ ?_; exact tz hw; exact rfl))
   refine S.next (i + 1) (by omega) (by omega) (by simp only [hap, c2z, c2b, c2w, rcs, sb]; exact (by (repeat first | refine uA ?_ | (refine ⟨?_, ?_⟩; focus first | rfl | simp [slot]) | rfl | simp)))
  ·have hi' : i = q.length := by omega
   subst hi'
   rw [c2e (by omega)]
   (repeat first | refine uA ?_ | (refine uK ?_ ?_; focus first | omega | (intros; simp_all <;> omega)) | simp (disch := omega) only [go_sem, Nat.reduceBEq, Nat.reduceAdd, ww])
   (refine S.done ?_; simp only [q8, l9, go_sem, Nat.reduceBEq, Nat.reduceAdd, Nat.reduceLeDiff, Int.reduceToNat, Int.reducePow]; (repeat (refine ⟨?_, ?_⟩; focus first | trivial | omega | simp)); exact j3.out rfl (Imp.tup (by (repeat' (first | exact l7.nil | exact Imp.refl rfl | exact Imp.frz rfl rfl rfl | exact Imp.I9 | refine Imp.agg ?_ | refine l7.cons ?_ ?_)))) rfl)
 ·rw [if_neg hm]
  cases p
  ·(repeat first | refine uG h2 ?_ | refine uA ?_ | (refine uK ?_ ?_; focus first | omega | (intros; simp_all <;> omega)) | simp (disch := omega) only [go_sem, Nat.reduceBEq, Nat.reduceAdd, ww] | (refine uD h2 ?_ ?_ ?_; exact tz hw; exact rfl))
   refine S.cond rfl (fun hc => ?_) (fun hc => by simp at hc)
   (repeat first | refine uG h1 ?_ | refine uI ?_ | (refine uK ?_ ?_; focus first | omega | (intros; simp_all <;> omega)) | simp (disch := omega) only [go_sem, Nat.reduceBEq, Nat.reduceAdd, ww] | (refine uD h1 ?_ ?_ ?_; exact tz hw; exact rfl))
   refine S.F5 [.gone, .box 61 [.sl 3 (q.map rcs), .sl 3 (v.map rcs), .v (.bool power), .v (.int .i64 holds)]] (by simp [Eng.F4, Eng.P5]) ?_
   (repeat first | refine uA ?_ | (refine uK ?_ ?_; focus first | omega | (intros; simp_all <;> omega)) | simp (disch := omega) only [go_sem, Nat.reduceBEq, Nat.reduceAdd, ww])
   (refine S.done ?_; simp only [q8, l9, go_sem, Nat.reduceBEq, Nat.reduceAdd, Nat.reduceLeDiff, Int.reduceToNat, Int.reducePow]; (repeat (refine ⟨?_, ?_⟩; focus first | trivial | omega | simp)); exact j3.out rfl (Imp.tup (by (repeat' (first | exact l7.nil | exact Imp.refl rfl | exact Imp.frz rfl rfl rfl | exact Imp.I9 | refine Imp.agg ?_ | refine l7.cons ?_ ?_)))) rfl)
  ·have hm : m = false := by simpa using hm
   subst hm
   (repeat first | refine uG h2 ?_ | refine uA ?_ | (refine uK ?_ ?_; focus first | omega | (intros; simp_all <;> omega)) | simp (disch := omega) only [go_sem, Nat.reduceBEq, Nat.reduceAdd, ww] | (refine uD h2 ?_ ?_ ?_; exact tz hw; exact rfl))
   refine S.cond rfl (fun hc => ?_) (fun hc => by simp at hc)
   (repeat first | refine uG h1 ?_ | refine uI ?_ | (refine uK ?_ ?_; focus first | omega | (intros; simp_all <;> omega)) | simp (disch := omega) only [go_sem, Nat.reduceBEq, Nat.reduceAdd, ww] | (refine uD h1 ?_ ?_ ?_; exact tz hw; exact rfl))
   refine S.F5 [.gone, .box 61 [.sl 3 (q.map rcs), .sl 3 (v.map rcs), .v (.bool power), .v (.int .i64 holds)]] (by simp [Eng.F4, Eng.P5]) ?_
   (repeat first | refine uA ?_ | (refine uK ?_ ?_; focus first | omega | (intros; simp_all <;> omega)) | simp (disch := omega) only [go_sem, Nat.reduceBEq, Nat.reduceAdd, ww])
   (refine S.done ?_; simp only [q8, l9, go_sem, Nat.reduceBEq, Nat.reduceAdd, Nat.reduceLeDiff, Int.reduceToNat, Int.reducePow]; (repeat (refine ⟨?_, ?_⟩; focus first | trivial | omega | simp)); exact j3.out rfl (Imp.tup (by (repeat' (first | exact l7.nil | exact Imp.refl rfl | exact Imp.frz rfl rfl rfl | exact Imp.I9 | refine Imp.agg ?_ | refine l7.cons ?_ ?_)))) rfl)
theorem a9v (f g : Fr) (h1 : Rb 4294967296 f.x) (h2 : Rb 4294967296 f.y) (h3 : Rb 268435456 f.t) (h4 : Rb 268435456 g.x) (h5 : Rb 268435456 g.y) (h6 : Rb 268435456 g.t) : FZ 12 [f.c, g.c] (K8 f g).c := by
 refine kW Tryz.func12 (by cbv) (by rfl) fun w O hw => ?_
 have k1 := b5A f ⟨g.x, g.y⟩ h1 h2 h3 h4 h5
 have k2 := b9S f.half f.t g.half g.t (h3.mono (by decide)) (h6.mono (by decide))
 unfold K8 vq tq at *
 generalize Nm.ofQ (a0l f ⟨g.x, g.y⟩) = r1 at *
 generalize Nm.ofQ (a0i f ⟨g.x, g.y⟩) = r2 at *
 generalize a1q f.half (r9 f.half f.t) g.half (r9 g.half g.t) = r3 at *
 obtain ⟨r3, r4⟩ := r3
 simp only at *
 generalize Nm.ofQ r4 = r5 at *
 obtain ⟨fx, fy, fh, ft⟩ := f
 obtain ⟨gx, gy, gh, gt⟩ := g
 simp only [l6]
 simp only [Fr.c, Fr.enc, Vt.c, Vt.enc, vc, tc, sb] at *
 (repeat first | refine uA ?_ | (refine uK ?_ ?_; focus first | omega | (intros; simp_all <;> omega)) | simp (disch := omega) only [go_sem, Nat.reduceBEq, Nat.reduceAdd, ww] | (refine uD k1 ?_ ?_ ?_; exact tz hw; exact rfl) | (refine uD k2 ?_ ?_ ?_; exact tz hw; exact rfl))
 (refine S.done ?_; simp only [q8, l9, go_sem, Nat.reduceBEq, Nat.reduceAdd, Nat.reduceLeDiff, Int.reduceToNat, Int.reducePow]; (repeat (refine ⟨?_, ?_⟩; focus first | trivial | omega | simp)); exact j3.out rfl (Imp.refl rfl) rfl)
theorem b4k (f : Fr) (hf : Fb 1048576 f) : FZ 13 [f.c] (a0s f).c := by
 refine kW Tryz.func13 (by cbv) (by rfl) fun w O hw => ?_
 obtain ⟨h1, h2, h3⟩ := hf
 have k1 := b8Z f.half f.t (h3.mono (by decide))
 have k2 := b4p
 have k3 := a8N (Nm.ofQ 0) (Nm.ofQ 0) f.x f.y (H6.mono (by decide)) (H6.mono (by decide)) (h1.mono (by decide)) (h2.mono (by decide))
 rw [Nm.D7] at k3
 have s1 := M5 H6 (h1.fit (by decide))
 have s2 := M5 H6 (h2.fit (by decide))
 have s3 := a7f (U6 (h := f.half) h3 (by decide))
 have k4 := b3Z (Nm.ofQ (0 - Nm.d9 f.x)) (Nm.ofQ (0 - Nm.d9 f.y)) (Nm.ofQ (- r9 f.half f.t)) f.half (s1.mono (by decide)) (s2.mono (by decide)) (s3.mono (by decide))
 unfold a0s
 unfold a0W at k2
 unfold vq tq at *
 generalize Nm.ofQ (Nm.d9 (Nm.ofQ (0 - Nm.d9 f.x)) * U3 f.half (r9 f.half (Nm.ofQ (- r9 f.half f.t))) - Nm.d9 (Nm.ofQ (0 - Nm.d9 f.y)) * U5 (r9 f.half (Nm.ofQ (- r9 f.half f.t)))) = r1 at *
 generalize Nm.ofQ (Nm.d9 (Nm.ofQ (0 - Nm.d9 f.x)) * U5 (r9 f.half (Nm.ofQ (- r9 f.half f.t))) + Nm.d9 (Nm.ofQ (0 - Nm.d9 f.y)) * U3 f.half (r9 f.half (Nm.ofQ (- r9 f.half f.t)))) = r2 at *
 generalize Nm.ofQ (0 - Nm.d9 f.x) = r3 at *
 generalize Nm.ofQ (0 - Nm.d9 f.y) = r4 at *
 generalize Nm.ofQ (- r9 f.half f.t) = r5 at *
 generalize Nm.ofQ 0 = z at *
 obtain ⟨fx, fy, fh, ft⟩ := f
 simp only [l6]
 simp only [Fr.c, Fr.enc, vc, tc, sb] at *
 (repeat first | refine uA ?_ | (refine uK ?_ ?_; focus first | omega | (intros; simp_all <;> omega)) | simp (disch := omega) only [go_sem, Nat.reduceBEq, Nat.reduceAdd, ww] | (refine uD k1 ?_ ?_ ?_; exact tz hw; exact rfl) | (refine uD k2 ?_ ?_ ?_; exact tz hw; exact rfl) | (refine uD k3 ?_ ?_ ?_; exact tz hw; exact rfl) | (refine uD k4 ?_ ?_ ?_; exact tz hw; exact rfl))
 (refine S.done ?_; simp only [q8, l9, go_sem, Nat.reduceBEq, Nat.reduceAdd, Nat.reduceLeDiff, Int.reduceToNat, Int.reducePow]; (repeat (refine ⟨?_, ?_⟩; focus first | trivial | omega | simp)); exact j3.out rfl (Imp.refl rfl) rfl)
theorem a9o {f : Fr} {c : Vt} {x t k : Nat} (hx : Rb x f.x) (hy : Rb x f.y) (ht : Rb t f.t) (hc1 : Rb k c.x) (hc2 : Rb k c.y) (h1 : 1 <= x) (h2 : 1 <= t) (h3 : 1 <= k) : Rb (x + 2 * (k + 4 * t + 18) + 2) (Nm.ofQ (a0l f c)) /\ Rb (x + 2 * (k + 4 * t + 18) + 2) (Nm.ofQ (a0i f c)) := by
 have g1 := a8R f.half (U6 (h := f.half) ht h2)
 have g2 := a8U (U6 (h := f.half) ht h2)
 have g3 := hc1.fit h3
 have g4 := hc2.fit h3
 unfold a0l a0i
 exact ⟨(T9 (hx.fit h1) (M5 (K7 g3 g1) (K7 g4 g2))).mono (by omega), (T9 (hy.fit h1) (T9 (K7 g3 g2) (K7 g4 g1))).mono (by omega)⟩
theorem b7t {h1 h2 : Bool} {p q : Rat} {a b : Nat} (hp : Rb a (Nm.ofQ p)) (hq : Rb b (Nm.ofQ q)) : Rb (2 * (a + b) + 16) (Nm.ofQ (a1q h1 p h2 q).2) := by
 have kb : Rb 8 (Nm.ofQ (-1)) := ⟨Nm.E8 (by decide), Nm.E8 (by decide)⟩
 have kz : Rb (2 * (a + b) + 16) (Nm.ofQ 0) := H6.mono (by omega)
 unfold a1q
 split
 ·exact kz
 split
 ·split
  ·exact kz
  ·rename_i h; exact (a3S h kb hq).mono (by omega)
 split
 ·split
  ·exact kz
  ·rename_i h; exact (a3S h kb hp).mono (by omega)
 split
 ·exact kz
 ·rename_i h; exact (a3S h (T9 hp hq) (M5 a0f (K7 hp hq))).mono (by omega)
theorem a5E {f g : Fr} {x t k u : Nat} (hx : Rb x f.x) (hy : Rb x f.y) (ht : Rb t f.t) (hc1 : Rb k g.x) (hc2 : Rb k g.y) (hu : Rb u g.t) (h1 : 1 <= x) (h2 : 1 <= t) (h3 : 1 <= k) (h4 : 1 <= u) :
  Rb (x + 2 * (k + 4 * t + 18) + 2) (K8 f g).x /\ Rb (x + 2 * (k + 4 * t + 18) + 2) (K8 f g).y /\ Rb (2 * (t + u) + 16) (K8 f g).t := by
 obtain ⟨a, b⟩ := a9o (c := ⟨g.x, g.y⟩) hx hy ht hc1 hc2 h1 h2 h3
 exact ⟨a, b, b7t (U6 ht h2) (U6 hu h4)⟩
def tB : Nat -> Nat
 | 0 => 8
 | n + 1 => 2 * (2 * (tB n + 2097664) + 16 + 8) + 16
def xB : Nat -> Nat
 | 0 => 8
 | n + 1 => xB n + 2 * (8 + 4 * tB n + 18) + 2 + 2 * (8 + 4 * (2 * (tB n + 2097664) + 16) + 18) + 2
theorem a9p {i : Nat} (h : i <= 3) : 8 <= tB i /\ 8 <= xB i /\ tB i <= 176205632 /\ xB i <= 1308956300 := by
 have : i = 0 \/ i = 1 \/ i = 2 \/ i = 3 := by omega
 rcases this with rfl | rfl | rfl | rfl <;> decide
theorem b_lt {i : Nat} (h : i < 3) : 2 * (tB i + 2097664) + 16 <= 88102800 /\ xB i + 2 * (8 + 4 * tB i + 18) + 2 <= 604133846 := by
 have : i = 0 \/ i = 1 \/ i = 2 := by omega
 rcases this with rfl | rfl | rfl <;> decide
def Fx (i : Nat) (f : Fr) : Prop := Rb (xB i) f.x /\ Rb (xB i) f.y /\ Rb (tB i) f.t
theorem a6X {e : Fr} {i : Nat} {q : Nm.Rt} (he : Fx i e) (hi : i < 3) (hq : Rb 2097664 q) : Rb (xB i + 2 * (8 + 4 * tB i + 18) + 2) (K8 e (V5 q)).x /\ Rb (xB i + 2 * (8 + 4 * tB i + 18) + 2) (K8 e (V5 q)).y /\ Rb (2 * (tB i + 2097664) + 16) (K8 e (V5 q)).t := by
 have hb := a9p (show i <= 3 by omega)
 exact a5E he.1 he.2.1 he.2.2 H6 H6 (hq.fit (by decide)) (by omega) (by omega) (by omega) (by decide)
theorem b6M {e : Fr} {i : Nat} {q : Nm.Rt} {l : Lk} (he : Fx i e) (hi : i < 3) (hq : Rb 2097664 q) (hl : Rb 8 l.length) : Fx (i + 1) (K8 (K8 e (V5 q)) (a4n l)) := by
 obtain ⟨h1, h2, h3⟩ := a6X he hi hq
 exact a5E h1 h2 h3 hl H6 H6 (by omega) (by omega) (by omega) (by decide)
theorem a6R {a : Am} (h : J4 a = 0) : Fx 0 a.base /\ ∀ l ∈ a.links, Rb 8 l.length := by
 have hl := (O4 h).2
 unfold J4 at h
 split at h
 ·cases h
 split at h
 ·cases h
 split at h
 ·cases h
 rename_i h1
 have hs : (j4 a.base.x && j4 a.base.y && j4 a.base.t) = true := by
  cases hb : (j4 a.base.x && j4 a.base.y && j4 a.base.t) with
  | true => rfl
  | false => exact absurd (.inr (.inl hb)) h1
 simp only [c1N] at hs
 refine ⟨⟨(W9 hs.1.1).mono (by decide), (W9 hs.1.2).mono (by decide), (W9 hs.2).mono (by decide)⟩, fun l hm => ?_⟩
 have := hl l hm
 unfold M8 at this
 split at this
 ·cases this
 rename_i h2
 have hs2 : (j4 l.length && j4 l.low && j4 l.high && j4 l.speed && j4 l.brake) = true := by
  cases hb : (j4 l.length && j4 l.low && j4 l.high && j4 l.speed && j4 l.brake) with
  | true => rfl
  | false => exact absurd (.inl hb) h2
 simp only [c1N] at hs2
 exact (W9 hs2.1.1.1.1).mono (by decide)
theorem b5i : ∀ (z : List (Lk × Nm.Rt)) (e : Fr) (i : Nat), Fx i e -> i + z.length <= 3 -> (∀ y ∈ z, Rb 8 y.1.length /\ Rb 2097664 y.2) -> Fx (i + z.length) (M7 e z)
 | [], e, i, he, _, _ => he
 | (l, q) :: r, e, i, he, hi, hz => by
  simp only [c1W] at hi
  have h1 := b6M (l := l) he (by omega) (hz (l, q) (by simp)).2 (hz (l, q) (by simp)).1
  have h2 := b5i r _ (i + 1) h1 (by omega) fun y hy => hz y (by simp [hy])
  simp only [M7, c1W]
  rwa [show i + 1 + r.length = i + (r.length + 1) by omega] at h2
def a5d : Q8 := ⟨62, [.tmp 4, .tmp 5], .seq (.reg [OA 2 (.box 51 (TT 0)), OA 4 (.mv (.const (.slice none 0 0))), OA 5 (.mv (II 0))]) (.seq (.seq (.reg [LL 14 12 2, MM 15 1, OA 16 (.len false (TT 15)), OA 17 (.call 101 [TT 14, TT 16]), MM 6 17])
 (.seq (.reg [MM 18 6, OA 19 (.bin .neq (TT 18) (II 0))]) (.cond (TT 19) (.seq (.reg [MM 20 6, OA 4 (.mv (.const (.slice none 0 0))), MM 5 20]) .ret) .skip))) (.seq (.reg [FF 21 1 2, LL 22 10 21, OA 7 (.alloc 48 [.bool false,
 .string ⟨#[]⟩, .string ⟨#[]⟩, .bool false, .string ⟨#[]⟩, .string ⟨#[]⟩, .bool false, .bool false, .string ⟨#[]⟩, .string ⟨#[]⟩]), OB (.store 10 (TT 7) (TT 22))]) (.seq (.reg [OA 23 (.call 86 [II 0]), OA 24 (.call 86 [II 0]), OA
 25 (.build [.bool false, .string ⟨#[]⟩, .string ⟨#[]⟩, .bool false, .string ⟨#[]⟩, .string ⟨#[]⟩] [(0, (3, TT 23)), (3, (3, TT 24))]), OA 8 (.alloc 44 [.bool false, .string ⟨#[]⟩, .string ⟨#[]⟩, .bool false, .string ⟨#[]⟩,
 .string ⟨#[]⟩]), OB (.store 6 (TT 8) (TT 25))]) (.seq (.reg [OA 26 (.call 86 [II 0]), OA 27 (.call 102 [TT 26]), OA 9 (.alloc 46 [.bool false, .bool false, .string ⟨#[]⟩, .string ⟨#[]⟩]), OB (.store 4 (TT 9) (TT 27))]) (.seq
 (.reg [OA 10 (.mv (.const (.slice none 0 0)))]) (.seq (.seq (.reg [FF 28 11 2, VV 29 28, OA 30 (.len false (TT 29)), OA 31 (.mv (II 0))]) (.block 0 (.loop (.seq (.reg [OA 32 (.bin .lss (TT 31) (TT 30))]) (.seq (.cond (TT 32)
 .skip (.exit 0)) (.seq (.block 1 (.seq (.reg [MM 33 31, OA 34 (.p9 16 (TT 29) (TT 31)), LL 35 16 34, OA 12 (.alloc 53 [.bool false, .string ⟨#[]⟩, .string ⟨#[]⟩, .bool false, .string ⟨#[]⟩, .string ⟨#[]⟩, .bool false, .string
 ⟨#[]⟩, .string ⟨#[]⟩, .bool false, .string ⟨#[]⟩, .string ⟨#[]⟩, .bool false, .string ⟨#[]⟩, .string ⟨#[]⟩, .slice none 0 0]), MM 11 33, OB (.store 16 (TT 12) (TT 35))]) (.seq (.F5 [.q, .q, .q, .q, .q, .q, .q, .q, .q, .a, .e
 (some 13) true] [LL 36 10 7, LL 37 6 8, MM 38 1, MM 39 11, OA 40 (.p9 3 (TT 38) (TT 39)), LL 41 3 40, OA 42 (.call 102 [TT 41]), OA 43 (.build [.bool false, .string ⟨#[]⟩, .string ⟨#[]⟩, .bool false, .string ⟨#[]⟩, .string
 ⟨#[]⟩, .bool false, .bool false, .string ⟨#[]⟩, .string ⟨#[]⟩] [(0, (6, TT 37)), (6, (4, TT 42))]), OA 44 (.call 12 [TT 36, TT 43]), OA 13 (.alloc 48 [.bool false, .string ⟨#[]⟩, .string ⟨#[]⟩, .bool false, .string ⟨#[]⟩,
 .string ⟨#[]⟩, .bool false, .bool false, .string ⟨#[]⟩, .string ⟨#[]⟩]), OB (.store 10 (TT 13) (TT 44))]) (.seq (.reg [MM 45 10, LL 46 10 13, OA 47 (.bsl 48 10 1 [.bool false, .string ⟨#[]⟩, .string ⟨#[]⟩, .bool false, .string
 ⟨#[]⟩, .string ⟨#[]⟩, .bool false, .bool false, .string ⟨#[]⟩, .string ⟨#[]⟩] [(0, TT 46)]), OA 48 (.app 48 10 128 (TT 45) (TT 47)), MM 10 48]) (.F5 [.q, .q, .q, .q, .q, .q, .q, .q, .e none true] [LL 49 10 13, FF 50 0 12, LL
 51 3 50, OA 52 (.call 86 [II 0]), OA 53 (.build [.bool false, .string ⟨#[]⟩, .string ⟨#[]⟩, .bool false, .string ⟨#[]⟩, .string ⟨#[]⟩] [(0, (3, TT 51)), (3, (3, TT 52))]), LL 54 4 9, OA 55 (.build [.bool false, .string ⟨#[]⟩,
 .string ⟨#[]⟩, .bool false, .string ⟨#[]⟩, .string ⟨#[]⟩, .bool false, .bool false, .string ⟨#[]⟩, .string ⟨#[]⟩] [(0, (6, TT 53)), (6, (4, TT 54))]), OA 56 (.call 12 [TT 49, TT 55]), OB (.store 10 (TT 7) (TT 56))]))))) (.reg
 [OA 57 (.bin .add (TT 31) (II 1)), MM 31 57]))))))) (.seq (.reg [MM 58 10, LL 59 10 7, OA 60 (.bsl 48 10 1 [.bool false, .string ⟨#[]⟩, .string ⟨#[]⟩, .bool false, .string ⟨#[]⟩, .string ⟨#[]⟩, .bool false, .bool false, .string
 ⟨#[]⟩, .string ⟨#[]⟩] [(0, TT 59)]), OA 61 (.app 48 10 128 (TT 58) (TT 60)), MM 4 61, OA 5 (.mv (II 0))]) .ret)))))))⟩
theorem a9G : M6 eff Tryz.prog Tryz.f51 = some a5d := by kernel_rfl
theorem a9D : Tryz.prog.funcs[51]? = some Tryz.f51 := Tryz.func51
theorem b8o (a : Am) (q : List Nm.Rt) (hl : Ab 1073741824 a) (ha : J4 a = 0) (hql : q.length = a.links.length) (hq : ∀ r ∈ q, Rb 2097664 r) : FZ 51 [a.c, rts q] (.tup [frs (a0P a.base (a.links.zip q)), ints 0]) := by
 refine kW a9D a9G (by rfl) fun w O hw => ?_
 have h := b7f a q.length hl
 rw [c0R ha (by omega)] at h
 have hz := b1n
 have ht := a5M (Nm.ofQ 0) (H6.mono (by decide))
 rw [Nm.D7] at ht
 obtain ⟨fb, lb⟩ := a6R ha
 have hn3 := (O8 ha).2
 have hn := hl.2.2.1
 obtain ⟨name, base, links⟩ := a
 simp only at hql fb lb hn3 hn ⊢
 have t1 := fun (e : Fr) (i : Nat) (l : Lk) (r : Nm.Rt) (he : Fx i e) (hi : i < 3) (hr : Rb 2097664 r) => a9v e (V5 r) (he.1.mono (by have := a9p (show i <= 3 by omega); omega)) (he.2.1.mono (by have := a9p (show i <= 3 by omega); omega)) (he.2.2.mono (by have := a9p (show i <= 3 by omega); omega)) (H6.mono (by decide)) (H6.mono (by decide)) ((hr.fit (by decide)).mono (by decide))
 have t2 := fun (e : Fr) (i : Nat) (l : Lk) (r : Nm.Rt) (he : Fx i e) (hi : i < 3) (hr : Rb 2097664 r) (hl : Rb 8 l.length) => a9v (K8 e (V5 r)) (a4n l) ((a6X he hi hr).1.mono (by have := b_lt hi; omega)) ((a6X he hi hr).2.1.mono (by have := b_lt hi; omega)) ((a6X he hi hr).2.2.mono (by have := b_lt hi; omega)) (hl.mono (by decide)) (H6.mono (by decide)) (H6.mono (by decide))
 simp only [a5d, l6, TT, II, OA, OB, OC, MM, LL, VV, FF, MG, LG, VG, FG]
 unfold rq at hz
 unfold tq at ht
 have hj : ∀ r, V5 r = ⟨Nm.ofQ 0, Nm.ofQ 0, false, Nm.ofQ (Nm.d9 r)⟩ := fun _ => rfl
 have hlg : ∀ l : Lk, a4n l = ⟨l.length, Nm.ofQ 0, false, Nm.ofQ 0⟩ := fun _ => rfl
 generalize Nm.ofQ 0 = z at *
 simp only [Am.c, Am.enc, lks, rts, rc, tc, sb, ints] at h hz ht ⊢
 (repeat first | refine uA ?_ | (refine uK ?_ ?_; focus first | omega | (intros; simp_all <;> omega)) | simp (disch := omega) only [go_sem, Nat.reduceBEq, Nat.reduceAdd, ww, c1J] | (refine uD h ?_ ?_ ?_; exact tz hw; exact rfl))
 refine S.cond rfl (fun hc => by simp at hc) (fun hc => ?_)
 (repeat first | refine uA ?_ | (refine uK ?_ ?_; focus first | omega | (intros; simp_all <;> omega)) | simp (disch := omega) only [go_sem, Nat.reduceBEq, Nat.reduceAdd, ww, c1J] | (refine uD hz ?_ ?_ ?_; exact tz hw; exact rfl) | (refine uD ht ?_ ?_ ?_; exact tz hw; exact rfl))
 refine S.loop (X := Nat × Fr × List Fr) (fun x => ⟨[(1, rts q), (7, .bp 1 0), (8, .bp 2 0), (9, .bp 3 0), (10, .rv 4), (29, lks links), (30, ints links.length), (31, ints x.1)], [.gone, .box 48 x.2.1.enc, .box 44 [.v (.bool z.neg), sb z.num, sb z.den, .v (.bool z.neg), sb z.num, sb z.den], .box 46 [.v (.bool false), .v (.bool z.neg), sb z.num, sb z.den], .row 48 10 (x.2.2.map Fr.enc)]⟩)
  (fun x => x.1 <= links.length /\ x.2.2.length = x.1 /\ a0P base (links.zip q) = x.2.2 ++ a0P x.2.1 ((links.zip q).drop x.1) /\ Fx x.1 x.2.1) (fun x => links.length - x.1) (0, base, []) ⟨c1Q _, rfl, rfl, fb⟩ (Ent.trans (Ent.pack 10 48 10 rfl) (by simp only [Fr.enc, sb]; exact (by (repeat first | refine uA ?_ | (refine ⟨?_, ?_⟩; focus first | rfl | simp [slot]) | rfl | simp)))) ?_
 rintro ⟨i, e, outs⟩ ⟨hi, ho, hg, hF⟩
 simp only at hi ho hg hF
 simp only [rts, lks, sb, ints, Fr.enc]
 (repeat first | refine uA ?_ | (refine uK ?_ ?_; focus first | omega | (intros; simp_all <;> omega)) | simp (disch := omega) only [go_sem, Nat.reduceBEq, Nat.reduceAdd, ww])
 (refine uJ rfl (fun hc => ?_) fun hc => ?_)
 ·have hi' : i < links.length := by omega
  have hgl := c1I hi'
  have hgq := c1I (show i < q.length by omega)
  generalize links[i] = l at hgl
  generalize q[i]'_ = r at hgq
  have hr := hq r (c1L hgq)
  have hb := lb l (c1L hgl)
  have k1 := t1 e i l r hF (by omega) hr
  have k2 := t2 e i l r hF (by omega) hr hb
  have k3 := a5M r (hr.mono (by decide))
  have hF' := b6M (l := l) hF (by omega) hr hb
  rw [drop_at (J8 hgl hgq), a0P] at hg
  unfold tq at k3
  generalize K8 (K8 e (V5 r)) (a4n l) = e2 at *
  generalize K8 e (V5 r) = f at *
  rw [hj] at k1
  rw [hlg] at k2
  generalize Nm.ofQ (Nm.d9 r) = y at *
  have hqi : (i : Int) < q.length := by omega
  simp only [Fr.c, Fr.enc, rc, tc, sb] at k1 k2 k3
  (repeat first | refine uA ?_ | (refine uK ?_ ?_; focus first | omega | (intros; simp_all <;> omega)) | simp (disch := omega) only [go_sem, Nat.reduceBEq, Nat.reduceAdd, ww, hgl, hgq, c1K, c1J, Lk.enc, rcs, vts, sb, ho, c1R] | (refine uD hz ?_ ?_ ?_; exact tz hw; exact rfl) | (refine uD k1 ?_ ?_ ?_; exact tz hw; exact rfl) | (refine uD k2 ?_ ?_ ?_; exact tz hw; exact rfl) | (refine uD k3 ?_ ?_ ?_; exact tz hw; exact rfl))
  refine S.next (x := (i, e, outs)) (i + 1, e2, outs ++ [f]) ⟨by simp only; omega, by simp only [c1Y, ho]; rfl, by simp only; rw [hg, c2r]; rfl, hF'⟩ (by simp only; omega) (by simp only [c2z, c2b, c2w, Fr.enc, sb]; exact (by (repeat first | refine uA ?_ | (refine ⟨?_, ?_⟩; focus first | rfl | simp [slot]) | rfl | simp)))
 ·rw [List.drop_eq_nil_of_le (by rw [List.length_zip]; omega), a0P] at hg
  rw [hg]
  (repeat first | refine uA ?_ | (refine uK ?_ ?_; focus first | omega | (intros; simp_all <;> omega)) | simp (disch := omega) only [go_sem, Nat.reduceBEq, Nat.reduceAdd, ww, c1J])
  simp only [frs, c2z, c2b, c2w, Fr.enc, sb]
  (refine S.done ?_; simp only [q8, l9, go_sem, Nat.reduceBEq, Nat.reduceAdd, Nat.reduceLeDiff, Int.reduceToNat, Int.reducePow]; (repeat (refine ⟨?_, ?_⟩; focus first | trivial | omega | simp)); exact j3.out rfl (Imp.tup (by (repeat' (first | exact l7.nil | exact Imp.refl rfl | exact Imp.frz rfl rfl rfl | exact Imp.I9 | refine Imp.agg ?_ | refine l7.cons ?_ ?_)))) rfl)
theorem b1o (a : Am) (q : List Nm.Rt) (hl : Ab 1073741824 a) (ha : J4 a = 0) (hql : q.length = a.links.length) (hq : ∀ r ∈ q, Rb 2097664 r) : FZ 11 [a.c, rts q] (.tup [(M7 a.base (a.links.zip q)).c, ints 0]) := by
 refine kW Tryz.func11 (by cbv) (by rfl) fun w O hw => ?_
 have h := b8o a q hl ha hql hq
 obtain ⟨h1, h2⟩ := a7x (a.links.zip q) a.base
 have hn : (a.links.zip q).length <= 1073741824 := by rw [List.length_zip]; have := hl.2.2.1; omega
 generalize a0P a.base (a.links.zip q) = L at *
 generalize M7 a.base (a.links.zip q) = T at *
 generalize (a.links.zip q).length = n at *
 obtain ⟨name, base, links⟩ := a
 simp only [l6]
 simp only [Am.c, Am.enc, lks, rts, frs, Fr.c, Fr.enc, sb, ints] at h ⊢
 have e1 : ((L.length : Int) - 1) = (n : Int) := by omega
 have e2 : (n : Int) < L.length := by omega
 (repeat first | refine uA ?_ | (refine uK ?_ ?_; focus first | omega | (intros; simp_all <;> omega)) | simp (disch := omega) only [go_sem, Nat.reduceBEq, Nat.reduceAdd, ww] | (refine uD h ?_ ?_ ?_; exact tz hw; exact rfl))
 refine S.cond rfl (fun hc => by simp at hc) (fun hc => ?_)
 (repeat first | refine uA ?_ | (refine uK ?_ ?_; focus first | omega | (intros; simp_all <;> omega)) | simp (disch := omega) only [go_sem, Nat.reduceBEq, Nat.reduceAdd, ww, c1J, e1, h1, c1K, Fr.enc, sb, c1R])
 (refine S.done ?_; simp only [q8, l9, go_sem, Nat.reduceBEq, Nat.reduceAdd, Nat.reduceLeDiff, Int.reduceToNat, Int.reducePow]; (repeat (refine ⟨?_, ?_⟩; focus first | trivial | omega | simp)); exact j3.out rfl (Imp.tup (by (repeat' (first | exact l7.nil | exact Imp.refl rfl | exact Imp.frz rfl rfl rfl | exact Imp.I9 | refine Imp.agg ?_ | refine l7.cons ?_ ?_)))) rfl)
theorem c0m {f : Fr} (h : Fb 1048576 f) : Rb 268435456 (a0s f).x /\ Rb 268435456 (a0s f).y /\ Rb 268435456 (a0s f).t := by
 obtain ⟨c1, c2, c3⟩ := h
 have s1 := (M5 H6 (c1.fit (by decide)))
 have s2 := (M5 H6 (c2.fit (by decide)))
 have s3 := a7f (U6 (h := f.half) c3 (by decide))
 have g1 := a8R f.half (U6 (h := f.half) s3 (by decide))
 have g2 := a8U (U6 (h := f.half) s3 (by decide))
 have s4 := s1.fit (by decide)
 have s5 := s2.fit (by decide)
 unfold a0s
 exact ⟨(M5 (K7 s4 g1) (K7 s5 g2)).mono (by decide), (T9 (K7 s4 g2) (K7 s5 g1)).mono (by decide), s3.mono (by decide)⟩
theorem b0z {w : Wk} {n : Nat} {q : List Nm.Rt} {a : Am} {p : Nat} {pt : Pt} (hwb : Wb 1048576 w) (ga : w.arms[n]? = some a) (gp : w.parts[p]? = some pt) (ha : J4 a = 0) (hql : q.length = a.links.length) (hq : ∀ r ∈ q, Rb 2097664 r) : FZ 12 [(M7 a.base (a.links.zip q)).c, (a0s pt.grasp).c] (K8 (M7 a.base (a.links.zip q)) (a0s pt.grasp)).c := by
 have hb := hwb.parts.2 pt (c1L gp)
 obtain ⟨fb, lb⟩ := a6R ha
 have ht := b5i (a.links.zip q) a.base 0 fb (by have := (O8 ha).2; rw [List.length_zip]; omega) fun y hy => ⟨lb _ (List.of_mem_zip hy).1, hq _ (List.of_mem_zip hy).2⟩
 have hc := a9p (show 0 + (a.links.zip q).length <= 3 by have := (O8 ha).2; rw [List.length_zip]; omega)
 have hk := c0m hb.2.2
 exact a9v (M7 a.base (a.links.zip q)) (a0s pt.grasp) (ht.1.mono (by omega)) (ht.2.1.mono (by omega)) (ht.2.2.mono (by omega)) hk.1 hk.2.1 hk.2.2
theorem b0k (w : Wk) (n : Nat) (x : Ast) (a : Am) (p : Nat) (pt : Pt) (hwb : Wb 1048576 w) (ga : w.arms[n]? = some a) (gp : w.parts[p]? = some pt) (hx : x.holds = p) (ha : J4 a = 0) (hql : x.q.length = a.links.length) (hq : ∀ r ∈ x.q, Rb 2097664 r) :
  FZ 63 [w.c, .v (.int .i64 (n : Int)), x.c] (.tup [(F9 a x.q pt.grasp).c, ints 0]) := by
 refine kW Tryz.func63 (by cbv) (by rfl) fun w' O hw => ?_
 obtain ⟨n1, b1⟩ := hwb.arms
 obtain ⟨n2, b2⟩ := hwb.parts
 have h1 := b1o a x.q ((b1 a (c1L ga)).mono (by decide)) ha hql hq
 have h2 := b4k pt.grasp (b2 pt (c1L gp)).2.2
 have h3 := b0z hwb ga gp ha hql hq
 unfold F9
 have na := (c1O.1 ga).1
 have np := (c1O.1 gp).1
 generalize M7 a.base (a.links.zip x.q) = T at *
 generalize K8 T (a0s pt.grasp) = R at *
 generalize a0s pt.grasp = B at *
 obtain ⟨q, v, power, holds⟩ := x
 obtain ⟨arms, walls, parts, slots, gates, walk⟩ := w
 simp only at ga gp na np hx h1 ⊢
 subst hx
 have na' : (n : Int) < arms.length := by omega
 have np' : (p : Int) < parts.length := by omega
 simp only [l6]
 simp only [Wk.c, Wk.enc, Am.c, Am.enc, Ast.c, Ast.enc, Fr.c, Fr.enc, ams, wls, pts, sls, gts, lks, rts, sb, ints] at h1 h2 h3 ⊢
 (repeat first | refine uA ?_ | (refine uK ?_ ?_; focus first | omega | (intros; simp_all <;> omega)) | simp (disch := omega) only [go_sem, Nat.reduceBEq, Nat.reduceAdd, ww, ga, c1K, c1J, Am.enc, lks, sb, c1R] | (refine uD h1 ?_ ?_ ?_; exact tz hw; exact rfl))
 refine S.cond rfl (fun hc => by simp at hc) (fun hc => ?_)
 (repeat first | refine uA ?_ | (refine uK ?_ ?_; focus first | omega | (intros; simp_all <;> omega)) | simp (disch := omega) only [go_sem, Nat.reduceBEq, Nat.reduceAdd, ww, gp, c1K, c1J, Pt.enc, vts, sb, c1R] | (refine uD h2 ?_ ?_ ?_; exact tz hw; exact rfl) | (refine uD h3 ?_ ?_ ?_; exact tz hw; exact rfl))
 (refine S.done ?_; simp only [q8, l9, go_sem, Nat.reduceBEq, Nat.reduceAdd, Nat.reduceLeDiff, Int.reduceToNat, Int.reducePow]; (repeat (refine ⟨?_, ?_⟩; focus first | trivial | omega | simp)); exact j3.out rfl (Imp.tup (by (repeat' (first | exact l7.nil | exact Imp.refl rfl | exact Imp.frz rfl rfl rfl | exact Imp.I9 | refine Imp.agg ?_ | refine l7.cons ?_ ?_)))) rfl)
set_option maxHeartbeats 16000000
def a2w : List C := [.v (.int .i64 0), .v (.slice none 0 0), .v (.slice none 0 0), .v (.slice none 0 0), .v (.slice none 0 0)]
def c0T (v : Vt) (z : Gt) : Prop := Nm.u7 (Nm.d9 v.x) (Nm.d9 z.low.x) < 0 \/ 0 < Nm.u7 (Nm.d9 v.x) (Nm.d9 z.high.x) \/ Nm.u7 (Nm.d9 v.y) (Nm.d9 z.low.y) < 0 \/ 0 < Nm.u7 (Nm.d9 v.y) (Nm.d9 z.high.y)
instance (v : Vt) (z : Gt) : Decidable (c0T v z) := by unfold c0T; infer_instance
def c1s : List Nat := [27, 111]
def c1A (f : Nat) : Bool := c1s.contains f
theorem a9V {E : Ctx} (hP : E.P = Tryz.prog) (s : Stt) (hs : Stb 1073741824 s) :
  j5 E [] 62 [s.c] (.agg [ints s.tick, .rv 5, .rv 2, .rv 3, bls s.gates]) [.gone, .gone, .row 48 10 (s.parts.map Fr.enc), .row 44 6 (s.people.map Vt.enc), .gone, .row 61 4 (s.arms.map Ast.enc)] [] := by
 obtain ⟨P, eff', N, w0, own0, av0, nu0, pk0⟩ := E
 simp only at hP
 subst hP
 refine j5.of (eff := c1A) Tryz.func62 (by cbv) (by exact c2a rfl) fun w own av ν hν => ?_
 have hν0 : ν.length <= 0 := by rw [hν]; exact c1T _
 obtain ⟨⟨n1, b1⟩, ⟨n2, b2⟩, ⟨n3, b3⟩, n4⟩ := hs
 obtain ⟨tick, arms, parts, people, gates⟩ := s
 simp only at n1 b1 n2 n3 n4 ⊢
 have c1 := b5E (parts.map Fr.enc) (by rw [c1J]; exact n2)
 have c2 := b7Q (people.map Vt.enc) (by rw [c1J]; exact n3)
 have c3 := (b6a (gates.map fun b => [.v (.bool b)]) (by rw [c1J]; exact n4)).spec
 simp only [l6]
 simp only [Stt.c, Stt.enc, L8, frs, vts, bls, ints]
 (repeat first | refine uI ?_ | (refine uK ?_ ?_; focus first | omega | (intros; simp_all <;> omega)) | simp (disch := omega) only [go_sem, Nat.reduceBEq, Nat.reduceAdd, ww])
 refine S.F5 [.box 37 [.v (.int .i64 tick), .sl 4 (arms.map Ast.enc), .sl 10 (parts.map Fr.enc), .sl 6 (people.map Vt.enc), .sl 1 (gates.map fun b => [.v (.bool b)])]] (by simp [Eng.F4, Eng.P5]) ?_
 (repeat first | refine uA ?_ | (refine uK ?_ ?_; focus first | omega | (intros; simp_all <;> omega)) | simp (disch := omega) only [go_sem, Nat.reduceBEq, Nat.reduceAdd, ww, F4, c1J] | refine l8.t (FNew.t c1 rfl) ?_ | refine l8.t (FNew.t c2 rfl) ?_ | (refine uB c3 ?_ ?_; exact rfl))
 refine S.loop (X := Nat) (fun i => ⟨[(2, .bp 1 0), (3, .bp 4 0), (19, L8 arms), (20, ints arms.length), (21, ints i)], [.gone, .box 37 [.v (.int .i64 0), .v (.slice none 0 0), .v (.slice none 0 0), .v (.slice none 0 0), .v (.slice none 0 0)], .row 48 10 (parts.map Fr.enc), .row 44 6 (people.map Vt.enc), .box 37 [ints tick, .rv 5, .rv 2, .rv 3, bls gates], .row 61 4 ((arms.take i).map Ast.enc)]⟩) (fun i => i <= arms.length) (fun i => arms.length - i) 0 (c1Q _)
  (Ent.trans (Ent.a1M 4 1 61 4 rfl rfl rfl) (by (repeat first | refine uA ?_ | (refine ⟨?_, ?_⟩; focus first | rfl | simp [slot]) | rfl | simp | exact c1M hν0 (by simp)))) ?_
 intro i hi
 simp only [L8, bls, ints]
 (repeat first | refine uA ?_ | (refine uK ?_ ?_; focus first | omega | (intros; simp_all <;> omega)) | simp (disch := omega) only [go_sem, Nat.reduceBEq, Nat.reduceAdd, ww])
 (refine uJ rfl (fun hc => ?_) fun hc => ?_)
 ·have hi' : i < arms.length := by omega
  have hgi := c1I hi'
  have hap : arms.take (i + 1) = arms.take i ++ [arms[i]] := c2A hi'
  generalize arms[i] = x at hgi hap
  obtain ⟨⟨q1, _⟩, ⟨q2, _⟩⟩ := b1 x (c1L hgi)
  have e1 := (a4a (x.q.map rcs) (by rw [c1J]; exact q1)).spec
  have e2 := (a4a (x.v.map rcs) (by rw [c1J]; exact q2)).spec
  have htl : (arms.take i).length = i := by rw [c1V]; omega
  (repeat first | refine uA ?_ | (refine uK ?_ ?_; focus first | omega | (intros; simp_all <;> omega)) | simp (disch := omega) only [go_sem, Nat.reduceBEq, Nat.reduceAdd, ww, hgi, c1K, c1J, Ast.enc, rts, ints, htl] | (refine uB e1 ?_ ?_; exact rfl) | (refine uB e2 ?_ ?_; exact rfl))
  refine S.next (i + 1) (by omega) (by omega) (by simp only [hap, c2z, c2b, c2w, Ast.enc, rts, ints]; exact (by (repeat first | refine uA ?_ | (refine ⟨?_, ?_⟩; focus first | rfl | simp [slot]) | rfl | simp | exact c1M hν0 (by simp))))
 ·have hi' : i = arms.length := by omega
  subst hi'
  rw [c2i]
  (repeat first | refine uA ?_ | (refine uK ?_ ?_; focus first | omega | (intros; simp_all <;> omega)) | simp (disch := omega) only [go_sem, Nat.reduceBEq, Nat.reduceAdd, ww])
  (refine S.done ?_; simp only [q8, l9, go_sem, Nat.reduceBEq, Nat.reduceAdd, Nat.reduceLeDiff, Int.reduceToNat, Int.reducePow]; (repeat (refine ⟨?_, ?_⟩; focus first | trivial | omega | simp)); exact j3.N9 (Imp.agg (by (repeat' (first | exact l7.nil | exact Imp.refl rfl | exact Imp.frz rfl rfl rfl | exact Imp.I9 | refine l7.cons ?_ ?_)))) (by (repeat first | refine uA ?_ | (refine ⟨?_, ?_⟩; focus first | rfl | simp [slot]) | rfl | simp)) (c1M hν0 (by simp)))
def wss (u : List (List Nm.Rt)) : C := .sl 1 (u.map fun l => [rts l])
def Wsb (k : Nat) (u : List (List Nm.Rt)) : Prop := u.length <= k /\ ∀ l ∈ u, Rbs k l
theorem b9m (a b k : Rat) : 0 < Nm.u7 (a1D a b) k <-> 0 < Nm.u7 a k \/ 0 < Nm.u7 b k := by
 unfold a1D
 have h := a1s a b
 rw [Y8, Y8]
 split
 ·rw [Y8]
  have : ¬ a < b := fun h2 => by have := h.2 h2; omega
  grind
 ·rw [Y8]
  have : a < b := h.1 (by omega)
  grind
theorem a4X {k m n : Nat} {a b : Nm.Rt} (ha : Rb k a) (hb : Rb m b) (h1 : 1 <= k) (h2 : 1 <= m) (hn : k + m + 1 <= n) : Rb n (a1E a b) := (T9 (ha.fit h1) (hb.fit h2)).mono hn
theorem a8n {l : Lk} (h : M8 l = 0) : Rb 8 l.brake := by
 unfold M8 at h
 split at h
 ·cases h
 rename_i h2
 have hs2 : (j4 l.length && j4 l.low && j4 l.high && j4 l.speed && j4 l.brake) = true := by
  cases hb : (j4 l.length && j4 l.low && j4 l.high && j4 l.speed && j4 l.brake) with
  | true => rfl
  | false => exact absurd (.inl hb) h2
 simp only [c1N] at hs2
 exact (W9 hs2.2).mono (by decide)
theorem a5D {α β γ : Type} {f : α × β -> γ} {l : List α} {m : List β} {z : γ} (h : z ∈ (l.zip m).map f) : ∃ a ∈ l, ∃ b ∈ m, z = f (a, b) := by
 obtain ⟨⟨a, b⟩, hm, rfl⟩ := List.mem_map.1 h
 exact ⟨a, (List.of_mem_zip hm).1, b, (List.of_mem_zip hm).2, rfl⟩
theorem c0C {a : Am} {x : Ast} {u : List Nm.Rt} {p : Bool} (ha : J4 a = 0) (hx : Asb 1048576 x) (hu : ∀ r ∈ u, Rb 1048576 r) : (∀ r ∈ (X7 a x u p).q, Rb 2097664 r) /\ ∀ r ∈ (X7 a x u p).v, Rb 2097664 r := by
 have hv : ∀ r ∈ a1b a x, Rb 1048585 r := fun r hr => by
  obtain ⟨l, hl, v, hv, rfl⟩ := a5D hr
  have h1 := hx.2.2 v hv
  have h2 := a8n ((O4 ha).2 l hl)
  unfold Z9
  split
  ·exact H6.mono (by decide)
  split
  ·exact a4X h1 h2 (by decide) (by decide) (by decide)
  ·exact (M5 (h1.fit (by decide)) (h2.fit (by decide))).mono (by decide)
 unfold X7
 split
 ·refine ⟨fun r hr => ?_, fun r hr => (hu r hr).mono (by decide)⟩
  obtain ⟨q, hq, v, hv, rfl⟩ := a5D (show r ∈ mvQ x u from hr)
  exact a4X (hx.1.2 q hq) (hu v hv) (by decide) (by decide) (by decide)
 ·refine ⟨fun r hr => ?_, fun r hr => (hv r hr).mono (by decide)⟩
  obtain ⟨q, hq, v, hv', rfl⟩ := a5D (show r ∈ a2s a x from hr)
  exact a4X (hx.1.2 q hq) (hv v hv') (by decide) (by decide) (by decide)
theorem b7m (w : Wk) (P : List Fr) (z : Am × Ast) : (a7X w P z).length = P.length := by
 unfold a7X
 split
 ·rfl
 ·split
  ·simp
  ·rfl
theorem b2K (w : Wk) : ∀ (l : List (Am × Ast)) (P : List Fr), (l.foldl (a7X w) P).length = P.length
 | [], _ => rfl
 | z :: l, P => by rw [List.foldl_cons, b2K w l, b7m]
theorem fold_at {α β : Type} {f : β -> α -> β} {l : List α} {i : Nat} {x : α} (h : l[i]? = some x) (b : β) : (l.take (i + 1)).foldl f b = f ((l.take i).foldl f b) x := by
 rw [take_at h, List.foldl_append]; rfl
set_option maxHeartbeats 4000000
theorem b6B {b v : Nm.Rt} (hb : 0 < F3 (Nm.d9 b)) (hv : F3 (Nm.d9 v) = 0) : Z9 b v = Nm.ofQ 0 := by
 unfold Z9
 rw [if_pos (b0B hb hv)]
theorem b8i {q : Nm.Rt} (h : I5 q = true) : a1E q (Nm.ofQ 0) = q := by
 unfold a1E
 rw [Nm.D7, Rat.add_zero]
 exact Nm.b2B (of_decide_eq_true h)
theorem b8u {q : Rat} (h : q = 0) : F3 q = 0 := by subst h; decide +kernel
theorem b5W (b v : Nm.Rt) : I5 (Z9 b v) = true := by
 unfold Z9 a1E I5
 split
 ·exact decide_eq_true (Nm.X8 _)
 ·split
  ·exact decide_eq_true (Nm.X8 _)
  ·exact decide_eq_true (Nm.X8 _)
theorem b1x (a b : Nm.Rt) : I5 (a1E a b) = true := decide_eq_true (Nm.X8 _)
def b2f (x : Lk × Nm.Rt) : Int := if Nm.u7 (Nm.d9 x.2) (Nm.d9 x.1.low) < 0 \/ 0 < Nm.u7 (Nm.d9 x.2) (Nm.d9 x.1.high) then 17 else 0
theorem b9y {a : Am} {x : Ast} {n : Nat} (h : Y3 a x n = 0) : (x.q.all I5 = true /\ x.v.all I5 = true) /\ (∀ z ∈ a.links.zip x.q, b2f z = 0) /\ ∀ z ∈ a.links.zip x.v, a0A z = 0 := by
 unfold Y3 at h
 split at h
 ·cases h
 rename_i h1
 split at h
 ·rename_i h2; exact absurd h h2
 rename_i h2
 split at h
 ·cases h
 have h2 := Classical.not_not.1 h2
 unfold a1t at h2
 split at h2
 ·rename_i h3; exact absurd h2 h3
 split at h2
 ·cases h2
 refine ⟨?_, a4m h2, a4m h⟩
 have h1 := eq_true_of_ne_false h1
 simpa only [c1N] using h1
theorem a7R {a : Am} {y : Ast} {n : Nat} (ha : J4 a = 0) (g1 : y.q.all I5 = true) (g2 : y.v.all I5 = true) (hq : y.q.length = a.links.length) (hv : y.v.length = a.links.length) (hh : -1 <= y.holds /\ y.holds < n) (hl : ∀ z ∈ a.links.zip y.q, b2f z = 0) (hs : ∀ z ∈ a.links.zip y.v, a0A z = 0) : Y3 a y n = 0 := by
 unfold Y3
 have hf : a1t a y.q = 0 := by
  unfold a1t
  rw [if_neg (by simp [ha]), if_neg (by simp [hq])]
  exact a1u hl
 rw [g1, g2, if_neg (by decide), hf, if_neg (by decide), if_neg (by omega)]
 exact a1u hs
theorem b7r {a : Am} {x : Ast} {n : Nat} {u : List Nm.Rt} {p : Bool} (h : Y3 a x n = 0) (hz : ∀ r ∈ x.v, Nm.d9 r = 0) : Y3 a (X7 a x u p) n = 0 := by
 have ho := a1h h
 obtain ⟨⟨g1, g2⟩, hl, hs⟩ := b9y h
 have hlen := a9S (u := u) (p := p) ho
 have hh := holds_one a x u p
 have hlk := (O4 ho.arm).2
 unfold X7 at *
 by_cases hc : (p && a5T a x.q u) = true
 ·rw [if_pos hc] at *
  simp only [c1N, a5T, c1P] at hc
  obtain ⟨_, c1, c2, c3⟩ := hc
  refine a7R ho.arm ?_ c2 hlen.1 hlen.2 (by rw [hh]; exact ho.holds) (fun z hz => ?_) fun z hz => ?_
  ·rw [List.all_eq_true]
   intro r hr
   obtain ⟨_, _, _, _, rfl⟩ := a5D (show r ∈ mvQ x u from hr)
   exact b1x _ _
  all_goals
   obtain ⟨i, hi⟩ := List.getElem?_of_mem hz
   rw [List.getElem?_zip_eq_some] at hi
   obtain ⟨i1, i2⟩ := hi
   have hil := (c1O.1 i1).1
   have e1 := c1I (show i < x.q.length by have := ho.q; omega)
   have e2 := c1I (show i < u.length by omega)
   have hm := List.all_eq_true.1 c3 _ (c1L (J8 i1 (J8 e1 e2)))
   unfold b4V at hm
   simp only [Bool.not_eq_true', c2d, c1S] at hm
  ·have hq := b6J e1 e2
   rw [show (mvA x u).q = mvQ x u from rfl, hq] at i2
   injection i2 with i2
   unfold b2f
   rw [if_neg]
   rw [<- i2]
   unfold a1E
   rw [Nm.D7, a1s, <- Y8]
   omega
  ·rw [show (mvA x u).v = u from rfl, e2] at i2
   injection i2 with i2
   unfold a0A
   rw [if_neg]
   rw [<- i2]
   exact hm.1.1
 ·rw [if_neg hc] at *
  have hV : ∀ (i : Nat) (l : Lk) (r : Nm.Rt), a.links[i]? = some l -> (a1b a x)[i]? = some r -> r = Nm.ofQ 0 := fun i l r i1 i2 => by
   have hil := (c1O.1 i1).1
   have e1 := c1I (show i < x.q.length by have := ho.q; omega)
   have e2 := c1I (show i < x.v.length by have := ho.v; omega)
   rw [(a9J i1 e2 e1).1] at i2
   injection i2 with i2
   rw [<- i2]
   exact b6B (a8q (hlk l (c1L i1))) (b8u (hz _ (c1L e2)))
  refine a7R ho.arm ?_ ?_ hlen.1 hlen.2 (by rw [hh]; exact ho.holds) (fun z hz => ?_) fun z hz => ?_
  ·rw [List.all_eq_true]
   intro r hr
   obtain ⟨_, _, _, _, rfl⟩ := a5D (show r ∈ a2s a x from hr)
   exact b1x _ _
  ·rw [List.all_eq_true]
   intro r hr
   obtain ⟨_, _, _, _, rfl⟩ := a5D (show r ∈ a1b a x from hr)
   exact b5W _ _
  all_goals
   obtain ⟨i, hi⟩ := List.getElem?_of_mem hz
   rw [List.getElem?_zip_eq_some] at hi
   obtain ⟨i1, i2⟩ := hi
   have hil := (c1O.1 i1).1
   have e1 := c1I (show i < x.q.length by have := ho.q; omega)
   have e2 := c1I (show i < x.v.length by have := ho.v; omega)
   have hb := a9J i1 e2 e1
   have h0 := hV i z.1 _ i1 hb.1
  ·rw [show (b1s a x).q = a2s a x from rfl, hb.2, h0, b8i (List.all_eq_true.1 g1 _ (c1L e1))] at i2
   injection i2 with i2
   have := hl _ (c1L (J8 i1 e1))
   rw [i2] at this
   exact this
  ·rw [show (b1s a x).v = a1b a x from rfl, hb.1, h0] at i2
   injection i2 with i2
   have := a4L (hlk z.1 (c1L i1))
   rw [i2] at this
   exact this
theorem c0L {a : Am} {x : Ast} {kq kv : Nat} (ha : J4 a = 0) (h1 : 1 <= kq) (h2 : 8 <= kv) (hq : ∀ r ∈ x.q, Rb kq r) (hv : ∀ r ∈ x.v, Rb kv r) : (∀ r ∈ a1b a x, Rb (kv + 9) r) /\ ∀ r ∈ a2s a x, Rb (kq + kv + 10) r := by
 have hV : ∀ r ∈ a1b a x, Rb (kv + 9) r := fun r hr => by
  obtain ⟨l, hl, v, hv', rfl⟩ := a5D hr
  have h3 := hv v hv'
  have h4 := a8n ((O4 ha).2 l hl)
  unfold Z9
  split
  ·exact H6.mono (by omega)
  split
  ·exact a4X h3 h4 (by omega) (by decide) (by omega)
  ·exact (M5 (h3.fit (by omega)) (h4.fit (by decide))).mono (by omega)
 refine ⟨hV, fun r hr => ?_⟩
 obtain ⟨q, hq', v, hv', rfl⟩ := a5D (show r ∈ a2s a x from hr)
 exact a4X (hq q hq') (hV v hv') h1 (by omega) (by omega)
structure Calm (w : Wk) (s : Stt) (k : Nat) : Prop where
 st : K5 w s = 0
 people : s.people = []
 holds : ∀ x ∈ s.arms, x.holds = -1
 q : ∀ x ∈ s.arms, ∀ r ∈ x.q, Rb (100 + 1000 * k) r
 v : ∀ x ∈ s.arms, ∀ r ∈ x.v, Rb (200 + 20 * k) r
 tick : s.tick = k
 parts : ∀ f ∈ s.parts, Fb 1048576 f
theorem a8i {l : Lk} (h : M8 l = 0) : Rb 3 l.low /\ Rb 3 l.high /\ Rb 3 l.speed /\ Rb 3 l.brake := by
 unfold M8 at h
 split at h
 ·cases h
 rename_i h2
 have hs2 : (j4 l.length && j4 l.low && j4 l.high && j4 l.speed && j4 l.brake) = true := by
  cases hb : (j4 l.length && j4 l.low && j4 l.high && j4 l.speed && j4 l.brake) with
  | true => rfl
  | false => exact absurd (.inl hb) h2
 simp only [c1N] at hs2
 exact ⟨W9 hs2.1.1.1.2, W9 hs2.1.1.2, W9 hs2.1.2, W9 hs2.2⟩
theorem b4W {w : Wk} (hwb : Wb 1048576 w) (hk : a0d w = 0) (ha : ∀ a ∈ w.arms, J4 a = 0) (hs : ∀ s ∈ w.slots, okF s.frame = true) : Calm w (G9 w) 0 := by
 have hb := b3g (k := 1048576) (by decide) hwb ha hs
 refine ⟨a5v hk ha hs, rfl, fun x hx => ?_, fun x hx r hr => ?_, fun x hx r hr => ?_, rfl, hb.parts.2⟩
 ·obtain ⟨a, _, rfl⟩ := List.mem_map.1 (show x ∈ w.arms.map Q6 from hx)
  rfl
 ·obtain ⟨a, hm, rfl⟩ := List.mem_map.1 (show x ∈ w.arms.map Q6 from hx)
  obtain ⟨l, hl, rfl⟩ := List.mem_map.1 (show r ∈ a.links.map a0v from hr)
  have h3 := a8i ((O4 (ha a hm)).2 l hl)
  unfold a0v a1D a0k
  repeat' split
  all_goals first | exact (h3.1.fit (by decide)).mono (by decide) | exact (h3.2.1.fit (by decide)).mono (by decide) | exact H6.mono (by decide)
 ·obtain ⟨a, hm, rfl⟩ := List.mem_map.1 (show x ∈ w.arms.map Q6 from hx)
  obtain ⟨l, hl, rfl⟩ := List.mem_map.1 (show r ∈ a.links.map (fun _ => Nm.ofQ 0) from hr)
  exact H6.mono (by decide)
set_option maxRecDepth 10000
set_option maxHeartbeats 8000000
theorem b7g (x n : Int) (h : 1 <= n) : x % n = (if x.tmod n < 0 then x.tmod n + n else x.tmod n) /\ -n < x.tmod n /\ x.tmod n < n := by
 have hq : x = n * (x.tdiv n) + x.tmod n := (Int.mul_tdiv_add_tmod x n).symm
 have he : x % n = x.tmod n % n := by
  conv => lhs; rw [hq]
  exact Int.mul_add_emod_self_left ..
 have h2 := Int.tmod_lt_of_pos x (show 0 < n by omega)
 have h3 : -n < x.tmod n := by
  have := Int.tmod_lt_of_pos (-x) (show 0 < n by omega)
  rw [Int.neg_tmod] at this
  omega
 refine ⟨?_, h3, h2⟩
 rw [he]
 split
 ·rename_i hc
  have : x.tmod n % n = (x.tmod n + n) % n := by simp
  rw [this]
  exact Int.emod_eq_of_lt (by omega) (by omega)
 ·exact Int.emod_eq_of_lt (by omega) (by omega)
theorem b8w (x n : Int) (h : 1 <= n /\ n <= 4611686018427387904) : F7 Tryz.prog 130 [ints x, ints n] (ints (x % n)) := by
 refine kS Tryz.func130 (by cbv) (by rfl) fun w O => ?_
 simp only [l6, ints]
 have hn : ¬ n = 0 := by omega
 obtain ⟨he, hlt⟩ := b7g x n (by omega)
 (repeat first | refine uA ?_ | (refine uK ?_ ?_; focus first | omega | (intros; simp_all <;> omega)) | simp (disch := omega) only [go_sem, Nat.reduceBEq, Nat.reduceAdd, ww, hn])
 (refine uJ rfl (fun hc => ?_) fun hc => ?_)
 ·rw [he, if_pos hc]
  (repeat first | refine uA ?_ | (refine uK ?_ ?_; focus first | omega | (intros; simp_all <;> omega)) | simp (disch := omega) only [go_sem, Nat.reduceBEq, Nat.reduceAdd, ww])
  exact S.done (j3.out rfl (Imp.refl rfl) rfl)
 ·rw [he, if_neg hc]
  (repeat first | refine uA ?_ | (refine uK ?_ ?_; focus first | omega | (intros; simp_all <;> omega)) | simp (disch := omega) only [go_sem, Nat.reduceBEq, Nat.reduceAdd, ww])
  exact S.done (j3.out rfl (Imp.refl rfl) rfl)
def A8 (l : List Int) : C := .sl 1 (l.map fun n => [.v (.int .i64 n)])
theorem H9 {E : Ctx} (hP : E.P = Tryz.prog) (l : List Int) (n : Int) (h : 1 <= n /\ n <= 4611686018427387904) :
  j5 E [.box 145 [A8 l]] 80 [.bp 0 0, ints n] (ints (nx l n)) [.box 145 [A8 (l.drop 1)]] [] := by
 obtain ⟨P, eff', N, w0, own0, av0, nu0, pk0⟩ := E
 simp only at hP
 subst hP
 refine j5.of (eff := eff) Tryz.func80 (by cbv) (by exact c2a rfl) fun w own av ν hν => ?_
 have hν0 : ν.length <= 1 := by rw [hν]; exact c1T _
 have hn1 : decide (n < 1) = false := decide_eq_false (by omega)
 cases l with
 | nil =>
  have e : nx [] n = 0 := by unfold nx; rw [List.headD_nil, Int.zero_emod]
  rw [e]
  simp only [l6, A8, ints, List.drop_nil, c2w]
  (repeat first | refine uA ?_ | (refine uK ?_ ?_; focus first | omega | (intros; simp_all <;> omega)) | simp (disch := omega) only [go_sem, Nat.reduceBEq, Nat.reduceAdd, ww, hn1, List.length_nil])
  refine S.cond rfl (fun hc => ?_) (fun hc => by simp at hc)
  (repeat first | refine uA ?_ | (refine uK ?_ ?_; focus first | omega | (intros; simp_all <;> omega)) | simp (disch := omega) only [go_sem, Nat.reduceBEq, Nat.reduceAdd, ww])
  (refine S.done ?_; simp only [q8, l9, go_sem, Nat.reduceBEq, Nat.reduceAdd, Nat.reduceLeDiff, Int.reduceToNat, Int.reducePow]; (repeat (refine ⟨?_, ?_⟩; focus first | trivial | omega | simp)); exact j3.N9 (Imp.refl rfl) (by (repeat first | refine uA ?_ | (refine ⟨?_, ?_⟩; focus first | rfl | simp [slot]) | rfl | simp)) (c1M hν0 (by simp)))
 | cons x r =>
  have e : nx (x :: r) n = x % n := by unfold nx; rw [List.headD_cons]
  rw [e]
  have hb := b8w x n h
  have h0 : decide (((r.length : Int) + 1) = 0) = false := decide_eq_false (by omega)
  simp only [l6, A8, ints, c2b, List.drop_succ_cons, List.drop_zero] at *
  (repeat first | refine uA ?_ | (refine uK ?_ ?_; focus first | omega | (intros; simp_all <;> omega)) | simp (disch := omega) only [go_sem, Nat.reduceBEq, Nat.reduceAdd, ww, hn1, h0, c1W, c1J] | (refine uB hb ?_ ?_; exact rfl))
  refine S.cond rfl (fun hc => by simp at hc; omega) (fun hc => ?_)
  (repeat first | refine uA ?_ | (refine uK ?_ ?_; focus first | omega | (intros; simp_all <;> omega)) | simp (disch := omega) only [go_sem, Nat.reduceBEq, Nat.reduceAdd, ww, hn1, c1W, c1J, List.getElem?_cons_zero, a5C, List.take_succ_cons, List.drop_succ_cons, Nat.add_sub_cancel, c2i] | (refine uB hb ?_ ?_; exact rfl))
  (refine S.done ?_; simp only [q8, l9, go_sem, Nat.reduceBEq, Nat.reduceAdd, Nat.reduceLeDiff, Int.reduceToNat, Int.reducePow]; (repeat (refine ⟨?_, ?_⟩; focus first | trivial | omega | simp)); exact j3.N9 (Imp.refl rfl) (by (repeat first | refine uA ?_ | (refine ⟨?_, ?_⟩; focus first | rfl | simp [slot]) | rfl | simp)) (c1M hν0 (by simp)))
set_option maxRecDepth 100000
set_option maxHeartbeats 4000000
def nuI (a : Nm.Rt) : Int := Nm.sgn a.neg (Nm.val a.num)
def deI (a : Nm.Rt) : Int := max (Nm.val a.den : Int) 1
def a2S (x : Lk) (k : Int) : Nm.Rt := Q (8 * nuI x.low * deI x.high + (nuI x.high * deI x.low - nuI x.low * deI x.high) * k) (8 * deI x.low * deI x.high)
def N7 : List Lk -> List Int -> List Nm.Rt
 | [], _ => []
 | x :: r, l => a2S x (nx l 9) :: N7 r (l.drop 1)
theorem a0C : ∀ (L : List Lk) (l : List Int), (N7 L l).length = L.length
 | [], _ => rfl
 | x :: r, l => by rw [N7, c1W, c1W, a0C r]
theorem a8C : ∀ (L : List Lk) (l : List Int) (i : Nat) (x : Lk), L[i]? = some x -> N7 (L.take (i + 1)) l = N7 (L.take i) l ++ [a2S x (nx (l.drop i) 9)]
 | [], _, i, x, h => by simp at h
 | y :: r, l, 0, x, h => by
  simp only [List.getElem?_cons_zero, Option.some.injEq] at h
  subst h
  simp [N7]
 | y :: r, l, i + 1, x, h => by
  rw [List.getElem?_cons_succ] at h
  have := a8C r (l.drop 1) i x h
  rw [List.take_succ_cons, N7, this, List.take_succ_cons, N7, List.cons_append, List.drop_drop]
  rw [show 1 + i = i + 1 by omega]
theorem a8S {a d A D : Int} (h : -A <= a /\ a <= A) (hd : 0 <= d /\ d <= D) (hA : 0 <= A) : -(A * D) <= a * d /\ a * d <= A * D := by
 have h1 := Int.mul_le_mul_of_nonneg_right h.2 hd.1
 have h2 := Int.mul_le_mul_of_nonneg_right h.1 hd.1
 have h3 := Int.mul_le_mul_of_nonneg_left hd.2 hA
 rw [Int.neg_mul] at h2
 omega
theorem a9C {a : Nm.Rt} (h : j4 a = true) : (-1000000 <= nuI a /\ nuI a <= 1000000) /\ 1 <= deI a /\ deI a <= 1000 := by
 unfold j4 at h
 simp only [c1N, c1P] at h
 obtain ⟨⟨_, h1⟩, h2⟩ := h
 unfold nuI deI Nm.sgn
 split <;> omega
structure b8J (x : Lk) (k : Int) : Prop where
 n1 : -1000000 <= nuI x.low /\ nuI x.low <= 1000000
 n2 : -1000000 <= nuI x.high /\ nuI x.high <= 1000000
 d1 : 1 <= deI x.low /\ deI x.low <= 1000
 d2 : 1 <= deI x.high /\ deI x.high <= 1000
 p1 : -1000000000 <= nuI x.low * deI x.high /\ nuI x.low * deI x.high <= 1000000000
 p2 : -1000000000 <= nuI x.high * deI x.low /\ nuI x.high * deI x.low <= 1000000000
 p3 : -16000000000 <= (nuI x.high * deI x.low - nuI x.low * deI x.high) * k /\ (nuI x.high * deI x.low - nuI x.low * deI x.high) * k <= 16000000000
 p4 : 1 <= deI x.low * deI x.high /\ deI x.low * deI x.high <= 1000000
 p5 : 8 * nuI x.low * deI x.high = 8 * (nuI x.low * deI x.high)
 p6 : 8 * deI x.low * deI x.high = 8 * (deI x.low * deI x.high)
theorem a9w {x : Lk} {k : Int} (h1 : j4 x.low = true) (h2 : j4 x.high = true) (hk : 0 <= k /\ k <= 8) : b8J x k := by
 obtain ⟨n1, d1⟩ := a9C h1
 obtain ⟨n2, d2⟩ := a9C h2
 have p1 := a8S (A := 1000000) (D := 1000) n1 (d := deI x.high) (by omega) (by decide)
 have p2 := a8S (A := 1000000) (D := 1000) n2 (d := deI x.low) (by omega) (by decide)
 have p3 := a8S (A := 2000000000) (D := 8) (a := nuI x.high * deI x.low - nuI x.low * deI x.high) (d := k) (by omega) hk (by decide)
 have p4 := a8S (A := 1000) (D := 1000) (a := deI x.low) (d := deI x.high) (by omega) (by omega) (by decide)
 have p5 : 0 < deI x.low * deI x.high := Int.mul_pos (by omega) (by omega)
 exact ⟨n1, n2, d1, d2, by omega, by omega, by omega, by omega, Int.mul_assoc _ _ _, Int.mul_assoc _ _ _⟩
theorem c1w {n d : Int} (hn : -1099511627776 <= n /\ n <= 1099511627776) (hd : 1 <= d /\ d <= 1099511627776) : Rb 8 (Q n d) := by
 obtain ⟨g, hg, ⟨k, h1, h2⟩, h3⟩ := a7S n d hd.1
 have hk : k.natAbs <= 1099511627776 := by
  have : n.natAbs = g * k.natAbs := by rw [h1, Int.natAbs_mul]; simp
  have : k.natAbs <= g * k.natAbs := Nat.le_mul_of_pos_left _ hg
  omega
 have e : (256 : Nat) ^ 8 = 18446744073709551616 := by decide
 refine ⟨Nm.E8 ?_, Nm.E8 ?_⟩
 ·show (mkRat n d.toNat).num.natAbs < 256 ^ 8
  rw [h2, e]; omega
 ·show (mkRat n d.toNat).den < 256 ^ 8
  rw [e]; omega
theorem b9k {x : Lk} {k : Int} (h : b8J x k) : Rb 8 (a2S x k) := by
 obtain ⟨n1, n2, d1, d2, p1, p2, p3, p4, p5, p6⟩ := h
 exact c1w (by omega) (by omega)
theorem nx9 (l : List Int) : 0 <= nx l 9 /\ nx l 9 <= 8 := by
 have := p8 l (n := 9) (by decide)
 have := D5 l (n := 9) (by decide)
 omega
theorem a9l {l : Lk} (h : M8 l = 0) : j4 l.low = true /\ j4 l.high = true := by
 unfold M8 at h
 split at h
 ·cases h
 rename_i h2
 have hs2 : (j4 l.length && j4 l.low && j4 l.high && j4 l.speed && j4 l.brake) = true := by
  cases hb : (j4 l.length && j4 l.low && j4 l.high && j4 l.speed && j4 l.brake) with
  | true => rfl
  | false => exact absurd (.inl hb) h2
 simp only [c1N] at hs2
 exact ⟨hs2.1.1.1.2, hs2.1.1.2⟩
theorem a5X : ∀ (L : List Lk) (l : List Int), (∀ x ∈ L, M8 x = 0) -> ∀ r ∈ N7 L l, Rb 8 r
 | [], _, _, r, hr => by cases hr
 | x :: L, l, h, r, hr => by
  rw [N7] at hr
  rcases List.mem_cons.1 hr with rfl | hr
  ·obtain ⟨s1, s2⟩ := a9l (h x (by simp))
   exact b9k (a9w s1 s2 (nx9 l))
  ·exact a5X L _ (fun y hy => h y (by simp [hy])) r hr
theorem a3V (l : List UInt8) (b : UInt8) : Nm.val (l ++ [b]) = 256 * Nm.val l + b.toNat := by
 unfold Nm.val
 rw [List.foldl_append]
 rfl
theorem b2p {l : List UInt8} (h : l.length <= 3) (i : Nat) : Nm.val (l.take i) < 16777216 := by
 have h1 := Nm.X0 (l.take i)
 have h2 : (l.take i).length <= 3 := by rw [c1V]; omega
 have h3 : (256 : Nat) ^ (l.take i).length <= 256 ^ 3 := c2j (by decide) h2
 have e : (256 : Nat) ^ 3 = 16777216 := by decide
 omega
def a5S (x : Lk) (c q : Nm.Rt) : Nm.Rt := Nm.ofQ (a1D (-(Nm.d9 x.speed)) (a0k (Nm.d9 x.speed) (Nm.d9 c - Nm.d9 q)))
def a6Y (L : List Lk) (c q : List Nm.Rt) : List Nm.Rt := (L.zip (c.zip q)).map fun z => a5S z.1 z.2.1 z.2.2
def a1L (z : List (Am × Ast)) (to : List Int) (i : Nat) : List Nm.Rt := match z[i]? with
 | some (a, x) => a6Y a.links (N7 a.links (to.drop (3 * i))) x.q
 | none => []
def a0U (z : List (Am × Ast)) (to : List Int) (n : Nat) : List (List Nm.Rt) := (List.range n).map (a1L z to)
theorem b4U (z : List (Am × Ast)) (to : List Int) (n : Nat) : a0U z to (n + 1) = a0U z to n ++ [a1L z to n] := by
 unfold a0U
 rw [List.range_succ, c2z]
 rfl
theorem a6q (z : List (Am × Ast)) (to : List Int) (n : Nat) : (a0U z to n).length = n := by unfold a0U; simp
theorem b6H {L : List Lk} {c q : List Nm.Rt} {i : Nat} {l : Lk} {x y : Nm.Rt} (h1 : L[i]? = some l) (h2 : c[i]? = some x) (h3 : q[i]? = some y) : (a6Y L c q)[i]? = some (a5S l x y) := by
 unfold a6Y
 rw [c2x, J8 h1 (J8 h2 h3)]
 rfl
theorem b6R {L : List Lk} {c q : List Nm.Rt} (h1 : c.length = L.length) (h2 : q.length = L.length) : (a6Y L c q).length = L.length := by
 unfold a6Y; simp only [c1J, List.length_zip]; omega
theorem b1V {α : Type} (l : List α) (n : Nat) : l.drop (min l.length n) = l.drop n := by
 rcases Nat.le_total l.length n with h | h
 ·rw [Nat.min_eq_left h, List.drop_eq_nil_of_le h, List.drop_eq_nil_of_le (c1T _)]
 ·rw [Nat.min_eq_right h]
theorem b8c {x : Lk} {c q : Nm.Rt} {k : Nat} (hs : Rb 3 x.speed) (hc : Rb 8 c) (hq : Rb k q) (hk : 8 <= k) : Rb (k + 9) (a5S x c q) := by
 have h1 : Rb (k + 9) (Nm.ofQ (Nm.d9 c - Nm.d9 q)) := (M5 (hc.fit (by decide)) (hq.fit (by omega))).mono (by omega)
 have h2 : Rb (k + 9) (Nm.ofQ (Nm.d9 x.speed)) := (hs.fit (by decide)).mono (by omega)
 have h3 : Rb (k + 9) (Nm.ofQ (-(Nm.d9 x.speed))) := (b2q hs (by decide)).mono (by omega)
 unfold a5S a1D a0k
 repeat' split
 all_goals assumption
structure b1I (w : Wk) (s : Stt) (k : Nat) : Prop where
 st : K5 w s = 0
 q : ∀ x ∈ s.arms, ∀ r ∈ x.q, Rb (100 + 1000 * k) r
theorem b2F {w : Wk} {s : Stt} {to : List Int} {k i : Nat} (h : b1I w s k) {r : Nm.Rt} (hr : r ∈ a1L (w.arms.zip s.arms) to i) : Rb (109 + 1000 * k) r := by
 unfold a1L at hr
 split at hr
 ·rename_i a x hz
  have hm := c1L hz
  have ho := a1h ((a0n h.st).one _ hm)
  simp only at ho
  have hl := (O4 ho.arm).2
  obtain ⟨z, hz2, rfl⟩ := List.mem_map.1 hr
  obtain ⟨z1, z2, z3⟩ := z
  have m1 := (List.of_mem_zip hz2).1
  have m2 := (List.of_mem_zip (List.of_mem_zip hz2).2).1
  have m3 := (List.of_mem_zip (List.of_mem_zip hz2).2).2
  exact (b8c (a8i (hl z1 m1)).2.2.1 (a5X _ _ hl z2 m2) (h.q x (List.of_mem_zip hm).2 z3 m3) (by omega)).mono (by omega)
 ·cases hr
theorem b0C {w : Wk} {s : Stt} {to : List Int} {k i : Nat} (h : b1I w s k) {a : Am} (ha : w.arms[i]? = some a) : (a1L (w.arms.zip s.arms) to i).length = a.links.length := by
 have hok := a0n h.st
 have hil := (c1O.1 ha).1
 have hx := c1I (show i < s.arms.length by have := hok.arms; omega)
 have hz := J8 ha hx
 have ho := a1h (hok.one _ (c1L hz))
 simp only at ho
 unfold a1L
 rw [hz]
 exact b6R (a0C _ _) ho.q
theorem b9c {w : Wk} {s : Stt} {to : List Int} {k : Nat} (h : b1I w s k) (hk : k <= 10) : Wsb 1048576 (a0U (w.arms.zip s.arms) to w.arms.length) := by
 have hok := a0n h.st
 refine ⟨by rw [a6q]; have := hok.big; omega, fun l hl => ?_⟩
 obtain ⟨i, hi, rfl⟩ := List.mem_map.1 hl
 have hi := List.mem_range.1 hi
 have ha := c1I hi
 have hx := c1I (show i < s.arms.length by have := hok.arms; omega)
 have ho := a1h (hok.one _ (c1L (J8 ha hx)))
 simp only at ho
 have h3 := (O8 ho.arm).2
 exact ⟨by rw [b0C h ha]; omega, fun r hr => (b2F h hr).mono (by omega)⟩
set_option maxRecDepth 10000
set_option maxHeartbeats 8000000
instance : DecidableEq Nm.Rt := fun ⟨a, b, c⟩ ⟨d, e, f⟩ => decidable_of_iff (a = d /\ b = e /\ c = f) ⟨fun ⟨h1, h2, h3⟩ => by rw [h1, h2, h3], fun h => by injection h with h1 h2 h3; exact ⟨h1, h2, h3⟩⟩
instance : DecidableEq Vt := fun ⟨a, b⟩ ⟨d, e⟩ => decidable_of_iff (a = d /\ b = e) ⟨fun ⟨h1, h2⟩ => by rw [h1, h2], fun h => by injection h with h1 h2; exact ⟨h1, h2⟩⟩
instance : DecidableEq Fr := fun ⟨a, b, c, g⟩ ⟨d, e, f, h⟩ => decidable_of_iff (a = d /\ b = e /\ c = f /\ g = h) ⟨fun ⟨h1, h2, h3, h4⟩ => by rw [h1, h2, h3, h4], fun h => by injection h with h1 h2 h3 h4; exact ⟨h1, h2, h3, h4⟩⟩
instance : DecidableEq Ast := fun ⟨a, b, c, g⟩ ⟨d, e, f, h⟩ => decidable_of_iff (a = d /\ b = e /\ c = f /\ g = h) ⟨fun ⟨h1, h2, h3, h4⟩ => by rw [h1, h2, h3, h4], fun h => by injection h with h1 h2 h3 h4; exact ⟨h1, h2, h3, h4⟩⟩
instance : DecidableEq Stt := fun ⟨a, b, c, g, i⟩ ⟨d, e, f, h, j⟩ => decidable_of_iff (a = d /\ b = e /\ c = f /\ g = h /\ i = j) ⟨fun ⟨h1, h2, h3, h4, h5⟩ => by rw [h1, h2, h3, h4, h5], fun h => by injection h with h1 h2 h3 h4 h5; exact ⟨h1, h2, h3, h4, h5⟩⟩
def a0x (x : Ast) : Bool := x.v.any fun v => !decide (F3 (Nm.d9 v) = 0)
theorem b5R (a : Nm.Rt) (ha : Rb 17179869184 a) : FZ 71 [rc a] (.v (.bool (!decide (F3 (Nm.d9 a) = 0)))) := by
 refine kW Tryz.func71 (by cbv) (by rfl) fun w O hw => ?_
 have h := Z7 a ha
 generalize F3 (Nm.d9 a) = n at *
 simp only [l6]
 simp only [rc, sb, ints] at *
 (repeat first | refine uA ?_ | (refine uK ?_ ?_; focus first | omega | (intros; simp_all <;> omega)) | simp (disch := omega) only [go_sem, Nat.reduceBEq, Nat.reduceAdd, ww] | (refine uD h ?_ ?_ ?_; exact tz hw; exact rfl))
 exact S.done (j3.out rfl (Imp.refl rfl) rfl)
theorem b1Y (x : Ast) (hx : Asb 1073741824 x) : FZ 20 [x.c] (.v (.bool (a0x x))) := by
 refine kW Tryz.func20 (by cbv) (by rfl) fun w O hw => ?_
 have h := b2T 71 (by kernel_rfl) (fun v => !decide (F3 (Nm.d9 v) = 0)) x.v (by have := hx.2.1; omega) (fun v hv => b5R v ((hx.2.2 v hv).mono (by decide)))
 unfold a0x
 generalize (x.v.any fun v => !decide (F3 (Nm.d9 v) = 0)) = q at *
 obtain ⟨xq, xv, xp, xh⟩ := x
 simp only [l6]
 simp only [Ast.c, Ast.enc, rts, sb, ints] at *
 (repeat first | refine uA ?_ | (refine uK ?_ ?_; focus first | omega | (intros; simp_all <;> omega)) | simp (disch := omega) only [go_sem, Nat.reduceBEq, Nat.reduceAdd, ww] | (refine uD h ?_ ?_ ?_; exact tz hw; exact rfl))
 exact S.done (j3.out rfl (Imp.refl rfl) rfl)
set_option maxHeartbeats 4000000
end Go.Proofs.YtgmlehjgpgdjhaaGreatDoor
namespace Go.Proofs.YtgmlehjgpgdjhaaGreatDoor.Eng
open Go Go.RowKit
theorem j5.quiet {P : Program} {f : Nat} {args : List C} {s s' : C} {rs' : List Res} (h : ∀ E : Ctx, E.P = P -> j5 E [] f args s rs' []) (hi : Imp rs' [] s s') (hc : s'.cl = true) : F7 P f args s' := by
 intro O w vs hO hA
 have ho0 : ∀ b, ¬ owned [] [] b := fun b ⟨k, r, x, hk, _⟩ => by simp at hk
 have hRG : RG O (fun _ => False) w.heap.size [] [] w := ⟨rfl, fun k r hk => by simp at hk, fun k l r r' x x' b _ hk => by simp at hk, fun b hb => (ho0 b hb).elim, hO, c1T _⟩
 have hsub : ∀ b, OO O [] [] b -> O b := fun b hb => hb.elim id fun h => (ho0 b h).elim
 refine (h ⟨P, fun _ => false, 0, w, fun _ => False, O, [], []⟩ rfl O [] w vs hRG (fun b hb => hb) ⟨rfl, rfl, rfl, c1T _, fun _ _ _ => rfl⟩ ((FzL.keep (Keeps.sub hsub) hA).den [])).mono ?_
 rintro e w' ⟨y, ν', rfl, h1, h2, h3⟩
 have hC : Cut O rs' [] ν' := Cut.of h1 (by simp [Q5])
 have h4 := hi O (fun _ => False) w.heap.size ν' w' y h1 hC h3
 exact ⟨y, rfl, ⟨h2.os, h2.tape, h2.output, h2.size, fun b hb => h2.block b hb (ho0 b)⟩, Fz.keep (Keeps.sub fun b hb => .inl hb) (Den.fz hc h4)⟩
end Go.Proofs.YtgmlehjgpgdjhaaGreatDoor.Eng
namespace Go.Proofs.YtgmlehjgpgdjhaaGreatDoor
open Go Go.RowKit Eng
set_option maxRecDepth 10000
set_option maxHeartbeats 16000000
open Go Eng
set_option maxRecDepth 100000
def R3 (w : Wk) (s : Stt) (n : Int) : Int := if K5 w s ≠ 0 then K5 w s else if n < 0 \/ (w.arms.length : Int) <= n then 1 else match s.arms[n.toNat]? with
 | some x => if a0x x = true then 7 else 0
 | none => 0
def a1c (x : Ast) (k : Int) : Ast := ⟨x.q, x.v, x.power, k⟩
def a6g (w : Wk) (s : Stt) (n : Int) : Int := if R3 w s n ≠ 0 then R3 w s n else match s.arms[n.toNat]? with
 | some x => if x.holds < 0 then 7 else 0
 | none => 0
def b7N (s : Stt) (n : Nat) (x : Ast) : Stt := ⟨s.tick, s.arms.set n (a1c x (-1)), s.parts, s.people, s.gates⟩
def dX (t f g : Fr) : Rat := Nm.d9 t.x - a0l f ⟨g.x, g.y⟩
def dY (t f g : Fr) : Rat := Nm.d9 t.y - a0i f ⟨g.x, g.y⟩
def a3p (t f g : Fr) : Prop := 0 < Nm.u7 (I4 (dX t f g)) (1 / 8) \/ 0 < Nm.u7 (I4 (dY t f g)) (1 / 8)
instance (t f g : Fr) : Decidable (a3p t f g) := by unfold a3p; infer_instance
def b1l (s : Stt) (n p : Nat) (a : Am) (x : Ast) (pt : Pt) : Stt := ⟨s.tick, s.arms.set n (a1c x p), s.parts.set p (F9 a x.q pt.grasp), s.people, s.gates⟩
def a2O (w : Wk) (s : Stt) (n p : Int) : Int := if R3 w s n ≠ 0 then R3 w s n else if p < 0 \/ (w.parts.length : Int) <= p then 1 else match w.arms[n.toNat]?, s.arms[n.toNat]?, w.parts[p.toNat]?, s.parts[p.toNat]? with
 | some a, some x, some pt, some f => if 0 <= x.holds \/ (s.arms.any fun y => decide (y.holds = p)) = true then 7 else if a3p (M7 a.base (a.links.zip x.q)) f pt.grasp then 17 else 0
 | _, _, _, _ => 0
theorem b7l : FZ 60 [ints 1, ints 8] (.tup [rq (1 / 8), ints 0]) := by
 refine kW Tryz.func60 (by cbv) (by rfl) fun w O hw => ?_
 have h1 := a2Y 1 (by decide) (by decide)
 have h2 := a2Y 8 (by decide) (by decide)
 have h3 := b1m (1 : Int) (8 : Int) (by exact ⟨c1M (Nm.E8 (k := 8) (by decide)) (by decide), c1M (Nm.E8 (k := 8) (by decide)) (by decide)⟩) (by exact ⟨c1M (Nm.E8 (k := 8) (by decide)) (by decide), c1M (Nm.E8 (k := 8) (by decide)) (by decide)⟩)
 rw [show a0F ((1 : Int) : Rat) ((8 : Int) : Rat) = Nm.ofQ (1 / 8) from rfl, show a1V ((8 : Int) : Rat) = 0 from rfl] at h3
 unfold rq at *
 generalize Nm.ofQ ((1 : Int) : Rat) = r1 at *
 generalize Nm.ofQ ((8 : Int) : Rat) = r2 at *
 generalize Nm.ofQ (1 / 8) = r3 at *
 simp only [l6]
 simp only [rc, sb, ints] at *
 (repeat first | refine uG h1 ?_ | refine uG h2 ?_ | refine uG h3 ?_ | refine uA ?_ | (refine uK ?_ ?_; focus first | omega | (intros; simp_all <;> omega)) | simp (disch := omega) only [go_sem, Nat.reduceBEq, Nat.reduceAdd, ww] | (refine uD h1 ?_ ?_ ?_; exact tz hw; exact rfl) | (refine uD h2 ?_ ?_ ?_; exact tz hw; exact rfl) | (refine uD h3 ?_ ?_ ?_; exact tz hw; exact rfl))
 (refine S.done ?_; simp only [q8, l9, go_sem, Nat.reduceBEq, Nat.reduceAdd, Nat.reduceLeDiff, Int.reduceToNat, Int.reducePow]; (repeat (refine ⟨?_, ?_⟩; focus first | trivial | omega | simp)); exact j3.out rfl (Imp.tup (by (repeat' (first | exact l7.nil | exact Imp.refl rfl | exact Imp.frz rfl rfl rfl | exact Imp.I9 | refine Imp.agg ?_ | refine l7.cons ?_ ?_)))) rfl)
theorem b4b (w : Wk) (s : Stt) (n : Int) (hwb : Wb 1073741824 w) (hs : Stb 1073741824 s) : FZ 57 [w.c, s.c, ints n] (ints (R3 w s n)) := by
 refine kW Tryz.func57 (by cbv) (by rfl) fun w' O hw => ?_
 have hck := a7Y w s hwb hs
 have n5 := hwb.arms.1
 have hmv := fun x hx => b1Y x (hs.arms.2 x hx)
 have hal : K5 w s = 0 -> s.arms.length = w.arms.length := fun h => (a0n h).arms
 unfold R3
 generalize K5 w s = e at *
 obtain ⟨arms, walls, parts, slots, gates, walk⟩ := w
 obtain ⟨tick, sarms, sparts, people, sgates⟩ := s
 simp only at n5 hmv hal ⊢
 simp only [l6]
 simp only [Wk.c, Wk.enc, Stt.c, Stt.enc, ams, wls, pts, sls, gts, L8, frs, vts, bls, sb, ints] at hck ⊢
 (repeat first | refine uG hck ?_ | refine uA ?_ | (refine uK ?_ ?_; focus first | omega | (intros; simp_all <;> omega)) | simp (disch := omega) only [go_sem, Nat.reduceBEq, Nat.reduceAdd, ww] | (refine uD hck ?_ ?_ ?_; exact tz hw; exact rfl))
 by_cases h0 : e = 0
 ·subst h0
  have hal := hal rfl
  rw [if_neg (by decide)]
  refine S.cond rfl (fun hc => by simp at hc) (fun hc => ?_)
  (repeat first | refine uA ?_ | (refine uK ?_ ?_; focus first | omega | (intros; simp_all <;> omega)) | simp (disch := omega) only [go_sem, Nat.reduceBEq, Nat.reduceAdd, ww, c1J])
  by_cases hg : n < 0 \/ (arms.length : Int) <= n
  ·rw [if_pos hg]
   refine S.cond rfl (fun hc => ?_) (fun hc => by simp only [c2d, c1S] at hc; omega)
   (repeat first | refine uA ?_ | (refine uK ?_ ?_; focus first | omega | (intros; simp_all <;> omega)) | simp (disch := omega) only [go_sem, Nat.reduceBEq, Nat.reduceAdd, ww])
   exact S.done (j3.out rfl (Imp.refl rfl) rfl)
  rw [if_neg hg]
  refine S.cond rfl (fun hc => by simp only [c2v, c1P] at hc; omega) (fun hc => ?_)
  clear hc
  obtain ⟨n, rfl⟩ : ∃ k : Nat, n = k := ⟨n.toNat, by omega⟩
  have hgx := c1I (show n < sarms.length by omega)
  generalize sarms[n]'_ = x at hgx
  have t1 := hmv x (c1L hgx)
  have hni : (n : Int) < sarms.length := by omega
  rw [c1R, hgx]
  simp only
  generalize a0x x = m at *
  simp only [Ast.c, Ast.enc, rts, sb, ints] at t1
  (repeat first | refine uG t1 ?_ | refine uA ?_ | (refine uK ?_ ?_; focus first | omega | (intros; simp_all <;> omega)) | simp (disch := omega) only [go_sem, Nat.reduceBEq, Nat.reduceAdd, ww, hgx, c1K, c1J, Ast.enc, rts, sb, ints, c1R] | (refine uD t1 ?_ ?_ ?_; exact tz hw; exact rfl))
  refine S.cond rfl (fun hc => ?_) (fun hc => ?_)
  ·rw [if_pos hc]
   (repeat first | refine uA ?_ | (refine uK ?_ ?_; focus first | omega | (intros; simp_all <;> omega)) | simp (disch := omega) only [go_sem, Nat.reduceBEq, Nat.reduceAdd, ww])
   exact S.done (j3.out rfl (Imp.refl rfl) rfl)
  ·rw [if_neg (by rw [hc]; decide)]
   (repeat first | refine uA ?_ | (refine uK ?_ ?_; focus first | omega | (intros; simp_all <;> omega)) | simp (disch := omega) only [go_sem, Nat.reduceBEq, Nat.reduceAdd, ww])
   exact S.done (j3.out rfl (Imp.refl rfl) rfl)
 ·rw [if_pos h0]
  refine S.cond rfl (fun hc => ?_) (fun hc => by simp at hc; exact absurd hc h0)
  (repeat first | refine uA ?_ | (refine uK ?_ ?_; focus first | omega | (intros; simp_all <;> omega)) | simp (disch := omega) only [go_sem, Nat.reduceBEq, Nat.reduceAdd, ww])
  exact S.done (j3.out rfl (Imp.refl rfl) rfl)
theorem b2i {w : Wk} {s : Stt} {n : Int} (h : R3 w s n = 0) : K5 w s = 0 /\ ∃ (k : Nat) (a : Am) (x : Ast), n = k /\ w.arms[k]? = some a /\ s.arms[k]? = some x /\ a0x x = false := by
 unfold R3 at h
 split at h
 ·rename_i h1; exact absurd h h1
 rename_i h1
 have h0 := Classical.not_not.1 h1
 split at h
 ·cases h
 rename_i h2
 have hal := (a0n h0).arms
 obtain ⟨k, rfl⟩ : ∃ k : Nat, n = k := ⟨n.toNat, by omega⟩
 have ga := c1I (show k < w.arms.length by omega)
 have gx := c1I (show k < s.arms.length by omega)
 rw [c1R, gx] at h
 simp only at h
 refine ⟨h0, k, _, _, rfl, ga, gx, ?_⟩
 split at h
 ·cases h
 ·simpa using (by assumption : ¬ a0x _ = true)
theorem c0H (w : Wk) (s : Stt) (n : Int) (hwb : Wb 1073741824 w) (hs : Stb 1073741824 s) : FZ 19 [w.c, s.c, ints n] (if a6g w s n = 0 then .tup [(b7N s n.toNat ((s.arms[n.toNat]?).getD ⟨[], [], false, 0⟩)).c, ints 0] else .tup [.agg a2w, ints (a6g w s n)]) := by
 refine kW Tryz.func19 (by cbv) (by rfl) fun w' O hw => ?_
 have hck := b4b w s n hwb hs
 have hcp := fun (E : Ctx) (hP : E.P = Tryz.prog) => a9V hP s hs
 have n1 := hs.arms.1
 by_cases h0 : R3 w s n = 0
 ·obtain ⟨hst, k, a, x, rfl, ga, gx, hm⟩ := b2i h0
  have hP : a6g w s k = if x.holds < 0 then 7 else 0 := by
   unfold a6g
   rw [if_neg (by simpa using h0), c1R, gx]
  rw [hP]
  rw [h0] at hck
  rw [c1R, gx]
  simp only [Option.getD_some]
  have hkl := (c1O.1 gx).1
  have hset : (s.arms.map Ast.enc).set k [rts x.q, rts x.v, .v (.bool x.power), .v (.int .i64 (-1))] = (s.arms.set k (a1c x (-1))).map Ast.enc := by rw [List.map_set]; rfl
  unfold b7N
  obtain ⟨arms, walls, parts, slots, gates, walk⟩ := w
  obtain ⟨tick, sarms, sparts, people, sgates⟩ := s
  simp only at ga gx hkl hset n1 ⊢
  have hki : (k : Int) < sarms.length := by omega
  simp only [l6]
  simp only [Wk.c, Wk.enc, Stt.c, Stt.enc, ams, wls, pts, sls, gts, L8, frs, vts, bls, rts, sb, ints, a2w] at hck hcp hset ⊢
  (repeat first | refine uG hck ?_ | refine uA ?_ | (refine uK ?_ ?_; focus first | omega | (intros; simp_all <;> omega)) | simp (disch := omega) only [go_sem, Nat.reduceBEq, Nat.reduceAdd, ww] | (refine uD hck ?_ ?_ ?_; exact tz hw; exact rfl))
  refine S.cond rfl (fun hc => by simp at hc) (fun hc => ?_)
  (repeat first | refine uA ?_ | (refine uK ?_ ?_; focus first | omega | (intros; simp_all <;> omega)) | simp (disch := omega) only [go_sem, Nat.reduceBEq, Nat.reduceAdd, ww, gx, c1K, c1J, Ast.enc, rts, ints, c1R])
  by_cases hh : x.holds < 0
  ·rw [if_pos hh, if_neg (by decide)]
   refine S.cond rfl (fun hc => ?_) (fun hc => by simp only [c1S] at hc; omega)
   (repeat first | refine uA ?_ | (refine uK ?_ ?_; focus first | omega | (intros; simp_all <;> omega)) | simp (disch := omega) only [go_sem, Nat.reduceBEq, Nat.reduceAdd, ww])
   (refine S.done ?_; simp only [q8, l9, go_sem, Nat.reduceBEq, Nat.reduceAdd, Nat.reduceLeDiff, Int.reduceToNat, Int.reducePow]; (repeat (refine ⟨?_, ?_⟩; focus first | trivial | omega | simp)); exact j3.out rfl (Imp.tup (by (repeat' (first | exact l7.nil | exact Imp.refl rfl | exact Imp.frz rfl rfl rfl | exact Imp.I9 | refine Imp.agg ?_ | refine l7.cons ?_ ?_)))) rfl)
  ·rw [if_neg hh, if_pos rfl]
   refine S.cond rfl (fun hc => by simp only [c1P] at hc; omega) (fun hc => ?_)
   (repeat first | refine uA ?_ | (refine uK ?_ ?_; focus first | omega | (intros; simp_all <;> omega)) | simp (disch := omega) only [go_sem, Nat.reduceBEq, Nat.reduceAdd, ww, C.sh, C.shL, c1W, List.length_nil, gx, hset, c1K, c1J, Ast.enc, rts, ints, c1R] | refine l8.t (j5.pre (hcp _ rfl) rfl rfl rfl) ?_)
   (refine S.done ?_; simp only [q8, l9, go_sem, Nat.reduceBEq, Nat.reduceAdd, Nat.reduceLeDiff, Int.reduceToNat, Int.reducePow]; (repeat (refine ⟨?_, ?_⟩; focus first | trivial | omega | simp)); exact j3.out rfl (Imp.tup (by (repeat' (first | exact l7.nil | exact Imp.refl rfl | exact Imp.frz rfl rfl rfl | exact Imp.I9 | refine Imp.agg ?_ | refine l7.cons ?_ ?_)))) rfl)
 ·have hP : a6g w s n = R3 w s n := by unfold a6g; rw [if_pos h0]
  rw [hP, if_neg h0]
  generalize R3 w s n = e at *
  obtain ⟨arms, walls, parts, slots, gates, walk⟩ := w
  obtain ⟨tick, sarms, sparts, people, sgates⟩ := s
  simp only [l6]
  simp only [Wk.c, Wk.enc, Stt.c, Stt.enc, ams, wls, pts, sls, gts, L8, frs, vts, bls, sb, ints, a2w] at hck ⊢
  (repeat first | refine uG hck ?_ | refine uA ?_ | (refine uK ?_ ?_; focus first | omega | (intros; simp_all <;> omega)) | simp (disch := omega) only [go_sem, Nat.reduceBEq, Nat.reduceAdd, ww] | (refine uD hck ?_ ?_ ?_; exact tz hw; exact rfl))
  refine S.cond rfl (fun hc => ?_) (fun hc => by simp at hc; exact absurd hc h0)
  (repeat first | refine uA ?_ | (refine uK ?_ ?_; focus first | omega | (intros; simp_all <;> omega)) | simp (disch := omega) only [go_sem, Nat.reduceBEq, Nat.reduceAdd, ww])
  (refine S.done ?_; simp only [q8, l9, go_sem, Nat.reduceBEq, Nat.reduceAdd, Nat.reduceLeDiff, Int.reduceToNat, Int.reducePow]; (repeat (refine ⟨?_, ?_⟩; focus first | trivial | omega | simp)); exact j3.out rfl (Imp.tup (by (repeat' (first | exact l7.nil | exact Imp.refl rfl | exact Imp.frz rfl rfl rfl | exact Imp.I9 | refine Imp.agg ?_ | refine l7.cons ?_ ?_)))) rfl)
set_option maxHeartbeats 4000000
theorem b0T {a : Nm.Rt} (h : j4 a = true) : Nm.d9 a = (nuI a : Rat) / (deI a : Rat) /\ (0 : Rat) < (deI a : Rat) := by
 unfold j4 at h
 simp only [c1N, c1P] at h
 obtain ⟨⟨⟨_, hg⟩, _⟩, _⟩ := h
 have hv : Nm.val a.den ≠ 0 := fun e => hg.1 ((Nm.val_zero hg.2.1).1 e)
 have hd : deI a = (Nm.val a.den : Int) := by unfold deI; omega
 have hp : (0 : Rat) < ((Nm.val a.den : Int) : Rat) := by
  have : (0 : Int) < (Nm.val a.den : Int) := by omega
  exact_mod_cast this
 rw [hd]
 refine ⟨?_, hp⟩
 unfold Nm.d9
 rw [if_pos hg]
 unfold Nm.toQ
 rw [Rat.mkRat_eq_div]
 rfl
theorem b9J {x : Lk} {k : Int} (h1 : j4 x.low = true) (h2 : j4 x.high = true) (hk : 0 <= k /\ k <= 8) : Nm.d9 (a2S x k) = Nm.d9 x.low + (Nm.d9 x.high - Nm.d9 x.low) * (k : Rat) / 8 := by
 obtain ⟨e1, p1⟩ := b0T h1
 obtain ⟨e2, p2⟩ := b0T h2
 have hb := a9w h1 h2 hk
 have b4 := hb.p4
 have b6 := hb.p6
 unfold a2S
 rw [a0T, Rat.mkRat_eq_div, e1, e2]
 have hD : (((8 * deI x.low * deI x.high).toNat : Int) : Rat) = 8 * (deI x.low : Rat) * (deI x.high : Rat) := by
  rw [show (((8 * deI x.low * deI x.high).toNat : Nat) : Int) = 8 * deI x.low * deI x.high by omega]
  simp only [Rat.intCast_mul]
  rfl
 rw [show (((8 * deI x.low * deI x.high).toNat : Nat) : Rat) = (((8 * deI x.low * deI x.high).toNat : Int) : Rat) from rfl, hD]
 simp only [Rat.intCast_add, Rat.intCast_mul, Rat.intCast_sub]
 generalize (nuI x.low : Rat) = n at *
 generalize (nuI x.high : Rat) = m at *
 generalize (deI x.low : Rat) = d at *
 generalize (deI x.high : Rat) = e at *
 generalize (k : Rat) = K at *
 have d0 : d ≠ 0 := by grind
 have e0 : e ≠ 0 := by grind
 have hn : n / d * d = n := Rat.div_mul_cancel d0
 have hm : m / e * e = m := Rat.div_mul_cancel e0
 generalize n / d = L at *
 generalize m / e = H at *
 have hde : (8 * d * e) ≠ 0 := by
  have := Rat.mul_pos p1 p2
  grind
 have key : (8 : Int) * n * e + (m * d - n * e) * K = (L + (H - L) * K / 8) * (8 * d * e) := by
  rw [<- hn, <- hm]
  grind
 rw [key]
 exact Rat.mul_div_cancel hde
theorem b8p {x : Lk} (hl : M8 x = 0) {k : Int} (hk : 0 <= k /\ k <= 8) : b2f (x, a2S x k) = 0 := by
 obtain ⟨h1, h2⟩ := a9l hl
 have h3 := (a3u hl).2.1
 rw [a1s] at h3
 unfold b2f
 rw [if_neg]
 rw [a1s, Y8]
 simp only
 rw [b9J h1 h2 hk]
 have k0 : (0 : Rat) <= (k : Rat) := by exact_mod_cast hk.1
 have k8 : (k : Rat) <= 8 := by exact_mod_cast hk.2
 generalize Nm.d9 x.low = L at *
 generalize Nm.d9 x.high = H at *
 generalize (k : Rat) = K at *
 have m1 : 0 <= (H - L) * K := Rat.mul_nonneg (by grind) k0
 have m2 : 0 <= (H - L) * (8 - K) := Rat.mul_nonneg (by grind) (by grind)
 grind
theorem a9Z : ∀ (L : List Lk) (l : List Int) (z : Lk × Nm.Rt), z ∈ L.zip (N7 L l) -> ∃ l', z.1 ∈ L /\ z.2 = a2S z.1 (nx l' 9)
 | [], _, z, h => by simp at h
 | x :: r, l, z, h => by
  rw [N7, List.zip_cons_cons] at h
  rcases List.mem_cons.1 h with rfl | h
  ·exact ⟨l, by simp, rfl⟩
  ·obtain ⟨l', h1, h2⟩ := a9Z r _ z h
   exact ⟨l', by simp [h1], h2⟩
theorem a9i : ∀ (L : List Lk) (l : List Int), (N7 L l).all I5 = true
 | [], _ => rfl
 | x :: r, l => by
  rw [N7, List.all_cons, a9i r]
  have : I5 (a2S x (nx l 9)) = true := decide_eq_true (Nm.X8 _)
  rw [this]; rfl
def x9 : Fr := ⟨Q 0 4, Q 0 4, false, Q 0 1⟩
theorem a7u : ∀ (k n : Nat) (l : List Int), ∀ p ∈ Y0 k n l, p.grasp = x9
 | 0, _, _, p, h => by cases h
 | k + 1, n, l, p, h => by
  rw [Y0] at h
  rcases List.mem_cons.1 h with rfl | h
  ·rfl
  ·exact a7u k _ _ p h
theorem c0s : a0s x9 = ⟨Nm.ofQ 0, Nm.ofQ 0, false, Nm.ofQ 0⟩ := by
 have h1 : Nm.d9 (Q 0 4) = 0 := by rw [a0T]; decide +kernel
 have h2 : Nm.d9 (Q 0 1) = 0 := by rw [a0T]; decide +kernel
 unfold a0s x9 r9
 simp only [h1, h2, c2m, if_false, Nm.D7, Rat.zero_mul]
 congr 1 <;> (congr 1; grind)
def a2k (f : Fr) : Fr := ⟨Nm.ofQ (Nm.d9 f.x), Nm.ofQ (Nm.d9 f.y), f.half, Nm.ofQ (r9 f.half f.t)⟩
theorem b7P (f : Fr) : a0l f ⟨Nm.ofQ 0, Nm.ofQ 0⟩ = Nm.d9 f.x /\ a0i f ⟨Nm.ofQ 0, Nm.ofQ 0⟩ = Nm.d9 f.y := by
 unfold a0l a0i
 simp only [Nm.D7, Rat.zero_mul]
 constructor <;> grind
theorem b0v (f : Fr) : a0l f ⟨x9.x, x9.y⟩ = Nm.d9 f.x /\ a0i f ⟨x9.x, x9.y⟩ = Nm.d9 f.y := by
 have h1 : Nm.d9 (Q 0 4) = 0 := by rw [a0T]; decide +kernel
 unfold a0l a0i x9
 simp only [h1, Rat.zero_mul]
 constructor <;> grind
theorem b6v (h : Bool) (a : Nm.Rt) : a1q h (r9 h a) false 0 = (h, r9 h a) := by
 unfold a1q r9
 cases h
 ·simp only [Bool.and_false, c2m, if_false]
  generalize Nm.d9 a = t
  rw [if_neg (by grind)]
  congr 1
  have : 1 - t * 0 = 1 := by grind
  rw [this]
  have e : t + 0 = t * 1 := by grind
  rw [e]
  exact Rat.mul_div_cancel (by decide)
 ·simp
theorem a4u (a : Am) (q : List Nm.Rt) : F9 a q x9 = a2k (M7 a.base (a.links.zip q)) := by
 unfold F9
 generalize M7 a.base (a.links.zip q) = T
 rw [c0s]
 unfold K8 a2k
 obtain ⟨h1, h2⟩ := b7P T
 simp only [h1, h2]
 have e : r9 false (Nm.ofQ 0) = 0 := by unfold r9; simp [Nm.D7]
 rw [e, b6v]
theorem b5V (T : Fr) : V8 (a2k T) = true := by
 unfold V8 a2k I5 a3w r9
 simp only [Nm.X8, decide_true, Bool.true_and, Nm.D7]
 cases T.half
 ·rfl
 ·simp only [if_true, Bool.true_and]
  decide +kernel
theorem b6F (T : Fr) : ¬ a3p T (a2k T) x9 := by
 unfold a3p dX dY
 obtain ⟨h1, h2⟩ := b0v (a2k T)
 rw [h1, h2]
 unfold a2k
 simp only [Nm.D7]
 rw [show Nm.d9 T.x - Nm.d9 T.x = 0 by grind, show Nm.d9 T.y - Nm.d9 T.y = 0 by grind]
 decide +kernel
def tC : Nat -> Nat
 | 0 => 8
 | n + 1 => 2 * (2 * (tC n + 300) + 16 + 8) + 16
def xC : Nat -> Nat
 | 0 => 8
 | n + 1 => xC n + 2 * (8 + 4 * tC n + 18) + 2 + 2 * (8 + 4 * (2 * (tC n + 300) + 16) + 18) + 2
theorem b7v {i : Nat} (h : i <= 3) : 8 <= tC i /\ 8 <= xC i /\ tC i <= 1000000 /\ xC i <= 1048576 := by
 have : i = 0 \/ i = 1 \/ i = 2 \/ i = 3 := by omega
 rcases this with rfl | rfl | rfl | rfl <;> decide
def Fy (i : Nat) (f : Fr) : Prop := Rb (xC i) f.x /\ Rb (xC i) f.y /\ Rb (tC i) f.t
theorem b9D {e : Fr} {i : Nat} {q : Nm.Rt} (he : Fy i e) (hi : i < 3) (hq : Rb 300 q) : Rb (xC i + 2 * (8 + 4 * tC i + 18) + 2) (K8 e (V5 q)).x /\ Rb (xC i + 2 * (8 + 4 * tC i + 18) + 2) (K8 e (V5 q)).y /\ Rb (2 * (tC i + 300) + 16) (K8 e (V5 q)).t := by
 have hb := b7v (show i <= 3 by omega)
 exact a5E he.1 he.2.1 he.2.2 H6 H6 (hq.fit (by decide)) (by omega) (by omega) (by omega) (by decide)
theorem c0Z {e : Fr} {i : Nat} {q : Nm.Rt} {l : Lk} (he : Fy i e) (hi : i < 3) (hq : Rb 300 q) (hl : Rb 8 l.length) : Fy (i + 1) (K8 (K8 e (V5 q)) (a4n l)) := by
 obtain ⟨h1, h2, h3⟩ := b9D he hi hq
 exact a5E h1 h2 h3 hl H6 H6 (by omega) (by omega) (by omega) (by decide)
theorem b5s : ∀ (z : List (Lk × Nm.Rt)) (e : Fr) (i : Nat), Fy i e -> i + z.length <= 3 -> (∀ y ∈ z, Rb 8 y.1.length /\ Rb 300 y.2) -> Fy (i + z.length) (M7 e z)
 | [], e, i, he, _, _ => he
 | (l, q) :: r, e, i, he, hi, hz => by
  simp only [c1W] at hi
  have h1 := c0Z (l := l) he (by omega) (hz (l, q) (by simp)).2 (hz (l, q) (by simp)).1
  have h2 := b5s r _ (i + 1) h1 (by omega) fun y hy => hz y (by simp [hy])
  simp only [M7, c1W]
  rwa [show i + 1 + r.length = i + (r.length + 1) by omega] at h2
theorem b5J {a : Am} {q : List Nm.Rt} (ha : J4 a = 0) (hql : q.length = a.links.length) (hq : ∀ r ∈ q, Rb 300 r) : Fb 1048576 (F9 a q x9) := by
 obtain ⟨fb, lb⟩ := a6R ha
 have ht := b5s (a.links.zip q) a.base 0 fb (by have := (O8 ha).2; rw [List.length_zip]; omega) fun y hy => ⟨lb _ (List.of_mem_zip hy).1, hq _ (List.of_mem_zip hy).2⟩
 have hc := b7v (show 0 + (a.links.zip q).length <= 3 by have := (O8 ha).2; rw [List.length_zip]; omega)
 rw [a4u]
 exact ⟨(ht.1.fit (by omega)).mono (by omega), (ht.2.1.fit (by omega)).mono (by omega), (U6 ht.2.2 (by omega)).mono (by omega)⟩
theorem a6K {w : Wk} {a : Am} {x : Ast} {t : Int} {P : List Fr} {g : List Bool} (hk : a0d w = 0) (hw : w.arms = [a]) (ho : Y3 a x w.parts.length = 0) (ht : 0 <= t /\ t <= 2000) (hP : P.length = w.parts.length) (hg : g.length = w.gates.length) (hf : P.all V8 = true) : K5 w ⟨t, [x], P, [], g⟩ = 0 := by
 have he : (w9 (a0q w.parts.length) [] (w.arms.zip [x])).1 = 0 := by
  rw [hw]
  simp only [List.zip_cons_cons, List.zip_nil_left, w9]
  unfold a0q
  simp only [ho]
  simp
 unfold K5
 simp only [he, hf, hk]
 rw [if_neg (by decide), if_neg (by simp), if_neg (by rw [hw]; simp; omega), if_neg (by decide)]
 rfl
def D8 (a : Am) (l : List Int) (h : Int) : Ast := ⟨N7 a.links l, a.links.map fun _ => Nm.ofQ 0, false, h⟩
theorem b2r {a : Am} {l : List Int} {h : Int} {n : Nat} (ha : J4 a = 0) (hh : -1 <= h /\ h < n) : Y3 a (D8 a l h) n = 0 := by
 have hl := (O4 ha).2
 refine a7R ha (a9i _ _) ?_ (a0C _ _) (by simp [D8]) hh (fun z hz => ?_) fun z hz => ?_
 ·rw [List.all_eq_true]
  intro r hr
  obtain ⟨_, _, rfl⟩ := List.mem_map.1 (show r ∈ a.links.map (fun _ => Nm.ofQ 0) from hr)
  exact decide_eq_true (Nm.X8 _)
 ·obtain ⟨l', h1, h2⟩ := a9Z _ _ z hz
  obtain ⟨z1, z2⟩ := z
  simp only at h1 h2
  rw [h2]
  exact b8p (hl z1 h1) (nx9 l')
 ·obtain ⟨h1, h2⟩ := a4Y (show z ∈ a.links.zip (a.links.map fun _ => Nm.ofQ 0) from hz)
  obtain ⟨z1, z2⟩ := z
  simp only at h1 h2
  rw [h2]
  exact a4L (hl z1 h1)
theorem a9X (a : Am) (l : List Int) (h : Int) : ∀ r ∈ (D8 a l h).v, Nm.d9 r = 0 := fun r hr => by
 obtain ⟨_, _, rfl⟩ := List.mem_map.1 (show r ∈ a.links.map (fun _ => Nm.ofQ 0) from hr)
 exact Nm.D7 0
theorem b5a (a : Am) (l : List Int) (h : Int) : a0x (D8 a l h) = false := by
 unfold a0x
 rw [List.any_eq_false]
 intro r hr
 rw [a9X a l h r hr]
 decide +kernel
def b1r (w : Wk) (to : List Int) (i : Nat) : Ast := match w.arms[i]? with
 | some a => D8 a (to.drop (3 * i)) (-1)
 | none => ⟨[], [], false, -1⟩
theorem b9T (raw : List Int) : ∃ a, (D6 (0 :: raw)).arms = [a] := by
 have h : nA (0 :: raw) = 1 := by unfold nA nx; simp
 show ∃ a, a1A (nA (0 :: raw)) 0 _ = [a]
 rw [h]
 exact ⟨_, rfl⟩
theorem a7V {a : Am} {x : Ast} {n : Nat} {P : List Fr} {g : List Bool} {t : Int} (ho : b5l a x n) (hq : ∀ r ∈ x.q, Rb 300 r) (hv : ∀ r ∈ x.v, Rb 300 r) (hP : P.length <= 6) (hF : ∀ f ∈ P, Fb 1048576 f) (hg : g.length <= 4) : Stb 1048576 ⟨t, [x], P, [], g⟩ := by
 have h3 := (O8 ho.arm).2
 have h4 := ho.q
 have h5 := ho.v
 refine ⟨⟨by simp, fun y hy => ?_⟩, ⟨by simp only; omega, hF⟩, ⟨c1Q _, fun v hv => by cases hv⟩, by simp only; omega⟩
 rw [List.mem_singleton] at hy
 subst hy
 exact ⟨⟨by omega, fun r hr => (hq r hr).mono (by decide)⟩, by omega, fun r hr => (hv r hr).mono (by decide)⟩
theorem b9f {w : Wk} {a : Am} {x : Ast} {P : List Fr} {g : List Bool} {t : Int} {pt : Pt} (hw : w.arms = [a]) (hp : w.parts[0]? = some pt) (hg : pt.grasp = x9) (hP : P[0]? = some (F9 a x.q x9)) (hh : x.holds < 0) (hm : a0x x = false) (hs : K5 w ⟨t, [x], P, [], g⟩ = 0) : a2O w ⟨t, [x], P, [], g⟩ 0 0 = 0 := by
 have hpl := (c1O.1 hp).1
 have hr : R3 w ⟨t, [x], P, [], g⟩ 0 = 0 := by
  unfold R3
  rw [if_neg (by simp [hs]), if_neg (by rw [hw]; simp)]
  simp [hm]
 have hnear : ¬ a3p (M7 a.base (a.links.zip x.q)) (F9 a x.q x9) x9 := by rw [a4u]; exact b6F _
 unfold a2O
 rw [if_neg (by simp [hr]), if_neg (by omega)]
 simp only [Int.toNat_zero, hw, hp, hP, List.getElem?_cons_zero, hg]
 rw [if_neg (by simp; omega), if_neg hnear]
theorem b7V {w : Wk} {a : Am} {x : Ast} {P : List Fr} {g : List Bool} {t : Int} {pt : Pt} {u : List Nm.Rt} (hw : w.arms = [a]) (hp : w.parts[0]? = some pt) (hg : pt.grasp = x9) (hh : x.holds = 0) : a8s w ⟨t, [x], P, [], g⟩ [u] [true] [] = ⟨t + 1, [X7 a x u true], P.set 0 (F9 a (X7 a x u true).q x9), [], g⟩ := by
 have hy : (X7 a x u true).holds = 0 := by rw [holds_one, hh]
 unfold a8s a6M
 simp only [hw, List.zip_cons_cons, List.zip_nil_left, c2b, c2w, List.foldl_cons, List.foldl_nil]
 unfold a7X
 simp only [hy, Int.toNat_zero, hp, hg]
 rfl
theorem b2G {P : List Fr} {f : Fr} (h : P.all V8 = true) (hf : V8 f = true) : (P.set 0 f).all V8 = true := by
 rw [List.all_eq_true] at h ⊢
 intro x hx
 rcases List.mem_or_eq_of_mem_set hx with hx | rfl
 ·exact h x hx
 ·exact hf
theorem b4f {P : List Fr} {f : Fr} {k : Nat} (h : ∀ x ∈ P, Fb k x) (hf : Fb k f) : ∀ x ∈ P.set 0 f, Fb k x := fun x hx => by
 rcases List.mem_or_eq_of_mem_set hx with hx | rfl
 ·exact h x hx
 ·exact hf
theorem b0X (a : Am) (q : List Nm.Rt) : V8 (F9 a q x9) = true := by rw [a4u]; exact b5V _
theorem b5N {a : Am} {x : Ast} {u : List Nm.Rt} (ha : J4 a = 0) (hq : ∀ r ∈ x.q, Rb 8 r) (hv : ∀ r ∈ x.v, Rb 8 r) (hu : ∀ r ∈ u, Rb 109 r) : (∀ r ∈ (X7 a x u true).q, Rb 300 r) /\ ∀ r ∈ (X7 a x u true).v, Rb 300 r := by
 have hb := c0L ha (by decide) (by decide) hq hv
 unfold X7
 split
 ·refine ⟨fun r hr => ?_, fun r hr => (hu r hr).mono (by decide)⟩
  obtain ⟨q, hq', v, hv', rfl⟩ := a5D (show r ∈ mvQ x u from hr)
  exact a4X (hq q hq') (hu v hv') (by decide) (by decide) (by decide)
 ·exact ⟨fun r hr => (hb.2 r hr).mono (by decide), fun r hr => (hb.1 r hr).mono (by decide)⟩
theorem b7z (T : Fr) : Nm.u7 (Nm.d9 T.x) (Nm.d9 (Nm.ofQ (a0l (a2k T) ⟨x9.x, x9.y⟩))) = 0 /\ Nm.u7 (Nm.d9 T.y) (Nm.d9 (Nm.ofQ (a0i (a2k T) ⟨x9.x, x9.y⟩))) = 0 := by
 obtain ⟨h1, h2⟩ := b0v (a2k T)
 rw [h1, h2, Nm.D7, Nm.D7]
 unfold a2k
 simp only [Nm.D7]
 have key : ∀ q : Rat, Nm.u7 q q = 0 := fun q => by
  have h1 := a1s q q
  have h2 := Y8 q q
  have h3 : ¬ q < q := by grind
  have h4 : ¬ Nm.u7 q q < 0 := fun h => h3 (h1.1 h)
  have h5 : ¬ 0 < Nm.u7 q q := fun h => h3 (h2.1 h)
  omega
 exact ⟨key _, key _⟩
theorem c0O {w : Wk} {a : Am} {y : Ast} {P : List Fr} {g : List Bool} {t : Int} (hw : w.arms = [a]) (hs : K5 w ⟨t, [y], P, [], g⟩ = 0) (hh : y.holds = 0) : a6g w ⟨t, [y], P, [], g⟩ 0 = if a0x y = true then 7 else 0 := by
 have hr : R3 w ⟨t, [y], P, [], g⟩ 0 = if a0x y = true then 7 else 0 := by
  unfold R3
  rw [if_neg (by simp [hs]), if_neg (by rw [hw]; simp)]
  rfl
 unfold a6g
 rw [hr]
 cases hm : a0x y
 ·simp [hh]
 ·simp
end Go.Proofs.YtgmlehjgpgdjhaaGreatDoor
