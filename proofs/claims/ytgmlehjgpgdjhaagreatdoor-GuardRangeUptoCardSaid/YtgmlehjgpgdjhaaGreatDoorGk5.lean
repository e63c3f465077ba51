/- A part of the proof: lemmas only, with the conditions that each names. -/
import Derived.Test.YtgmlehjgpgdjhaaGreatDoorProg
import Derived.KernelRfl
import Derived.Shelf.Strings.SlTrimAscii
import Derived.Test.YtgmlehjgpgdjhaaGreatDoorGk4
set_option linter.all false
namespace Go.Proofs.YtgmlehjgpgdjhaaGreatDoor
open Go Go.RowKit Eng
set_option maxRecDepth 10000
set_option maxHeartbeats 8000000
theorem b8O {α : Type} (p : α -> Bool) (a b c d e : α) : [a, b, c, d, e].all p = (p a && p b && p c && p d && p e) := by simp [Bool.and_assoc]
theorem b0w {α : Type} (p : α -> Bool) (a b c : α) : [a, b, c].all p = (p a && p b && p c) := by simp [Bool.and_assoc]
theorem a9K {α : Type} (p : α -> Bool) (a b : α) : [a, b].all p = (p a && p b) := by simp
theorem Rbs.five {k : Nat} {a b c d e : Nm.Rt} (h : 5 <= k) (h1 : Rb k a) (h2 : Rb k b) (h3 : Rb k c) (h4 : Rb k d) (h5 : Rb k e) : Rbs k [a, b, c, d, e] := ⟨h, fun x hx => by simp at hx; rcases hx with rfl | rfl | rfl | rfl | rfl <;> assumption⟩
theorem Rbs.three {k : Nat} {a b c : Nm.Rt} (h : 3 <= k) (h1 : Rb k a) (h2 : Rb k b) (h3 : Rb k c) : Rbs k [a, b, c] := ⟨h, fun x hx => by simp at hx; rcases hx with rfl | rfl | rfl <;> assumption⟩
theorem Rbs.two {k : Nat} {a b : Nm.Rt} (h : 2 <= k) (h1 : Rb k a) (h2 : Rb k b) : Rbs k [a, b] := ⟨h, fun x hx => by simp at hx; rcases hx with rfl | rfl <;> assumption⟩
theorem c0f (l : Lk) (hl : Lb 1073741824 l) : FZ 89 [l.c] (ints (N7 l)) := by
  refine kW Tryz.func89 (by cbv) (by rfl) fun w O hw => ?_
  obtain ⟨length, low, high, speed, brake, shape⟩ := l
  obtain ⟨b1, b2, b3, b4, b5, b6⟩ := hl
  simp only at b1 b2 b3 b4 b5 b6
  have c1 := b1.mono (m := 17179869184) (by decide)
  have c2 := b2.mono (m := 17179869184) (by decide)
  have c3 := b3.mono (m := 17179869184) (by decide)
  have c4 := b4.mono (m := 17179869184) (by decide)
  have c5 := b5.mono (m := 17179869184) (by decide)
  have hsm := a8g _ (Rbs.five (by decide) c1 c2 c3 c4 c5)
  rw [b8O] at hsm
  have hs1 := V8 length c1
  have hcm := X5 low high c2 c3
  have hs2 := V8 speed c4
  have hs3 := V8 brake c5
  have hp := a7R shape b6
  have hv := fun (v : Vt) (h : v ∈ shape) => a8g _ (Rbs.two (by decide) ((b6.2 v h).1.mono (m := 17179869184) (by decide)) ((b6.2 v h).2.mono (m := 17179869184) (by decide)))
  have hn := b6.1
  unfold N7
  simp only
  generalize (j4 length && j4 low && j4 high && j4 speed && j4 brake) = q at *
  generalize y9 (Nm.d9 length) = n1 at *
  generalize Nm.z8 (Nm.d9 low) (Nm.d9 high) = n2 at *
  generalize y9 (Nm.d9 speed) = n3 at *
  generalize y9 (Nm.d9 brake) = n4 at *
  generalize U5 shape 8 = n5 at *
  simp only [l6]
  simp only [Lk.c, Lk.enc, rc, rts, rcs, vts, sb, ints, c3e, c3v] at *
  (repeat first | refine uG hs1 ?_ | refine uG hcm ?_ | refine uG hsm ?_ | refine uA ?_ | (refine uK ?_ ?_; focus first | omega | (intros; simp_all <;> omega)) | simp (disch := omega) only [go_sem, Nat.reduceBEq, Nat.reduceAdd, ww] | (refine uD hs1 ?_ ?_ ?_; exact tz hw; exact rfl) | (refine uD hcm ?_ ?_ ?_; exact tz hw; exact rfl) | (refine uE hsm ?_ ?_ ?_ ?_; exact tz hw; exact rfl; focus (repeat' first | exact l8.nil | exact Imp.refl rfl | exact Imp.frz rfl rfl rfl | (refine Imp.a0s rfl rfl ?_ ?_; (focus ((try simp only [c3a]); omega)); (focus first | rfl | assumption)) | refine l8.cons ?_ ?_); done))
  refine S.cond rfl (fun hc => ?_) (fun hc => ?_)
  · rw [if_pos (by simp only [c3C, Bool.not_eq_true', c2U] at hc; rcases hc with (hc | hc) | hc <;> simp [hc])]
    (repeat first | refine uA ?_ | (refine uK ?_ ?_; focus first | omega | (intros; simp_all <;> omega)) | simp (disch := omega) only [go_sem, Nat.reduceBEq, Nat.reduceAdd, ww])
    exact S.done (j3.out rfl (Imp.refl rfl) rfl)
  rw [if_neg (by simp only [c3r, Bool.not_eq_false', c3b] at hc; simp [hc])]
  (repeat first | refine uG hs2 ?_ | refine uG hs3 ?_ | refine uA ?_ | (refine uK ?_ ?_; focus first | omega | (intros; simp_all <;> omega)) | simp (disch := omega) only [go_sem, Nat.reduceBEq, Nat.reduceAdd, ww] | (refine uD hs2 ?_ ?_ ?_; exact tz hw; exact rfl) | (refine uD hs3 ?_ ?_ ?_; exact tz hw; exact rfl))
  refine S.cond rfl (fun hc => ?_) (fun hc => ?_)
  · rw [if_pos (by simp only [c3C, c2U] at hc; exact hc)]
    (repeat first | refine uA ?_ | (refine uK ?_ ?_; focus first | omega | (intros; simp_all <;> omega)) | simp (disch := omega) only [go_sem, Nat.reduceBEq, Nat.reduceAdd, ww])
    exact S.done (j3.out rfl (Imp.refl rfl) rfl)
  rw [if_neg (by simp only [c3r, c3b] at hc; simp [hc])]
  (repeat first | refine uG hp ?_ | refine uA ?_ | (refine uK ?_ ?_; focus first | omega | (intros; simp_all <;> omega)) | simp (disch := omega) only [go_sem, Nat.reduceBEq, Nat.reduceAdd, ww] | (refine uD hp ?_ ?_ ?_; exact tz hw; exact rfl))
  refine S.cond rfl (fun hc => ?_) (fun hc => ?_)
  · rw [if_pos (by simpa using hc)]
    (repeat first | refine uA ?_ | (refine uK ?_ ?_; focus first | omega | (intros; simp_all <;> omega)) | simp (disch := omega) only [go_sem, Nat.reduceBEq, Nat.reduceAdd, ww])
    exact S.done (j3.out rfl (Imp.refl rfl) rfl)
  rw [if_neg (by simpa using hc)]
  (repeat first | refine uA ?_ | (refine uK ?_ ?_; focus first | omega | (intros; simp_all <;> omega)) | simp (disch := omega) only [go_sem, Nat.reduceBEq, Nat.reduceAdd, ww, c2N])
  refine S.loop (X := Nat) (fun i => ⟨[(50, vts shape), (51, ints shape.length), (52, ints i)], []⟩) (fun i => i <= shape.length /\ (shape.all fun v => j4 v.x && j4 v.y) = (shape.drop i).all fun v => j4 v.x && j4 v.y) (fun i => shape.length - i) 0 ⟨c2T _, rfl⟩ (by (repeat first | refine uA ?_ | (refine ⟨?_, ?_⟩; focus first | rfl | simp [slot]) | rfl | simp)) ?_
  rintro i ⟨hi, hg⟩
  simp only [vts, ints]
  (repeat first | refine uA ?_ | (refine uK ?_ ?_; focus first | omega | (intros; simp_all <;> omega)) | simp (disch := omega) only [go_sem, Nat.reduceBEq, Nat.reduceAdd, ww])
  (refine uJ rfl (fun hc => ?_) fun hc => ?_)
  · have hi' : i < shape.length := by omega
    have hgi := c2M hi'
    generalize shape[i] = x at hgi
    have hd := drop_at hgi
    have hs := hv x (c2P hgi)
    rw [a9K] at hs
    (repeat first | refine uG hs ?_ | refine uA ?_ | (refine uK ?_ ?_; focus first | omega | (intros; simp_all <;> omega)) | simp (disch := omega) only [go_sem, Nat.reduceBEq, Nat.reduceAdd, ww, hgi, c2O, c2N, Vt.enc, sb] | (refine uE hs ?_ ?_ ?_ ?_; exact tz hw; exact rfl; focus (repeat' first | exact l8.nil | exact Imp.refl rfl | exact Imp.frz rfl rfl rfl | (refine Imp.a0s rfl rfl ?_ ?_; (focus ((try simp only [c3a, hgi, c2O, c2N, Vt.enc, sb]); omega)); (focus first | rfl | assumption)) | refine l8.cons ?_ ?_); done))
    refine S.cond rfl (fun hc2 => ?_) (fun hc2 => ?_)
    · have : (shape.all fun v => j4 v.x && j4 v.y) = false := by
        rw [hg, hd, List.all_cons]
        simp only [Bool.not_eq_true'] at hc2
        rw [hc2]; rfl
      rw [this]
      (repeat first | refine uA ?_ | (refine uK ?_ ?_; focus first | omega | (intros; simp_all <;> omega)) | simp (disch := omega) only [go_sem, Nat.reduceBEq, Nat.reduceAdd, ww])
      exact S.done (j3.out rfl (Imp.refl rfl) rfl)
    · (repeat first | refine uA ?_ | (refine uK ?_ ?_; focus first | omega | (intros; simp_all <;> omega)) | simp (disch := omega) only [go_sem, Nat.reduceBEq, Nat.reduceAdd, ww])
      refine S.next (i + 1) ⟨by omega, ?_⟩ (by omega) (by (repeat first | refine uA ?_ | (refine ⟨?_, ?_⟩; focus first | rfl | simp [slot]) | rfl | simp))
      rw [hg, hd, List.all_cons]
      simp only [Bool.not_eq_false'] at hc2
      rw [hc2]; rfl
  · have : (shape.all fun v => j4 v.x && j4 v.y) = true := by rw [hg, List.drop_eq_nil_of_le (by omega)]; rfl
    rw [this]
    (repeat first | refine uA ?_ | (refine uK ?_ ?_; focus first | omega | (intros; simp_all <;> omega)) | simp (disch := omega) only [go_sem, Nat.reduceBEq, Nat.reduceAdd, ww])
    exact S.done (j3.out rfl (Imp.refl rfl) rfl)
theorem a8D (a : Am) (hl : Ab 1073741824 a) : FZ 29 [a.c] (ints (G8 a)) := by
 refine kW b3x b3q (by rfl) fun w O hw => ?_
 obtain ⟨name, ⟨x, y, half, t⟩, links⟩ := a
 obtain ⟨b0, ⟨b1, b2, b3⟩, hn, hb⟩ := hl
 simp only at b0 b1 b2 b3 hn hb
 have c1 := b1.mono (m := 17179869184) (by decide)
 have c2 := b2.mono (m := 17179869184) (by decide)
 have c3 := b3.mono (m := 17179869184) (by decide)
 have hnm := b8d name (by omega)
 have hsm := a8g _ (Rbs.three (by decide) c1 c2 c3)
 rw [b0w] at hsm
 have hs := V8 t c3
 unfold G8 a4C
 simp only
 generalize a1v name = q0 at *
 generalize (j4 x && j4 y && j4 t) = q at *
 generalize y9 (Nm.d9 t) = n1 at *
 simp only [a6S, l6, TT, II, OA, OB, OC, MM, LL, VV, FF, MG, LG, VG, FG]
 simp only [Am.c, Am.enc, rc, rts, rcs, lks, sb, ints, c3e, c3v] at *
 (repeat first | refine uF hnm ?_ | refine uA ?_ | (refine uK ?_ ?_; focus first | omega | (intros; simp_all <;> omega)) | simp (disch := omega) only [go_sem, Nat.reduceBEq, Nat.reduceAdd, ww] | (refine uB hnm ?_ ?_; exact rfl))
 refine S.cond rfl (fun hc => ?_) (fun hc => ?_)
 ·rw [if_pos (by simpa using hc)]
  (repeat first | refine uA ?_ | (refine uK ?_ ?_; focus first | omega | (intros; simp_all <;> omega)) | simp (disch := omega) only [go_sem, Nat.reduceBEq, Nat.reduceAdd, ww])
  exact S.done (j3.out rfl (Imp.refl rfl) rfl)
 rw [if_neg (by simpa using hc)]
 (repeat first | refine uA ?_ | (refine uK ?_ ?_; focus first | omega | (intros; simp_all <;> omega)) | simp (disch := omega) only [go_sem, Nat.reduceBEq, Nat.reduceAdd, ww, c2N])
 refine S.cond rfl (fun hc => ?_) (fun hc => ?_)
 ·rw [if_pos (by simp only [c2U] at hc; omega)]
  (repeat first | refine uA ?_ | (refine uK ?_ ?_; focus first | omega | (intros; simp_all <;> omega)) | simp (disch := omega) only [go_sem, Nat.reduceBEq, Nat.reduceAdd, ww])
  exact S.done (j3.out rfl (Imp.refl rfl) rfl)
 rw [if_neg (by simp only [c3b] at hc; omega)]
 by_cases h0 : links.length = 0
 ·rw [if_pos (.inl h0)]
  have e0 : decide ((links.length : Int) = 0) = true := decide_eq_true (by omega)
  (repeat first | refine uG hs ?_ | refine uG hsm ?_ | refine uA ?_ | (refine uK ?_ ?_; focus first | omega | (intros; simp_all <;> omega)) | simp (disch := omega) only [go_sem, Nat.reduceBEq, Nat.reduceAdd, ww, c2N, e0] | (refine uD hs ?_ ?_ ?_; exact tz hw; exact rfl) | (refine uE hsm ?_ ?_ ?_ ?_; exact tz hw; exact rfl; focus (repeat' first | exact l8.nil | exact Imp.refl rfl | exact Imp.frz rfl rfl rfl | (refine Imp.a0s rfl rfl ?_ ?_; (focus ((try simp only [c3a, c2N, e0]); omega)); (focus first | rfl | assumption)) | refine l8.cons ?_ ?_); done))
  refine S.cond rfl (fun _ => ?_) (fun hc => by simp at hc)
  (repeat first | refine uA ?_ | (refine uK ?_ ?_; focus first | omega | (intros; simp_all <;> omega)) | simp (disch := omega) only [go_sem, Nat.reduceBEq, Nat.reduceAdd, ww])
  exact S.done (j3.out rfl (Imp.refl rfl) rfl)
 have e0 : decide ((links.length : Int) = 0) = false := decide_eq_false (by omega)
 (repeat first | refine uG hs ?_ | refine uG hsm ?_ | refine uA ?_ | (refine uK ?_ ?_; focus first | omega | (intros; simp_all <;> omega)) | simp (disch := omega) only [go_sem, Nat.reduceBEq, Nat.reduceAdd, ww, c2N, e0] | (refine uD hs ?_ ?_ ?_; exact tz hw; exact rfl) | (refine uE hsm ?_ ?_ ?_ ?_; exact tz hw; exact rfl; focus (repeat' first | exact l8.nil | exact Imp.refl rfl | exact Imp.frz rfl rfl rfl | (refine Imp.a0s rfl rfl ?_ ?_; (focus ((try simp only [c3a, c2N, e0]); omega)); (focus first | rfl | assumption)) | refine l8.cons ?_ ?_); done))
 refine S.cond rfl (fun hc => ?_) (fun hc => ?_)
 ·rw [if_pos (by simp only [c3C, Bool.not_eq_true', c2U] at hc; rcases hc with hc | hc; (· exact .inr (.inl hc)); (· exact .inr (.inr (by cases half <;> simp_all))))]
  (repeat first | refine uA ?_ | (refine uK ?_ ?_; focus first | omega | (intros; simp_all <;> omega)) | simp (disch := omega) only [go_sem, Nat.reduceBEq, Nat.reduceAdd, ww])
  exact S.done (j3.out rfl (Imp.refl rfl) rfl)
 rw [if_neg (by simp only [c3r, Bool.not_eq_false', c3b] at hc; rintro (h | h | h); (· omega); (· simp_all); (· cases half <;> simp_all))]
 (repeat first | refine uA ?_ | (refine uK ?_ ?_; focus first | omega | (intros; simp_all <;> omega)) | simp (disch := omega) only [go_sem, Nat.reduceBEq, Nat.reduceAdd, ww, c2N])
 refine S.loop (X := Nat) (fun i => ⟨[(48, lks links), (49, ints links.length), (50, ints i)], []⟩) (fun i => i <= links.length /\ H7 N7 links = H7 N7 (links.drop i)) (fun i => links.length - i) 0 ⟨c2T _, rfl⟩ (by (repeat first | refine uA ?_ | (refine ⟨?_, ?_⟩; focus first | rfl | simp [slot]) | rfl | simp)) ?_
 rintro i ⟨hi, hg⟩
 simp only [lks, ints]
 (repeat first | refine uA ?_ | (refine uK ?_ ?_; focus first | omega | (intros; simp_all <;> omega)) | simp (disch := omega) only [go_sem, Nat.reduceBEq, Nat.reduceAdd, ww])
 (refine uJ rfl (fun hc => ?_) fun hc => ?_)
 ·have hi' : i < links.length := by omega
  have hgi := c2M hi'
  generalize links[i] = x at hgi
  have hst := a1K (f := N7) hgi
  have hnx := a1I (f := N7) hgi
  have hs := c0f x (hb x (c2P hgi))
  generalize N7 x = e at *
  simp only [Lk.c, Lk.enc, vts, sb, ints] at hs
  (repeat first | refine uG hs ?_ | refine uA ?_ | (refine uK ?_ ?_; focus first | omega | (intros; simp_all <;> omega)) | simp (disch := omega) only [go_sem, Nat.reduceBEq, Nat.reduceAdd, ww, hgi, c2O, c2N, Lk.enc, vts, sb] | (refine uD hs ?_ ?_ ?_; exact tz hw; exact rfl))
  refine S.cond rfl (fun hc2 => ?_) (fun hc2 => ?_)
  ·rw [hg, hst (by simpa using hc2)]
   (repeat first | refine uA ?_ | (refine uK ?_ ?_; focus first | omega | (intros; simp_all <;> omega)) | simp (disch := omega) only [go_sem, Nat.reduceBEq, Nat.reduceAdd, ww])
   exact S.done (j3.out rfl (Imp.refl rfl) rfl)
  ·(repeat first | refine uA ?_ | (refine uK ?_ ?_; focus first | omega | (intros; simp_all <;> omega)) | simp (disch := omega) only [go_sem, Nat.reduceBEq, Nat.reduceAdd, ww])
   refine S.next (i + 1) ⟨by omega, ?_⟩ (by omega) (by (repeat first | refine uA ?_ | (refine ⟨?_, ?_⟩; focus first | rfl | simp [slot]) | rfl | simp))
   rw [hg, hnx (by simpa using hc2)]
 ·rw [hg, a2s (by omega)]
  (repeat first | refine uA ?_ | (refine uK ?_ ?_; focus first | omega | (intros; simp_all <;> omega)) | simp (disch := omega) only [go_sem, Nat.reduceBEq, Nat.reduceAdd, ww])
  exact S.done (j3.out rfl (Imp.refl rfl) rfl)
def a3t (a : Am) (n : Int) : Int := if G8 a ≠ 0 then G8 a else if n ≠ a.links.length then 1 else 0
theorem b6a (a : Am) (n : Int) (hl : Ab 1073741824 a) : FZ 101 [a.c, ints n] (ints (a3t a n)) := by
 refine kW Tryz.func101 (by cbv) (by rfl) fun w O hw => ?_
 have h := a8D a hl
 unfold a3t
 generalize G8 a = e at *
 obtain ⟨name, ⟨x, y, half, t⟩, links⟩ := a
 simp only [l6]
 simp only [Am.c, Am.enc, lks, sb, ints] at *
 (repeat first | refine uA ?_ | (refine uK ?_ ?_; focus first | omega | (intros; simp_all <;> omega)) | simp (disch := omega) only [go_sem, Nat.reduceBEq, Nat.reduceAdd, ww] | (refine uD h ?_ ?_ ?_; exact tz hw; exact rfl))
 refine S.cond rfl (fun hc => ?_) (fun hc => ?_)
 ·rw [if_pos (by simpa using hc)]
  (repeat first | refine uA ?_ | (refine uK ?_ ?_; focus first | omega | (intros; simp_all <;> omega)) | simp (disch := omega) only [go_sem, Nat.reduceBEq, Nat.reduceAdd, ww])
  exact S.done (j3.out rfl (Imp.refl rfl) rfl)
 rw [if_neg (by simpa using hc)]
 (repeat first | refine uA ?_ | (refine uK ?_ ?_; focus first | omega | (intros; simp_all <;> omega)) | simp (disch := omega) only [go_sem, Nat.reduceBEq, Nat.reduceAdd, ww, c2N])
 refine S.cond rfl (fun hc => ?_) (fun hc => ?_)
 ·rw [if_pos (by simpa using hc)]
  (repeat first | refine uA ?_ | (refine uK ?_ ?_; focus first | omega | (intros; simp_all <;> omega)) | simp (disch := omega) only [go_sem, Nat.reduceBEq, Nat.reduceAdd, ww])
  exact S.done (j3.out rfl (Imp.refl rfl) rfl)
 ·rw [if_neg (by simpa using hc)]
  (repeat first | refine uA ?_ | (refine uK ?_ ?_; focus first | omega | (intros; simp_all <;> omega)) | simp (disch := omega) only [go_sem, Nat.reduceBEq, Nat.reduceAdd, ww])
  exact S.done (j3.out rfl (Imp.refl rfl) rfl)
def a4T (x : Lk × Nm.Rt) : Int := if Nm.z8 (Nm.d9 x.2) (Nm.d9 x.1.low) < 0 \/ 0 < Nm.z8 (Nm.d9 x.2) (Nm.d9 x.1.high) then 17 else 0
theorem b2N (a : Am) (q : List Nm.Rt) : a0n a q = if a3t a q.length ≠ 0 then a3t a q.length else H7 a4T (a.links.zip q) := by
 unfold a0n a3t
 by_cases h : G8 a = 0
 ·rw [if_neg (by simp [h])]
  by_cases h2 : q.length = a.links.length
  ·simp [h, h2]; rfl
  ·have h3 : ¬ (q.length : Int) = a.links.length := by omega
   simp [h, h2, h3]
 ·simp [h]
theorem F7 {α β : Type} {l : List α} {m : List β} {i : Nat} {x : α} {y : β} (h : l[i]? = some x) (k : m[i]? = some y) : (l.zip m)[i]? = some (x, y) := by
 rw [List.getElem?_zip_eq_some]; exact ⟨h, k⟩
theorem c1O (a : Am) (q : List Nm.Rt) (hl : Ab 1073741824 a) (hq : Rbs 1073741824 q) : FZ 96 [a.c, rts q] (ints (a0n a q)) := by
 refine kW Tryz.func96 (by cbv) (by rfl) fun w O hw => ?_
 have h := b6a a q.length hl
 rw [b2N]
 have hlen : a3t a q.length = 0 -> q.length = a.links.length := by
  unfold a3t
  intro h
  split at h
  ·rename_i h1; exact absurd h h1
  ·split at h
   ·cases h
   ·rename_i h1; have := Classical.not_not.1 h1; omega
 generalize a3t a q.length = e at *
 obtain ⟨hqn, hqb⟩ := hq
 obtain ⟨name, ⟨x, y, half, t⟩, links⟩ := a
 obtain ⟨b0, ⟨b1, b2, b3⟩, hn, hb⟩ := hl
 simp only at b0 b1 b2 b3 hn hb hlen
 simp only [l6]
 simp only [Am.c, Am.enc, lks, sb, ints, rts] at *
 (repeat first | refine uA ?_ | (refine uK ?_ ?_; focus first | omega | (intros; simp_all <;> omega)) | simp (disch := omega) only [go_sem, Nat.reduceBEq, Nat.reduceAdd, ww, c2N] | (refine uD h ?_ ?_ ?_; exact tz hw; exact rfl))
 refine S.cond rfl (fun hc => ?_) (fun hc => ?_)
 ·rw [if_pos (by simpa using hc)]
  (repeat first | refine uA ?_ | (refine uK ?_ ?_; focus first | omega | (intros; simp_all <;> omega)) | simp (disch := omega) only [go_sem, Nat.reduceBEq, Nat.reduceAdd, ww])
  exact S.done (j3.out rfl (Imp.refl rfl) rfl)
 rw [if_neg (by simpa using hc)]
 have hlen := hlen (by simpa using hc)
 (repeat first | refine uA ?_ | (refine uK ?_ ?_; focus first | omega | (intros; simp_all <;> omega)) | simp (disch := omega) only [go_sem, Nat.reduceBEq, Nat.reduceAdd, ww, c2N])
 refine S.loop (X := Nat) (fun i => ⟨[(1, rts q), (16, lks links), (17, ints links.length), (18, ints i)], []⟩) (fun i => i <= links.length /\ H7 a4T (links.zip q) = H7 a4T ((links.zip q).drop i)) (fun i => links.length - i) 0 ⟨c2T _, rfl⟩ (by (repeat first | refine uA ?_ | (refine ⟨?_, ?_⟩; focus first | rfl | simp [slot]) | rfl | simp)) ?_
 rintro i ⟨hi, hg⟩
 simp only [rts, lks, ints]
 (repeat first | refine uA ?_ | (refine uK ?_ ?_; focus first | omega | (intros; simp_all <;> omega)) | simp (disch := omega) only [go_sem, Nat.reduceBEq, Nat.reduceAdd, ww])
 (refine uJ rfl (fun hc => ?_) fun hc => ?_)
 ·have hi' : i < links.length := by omega
  have hgi := c2M hi'
  have hgq := c2M (show i < q.length by omega)
  generalize links[i] = x at hgi
  generalize q[i]'_ = v at hgq
  have hz := F7 hgi hgq
  have hst := a1K (f := a4T) hz
  have hnx := a1I (f := a4T) hz
  have bx := hb x (c2P hgi)
  have bv := (hqb v (c2P hgq)).mono (m := 17179869184) (by decide)
  have h1 := X5 v x.low bv (bx.2.1.mono (by decide))
  have h2 := X5 v x.high bv (bx.2.2.1.mono (by decide))
  unfold a4T at hst hnx
  simp only at hst hnx
  generalize Nm.z8 (Nm.d9 v) (Nm.d9 x.low) = n1 at *
  generalize Nm.z8 (Nm.d9 v) (Nm.d9 x.high) = n2 at *
  have hqi : (i : Int) < q.length := by omega
  simp only [rc, sb, ints] at h1 h2
  (repeat first | refine uA ?_ | (refine uK ?_ ?_; focus first | omega | (intros; simp_all <;> omega)) | simp (disch := omega) only [go_sem, Nat.reduceBEq, Nat.reduceAdd, ww, hgi, hgq, c2O, c2N, Lk.enc, rcs, vts, sb, c2X] | (refine uD h1 ?_ ?_ ?_; exact tz hw; exact rfl) | (refine uD h2 ?_ ?_ ?_; exact tz hw; exact rfl))
  refine S.cond rfl (fun hc2 => ?_) (fun hc2 => ?_)
  ·have hp : n1 < 0 \/ 0 < n2 := by simpa using hc2
   rw [if_pos hp] at hst
   rw [hg, show a4T = fun x : Lk × Nm.Rt => if Nm.z8 (Nm.d9 x.2) (Nm.d9 x.1.low) < 0 \/ 0 < Nm.z8 (Nm.d9 x.2) (Nm.d9 x.1.high) then 17 else 0 from rfl, hst (by decide)]
   (repeat first | refine uA ?_ | (refine uK ?_ ?_; focus first | omega | (intros; simp_all <;> omega)) | simp (disch := omega) only [go_sem, Nat.reduceBEq, Nat.reduceAdd, ww])
   exact S.done (j3.out rfl (Imp.refl rfl) rfl)
  ·have hp : ¬ (n1 < 0 \/ 0 < n2) := by simpa using hc2
   rw [if_neg hp] at hnx
   (repeat first | refine uA ?_ | (refine uK ?_ ?_; focus first | omega | (intros; simp_all <;> omega)) | simp (disch := omega) only [go_sem, Nat.reduceBEq, Nat.reduceAdd, ww])
   refine S.next (i + 1) ⟨by omega, ?_⟩ (by omega) (by (repeat first | refine uA ?_ | (refine ⟨?_, ?_⟩; focus first | rfl | simp [slot]) | rfl | simp))
   rw [hg, show a4T = fun x : Lk × Nm.Rt => if Nm.z8 (Nm.d9 x.2) (Nm.d9 x.1.low) < 0 \/ 0 < Nm.z8 (Nm.d9 x.2) (Nm.d9 x.1.high) then 17 else 0 from rfl, hnx rfl]
 ·rw [hg, a2s (by rw [List.length_zip]; omega)]
  (repeat first | refine uA ?_ | (refine uK ?_ ?_; focus first | omega | (intros; simp_all <;> omega)) | simp (disch := omega) only [go_sem, Nat.reduceBEq, Nat.reduceAdd, ww])
  exact S.done (j3.out rfl (Imp.refl rfl) rfl)
set_option maxRecDepth 100000
set_option maxHeartbeats 4000000
theorem X0 {a : Nm.Rt} (h : j4 a = true) : Rb 3 a := by
 unfold j4 at h
 simp only [c2S, c2U] at h
 exact ⟨h.1.1.1.1, by have := h.1.1.1.2; omega⟩
theorem I7 {a : Nm.Rt} (h : j4 a = true) : Rb 1048576 a := (X0 h).mono (by decide)
theorem a4x {α : Type} {f : α -> Int} : ∀ {l : List α}, H7 f l = 0 -> ∀ x ∈ l, f x = 0
 | [], _, x, hx => by cases hx
 | y :: l, h, x, hx => by
  rw [H7] at h
  split at h
  ·rename_i h0
   rcases List.mem_cons.1 hx with rfl | hx
   ·exact h0
   ·exact a4x h x hx
  ·rename_i h0; exact absurd h h0
theorem b0q {l : List Vt} (h : U5 l 8 = 0) : l.length <= 8 := by
 unfold U5 at h
 split at h
 ·cases h
 ·omega
theorem b1h {l : List Vt} (h : K5 l = 0) : Vbs 1048576 l := by
 have hl := b0q (a4O h)
 unfold K5 at h
 rw [a4O h, if_neg (by decide)] at h
 split at h
 ·rename_i ha
  rw [List.all_eq_true] at ha
  refine ⟨by omega, fun v hv => ?_⟩
  have := ha v hv
  unfold okV at this
  simp only [c2S] at this
  exact ⟨I7 this.1.2, I7 this.2⟩
 ·cases h
theorem a3F {l : Lk} (h : N7 l = 0) : Lb 1048576 l /\ Nm.z8 (Nm.d9 l.low) (Nm.d9 l.high) < 0 /\ 0 < y9 (Nm.d9 l.speed) := by
 unfold N7 at h
 split at h
 ·cases h
 rename_i h1
 split at h
 ·cases h
 rename_i h2
 split at h
 ·rename_i h3; exact absurd h h3
 rename_i h3
 split at h
 ·rename_i h4
  have h1a : (j4 l.length && j4 l.low && j4 l.high && j4 l.speed && j4 l.brake) = true := by
   cases hb : (j4 l.length && j4 l.low && j4 l.high && j4 l.speed && j4 l.brake) with
   | true => rfl
   | false => exact absurd (.inl hb) h1
  simp only [c2S] at h1a
  obtain ⟨⟨⟨⟨s1, s2⟩, s3⟩, s4⟩, s5⟩ := h1a
  have hpe := b0q (Classical.not_not.1 h3)
  rw [List.all_eq_true] at h4
  refine ⟨⟨I7 s1, I7 s2, I7 s3, I7 s4, I7 s5, by omega, fun v hv => ?_⟩, ?_, ?_⟩
  ·have := h4 v hv
   simp only [c2S] at this
   exact ⟨I7 this.1, I7 this.2⟩
  ·have : ¬ 0 <= Nm.z8 (Nm.d9 l.low) (Nm.d9 l.high) := fun h => h1 (.inr (.inr h))
   omega
  ·have : ¬ y9 (Nm.d9 l.speed) <= 0 := fun h => h2 (.inl h)
   omega
 ·cases h
theorem J9 {a : Am} (h : G8 a = 0) : Ab 1048576 a /\ ∀ l ∈ a.links, N7 l = 0 := by
 unfold G8 at h
 split at h
 ·cases h
 rename_i h1
 split at h
 ·cases h
 split at h
 ·cases h
 rename_i h2 h3
 have hn : a.name.length <= 12 := by
  have : a1v a.name = true := by simpa using h1
  unfold a1v at this
  simp only [c2S, c2U] at this
  exact this.2
 have h3a : (j4 a.base.x && j4 a.base.y && j4 a.base.t) = true := by
  cases hb : (j4 a.base.x && j4 a.base.y && j4 a.base.t) with
  | true => rfl
  | false => exact absurd (.inr (.inl hb)) h3
 simp only [c2S] at h3a
 have hl := a4x h
 exact ⟨⟨by omega, ⟨I7 h3a.1.1, I7 h3a.1.2, I7 h3a.2⟩, by omega, fun l hl' => (a3F (hl l hl')).1⟩, hl⟩
theorem a7u {f : Fr} (h : okF f = true) : Fb 1048576 f /\ a1d f = true := by
 unfold okF okV at h
 simp only [c2S, c2U] at h
 obtain ⟨⟨⟨⟨⟨⟨g1, g2⟩, s1⟩, s2⟩, g3⟩, s3⟩, z⟩ := h
 refine ⟨⟨I7 s1, I7 s2, I7 s3⟩, ?_⟩
 unfold a1d F9
 simp [g1, g2, g3, z]
theorem b6W {n : Nat} : (a4f n).length <= 5 /\ (a3C n).length <= 4 /\ (a4E n).length <= 6 := by
 refine ⟨?_, ?_, ?_⟩
 ·unfold a4f
  match n with
  | 0 | 1 | 2 | 3 => decide
  | n + 4 => simp
 ·unfold a3C
  match n with
  | 0 | 1 => decide
  | n + 2 => simp
 ·unfold a4E
  match n with
  | 0 | 1 | 2 => decide
  | n + 3 => simp
theorem b0I : ∀ (c n : Nat) (l : List Int), ∀ p ∈ a0t c n l, p.name.length <= 4
 | 0, _, _, p, hp => by cases hp
 | c + 1, n, l, p, hp => by
  rcases List.mem_cons.1 hp with rfl | hp
  ·exact b6W.2.1
  ·exact b0I c _ _ p hp
theorem b0z : ∀ (c n : Nat) (l : List Int), ∀ p ∈ a0z c n l, p.name.length <= 6
 | 0, _, _, p, hp => by cases hp
 | c + 1, n, l, p, hp => by
  rcases List.mem_cons.1 hp with rfl | hp
  ·exact b6W.2.2
  ·exact b0z c _ _ p hp
theorem b0C : ∀ (c : Nat) (l : List Int), ∀ p ∈ a0A c l, p.name.length <= 4
 | 0, _, p, hp => by cases hp
 | c + 1, l, p, hp => by
  rcases List.mem_cons.1 hp with rfl | hp
  ·exact (by decide : ([100, 111, 111, 114] : List UInt8).length <= 4)
  ·exact b0C c _ p hp
theorem Fb.mono {k m : Nat} {f : Fr} (h : Fb k f) (hm : k <= m) : Fb m f := ⟨h.1.mono hm, h.2.1.mono hm, h.2.2.mono hm⟩
theorem Vbs.mono {k m : Nat} {l : List Vt} (h : Vbs k l) (hm : k <= m) : Vbs m l := ⟨c2Q h.1 hm, fun v hv => ⟨(h.2 v hv).1.mono hm, (h.2 v hv).2.mono hm⟩⟩
theorem Ab.mono {k m : Nat} {a : Am} (h : Ab k a) (hm : k <= m) : Ab m a := ⟨c2Q h.1 hm, h.2.1.mono hm, c2Q h.2.2.1 hm, fun l hl => by
 obtain ⟨h1, h2, h3, h4, h5, h6⟩ := h.2.2.2 l hl
 exact ⟨h1.mono hm, h2.mono hm, h3.mono hm, h4.mono hm, h5.mono hm, h6.mono hm⟩⟩
theorem Wb.mono {k m : Nat} {w : Wk} (h : Wb k w) (hm : k <= m) : Wb m w :=
  ⟨⟨c2Q h.arms.1 hm, fun x hx => (h.arms.2 x hx).mono hm⟩, ⟨c2Q h.walls.1 hm, fun x hx => (h.walls.2 x hx).mono hm⟩, ⟨c2Q h.parts.1 hm, fun x hx => ⟨c2Q (h.parts.2 x hx).1 hm, (h.parts.2 x hx).2.1.mono hm, (h.parts.2 x hx).2.2.mono hm⟩⟩,
   ⟨c2Q h.slots.1 hm, fun x hx => ⟨c2Q (h.slots.2 x hx).1 hm, (h.slots.2 x hx).2.1.mono hm, (h.slots.2 x hx).2.2.mono hm⟩⟩, ⟨c2Q h.gates.1 hm, fun x hx => ⟨c2Q (h.gates.2 x hx).1 hm, ⟨(h.gates.2 x hx).2.1.1.mono hm, (h.gates.2 x hx).2.1.2.mono hm⟩, (h.gates.2 x hx).2.2.1.mono hm, (h.gates.2 x hx).2.2.2.mono hm⟩⟩, h.walk.mono hm⟩
theorem Stb.mono {k m : Nat} {s : Stt} (h : Stb k s) (hm : k <= m) : Stb m s :=
 ⟨⟨c2Q h.arms.1 hm, fun x hx => ⟨⟨c2Q (h.arms.2 x hx).1.1 hm, fun r hr => ((h.arms.2 x hx).1.2 r hr).mono hm⟩, c2Q (h.arms.2 x hx).2.1 hm, fun r hr => ((h.arms.2 x hx).2.2 r hr).mono hm⟩⟩, ⟨c2Q h.parts.1 hm, fun x hx => (h.parts.2 x hx).mono hm⟩, h.people.mono hm, c2Q h.gates hm⟩
theorem b3f (l : List Int) : Wb 1048576 (D6 l) := by
 obtain ⟨c1, c2, c3, c4, c5⟩ := counts l
 have x1 := a5z (nA l) 0 (l.drop 1) (by omega)
 have x2 := a4z (nW l) ((l1 l).drop 1)
 have x3 := a6J (nP l) 0 ((l2 l).drop 1)
 have x4 := a4D (nS l) 0 ((l3 l).drop 1)
 have x5 := a6T (nG l) ((l4 l).drop 1)
 have a1 := l9 (l5 l) (n := 4) (by decide)
 have a2 := D5 (l5 l) (n := 4) (by decide)
 refine ⟨⟨?_, fun x hx => (J9 (x1 x hx)).1⟩, ⟨?_, fun x hx => b1h (x2.1 x hx).1⟩, ⟨?_, fun x hx => ?_⟩, ⟨?_, fun x hx => ?_⟩, ⟨?_, fun x hx => ?_⟩, ?_⟩
 ·show (a0p _ _ _).length <= _
  rw [a6I]; omega
 ·show (a1H _ _).length <= _
  rw [x2.2]; omega
 ·show (a0t _ _ _).length <= _
  rw [x3.2.1]; omega
 ·obtain ⟨⟨h1, h2⟩, h3⟩ := x3.1 x hx
  have := b0I _ _ _ x hx
  exact ⟨by omega, b1h h1, (a7u h2).1⟩
 ·show (a0z _ _ _).length <= _
  rw [x4.2.1]; omega
 ·have h := x4.1 x hx
  simp only [c2S] at h
  have := b0z _ _ _ x hx
  exact ⟨by omega, (a7u h.1.1.1).1, I7 h.1.2⟩
 ·show (a0A _ _).length <= _
  rw [x5.2.1]; omega
 ·have h := x5.1 x hx
  simp only [c2S] at h
  have := b0C _ _ x hx
  obtain ⟨⟨⟨h1, h2⟩, _⟩, _⟩ := h
  unfold okV at h1 h2
  simp only [c2S] at h1 h2
  exact ⟨by omega, ⟨I7 h1.1.2, I7 h1.2⟩, I7 h2.1.2, I7 h2.2⟩
 ·exact I7 (U1 _ _ (by omega) (by decide))
theorem b6U (l : List Int) : Wb 1073741824 (D6 l) := (b3f l).mono (by decide)
theorem a5m {α β : Type} {f : α -> β} : ∀ {l : List α} {x : α × β}, x ∈ l.zip (l.map f) -> x.1 ∈ l /\ x.2 = f x.1
 | [], x, h => by simp at h
 | a :: l, x, h => by
  simp only [c3e, List.zip_cons_cons] at h
  rcases List.mem_cons.1 h with rfl | h
  ·exact ⟨List.mem_cons_self .., rfl⟩
  ·exact ⟨List.mem_cons_of_mem _ (a5m h).1, (a5m h).2⟩
theorem a1Y (p q : Rat) : Nm.z8 p q < 0 <-> p < q := by
 unfold Nm.z8
 split
 ·simp_all
 ·split
  ·simp_all
  ·simp_all
theorem V9 (p q : Rat) : 0 < Nm.z8 p q <-> q < p := by
 unfold Nm.z8
 split
 ·rename_i h; simp; grind
 ·split
  ·rename_i h1 h2; simp; grind
  ·rename_i h1 h2; simp; grind
theorem b7p {l : Lk} (h : N7 l = 0) : a4T (l, a0w l) = 0 := by
 have hc := (a1Y _ _).1 (a3F h).2.1
 unfold a4T a0w
 simp only [Nm.r9]
 rw [if_neg]
 rw [a1Y, V9]
 unfold O4 J7
 have e1 : ∀ p q : Rat, (Nm.z8 p q >= 0) <-> ¬ p < q := fun p q => by rw [<- a1Y]; omega
 have e2 : ∀ p q : Rat, (Nm.z8 p q <= 0) <-> ¬ q < p := fun p q => by rw [<- V9]; omega
 simp only [e1, e2]
 repeat' split
 all_goals grind
theorem a7L {l : Lk} (h : N7 l = 0) : Y9 (l, Nm.ofQ 0) = 0 := by
 have hs := (a3F h).2.2
 unfold Y9
 simp only [Nm.r9]
 rw [if_neg]
 have h0 : w9 0 = 0 := rfl
 rw [h0, V9]
 have hn : 0 < (Nm.d9 l.speed).num := by
  unfold y9 at hs
  split at hs
  ·omega
  ·split at hs <;> omega
 intro hlt
 have := (Rat.lt_iff _ _).1 hlt
 simp at this
 omega
theorem b7G {a : Am} (h : G8 a = 0) (n : Nat) : Q9 a (O5 a) n = 0 := by
 have hl := (J9 h).2
 unfold Q9 O5
 simp only
 have g1 : (a.links.map a0w).all F9 = true := by
  rw [List.all_eq_true]
  intro x hx
  obtain ⟨l, _, rfl⟩ := List.mem_map.1 hx
  exact decide_eq_true (Nm.Y2 _)
 have g2 : (a.links.map fun _ => Nm.ofQ 0).all F9 = true := by
  rw [List.all_eq_true]
  intro x hx
  obtain ⟨l, _, rfl⟩ := List.mem_map.1 hx
  exact decide_eq_true (Nm.Y2 _)
 have hf : a0n a (a.links.map a0w) = 0 := by
  rw [b2N]
  have : a3t a (a.links.map a0w).length = 0 := by
   unfold a3t
   rw [h, if_neg (by decide), c2N, if_neg (by simp)]
  rw [this, if_neg (by decide)]
  refine a0D fun x hx => ?_
  obtain ⟨h1, h2⟩ := a5m hx
  obtain ⟨x1, x2⟩ := x
  simp only at h1 h2
  rw [h2]
  exact b7p (hl x1 h1)
 rw [g1, g2, if_neg (by decide), hf, if_neg (by decide), if_neg (by simp; omega)]
 refine a0D fun x hx => ?_
 obtain ⟨h1, h2⟩ := a5m hx
 obtain ⟨x1, x2⟩ := x
 simp only at h1 h2
 rw [h2]
 exact a7L (hl x1 h1)
theorem a7I (n : Nat) : ∀ (l : List Am) (h : List Int), (∀ a ∈ l, G8 a = 0) -> (u6 (K3 n) h (l.zip (l.map O5))).1 = 0
 | [], _, _ => rfl
 | a :: l, h, ha => by
  have e : K3 n h (a, O5 a) = (0, a7t h (-1)) := by
   unfold K3
   simp only
   rw [b7G (ha a (by simp)) n, if_neg (by decide), if_neg (by simp [O5])]
   rfl
  simp only [c3e, List.zip_cons_cons, u6, e]
  exact a7I n l _ fun x hx => ha x (by simp [hx])
theorem a5y {w : Wk} (h : X7 w = 0) (ha : ∀ a ∈ w.arms, G8 a = 0) (hs : ∀ s ∈ w.slots, okF s.frame = true) : I5 w (D9 w) = 0 := by
 unfold I5
 have l1 : (D9 w).arms.length = w.arms.length := by simp [D9]
 have l2 : (D9 w).parts.length = w.parts.length := by simp [D9]
 have l3 : (D9 w).gates.length = w.gates.length := by simp [D9]
 have l4 : (D9 w).people = [] := rfl
 have l5 : (D9 w).tick = 0 := rfl
 have hh : (u6 (K3 w.parts.length) [] (w.arms.zip (D9 w).arms)).1 = 0 := a7I _ w.arms [] ha
 have hp : (D9 w).parts.all a1d = true := by
  rw [List.all_eq_true]
  intro f hf
  obtain ⟨i, _, rfl⟩ := List.mem_map.1 hf
  unfold a6G
  split
  ·exact (a7u (hs _ (c2Z _))).2
  ·unfold a2T a1d F9 a4C
   simp [Nm.Y2]
 rw [h, if_neg (by decide), l4, if_neg (by decide), l1, l2, l3, l5, if_neg (by simp), hh, if_neg (by decide), hp]
 rfl
theorem a3X : Rb 1048576 (Nm.ofQ 0) := ⟨c2Q (Nm.F4 (k := 8) (by decide)) (by decide), c2Q (Nm.F4 (k := 8) (by decide)) (by decide)⟩
theorem b2b {k : Nat} (hk : 1048576 <= k) {w : Wk} (hw : Wb k w) (ha : ∀ a ∈ w.arms, G8 a = 0) (hs : ∀ s ∈ w.slots, okF s.frame = true) : Stb k (D9 w) := by
 refine ⟨⟨?_, fun x hx => ?_⟩, ⟨?_, fun x hx => ?_⟩, ⟨c2T _, fun v hv => by cases hv⟩, ?_⟩
 ·show (w.arms.map O5).length <= _
  rw [c2N]; exact hw.arms.1
 ·obtain ⟨a, haa, rfl⟩ := List.mem_map.1 hx
  have hab := hw.arms.2 a haa
  refine ⟨⟨?_, fun r hr => ?_⟩, ?_, fun r hr => ?_⟩
  ·show (a.links.map a0w).length <= _
   rw [c2N]; exact hab.2.2.1
  ·obtain ⟨l, hl, rfl⟩ := List.mem_map.1 hr
   have hlb := hab.2.2.2 l hl
   unfold a0w O4 J7
   repeat' split
   all_goals first | exact hlb.2.1.fit (by omega) | exact hlb.2.2.1.fit (by omega) | exact a3X.mono hk
  ·show (a.links.map fun _ => Nm.ofQ 0).length <= _
   rw [c2N]; exact hab.2.2.1
  ·obtain ⟨l, hl, rfl⟩ := List.mem_map.1 hr
   exact a3X.mono hk
 ·show ((List.range _).map _).length <= _
  simp; exact hw.parts.1
 ·obtain ⟨i, _, rfl⟩ := List.mem_map.1 hx
  unfold a6G
  split
  ·exact (a7u (hs _ (c2Z _))).1.mono hk
  ·exact ⟨a3X.mono hk, a3X.mono hk, a3X.mono hk⟩
 ·show (List.replicate _ _).length <= _
  rw [List.length_replicate]; exact hw.gates.1
theorem b6q {w : Wk} (hw : Wb 1073741824 w) (ha : ∀ a ∈ w.arms, G8 a = 0) (hs : ∀ s ∈ w.slots, okF s.frame = true) : Stb 1073741824 (D9 w) := b2b (by decide) hw ha hs
theorem a4X (l : List Int) : (∀ a ∈ (D6 l).arms, G8 a = 0) /\ ∀ s ∈ (D6 l).slots, okF s.frame = true := by
 obtain ⟨c1, c2, c3, c4, c5⟩ := counts l
 refine ⟨a5z (nA l) 0 (l.drop 1) (by omega), fun s hs => ?_⟩
 have h := (a4D (nS l) 0 ((l3 l).drop 1)).1 s hs
 simp only [c2S] at h
 exact h.1.1.1
def Q5 (a b : Nm.Rt) : Nm.Rt := Nm.ofQ (Nm.d9 a + Nm.d9 b)
def M8 (b v : Nm.Rt) : Nm.Rt := if Nm.z8 (w9 (Nm.d9 v)) (Nm.d9 b) <= 0 then Nm.ofQ 0 else if y9 (Nm.d9 v) < 0 then Q5 v b else Nm.ofQ (Nm.d9 v - Nm.d9 b)
def a1k (a : Am) (x : Ast) : List Nm.Rt := (a.links.zip x.v).map fun p => M8 p.1.brake p.2
def a2l (a : Am) (x : Ast) : List Nm.Rt := (x.q.zip (a1k a x)).map fun p => Q5 p.1 p.2
def a9B (a : Am) (x : Ast) : Ast := ⟨a2l a x, a1k a x, false, x.holds⟩
def mvQ (x : Ast) (u : List Nm.Rt) : List Nm.Rt := (x.q.zip u).map fun p => Q5 p.1 p.2
def mvA (x : Ast) (u : List Nm.Rt) : Ast := ⟨mvQ x u, u, true, x.holds⟩
def b5J (x : Lk × Nm.Rt × Nm.Rt) : Bool := !(decide (0 < Nm.z8 (w9 (Nm.d9 x.2.2)) (Nm.d9 x.1.speed)) || decide (0 < Nm.z8 (Nm.d9 x.1.low) (Nm.d9 x.2.1 + Nm.d9 x.2.2)) || decide (0 < Nm.z8 (Nm.d9 x.2.1 + Nm.d9 x.2.2) (Nm.d9 x.1.high)))
def a5P (a : Am) (q u : List Nm.Rt) : Bool := decide (u.length = a.links.length) && (u.all F9 && (a.links.zip (q.zip u)).all b5J)
def X3 (a : Am) (x : Ast) (u : List Nm.Rt) (p : Bool) : Ast := if p && a5P a x.q u then mvA x u else a9B a x
def P9 (a b : Fr) : Fr := ⟨Nm.ofQ (a8q a ⟨b.x, b.y⟩), Nm.ofQ (a8u a ⟨b.x, b.y⟩), (a2x a.half (x9 a.half a.t) b.half (x9 b.half b.t)).1, Nm.ofQ (a2x a.half (x9 a.half a.t) b.half (x9 b.half b.t)).2⟩
def a0x (q : Nm.Rt) : Fr := ⟨Nm.ofQ 0, Nm.ofQ 0, false, Nm.ofQ (Nm.d9 q)⟩
def a6c (l : Lk) : Fr := ⟨l.length, Nm.ofQ 0, false, Nm.ofQ 0⟩
def a0T : Fr -> List (Lk × Nm.Rt) -> List Fr
 | e, [] => [e]
 | e, (l, q) :: r => P9 e (a0x q) :: a0T (P9 (P9 e (a0x q)) (a6c l)) r
def a3p : Fr -> List (Lk × Nm.Rt) -> Fr
 | e, [] => e
 | e, (l, q) :: r => a3p (P9 (P9 e (a0x q)) (a6c l)) r
def a1L (f : Fr) : Fr := ⟨Nm.ofQ (Nm.d9 (Nm.ofQ (0 - Nm.d9 f.x)) * U7 f.half (x9 f.half (Nm.ofQ (- x9 f.half f.t))) - Nm.d9 (Nm.ofQ (0 - Nm.d9 f.y)) * U6 (x9 f.half (Nm.ofQ (- x9 f.half f.t)))), Nm.ofQ (Nm.d9 (Nm.ofQ (0 - Nm.d9 f.x)) * U6 (x9 f.half (Nm.ofQ (- x9 f.half f.t))) + Nm.d9 (Nm.ofQ (0 - Nm.d9 f.y)) * U7 f.half (x9 f.half (Nm.ofQ (- x9 f.half f.t)))), f.half, Nm.ofQ (- x9 f.half f.t)⟩
def a7f (a : Am) (q : List Nm.Rt) (g : Fr) : Fr := P9 (a3p a.base (a.links.zip q)) (a1L g)
def a0X (w : Wk) (s : Stt) (u : List (List Nm.Rt)) (p : List Bool) : List Ast := ((w.arms.zip s.arms).zip (u.zip p)).map fun z => X3 z.1.1 z.1.2 z.2.1 z.2.2
def a3v (w : Wk) (P : List Fr) (z : Am × Ast) : List Fr :=
 if z.2.holds < 0 then P else match w.parts[z.2.holds.toNat]? with
  | some pt => P.set z.2.holds.toNat (a7f z.1 z.2.q pt.grasp)
  | none => P
def c2e (k : Nm.Rt) (v : Vt) : Bool := a6e v && !decide (0 < Nm.z8 (O4 (w9 (Nm.d9 v.x)) (w9 (Nm.d9 v.y))) (Nm.d9 k))
def c1i (p : Vt × Vt) : Vt := ⟨Q5 p.1.x p.2.x, Q5 p.1.y p.2.y⟩
def c2o (w : Wk) (s : Stt) (u : List (List Nm.Rt)) (p : List Bool) (v : List Vt) : Int :=
 if I5 w s ≠ 0 then I5 w s else
 if u.length ≠ w.arms.length \/ p.length ≠ w.arms.length \/ v.length ≠ s.people.length then 1 else
 if v.all (c2e w.walk) = false then 1 else
 if s.tick = 2000 then 7 else 0
def Z0 (w : Wk) (s : Stt) (u : List (List Nm.Rt)) (p : List Bool) (v : List Vt) : Stt :=
 ⟨s.tick + 1, a0X w s u p, (w.arms.zip (a0X w s u p)).foldl (a3v w) s.parts, (s.people.zip v).map c1i, s.gates⟩
theorem b2a {n : Nat} : ∀ {l : List (Am × Ast)} {h : List Int}, (u6 (K3 n) h l).1 = 0 -> ∀ z ∈ l, Q9 z.1 z.2 n = 0
 | [], _, _, z, hz => by cases hz
 | y :: l, h, e, z, hz => by
  have hy : (K3 n h y).1 = 0 := by
   unfold u6 at e
   split at e
   ·assumption
   ·exact e
  unfold u6 at e
  rw [if_pos hy] at e
  rcases List.mem_cons.1 hz with rfl | hz
  ·unfold K3 at hy
   split at hy
   ·exact hy
   ·exact Classical.not_not.1 (by assumption)
  ·exact b2a e z hz
structure c2I (w : Wk) (s : Stt) : Prop where
 works : X7 w = 0
 people : s.people.length <= 4
 tick : 0 <= s.tick /\ s.tick <= 2000
 arms : s.arms.length = w.arms.length
 parts : s.parts.length = w.parts.length
 gates : s.gates.length = w.gates.length
 one : ∀ z ∈ w.arms.zip s.arms, Q9 z.1 z.2 w.parts.length = 0
 big : 1 <= w.arms.length /\ w.arms.length <= 4 /\ w.parts.length <= 6 /\ w.gates.length <= 4
theorem R7 {w : Wk} {s : Stt} (h : I5 w s = 0) : c2I w s := by
 unfold I5 at h
 split at h
 ·rename_i h1; exact absurd h h1
 rename_i h1
 split at h
 ·cases h
 split at h
 ·cases h
 split at h
 ·rename_i h2; exact absurd h h2
 rename_i h2 h3 h4
 have h1 := Classical.not_not.1 h1
 have hb := h1
 unfold X7 at hb
 split at hb
 ·cases hb
 split at hb
 ·cases hb
 exact ⟨h1, by omega, by omega, by omega, by omega, by omega, b2a (Classical.not_not.1 h4), by omega⟩
structure b9v (a : Am) (x : Ast) (n : Nat) : Prop where
 arm : G8 a = 0
 q : x.q.length = a.links.length
 v : x.v.length = a.links.length
 holds : -1 <= x.holds /\ x.holds < n
theorem a2m {a : Am} {x : Ast} {n : Nat} (h : Q9 a x n = 0) : b9v a x n := by
 unfold Q9 at h
 split at h
 ·cases h
 split at h
 ·rename_i h1; exact absurd h h1
 rename_i h1
 split at h
 ·cases h
 have h2 := Classical.not_not.1 h1
 unfold a0n at h2
 split at h2
 ·rename_i h3; exact absurd h2 h3
 rename_i h3
 split at h2
 ·cases h2
 exact ⟨Classical.not_not.1 h3, by omega, by omega, by omega⟩
theorem X8 {a : Am} (h : G8 a = 0) : 1 <= a.links.length /\ a.links.length <= 3 := by
 unfold G8 at h
 split at h
 ·cases h
 split at h
 ·cases h
 split at h
 ·cases h
 ·omega
theorem c1y {a : Am} {n : Int} (h : G8 a = 0) (hn : n = a.links.length) : a3t a n = 0 := by
 unfold a3t
 rw [if_neg (by simp [h]), if_neg (by simp [hn])]
theorem a0E {l : Lk} (h : N7 l = 0) : 0 < y9 (Nm.d9 l.brake) := by
 unfold N7 at h
 split at h
 ·cases h
 split at h
 ·cases h
 ·omega
theorem a0C (q : Rat) : (y9 q = -1 /\ q < 0) \/ (y9 q = 0 /\ q = 0) \/ (y9 q = 1 /\ 0 < q) := by
 have h1 := @Rat.num_nonneg q
 have h2 := @Rat.num_eq_zero q
 unfold y9
 by_cases h0 : q.num = 0
 ·right; left; exact ⟨if_pos h0, h2.1 h0⟩
 rw [if_neg h0]
 by_cases hn : q.num < 0
 ·left
  refine ⟨if_pos hn, ?_⟩
  rw [<- Rat.not_le, <- h1]; omega
 ·right; right
  refine ⟨if_neg hn, ?_⟩
  have h5 : 0 <= q := h1.1 (by omega)
  have h6 : q ≠ 0 := fun e => h0 (h2.2 e)
  grind
theorem a1Q {w : Wk} {s : Stt} {u : List (List Nm.Rt)} {p : List Bool} (h1 : s.arms.length = w.arms.length) (h2 : u.length = w.arms.length) (h3 : p.length = w.arms.length) : (a0X w s u p).length = w.arms.length := by
 unfold a0X; simp only [c2N, List.length_zip]; omega
theorem a2N {w : Wk} {s : Stt} {u : List (List Nm.Rt)} {p : List Bool} {i : Nat} {a : Am} {x : Ast} {v : List Nm.Rt} {b : Bool} (h1 : w.arms[i]? = some a) (h2 : s.arms[i]? = some x) (h3 : u[i]? = some v) (h4 : p[i]? = some b) : (a0X w s u p)[i]? = some (X3 a x v b) := by
 unfold a0X
 rw [c3i, F7 (F7 h1 h2) (F7 h3 h4)]
 rfl
theorem holds_one (a : Am) (x : Ast) (u : List Nm.Rt) (p : Bool) : (X3 a x u p).holds = x.holds := by
 unfold X3; split <;> rfl
theorem b0k {a : Am} {x : Ast} {n : Nat} {u : List Nm.Rt} {p : Bool} (h : b9v a x n) : (X3 a x u p).q.length = a.links.length /\ (X3 a x u p).v.length = a.links.length := by
 unfold X3
 have h1 := h.q
 have h2 := h.v
 split
 ·rename_i hc
  simp only [c2S, a5P, c2U] at hc
  have h3 := hc.2.1
  simp only [mvA, mvQ, c2N, List.length_zip]; omega
 ·simp only [a9B, a2l, a1k, c2N, List.length_zip]; omega
theorem b4w {α : Type} {l m : List α} {i : Nat} {y : α} (hl : l.length = m.length) (hy : l[i]? = some y) : (l.take i ++ m.drop i).set i y = l.take (i + 1) ++ m.drop (i + 1) := by
 obtain ⟨hi, rfl⟩ := c2R.1 hy
 have h1 : (l.take i).length = i := by rw [c2W]; omega
 rw [List.set_append_right _ _ (by omega), h1, Nat.sub_self, List.drop_eq_getElem_cons (show i < m.length by omega), List.set_cons_zero, c3E hi, c3x]
 rfl
theorem a3M {α : Type} {l m : List α} {i : Nat} (hl : l.length = m.length) (hi : i <= m.length) : (l.take i ++ m.drop i).length = m.length := by
 simp only [c3a, c2W, c3z]; omega
theorem mid_end {α : Type} {l m : List α} (hl : l.length = m.length) : l.take m.length ++ m.drop m.length = l := by
 rw [<- hl, c3j, hl, List.drop_length, List.append_nil]
theorem a7U : ∀ (z : List (Lk × Nm.Rt)) (e : Fr), (a0T e z)[z.length]? = some (a3p e z) /\ (a0T e z).length = z.length + 1
 | [], e => ⟨rfl, rfl⟩
 | (l, q) :: r, e => by
  obtain ⟨h1, h2⟩ := a7U r (P9 (P9 e (a0x q)) (a6c l))
  simp only [a0T, a3p, c3g, List.getElem?_cons_succ]
  exact ⟨h1, by rw [h2]⟩
set_option maxRecDepth 10000
set_option maxHeartbeats 8000000
theorem b7c (v : Vt) (hv : Vb 17179869184 v) : FZ 134 [v.c] (.v (.bool (!okV v))) := by
 refine kW Tryz.func134 (by cbv) (by rfl) fun w O hw => ?_
 obtain ⟨x, y⟩ := v
 obtain ⟨b1, b2⟩ := hv
 simp only at b1 b2
 have h1 := a1e x (b1.mono (by decide))
 have h2 := a1e y (b2.mono (by decide))
 have h3 := a3L x b1
 have h4 := a3L y b2
 unfold okV
 simp only
 generalize decide x.H8 = q1 at *
 generalize decide y.H8 = q2 at *
 generalize j4 x = q3 at *
 generalize j4 y = q4 at *
 simp only [l6]
 simp only [Vt.c, Vt.enc, rc, sb] at *
 (repeat first | refine uA ?_ | (refine uK ?_ ?_; focus first | omega | (intros; simp_all <;> omega)) | simp (disch := omega) only [go_sem, Nat.reduceBEq, Nat.reduceAdd, ww] | (refine uD h1 ?_ ?_ ?_; exact tz hw; exact rfl) | (refine uD h2 ?_ ?_ ?_; exact tz hw; exact rfl) | (refine uD h3 ?_ ?_ ?_; exact tz hw; exact rfl) | (refine uD h4 ?_ ?_ ?_; exact tz hw; exact rfl))
 have e : (!(q1 && q2 && q3 && q4)) = (!q1 || !q2 || !q3 || !q4) := by cases q1 <;> cases q2 <;> cases q3 <;> cases q4 <;> rfl
 (try rw [e])
 exact S.done (j3.out rfl (Imp.refl rfl) rfl)
theorem a8n (l : List Vt) (hl : Vbs 17179869184 l) : FZ 92 [vts l] (.v (.bool (l.all okV))) := by
 refine kW Tryz.func92 (by cbv) (by rfl) fun w O hw => ?_
 have h := b2D 134 (by kernel_rfl) (fun v => !okV v) l (by have := hl.1; omega) (fun v hv => b7c v (hl.2 v hv))
 have e : l.all okV = !l.any fun v => !okV v := by rw [List.not_any_eq_all_not]; simp
 rw [e]
 generalize (l.any fun v => !okV v) = q at *
 simp only [l6]
 simp only [vts] at *
 (repeat first | refine uA ?_ | (refine uK ?_ ?_; focus first | omega | (intros; simp_all <;> omega)) | simp (disch := omega) only [go_sem, Nat.reduceBEq, Nat.reduceAdd, ww] | (refine uD h ?_ ?_ ?_; exact tz hw; exact rfl))
 exact S.done (j3.out rfl (Imp.refl rfl) rfl)
theorem Vbs.one {k : Nat} {v : Vt} (h : 1 <= k) (h1 : Vb k v) : Vbs k [v] := ⟨h, fun x hx => by simp at hx; subst hx; exact h1⟩
theorem Vbs.two {k : Nat} {v u : Vt} (h : 2 <= k) (h1 : Vb k v) (h2 : Vb k u) : Vbs k [v, u] := ⟨h, fun x hx => by simp at hx; rcases hx with rfl | rfl <;> assumption⟩
theorem b2k (f : Fr) (hf : Fb 17179869184 f) : FZ 93 [f.c] (.v (.bool (okF f))) := by
 refine kW Tryz.func93 (by cbv) (by rfl) fun w O hw => ?_
 obtain ⟨x, y, half, t⟩ := f
 obtain ⟨b1, b2, b3⟩ := hf
 simp only at b1 b2 b3
 have h1 := a8n [⟨x, y⟩] (Vbs.one (by decide) ⟨b1, b2⟩)
 rw [List.all_cons, List.all_nil, Bool.and_true] at h1
 have h2 := a1e t (b3.mono (by decide))
 have h3 := a3L t b3
 have h4 := V8 t b3
 unfold okF a4C
 simp only
 generalize okV ⟨x, y⟩ = q1 at *
 generalize decide t.H8 = q2 at *
 generalize j4 t = q3 at *
 generalize y9 (Nm.d9 t) = n at *
 simp only [l6]
 simp only [Fr.c, Fr.enc, vts, Vt.enc, rc, sb, ints, c3e, c3v] at *
 (repeat first | refine uA ?_ | (refine uK ?_ ?_; focus first | omega | (intros; simp_all <;> omega)) | simp (disch := omega) only [go_sem, Nat.reduceBEq, Nat.reduceAdd, ww] | (refine uD h2 ?_ ?_ ?_; exact tz hw; exact rfl) | (refine uD h3 ?_ ?_ ?_; exact tz hw; exact rfl) | (refine uD h4 ?_ ?_ ?_; exact tz hw; exact rfl) | (refine uE h1 ?_ ?_ ?_ ?_; exact tz hw; exact rfl; focus (repeat' first | exact l8.nil | exact Imp.refl rfl | exact Imp.frz rfl rfl rfl | (refine Imp.a0s rfl rfl ?_ ?_; (focus ((try simp only [c3a]); omega)); (focus first | rfl | assumption)) | refine l8.cons ?_ ?_); done))
 have e : (q1 && q2 && q3 && !(half && !decide (n = 0))) = (q1 && q2 && q3 && (!half || decide (n = 0))) := by cases q1 <;> cases q2 <;> cases q3 <;> cases half <;> simp
 rw [e]
 exact S.done (j3.out rfl (Imp.refl (by rfl)) rfl)
theorem b1Q (l : List Vt) (hl : Vbs 1073741824 l) : FZ 33 [vts l] (ints (K5 l)) := by
 refine kW Tryz.func33 (by cbv) (by rfl) fun w O hw => ?_
 have h1 := a7R l hl
 have h2 := a8n l ⟨by have := hl.1; omega, fun v hv => (hl.2 v hv).mono (by decide)⟩
 unfold K5
 generalize U5 l 8 = e at *
 generalize l.all okV = q at *
 simp only [l6]
 simp only [vts, ints] at *
 (repeat first | refine uA ?_ | (refine uK ?_ ?_; focus first | omega | (intros; simp_all <;> omega)) | simp (disch := omega) only [go_sem, Nat.reduceBEq, Nat.reduceAdd, ww] | (refine uD h1 ?_ ?_ ?_; exact tz hw; exact rfl))
 refine S.cond rfl (fun hc => ?_) (fun hc => ?_)
 ·rw [if_pos (by simpa using hc)]
  (repeat first | refine uA ?_ | (refine uK ?_ ?_; focus first | omega | (intros; simp_all <;> omega)) | simp (disch := omega) only [go_sem, Nat.reduceBEq, Nat.reduceAdd, ww])
  exact S.done (j3.out rfl (Imp.refl rfl) rfl)
 rw [if_neg (by simpa using hc)]
 (repeat first | refine uA ?_ | (refine uK ?_ ?_; focus first | omega | (intros; simp_all <;> omega)) | simp (disch := omega) only [go_sem, Nat.reduceBEq, Nat.reduceAdd, ww] | (refine uD h2 ?_ ?_ ?_; exact tz hw; exact rfl))
 refine S.cond rfl (fun hc => ?_) (fun hc => ?_)
 ·rw [if_neg (by simpa using hc)]
  (repeat first | refine uA ?_ | (refine uK ?_ ?_; focus first | omega | (intros; simp_all <;> omega)) | simp (disch := omega) only [go_sem, Nat.reduceBEq, Nat.reduceAdd, ww])
  exact S.done (j3.out rfl (Imp.refl rfl) rfl)
 ·rw [if_pos (by simpa using hc)]
  (repeat first | refine uA ?_ | (refine uK ?_ ?_; focus first | omega | (intros; simp_all <;> omega)) | simp (disch := omega) only [go_sem, Nat.reduceBEq, Nat.reduceAdd, ww])
  exact S.done (j3.out rfl (Imp.refl rfl) rfl)
end Go.Proofs.YtgmlehjgpgdjhaaGreatDoor
namespace Go.Proofs.YtgmlehjgpgdjhaaGreatDoor.Eng
open Go Go.RowKit
theorem j5.ofT {E : Ctx} {eff : Nat -> Bool} {f : Nat} {fn : Func} {ir : U3} (ht : Tz E) (hf : E.P.funcs[f]? = some fn) (hc : M9 eff E.P fn = some ir) {rs : List Res} {args : List C} {s : C} {rs' : List Res} {pk : List Nat} (hn : args.length <= ir.ntmps)
  (h : ∀ w own av ν, ν.length = rs.length -> Tz ⟨E.P, eff, ir.ntmps, w, own, av, ν, pk⟩ -> S ⟨E.P, eff, ir.ntmps, w, own, av, ν, pk⟩ (Fin E.P ir.results (b5W ⟨E.P, eff, ir.ntmps, w, own, av, ν, pk⟩ rs' s)) ⟨l6 0 args, rs⟩ [.code ir.body]) : j5 E rs f args s rs' pk := by
 intro av ν w vs hR hav hF hD
 have hR' : RG av (owned rs ν) w.heap.size ν rs w := ⟨hR.len, hR.res, hR.dis, fun b hb => ⟨(hR.low b hb).1, (hR.low b hb).2.1, .inl hb⟩, hR.av, c2V _⟩
 have ht' : Tz ⟨E.P, eff, ir.ntmps, w, owned rs ν, av, ν, pk⟩ := ⟨ht.at hF, fun ho => by
  rcases (hR.low _ ho).2.2 with h1 | h1
  ·exact ht.2 h1
  ·have := b9z ht.1; omega⟩
 refine (b3l (E := ⟨E.P, eff, ir.ntmps, w, owned rs ν, av, ν, pk⟩) hf hc rfl rfl hR.av rs hR' args hD hn (h w (owned rs ν) av ν hR.len ht')).mono ?_
 rintro e w' ⟨y, rfl, ν', h1, h2, h3, h4⟩
 refine ⟨y, ν', rfl, ⟨h1.len, h1.res, h1.dis, fun b hb => ?_, h1.av, c2Q hR.n0 h2.size⟩, ⟨h2.os, h2.tape, h2.output, h2.size, h2.block, fun b hb => (h1.low b hb).2.2, h3⟩, h4⟩
 obtain ⟨g1, g2, g3⟩ := h1.low b hb
 refine ⟨g1, g2, ?_⟩
 rcases g3 with g3 | g3
 ·exact (hR.low b g3).2.2
 ·exact .inr (c2Q hR.n0 g3)
def Res.shut : Res -> Bool
 | .gone => false
 | .box _ cs => C.clL cs
 | .row _ _ _ => true
 | .map _ _ => true
theorem a5d {ν ν' : List Value} {w : World} {O O' : Nat -> Prop} {x : Value} {r : Res} (hs : r.shut = true) (hO : ∀ b, O' b -> O b) (h : N8 ν w O x r) : N8 ν' w O' x r := by
 cases r with
 | gone => cases hs
 | box t cs =>
  obtain ⟨b, vs, h1, h2, h3, h4⟩ := h
  exact ⟨b, vs, h1, (FzL.keep (Keeps.sub hO) (h2.fz hs)).den ν', h3, h4⟩
 | row e sz es => exact a5c hO h
 | map s es => exact h
theorem c0R {r r' : Res} (hs : r.shut = true) {x : Value} {b : Nat} (h : fp r' x b) : fp r x b := by
 cases r <;> cases r' <;> first | exact False.elim h | exact h | (cases hs; done)
def at0 (k : Nat) : C -> C
 | .mp 0 => .mp k
 | .bp 0 o => .bp k o
 | .rv 0 => .rv k
 | .bnd f (.mp 0) => .bnd f (.mp k)
 | c => c
def okA : C -> Bool
 | .mp 0 => true
 | .bp 0 _ => true
 | .rv 0 => true
 | .bnd _ (.mp 0) => true
 | c => c.cl
theorem c0D {ν : List Value} {w : World} {O O' : Nat -> Prop} {k : Nat} {x : Value} (hk : ν[k]? = some x) (hO : ∀ b, O' b -> O b) {c : C} {y : Value} (hc : okA c = true) (h : Den ν w O (at0 k c) y) : Den [x] w O' c y := by
 unfold okA at hc
 split at hc
 ·simp only [at0, Den] at h ⊢
  rw [hk] at h
  exact h
 ·simp only [at0, Den] at h ⊢
  rw [hk] at h
  exact h
 ·simp only [at0, Den] at h ⊢
  rw [hk] at h
  exact h
 ·simp only [at0, Den] at h ⊢
  rw [hk] at h
  exact h
 ·rename_i c0 h1 h2 h3 h4
  have e : at0 k c = c := by
   cases c with
   | mp j => cases j with
    | zero => exact (h1 rfl).elim
    | succ j => rfl
   | bp j o => cases j with
    | zero => exact (h2 _ rfl).elim
    | succ j => rfl
   | rv j => cases j with
    | zero => exact (h3 rfl).elim
    | succ j => rfl
   | bnd g d => cases d with
    | mp j => cases j with
     | zero => exact (h4 _ rfl).elim
     | succ j => rfl
    | _ => rfl
   | _ => rfl
  rw [e] at h
  exact (Fz.keep (Keeps.sub hO) (h.fz hc)).den _
theorem b1X {ν : List Value} {w : World} {O O' : Nat -> Prop} {k : Nat} {x : Value} (hk : ν[k]? = some x) (hO : ∀ b, O' b -> O b) : ∀ {cs : List C} {vs : List Value}, cs.all okA = true -> j6 ν w O (cs.map (at0 k)) vs -> j6 [x] w O' cs vs
 | [], vs, _, h => by simpa only [c3v, j6] using h
 | c :: cs, vs, hc, h => by
  simp only [c3e, j6, List.all_cons, c2S] at h hc ⊢
  obtain ⟨y, ys, e, h1, h2⟩ := h
  exact ⟨y, ys, e, c0D hk hO hc.1 h1, b1X hk hO hc.2 h2⟩
theorem j5.lift {E : Ctx} {rs : List Res} {k f : Nat} {args : List C} {s : C} {r r' : Res} (hk : rs[k]? = some r) (h : j5 E [r] f args s [r'] []) (hs : (r.shut && r'.shut) = true) (ha : args.all okA = true) (hc : s.cl = true) : j5 E rs f (args.map (at0 k)) s (rs.set k r') [] := by
 rw [c2S] at hs
 intro av ν w vs hR hav hF hD
 obtain ⟨x, hx, hok⟩ := hR.res k r hk
 have hown : ∀ b, fp r x b -> owned rs ν b := fun b hb => ⟨k, r, x, hk, hx, hb⟩
 have ho1 : ∀ (q : Res) b, owned [q] [x] b <-> fp q x b := fun q b => by
  constructor
  ·rintro ⟨l, q', y, h1, h2, h3⟩
   cases l with
   | zero => simp at h1 h2; subst h1 h2; exact h3
   | succ l => simp at h1
  ·exact fun hb => ⟨0, q, x, rfl, rfl, hb⟩
 let av' : Nat -> Prop := fun b => OO av rs ν b /\ ¬ fp r x b
 have hOO : ∀ b, OO av' [r] [x] b -> OO av rs ν b := fun b hb => by
  rcases hb with hb | hb
  ·exact hb.1
  ·exact .inr (hown b ((ho1 r b).1 hb))
 have hRG : RG av' E.own0 E.w0.heap.size [x] [r] w := by
  refine ⟨rfl, fun l q hq => ?_, fun l m q q' y y' b hne h1 h2 => ?_, fun b hb => ?_, fun b hb => ?_, hR.n0⟩
  ·cases l with
   | zero => simp at hq; subst hq; exact ⟨x, rfl, a5d hs.1 hOO hok⟩
   | succ l => simp at hq
  ·have e1 : l = 0 := by have := (c2R.1 h1).1; simp at this; exact this
   have e2 : m = 0 := by have := (c2R.1 h2).1; simp at this; exact this
   omega
  ·have hb' := (ho1 r b).1 hb
   obtain ⟨g1, g2, g3⟩ := hR.low b (hown b hb')
   exact ⟨g1, fun h => h.2 hb', g3⟩
  ·rcases hb.1 with h1 | h1
   ·exact hR.av b h1
   ·exact (hR.low b h1).1
 have hav' : ∀ b, E.av b -> av' b := fun b hb => ⟨.inl (hav b hb), fun hf => (hR.low b (hown b hf)).2.1 (hav b hb)⟩
 have hD' : j6 [x] w (OO av' [r] [x]) args vs := b1X hx hOO ha hD
 refine (h av' [x] w vs hRG hav' hF hD').mono ?_
 rintro e w' ⟨y, ν', rfl, h1, h2, h3⟩
 have hν : ν' = [x] := by
  have hl := h1.len
  have h0 := h2.nu 0 x (fun hm => by cases hm) rfl
  match ν', hl, h0 with
  | [z], _, h0 => simp at h0; rw [h0]
 subst hν
 have hT : Turned w w' (fp r x) := ⟨h2.os, h2.tape, h2.output, h2.size, fun b hb hn => h2.block b hb fun ho => hn ((ho1 r b).1 ho)⟩
 have hOO' : ∀ b, OO av (rs.set k r') ν b -> OO av' [r'] [x] b := fun b hb => by
  rcases hb with hb | ⟨l, q, z, hq, hz, hf⟩
  ·exact .inl ⟨.inl hb, fun hf => (hR.low b (hown b hf)).2.1 hb⟩
  ·by_cases e : k = l
   ·subst e
    have hkl := (c2R.1 hk).1
    rw [List.getElem?_set_self hkl] at hq
    rw [hx] at hz
    cases hq
    cases hz
    exact .inr ((ho1 r' b).2 hf)
   ·rw [List.getElem?_set_ne e] at hq
    exact .inl ⟨.inr ⟨l, q, z, hq, hz, hf⟩, fun hf' => hR.dis k l r q x z b e hk hq hx hz hf' hf⟩
 have hup := hR.upd (r' := r') hk hx hT (fun b hb => c0R hs.1 hb) (fun _ => by
  obtain ⟨x', hx', hok'⟩ := h1.res 0 r' rfl
  simp at hx'
  subst hx'
  exact a5d hs.2 hOO' hok')
 exact ⟨y, ν, rfl, hup.1, hup.2, (Fz.keep (Keeps.sub hOO') (h3.fz hc)).den ν⟩
end Go.Proofs.YtgmlehjgpgdjhaaGreatDoor.Eng
namespace Go.Proofs.YtgmlehjgpgdjhaaGreatDoor
open Go Go.RowKit Eng
set_option maxRecDepth 10000
set_option maxHeartbeats 8000000
theorem c2u (n : Nms) (s : List UInt8) : (a0Z (.string (bs s)) (nmE n)).getD (.bool false) = .bool (n.contains s) := by
 rw [b9V]; cases n.contains s <;> rfl
theorem b1I {E : Ctx} (hP : E.P = Tryz.prog) (n : Nms) (s : List UInt8) (hs : s.length <= 1099511627776) :
  j5 E [.map true (nmE n)] 30 [.mp 0, sb s] (ints (K8 n s).1) [.map true (nmE (K8 n s).2)] [] := by
 obtain ⟨P, eff', N, w0, own0, av0, nu0, pk0⟩ := E
 simp only at hP
 subst hP
 refine j5.of (eff := eff) Tryz.func30 (by cbv) (by exact c3c rfl) fun w own av ν hν => ?_
 have hν0 : ν.length <= 1 := by rw [hν]; exact c2V _
 have h1 := b9M s hs
 have hk := c2u n s
 have hp := c0Z n s
 unfold K8
 generalize a1v s = q at *
 generalize n.contains s = c at *
 simp only [l6]
 simp only [sb, ints] at *
 (repeat first | refine uA ?_ | (refine uK ?_ ?_; focus first | omega | (intros; simp_all <;> omega)) | simp (disch := omega) only [go_sem, Nat.reduceBEq, Nat.reduceAdd, ww] | (refine uB h1 ?_ ?_; exact rfl))
 refine S.cond rfl (fun hc => ?_) (fun hc => ?_)
 ·rw [if_pos (by simpa using hc)]
  (repeat first | refine uA ?_ | (refine uK ?_ ?_; focus first | omega | (intros; simp_all <;> omega)) | simp (disch := omega) only [go_sem, Nat.reduceBEq, Nat.reduceAdd, ww])
  (refine S.done ?_; simp only [p9, p8, go_sem, Nat.reduceBEq, Nat.reduceAdd, Nat.reduceLeDiff, Int.reduceToNat, Int.reducePow]; (repeat (refine ⟨?_, ?_⟩; focus first | trivial | omega | simp)); exact j3.L8 (Imp.refl rfl) (by (repeat first | refine uA ?_ | (refine ⟨?_, ?_⟩; focus first | rfl | simp [slot]) | rfl | simp)) (c2Q hν0 (by simp)))
 rw [if_neg (by simpa using hc)]
 (repeat first | refine uA ?_ | (refine uK ?_ ?_; focus first | omega | (intros; simp_all <;> omega)) | simp (disch := omega) only [go_sem, Nat.reduceBEq, Nat.reduceAdd, ww, hk])
 refine S.cond rfl (fun hc => ?_) (fun hc => ?_)
 ·rw [if_pos hc]
  (repeat first | refine uA ?_ | (refine uK ?_ ?_; focus first | omega | (intros; simp_all <;> omega)) | simp (disch := omega) only [go_sem, Nat.reduceBEq, Nat.reduceAdd, ww])
  (refine S.done ?_; simp only [p9, p8, go_sem, Nat.reduceBEq, Nat.reduceAdd, Nat.reduceLeDiff, Int.reduceToNat, Int.reducePow]; (repeat (refine ⟨?_, ?_⟩; focus first | trivial | omega | simp)); exact j3.L8 (Imp.refl rfl) (by (repeat first | refine uA ?_ | (refine ⟨?_, ?_⟩; focus first | rfl | simp [slot]) | rfl | simp)) (c2Q hν0 (by simp)))
 ·rw [if_neg (by rw [hc]; decide)]
  have hp := hp hc
  (repeat first | refine uA ?_ | (refine uK ?_ ?_; focus first | omega | (intros; simp_all <;> omega)) | simp (disch := omega) only [go_sem, Nat.reduceBEq, Nat.reduceAdd, ww, hp])
  (refine S.done ?_; simp only [p9, p8, go_sem, Nat.reduceBEq, Nat.reduceAdd, Nat.reduceLeDiff, Int.reduceToNat, Int.reducePow]; (repeat (refine ⟨?_, ?_⟩; focus first | trivial | omega | simp)); exact j3.L8 (Imp.refl rfl) (by (repeat first | refine uA ?_ | (refine ⟨?_, ?_⟩; focus first | rfl | simp [slot]) | rfl | simp)) (c2Q hν0 (by simp)))
theorem c1S {E : Ctx} (hP : E.P = Tryz.prog) (ht0 : Tz E) (n : Nms) (p : Pt) (hb : Pb 1073741824 p) :
  j5 E [.map true (nmE n)] 35 [.mp 0, p.c] (ints (a0F n p).1) [.map true (nmE (a0F n p).2)] [] := by
 obtain ⟨P, eff', N, w0, own0, av0, nu0, pk0⟩ := E
 simp only at hP
 subst hP
 refine j5.ofT (eff := eff) ht0 Tryz.func35 (by cbv) (by exact c3c rfl) fun w own av ν hν ht => ?_
 have hν0 : ν.length <= 1 := by rw [hν]; exact c2V _
 obtain ⟨name, shape, ⟨x, y, half, t⟩⟩ := p
 obtain ⟨b0, b1, b2, b3, b4⟩ := hb
 simp only at b0 b1 b2 b3 b4
 have h1 := fun (E : Ctx) (hP : E.P = Tryz.prog) => b1I hP n name (by omega)
 have h2 := b1Q shape b1
 have h3 := b2k ⟨x, y, half, t⟩ ⟨b2.mono (by decide), b3.mono (by decide), b4.mono (by decide)⟩
 unfold a0F
 simp only
 generalize K8 n name = r at *
 obtain ⟨e1, m⟩ := r
 generalize K5 shape = e2 at *
 generalize okF ⟨x, y, half, t⟩ = q at *
 simp only [l6]
 simp only [Pt.c, Pt.enc, Fr.c, Fr.enc, vts, sb, ints] at *
 (repeat first | refine uA ?_ | (refine uK ?_ ?_; focus first | omega | (intros; simp_all <;> omega)) | simp (disch := omega) only [go_sem, Nat.reduceBEq, Nat.reduceAdd, ww] | refine l7.t (j5.lift (k := 0) rfl (h1 _ rfl) rfl rfl rfl) ?_)
 refine S.cond rfl (fun hc => ?_) (fun hc => ?_)
 ·rw [if_pos (by simpa using hc)]
  (repeat first | refine uA ?_ | (refine uK ?_ ?_; focus first | omega | (intros; simp_all <;> omega)) | simp (disch := omega) only [go_sem, Nat.reduceBEq, Nat.reduceAdd, ww])
  (refine S.done ?_; simp only [p9, p8, go_sem, Nat.reduceBEq, Nat.reduceAdd, Nat.reduceLeDiff, Int.reduceToNat, Int.reducePow]; (repeat (refine ⟨?_, ?_⟩; focus first | trivial | omega | simp)); exact j3.L8 (Imp.refl rfl) (by (repeat first | refine uA ?_ | (refine ⟨?_, ?_⟩; focus first | rfl | simp [slot]) | rfl | simp)) (c2Q hν0 (by simp)))
 rw [if_neg (by simpa using hc)]
 (repeat first | refine uA ?_ | (refine uK ?_ ?_; focus first | omega | (intros; simp_all <;> omega)) | simp (disch := omega) only [go_sem, Nat.reduceBEq, Nat.reduceAdd, ww] | (refine uD h2 ?_ ?_ ?_; exact ht; exact rfl))
 refine S.cond rfl (fun hc => ?_) (fun hc => ?_)
 ·rw [if_pos (by simpa using hc)]
  (repeat first | refine uA ?_ | (refine uK ?_ ?_; focus first | omega | (intros; simp_all <;> omega)) | simp (disch := omega) only [go_sem, Nat.reduceBEq, Nat.reduceAdd, ww])
  (refine S.done ?_; simp only [p9, p8, go_sem, Nat.reduceBEq, Nat.reduceAdd, Nat.reduceLeDiff, Int.reduceToNat, Int.reducePow]; (repeat (refine ⟨?_, ?_⟩; focus first | trivial | omega | simp)); exact j3.L8 (Imp.refl rfl) (by (repeat first | refine uA ?_ | (refine ⟨?_, ?_⟩; focus first | rfl | simp [slot]) | rfl | simp)) (c2Q hν0 (by simp)))
 rw [if_neg (by simpa using hc)]
 (repeat first | refine uA ?_ | (refine uK ?_ ?_; focus first | omega | (intros; simp_all <;> omega)) | simp (disch := omega) only [go_sem, Nat.reduceBEq, Nat.reduceAdd, ww] | (refine uD h3 ?_ ?_ ?_; exact ht; exact rfl))
 refine S.cond rfl (fun hc => ?_) (fun hc => ?_)
 ·rw [if_neg (by simpa using hc)]
  (repeat first | refine uA ?_ | (refine uK ?_ ?_; focus first | omega | (intros; simp_all <;> omega)) | simp (disch := omega) only [go_sem, Nat.reduceBEq, Nat.reduceAdd, ww])
  (refine S.done ?_; simp only [p9, p8, go_sem, Nat.reduceBEq, Nat.reduceAdd, Nat.reduceLeDiff, Int.reduceToNat, Int.reducePow]; (repeat (refine ⟨?_, ?_⟩; focus first | trivial | omega | simp)); exact j3.L8 (Imp.refl rfl) (by (repeat first | refine uA ?_ | (refine ⟨?_, ?_⟩; focus first | rfl | simp [slot]) | rfl | simp)) (c2Q hν0 (by simp)))
 ·rw [if_pos (by simpa using hc)]
  (repeat first | refine uA ?_ | (refine uK ?_ ?_; focus first | omega | (intros; simp_all <;> omega)) | simp (disch := omega) only [go_sem, Nat.reduceBEq, Nat.reduceAdd, ww])
  (refine S.done ?_; simp only [p9, p8, go_sem, Nat.reduceBEq, Nat.reduceAdd, Nat.reduceLeDiff, Int.reduceToNat, Int.reducePow]; (repeat (refine ⟨?_, ?_⟩; focus first | trivial | omega | simp)); exact j3.L8 (Imp.refl rfl) (by (repeat first | refine uA ?_ | (refine ⟨?_, ?_⟩; focus first | rfl | simp [slot]) | rfl | simp)) (c2Q hν0 (by simp)))
theorem c0U {E : Ctx} (hP : E.P = Tryz.prog) (ht0 : Tz E) (n : Nms) (s : Sl) (hb : Sb 1073741824 s) :
  j5 E [.map true (nmE n)] 37 [.mp 0, s.c] (ints (a0L n s).1) [.map true (nmE (a0L n s).2)] [] := by
 obtain ⟨P, eff', N, w0, own0, av0, nu0, pk0⟩ := E
 simp only at hP
 subst hP
 refine j5.ofT (eff := eff) ht0 Tryz.func37 (by cbv) (by exact c3c rfl) fun w own av ν hν ht => ?_
 have hν0 : ν.length <= 1 := by rw [hν]; exact c2V _
 obtain ⟨name, ⟨x, y, half, t⟩, within⟩ := s
 obtain ⟨b0, ⟨b2, b3, b4⟩, b5⟩ := hb
 simp only at b0 b2 b3 b4 b5
 have h1 := fun (E : Ctx) (hP : E.P = Tryz.prog) => b1I hP n name (by omega)
 have h3 := b2k ⟨x, y, half, t⟩ ⟨b2.mono (by decide), b3.mono (by decide), b4.mono (by decide)⟩
 have h4 := a1e within (b5.mono (by decide))
 have h5 := a3L within (b5.mono (by decide))
 have h6 := V8 within (b5.mono (by decide))
 unfold a0L
 simp only
 generalize K8 n name = r at *
 obtain ⟨e1, m⟩ := r
 generalize okF ⟨x, y, half, t⟩ = q1 at *
 generalize decide within.H8 = q2 at *
 generalize j4 within = q3 at *
 generalize y9 (Nm.d9 within) = n4 at *
 simp only [l6]
 simp only [Sl.c, Sl.enc, Fr.c, Fr.enc, vts, rc, sb, ints] at *
 (repeat first | refine uA ?_ | (refine uK ?_ ?_; focus first | omega | (intros; simp_all <;> omega)) | simp (disch := omega) only [go_sem, Nat.reduceBEq, Nat.reduceAdd, ww] | refine l7.t (j5.lift (k := 0) rfl (h1 _ rfl) rfl rfl rfl) ?_)
 refine S.cond rfl (fun hc => ?_) (fun hc => ?_)
 ·rw [if_pos (by simpa using hc)]
  (repeat first | refine uA ?_ | (refine uK ?_ ?_; focus first | omega | (intros; simp_all <;> omega)) | simp (disch := omega) only [go_sem, Nat.reduceBEq, Nat.reduceAdd, ww])
  (refine S.done ?_; simp only [p9, p8, go_sem, Nat.reduceBEq, Nat.reduceAdd, Nat.reduceLeDiff, Int.reduceToNat, Int.reducePow]; (repeat (refine ⟨?_, ?_⟩; focus first | trivial | omega | simp)); exact j3.L8 (Imp.refl rfl) (by (repeat first | refine uA ?_ | (refine ⟨?_, ?_⟩; focus first | rfl | simp [slot]) | rfl | simp)) (c2Q hν0 (by simp)))
 rw [if_neg (by simpa using hc)]
 (repeat first | refine uA ?_ | (refine uK ?_ ?_; focus first | omega | (intros; simp_all <;> omega)) | simp (disch := omega) only [go_sem, Nat.reduceBEq, Nat.reduceAdd, ww] | (refine uD h3 ?_ ?_ ?_; exact ht; exact rfl) | (refine uD h4 ?_ ?_ ?_; exact ht; exact rfl) | (refine uD h5 ?_ ?_ ?_; exact ht; exact rfl) | (refine uD h6 ?_ ?_ ?_; exact ht; exact rfl))
 refine S.cond rfl (fun hc => ?_) (fun hc => ?_)
 ·rw [if_neg (by simp only [c3C, Bool.not_eq_true', c2U] at hc; simp only [c2S, c2U]; rintro ⟨⟨⟨h7, h8⟩, h9⟩, h10⟩; rcases hc with ((hc | hc) | hc) | hc <;> first | (rw [hc] at h7; cases h7; done) | (rw [hc] at h8; cases h8; done) | (rw [hc] at h9; cases h9; done) | omega)]
  (repeat first | refine uA ?_ | (refine uK ?_ ?_; focus first | omega | (intros; simp_all <;> omega)) | simp (disch := omega) only [go_sem, Nat.reduceBEq, Nat.reduceAdd, ww])
  (refine S.done ?_; simp only [p9, p8, go_sem, Nat.reduceBEq, Nat.reduceAdd, Nat.reduceLeDiff, Int.reduceToNat, Int.reducePow]; (repeat (refine ⟨?_, ?_⟩; focus first | trivial | omega | simp)); exact j3.L8 (Imp.refl rfl) (by (repeat first | refine uA ?_ | (refine ⟨?_, ?_⟩; focus first | rfl | simp [slot]) | rfl | simp)) (c2Q hν0 (by simp)))
 ·rw [if_pos (by simp only [c3r, Bool.not_eq_false', c3b] at hc; simp only [c2S, c2U]; obtain ⟨⟨⟨h7, h8⟩, h9⟩, h10⟩ := hc; exact ⟨⟨⟨h7, h8⟩, h9⟩, by omega⟩)]
  (repeat first | refine uA ?_ | (refine uK ?_ ?_; focus first | omega | (intros; simp_all <;> omega)) | simp (disch := omega) only [go_sem, Nat.reduceBEq, Nat.reduceAdd, ww])
  (refine S.done ?_; simp only [p9, p8, go_sem, Nat.reduceBEq, Nat.reduceAdd, Nat.reduceLeDiff, Int.reduceToNat, Int.reducePow]; (repeat (refine ⟨?_, ?_⟩; focus first | trivial | omega | simp)); exact j3.L8 (Imp.refl rfl) (by (repeat first | refine uA ?_ | (refine ⟨?_, ?_⟩; focus first | rfl | simp [slot]) | rfl | simp)) (c2Q hν0 (by simp)))
theorem c1k {E : Ctx} (hP : E.P = Tryz.prog) (ht0 : Tz E) (n : Nms) (g : Gt) (hb : Gb 1073741824 g) :
  j5 E [.map true (nmE n)] 39 [.mp 0, g.c] (ints (a0N n g).1) [.map true (nmE (a0N n g).2)] [] := by
 obtain ⟨P, eff', N, w0, own0, av0, nu0, pk0⟩ := E
 simp only at hP
 subst hP
 refine j5.ofT (eff := eff) ht0 Tryz.func39 (by cbv) (by exact c3c rfl) fun w own av ν hν ht => ?_
 have hν0 : ν.length <= 1 := by rw [hν]; exact c2V _
 obtain ⟨name, ⟨lx, ly⟩, ⟨hx, hy⟩⟩ := g
 obtain ⟨b0, ⟨b1, b2⟩, ⟨b3, b4⟩⟩ := hb
 simp only at b0 b1 b2 b3 b4
 have h1 := fun (E : Ctx) (hP : E.P = Tryz.prog) => b1I hP n name (by omega)
 have h3 := a8n [⟨lx, ly⟩, ⟨hx, hy⟩] (Vbs.two (by decide) ⟨b1.mono (by decide), b2.mono (by decide)⟩ ⟨b3.mono (by decide), b4.mono (by decide)⟩)
 rw [a9K] at h3
 have h4 := X5 lx hx (b1.mono (by decide)) (b3.mono (by decide))
 have h5 := X5 ly hy (b2.mono (by decide)) (b4.mono (by decide))
 unfold a0N
 simp only
 generalize K8 n name = r at *
 obtain ⟨e1, m⟩ := r
 generalize (okV ⟨lx, ly⟩ && okV ⟨hx, hy⟩) = q1 at *
 generalize Nm.z8 (Nm.d9 lx) (Nm.d9 hx) = n1 at *
 generalize Nm.z8 (Nm.d9 ly) (Nm.d9 hy) = n2 at *
 simp only [l6]
 simp only [Gt.c, Gt.enc, vts, Vt.enc, rc, sb, ints, c3e, c3v] at *
 (repeat first | refine uA ?_ | (refine uK ?_ ?_; focus first | omega | (intros; simp_all <;> omega)) | simp (disch := omega) only [go_sem, Nat.reduceBEq, Nat.reduceAdd, ww] | refine l7.t (j5.lift (k := 0) rfl (h1 _ rfl) rfl rfl rfl) ?_)
 refine S.cond rfl (fun hc => ?_) (fun hc => ?_)
 ·rw [if_pos (by simpa using hc)]
  (repeat first | refine uA ?_ | (refine uK ?_ ?_; focus first | omega | (intros; simp_all <;> omega)) | simp (disch := omega) only [go_sem, Nat.reduceBEq, Nat.reduceAdd, ww])
  (refine S.done ?_; simp only [p9, p8, go_sem, Nat.reduceBEq, Nat.reduceAdd, Nat.reduceLeDiff, Int.reduceToNat, Int.reducePow]; (repeat (refine ⟨?_, ?_⟩; focus first | trivial | omega | simp)); exact j3.L8 (Imp.refl rfl) (by (repeat first | refine uA ?_ | (refine ⟨?_, ?_⟩; focus first | rfl | simp [slot]) | rfl | simp)) (c2Q hν0 (by simp)))
 rw [if_neg (by simpa using hc)]
 (repeat first | refine uA ?_ | (refine uK ?_ ?_; focus first | omega | (intros; simp_all <;> omega)) | simp (disch := omega) only [go_sem, Nat.reduceBEq, Nat.reduceAdd, ww] | (refine uD h4 ?_ ?_ ?_; exact ht; exact rfl) | (refine uD h5 ?_ ?_ ?_; exact ht; exact rfl) | (refine uE h3 ?_ ?_ ?_ ?_; exact ht; exact rfl; focus (repeat' first | exact l8.nil | exact Imp.refl rfl | exact Imp.frz rfl rfl rfl | (refine Imp.a0s rfl rfl ?_ ?_; (focus ((try simp only [c3a]); omega)); (focus first | rfl | assumption)) | refine l8.cons ?_ ?_); done))
 refine S.cond rfl (fun hc => ?_) (fun hc => ?_)
 ·rw [if_neg (by simp only [c3C, Bool.not_eq_true', c2U] at hc; simp only [c2S, c2U]; rintro ⟨⟨h7, h8⟩, h9⟩; rcases hc with (hc | hc) | hc <;> first | (rw [hc] at h7; cases h7; done) | omega)]
  (repeat first | refine uA ?_ | (refine uK ?_ ?_; focus first | omega | (intros; simp_all <;> omega)) | simp (disch := omega) only [go_sem, Nat.reduceBEq, Nat.reduceAdd, ww])
  (refine S.done ?_; simp only [p9, p8, go_sem, Nat.reduceBEq, Nat.reduceAdd, Nat.reduceLeDiff, Int.reduceToNat, Int.reducePow]; (repeat (refine ⟨?_, ?_⟩; focus first | trivial | omega | simp)); exact j3.L8 (Imp.refl rfl) (by (repeat first | refine uA ?_ | (refine ⟨?_, ?_⟩; focus first | rfl | simp [slot]) | rfl | simp)) (c2Q hν0 (by simp)))
 ·rw [if_pos (by simp only [c3r, Bool.not_eq_false', c3b] at hc; simp only [c2S, c2U]; obtain ⟨⟨h7, h8⟩, h9⟩ := hc; exact ⟨⟨h7, by omega⟩, by omega⟩)]
  (repeat first | refine uA ?_ | (refine uK ?_ ?_; focus first | omega | (intros; simp_all <;> omega)) | simp (disch := omega) only [go_sem, Nat.reduceBEq, Nat.reduceAdd, ww])
  (refine S.done ?_; simp only [p9, p8, go_sem, Nat.reduceBEq, Nat.reduceAdd, Nat.reduceLeDiff, Int.reduceToNat, Int.reducePow]; (repeat (refine ⟨?_, ?_⟩; focus first | trivial | omega | simp)); exact j3.L8 (Imp.refl rfl) (by (repeat first | refine uA ?_ | (refine ⟨?_, ?_⟩; focus first | rfl | simp [slot]) | rfl | simp)) (c2Q hν0 (by simp)))
theorem b5X {E : Ctx} (hP : E.P = Tryz.prog) (ht0 : Tz E) (n : Nms) (l : List Pt) (hn : l.length <= 1073741824) (hb : ∀ x ∈ l, Pb 1073741824 x) :
  j5 E [.map true (nmE n)] 34 [pts l, .bnd 35 (.mp 0)] (ints (u6 a0F n l).1) [.map true (nmE (u6 a0F n l).2)] [] := by
 obtain ⟨P, eff', N, w0, own0, av0, nu0, pk0⟩ := E
 simp only at hP
 subst hP
 refine j5.ofT (eff := eff) ht0 Tryz.func34 (by cbv) (by exact c3c rfl) fun w own av ν hν ht => ?_
 have hν0 : ν.length <= 1 := by rw [hν]; exact c2V _
 simp only [l6, pts, ints]
 (repeat first | refine uA ?_ | (refine uK ?_ ?_; focus first | omega | trivial | (intros; simp_all <;> omega)) | simp (disch := omega) only [go_sem, Nat.reduceBEq, Nat.reduceAdd, Nat.reduceLeDiff, Int.reduceToNat, Int.reducePow, ww, c2N])
 refine S.loop (X := Nat × Nms) (fun x => ⟨[(1, .bnd 35 (.mp 0)), (8, pts l), (9, ints l.length), (10, ints x.1)], [.map true (nmE x.2)]⟩) (fun x => x.1 <= l.length /\ u6 a0F n l = u6 a0F x.2 (l.drop x.1)) (fun x => l.length - x.1) (0, n) ⟨c2T _, rfl⟩ (by (repeat first | refine uA ?_ | (refine ⟨?_, ?_⟩; focus first | rfl | trivial | (simp [slot]; done)) | rfl | trivial | simp | exact c2Q hν0 (by simp))) ?_
 rintro ⟨i, m⟩ ⟨hi, hg⟩
 simp only [pts, ints] at hi hg ⊢
 (repeat first | refine uA ?_ | (refine uK ?_ ?_; focus first | omega | trivial | (intros; simp_all <;> omega)) | simp (disch := omega) only [go_sem, Nat.reduceBEq, Nat.reduceAdd, Nat.reduceLeDiff, Int.reduceToNat, Int.reducePow, ww])
 (refine uJ rfl (fun hc => ?_) fun hc => ?_)
 ·have hi' : i < l.length := by omega
  have hgi := c2M hi'
  generalize l[i] = x at hgi
  have hst := a2t (f := a0F) (s := m) hgi
  have hnx := a2o (f := a0F) (s := m) hgi
  have hs := fun (E : Ctx) (hP : E.P = Tryz.prog) (ht : Tz E) => c1S hP ht m x (hb x (c2P hgi))
  generalize a0F m x = r at *
  obtain ⟨e, m'⟩ := r
  simp only [Pt.c, Pt.enc, vts, sb, ints] at hs hst hnx
  (repeat first | refine uA ?_ | (refine uK ?_ ?_; focus first | omega | trivial | (intros; simp_all <;> omega)) | simp (disch := omega) only [go_sem, Nat.reduceBEq, Nat.reduceAdd, Nat.reduceLeDiff, Int.reduceToNat, Int.reducePow, ww, hgi, c2O, c2N, Pt.c, Pt.enc, vts, sb] | refine l7.t (j5.lift (k := 0) rfl (hs _ rfl ht) rfl rfl rfl) ?_)
  refine S.cond rfl (fun hc2 => ?_) (fun hc2 => ?_)
  ·rw [hg, hst (by simpa using hc2)]
   (repeat first | refine uA ?_ | (refine uK ?_ ?_; focus first | omega | trivial | (intros; simp_all <;> omega)) | simp (disch := omega) only [go_sem, Nat.reduceBEq, Nat.reduceAdd, Nat.reduceLeDiff, Int.reduceToNat, Int.reducePow, ww])
   (refine S.done ?_; simp only [p9, p8, go_sem, Nat.reduceBEq, Nat.reduceAdd, Nat.reduceLeDiff, Int.reduceToNat, Int.reducePow]; (repeat (refine ⟨?_, ?_⟩; focus first | trivial | omega | simp)); exact j3.L8 (Imp.refl rfl) (by (repeat first | refine uA ?_ | (refine ⟨?_, ?_⟩; focus first | rfl | trivial | (simp [slot]; done)) | rfl | trivial | simp)) (c2Q hν0 (by simp)))
  ·have hc3 : e = 0 := by simpa using hc2
   (repeat first | refine uA ?_ | (refine uK ?_ ?_; focus first | omega | trivial | (intros; simp_all <;> omega)) | simp (disch := omega) only [go_sem, Nat.reduceBEq, Nat.reduceAdd, Nat.reduceLeDiff, Int.reduceToNat, Int.reducePow, ww])
   refine S.next (x := (i, m)) (i + 1, m') ⟨by simp only; omega, by simp only; rw [hg, hnx hc3]⟩ (by simp only; omega) (by (repeat first | refine uA ?_ | (refine ⟨?_, ?_⟩; focus first | rfl | trivial | (simp [slot]; done)) | rfl | trivial | simp | exact c2Q hν0 (by simp)))
 ·rw [hg, a3c (by omega)]
  (repeat first | refine uA ?_ | (refine uK ?_ ?_; focus first | omega | trivial | (intros; simp_all <;> omega)) | simp (disch := omega) only [go_sem, Nat.reduceBEq, Nat.reduceAdd, Nat.reduceLeDiff, Int.reduceToNat, Int.reducePow, ww])
  (refine S.done ?_; simp only [p9, p8, go_sem, Nat.reduceBEq, Nat.reduceAdd, Nat.reduceLeDiff, Int.reduceToNat, Int.reducePow]; (repeat (refine ⟨?_, ?_⟩; focus first | trivial | omega | simp)); exact j3.L8 (Imp.refl rfl) (by (repeat first | refine uA ?_ | (refine ⟨?_, ?_⟩; focus first | rfl | trivial | (simp [slot]; done)) | rfl | trivial | simp)) (c2Q hν0 (by simp)))
theorem b5M {E : Ctx} (hP : E.P = Tryz.prog) (ht0 : Tz E) (n : Nms) (l : List Sl) (hn : l.length <= 1073741824) (hb : ∀ x ∈ l, Sb 1073741824 x) :
  j5 E [.map true (nmE n)] 36 [sls l, .bnd 37 (.mp 0)] (ints (u6 a0L n l).1) [.map true (nmE (u6 a0L n l).2)] [] := by
 obtain ⟨P, eff', N, w0, own0, av0, nu0, pk0⟩ := E
 simp only at hP
 subst hP
 refine j5.ofT (eff := eff) ht0 Tryz.func36 (by cbv) (by exact c3c rfl) fun w own av ν hν ht => ?_
 have hν0 : ν.length <= 1 := by rw [hν]; exact c2V _
 simp only [l6, sls, ints]
 (repeat first | refine uA ?_ | (refine uK ?_ ?_; focus first | omega | trivial | (intros; simp_all <;> omega)) | simp (disch := omega) only [go_sem, Nat.reduceBEq, Nat.reduceAdd, Nat.reduceLeDiff, Int.reduceToNat, Int.reducePow, ww, c2N])
 refine S.loop (X := Nat × Nms) (fun x => ⟨[(1, .bnd 37 (.mp 0)), (8, sls l), (9, ints l.length), (10, ints x.1)], [.map true (nmE x.2)]⟩) (fun x => x.1 <= l.length /\ u6 a0L n l = u6 a0L x.2 (l.drop x.1)) (fun x => l.length - x.1) (0, n) ⟨c2T _, rfl⟩ (by (repeat first | refine uA ?_ | (refine ⟨?_, ?_⟩; focus first | rfl | trivial | (simp [slot]; done)) | rfl | trivial | simp | exact c2Q hν0 (by simp))) ?_
 rintro ⟨i, m⟩ ⟨hi, hg⟩
 simp only [sls, ints] at hi hg ⊢
 (repeat first | refine uA ?_ | (refine uK ?_ ?_; focus first | omega | trivial | (intros; simp_all <;> omega)) | simp (disch := omega) only [go_sem, Nat.reduceBEq, Nat.reduceAdd, Nat.reduceLeDiff, Int.reduceToNat, Int.reducePow, ww])
 (refine uJ rfl (fun hc => ?_) fun hc => ?_)
 ·have hi' : i < l.length := by omega
  have hgi := c2M hi'
  generalize l[i] = x at hgi
  have hst := a2t (f := a0L) (s := m) hgi
  have hnx := a2o (f := a0L) (s := m) hgi
  have hs := fun (E : Ctx) (hP : E.P = Tryz.prog) (ht : Tz E) => c0U hP ht m x (hb x (c2P hgi))
  generalize a0L m x = r at *
  obtain ⟨e, m'⟩ := r
  simp only [Sl.c, Sl.enc, sb, ints] at hs hst hnx
  (repeat first | refine uA ?_ | (refine uK ?_ ?_; focus first | omega | trivial | (intros; simp_all <;> omega)) | simp (disch := omega) only [go_sem, Nat.reduceBEq, Nat.reduceAdd, Nat.reduceLeDiff, Int.reduceToNat, Int.reducePow, ww, hgi, c2O, c2N, Sl.c, Sl.enc, sb] | refine l7.t (j5.lift (k := 0) rfl (hs _ rfl ht) rfl rfl rfl) ?_)
  refine S.cond rfl (fun hc2 => ?_) (fun hc2 => ?_)
  ·rw [hg, hst (by simpa using hc2)]
   (repeat first | refine uA ?_ | (refine uK ?_ ?_; focus first | omega | trivial | (intros; simp_all <;> omega)) | simp (disch := omega) only [go_sem, Nat.reduceBEq, Nat.reduceAdd, Nat.reduceLeDiff, Int.reduceToNat, Int.reducePow, ww])
   (refine S.done ?_; simp only [p9, p8, go_sem, Nat.reduceBEq, Nat.reduceAdd, Nat.reduceLeDiff, Int.reduceToNat, Int.reducePow]; (repeat (refine ⟨?_, ?_⟩; focus first | trivial | omega | simp)); exact j3.L8 (Imp.refl rfl) (by (repeat first | refine uA ?_ | (refine ⟨?_, ?_⟩; focus first | rfl | trivial | (simp [slot]; done)) | rfl | trivial | simp)) (c2Q hν0 (by simp)))
  ·have hc3 : e = 0 := by simpa using hc2
   (repeat first | refine uA ?_ | (refine uK ?_ ?_; focus first | omega | trivial | (intros; simp_all <;> omega)) | simp (disch := omega) only [go_sem, Nat.reduceBEq, Nat.reduceAdd, Nat.reduceLeDiff, Int.reduceToNat, Int.reducePow, ww])
   refine S.next (x := (i, m)) (i + 1, m') ⟨by simp only; omega, by simp only; rw [hg, hnx hc3]⟩ (by simp only; omega) (by (repeat first | refine uA ?_ | (refine ⟨?_, ?_⟩; focus first | rfl | trivial | (simp [slot]; done)) | rfl | trivial | simp | exact c2Q hν0 (by simp)))
 ·rw [hg, a3c (by omega)]
  (repeat first | refine uA ?_ | (refine uK ?_ ?_; focus first | omega | trivial | (intros; simp_all <;> omega)) | simp (disch := omega) only [go_sem, Nat.reduceBEq, Nat.reduceAdd, Nat.reduceLeDiff, Int.reduceToNat, Int.reducePow, ww])
  (refine S.done ?_; simp only [p9, p8, go_sem, Nat.reduceBEq, Nat.reduceAdd, Nat.reduceLeDiff, Int.reduceToNat, Int.reducePow]; (repeat (refine ⟨?_, ?_⟩; focus first | trivial | omega | simp)); exact j3.L8 (Imp.refl rfl) (by (repeat first | refine uA ?_ | (refine ⟨?_, ?_⟩; focus first | rfl | trivial | (simp [slot]; done)) | rfl | trivial | simp)) (c2Q hν0 (by simp)))
theorem b4Z {E : Ctx} (hP : E.P = Tryz.prog) (ht0 : Tz E) (n : Nms) (l : List Gt) (hn : l.length <= 1073741824) (hb : ∀ x ∈ l, Gb 1073741824 x) :
  j5 E [.map true (nmE n)] 38 [gts l, .bnd 39 (.mp 0)] (ints (u6 a0N n l).1) [.map true (nmE (u6 a0N n l).2)] [] := by
 obtain ⟨P, eff', N, w0, own0, av0, nu0, pk0⟩ := E
 simp only at hP
 subst hP
 refine j5.ofT (eff := eff) ht0 Tryz.func38 (by cbv) (by exact c3c rfl) fun w own av ν hν ht => ?_
 have hν0 : ν.length <= 1 := by rw [hν]; exact c2V _
 simp only [l6, gts, ints]
 (repeat first | refine uA ?_ | (refine uK ?_ ?_; focus first | omega | trivial | (intros; simp_all <;> omega)) | simp (disch := omega) only [go_sem, Nat.reduceBEq, Nat.reduceAdd, Nat.reduceLeDiff, Int.reduceToNat, Int.reducePow, ww, c2N])
 refine S.loop (X := Nat × Nms) (fun x => ⟨[(1, .bnd 39 (.mp 0)), (8, gts l), (9, ints l.length), (10, ints x.1)], [.map true (nmE x.2)]⟩) (fun x => x.1 <= l.length /\ u6 a0N n l = u6 a0N x.2 (l.drop x.1)) (fun x => l.length - x.1) (0, n) ⟨c2T _, rfl⟩ (by (repeat first | refine uA ?_ | (refine ⟨?_, ?_⟩; focus first | rfl | trivial | (simp [slot]; done)) | rfl | trivial | simp | exact c2Q hν0 (by simp))) ?_
 rintro ⟨i, m⟩ ⟨hi, hg⟩
 simp only [gts, ints] at hi hg ⊢
 (repeat first | refine uA ?_ | (refine uK ?_ ?_; focus first | omega | trivial | (intros; simp_all <;> omega)) | simp (disch := omega) only [go_sem, Nat.reduceBEq, Nat.reduceAdd, Nat.reduceLeDiff, Int.reduceToNat, Int.reducePow, ww])
 (refine uJ rfl (fun hc => ?_) fun hc => ?_)
 ·have hi' : i < l.length := by omega
  have hgi := c2M hi'
  generalize l[i] = x at hgi
  have hst := a2t (f := a0N) (s := m) hgi
  have hnx := a2o (f := a0N) (s := m) hgi
  have hs := fun (E : Ctx) (hP : E.P = Tryz.prog) (ht : Tz E) => c1k hP ht m x (hb x (c2P hgi))
  generalize a0N m x = r at *
  obtain ⟨e, m'⟩ := r
  simp only [Gt.c, Gt.enc, sb, ints] at hs hst hnx
  (repeat first | refine uA ?_ | (refine uK ?_ ?_; focus first | omega | trivial | (intros; simp_all <;> omega)) | simp (disch := omega) only [go_sem, Nat.reduceBEq, Nat.reduceAdd, Nat.reduceLeDiff, Int.reduceToNat, Int.reducePow, ww, hgi, c2O, c2N, Gt.c, Gt.enc, sb] | refine l7.t (j5.lift (k := 0) rfl (hs _ rfl ht) rfl rfl rfl) ?_)
  refine S.cond rfl (fun hc2 => ?_) (fun hc2 => ?_)
  ·rw [hg, hst (by simpa using hc2)]
   (repeat first | refine uA ?_ | (refine uK ?_ ?_; focus first | omega | trivial | (intros; simp_all <;> omega)) | simp (disch := omega) only [go_sem, Nat.reduceBEq, Nat.reduceAdd, Nat.reduceLeDiff, Int.reduceToNat, Int.reducePow, ww])
   (refine S.done ?_; simp only [p9, p8, go_sem, Nat.reduceBEq, Nat.reduceAdd, Nat.reduceLeDiff, Int.reduceToNat, Int.reducePow]; (repeat (refine ⟨?_, ?_⟩; focus first | trivial | omega | simp)); exact j3.L8 (Imp.refl rfl) (by (repeat first | refine uA ?_ | (refine ⟨?_, ?_⟩; focus first | rfl | trivial | (simp [slot]; done)) | rfl | trivial | simp)) (c2Q hν0 (by simp)))
  ·have hc3 : e = 0 := by simpa using hc2
   (repeat first | refine uA ?_ | (refine uK ?_ ?_; focus first | omega | trivial | (intros; simp_all <;> omega)) | simp (disch := omega) only [go_sem, Nat.reduceBEq, Nat.reduceAdd, Nat.reduceLeDiff, Int.reduceToNat, Int.reducePow, ww])
   refine S.next (x := (i, m)) (i + 1, m') ⟨by simp only; omega, by simp only; rw [hg, hnx hc3]⟩ (by simp only; omega) (by (repeat first | refine uA ?_ | (refine ⟨?_, ?_⟩; focus first | rfl | trivial | (simp [slot]; done)) | rfl | trivial | simp | exact c2Q hν0 (by simp)))
 ·rw [hg, a3c (by omega)]
  (repeat first | refine uA ?_ | (refine uK ?_ ?_; focus first | omega | trivial | (intros; simp_all <;> omega)) | simp (disch := omega) only [go_sem, Nat.reduceBEq, Nat.reduceAdd, Nat.reduceLeDiff, Int.reduceToNat, Int.reducePow, ww])
  (refine S.done ?_; simp only [p9, p8, go_sem, Nat.reduceBEq, Nat.reduceAdd, Nat.reduceLeDiff, Int.reduceToNat, Int.reducePow]; (repeat (refine ⟨?_, ?_⟩; focus first | trivial | omega | simp)); exact j3.L8 (Imp.refl rfl) (by (repeat first | refine uA ?_ | (refine ⟨?_, ?_⟩; focus first | rfl | trivial | (simp [slot]; done)) | rfl | trivial | simp)) (c2Q hν0 (by simp)))
theorem b5I (l : List (List Vt)) (hn : l.length <= 1073741824) (hb : ∀ x ∈ l, Vbs 1073741824 x) : FZ 32 [wls l, .v (.func (.func 33) #[] #[])] (ints (H7 K5 l)) := by
 refine kW Tryz.func32 (by cbv) (by rfl) fun w O hw => ?_
 have hcal : callable Tryz.prog 33 = true := by kernel_rfl
 simp only [l6, wls, ints]
 (repeat first | refine uA ?_ | (refine uK ?_ ?_; focus first | omega | trivial | (intros; simp_all <;> omega)) | simp (disch := omega) only [go_sem, Nat.reduceBEq, Nat.reduceAdd, Nat.reduceLeDiff, Int.reduceToNat, Int.reducePow, ww, c2N])
 refine S.loop (X := Nat) (fun i => ⟨[(1, .v (.func (.func 33) #[] #[])), (8, wls l), (9, ints l.length), (10, ints i)], []⟩) (fun i => i <= l.length /\ H7 K5 l = H7 K5 (l.drop i)) (fun i => l.length - i) 0 ⟨c2T _, rfl⟩ (by (repeat first | refine uA ?_ | (refine ⟨?_, ?_⟩; focus first | rfl | trivial | (simp [slot]; done)) | rfl | trivial | simp)) ?_
 rintro i ⟨hi, hg⟩
 simp only [wls, ints] at hi hg ⊢
 (repeat first | refine uA ?_ | (refine uK ?_ ?_; focus first | omega | trivial | (intros; simp_all <;> omega)) | simp (disch := omega) only [go_sem, Nat.reduceBEq, Nat.reduceAdd, Nat.reduceLeDiff, Int.reduceToNat, Int.reducePow, ww])
 (refine uJ rfl (fun hc => ?_) fun hc => ?_)
 ·have hi' : i < l.length := by omega
  have hgi := c2M hi'
  generalize l[i] = x at hgi
  have hst := a1K (f := K5) hgi
  have hnx := a1I (f := K5) hgi
  have hs := b1Q x (hb x (c2P hgi))
  generalize K5 x = e at *
  simp only [ints] at hs
  (repeat first | refine uA ?_ | (refine uK ?_ ?_; focus first | omega | trivial | (intros; simp_all <;> omega)) | simp (disch := omega) only [go_sem, Nat.reduceBEq, Nat.reduceAdd, Nat.reduceLeDiff, Int.reduceToNat, Int.reducePow, ww, hgi, c2O, c2N, hcal] | (refine uD hs ?_ ?_ ?_; exact tz hw; exact rfl))
  refine S.cond rfl (fun hc2 => ?_) (fun hc2 => ?_)
  ·rw [hg, hst (by simpa using hc2)]
   (repeat first | refine uA ?_ | (refine uK ?_ ?_; focus first | omega | trivial | (intros; simp_all <;> omega)) | simp (disch := omega) only [go_sem, Nat.reduceBEq, Nat.reduceAdd, Nat.reduceLeDiff, Int.reduceToNat, Int.reducePow, ww])
   exact S.done (j3.out rfl (Imp.refl rfl) rfl)
  ·have hc3 : e = 0 := by simpa using hc2
   (repeat first | refine uA ?_ | (refine uK ?_ ?_; focus first | omega | trivial | (intros; simp_all <;> omega)) | simp (disch := omega) only [go_sem, Nat.reduceBEq, Nat.reduceAdd, Nat.reduceLeDiff, Int.reduceToNat, Int.reducePow, ww])
   refine S.next (i + 1) ⟨by omega, by rw [hg, hnx hc3]⟩ (by omega) (by (repeat first | refine uA ?_ | (refine ⟨?_, ?_⟩; focus first | rfl | trivial | (simp [slot]; done)) | rfl | trivial | simp))
 ·rw [hg, a2s (by omega)]
  (repeat first | refine uA ?_ | (refine uK ?_ ?_; focus first | omega | trivial | (intros; simp_all <;> omega)) | simp (disch := omega) only [go_sem, Nat.reduceBEq, Nat.reduceAdd, Nat.reduceLeDiff, Int.reduceToNat, Int.reducePow, ww])
  exact S.done (j3.out rfl (Imp.refl rfl) rfl)
end Go.Proofs.YtgmlehjgpgdjhaaGreatDoor
namespace Go.Proofs.YtgmlehjgpgdjhaaGreatDoor.Eng
open Go Go.RowKit
def Res.bdr (n : Nat) : Res -> Bool
 | .box _ cs => C.bdL n cs
 | _ => true
theorem c1j {ν : List Value} {w : World} {O O' : Nat -> Prop} {x : Value} {r : Res} {n : Nat} (hs : r.bdr n = true) (hO : ∀ b, O' b -> O b) (h : N8 ν w O x r) : N8 (ν.take n) w O' x r := by
 cases r with
 | gone => exact h
 | box t cs =>
  obtain ⟨b, vs, h1, h2, h3, h4⟩ := h
  exact ⟨b, vs, h1, j6.keep (Keeps.sub hO) (j6.takeν n hs h2), h3, h4⟩
 | row e sz es => exact a5c hO h
 | map s es => exact h
theorem c2l {ν ν' : List Value} {w : World} {O O' : Nat -> Prop} {x : Value} {r : Res} (hn : X9 [] ν ν') (hO : ∀ b, O' b -> O b) (h : N8 ν w O x r) : N8 ν' w O' x r := by
 cases r with
 | gone => exact h
 | box t cs =>
  obtain ⟨b, vs, h1, h2, h3, h4⟩ := h
  exact ⟨b, vs, h1, j6.keep (Keeps.sub hO) (j6.nu hn (fun k hk => by cases hk) h2), h3, h4⟩
 | row e sz es => exact a5c hO h
 | map s es => exact h
theorem X9.take (ν : List Value) (n : Nat) : X9 [] (ν.take n) ν := fun _ _ _ h => a0J h
theorem c2y {ν ν' : List Value} (h : X9 [] ν ν') (hl : ν'.length = ν.length) : ν' = ν := by
 apply List.ext_getElem?
 intro i
 rcases c3n i ν.length with h1 | h1
 ·have := h i _ (fun hk => by cases hk) (c2M h1)
  rw [this, c2M h1]
 ·rw [c3q h1, c3q (by omega)]
theorem a6H {rs ext : List Res} {ν : List Value} (hl : ν.length = (rs ++ ext).length) (b : Nat) : owned (rs ++ ext) ν b <-> owned rs (ν.take rs.length) b \/ ∃ k r x, ext[k]? = some r /\ ν[rs.length + k]? = some x /\ fp r x b := by
 constructor
 ·rintro ⟨k, r, x, h1, h2, h3⟩
  rcases c3n k rs.length with h | h
  ·rw [c3d h] at h1
   exact .inl ⟨k, r, x, h1, O1 h h2, h3⟩
  ·rw [c3h h] at h1
   exact .inr ⟨k - rs.length, r, x, h1, by rw [show rs.length + (k - rs.length) = k by omega]; exact h2, h3⟩
 ·rintro (⟨k, r, x, h1, h2, h3⟩ | ⟨k, r, x, h1, h2, h3⟩)
  ·have h := (c2R.1 h1).1
   exact ⟨k, r, x, by rw [c3d h]; exact h1, a0J h2, h3⟩
  ·exact ⟨rs.length + k, r, x, by rw [c3h (by omega), show rs.length + k - rs.length = k by omega]; exact h1, h2, h3⟩
theorem j5.ext {E : Ctx} {rs rs' : List Res} (ex : List Res) {f : Nat} {args : List C} {s : C} (h : j5 E rs f args s rs' []) (hl : rs'.length = rs.length) (hb : rs.all (Res.bdr rs.length) = true) (ha : C.bdL rs.length args = true) : j5 E (rs ++ ex) f args s (rs' ++ ex) [] := by
  intro av ν w vs hR hav hF hD
  have hlen := hR.len
  have hl1 : (ν.take rs.length).length = rs.length := by rw [c2W, hlen, c3a]; omega
  generalize hν1 : ν.take rs.length = ν1 at hl1
  have hown := fun b => a6H hlen b
  rw [hν1] at hown
  have hx : ∀ b k r x, ex[k]? = some r -> ν[rs.length + k]? = some x -> fp r x b -> ¬ owned rs ν1 b := by
    rintro b k r x h1 h2 h3 ⟨l, q, y, g1, g2, g3⟩
    have hlt := (c2R.1 g1).1
    rw [<- hν1] at g2
    exact hR.dis l (rs.length + k) q r y x b (by omega) (by rw [c3d hlt]; exact g1) (by rw [c3h (by omega), show rs.length + k - rs.length = k by omega]; exact h1) (a0J g2) h2 g3 h3
  let av' : Nat -> Prop := fun b => OO av (rs ++ ex) ν b /\ ¬ owned rs ν1 b
  have hOO : ∀ b, OO av' rs ν1 b -> OO av (rs ++ ex) ν b := fun b hb => by
    rcases hb with hb | hb
    · exact hb.1
    · exact .inr ((hown b).2 (.inl hb))
  have hRG : RG av' E.own0 E.w0.heap.size ν1 rs w := by
    refine ⟨hl1, fun k r hk => ?_, fun l m q q' y y' b hne h1 h2 h3 h4 => ?_, fun b hb => ?_, fun b hb => ?_, hR.n0⟩
    · have hlt := (c2R.1 hk).1
      obtain ⟨x, hx, hok⟩ := hR.res k r (by rw [c3d hlt]; exact hk)
      refine ⟨x, by rw [<- hν1]; exact O1 hlt hx, ?_⟩
      rw [<- hν1]
      rw [List.all_eq_true] at hb
      exact c1j (hb r (c2P hk)) (by rw [hν1]; exact hOO) hok
    · have g1 := (c2R.1 h1).1
      have g2 := (c2R.1 h2).1
      rw [<- hν1] at h3 h4
      exact hR.dis l m q q' y y' b hne (by rw [c3d g1]; exact h1) (by rw [c3d g2]; exact h2) (a0J h3) (a0J h4)
    · obtain ⟨g1, g2, g3⟩ := hR.low b ((hown b).2 (.inl hb))
      exact ⟨g1, fun h => h.2 hb, g3⟩
    · rcases hb.1 with h1 | h1
      · exact hR.av b h1
      · exact (hR.low b h1).1
  have hnav : ∀ b, av b -> ¬ owned rs ν1 b := fun b hb ho => (hR.low b ((hown b).2 (.inl ho))).2.1 hb
  have hD' : j6 ν1 w (OO av' rs ν1) args vs := by
    have := j6.keep (Keeps.sub hOO) (j6.takeν rs.length ha hD)
    rwa [hν1] at this
  refine (h av' ν1 w vs hRG (fun b hb => ⟨.inl (hav b hb), hnav b (hav b hb)⟩) hF hD').mono ?_
  rintro e w' ⟨y, ν', rfl, h1, h2, h3⟩
  have hν' : ν' = ν1 := c2y h2.nu (by rw [h1.len, hl, hl1])
  subst hν'
  have hlen' : ν.length = (rs' ++ ex).length := by rw [hlen, c3a, c3a, hl]
  have hν1' : ν.take rs'.length = ν' := by rw [hl]; exact hν1
  have hown' := fun b => a6H hlen' b
  rw [hν1', hl] at hown'
  have hnu : X9 [] ν' ν := by rw [<- hν1]; exact X9.take ν _
  have hxo : ∀ b k r x, ex[k]? = some r -> ν[rs.length + k]? = some x -> fp r x b -> owned (rs ++ ex) ν b := fun b k r x g1 g2 g3 => (hown b).2 (.inr ⟨k, r, x, g1, g2, g3⟩)
  have hOO' : ∀ b, OO av (rs' ++ ex) ν b -> OO av' rs' ν' b := fun b hb => by
    rcases hb with hb | hb
    · exact .inl ⟨.inl hb, hnav b hb⟩
    · rcases (hown' b).1 hb with hb | ⟨k, r, x, g1, g2, g3⟩
      · exact .inr hb
      · exact .inl ⟨.inr (hxo b k r x g1 g2 g3), hx b k r x g1 g2 g3⟩
  have hM : Mv (rs ++ ex) ν w [] (rs' ++ ex) ν w' := by
    refine ⟨h2.os, h2.tape, h2.output, h2.size, fun b hb hn => h2.block b hb fun ho => hn ((hown b).2 (.inl ho)), fun b hb => ?_, fun _ _ _ h => h⟩
    rcases (hown' b).1 hb with hb | ⟨k, r, x, g1, g2, g3⟩
    · rcases h2.own b hb with g | g
      · exact .inl ((hown b).2 (.inl g))
      · exact .inr g
    · exact .inl (hxo b k r x g1 g2 g3)
  refine ⟨y, ν, rfl, ⟨hlen', fun k r hk => ?_, fun l m q q' z z' b hne g1 g2 g3 g4 g5 => ?_, fun b hb => ?_, fun b hb => c3l (hR.av b hb) h2.size, c2Q hR.n0 h2.size⟩, hM, Den.keep (Keeps.sub hOO') (Den.nu hnu (fun k hk => by cases hk) h3)⟩
  · rcases c3n k rs'.length with hlt | hge
    · rw [c3d hlt] at hk
      obtain ⟨x, hx', hok⟩ := h1.res k r hk
      exact ⟨x, hnu k x (fun hk => by cases hk) hx', c2l hnu hOO' hok⟩
    · have hk' : (rs ++ ex)[k]? = some r := by
        rw [c3h hge] at hk
        rw [c3h (by omega), <- hl]; exact hk
      obtain ⟨x, hx', hok⟩ := hR.res k r hk'
      refine ⟨x, hx', ?_⟩
      have := hok.mv (O' := OO av (rs' ++ ex) ν) (hM.keeps (av := av)) hM.nu (fun b hf => h2.block b (hR.lt hk' hx' hf) (by
        rw [c3h hge] at hk
        exact hx b (k - rs'.length) r x hk (by rw [show rs.length + (k - rs'.length) = k by omega]; exact hx') hf))
      rwa [a2i] at this
  · rcases c3n l rs'.length with hl1' | hl1' <;> rcases c3n m rs'.length with hm1 | hm1
    · rw [c3d hl1'] at g1
      rw [c3d hm1] at g2
      have e1 : ν'[l]? = some z := by rw [<- hν1']; exact O1 hl1' g3
      have e2 : ν'[m]? = some z' := by rw [<- hν1']; exact O1 hm1 g4
      exact h1.dis l m q q' z z' b hne g1 g2 e1 e2 g5
    · rw [c3d hl1'] at g1
      rw [c3h hm1] at g2
      have e1 : ν'[l]? = some z := by rw [<- hν1']; exact O1 hl1' g3
      have g4' : ν[rs.length + (m - rs'.length)]? = some z' := by rw [show rs.length + (m - rs'.length) = m by omega]; exact g4
      intro hf
      rcases h2.own b ⟨l, q, z, g1, e1, g5⟩ with ho | ho
      · exact hx b _ q' z' g2 g4' hf ho
      · have := (hR.low b (hxo b _ q' z' g2 g4' hf)).1; omega
    · rw [c3h hl1'] at g1
      rw [c3d hm1] at g2
      have e2 : ν'[m]? = some z' := by rw [<- hν1']; exact O1 hm1 g4
      have g3' : ν[rs.length + (l - rs'.length)]? = some z := by rw [show rs.length + (l - rs'.length) = l by omega]; exact g3
      intro hf
      rcases h2.own b ⟨m, q', z', g2, e2, hf⟩ with ho | ho
      · exact hx b _ q z g1 g3' g5 ho
      · have := (hR.low b (hxo b _ q z g1 g3' g5)).1; omega
    · rw [c3h hl1'] at g1
      rw [c3h hm1] at g2
      exact hR.dis l m q q' z z' b hne (by rw [c3h (by omega), <- hl]; exact g1) (by rw [c3h (by omega), <- hl]; exact g2) g3 g4 g5
  · rcases (hown' b).1 hb with hb | ⟨k, r, x, g1, g2, g3⟩
    · obtain ⟨a1, a2, a3⟩ := h1.low b hb
      exact ⟨a1, fun ha => a2 ⟨.inl ha, hnav b ha⟩, a3⟩
    · obtain ⟨a1, a2, a3⟩ := hR.low b (hxo b k r x g1 g2 g3)
      exact ⟨c3l a1 h2.size, a2, a3⟩
end Go.Proofs.YtgmlehjgpgdjhaaGreatDoor.Eng
namespace Go.Proofs.YtgmlehjgpgdjhaaGreatDoor
open Go Go.RowKit Eng
set_option maxRecDepth 10000
set_option maxHeartbeats 8000000
def rsW (w : Wk) (n : Nms) : List Res := [.box 31 w.enc, .map true (nmE n), .box 94 [.mp 1]]
theorem b8n {E : Ctx} (hP : E.P = Tryz.prog) (ht0 : Tz E) (w : Wk) (n : Nms) (a : Am) (hb : Ab 1073741824 a) :
  j5 E (rsW w n) 28 [a.c, .bp 2 0] (ints (a1U n a).1) (rsW w (a1U n a).2) [] := by
 obtain ⟨P, eff', N, w0, own0, av0, nu0, pk0⟩ := E
 simp only at hP
 subst hP
 refine j5.ofT (eff := eff) ht0 Tryz.func28 (by cbv) (by exact c3c rfl) fun w' own av ν hν ht => ?_
 have hν0 : ν.length <= 3 := by rw [hν]; exact c2V _
 have b0 := hb.1
 have h2 := a8D a hb
 have h1 := fun (E : Ctx) (hP : E.P = Tryz.prog) => b1I hP n a.name (by omega)
 unfold a1U
 generalize K8 n a.name = r at *
 obtain ⟨e1, m⟩ := r
 generalize G8 a = e2 at *
 obtain ⟨name, ⟨x, y, half, t⟩, links⟩ := a
 obtain ⟨arms, walls, parts, slots, gates, walk⟩ := w
 simp only [l6]
 simp only [Am.c, Am.enc, lks, sb, ints, rsW, Wk.enc, ams, wls, pts, sls, gts] at *
 (repeat first | refine uA ?_ | (refine uK ?_ ?_; focus first | omega | (intros; simp_all <;> omega)) | simp (disch := omega) only [go_sem, Nat.reduceBEq, Nat.reduceAdd, ww] | (refine uD h2 ?_ ?_ ?_; exact ht; exact rfl))
 refine S.cond rfl (fun hc => ?_) (fun hc => ?_)
 ·rw [if_pos (by simpa using hc)]
  (repeat first | refine uA ?_ | (refine uK ?_ ?_; focus first | omega | (intros; simp_all <;> omega)) | simp (disch := omega) only [go_sem, Nat.reduceBEq, Nat.reduceAdd, ww])
  (refine S.done ?_; simp only [p9, p8, go_sem, Nat.reduceBEq, Nat.reduceAdd, Nat.reduceLeDiff, Int.reduceToNat, Int.reducePow]; (repeat (refine ⟨?_, ?_⟩; focus first | trivial | omega | simp)); exact j3.L8 (Imp.refl rfl) (by (repeat first | refine uA ?_ | (refine ⟨?_, ?_⟩; focus first | rfl | simp [slot]) | rfl | simp)) (c2Q hν0 (by simp)))
 rw [if_neg (by simpa using hc)]
 (repeat first | refine uA ?_ | (refine uK ?_ ?_; focus first | omega | (intros; simp_all <;> omega)) | simp (disch := omega) only [go_sem, Nat.reduceBEq, Nat.reduceAdd, ww] | refine l7.t (j5.lift (k := 1) rfl (h1 _ rfl) rfl rfl rfl) ?_)
 (refine S.done ?_; simp only [p9, p8, go_sem, Nat.reduceBEq, Nat.reduceAdd, Nat.reduceLeDiff, Int.reduceToNat, Int.reducePow]; (repeat (refine ⟨?_, ?_⟩; focus first | trivial | omega | simp)); exact j3.L8 (Imp.refl rfl) (by (repeat first | refine uA ?_ | (refine ⟨?_, ?_⟩; focus first | rfl | simp [slot]) | rfl | simp)) (c2Q hν0 (by simp)))
theorem b7h {E : Ctx} (hP : E.P = Tryz.prog) (ht0 : Tz E) (w : Wk) (n : Nms) (l : List Am) (hn : l.length <= 1073741824) (hb : ∀ x ∈ l, Ab 1073741824 x) :
  j5 E (rsW w n) 31 [ams l, .clo 28 [.bp 2 0]] (ints (u6 a1U n l).1) (rsW w (u6 a1U n l).2) [] := by
 obtain ⟨P, eff', N, w0, own0, av0, nu0, pk0⟩ := E
 simp only at hP
 subst hP
 refine j5.ofT (eff := eff) ht0 Tryz.func31 (by cbv) (by exact c3c rfl) fun w' own av ν hν ht => ?_
 have hν0 : ν.length <= 3 := by rw [hν]; exact c2V _
 have hcal : callable Tryz.prog 28 = true := by kernel_rfl
 simp only [l6, ams, ints]
 simp only [rsW, Wk.enc, ams, wls, pts, sls, gts]
 (repeat first | refine uA ?_ | (refine uK ?_ ?_; focus first | omega | (intros; simp_all <;> omega)) | simp (disch := omega) only [go_sem, Nat.reduceBEq, Nat.reduceAdd, ww, c2N])
 refine S.loop (X := Nat × Nms) (fun x => ⟨[(1, .clo 28 [.bp 2 0]), (8, ams l), (9, ints l.length), (10, ints x.1)], rsW w x.2⟩) (fun x => x.1 <= l.length /\ u6 a1U n l = u6 a1U x.2 (l.drop x.1)) (fun x => l.length - x.1) (0, n) ⟨c2T _, rfl⟩ (by simp only [rsW, Wk.enc, ams, wls, pts, sls, gts]; exact (by (repeat first | refine uA ?_ | (refine ⟨?_, ?_⟩; focus first | rfl | simp [slot]) | rfl | simp | exact c2Q hν0 (by simp)))) ?_
 rintro ⟨i, m⟩ ⟨hi, hg⟩
 simp only [ams, ints, rsW, Wk.enc, wls, pts, sls, gts] at hi hg ⊢
 (repeat first | refine uA ?_ | (refine uK ?_ ?_; focus first | omega | (intros; simp_all <;> omega)) | simp (disch := omega) only [go_sem, Nat.reduceBEq, Nat.reduceAdd, ww])
 (refine uJ rfl (fun hc => ?_) fun hc => ?_)
 ·have hi' : i < l.length := by omega
  have hgi := c2M hi'
  generalize l[i] = x at hgi
  have hst := a2t (f := a1U) (s := m) hgi
  have hnx := a2o (f := a1U) (s := m) hgi
  have hs := fun (E : Ctx) (hP : E.P = Tryz.prog) (ht : Tz E) => b8n hP ht w m x (hb x (c2P hgi))
  generalize a1U m x = r at *
  obtain ⟨e, m'⟩ := r
  simp only [Am.c, Am.enc, lks, sb, ints, rsW, Wk.enc, ams, wls, pts, sls, gts] at hs hst hnx
  (repeat first | refine uA ?_ | (refine uK ?_ ?_; focus first | omega | (intros; simp_all <;> omega)) | simp (disch := omega) only [go_sem, Nat.reduceBEq, Nat.reduceAdd, ww, hgi, c2O, c2N, Am.enc, lks, sb, hcal] | refine l7.t (j5.ext _ (hs _ rfl ht) rfl rfl rfl) ?_)
  refine S.cond rfl (fun hc2 => ?_) (fun hc2 => ?_)
  ·rw [hg, hst (by simpa using hc2)]
   (repeat first | refine uA ?_ | (refine uK ?_ ?_; focus first | omega | (intros; simp_all <;> omega)) | simp (disch := omega) only [go_sem, Nat.reduceBEq, Nat.reduceAdd, ww])
   (refine S.done ?_; simp only [p9, p8, go_sem, Nat.reduceBEq, Nat.reduceAdd, Nat.reduceLeDiff, Int.reduceToNat, Int.reducePow]; (repeat (refine ⟨?_, ?_⟩; focus first | trivial | omega | simp)); exact j3.L8 (Imp.refl rfl) (by (repeat first | refine uA ?_ | (refine ⟨?_, ?_⟩; focus first | rfl | simp [slot]) | rfl | simp)) (c2Q hν0 (by simp)))
  ·have hc3 : e = 0 := by simpa using hc2
   (repeat first | refine uA ?_ | (refine uK ?_ ?_; focus first | omega | (intros; simp_all <;> omega)) | simp (disch := omega) only [go_sem, Nat.reduceBEq, Nat.reduceAdd, ww])
   refine S.next (x := (i, m)) (i + 1, m') ⟨by simp only; omega, by simp only; rw [hg, hnx hc3]⟩ (by simp only; omega) (by (repeat first | refine uA ?_ | (refine ⟨?_, ?_⟩; focus first | rfl | simp [slot]) | rfl | simp | exact c2Q hν0 (by simp)))
 ·rw [hg, a3c (by omega)]
  (repeat first | refine uA ?_ | (refine uK ?_ ?_; focus first | omega | (intros; simp_all <;> omega)) | simp (disch := omega) only [go_sem, Nat.reduceBEq, Nat.reduceAdd, ww])
  (refine S.done ?_; simp only [p9, p8, go_sem, Nat.reduceBEq, Nat.reduceAdd, Nat.reduceLeDiff, Int.reduceToNat, Int.reducePow]; (repeat (refine ⟨?_, ?_⟩; focus first | trivial | omega | simp)); exact j3.L8 (Imp.refl rfl) (by (repeat first | refine uA ?_ | (refine ⟨?_, ?_⟩; focus first | rfl | simp [slot]) | rfl | simp)) (c2Q hν0 (by simp)))
theorem a8z (w : Wk) (hb : Wb 1073741824 w) : FZ 8 [w.c] (ints (X7 w)) := by
 refine kW a9H a9G (by rfl) fun w' O hw => ?_
 have ht : Tz ⟨Tryz.prog, eff, a2L.ntmps, w', fun _ => False, O, [], []⟩ := tz hw
 obtain ⟨⟨n1, b1⟩, ⟨n2, b2⟩, ⟨n3, b3⟩, ⟨n4, b4⟩, ⟨n5, b5⟩, b6⟩ := hb
 have h1 := fun (E : Ctx) (hP : E.P = Tryz.prog) (ht : Tz E) => b7h hP ht w [] w.arms n1 b1
 have h2 := b5I w.walls n2 b2
 unfold X7 a6v
 generalize u6 a1U [] w.arms = r1 at *
 obtain ⟨e1, m1⟩ := r1
 have h3 := fun (E : Ctx) (hP : E.P = Tryz.prog) (ht : Tz E) => b5X hP ht m1 w.parts n3 b3
 simp only at h3 ⊢
 generalize u6 a0F m1 w.parts = r3 at *
 obtain ⟨e3, m3⟩ := r3
 have h4 := fun (E : Ctx) (hP : E.P = Tryz.prog) (ht : Tz E) => b5M hP ht m3 w.slots n4 b4
 simp only at h4 ⊢
 generalize u6 a0L m3 w.slots = r4 at *
 obtain ⟨e4, m4⟩ := r4
 have h5 := fun (E : Ctx) (hP : E.P = Tryz.prog) (ht : Tz E) => b4Z hP ht m4 w.gates n5 b5
 simp only at h5 ⊢
 generalize u6 a0N m4 w.gates = r5 at *
 obtain ⟨e5, m5⟩ := r5
 generalize H7 K5 w.walls = e2 at *
 simp only
 have h6 := a1e w.walk (b6.mono (by decide))
 have h7 := a3L w.walk (b6.mono (by decide))
 have h8 := V8 w.walk (b6.mono (by decide))
 unfold b1D
 generalize decide w.walk.H8 = q1 at *
 generalize j4 w.walk = q2 at *
 generalize y9 (Nm.d9 w.walk) = s8 at *
 obtain ⟨arms, walls, parts, slots, gates, walk⟩ := w
 simp only [a2L, l6, TT, II, OA, OB, OC, MM, LL, VV, FF, MG, LG, VG, FG] at ht ⊢
 simp only [Wk.c, Wk.enc, rsW, ams, wls, pts, sls, gts, rc, sb, ints] at *
 (repeat first | refine uA ?_ | (refine uK ?_ ?_; focus first | omega | (intros; simp_all <;> omega)) | simp (disch := omega) only [go_sem, Nat.reduceBEq, Nat.reduceAdd, ww, c2N])
 refine S.cond rfl (fun hc => ?_) (fun hc => ?_)
 ·rw [if_pos (by simp only [c3C, c2U] at hc; omega)]
  (repeat first | refine uA ?_ | (refine uK ?_ ?_; focus first | omega | (intros; simp_all <;> omega)) | simp (disch := omega) only [go_sem, Nat.reduceBEq, Nat.reduceAdd, ww])
  exact S.done (j3.out rfl (Imp.refl rfl) rfl)
 rw [if_neg (by simp only [c3r, c3b] at hc; omega)]
 (repeat first | refine uA ?_ | (refine uK ?_ ?_; focus first | omega | (intros; simp_all <;> omega)) | simp (disch := omega) only [go_sem, Nat.reduceBEq, Nat.reduceAdd, ww, c2N])
 refine S.cond rfl (fun hc => ?_) (fun hc => ?_)
 ·rw [if_pos (by simp only [c2U] at hc; omega)]
  (repeat first | refine uA ?_ | (refine uK ?_ ?_; focus first | omega | (intros; simp_all <;> omega)) | simp (disch := omega) only [go_sem, Nat.reduceBEq, Nat.reduceAdd, ww])
  exact S.done (j3.out rfl (Imp.refl rfl) rfl)
 rw [if_neg (by simp only [c3b] at hc; omega)]
 (repeat first | refine uI ?_ | (refine uK ?_ ?_; focus first | omega | (intros; simp_all <;> omega)) | simp (disch := omega) only [go_sem, Nat.reduceBEq, Nat.reduceAdd, ww])
 refine S.G6 [.box 31 [.sl 12 (arms.map Am.enc), .sl 1 (walls.map fun s => [vts s]), .sl 12 (parts.map Pt.enc), .sl 14 (slots.map Sl.enc), .sl 13 (gates.map Gt.enc), .v (.bool walk.neg), .v (.string (bs walk.num)), .v (.string (bs walk.den))], .gone, .box 94 [.mp 1]] (by simp [Eng.F3, Eng.O9]) ?_
 (repeat first | refine uA ?_ | (refine uK ?_ ?_; focus first | omega | (intros; simp_all <;> omega)) | simp (disch := omega) only [go_sem, Nat.reduceBEq, Nat.reduceAdd, ww, c2N, F3] | refine l7.t (h1 _ rfl ht) ?_ | refine l7.t (j5.lift (k := 1) rfl (h3 _ rfl ht) rfl rfl rfl) ?_ | refine l7.t (j5.lift (k := 1) rfl (h4 _ rfl ht) rfl rfl rfl) ?_ | refine l7.t (j5.lift (k := 1) rfl (h5 _ rfl ht) rfl rfl rfl) ?_ | (refine uD h2 ?_ ?_ ?_; exact tz hw; exact rfl))
 generalize hL : [e1, e2, e3, e4, e5] = L
 have hl5 : L.length = 5 := by rw [<- hL]; rfl
 have e63 : [[C.v (Value.int IntKind.i64 e1)], [C.v (Value.int IntKind.i64 e2)], [C.v (Value.int IntKind.i64 e3)], [C.v (Value.int IntKind.i64 e4)], [C.v (Value.int IntKind.i64 e5)]] = L.map fun e => [C.v (Value.int IntKind.i64 e)] := by rw [<- hL]; rfl
 simp only [e63]
 refine S.loop (X := Nat) (fun i => ⟨[(1, .bp 0 0), (63, .sl 1 (L.map fun e => [.v (.int .i64 e)])), (64, ints 5), (65, ints i)], [.box 31 [.sl 12 (arms.map Am.enc), .sl 1 (walls.map fun s => [vts s]), .sl 12 (parts.map Pt.enc), .sl 14 (slots.map Sl.enc), .sl 13 (gates.map Gt.enc), .v (.bool walk.neg), .v (.string (bs walk.num)), .v (.string (bs walk.den))]]⟩) (fun i => i <= 5 /\ H7 id L = H7 id (L.drop i)) (fun i => 5 - i) 0 ⟨c2T _, rfl⟩ (by (repeat first | refine uA ?_ | (refine ⟨?_, ?_⟩; focus first | rfl | simp [slot]) | rfl | simp)) ?_
 rintro i ⟨hi, hg⟩
 simp only [ints] at hi hg ⊢
 (repeat first | refine uA ?_ | (refine uK ?_ ?_; focus first | omega | (intros; simp_all <;> omega)) | simp (disch := omega) only [go_sem, Nat.reduceBEq, Nat.reduceAdd, ww])
 (refine uJ rfl (fun hc => ?_) fun hc => ?_)
 ·have hi' : i < L.length := by omega
  have hgi := c2M hi'
  generalize L[i] = x at hgi
  have hst := a1K (f := id) hgi
  have hnx := a1I (f := id) hgi
  simp only [id] at hst hnx
  (repeat first | refine uA ?_ | (refine uK ?_ ?_; focus first | omega | (intros; simp_all <;> omega)) | simp (disch := omega) only [go_sem, Nat.reduceBEq, Nat.reduceAdd, ww, hgi, c2O, c2N, hl5])
  refine S.cond rfl (fun hc2 => ?_) (fun hc2 => ?_)
  ·have h0 : x ≠ 0 := by simpa using hc2
   rw [hg, hst h0, if_pos h0]
   (repeat first | refine uA ?_ | (refine uK ?_ ?_; focus first | omega | (intros; simp_all <;> omega)) | simp (disch := omega) only [go_sem, Nat.reduceBEq, Nat.reduceAdd, ww])
   exact S.done (j3.out rfl (Imp.refl rfl) rfl)
  ·have hc3 : x = 0 := by simpa using hc2
   (repeat first | refine uA ?_ | (refine uK ?_ ?_; focus first | omega | (intros; simp_all <;> omega)) | simp (disch := omega) only [go_sem, Nat.reduceBEq, Nat.reduceAdd, ww])
   refine S.next (i + 1) ⟨by omega, by rw [hg]; exact hnx hc3⟩ (by omega) (by (repeat first | refine uA ?_ | (refine ⟨?_, ?_⟩; focus first | rfl | simp [slot]) | rfl | simp))
 ·rw [hg, a2s (by omega), if_neg (by decide)]
  (repeat first | refine uA ?_ | (refine uK ?_ ?_; focus first | omega | (intros; simp_all <;> omega)) | simp (disch := omega) only [go_sem, Nat.reduceBEq, Nat.reduceAdd, ww] | (refine uD h6 ?_ ?_ ?_; exact tz hw; exact rfl) | (refine uD h7 ?_ ?_ ?_; exact tz hw; exact rfl) | (refine uD h8 ?_ ?_ ?_; exact tz hw; exact rfl))
  refine S.cond rfl (fun hc => ?_) (fun hc => ?_)
  ·rw [if_neg (by simp only [c3C, Bool.not_eq_true', c2U] at hc; simp only [c2S, c2U]; rintro ⟨⟨g7, g8⟩, g9⟩; rcases hc with (hc | hc) | hc <;> first | (rw [hc] at g7; cases g7; done) | (rw [hc] at g8; cases g8; done) | omega)]
   (repeat first | refine uA ?_ | (refine uK ?_ ?_; focus first | omega | (intros; simp_all <;> omega)) | simp (disch := omega) only [go_sem, Nat.reduceBEq, Nat.reduceAdd, ww])
   exact S.done (j3.out rfl (Imp.refl rfl) rfl)
  ·rw [if_pos (by simp only [c3r, Bool.not_eq_false', c3b] at hc; simp only [c2S, c2U]; obtain ⟨⟨g7, g8⟩, g9⟩ := hc; exact ⟨⟨g7, g8⟩, by omega⟩)]
   (repeat first | refine uA ?_ | (refine uK ?_ ?_; focus first | omega | (intros; simp_all <;> omega)) | simp (disch := omega) only [go_sem, Nat.reduceBEq, Nat.reduceAdd, ww])
   exact S.done (j3.out rfl (Imp.refl rfl) rfl)
end Go.Proofs.YtgmlehjgpgdjhaaGreatDoor
namespace Go.Proofs.YtgmlehjgpgdjhaaGreatDoor.Eng
open Go Go.RowKit
mutual
def C.sh (n : Nat) : C -> C
 | .rv k => .rv (n + k)
 | .agg cs => .agg (C.shL n cs)
 | .tup cs => .tup (C.shL n cs)
 | c => c
def C.shL (n : Nat) : List C -> List C
 | [] => []
 | c :: cs => C.sh n c :: C.shL n cs
end
mutual
def C.okS : C -> Bool
 | .rv _ => true
 | .agg cs => C.b1M cs
 | .tup cs => C.b1M cs
 | c => c.cl
def C.b1M : List C -> Bool
 | [] => true
 | c :: cs => C.okS c && C.b1M cs
end
section
variable {ν ν' : List Value} {w : World} {O O' : Nat -> Prop}
mutual
theorem b6D (hO : ∀ b, O' b -> O b) : ∀ {c : C} {y : Value}, c.okS = true -> Den ν' w O c y -> Den (ν ++ ν') w O' (C.sh ν.length c) y
 | .rv k, y, _, h => by
  simp only [C.sh, Den] at h ⊢
  exact ⟨by rw [c3h (by omega), show ν.length + k - ν.length = k by omega]; exact h.1, h.2⟩
 | .agg cs, y, hc, h => by
  simp only [C.sh, Den, C.okS] at h hc ⊢
  obtain ⟨vs, h1, h2⟩ := h
  exact ⟨vs, b0i hO hc h1, h2⟩
 | .tup cs, y, hc, h => by
  simp only [C.sh, Den, C.okS] at h hc ⊢
  obtain ⟨vs, h1, h2⟩ := h
  exact ⟨vs, b0i hO hc h1, h2⟩
 | .v x, y, hc, h => by simpa only [C.sh, Den] using h
 | .sl sz es, y, hc, h => by simp only [C.sh]; exact (Fz.keep (Keeps.sub hO) (h.fz hc)).den _
 | .nl, y, hc, h => by simpa only [C.sh, Den] using h
 | .ep cs, y, hc, h => by simp only [C.sh]; exact (Fz.keep (Keeps.sub hO) (h.fz hc)).den _
 | .clo f cs, y, hc, h => by simp only [C.sh]; exact (Fz.keep (Keeps.sub hO) (h.fz hc)).den _
 | .bnd f x, y, hc, h => by simp only [C.sh]; exact (Fz.keep (Keeps.sub hO) (h.fz hc)).den _
 | .any S, y, hc, h => by simpa only [C.sh, Den] using h
 | .bp _ _, y, hc, h => by simp only [C.okS, C.cl] at hc; cases hc
 | .rp _ _ _ _, y, hc, h => by simp only [C.okS, C.cl] at hc; cases hc
 | .mp _, y, hc, h => by simp only [C.okS, C.cl] at hc; cases hc
 | .wv _ _ _ _, y, hc, h => by simp only [C.okS, C.cl] at hc; cases hc
 | .g _ _, y, hc, h => by simp only [C.okS, C.cl] at hc; cases hc
 | .junk, y, hc, h => by simp only [C.okS, C.cl] at hc; cases hc
theorem b0i (hO : ∀ b, O' b -> O b) : ∀ {cs : List C} {vs : List Value}, C.b1M cs = true -> j6 ν' w O cs vs -> j6 (ν ++ ν') w O' (C.shL ν.length cs) vs
 | [], vs, _, h => by simpa only [C.shL, j6] using h
 | c :: cs, vs, hc, h => by
  simp only [C.shL, j6, C.b1M, c2S] at h hc ⊢
  obtain ⟨y, ys, e, h1, h2⟩ := h
  exact ⟨y, ys, e, b6D hO hc.1 h1, b0i hO hc.2 h2⟩
end
end
def Res.b9q : Res -> Bool
 | .gone => true
 | r => r.shut
theorem b8Q {ν ν' : List Value} {w : World} {O O' : Nat -> Prop} {x : Value} {r : Res} (hs : r.b9q = true) (hO : ∀ b, O' b -> O b) (h : N8 ν w O x r) : N8 ν' w O' x r := by
 cases r with
 | gone => trivial
 | box t cs => exact a5d hs hO h
 | row e sz es => exact a5d rfl hO h
 | map s es => exact a5d rfl hO h
theorem j5.pre {E : Ctx} {rs rs' : List Res} {f : Nat} {args : List C} {s : C} (h : j5 E [] f args s rs' []) (hr : rs'.all Res.b9q = true) (hs : s.okS = true) (ha : C.clL args = true) : j5 E rs f args (C.sh rs.length s) (rs ++ rs') [] := by
  intro av ν w vs hR hav hF hD
  rw [List.all_eq_true] at hr
  let av' : Nat -> Prop := OO av rs ν
  have hlt : ∀ b, av' b -> b < w.heap.size := fun b hb => by
    rcases hb with hb | hb
    · exact hR.av b hb
    · exact (hR.low b hb).1
  have ho0 : ∀ b, ¬ owned [] [] b := fun b ⟨k, r, x, hk, _⟩ => by simp at hk
  have hRG : RG av' E.own0 E.w0.heap.size [] [] w := ⟨rfl, fun k r hk => by simp at hk, fun k l r r' x x' b _ hk => by simp at hk, fun b hb => (ho0 b hb).elim, hlt, hR.n0⟩
  have hOO : ∀ b, OO av' [] [] b -> OO av rs ν b := fun b hb => hb.elim id fun h => (ho0 b h).elim
  refine (h av' [] w vs hRG (fun b hb => .inl (hav b hb)) hF ((FzL.keep (Keeps.sub hOO) (hD.fz ha)).den _)).mono ?_
  rintro e w' ⟨y, ν', rfl, h1, h2, h3⟩
  have hlen : (ν ++ ν').length = (rs ++ rs').length := by rw [c3a, c3a, hR.len, h1.len]
  have htk : (ν ++ ν').take rs.length = ν := by rw [<- hR.len]; simp
  have hown := fun b => a6H hlen b
  rw [htk] at hown
  have hnew : ∀ b, (∃ k r x, rs'[k]? = some r /\ (ν ++ ν')[rs.length + k]? = some x /\ fp r x b) -> owned rs' ν' b := by
    rintro b ⟨k, r, x, g1, g2, g3⟩
    rw [<- hR.len, c3h (by omega), show ν.length + k - ν.length = k by omega] at g2
    exact ⟨k, r, x, g1, g2, g3⟩
  have hge : ∀ b, owned rs' ν' b -> w.heap.size <= b := fun b hb => (h2.own b hb).elim (fun h => (ho0 b h).elim) id
  have hnu : X9 [] ν (ν ++ ν') := fun k x _ hx => by rw [c3d (c2R.1 hx).1]; exact hx
  have hM : Mv rs ν w [] (rs ++ rs') (ν ++ ν') w' := by
    refine ⟨h2.os, h2.tape, h2.output, h2.size, fun b hb _ => h2.block b hb (ho0 b), fun b hb => ?_, hnu⟩
    rcases (hown b).1 hb with hb | hb
    · exact .inl hb
    · exact .inr (hge b (hnew b hb))
  have hOO' : ∀ b, OO av (rs ++ rs') (ν ++ ν') b -> OO av' rs' ν' b := fun b hb => by
    rcases hb with hb | hb
    · exact .inl (.inl hb)
    · rcases (hown b).1 hb with hb | hb
      · exact .inl (.inr hb)
      · exact .inr (hnew b hb)
  refine ⟨y, ν ++ ν', rfl, ⟨hlen, fun k r hk => ?_, fun l m q q' z z' b hne g1 g2 g3 g4 g5 => ?_, fun b hb => ?_, fun b hb => c3l (hR.av b hb) h2.size, c2Q hR.n0 h2.size⟩, hM, by rw [<- hR.len]; exact b6D hOO' hs h3⟩
  · rcases c3n k rs.length with hlt' | hge'
    · rw [c3d hlt'] at hk
      obtain ⟨x, hx, hok⟩ := hR.res k r hk
      have := hok.mv (hM.keeps (av := av)) hM.nu (fun b hf => h2.block b (hR.lt hk hx hf) (ho0 b))
      rw [a2i] at this
      exact ⟨x, hnu k x (fun h => by cases h) hx, this⟩
    · rw [c3h hge'] at hk
      obtain ⟨x, hx, hok⟩ := h1.res _ r hk
      refine ⟨x, by rw [c3h (by rw [hR.len]; exact hge'), hR.len]; exact hx, b8Q (hr r (c2P hk)) hOO' hok⟩
  · have old : ∀ {l q z}, l < rs.length -> (rs ++ rs')[l]? = some q -> (ν ++ ν')[l]? = some z -> rs[l]? = some q /\ ν[l]? = some z := fun hl a1 a2 => by
      rw [c3d hl] at a1
      rw [c3d (by rw [hR.len]; exact hl)] at a2
      exact ⟨a1, a2⟩
    have new : ∀ {l q z}, rs.length <= l -> (rs ++ rs')[l]? = some q -> (ν ++ ν')[l]? = some z -> rs'[l - rs.length]? = some q /\ ν'[l - rs.length]? = some z := fun hl a1 a2 => by
      rw [c3h hl] at a1
      rw [c3h (by rw [hR.len]; exact hl), hR.len] at a2
      exact ⟨a1, a2⟩
    rcases c3n l rs.length with hl1 | hl1 <;> rcases c3n m rs.length with hm1 | hm1
    · obtain ⟨a1, a2⟩ := old hl1 g1 g3
      obtain ⟨a3, a4⟩ := old hm1 g2 g4
      exact hR.dis l m q q' z z' b hne a1 a3 a2 a4 g5
    · obtain ⟨a1, a2⟩ := old hl1 g1 g3
      obtain ⟨a3, a4⟩ := new hm1 g2 g4
      intro hf
      have := hR.lt a1 a2 g5
      have := hge b ⟨_, _, _, a3, a4, hf⟩
      omega
    · obtain ⟨a1, a2⟩ := new hl1 g1 g3
      obtain ⟨a3, a4⟩ := old hm1 g2 g4
      intro hf
      have := hR.lt a3 a4 hf
      have := hge b ⟨_, _, _, a1, a2, g5⟩
      omega
    · obtain ⟨a1, a2⟩ := new hl1 g1 g3
      obtain ⟨a3, a4⟩ := new hm1 g2 g4
      exact h1.dis _ _ q q' z z' b (by omega) a1 a3 a2 a4 g5
  · rcases (hown b).1 hb with hb | hb
    · obtain ⟨a1, a2, a3⟩ := hR.low b hb
      exact ⟨c3l a1 h2.size, a2, a3⟩
    · obtain ⟨a1, a2, a3⟩ := h1.low b (hnew b hb)
      exact ⟨a1, fun ha => a2 (.inl ha), a3⟩
end Go.Proofs.YtgmlehjgpgdjhaaGreatDoor.Eng
namespace Go.Proofs.YtgmlehjgpgdjhaaGreatDoor
open Go Go.RowKit Eng
set_option maxRecDepth 100000
set_option maxHeartbeats 8000000
theorem b8y (es : List (List C)) (hn : es.length <= 1073741824) : FNew Tryz.prog 27 [.sl 6 es] 44 6 es := by
 refine FNew.of (eff := eff) Tryz.func27 (by cbv) (by exact c3c rfl) fun w O => ?_
 simp only [l6]
 (repeat first | refine uA ?_ | (refine uK ?_ ?_; focus first | omega | (intros; simp_all <;> omega)) | simp (disch := omega) only [go_sem, Nat.reduceBEq, Nat.reduceAdd, ww])
 refine S.split 4 (Sx := fun y => ∃ b, y = .bool b /\ (es ≠ [] -> b = false)) rfl fun y hy => ?_
 obtain ⟨b, rfl, hb⟩ := hy
 refine S.cond rfl (fun hc => ?_) (fun hc => ?_)
 ·have he : es = [] := Classical.byContradiction fun h => by rw [hb h] at hc; cases hc
  subst he
  (repeat first | refine uA ?_ | (refine uK ?_ ?_; focus first | omega | (intros; simp_all <;> omega)) | simp (disch := omega) only [go_sem, Nat.reduceBEq, Nat.reduceAdd, ww])
  refine S.weaken (Ent.pack 2 44 6 rfl) ?_
  exact S.done (j3.new rfl rfl rfl)
 ·(repeat first | refine uA ?_ | (refine uK ?_ ?_; focus first | omega | (intros; simp_all <;> omega)) | simp (disch := omega) only [go_sem, Nat.reduceBEq, Nat.reduceAdd, ww])
  exact S.done (j3.new rfl rfl rfl)
theorem b6R (es : List (List C)) (hn : es.length <= 1073741824) : FNew Tryz.prog 112 [.sl 1 es] 4 1 es := by
 refine FNew.of (eff := eff) Tryz.func112 (by cbv) (by exact c3c rfl) fun w O => ?_
 simp only [l6]
 (repeat first | refine uA ?_ | (refine uK ?_ ?_; focus first | omega | (intros; simp_all <;> omega)) | simp (disch := omega) only [go_sem, Nat.reduceBEq, Nat.reduceAdd, ww])
 refine S.split 4 (Sx := fun y => ∃ b, y = .bool b /\ (es ≠ [] -> b = false)) rfl fun y hy => ?_
 obtain ⟨b, rfl, hb⟩ := hy
 refine S.cond rfl (fun hc => ?_) (fun hc => ?_)
 ·have he : es = [] := Classical.byContradiction fun h => by rw [hb h] at hc; cases hc
  subst he
  (repeat first | refine uA ?_ | (refine uK ?_ ?_; focus first | omega | (intros; simp_all <;> omega)) | simp (disch := omega) only [go_sem, Nat.reduceBEq, Nat.reduceAdd, ww])
  refine S.weaken (Ent.pack 2 4 1 rfl) ?_
  exact S.done (j3.new rfl rfl rfl)
 ·(repeat first | refine uA ?_ | (refine uK ?_ ?_; focus first | omega | (intros; simp_all <;> omega)) | simp (disch := omega) only [go_sem, Nat.reduceBEq, Nat.reduceAdd, ww])
  exact S.done (j3.new rfl rfl rfl)
theorem a4p (es : List (List C)) (hn : es.length <= 1073741824) : FNew Tryz.prog 113 [.sl 3 es] 29 3 es := by
 refine FNew.of (eff := eff) Tryz.func113 (by cbv) (by exact c3c rfl) fun w O => ?_
 simp only [l6]
 (repeat first | refine uA ?_ | (refine uK ?_ ?_; focus first | omega | (intros; simp_all <;> omega)) | simp (disch := omega) only [go_sem, Nat.reduceBEq, Nat.reduceAdd, ww])
 refine S.split 4 (Sx := fun y => ∃ b, y = .bool b /\ (es ≠ [] -> b = false)) rfl fun y hy => ?_
 obtain ⟨b, rfl, hb⟩ := hy
 refine S.cond rfl (fun hc => ?_) (fun hc => ?_)
 ·have he : es = [] := Classical.byContradiction fun h => by rw [hb h] at hc; cases hc
  subst he
  (repeat first | refine uA ?_ | (refine uK ?_ ?_; focus first | omega | (intros; simp_all <;> omega)) | simp (disch := omega) only [go_sem, Nat.reduceBEq, Nat.reduceAdd, ww])
  refine S.weaken (Ent.pack 2 29 3 rfl) ?_
  exact S.done (j3.new rfl rfl rfl)
 ·(repeat first | refine uA ?_ | (refine uK ?_ ?_; focus first | omega | (intros; simp_all <;> omega)) | simp (disch := omega) only [go_sem, Nat.reduceBEq, Nat.reduceAdd, ww])
  exact S.done (j3.new rfl rfl rfl)
theorem b4Y (es : List (List C)) (hn : es.length <= 1073741824) : FNew Tryz.prog 111 [.sl 10 es] 48 10 es := by
 refine FNew.of (eff := eff) Tryz.func111 (by cbv) (by exact c3c rfl) fun w O => ?_
 simp only [l6]
 (repeat first | refine uA ?_ | (refine uK ?_ ?_; focus first | omega | (intros; simp_all <;> omega)) | simp (disch := omega) only [go_sem, Nat.reduceBEq, Nat.reduceAdd, ww])
 refine S.split 4 (Sx := fun y => ∃ b, y = .bool b /\ (es ≠ [] -> b = false)) rfl fun y hy => ?_
 obtain ⟨b, rfl, hb⟩ := hy
 refine S.cond rfl (fun hc => ?_) (fun hc => ?_)
 ·have he : es = [] := Classical.byContradiction fun h => by rw [hb h] at hc; cases hc
  subst he
  (repeat first | refine uA ?_ | (refine uK ?_ ?_; focus first | omega | (intros; simp_all <;> omega)) | simp (disch := omega) only [go_sem, Nat.reduceBEq, Nat.reduceAdd, ww])
  refine S.weaken (Ent.pack 2 48 10 rfl) ?_
  exact S.done (j3.new rfl rfl rfl)
 ·(repeat first | refine uA ?_ | (refine uK ?_ ?_; focus first | omega | (intros; simp_all <;> omega)) | simp (disch := omega) only [go_sem, Nat.reduceBEq, Nat.reduceAdd, ww])
  exact S.done (j3.new rfl rfl rfl)
theorem b4T (q : Rat) : Nm.ofQ (w9 q) = ⟨false, Nm.enc q.num.natAbs, Nm.enc q.den⟩ := by
 unfold w9
 by_cases h : q.num < 0
 ·rw [if_pos h, a9c]
  simp [h]
 ·rw [if_neg h]
  unfold Nm.ofQ
  rw [decide_eq_false h]
theorem a9d (a : Nm.Rt) (ha : Rb 17179869184 a) : FZ 61 [rc a] (rq (w9 (Nm.d9 a))) := by
 unfold rq
 rw [b4T]
 exact c1F a ha
theorem b3D {k : Nat} {p : Rat} (h : Rb k (Nm.ofQ p)) : Rb k (Nm.ofQ (w9 p)) := by rw [b4T]; exact h
theorem b8U (a : Nm.Rt) (ha : Rb 68719476736 a) : FZ 99 [rc a] (.v (.bool (!F9 a))) := by
 refine kW Tryz.func99 (by cbv) (by rfl) fun w O hw => ?_
 have h := a1e a ha
 unfold F9
 generalize decide a.H8 = q at *
 simp only [l6]
 simp only [rc, sb] at *
 (repeat first | refine uA ?_ | (refine uK ?_ ?_; focus first | omega | (intros; simp_all <;> omega)) | simp (disch := omega) only [go_sem, Nat.reduceBEq, Nat.reduceAdd, ww] | (refine uD h ?_ ?_ ?_; exact tz hw; exact rfl))
 exact S.done (j3.out rfl (Imp.refl rfl) rfl)
theorem a7w (l : List Nm.Rt) (hl : Rbs 68719476736 l) : FZ 49 [rts l] (.v (.bool (l.all F9))) := by
 refine kW Tryz.func49 (by cbv) (by rfl) fun w O hw => ?_
 have h := b2m 99 (by kernel_rfl) (fun a => !F9 a) l (by have := hl.1; omega) (fun a ha => b8U a (hl.2 a ha))
 have e : l.all F9 = !l.any fun a => !F9 a := by rw [List.not_any_eq_all_not]; simp
 rw [e]
 generalize (l.any fun a => !F9 a) = q at *
 simp only [l6]
 simp only [rts] at *
 (repeat first | refine uA ?_ | (refine uK ?_ ?_; focus first | omega | (intros; simp_all <;> omega)) | simp (disch := omega) only [go_sem, Nat.reduceBEq, Nat.reduceAdd, ww] | (refine uD h ?_ ?_ ?_; exact tz hw; exact rfl))
 exact S.done (j3.out rfl (Imp.refl rfl) rfl)
theorem b8w (f : Fr) (hf : Fb 17179869184 f) : FZ 46 [f.c] (.v (.bool (a1d f))) := by
 refine kW Tryz.func46 (by cbv) (by rfl) fun w O hw => ?_
 obtain ⟨x, y, half, t⟩ := f
 obtain ⟨b1, b2, b3⟩ := hf
 simp only at b1 b2 b3
 have h1 := a7w _ (Rbs.three (by decide) (b1.mono (m := 68719476736) (by decide)) (b2.mono (m := 68719476736) (by decide)) (b3.mono (m := 68719476736) (by decide)))
 rw [b0w] at h1
 have h4 := V8 t b3
 unfold a1d a4C
 simp only
 generalize (F9 x && F9 y && F9 t) = q1 at *
 generalize y9 (Nm.d9 t) = n at *
 simp only [l6]
 simp only [Fr.c, Fr.enc, rts, rcs, rc, sb, ints, c3e, c3v] at *
 (repeat first | refine uA ?_ | (refine uK ?_ ?_; focus first | omega | (intros; simp_all <;> omega)) | simp (disch := omega) only [go_sem, Nat.reduceBEq, Nat.reduceAdd, ww] | (refine uD h4 ?_ ?_ ?_; exact tz hw; exact rfl) | (refine uE h1 ?_ ?_ ?_ ?_; exact tz hw; exact rfl; focus (repeat' first | exact l8.nil | exact Imp.refl rfl | exact Imp.frz rfl rfl rfl | (refine Imp.a0s rfl rfl ?_ ?_; (focus ((try simp only [c3a]); omega)); (focus first | rfl | assumption)) | refine l8.cons ?_ ?_); done))
 have e : (q1 && !(half && !decide (n = 0))) = (q1 && (!half || decide (n = 0))) := by cases q1 <;> cases half <;> simp
 rw [e]
 exact S.done (j3.out rfl (Imp.refl (by rfl)) rfl)
theorem b9J (f : Fr) (hf : Fb 17179869184 f) : FZ 45 [f.c] (.v (.bool (!a1d f))) := by
 refine kW Tryz.func45 (by cbv) (by rfl) fun w O hw => ?_
 have h := b8w f hf
 generalize a1d f = q at *
 simp only [l6]
 simp only [Fr.c, Fr.enc, sb] at *
 (repeat first | refine uA ?_ | (refine uK ?_ ?_; focus first | omega | (intros; simp_all <;> omega)) | simp (disch := omega) only [go_sem, Nat.reduceBEq, Nat.reduceAdd, ww] | (refine uD h ?_ ?_ ?_; exact tz hw; exact rfl))
 exact S.done (j3.out rfl (Imp.refl rfl) rfl)
theorem c0d (v : Vt) (hv : Vb 68719476736 v) : FZ 48 [v.c] (.v (.bool (!a6e v))) := by
 refine kW Tryz.func48 (by cbv) (by rfl) fun w O hw => ?_
 have h := a7w _ (Rbs.two (by decide) hv.1 hv.2)
 rw [a9K] at h
 unfold a6e
 generalize (F9 v.x && F9 v.y) = q at *
 simp only [l6]
 simp only [Vt.c, Vt.enc, rts, rcs, sb, c3e, c3v] at *
 (repeat first | refine uA ?_ | (refine uK ?_ ?_; focus first | omega | (intros; simp_all <;> omega)) | simp (disch := omega) only [go_sem, Nat.reduceBEq, Nat.reduceAdd, ww] | (refine uE h ?_ ?_ ?_ ?_; exact tz hw; exact rfl; focus (repeat' first | exact l8.nil | exact Imp.refl rfl | exact Imp.frz rfl rfl rfl | (refine Imp.a0s rfl rfl ?_ ?_; (focus ((try simp only [c3a]); omega)); (focus first | rfl | assumption)) | refine l8.cons ?_ ?_); done))
 exact S.done (j3.out rfl (Imp.refl rfl) rfl)
theorem b7F {a : Am} {q : List Nm.Rt} (h : a0n a q = 0) : q.length = a.links.length := by
 unfold a0n at h
 split at h
 ·rename_i h1; exact absurd h h1
 ·split at h
  ·cases h
  ·rename_i h2; exact Classical.not_not.1 h2
theorem c2a (a : Am) (x : Ast) (parts : Nat) (ha : Ab 1073741824 a) (hx : Asb 1073741824 x) (hp : parts <= 1073741824) : FZ 43 [a.c, x.c, .v (.int .i64 (parts : Int))] (ints (Q9 a x parts)) := by
 refine kW Tryz.func43 (by cbv) (by rfl) fun w O hw => ?_
 have h1 := a7w x.q ⟨by have := hx.1.1; omega, fun r hr => (hx.1.2 r hr).mono (by decide)⟩
 have h2 := a7w x.v ⟨by have := hx.2.1; omega, fun r hr => (hx.2.2 r hr).mono (by decide)⟩
 have h3 := c1O a x.q ha hx.1
 have hln := b7F (a := a) (q := x.q)
 unfold Q9
 generalize a0n a x.q = e at *
 obtain ⟨q, v, power, holds⟩ := x
 simp only at h1 h2 h3 hln ⊢
 generalize q.all F9 = g1 at *
 generalize v.all F9 = g2 at *
 obtain ⟨hvn, hvb⟩ := hx.2
 obtain ⟨name, ⟨bx, by', half, t⟩, links⟩ := a
 obtain ⟨b0, ⟨b1, b2, b3⟩, hn, hb⟩ := ha
 simp only at b0 b1 b2 b3 hn hb hln hvn hvb ⊢
 simp only [l6]
 simp only [Am.c, Am.enc, Ast.c, Ast.enc, lks, rts, sb, ints] at *
 (repeat first | refine uA ?_ | (refine uK ?_ ?_; focus first | omega | (intros; simp_all <;> omega)) | simp (disch := omega) only [go_sem, Nat.reduceBEq, Nat.reduceAdd, ww] | (refine uD h1 ?_ ?_ ?_; exact tz hw; exact rfl) | (refine uD h2 ?_ ?_ ?_; exact tz hw; exact rfl))
 refine S.cond rfl (fun hc => ?_) (fun hc => ?_)
 ·rw [if_pos (by cases g1 <;> cases g2 <;> simp_all)]
  (repeat first | refine uA ?_ | (refine uK ?_ ?_; focus first | omega | (intros; simp_all <;> omega)) | simp (disch := omega) only [go_sem, Nat.reduceBEq, Nat.reduceAdd, ww])
  exact S.done (j3.out rfl (Imp.refl rfl) rfl)
 rw [if_neg (by cases g1 <;> cases g2 <;> simp_all)]
 (repeat first | refine uA ?_ | (refine uK ?_ ?_; focus first | omega | (intros; simp_all <;> omega)) | simp (disch := omega) only [go_sem, Nat.reduceBEq, Nat.reduceAdd, ww] | (refine uD h3 ?_ ?_ ?_; exact tz hw; exact rfl))
 refine S.cond rfl (fun hc => ?_) (fun hc => ?_)
 ·rw [if_pos (by simpa using hc)]
  (repeat first | refine uA ?_ | (refine uK ?_ ?_; focus first | omega | (intros; simp_all <;> omega)) | simp (disch := omega) only [go_sem, Nat.reduceBEq, Nat.reduceAdd, ww])
  exact S.done (j3.out rfl (Imp.refl rfl) rfl)
 rw [if_neg (by simpa using hc)]
 have hln := hln (by simpa using hc)
 (repeat first | refine uA ?_ | (refine uK ?_ ?_; focus first | omega | (intros; simp_all <;> omega)) | simp (disch := omega) only [go_sem, Nat.reduceBEq, Nat.reduceAdd, ww, c2N])
 refine S.cond rfl (fun hc => ?_) (fun hc => ?_)
 ·rw [if_pos (by simp only [c3C, Bool.not_eq_true', c2U, c3b] at hc; omega)]
  (repeat first | refine uA ?_ | (refine uK ?_ ?_; focus first | omega | (intros; simp_all <;> omega)) | simp (disch := omega) only [go_sem, Nat.reduceBEq, Nat.reduceAdd, ww])
  exact S.done (j3.out rfl (Imp.refl rfl) rfl)
 rw [if_neg (by simp only [c3r, Bool.not_eq_false', c2U, c3b] at hc; omega)]
 have hvl : v.length = links.length := by simp only [c3r, Bool.not_eq_false', c2U, c3b] at hc; omega
 (repeat first | refine uA ?_ | (refine uK ?_ ?_; focus first | omega | (intros; simp_all <;> omega)) | simp (disch := omega) only [go_sem, Nat.reduceBEq, Nat.reduceAdd, ww, c2N])
 refine S.loop (X := Nat) (fun i => ⟨[(4, .bp 1 0), (46, lks links), (47, ints links.length), (48, ints i)], [.gone, .box 61 [rts q, rts v, .v (.bool power), ints holds]]⟩) (fun i => i <= links.length /\ H7 Y9 (links.zip v) = H7 Y9 ((links.zip v).drop i)) (fun i => links.length - i) 0 ⟨c2T _, rfl⟩ (by (repeat first | refine uA ?_ | (refine ⟨?_, ?_⟩; focus first | rfl | simp [slot]) | rfl | simp)) ?_
 rintro i ⟨hi, hg⟩
 simp only [lks, ints, rts]
 (repeat first | refine uA ?_ | (refine uK ?_ ?_; focus first | omega | (intros; simp_all <;> omega)) | simp (disch := omega) only [go_sem, Nat.reduceBEq, Nat.reduceAdd, ww])
 (refine uJ rfl (fun hc => ?_) fun hc => ?_)
 ·have hi' : i < links.length := by omega
  have hgi := c2M hi'
  have hgv := c2M (show i < v.length by omega)
  generalize links[i] = l at hgi
  generalize v[i]'_ = r at hgv
  have hz := F7 hgi hgv
  have hst := a1K (f := Y9) hz
  have hnx := a1I (f := Y9) hz
  have bl := hb l (c2P hgi)
  have br := (hvb r (c2P hgv)).mono (m := 17179869184) (by decide)
  have o1 := a9d r br
  have o2 := X5 (Nm.ofQ (w9 (Nm.d9 r))) l.speed (b3D (br.fit (by decide))) (bl.2.2.2.1.mono (by decide))
  rw [Nm.r9] at o2
  unfold Y9 at hst hnx
  simp only at hst hnx
  generalize Nm.z8 (w9 (Nm.d9 r)) (Nm.d9 l.speed) = n1 at *
  unfold rq at o1
  generalize Nm.ofQ (w9 (Nm.d9 r)) = ar at *
  have hvi : (i : Int) < v.length := by omega
  simp only [rc, sb, ints] at o1 o2
  (repeat first | refine uA ?_ | (refine uK ?_ ?_; focus first | omega | (intros; simp_all <;> omega)) | simp (disch := omega) only [go_sem, Nat.reduceBEq, Nat.reduceAdd, ww, hgi, hgv, c2O, c2N, Lk.enc, rcs, vts, sb, c2X] | (refine uD o1 ?_ ?_ ?_; exact tz hw; exact rfl) | (refine uD o2 ?_ ?_ ?_; exact tz hw; exact rfl))
  refine S.cond rfl (fun hc2 => ?_) (fun hc2 => ?_)
  ·have hp : 0 < n1 := by simpa using hc2
   rw [if_pos hp] at hst
   rw [hg, show Y9 = fun x : Lk × Nm.Rt => if 0 < Nm.z8 (w9 (Nm.d9 x.2)) (Nm.d9 x.1.speed) then 1 else 0 from rfl, hst (by decide)]
   (repeat first | refine uA ?_ | (refine uK ?_ ?_; focus first | omega | (intros; simp_all <;> omega)) | simp (disch := omega) only [go_sem, Nat.reduceBEq, Nat.reduceAdd, ww])
   exact S.done (j3.out rfl (Imp.refl rfl) rfl)
  ·have hp : ¬ 0 < n1 := by simpa using hc2
   rw [if_neg hp] at hnx
   (repeat first | refine uA ?_ | (refine uK ?_ ?_; focus first | omega | (intros; simp_all <;> omega)) | simp (disch := omega) only [go_sem, Nat.reduceBEq, Nat.reduceAdd, ww])
   refine S.next (i + 1) ⟨by omega, ?_⟩ (by omega) (by (repeat first | refine uA ?_ | (refine ⟨?_, ?_⟩; focus first | rfl | simp [slot]) | rfl | simp))
   rw [hg, show Y9 = fun x : Lk × Nm.Rt => if 0 < Nm.z8 (w9 (Nm.d9 x.2)) (Nm.d9 x.1.speed) then 1 else 0 from rfl, hnx rfl]
 ·rw [hg, a2s (by rw [List.length_zip]; omega)]
  (repeat first | refine uA ?_ | (refine uK ?_ ?_; focus first | omega | (intros; simp_all <;> omega)) | simp (disch := omega) only [go_sem, Nat.reduceBEq, Nat.reduceAdd, ww])
  exact S.done (j3.out rfl (Imp.refl rfl) rfl)
set_option maxHeartbeats 16000000
theorem c2c (h : List Int) (n : Int) : (a0Z (.int .i64 n) (hdE h)).getD (.bool false) = .bool (h.contains n) := by
 rw [b9L]; cases h.contains n <;> rfl
theorem b4z {α : Type} (p : α -> Bool) (l : List α) : l.all p = !l.any fun x => !p x := by rw [List.not_any_eq_all_not]; simp
theorem b2K (w : Wk) (s : Stt) (hb : Wb 1073741824 w) (hs : Stb 1073741824 s) : FZ 9 [w.c, s.c] (ints (I5 w s)) := by
 refine kW a9X b0h (by rfl) fun w' O hw => ?_
 have hwk := a8z w hb
 obtain ⟨⟨n1, b1⟩, ⟨n2, b2⟩, ⟨n3, b3⟩, n4⟩ := hs
 have hone := fun (a : Am) (x : Ast) (ha : a ∈ w.arms) (hx : x ∈ s.arms) => c2a a x w.parts.length (hb.arms.2 a ha) (b1 x hx) (by have := hb.parts.1; omega)
 have hfr := b5K 45 (by kernel_rfl) (fun f => !a1d f) s.parts (by omega) (fun f hf => b9J f ⟨(b2 f hf).1.mono (by decide), (b2 f hf).2.1.mono (by decide), (b2 f hf).2.2.mono (by decide)⟩)
 have hvc := b2D 48 (by kernel_rfl) (fun v => !a6e v) s.people (by omega) (fun v hv => c0d v ((b3 v hv).mono (by decide)))
 have m1 := hb.arms.1
 have m2 := hb.parts.1
 have m3 := hb.gates.1
 unfold I5
 rw [b4z a1d, b4z a6e]
 generalize X7 w = e0 at *
 generalize (s.parts.any fun f => !a1d f) = g1 at *
 generalize (s.people.any fun v => !a6e v) = g2 at *
 obtain ⟨arms, walls, parts, slots, gates, walk⟩ := w
 obtain ⟨tick, sarms, sparts, people, sgates⟩ := s
 simp only at *
 simp only [a5l, l6, TT, II, OA, OB, OC, MM, LL, VV, FF, MG, LG, VG, FG]
 simp only [Wk.c, Wk.enc, Stt.c, Stt.enc, ams, wls, pts, sls, gts, R5, frs, vts, bls, sb, ints] at hwk hfr hvc ⊢
 (repeat first | refine uA ?_ | (refine uK ?_ ?_; focus first | omega | (intros; simp_all <;> omega)) | simp (disch := omega) only [go_sem, Nat.reduceBEq, Nat.reduceAdd, ww] | (refine uD hwk ?_ ?_ ?_; exact tz hw; exact rfl))
 refine S.cond rfl (fun hc => ?_) (fun hc => ?_)
 ·rw [if_pos (by simpa using hc)]
  (repeat first | refine uA ?_ | (refine uK ?_ ?_; focus first | omega | (intros; simp_all <;> omega)) | simp (disch := omega) only [go_sem, Nat.reduceBEq, Nat.reduceAdd, ww])
  exact S.done (j3.out rfl (Imp.refl rfl) rfl)
 rw [if_neg (by simpa using hc)]
 (repeat first | refine uA ?_ | (refine uK ?_ ?_; focus first | omega | (intros; simp_all <;> omega)) | simp (disch := omega) only [go_sem, Nat.reduceBEq, Nat.reduceAdd, ww, c2N])
 refine S.cond rfl (fun hc => ?_) (fun hc => ?_)
 ·rw [if_pos (by simp only [c2U] at hc; omega)]
  (repeat first | refine uA ?_ | (refine uK ?_ ?_; focus first | omega | (intros; simp_all <;> omega)) | simp (disch := omega) only [go_sem, Nat.reduceBEq, Nat.reduceAdd, ww])
  exact S.done (j3.out rfl (Imp.refl rfl) rfl)
 rw [if_neg (by simp only [c3b] at hc; omega)]
 (repeat first | refine uA ?_ | (refine uK ?_ ?_; focus first | omega | (intros; simp_all <;> omega)) | simp (disch := omega) only [go_sem, Nat.reduceBEq, Nat.reduceAdd, ww, c2N])
 refine S.cond rfl (fun hc => ?_) (fun hc => ?_)
 ·rw [if_pos (by simp only [c3C, Bool.not_eq_true', c2U, c3b] at hc; omega)]
  (repeat first | refine uA ?_ | (refine uK ?_ ?_; focus first | omega | (intros; simp_all <;> omega)) | simp (disch := omega) only [go_sem, Nat.reduceBEq, Nat.reduceAdd, ww])
  exact S.done (j3.out rfl (Imp.refl rfl) rfl)
 have hls : sarms.length = arms.length := by simp only [c3r, Bool.not_eq_false', c2U, c3b] at hc; omega
 rw [if_neg (by simp only [c3r, Bool.not_eq_false', c2U, c3b] at hc; omega)]
 (repeat first | refine uA ?_ | (refine uK ?_ ?_; focus first | omega | (intros; simp_all <;> omega)) | simp (disch := omega) only [go_sem, Nat.reduceBEq, Nat.reduceAdd, ww, c2N])
 refine S.loop (X := Nat × List Int) (fun x => ⟨[(2, .bp 0 0), (3, .bp 1 0), (6, .mp 2), (56, R5 sarms), (57, ints sarms.length), (58, ints x.1)], [.box 31 [ams arms, wls walls, pts parts, sls slots, gts gates, .v (.bool walk.neg), sb walk.num, sb walk.den], .box 37 [ints tick, R5 sarms, frs sparts, vts people, bls sgates], .map false (hdE x.2)]⟩)
  (fun x => x.1 <= sarms.length /\ u6 (K3 parts.length) [] (arms.zip sarms) = u6 (K3 parts.length) x.2 ((arms.zip sarms).drop x.1)) (fun x => sarms.length - x.1) (0, []) ⟨c2T _, rfl⟩ (by (repeat first | refine uA ?_ | (refine ⟨?_, ?_⟩; focus first | rfl | simp [slot]) | rfl | simp)) ?_
 rintro ⟨i, h⟩ ⟨hi, hg⟩
 simp only [ams, wls, pts, sls, gts, R5, frs, vts, bls, sb, ints] at hi hg ⊢
 (repeat first | refine uA ?_ | (refine uK ?_ ?_; focus first | omega | (intros; simp_all <;> omega)) | simp (disch := omega) only [go_sem, Nat.reduceBEq, Nat.reduceAdd, ww])
 (refine uJ rfl (fun hc => ?_) fun hc => ?_)
 ·have hgx := c2M (show i < sarms.length by omega)
  have hga := c2M (show i < arms.length by omega)
  generalize sarms[i]'_ = x at hgx
  generalize arms[i]'_ = a at hga
  have hz := F7 hga hgx
  have hst := a2t (f := K3 parts.length) (s := h) hz
  have hnx := a2o (f := K3 parts.length) (s := h) hz
  have ho := hone a x (c2P hga) (c2P hgx)
  have hlk := c2c h x.holds
  have hpt := c1g h x.holds
  have hai : (i : Int) < arms.length := by omega
  have hv : K3 parts.length h (a, x) = if Q9 a x parts.length ≠ 0 then (Q9 a x parts.length, h) else if (decide (0 <= x.holds) && h.contains x.holds) = true then (10, h) else (0, a7t h x.holds) := rfl
  rw [hv] at hst hnx
  clear hv
  generalize Q9 a x parts.length = e1 at *
  generalize h.contains x.holds = c1 at *
  simp only [Am.c, Am.enc, Ast.c, Ast.enc, lks, rts, sb, ints] at ho
  (repeat first | refine uA ?_ | (refine uK ?_ ?_; focus first | omega | (intros; simp_all <;> omega)) | simp (disch := omega) only [go_sem, Nat.reduceBEq, Nat.reduceAdd, ww, hga, hgx, c2O, c2N, Am.enc, Ast.enc, lks, rts, sb, ints, c2X] | (refine uD ho ?_ ?_ ?_; exact tz hw; exact rfl))
  refine S.cond rfl (fun hc2 => ?_) (fun hc2 => ?_)
  ·have h0 : e1 ≠ 0 := by simpa using hc2
   rw [if_pos h0] at hst
   rw [hg, hst h0, if_pos h0]
   (repeat first | refine uA ?_ | (refine uK ?_ ?_; focus first | omega | (intros; simp_all <;> omega)) | simp (disch := omega) only [go_sem, Nat.reduceBEq, Nat.reduceAdd, ww])
   exact S.done (j3.out rfl (Imp.refl rfl) rfl)
  have h0 : e1 = 0 := by simpa using hc2
  rw [if_neg (by simp [h0])] at hst hnx
  (repeat first | refine uA ?_ | (refine uK ?_ ?_; focus first | omega | (intros; simp_all <;> omega)) | simp (disch := omega) only [go_sem, Nat.reduceBEq, Nat.reduceAdd, ww, hlk])
  refine S.cond rfl (fun hc3 => ?_) (fun hc3 => ?_)
  ·rw [if_pos hc3] at hst
   rw [hg, hst (by simp), if_pos (by simp)]
   (repeat first | refine uA ?_ | (refine uK ?_ ?_; focus first | omega | (intros; simp_all <;> omega)) | simp (disch := omega) only [go_sem, Nat.reduceBEq, Nat.reduceAdd, ww])
   exact S.done (j3.out rfl (Imp.refl rfl) rfl)
  ·rw [if_neg (by rw [hc3]; decide)] at hnx
   (repeat first | refine uA ?_ | (refine uK ?_ ?_; focus first | omega | (intros; simp_all <;> omega)) | simp (disch := omega) only [go_sem, Nat.reduceBEq, Nat.reduceAdd, ww, hpt])
   refine S.next (x := (i, h)) (i + 1, a7t h x.holds) ⟨by simp only; omega, by simp only; rw [hg, hnx rfl]⟩ (by simp only; omega) (by (repeat first | refine uA ?_ | (refine ⟨?_, ?_⟩; focus first | rfl | simp [slot]) | rfl | simp))
 ·rw [hg, a3c (by rw [List.length_zip]; omega), if_neg (by simp)]
  (repeat first | refine uA ?_ | (refine uK ?_ ?_; focus first | omega | (intros; simp_all <;> omega)) | simp (disch := omega) only [go_sem, Nat.reduceBEq, Nat.reduceAdd, ww] | (refine uD hfr ?_ ?_ ?_; exact tz hw; exact rfl) | (refine uD hvc ?_ ?_ ?_; exact tz hw; exact rfl))
  refine S.cond rfl (fun hc => ?_) (fun hc => ?_)
  ·rw [if_neg (by cases g1 <;> cases g2 <;> simp_all)]
   (repeat first | refine uA ?_ | (refine uK ?_ ?_; focus first | omega | (intros; simp_all <;> omega)) | simp (disch := omega) only [go_sem, Nat.reduceBEq, Nat.reduceAdd, ww])
   exact S.done (j3.out rfl (Imp.refl rfl) rfl)
  ·rw [if_pos (by cases g1 <;> cases g2 <;> simp_all)]
   (repeat first | refine uA ?_ | (refine uK ?_ ?_; focus first | omega | (intros; simp_all <;> omega)) | simp (disch := omega) only [go_sem, Nat.reduceBEq, Nat.reduceAdd, ww])
   exact S.done (j3.out rfl (Imp.refl rfl) rfl)
theorem I8 : Rb 8 (Nm.ofQ 0) := ⟨Nm.F4 (by decide), Nm.F4 (by decide)⟩
theorem a7q : FZ 86 [.v (.int .i64 0)] (rq 0) := by
 have := a2y 0 (by decide) (by decide)
 rwa [show ((0 : Int) : Rat) = 0 from rfl] at this
theorem b4A : FZ 56 [] a2T.c := by
 refine kW Tryz.func56 (by cbv) (by rfl) fun w O hw => ?_
 have h1 := a7q
 have h2 := a5I (Nm.ofQ 0) (I8.mono (by decide))
 rw [Nm.r9] at h2
 unfold tq rq at *
 unfold a2T
 generalize Nm.ofQ 0 = r at *
 simp only [l6]
 simp only [Fr.c, Fr.enc, rc, tc, sb] at *
 (repeat first | refine uA ?_ | (refine uK ?_ ?_; focus first | omega | (intros; simp_all <;> omega)) | simp (disch := omega) only [go_sem, Nat.reduceBEq, Nat.reduceAdd, ww] | (refine uD h1 ?_ ?_ ?_; exact tz hw; exact rfl) | (refine uD h2 ?_ ?_ ?_; exact tz hw; exact rfl))
 (refine S.done ?_; simp only [p9, p8, go_sem, Nat.reduceBEq, Nat.reduceAdd, Nat.reduceLeDiff, Int.reduceToNat, Int.reducePow]; (repeat (refine ⟨?_, ?_⟩; focus first | trivial | omega | simp)); exact j3.out rfl (Imp.refl rfl) rfl)
open Go Eng
def c2f : List Nat := [113]
def c1T (f : Nat) : Bool := c2f.contains f
def a3g : U3 := ⟨68, [.cell 4 true 4, .tmp 5], .seq (.reg [OA 2 (.box 51 (TT 0)), OA 3 (.box 61 (TT 1)), OA 4 (.alloc 61 [.slice none 0 0, .slice none 0 0, .bool false, .int .i64 0]), OA 5 (.mv (II 0))]) (.seq (.seq (.reg [LL 10 12 2, FF 11 0 3,
 VV 12 11, FF 13 1 3, VV 14 13, OA 15 (.call 119 [TT 10, TT 12, TT 14]), MM 6 15]) (.seq (.reg [MM 16 6, OA 17 (.bin .neq (TT 16) (II 0))]) (.cond (TT 17) (.seq (.reg [OA 18 (.build [.slice none 0 0, .slice none 0 0, .bool false,
 .int .i64 0] []), MM 19 6, OB (.store 4 (TT 4) (TT 18)), MM 5 19]) .ret) .skip))) (.seq (.G6 [.q, .q, .e none false, .l, .l, .e none false, .l, .l, .l, .l, .q, .a, .e (some 7) true] [FF 20 0 3, VV 21 20, OA 22 (.call 113 [TT
 21]), FF 23 1 3, VV 24 23, OA 25 (.call 113 [TT 24]), FF 26 2 3, VV 27 26, FF 28 3 3, VV 29 28, OA 30 (.build [.slice none 0 0, .slice none 0 0, .bool false, .int .i64 0] [(0, (1, TT 22)), (1, (1, TT 25)), (2, (1, TT 27)), (3,
 (1, TT 29))]), OA 7 (.alloc 61 [.slice none 0 0, .slice none 0 0, .bool false, .int .i64 0]), OB (.store 4 (TT 7) (TT 30))]) (.seq (.seq (.reg [FF 31 11 2, VV 32 31, OA 33 (.len false (TT 32)), OA 34 (.mv (II 0))]) (.block 0
 (.loop (.seq (.reg [OA 35 (.bin .lss (TT 34) (TT 33))]) (.seq (.cond (TT 35) .skip (.exit 0)) (.seq (.block 1 (.seq (.reg [MM 36 34, OA 37 (.q8 16 (TT 32) (TT 34)), LL 38 16 37, OA 9 (.alloc 53 [.bool false, .string ⟨#[]⟩,
 .string ⟨#[]⟩, .bool false, .string ⟨#[]⟩, .string ⟨#[]⟩, .bool false, .string ⟨#[]⟩, .string ⟨#[]⟩, .bool false, .string ⟨#[]⟩, .string ⟨#[]⟩, .bool false, .string ⟨#[]⟩, .string ⟨#[]⟩, .slice none 0 0]), MM 8 36, OB (.store 16
 (TT 9) (TT 38))]) (.seq (.G6 [.q, .q, .q, .q, .q, .q, .q, .q, .q, .q, .q, .q, .e none true] [FF 39 1 7, VV 40 39, MM 41 8, FF 42 12 9, LL 43 3 42, FF 44 1 3, VV 45 44, MM 46 8, OA 47 (.q8 3 (TT 45) (TT 46)), LL 48 3 47, OA
 49 (.call 139 [TT 43, TT 48]), OA 50 (.q8 3 (TT 40) (TT 41)), OB (.store 3 (TT 50) (TT 49))]) (.G6 [.q, .q, .q, .q, .q, .q, .q, .q, .q, .q, .q, .q, .q, .q, .q, .e none true] [FF 51 0 7, VV 52 51, MM 53 8, FF 54 0 3, VV 55
 54, MM 56 8, OA 57 (.q8 3 (TT 55) (TT 56)), LL 58 3 57, FF 59 1 7, VV 60 59, MM 61 8, OA 62 (.q8 3 (TT 60) (TT 61)), LL 63 3 62, OA 64 (.call 72 [TT 58, TT 63]), OA 65 (.q8 3 (TT 52) (TT 53)), OB (.store 3 (TT 65) (TT
 64))])))) (.reg [OA 66 (.bin .add (TT 34) (II 1)), MM 34 66]))))))) (.seq (.reg [LL 67 4 7, OB (.store 4 (TT 4) (TT 67)), OA 5 (.mv (II 0))]) .ret))))⟩
theorem a6V : M9 c1T Tryz.prog Tryz.f115 = some a3g := by kernel_rfl
theorem a6A : Tryz.prog.funcs[115]? = some Tryz.f115 := Tryz.func115
set_option maxHeartbeats 8000000
theorem b0U {b v : Rat} (h : 0 < y9 b) (hv : y9 v = 0) : Nm.z8 (w9 v) b <= 0 := by
 have h1 := a0C b
 have h2 := a0C v
 have h3 : v = 0 := by
  rcases h2 with h2 | h2 | h2
  ·omega
  ·exact h2.2
  ·omega
 have h4 : 0 < b := by
  rcases h1 with h1 | h1 | h1
  ·omega
  ·omega
  ·exact h1.2
 have h5 : ¬ 0 < Nm.z8 (w9 v) b := fun h => by
  have := (V9 _ _).1 h
  rw [h3, show w9 0 = 0 from rfl] at this
  grind
 omega
theorem b8i (b v : Nm.Rt) (hb : Rb 1073741824 b) (hv : Rb 1073741824 v) (h : 0 < y9 (Nm.d9 b)) : FZ 139 [rc b, rc v] (rc (M8 b v)) := by
 refine kW Tryz.func139 (by cbv) (by rfl) fun w O hw => ?_
 have o1 := V8 b (hb.mono (by decide))
 have o2 := a9d v (hv.mono (by decide))
 have o3 := X5 (Nm.ofQ (w9 (Nm.d9 v))) b (b3D ((hv.mono (m := 17179869184) (by decide)).fit (by decide))) (hb.mono (by decide))
 rw [Nm.r9] at o3
 have o4 := a7q
 have o5 := V8 v (hv.mono (by decide))
 have o6 := a5b v b (hv.mono (by decide)) (hb.mono (by decide))
 have o7 := a1h v b (hv.mono (by decide)) (hb.mono (by decide))
 have hz := b0U (v := Nm.d9 v) h
 have hs := a0C (Nm.d9 v)
 unfold M8 Q5
 generalize Nm.z8 (w9 (Nm.d9 v)) (Nm.d9 b) = c at *
 generalize y9 (Nm.d9 b) = s1 at *
 generalize y9 (Nm.d9 v) = s2 at *
 unfold rq at *
 generalize Nm.ofQ (w9 (Nm.d9 v)) = av at *
 generalize Nm.ofQ (Nm.d9 v - Nm.d9 b) = d at *
 generalize Nm.ofQ (Nm.d9 v + Nm.d9 b) = e at *
 generalize Nm.ofQ 0 = z at *
 simp only [l6]
 simp only [rc, sb, ints] at *
 (repeat first | refine uA ?_ | (refine uK ?_ ?_; focus first | omega | (intros; simp_all <;> omega)) | simp (disch := omega) only [go_sem, Nat.reduceBEq, Nat.reduceAdd, ww] | (refine uD o1 ?_ ?_ ?_; exact tz hw; exact rfl) | (refine uD o2 ?_ ?_ ?_; exact tz hw; exact rfl) | (refine uD o3 ?_ ?_ ?_; exact tz hw; exact rfl))
 refine S.cond rfl (fun hc => ?_) (fun hc => ?_)
 ·rw [if_pos (by simp only [c3C, c2U] at hc; omega)]
  (repeat first | refine uA ?_ | (refine uK ?_ ?_; focus first | omega | (intros; simp_all <;> omega)) | simp (disch := omega) only [go_sem, Nat.reduceBEq, Nat.reduceAdd, ww] | (refine uD o4 ?_ ?_ ?_; exact tz hw; exact rfl))
  (refine S.done ?_; simp only [p9, p8, go_sem, Nat.reduceBEq, Nat.reduceAdd, Nat.reduceLeDiff, Int.reduceToNat, Int.reducePow]; (repeat (refine ⟨?_, ?_⟩; focus first | trivial | omega | simp)); exact j3.out rfl (Imp.refl rfl) rfl)
 have hc1 : ¬ c <= 0 := by simp only [c3r, c3b] at hc; omega
 rw [if_neg hc1]
 (repeat first | refine uA ?_ | (refine uK ?_ ?_; focus first | omega | (intros; simp_all <;> omega)) | simp (disch := omega) only [go_sem, Nat.reduceBEq, Nat.reduceAdd, ww] | (refine uD o5 ?_ ?_ ?_; exact tz hw; exact rfl))
 refine S.cond rfl (fun hc => ?_) (fun hc => ?_)
 ·rw [if_neg (by simp only [c2U] at hc; omega)]
  (repeat first | refine uA ?_ | (refine uK ?_ ?_; focus first | omega | (intros; simp_all <;> omega)) | simp (disch := omega) only [go_sem, Nat.reduceBEq, Nat.reduceAdd, ww] | (refine uD o6 ?_ ?_ ?_; exact tz hw; exact rfl))
  (refine S.done ?_; simp only [p9, p8, go_sem, Nat.reduceBEq, Nat.reduceAdd, Nat.reduceLeDiff, Int.reduceToNat, Int.reducePow]; (repeat (refine ⟨?_, ?_⟩; focus first | trivial | omega | simp)); exact j3.out rfl (Imp.refl rfl) rfl)
 ·rw [if_pos (by simp only [c3b] at hc; omega)]
  (repeat first | refine uA ?_ | (refine uK ?_ ?_; focus first | omega | (intros; simp_all <;> omega)) | simp (disch := omega) only [go_sem, Nat.reduceBEq, Nat.reduceAdd, ww] | (refine uD o7 ?_ ?_ ?_; exact tz hw; exact rfl))
  (refine S.done ?_; simp only [p9, p8, go_sem, Nat.reduceBEq, Nat.reduceAdd, Nat.reduceLeDiff, Int.reduceToNat, Int.reducePow]; (repeat (refine ⟨?_, ?_⟩; focus first | trivial | omega | simp)); exact j3.out rfl (Imp.refl rfl) rfl)
theorem b4K (a : Am) (q v : List Nm.Rt) (hl : Ab 1073741824 a) (ha : G8 a = 0) (hq : q.length = a.links.length) (hv : v.length = a.links.length) : FZ 119 [a.c, rts q, rts v] (ints 0) := by
 refine kW Tryz.func119 (by cbv) (by rfl) fun w O hw => ?_
 have h := a8D a hl
 rw [ha] at h
 have hn := hl.2.2.1
 obtain ⟨name, ⟨x, y, half, t⟩, links⟩ := a
 simp only at hq hv hn
 simp only [l6]
 simp only [Am.c, Am.enc, lks, rts, sb, ints] at *
 (repeat first | refine uA ?_ | (refine uK ?_ ?_; focus first | omega | (intros; simp_all <;> omega)) | simp (disch := omega) only [go_sem, Nat.reduceBEq, Nat.reduceAdd, ww] | (refine uD h ?_ ?_ ?_; exact tz hw; exact rfl))
 refine S.cond rfl (fun hc => by simp at hc) (fun hc => ?_)
 (repeat first | refine uA ?_ | (refine uK ?_ ?_; focus first | omega | (intros; simp_all <;> omega)) | simp (disch := omega) only [go_sem, Nat.reduceBEq, Nat.reduceAdd, ww, c2N])
 refine S.cond rfl (fun hc => by simp only [c3C, Bool.not_eq_true', c3b] at hc; omega) (fun hc => ?_)
 (repeat first | refine uA ?_ | (refine uK ?_ ?_; focus first | omega | (intros; simp_all <;> omega)) | simp (disch := omega) only [go_sem, Nat.reduceBEq, Nat.reduceAdd, ww])
 exact S.done (j3.out rfl (Imp.refl rfl) rfl)
theorem a9J {a : Am} {x : Ast} {i : Nat} {l : Lk} {q v : Nm.Rt} (h1 : a.links[i]? = some l) (h2 : x.v[i]? = some v) (h3 : x.q[i]? = some q) : (a1k a x)[i]? = some (M8 l.brake v) /\ (a2l a x)[i]? = some (Q5 q (M8 l.brake v)) := by
 have h4 : (a1k a x)[i]? = some (M8 l.brake v) := by
  unfold a1k
  rw [c3i, F7 h1 h2]; rfl
 refine ⟨h4, ?_⟩
 unfold a2l
 rw [c3i, F7 h3 h4]; rfl
theorem b4y {a : Am} {x : Ast} (h1 : x.q.length = a.links.length) (h2 : x.v.length = a.links.length) : (a1k a x).length = a.links.length /\ (a2l a x).length = a.links.length := by
 unfold a2l a1k
 simp only [c2N, List.length_zip]; omega
theorem a7p {α : Type} {l m : List α} {i : Nat} {y : α} (f : α -> List C) (hl : l.length = m.length) (hy : l[i]? = some y) : ((l.take i ++ m.drop i).map f).set i (f y) = (l.take (i + 1) ++ m.drop (i + 1)).map f := by
 rw [<- List.map_set, b4w hl hy]
theorem c0z {α : Type} {l m : List α} {i : Nat} {y : α} (hl : l.length = m.length) (hy : l[i]? = some y) : (l.take (i + 1) ++ m.drop (i + 1))[i]? = some y := by
 obtain ⟨hi, rfl⟩ := c2R.1 hy
 rw [c3d (by rw [c2W]; omega), List.getElem?_take, if_pos (by omega), c2M hi]
theorem b9G {k : Nat} {b v : Nm.Rt} (hk : 8 <= k) (hb : Rb k b) (hv : Rb k v) : Rb (k + k + 1) (M8 b v) := by
 unfold M8
 split
 ·exact I8.mono (by omega)
 split
 ·exact M7 (hv.fit (by omega)) (hb.fit (by omega))
 ·exact M6 (hv.fit (by omega)) (hb.fit (by omega))
theorem b9H (a : Am) (x : Ast) (hl : Ab 1073741824 a) (hx : Asb 1073741824 x) (ha : G8 a = 0) (hq : x.q.length = a.links.length) (hv : x.v.length = a.links.length) : FZ 115 [a.c, x.c] (.tup [(Ast.mk (a2l a x) (a1k a x) x.power x.holds).c, ints 0]) := by
 refine Y4.of (eff := c1T) a6A a6V (by exact c3c rfl) fun w O hw => ?_
 have h := b4K a x.q x.v hl ha hq hv
 have hbr := fun l hl => a0E ((J9 ha).2 l hl)
 have hbg := @a9J a x
 obtain ⟨hVl, hQl⟩ := b4y hq hv
 have c1 := a4p (x.q.map rcs) (by rw [c2N]; exact hx.1.1)
 have c2 := a4p (x.v.map rcs) (by rw [c2N]; exact hx.2.1)
 generalize a1k a x = V at *
 generalize a2l a x = Q at *
 obtain ⟨hqn, hqb⟩ := hx.1
 obtain ⟨hvn, hvb⟩ := hx.2
 obtain ⟨name, ⟨bx, by', half, t⟩, links⟩ := a
 obtain ⟨q, v, power, holds⟩ := x
 obtain ⟨b0, ⟨b1, b2, b3⟩, hn, hb⟩ := hl
 simp only at hq hv hn hb hbr hqn hqb hvn hvb hVl hQl hbg h c1 c2 ⊢
 simp only [a3g, l6, TT, II, OA, OB, OC, MM, LL, VV, FF, MG, LG, VG, FG]
 simp only [Am.c, Am.enc, Ast.c, Ast.enc, lks, rts, sb, ints] at h c1 c2 ⊢
 (repeat first | refine uA ?_ | (refine uK ?_ ?_; focus first | omega | (intros; simp_all <;> omega)) | simp (disch := omega) only [go_sem, Nat.reduceBEq, Nat.reduceAdd, ww] | (refine uD h ?_ ?_ ?_; exact tz hw; exact rfl))
 refine S.cond rfl (fun hc => by simp at hc) (fun hc => ?_)
 (repeat first | refine uI ?_ | (refine uK ?_ ?_; focus first | omega | (intros; simp_all <;> omega)) | simp (disch := omega) only [go_sem, Nat.reduceBEq, Nat.reduceAdd, ww])
 refine S.G6 [.gone, .box 61 [.sl 3 (q.map rcs), .sl 3 (v.map rcs), .v (.bool power), .v (.int .i64 holds)]] (by simp [Eng.F3, Eng.O9]) ?_
 (repeat first | refine uA ?_ | (refine uK ?_ ?_; focus first | omega | (intros; simp_all <;> omega)) | simp (disch := omega) only [go_sem, Nat.reduceBEq, Nat.reduceAdd, ww, F3, c2N] | refine l7.t (FNew.t c1 rfl) ?_ | refine l7.t (FNew.t c2 rfl) ?_)
 refine S.loop (X := Nat) (fun i => ⟨[(3, .bp 1 0), (4, .bp 2 0), (7, .bp 5 0), (32, lks links), (33, ints links.length), (34, ints i)], [.gone, .box 61 [.sl 3 (q.map rcs), .sl 3 (v.map rcs), .v (.bool power), .v (.int .i64 holds)], .box 61 [.v (.slice none 0 0), .v (.slice none 0 0), .v (.bool false), .v (.int .i64 0)], .row 29 3 ((Q.take i ++ q.drop i).map rcs), .row 29 3 ((V.take i ++ v.drop i).map rcs), .box 61 [.rv 3, .rv 4, .v (.bool power), .v (.int .i64 holds)]]⟩) (fun i => i <= links.length) (fun i => links.length - i) 0 (c2T _) (by (repeat first | refine uA ?_ | (refine ⟨?_, ?_⟩; focus first | rfl | simp [slot]) | rfl | simp)) ?_
 intro i hi
 simp only [lks, ints]
 (repeat first | refine uA ?_ | (refine uK ?_ ?_; focus first | omega | (intros; simp_all <;> omega)) | simp (disch := omega) only [go_sem, Nat.reduceBEq, Nat.reduceAdd, ww])
 (refine uJ rfl (fun hc => ?_) fun hc => ?_)
 ·have hi' : i < links.length := by omega
  have hgl := c2M hi'
  have hgq := c2M (show i < q.length by omega)
  have hgv := c2M (show i < v.length by omega)
  generalize links[i] = l at hgl
  generalize q[i]'_ = qi at hgq
  generalize v[i]'_ = vi at hgv
  obtain ⟨g1, g2⟩ := hbg hgl hgv hgq
  have bl := hb l (c2P hgl)
  have bv := hvb vi (c2P hgv)
  have bq := hqb qi (c2P hgq)
  have o1 := b8i l.brake vi bl.2.2.2.2.1 bv (hbr l (c2P hgl))
  have o2 := a1h qi (M8 l.brake vi) (bq.mono (by decide)) ((b9G (by decide) bl.2.2.2.2.1 bv).mono (by decide))
  have s1 := a7p rcs (by omega) g1 (m := v)
  have s2 := a7p rcs (by omega) g2 (m := q)
  have s3 := c0z (by omega) g1 (m := v)
  have m1 := a3M (l := V) (m := v) (i := i) (by omega) (by omega)
  have m2 := a3M (l := Q) (m := q) (i := i) (by omega) (by omega)
  have m3 := a3M (l := V) (m := v) (i := i + 1) (by omega) (by omega)
  unfold rq at o2
  unfold Q5 at s2
  generalize Nm.ofQ (Nm.d9 qi + Nm.d9 (M8 l.brake vi)) = z at *
  generalize M8 l.brake vi = y at *
  generalize V.take i ++ v.drop i = V0 at *
  generalize hV1 : V.take (i + 1) ++ v.drop (i + 1) = V1 at *
  generalize hQ1 : Q.take (i + 1) ++ q.drop (i + 1) = Q1 at *
  generalize Q.take i ++ q.drop i = Q0 at *
  have e1 : ∃ u, V0[i]? = some u := ⟨_, c2M (show i < V0.length by omega)⟩
  have e2 : ∃ u, Q0[i]? = some u := ⟨_, c2M (show i < Q0.length by omega)⟩
  obtain ⟨u1, e1⟩ := e1
  obtain ⟨u2, e2⟩ := e2
  simp only [rc, rcs, sb] at o1 o2 s1 s2
  (repeat first | refine uA ?_ | (refine uK ?_ ?_; focus first | omega | (intros; simp_all <;> omega)) | simp (disch := omega) only [go_sem, Nat.reduceBEq, Nat.reduceAdd, ww, hgl, hgq, hgv, e1, e2, s1, s2, s3, m1, m2, m3, c2O, c2N, Lk.enc, rcs, vts, sb, c2X] | (refine uD o1 ?_ ?_ ?_; exact tz hw; exact rfl) | (refine uD o2 ?_ ?_ ?_; exact tz hw; exact rfl))
  refine S.next (i + 1) (by omega) (by omega) (by simp only [hV1, hQ1]; exact (by (repeat first | refine uA ?_ | (refine ⟨?_, ?_⟩; focus first | rfl | simp [slot]) | rfl | simp)))
 ·have hi' : i = links.length := by omega
  subst hi'
  rw [show Q.take links.length ++ q.drop links.length = Q by rw [<- hq]; exact mid_end (by omega), show V.take links.length ++ v.drop links.length = V by rw [<- hv]; exact mid_end (by omega)]
  (repeat first | refine uA ?_ | (refine uK ?_ ?_; focus first | omega | (intros; simp_all <;> omega)) | simp (disch := omega) only [go_sem, Nat.reduceBEq, Nat.reduceAdd, ww])
  (refine S.done ?_; simp only [p9, p8, go_sem, Nat.reduceBEq, Nat.reduceAdd, Nat.reduceLeDiff, Int.reduceToNat, Int.reducePow]; (repeat (refine ⟨?_, ?_⟩; focus first | trivial | omega | simp)); exact j3.out rfl (Imp.tup (by (repeat' (first | exact l8.nil | exact Imp.refl rfl | exact Imp.frz rfl rfl rfl | exact Imp.K7 | refine Imp.agg ?_ | refine l8.cons ?_ ?_)))) rfl)
def a7E : U3 := ⟨63, [.cell 8 true 4, .tmp 9], .seq (.reg [OA 4 (.box 51 (TT 0)), OA 5 (.box 61 (TT 1)), OA 8 (.alloc 61 [.slice none 0 0, .slice none 0 0, .bool false, .int .i64 0]), OA 9 (.mv (II 0))]) (.seq (.seq (.reg [MM 15 3, OA 16 (.un
 .not (TT 15)), MM 17 16, LG 18 12 4 17 false, FG 19 0 5 17 false, VG 20 19 17 false, MG 21 2 17 false, OC 22 (.call 114 [TT 18, TT 20, TT 21]) 17 false, OC 23 (.un .not (TT 22)) 17 false, OA 24 (.pick (TT 17) (.const (.bool
 true)) (TT 23))]) (.cond (TT 24) (.seq (.reg [LL 26 12 4, LL 27 4 5, OA 28 (.call 115 [TT 26, TT 27]), MM 25 28, OA 29 (.ext (TT 25) 0), OA 30 (.ext (TT 25) 1), OA 10 (.alloc 61 [.slice none 0 0, .slice none 0 0, .bool false,
 .int .i64 0]), OB (.store 4 (TT 10) (TT 29)), MM 11 30]) (.seq (.G6 [.l, .l, .q, .e none false, .q, .e none true] [FF 31 3 5, VV 32 31, FF 33 2 10, OB (.store 1 (TT 33) (.const (.bool false))), FF 34 3 10, OB (.store 1 (TT 34)
 (TT 32))]) (.seq (.reg [LL 35 4 10, MM 36 11, OB (.store 4 (TT 8) (TT 35)), MM 9 36]) .ret))) .skip)) (.seq (.G6 [.q, .q, .q, .q, .q, .a, .e (some 12) true] [MM 37 2, OA 38 (.call 113 [TT 37]), FF 39 3 5, VV 40 39, OA 41
 (.build [.slice none 0 0, .slice none 0 0, .bool false, .int .i64 0] [(1, (1, TT 38)), (2, (1, .const (.bool true))), (3, (1, TT 40))]), OA 12 (.alloc 61 [.slice none 0 0, .slice none 0 0, .bool false, .int .i64 0]), OB (.store
 4 (TT 12) (TT 41))]) (.seq (.seq (.reg [FF 42 0 5, VV 43 42, OA 44 (.len false (TT 43)), OA 45 (.mv (II 0))]) (.block 0 (.loop (.seq (.reg [OA 46 (.bin .lss (TT 45) (TT 44))]) (.seq (.cond (TT 46) .skip (.exit 0)) (.seq (.block
 1 (.seq (.reg [MM 47 45, OA 48 (.q8 3 (TT 43) (TT 45)), LL 49 3 48, OA 14 (.alloc 29 [.bool false, .string ⟨#[]⟩, .string ⟨#[]⟩]), MM 13 47, OB (.store 3 (TT 14) (TT 49))]) (.G6 [.q, .q, .q, .q, .q, .q, .q, .q, .q, .e none
 true, .q, .e none true] [FF 50 0 12, VV 51 50, LL 52 3 14, MM 53 2, MM 54 13, OA 55 (.q8 3 (TT 53) (TT 54)), LL 56 3 55, OA 57 (.call 72 [TT 52, TT 56]), OA 58 (.bsl 29 3 1 [.bool false, .string ⟨#[]⟩, .string ⟨#[]⟩] [(0, TT
 57)]), OA 59 (.app 29 3 40 (TT 51) (TT 58)), FF 60 0 12, OB (.store 1 (TT 60) (TT 59))]))) (.reg [OA 61 (.bin .add (TT 45) (II 1)), MM 45 61]))))))) (.seq (.reg [LL 62 4 12, OB (.store 4 (TT 8) (TT 62)), OA 9 (.mv (II 0))])
 .ret))))⟩
theorem b4l : M9 eff Tryz.prog Tryz.f64 = some a7E := by kernel_rfl
theorem b4m : Tryz.prog.funcs[64]? = some Tryz.f64 := Tryz.func64
def a7Q : U3 := ⟨65, [.tmp 6], .seq (.reg [OA 3 (.box 51 (TT 0)), OA 6 (.mv (.const (.bool false)))]) (.seq (.seq (.reg [MM 10 2, OA 11 (.len false (TT 10)), FF 12 11 3, VV 13 12, OA 14 (.len false (TT 13)), OA 15 (.bin .neq (TT 11) (TT 14))])
 (.cond (TT 15) (.seq (.reg [OA 6 (.mv (.const (.bool false)))]) .ret) .skip)) (.seq (.seq (.reg [FF 16 11 3, VV 17 16, OA 18 (.len false (TT 17)), OA 19 (.mv (II 0))]) (.block 0 (.loop (.seq (.reg [OA 20 (.bin .lss (TT 19) (TT
 18))]) (.seq (.cond (TT 20) .skip (.exit 0)) (.seq (.block 1 (.seq (.reg [MM 21 19, OA 22 (.q8 16 (TT 17) (TT 19)), LL 23 16 22, OA 8 (.alloc 53 [.bool false, .string ⟨#[]⟩, .string ⟨#[]⟩, .bool false, .string ⟨#[]⟩, .string
 ⟨#[]⟩, .bool false, .string ⟨#[]⟩, .string ⟨#[]⟩, .bool false, .string ⟨#[]⟩, .string ⟨#[]⟩, .bool false, .string ⟨#[]⟩, .string ⟨#[]⟩, .slice none 0 0]), MM 7 21, OB (.store 16 (TT 8) (TT 23))]) (.seq (.G6 [.q, .q, .q, .q,
 .q, .q, .q, .q, .q, .a, .e (some 9) true] [MM 24 1, MM 25 7, OA 26 (.q8 3 (TT 24) (TT 25)), LL 27 3 26, MM 28 2, MM 29 7, OA 30 (.q8 3 (TT 28) (TT 29)), LL 31 3 30, OA 32 (.call 72 [TT 27, TT 31]), OA 9 (.alloc 29 [.bool
 false, .string ⟨#[]⟩, .string ⟨#[]⟩]), OB (.store 3 (TT 9) (TT 32))]) (.seq (.G6 [.q, .q, .q, .q, .q, .q, .q, .q, .q, .q, .q, .q, .q, .q, .q, .q, .q, .q, .q, .q, .q, .q, .q, .q, .q, .q, .q, .q, .q, .q, .q] [MM 33 2, MM 34 7,
 OA 35 (.q8 3 (TT 33) (TT 34)), LL 36 3 35, OA 37 (.call 40 [TT 36]), OA 38 (.un .not (TT 37)), MM 39 38, MG 40 2 39 false, MG 41 7 39 false, OC 42 (.q8 3 (TT 40) (TT 41)) 39 false, LG 43 3 42 39 false, OC 44 (.call 61 [TT
 43]) 39 false, FG 45 9 8 39 false, LG 46 3 45 39 false, OC 47 (.call 22 [TT 44, TT 46]) 39 false, OC 48 (.bin .gtr (TT 47) (II 0)) 39 false, OA 49 (.pick (TT 39) (.const (.bool true)) (TT 48)), MM 50 49, LG 51 3 9 50 false, FG
 52 3 8 50 false, LG 53 3 52 50 false, OC 54 (.call 22 [TT 51, TT 53]) 50 false, OC 55 (.bin .lss (TT 54) (II 0)) 50 false, OA 56 (.pick (TT 50) (.const (.bool true)) (TT 55)), MM 57 56, LG 58 3 9 57 false, FG 59 6 8 57 false, LG
 60 3 59 57 false, OC 61 (.call 22 [TT 58, TT 60]) 57 false, OC 62 (.bin .gtr (TT 61) (II 0)) 57 false, OA 63 (.pick (TT 57) (.const (.bool true)) (TT 62))]) (.cond (TT 63) (.seq (.reg [OA 6 (.mv (.const (.bool false)))]) .ret)
 .skip))))) (.reg [OA 64 (.bin .add (TT 19) (II 1)), MM 19 64]))))))) (.seq (.reg [OA 6 (.mv (.const (.bool true)))]) .ret)))⟩
theorem b4c : M9 eff Tryz.prog Tryz.f114 = some a7Q := by kernel_rfl
theorem b4e : Tryz.prog.funcs[114]? = some Tryz.f114 := Tryz.func114
theorem b4p {α β γ : Type} {f : α × β × γ -> Bool} {g : γ -> Bool} : ∀ (l : List α) (q : List β) (u : List γ), q.length = l.length -> u.length = l.length -> (u.all g && (l.zip (q.zip u)).all f) = (l.zip (q.zip u)).all fun x => g x.2.2 && f x
 | [], [], [], _, _ => rfl
 | a :: l, b :: q, c :: u, h1, h2 => by
  have ih := b4p (f := f) (g := g) l q u (by simpa using h1) (by simpa using h2)
  simp only [List.zip_cons_cons, List.all_cons, <- ih]
  cases g c <;> cases u.all g <;> simp
theorem b8m {α : Type} {f : α -> Bool} {l : List α} {i : Nat} {x : α} (h : l[i]? = some x) : (l.drop i).all f = (f x && (l.drop (i + 1)).all f) := by
 rw [drop_at h, List.all_cons]
theorem b9b (p q : Rat) : Nm.z8 p q < 0 <-> 0 < Nm.z8 q p := by rw [a1Y, V9]
def b3j (x : Lk × Nm.Rt × Nm.Rt) : Bool := F9 x.2.2 && b5J x
theorem c2h (a : Am) (q u : List Nm.Rt) (hl : Ab 1073741824 a) (hq : Rbs 1073741824 q) (hu : Rbs 1073741824 u) (hql : q.length = a.links.length) : FZ 114 [a.c, rts q, rts u] (.v (.bool (a5P a q u))) := by
  refine kW b4e b4c (by rfl) fun w O hw => ?_
  obtain ⟨hqn, hqb⟩ := hq
  obtain ⟨hun, hub⟩ := hu
  unfold a5P
  obtain ⟨name, ⟨bx, by', half, t⟩, links⟩ := a
  obtain ⟨b0, ⟨b1, b2, b3⟩, hn, hb⟩ := hl
  simp only at b0 b1 b2 b3 hn hb hql ⊢
  simp only [a7Q, l6, TT, II, OA, OB, OC, MM, LL, VV, FF, MG, LG, VG, FG]
  simp only [Am.c, Am.enc, lks, rts, sb, ints]
  (repeat first | refine uA ?_ | (refine uK ?_ ?_; focus first | omega | (intros; simp_all <;> omega)) | simp (disch := omega) only [go_sem, Nat.reduceBEq, Nat.reduceAdd, ww, c2N])
  refine S.cond rfl (fun hc => ?_) (fun hc => ?_)
  · rw [show decide (u.length = links.length) = false from decide_eq_false (by simp only [Bool.not_eq_true', c3b] at hc; omega), Bool.false_and]
    (repeat first | refine uA ?_ | (refine uK ?_ ?_; focus first | omega | (intros; simp_all <;> omega)) | simp (disch := omega) only [go_sem, Nat.reduceBEq, Nat.reduceAdd, ww])
    exact S.done (j3.out rfl (Imp.refl rfl) rfl)
  have hul : u.length = links.length := by simp only [Bool.not_eq_false', c2U] at hc; omega
  rw [decide_eq_true hul, Bool.true_and, b4p links q u hql hul, show (fun x : Lk × Nm.Rt × Nm.Rt => F9 x.2.2 && b5J x) = b3j from rfl]
  (repeat first | refine uA ?_ | (refine uK ?_ ?_; focus first | omega | (intros; simp_all <;> omega)) | simp (disch := omega) only [go_sem, Nat.reduceBEq, Nat.reduceAdd, ww, c2N])
  refine S.loop (X := Nat) (fun i => ⟨[(1, rts q), (2, rts u), (17, lks links), (18, ints links.length), (19, ints i)], []⟩) (fun i => i <= links.length /\ (links.zip (q.zip u)).all b3j = ((links.zip (q.zip u)).drop i).all b3j) (fun i => links.length - i) 0 ⟨c2T _, rfl⟩ (by (repeat first | refine uA ?_ | (refine ⟨?_, ?_⟩; focus first | rfl | simp [slot]) | rfl | simp)) ?_
  rintro i ⟨hi, hg⟩
  simp only [rts, lks, ints]
  (repeat first | refine uA ?_ | (refine uK ?_ ?_; focus first | omega | (intros; simp_all <;> omega)) | simp (disch := omega) only [go_sem, Nat.reduceBEq, Nat.reduceAdd, ww])
  (refine uJ rfl (fun hc => ?_) fun hc => ?_)
  · have hi' : i < links.length := by omega
    have hgl := c2M hi'
    have hgq := c2M (show i < q.length by omega)
    have hgu := c2M (show i < u.length by omega)
    generalize links[i] = l at hgl
    generalize q[i]'_ = qi at hgq
    generalize u[i]'_ = ui at hgu
    have hd := b8m (f := b3j) (F7 hgl (F7 hgq hgu))
    have bl := hb l (c2P hgl)
    have bq := (hqb qi (c2P hgq)).mono (m := 17179869184) (by decide)
    have bu := (hub ui (c2P hgu)).mono (m := 17179869184) (by decide)
    have bz := (M7 ((hqb qi (c2P hgq)).fit (by decide)) ((hub ui (c2P hgu)).fit (by decide))).mono (m := 17179869184) (by decide)
    have o1 := a1h qi ui bq bu
    have o2 := a1e ui (bu.mono (by decide))
    have o3 := a9d ui bu
    have o4 := X5 (Nm.ofQ (w9 (Nm.d9 ui))) l.speed (b3D (bu.fit (by decide))) (bl.2.2.2.1.mono (by decide))
    have o5 := X5 (Nm.ofQ (Nm.d9 qi + Nm.d9 ui)) l.low bz (bl.2.1.mono (by decide))
    have o6 := X5 (Nm.ofQ (Nm.d9 qi + Nm.d9 ui)) l.high bz (bl.2.2.1.mono (by decide))
    have hsw := b9b (Nm.d9 qi + Nm.d9 ui) (Nm.d9 l.low)
    rw [Nm.r9] at o4 o5 o6
    have hv : b3j (l, qi, ui) = (decide ui.H8 && !(decide (0 < Nm.z8 (w9 (Nm.d9 ui)) (Nm.d9 l.speed)) || decide (0 < Nm.z8 (Nm.d9 l.low) (Nm.d9 qi + Nm.d9 ui)) || decide (0 < Nm.z8 (Nm.d9 qi + Nm.d9 ui) (Nm.d9 l.high)))) := rfl
    rw [hv] at hd
    clear hv
    generalize decide ui.H8 = g at *
    generalize Nm.z8 (w9 (Nm.d9 ui)) (Nm.d9 l.speed) = c1 at *
    generalize Nm.z8 (Nm.d9 l.low) (Nm.d9 qi + Nm.d9 ui) = c2 at *
    generalize Nm.z8 (Nm.d9 qi + Nm.d9 ui) (Nm.d9 l.low) = c3 at *
    generalize Nm.z8 (Nm.d9 qi + Nm.d9 ui) (Nm.d9 l.high) = c4 at *
    unfold rq at o1 o3
    generalize Nm.ofQ (Nm.d9 qi + Nm.d9 ui) = z at *
    generalize Nm.ofQ (w9 (Nm.d9 ui)) = au at *
    have hqi : (i : Int) < q.length := by omega
    have hui : (i : Int) < u.length := by omega
    simp only [rc, sb, ints] at o1 o2 o3 o4 o5 o6
    (repeat first | refine uG o1 ?_ | refine uG o2 ?_ | refine uG o3 ?_ | refine uG o4 ?_ | refine uG o5 ?_ | refine uG o6 ?_ | refine uA ?_ | (refine uK ?_ ?_; focus first | omega | (intros; simp_all <;> omega)) | simp (disch := omega) only [go_sem, Nat.reduceBEq, Nat.reduceAdd, ww, hgl, hgq, hgu, c2O, c2N, Lk.enc, rcs, vts, sb, c2X] | (refine uD o1 ?_ ?_ ?_; exact tz hw; exact rfl) | (refine uD o2 ?_ ?_ ?_; exact tz hw; exact rfl) | (refine uD o3 ?_ ?_ ?_; exact tz hw; exact rfl) | (refine uD o4 ?_ ?_ ?_; exact tz hw; exact rfl) | (refine uD o5 ?_ ?_ ?_; exact tz hw; exact rfl) | (refine uD o6 ?_ ?_ ?_; exact tz hw; exact rfl))
    refine S.cond rfl (fun hc2 => ?_) (fun hc2 => ?_)
    · rw [hg, hd, show (g && !(decide (0 < c1) || decide (0 < c2) || decide (0 < c4))) = false by
        cases g
        · rfl
        · simp only [Bool.not_true, Bool.false_or, c3C, c2U] at hc2
          rw [show (decide (0 < c1) || decide (0 < c2) || decide (0 < c4)) = true by simp only [c3C, c2U]; omega]
          rfl, Bool.false_and]
      (repeat first | refine uA ?_ | (refine uK ?_ ?_; focus first | omega | (intros; simp_all <;> omega)) | simp (disch := omega) only [go_sem, Nat.reduceBEq, Nat.reduceAdd, ww])
      exact S.done (j3.out rfl (Imp.refl rfl) rfl)
    · (repeat first | refine uA ?_ | (refine uK ?_ ?_; focus first | omega | (intros; simp_all <;> omega)) | simp (disch := omega) only [go_sem, Nat.reduceBEq, Nat.reduceAdd, ww])
      refine S.next (i + 1) ⟨by omega, ?_⟩ (by omega) (by (repeat first | refine uA ?_ | (refine ⟨?_, ?_⟩; focus first | rfl | simp [slot]) | rfl | simp))
      rw [hg, hd, show (g && !(decide (0 < c1) || decide (0 < c2) || decide (0 < c4))) = true by
        cases g
        · simp at hc2
        · simp only [Bool.not_true, Bool.false_or, c3r, c3b] at hc2
          rw [show (decide (0 < c1) || decide (0 < c2) || decide (0 < c4)) = false by simp only [c3r, c3b]; omega]
          rfl, Bool.true_and]
  · rw [hg, List.drop_eq_nil_of_le (by simp only [List.length_zip]; omega), List.all_nil]
    (repeat first | refine uA ?_ | (refine uK ?_ ?_; focus first | omega | (intros; simp_all <;> omega)) | simp (disch := omega) only [go_sem, Nat.reduceBEq, Nat.reduceAdd, ww])
    exact S.done (j3.out rfl (Imp.refl rfl) rfl)
theorem b6p {x : Ast} {u : List Nm.Rt} {i : Nat} {q v : Nm.Rt} (h1 : x.q[i]? = some q) (h2 : u[i]? = some v) : (mvQ x u)[i]? = some (Q5 q v) := by
 unfold mvQ
 rw [c3i, F7 h1 h2]; rfl
theorem take_at {α : Type} {l : List α} {i : Nat} {x : α} (h : l[i]? = some x) : l.take (i + 1) = l.take i ++ [x] := by
 obtain ⟨hi, rfl⟩ := c2R.1 h
 exact c3E hi
theorem c1c (a : Am) (x : Ast) (u : List Nm.Rt) (p : Bool) (hl : Ab 1073741824 a) (hx : Asb 1073741824 x) (hu : Rbs 1073741824 u) (ha : G8 a = 0) (hq : x.q.length = a.links.length) (hv : x.v.length = a.links.length) : FZ 64 [a.c, x.c, rts u, .v (.bool p)] (.tup [(X3 a x u p).c, ints 0]) := by
 refine kW b4m b4l (by rfl) fun w O hw => ?_
 have h1 := b9H a x hl hx ha hq hv
 have h2 := c2h a x.q u hl hx.1 hu hq
 have h3 : a5P a x.q u = true -> u.length = a.links.length := fun h => by unfold a5P at h; rw [c2S] at h; exact of_decide_eq_true h.1
 have h4 := @b6p x u
 have h5 : (mvQ x u).length = min x.q.length u.length := by unfold mvQ; rw [c2N, List.length_zip]
 have c1 := (a4p (u.map rcs) (by rw [c2N]; exact hu.1)).spec
 obtain ⟨hqn, hqb⟩ := hx.1
 obtain ⟨hun, hub⟩ := hu
 unfold X3 mvA a9B
 generalize a2l a x = BQ at *
 generalize a1k a x = BV at *
 generalize mvQ x u = M at *
 generalize a5P a x.q u = m at *
 obtain ⟨name, ⟨bx, by', half, t⟩, links⟩ := a
 obtain ⟨q, v, power, holds⟩ := x
 simp only at h1 h2 h3 h4 h5 hq hv hqn hqb ⊢
 have hn := hl.2.2.1
 simp only at hn
 simp only [a7E, l6, TT, II, OA, OB, OC, MM, LL, VV, FF, MG, LG, VG, FG]
 simp only [Am.c, Am.enc, Ast.c, Ast.enc, lks, rts, sb, ints] at h1 h2 c1 ⊢
 by_cases hm : (p && m) = true
 ·rw [if_pos hm]
  rw [c2S] at hm
  obtain ⟨rfl, rfl⟩ := hm
  have h3 := h3 rfl
  (repeat first | refine uG h2 ?_ | refine uA ?_ | (refine uK ?_ ?_; focus first | omega | (intros; simp_all <;> omega)) | simp (disch := omega) only [go_sem, Nat.reduceBEq, Nat.reduceAdd, ww] | (refine uD h2 ?_ ?_ ?_; exact tz hw; exact rfl))
  refine S.cond rfl (fun hc => by simp at hc) (fun hc => ?_)
  (repeat first | refine uF c1 ?_ | refine uA ?_ | (refine uK ?_ ?_; focus first | omega | (intros; simp_all <;> omega)) | simp (disch := omega) only [go_sem, Nat.reduceBEq, Nat.reduceAdd, ww, c2N] | (refine uB c1 ?_ ?_; exact rfl))
  refine S.loop (X := Nat) (fun i => ⟨[(2, rts u), (8, .bp 2 0), (12, .bp 3 0), (43, rts q), (44, ints q.length), (45, ints i)], [.gone, .gone, .box 61 [.v (.slice none 0 0), .v (.slice none 0 0), .v (.bool false), .v (.int .i64 0)], .box 61 [.rv 4, rts u, .v (.bool true), ints holds], .row 29 3 ((M.take i).map rcs)]⟩) (fun i => i <= q.length) (fun i => q.length - i) 0 (c2T _) (Ent.trans (Ent.a1P 3 0 29 3 rfl rfl rfl) (by (repeat first | refine uA ?_ | (refine ⟨?_, ?_⟩; focus first | rfl | simp [slot]) | rfl | simp))) ?_
  intro i hi
  simp only [rts, ints]
  (repeat first | refine uA ?_ | (refine uK ?_ ?_; focus first | omega | (intros; simp_all <;> omega)) | simp (disch := omega) only [go_sem, Nat.reduceBEq, Nat.reduceAdd, ww])
  (refine uJ rfl (fun hc => ?_) fun hc => ?_)
  ·have hgq := c2M (show i < q.length by omega)
   have hgu := c2M (show i < u.length by omega)
   generalize q[i]'_ = qi at hgq
   generalize u[i]'_ = ui at hgu
   have hap := take_at (h4 hgq hgu)
   have htl : (M.take i).length = i := by rw [c2W]; omega
   have o1 := a1h qi ui ((hqb qi (c2P hgq)).mono (by decide)) ((hub ui (c2P hgu)).mono (by decide))
   unfold rq at o1
   unfold Q5 at hap
   generalize Nm.ofQ (Nm.d9 qi + Nm.d9 ui) = z at *
   have hui : (i : Int) < u.length := by omega
   simp only [rc, sb] at o1
   (repeat first | refine uG o1 ?_ | refine uA ?_ | (refine uK ?_ ?_; focus first | omega | (intros; simp_all <;> omega)) | simp (disch := omega) only [go_sem, Nat.reduceBEq, Nat.reduceAdd, ww, hgq, hgu, c2O, c2N, rcs, sb, htl, c2X] | (refine uD o1 ?_ ?_ ?_; exact tz hw; exact rfl))
   refine S.next (i + 1) (by omega) (by omega) (by simp only [hap, c3D, c3e, c3v, rcs, sb]; exact (by (repeat first | refine uA ?_ | (refine ⟨?_, ?_⟩; focus first | rfl | simp [slot]) | rfl | simp)))
  ·have hi' : i = q.length := by omega
   subst hi'
   rw [c3f (by omega)]
   (repeat first | refine uA ?_ | (refine uK ?_ ?_; focus first | omega | (intros; simp_all <;> omega)) | simp (disch := omega) only [go_sem, Nat.reduceBEq, Nat.reduceAdd, ww])
   (refine S.done ?_; simp only [p9, p8, go_sem, Nat.reduceBEq, Nat.reduceAdd, Nat.reduceLeDiff, Int.reduceToNat, Int.reducePow]; (repeat (refine ⟨?_, ?_⟩; focus first | trivial | omega | simp)); exact j3.out rfl (Imp.tup (by (repeat' (first | exact l8.nil | exact Imp.refl rfl | exact Imp.frz rfl rfl rfl | exact Imp.K7 | refine Imp.agg ?_ | refine l8.cons ?_ ?_)))) rfl)
 ·rw [if_neg hm]
  cases p
  ·(repeat first | refine uG h2 ?_ | refine uA ?_ | (refine uK ?_ ?_; focus first | omega | (intros; simp_all <;> omega)) | simp (disch := omega) only [go_sem, Nat.reduceBEq, Nat.reduceAdd, ww] | (refine uD h2 ?_ ?_ ?_; exact tz hw; exact rfl))
   refine S.cond rfl (fun hc => ?_) (fun hc => by simp at hc)
   (repeat first | refine uG h1 ?_ | refine uI ?_ | (refine uK ?_ ?_; focus first | omega | (intros; simp_all <;> omega)) | simp (disch := omega) only [go_sem, Nat.reduceBEq, Nat.reduceAdd, ww] | (refine uD h1 ?_ ?_ ?_; exact tz hw; exact rfl))
   refine S.G6 [.gone, .box 61 [.sl 3 (q.map rcs), .sl 3 (v.map rcs), .v (.bool power), .v (.int .i64 holds)]] (by simp [Eng.F3, Eng.O9]) ?_
   (repeat first | refine uA ?_ | (refine uK ?_ ?_; focus first | omega | (intros; simp_all <;> omega)) | simp (disch := omega) only [go_sem, Nat.reduceBEq, Nat.reduceAdd, ww])
   (refine S.done ?_; simp only [p9, p8, go_sem, Nat.reduceBEq, Nat.reduceAdd, Nat.reduceLeDiff, Int.reduceToNat, Int.reducePow]; (repeat (refine ⟨?_, ?_⟩; focus first | trivial | omega | simp)); exact j3.out rfl (Imp.tup (by (repeat' (first | exact l8.nil | exact Imp.refl rfl | exact Imp.frz rfl rfl rfl | exact Imp.K7 | refine Imp.agg ?_ | refine l8.cons ?_ ?_)))) rfl)
  ·have hm : m = false := by simpa using hm
   subst hm
   (repeat first | refine uG h2 ?_ | refine uA ?_ | (refine uK ?_ ?_; focus first | omega | (intros; simp_all <;> omega)) | simp (disch := omega) only [go_sem, Nat.reduceBEq, Nat.reduceAdd, ww] | (refine uD h2 ?_ ?_ ?_; exact tz hw; exact rfl))
   refine S.cond rfl (fun hc => ?_) (fun hc => by simp at hc)
   (repeat first | refine uG h1 ?_ | refine uI ?_ | (refine uK ?_ ?_; focus first | omega | (intros; simp_all <;> omega)) | simp (disch := omega) only [go_sem, Nat.reduceBEq, Nat.reduceAdd, ww] | (refine uD h1 ?_ ?_ ?_; exact tz hw; exact rfl))
   refine S.G6 [.gone, .box 61 [.sl 3 (q.map rcs), .sl 3 (v.map rcs), .v (.bool power), .v (.int .i64 holds)]] (by simp [Eng.F3, Eng.O9]) ?_
   (repeat first | refine uA ?_ | (refine uK ?_ ?_; focus first | omega | (intros; simp_all <;> omega)) | simp (disch := omega) only [go_sem, Nat.reduceBEq, Nat.reduceAdd, ww])
   (refine S.done ?_; simp only [p9, p8, go_sem, Nat.reduceBEq, Nat.reduceAdd, Nat.reduceLeDiff, Int.reduceToNat, Int.reducePow]; (repeat (refine ⟨?_, ?_⟩; focus first | trivial | omega | simp)); exact j3.out rfl (Imp.tup (by (repeat' (first | exact l8.nil | exact Imp.refl rfl | exact Imp.frz rfl rfl rfl | exact Imp.K7 | refine Imp.agg ?_ | refine l8.cons ?_ ?_)))) rfl)
theorem a9P (f g : Fr) (h1 : Rb 4294967296 f.x) (h2 : Rb 4294967296 f.y) (h3 : Rb 268435456 f.t) (h4 : Rb 268435456 g.x) (h5 : Rb 268435456 g.y) (h6 : Rb 268435456 g.t) : FZ 12 [f.c, g.c] (P9 f g).c := by
 refine kW Tryz.func12 (by cbv) (by rfl) fun w O hw => ?_
 have k1 := c2g f ⟨g.x, g.y⟩ h1 h2 h3 h4 h5
 have k2 := c0J f.half f.t g.half g.t (h3.mono (by decide)) (h6.mono (by decide))
 unfold P9 vq tq at *
 generalize Nm.ofQ (a8q f ⟨g.x, g.y⟩) = r1 at *
 generalize Nm.ofQ (a8u f ⟨g.x, g.y⟩) = r2 at *
 generalize a2x f.half (x9 f.half f.t) g.half (x9 g.half g.t) = r3 at *
 obtain ⟨r3, r4⟩ := r3
 simp only at *
 generalize Nm.ofQ r4 = r5 at *
 obtain ⟨fx, fy, fh, ft⟩ := f
 obtain ⟨gx, gy, gh, gt⟩ := g
 simp only [l6]
 simp only [Fr.c, Fr.enc, Vt.c, Vt.enc, vc, tc, sb] at *
 (repeat first | refine uA ?_ | (refine uK ?_ ?_; focus first | omega | (intros; simp_all <;> omega)) | simp (disch := omega) only [go_sem, Nat.reduceBEq, Nat.reduceAdd, ww] | (refine uD k1 ?_ ?_ ?_; exact tz hw; exact rfl) | (refine uD k2 ?_ ?_ ?_; exact tz hw; exact rfl))
 (refine S.done ?_; simp only [p9, p8, go_sem, Nat.reduceBEq, Nat.reduceAdd, Nat.reduceLeDiff, Int.reduceToNat, Int.reducePow]; (repeat (refine ⟨?_, ?_⟩; focus first | trivial | omega | simp)); exact j3.out rfl (Imp.refl rfl) rfl)
theorem b9S (f : Fr) (hf : Fb 1048576 f) : FZ 13 [f.c] (a1L f).c := by
 refine kW Tryz.func13 (by cbv) (by rfl) fun w O hw => ?_
 obtain ⟨h1, h2, h3⟩ := hf
 have k1 := c0g f.half f.t (h3.mono (by decide))
 have k2 := b4A
 have k3 := b2T (Nm.ofQ 0) (Nm.ofQ 0) f.x f.y (I8.mono (by decide)) (I8.mono (by decide)) (h1.mono (by decide)) (h2.mono (by decide))
 rw [Nm.r9] at k3
 have s1 := M6 I8 (h1.fit (by decide))
 have s2 := M6 I8 (h2.fit (by decide))
 have s3 := a3J (V7 (h := f.half) h3 (by decide))
 have k4 := b4F (Nm.ofQ (0 - Nm.d9 f.x)) (Nm.ofQ (0 - Nm.d9 f.y)) (Nm.ofQ (- x9 f.half f.t)) f.half (s1.mono (by decide)) (s2.mono (by decide)) (s3.mono (by decide))
 unfold a1L
 unfold a2T at k2
 unfold vq tq at *
 generalize Nm.ofQ (Nm.d9 (Nm.ofQ (0 - Nm.d9 f.x)) * U7 f.half (x9 f.half (Nm.ofQ (- x9 f.half f.t))) - Nm.d9 (Nm.ofQ (0 - Nm.d9 f.y)) * U6 (x9 f.half (Nm.ofQ (- x9 f.half f.t)))) = r1 at *
 generalize Nm.ofQ (Nm.d9 (Nm.ofQ (0 - Nm.d9 f.x)) * U6 (x9 f.half (Nm.ofQ (- x9 f.half f.t))) + Nm.d9 (Nm.ofQ (0 - Nm.d9 f.y)) * U7 f.half (x9 f.half (Nm.ofQ (- x9 f.half f.t)))) = r2 at *
 generalize Nm.ofQ (0 - Nm.d9 f.x) = r3 at *
 generalize Nm.ofQ (0 - Nm.d9 f.y) = r4 at *
 generalize Nm.ofQ (- x9 f.half f.t) = r5 at *
 generalize Nm.ofQ 0 = z at *
 obtain ⟨fx, fy, fh, ft⟩ := f
 simp only [l6]
 simp only [Fr.c, Fr.enc, vc, tc, sb] at *
 (repeat first | refine uA ?_ | (refine uK ?_ ?_; focus first | omega | (intros; simp_all <;> omega)) | simp (disch := omega) only [go_sem, Nat.reduceBEq, Nat.reduceAdd, ww] | (refine uD k1 ?_ ?_ ?_; exact tz hw; exact rfl) | (refine uD k2 ?_ ?_ ?_; exact tz hw; exact rfl) | (refine uD k3 ?_ ?_ ?_; exact tz hw; exact rfl) | (refine uD k4 ?_ ?_ ?_; exact tz hw; exact rfl))
 (refine S.done ?_; simp only [p9, p8, go_sem, Nat.reduceBEq, Nat.reduceAdd, Nat.reduceLeDiff, Int.reduceToNat, Int.reducePow]; (repeat (refine ⟨?_, ?_⟩; focus first | trivial | omega | simp)); exact j3.out rfl (Imp.refl rfl) rfl)
theorem b9Z {f : Fr} {c : Vt} {x t k : Nat} (hx : Rb x f.x) (hy : Rb x f.y) (ht : Rb t f.t) (hc1 : Rb k c.x) (hc2 : Rb k c.y) (h1 : 1 <= x) (h2 : 1 <= t) (h3 : 1 <= k) : Rb (x + 2 * (k + 4 * t + 18) + 2) (Nm.ofQ (a8q f c)) /\ Rb (x + 2 * (k + 4 * t + 18) + 2) (Nm.ofQ (a8u f c)) := by
 have g1 := a9n f.half (V7 (h := f.half) ht h2)
 have g2 := a9e (V7 (h := f.half) ht h2)
 have g3 := hc1.fit h3
 have g4 := hc2.fit h3
 unfold a8q a8u
 exact ⟨(M7 (hx.fit h1) (M6 (J5 g3 g1) (J5 g4 g2))).mono (by omega), (M7 (hy.fit h1) (M7 (J5 g3 g2) (J5 g4 g1))).mono (by omega)⟩
theorem b7U {h1 h2 : Bool} {p q : Rat} {a b : Nat} (hp : Rb a (Nm.ofQ p)) (hq : Rb b (Nm.ofQ q)) : Rb (2 * (a + b) + 16) (Nm.ofQ (a2x h1 p h2 q).2) := by
 have kb : Rb 8 (Nm.ofQ (-1)) := ⟨Nm.F4 (by decide), Nm.F4 (by decide)⟩
 have kz : Rb (2 * (a + b) + 16) (Nm.ofQ 0) := I8.mono (by omega)
 unfold a2x
 split
 ·exact kz
 split
 ·split
  ·exact kz
  ·rename_i h; exact (a3i h kb hq).mono (by omega)
 split
 ·split
  ·exact kz
  ·rename_i h; exact (a3i h kb hp).mono (by omega)
 split
 ·exact kz
 ·rename_i h; exact (a3i h (M7 hp hq) (M6 a0a (J5 hp hq))).mono (by omega)
theorem b3e {f g : Fr} {x t k u : Nat} (hx : Rb x f.x) (hy : Rb x f.y) (ht : Rb t f.t) (hc1 : Rb k g.x) (hc2 : Rb k g.y) (hu : Rb u g.t) (h1 : 1 <= x) (h2 : 1 <= t) (h3 : 1 <= k) (h4 : 1 <= u) :
  Rb (x + 2 * (k + 4 * t + 18) + 2) (P9 f g).x /\ Rb (x + 2 * (k + 4 * t + 18) + 2) (P9 f g).y /\ Rb (2 * (t + u) + 16) (P9 f g).t := by
 obtain ⟨a, b⟩ := b9Z (c := ⟨g.x, g.y⟩) hx hy ht hc1 hc2 h1 h2 h3
 exact ⟨a, b, b7U (V7 ht h2) (V7 hu h4)⟩
def tB : Nat -> Nat
 | 0 => 8
 | n + 1 => 2 * (2 * (tB n + 2097664) + 16 + 8) + 16
def xB : Nat -> Nat
 | 0 => 8
 | n + 1 => xB n + 2 * (8 + 4 * tB n + 18) + 2 + 2 * (8 + 4 * (2 * (tB n + 2097664) + 16) + 18) + 2
theorem b3h {i : Nat} (h : i <= 3) : 8 <= tB i /\ 8 <= xB i /\ tB i <= 176205632 /\ xB i <= 1308956300 := by
 have : i = 0 \/ i = 1 \/ i = 2 \/ i = 3 := by omega
 rcases this with rfl | rfl | rfl | rfl <;> decide
theorem b_lt {i : Nat} (h : i < 3) : 2 * (tB i + 2097664) + 16 <= 88102800 /\ xB i + 2 * (8 + 4 * tB i + 18) + 2 <= 604133846 := by
 have : i = 0 \/ i = 1 \/ i = 2 := by omega
 rcases this with rfl | rfl | rfl <;> decide
def Fx (i : Nat) (f : Fr) : Prop := Rb (xB i) f.x /\ Rb (xB i) f.y /\ Rb (tB i) f.t
theorem a7v {e : Fr} {i : Nat} {q : Nm.Rt} (he : Fx i e) (hi : i < 3) (hq : Rb 2097664 q) : Rb (xB i + 2 * (8 + 4 * tB i + 18) + 2) (P9 e (a0x q)).x /\ Rb (xB i + 2 * (8 + 4 * tB i + 18) + 2) (P9 e (a0x q)).y /\ Rb (2 * (tB i + 2097664) + 16) (P9 e (a0x q)).t := by
 have hb := b3h (show i <= 3 by omega)
 exact b3e he.1 he.2.1 he.2.2 I8 I8 (hq.fit (by decide)) (by omega) (by omega) (by omega) (by decide)
theorem b6Z {e : Fr} {i : Nat} {q : Nm.Rt} {l : Lk} (he : Fx i e) (hi : i < 3) (hq : Rb 2097664 q) (hl : Rb 8 l.length) : Fx (i + 1) (P9 (P9 e (a0x q)) (a6c l)) := by
 obtain ⟨h1, h2, h3⟩ := a7v he hi hq
 exact b3e h1 h2 h3 hl I8 I8 (by omega) (by omega) (by omega) (by decide)
theorem b6u {a : Am} (h : G8 a = 0) : Fx 0 a.base /\ ∀ l ∈ a.links, Rb 8 l.length := by
 have hl := (J9 h).2
 unfold G8 at h
 split at h
 ·cases h
 split at h
 ·cases h
 split at h
 ·cases h
 rename_i h1
 have hs : (j4 a.base.x && j4 a.base.y && j4 a.base.t) = true := by
  cases hb : (j4 a.base.x && j4 a.base.y && j4 a.base.t) with
  | true => rfl
  | false => exact absurd (.inr (.inl hb)) h1
 simp only [c2S] at hs
 refine ⟨⟨(X0 hs.1.1).mono (by decide), (X0 hs.1.2).mono (by decide), (X0 hs.2).mono (by decide)⟩, fun l hm => ?_⟩
 have := hl l hm
 unfold N7 at this
 split at this
 ·cases this
 rename_i h2
 have hs2 : (j4 l.length && j4 l.low && j4 l.high && j4 l.speed && j4 l.brake) = true := by
  cases hb : (j4 l.length && j4 l.low && j4 l.high && j4 l.speed && j4 l.brake) with
  | true => rfl
  | false => exact absurd (.inl hb) h2
 simp only [c2S] at hs2
 exact (X0 hs2.1.1.1.1).mono (by decide)
theorem b9y : ∀ (z : List (Lk × Nm.Rt)) (e : Fr) (i : Nat), Fx i e -> i + z.length <= 3 -> (∀ y ∈ z, Rb 8 y.1.length /\ Rb 2097664 y.2) -> Fx (i + z.length) (a3p e z)
 | [], e, i, he, _, _ => he
 | (l, q) :: r, e, i, he, hi, hz => by
  simp only [c3g] at hi
  have h1 := b6Z (l := l) he (by omega) (hz (l, q) (by simp)).2 (hz (l, q) (by simp)).1
  have h2 := b9y r _ (i + 1) h1 (by omega) fun y hy => hz y (by simp [hy])
  simp only [a3p, c3g]
  rwa [show i + 1 + r.length = i + (r.length + 1) by omega] at h2
def a5k : U3 := ⟨62, [.tmp 4, .tmp 5], .seq (.reg [OA 2 (.box 51 (TT 0)), OA 4 (.mv (.const (.slice none 0 0))), OA 5 (.mv (II 0))]) (.seq (.seq (.reg [LL 14 12 2, MM 15 1, OA 16 (.len false (TT 15)), OA 17 (.call 101 [TT 14, TT 16]), MM 6 17])
 (.seq (.reg [MM 18 6, OA 19 (.bin .neq (TT 18) (II 0))]) (.cond (TT 19) (.seq (.reg [MM 20 6, OA 4 (.mv (.const (.slice none 0 0))), MM 5 20]) .ret) .skip))) (.seq (.reg [FF 21 1 2, LL 22 10 21, OA 7 (.alloc 48 [.bool false,
 .string ⟨#[]⟩, .string ⟨#[]⟩, .bool false, .string ⟨#[]⟩, .string ⟨#[]⟩, .bool false, .bool false, .string ⟨#[]⟩, .string ⟨#[]⟩]), OB (.store 10 (TT 7) (TT 22))]) (.seq (.reg [OA 23 (.call 86 [II 0]), OA 24 (.call 86 [II 0]), OA
 25 (.build [.bool false, .string ⟨#[]⟩, .string ⟨#[]⟩, .bool false, .string ⟨#[]⟩, .string ⟨#[]⟩] [(0, (3, TT 23)), (3, (3, TT 24))]), OA 8 (.alloc 44 [.bool false, .string ⟨#[]⟩, .string ⟨#[]⟩, .bool false, .string ⟨#[]⟩,
 .string ⟨#[]⟩]), OB (.store 6 (TT 8) (TT 25))]) (.seq (.reg [OA 26 (.call 86 [II 0]), OA 27 (.call 102 [TT 26]), OA 9 (.alloc 46 [.bool false, .bool false, .string ⟨#[]⟩, .string ⟨#[]⟩]), OB (.store 4 (TT 9) (TT 27))]) (.seq
 (.reg [OA 10 (.mv (.const (.slice none 0 0)))]) (.seq (.seq (.reg [FF 28 11 2, VV 29 28, OA 30 (.len false (TT 29)), OA 31 (.mv (II 0))]) (.block 0 (.loop (.seq (.reg [OA 32 (.bin .lss (TT 31) (TT 30))]) (.seq (.cond (TT 32)
 .skip (.exit 0)) (.seq (.block 1 (.seq (.reg [MM 33 31, OA 34 (.q8 16 (TT 29) (TT 31)), LL 35 16 34, OA 12 (.alloc 53 [.bool false, .string ⟨#[]⟩, .string ⟨#[]⟩, .bool false, .string ⟨#[]⟩, .string ⟨#[]⟩, .bool false, .string
 ⟨#[]⟩, .string ⟨#[]⟩, .bool false, .string ⟨#[]⟩, .string ⟨#[]⟩, .bool false, .string ⟨#[]⟩, .string ⟨#[]⟩, .slice none 0 0]), MM 11 33, OB (.store 16 (TT 12) (TT 35))]) (.seq (.G6 [.q, .q, .q, .q, .q, .q, .q, .q, .q, .a, .e
 (some 13) true] [LL 36 10 7, LL 37 6 8, MM 38 1, MM 39 11, OA 40 (.q8 3 (TT 38) (TT 39)), LL 41 3 40, OA 42 (.call 102 [TT 41]), OA 43 (.build [.bool false, .string ⟨#[]⟩, .string ⟨#[]⟩, .bool false, .string ⟨#[]⟩, .string
 ⟨#[]⟩, .bool false, .bool false, .string ⟨#[]⟩, .string ⟨#[]⟩] [(0, (6, TT 37)), (6, (4, TT 42))]), OA 44 (.call 12 [TT 36, TT 43]), OA 13 (.alloc 48 [.bool false, .string ⟨#[]⟩, .string ⟨#[]⟩, .bool false, .string ⟨#[]⟩,
 .string ⟨#[]⟩, .bool false, .bool false, .string ⟨#[]⟩, .string ⟨#[]⟩]), OB (.store 10 (TT 13) (TT 44))]) (.seq (.reg [MM 45 10, LL 46 10 13, OA 47 (.bsl 48 10 1 [.bool false, .string ⟨#[]⟩, .string ⟨#[]⟩, .bool false, .string
 ⟨#[]⟩, .string ⟨#[]⟩, .bool false, .bool false, .string ⟨#[]⟩, .string ⟨#[]⟩] [(0, TT 46)]), OA 48 (.app 48 10 128 (TT 45) (TT 47)), MM 10 48]) (.G6 [.q, .q, .q, .q, .q, .q, .q, .q, .e none true] [LL 49 10 13, FF 50 0 12, LL
 51 3 50, OA 52 (.call 86 [II 0]), OA 53 (.build [.bool false, .string ⟨#[]⟩, .string ⟨#[]⟩, .bool false, .string ⟨#[]⟩, .string ⟨#[]⟩] [(0, (3, TT 51)), (3, (3, TT 52))]), LL 54 4 9, OA 55 (.build [.bool false, .string ⟨#[]⟩,
 .string ⟨#[]⟩, .bool false, .string ⟨#[]⟩, .string ⟨#[]⟩, .bool false, .bool false, .string ⟨#[]⟩, .string ⟨#[]⟩] [(0, (6, TT 53)), (6, (4, TT 54))]), OA 56 (.call 12 [TT 49, TT 55]), OB (.store 10 (TT 7) (TT 56))]))))) (.reg
 [OA 57 (.bin .add (TT 31) (II 1)), MM 31 57]))))))) (.seq (.reg [MM 58 10, LL 59 10 7, OA 60 (.bsl 48 10 1 [.bool false, .string ⟨#[]⟩, .string ⟨#[]⟩, .bool false, .string ⟨#[]⟩, .string ⟨#[]⟩, .bool false, .bool false, .string
 ⟨#[]⟩, .string ⟨#[]⟩] [(0, TT 59)]), OA 61 (.app 48 10 128 (TT 58) (TT 60)), MM 4 61, OA 5 (.mv (II 0))]) .ret)))))))⟩
theorem b0b : M9 eff Tryz.prog Tryz.f51 = some a5k := by kernel_rfl
theorem b0d : Tryz.prog.funcs[51]? = some Tryz.f51 := Tryz.func51
theorem b8p (a : Am) (q : List Nm.Rt) (hl : Ab 1073741824 a) (ha : G8 a = 0) (hql : q.length = a.links.length) (hq : ∀ r ∈ q, Rb 2097664 r) : FZ 51 [a.c, rts q] (.tup [frs (a0T a.base (a.links.zip q)), ints 0]) := by
 refine kW b0d b0b (by rfl) fun w O hw => ?_
 have h := b6a a q.length hl
 rw [c1y ha (by omega)] at h
 have hz := a7q
 have ht := a5I (Nm.ofQ 0) (I8.mono (by decide))
 rw [Nm.r9] at ht
 obtain ⟨fb, lb⟩ := b6u ha
 have hn3 := (X8 ha).2
 have hn := hl.2.2.1
 obtain ⟨name, base, links⟩ := a
 simp only at hql fb lb hn3 hn ⊢
 have t1 := fun (e : Fr) (i : Nat) (l : Lk) (r : Nm.Rt) (he : Fx i e) (hi : i < 3) (hr : Rb 2097664 r) => a9P e (a0x r) (he.1.mono (by have := b3h (show i <= 3 by omega); omega)) (he.2.1.mono (by have := b3h (show i <= 3 by omega); omega)) (he.2.2.mono (by have := b3h (show i <= 3 by omega); omega)) (I8.mono (by decide)) (I8.mono (by decide)) ((hr.fit (by decide)).mono (by decide))
 have t2 := fun (e : Fr) (i : Nat) (l : Lk) (r : Nm.Rt) (he : Fx i e) (hi : i < 3) (hr : Rb 2097664 r) (hl : Rb 8 l.length) => a9P (P9 e (a0x r)) (a6c l) ((a7v he hi hr).1.mono (by have := b_lt hi; omega)) ((a7v he hi hr).2.1.mono (by have := b_lt hi; omega)) ((a7v he hi hr).2.2.mono (by have := b_lt hi; omega)) (hl.mono (by decide)) (I8.mono (by decide)) (I8.mono (by decide))
 simp only [a5k, l6, TT, II, OA, OB, OC, MM, LL, VV, FF, MG, LG, VG, FG]
 unfold rq at hz
 unfold tq at ht
 have hj : ∀ r, a0x r = ⟨Nm.ofQ 0, Nm.ofQ 0, false, Nm.ofQ (Nm.d9 r)⟩ := fun _ => rfl
 have hlg : ∀ l : Lk, a6c l = ⟨l.length, Nm.ofQ 0, false, Nm.ofQ 0⟩ := fun _ => rfl
 generalize Nm.ofQ 0 = z at *
 simp only [Am.c, Am.enc, lks, rts, rc, tc, sb, ints] at h hz ht ⊢
 (repeat first | refine uA ?_ | (refine uK ?_ ?_; focus first | omega | (intros; simp_all <;> omega)) | simp (disch := omega) only [go_sem, Nat.reduceBEq, Nat.reduceAdd, ww, c2N] | (refine uD h ?_ ?_ ?_; exact tz hw; exact rfl))
 refine S.cond rfl (fun hc => by simp at hc) (fun hc => ?_)
 (repeat first | refine uA ?_ | (refine uK ?_ ?_; focus first | omega | (intros; simp_all <;> omega)) | simp (disch := omega) only [go_sem, Nat.reduceBEq, Nat.reduceAdd, ww, c2N] | (refine uD hz ?_ ?_ ?_; exact tz hw; exact rfl) | (refine uD ht ?_ ?_ ?_; exact tz hw; exact rfl))
 refine S.loop (X := Nat × Fr × List Fr) (fun x => ⟨[(1, rts q), (7, .bp 1 0), (8, .bp 2 0), (9, .bp 3 0), (10, .rv 4), (29, lks links), (30, ints links.length), (31, ints x.1)], [.gone, .box 48 x.2.1.enc, .box 44 [.v (.bool z.neg), sb z.num, sb z.den, .v (.bool z.neg), sb z.num, sb z.den], .box 46 [.v (.bool false), .v (.bool z.neg), sb z.num, sb z.den], .row 48 10 (x.2.2.map Fr.enc)]⟩)
  (fun x => x.1 <= links.length /\ x.2.2.length = x.1 /\ a0T base (links.zip q) = x.2.2 ++ a0T x.2.1 ((links.zip q).drop x.1) /\ Fx x.1 x.2.1) (fun x => links.length - x.1) (0, base, []) ⟨c2T _, rfl, rfl, fb⟩ (Ent.trans (Ent.pack 10 48 10 rfl) (by simp only [Fr.enc, sb]; exact (by (repeat first | refine uA ?_ | (refine ⟨?_, ?_⟩; focus first | rfl | simp [slot]) | rfl | simp)))) ?_
 rintro ⟨i, e, outs⟩ ⟨hi, ho, hg, hF⟩
 simp only at hi ho hg hF
 simp only [rts, lks, sb, ints, Fr.enc]
 (repeat first | refine uA ?_ | (refine uK ?_ ?_; focus first | omega | (intros; simp_all <;> omega)) | simp (disch := omega) only [go_sem, Nat.reduceBEq, Nat.reduceAdd, ww])
 (refine uJ rfl (fun hc => ?_) fun hc => ?_)
 ·have hi' : i < links.length := by omega
  have hgl := c2M hi'
  have hgq := c2M (show i < q.length by omega)
  generalize links[i] = l at hgl
  generalize q[i]'_ = r at hgq
  have hr := hq r (c2P hgq)
  have hb := lb l (c2P hgl)
  have k1 := t1 e i l r hF (by omega) hr
  have k2 := t2 e i l r hF (by omega) hr hb
  have k3 := a5I r (hr.mono (by decide))
  have hF' := b6Z (l := l) hF (by omega) hr hb
  rw [drop_at (F7 hgl hgq), a0T] at hg
  unfold tq at k3
  generalize P9 (P9 e (a0x r)) (a6c l) = e2 at *
  generalize P9 e (a0x r) = f at *
  rw [hj] at k1
  rw [hlg] at k2
  generalize Nm.ofQ (Nm.d9 r) = y at *
  have hqi : (i : Int) < q.length := by omega
  simp only [Fr.c, Fr.enc, rc, tc, sb] at k1 k2 k3
  (repeat first | refine uA ?_ | (refine uK ?_ ?_; focus first | omega | (intros; simp_all <;> omega)) | simp (disch := omega) only [go_sem, Nat.reduceBEq, Nat.reduceAdd, ww, hgl, hgq, c2O, c2N, Lk.enc, rcs, vts, sb, ho, c2X] | (refine uD hz ?_ ?_ ?_; exact tz hw; exact rfl) | (refine uD k1 ?_ ?_ ?_; exact tz hw; exact rfl) | (refine uD k2 ?_ ?_ ?_; exact tz hw; exact rfl) | (refine uD k3 ?_ ?_ ?_; exact tz hw; exact rfl))
  refine S.next (x := (i, e, outs)) (i + 1, e2, outs ++ [f]) ⟨by simp only; omega, by simp only [c3a, ho]; rfl, by simp only; rw [hg, c3x]; rfl, hF'⟩ (by simp only; omega) (by simp only [c3D, c3e, c3v, Fr.enc, sb]; exact (by (repeat first | refine uA ?_ | (refine ⟨?_, ?_⟩; focus first | rfl | simp [slot]) | rfl | simp)))
 ·rw [List.drop_eq_nil_of_le (by rw [List.length_zip]; omega), a0T] at hg
  rw [hg]
  (repeat first | refine uA ?_ | (refine uK ?_ ?_; focus first | omega | (intros; simp_all <;> omega)) | simp (disch := omega) only [go_sem, Nat.reduceBEq, Nat.reduceAdd, ww, c2N])
  simp only [frs, c3D, c3e, c3v, Fr.enc, sb]
  (refine S.done ?_; simp only [p9, p8, go_sem, Nat.reduceBEq, Nat.reduceAdd, Nat.reduceLeDiff, Int.reduceToNat, Int.reducePow]; (repeat (refine ⟨?_, ?_⟩; focus first | trivial | omega | simp)); exact j3.out rfl (Imp.tup (by (repeat' (first | exact l8.nil | exact Imp.refl rfl | exact Imp.frz rfl rfl rfl | exact Imp.K7 | refine Imp.agg ?_ | refine l8.cons ?_ ?_)))) rfl)
theorem c2j (a : Am) (q : List Nm.Rt) (hl : Ab 1073741824 a) (ha : G8 a = 0) (hql : q.length = a.links.length) (hq : ∀ r ∈ q, Rb 2097664 r) : FZ 11 [a.c, rts q] (.tup [(a3p a.base (a.links.zip q)).c, ints 0]) := by
 refine kW Tryz.func11 (by cbv) (by rfl) fun w O hw => ?_
 have h := b8p a q hl ha hql hq
 obtain ⟨h1, h2⟩ := a7U (a.links.zip q) a.base
 have hn : (a.links.zip q).length <= 1073741824 := by rw [List.length_zip]; have := hl.2.2.1; omega
 generalize a0T a.base (a.links.zip q) = L at *
 generalize a3p a.base (a.links.zip q) = T at *
 generalize (a.links.zip q).length = n at *
 obtain ⟨name, base, links⟩ := a
 simp only [l6]
 simp only [Am.c, Am.enc, lks, rts, frs, Fr.c, Fr.enc, sb, ints] at h ⊢
 have e1 : ((L.length : Int) - 1) = (n : Int) := by omega
 have e2 : (n : Int) < L.length := by omega
 (repeat first | refine uA ?_ | (refine uK ?_ ?_; focus first | omega | (intros; simp_all <;> omega)) | simp (disch := omega) only [go_sem, Nat.reduceBEq, Nat.reduceAdd, ww] | (refine uD h ?_ ?_ ?_; exact tz hw; exact rfl))
 refine S.cond rfl (fun hc => by simp at hc) (fun hc => ?_)
 (repeat first | refine uA ?_ | (refine uK ?_ ?_; focus first | omega | (intros; simp_all <;> omega)) | simp (disch := omega) only [go_sem, Nat.reduceBEq, Nat.reduceAdd, ww, c2N, e1, h1, c2O, Fr.enc, sb, c2X])
 (refine S.done ?_; simp only [p9, p8, go_sem, Nat.reduceBEq, Nat.reduceAdd, Nat.reduceLeDiff, Int.reduceToNat, Int.reducePow]; (repeat (refine ⟨?_, ?_⟩; focus first | trivial | omega | simp)); exact j3.out rfl (Imp.tup (by (repeat' (first | exact l8.nil | exact Imp.refl rfl | exact Imp.frz rfl rfl rfl | exact Imp.K7 | refine Imp.agg ?_ | refine l8.cons ?_ ?_)))) rfl)
theorem c1v {f : Fr} (h : Fb 1048576 f) : Rb 268435456 (a1L f).x /\ Rb 268435456 (a1L f).y /\ Rb 268435456 (a1L f).t := by
 obtain ⟨c1, c2, c3⟩ := h
 have s1 := (M6 I8 (c1.fit (by decide)))
 have s2 := (M6 I8 (c2.fit (by decide)))
 have s3 := a3J (V7 (h := f.half) c3 (by decide))
 have g1 := a9n f.half (V7 (h := f.half) s3 (by decide))
 have g2 := a9e (V7 (h := f.half) s3 (by decide))
 have s4 := s1.fit (by decide)
 have s5 := s2.fit (by decide)
 unfold a1L
 exact ⟨(M6 (J5 s4 g1) (J5 s5 g2)).mono (by decide), (M7 (J5 s4 g2) (J5 s5 g1)).mono (by decide), s3.mono (by decide)⟩
theorem b6i {w : Wk} {n : Nat} {q : List Nm.Rt} {a : Am} {p : Nat} {pt : Pt} (hwb : Wb 1048576 w) (ga : w.arms[n]? = some a) (gp : w.parts[p]? = some pt) (ha : G8 a = 0) (hql : q.length = a.links.length) (hq : ∀ r ∈ q, Rb 2097664 r) : FZ 12 [(a3p a.base (a.links.zip q)).c, (a1L pt.grasp).c] (P9 (a3p a.base (a.links.zip q)) (a1L pt.grasp)).c := by
 have hb := hwb.parts.2 pt (c2P gp)
 obtain ⟨fb, lb⟩ := b6u ha
 have ht := b9y (a.links.zip q) a.base 0 fb (by have := (X8 ha).2; rw [List.length_zip]; omega) fun y hy => ⟨lb _ (List.of_mem_zip hy).1, hq _ (List.of_mem_zip hy).2⟩
 have hc := b3h (show 0 + (a.links.zip q).length <= 3 by have := (X8 ha).2; rw [List.length_zip]; omega)
 have hk := c1v hb.2.2
 exact a9P (a3p a.base (a.links.zip q)) (a1L pt.grasp) (ht.1.mono (by omega)) (ht.2.1.mono (by omega)) (ht.2.2.mono (by omega)) hk.1 hk.2.1 hk.2.2
theorem b6z (w : Wk) (n : Nat) (x : Ast) (a : Am) (p : Nat) (pt : Pt) (hwb : Wb 1048576 w) (ga : w.arms[n]? = some a) (gp : w.parts[p]? = some pt) (hx : x.holds = p) (ha : G8 a = 0) (hql : x.q.length = a.links.length) (hq : ∀ r ∈ x.q, Rb 2097664 r) :
  FZ 63 [w.c, .v (.int .i64 (n : Int)), x.c] (.tup [(a7f a x.q pt.grasp).c, ints 0]) := by
 refine kW Tryz.func63 (by cbv) (by rfl) fun w' O hw => ?_
 obtain ⟨n1, b1⟩ := hwb.arms
 obtain ⟨n2, b2⟩ := hwb.parts
 have h1 := c2j a x.q ((b1 a (c2P ga)).mono (by decide)) ha hql hq
 have h2 := b9S pt.grasp (b2 pt (c2P gp)).2.2
 have h3 := b6i hwb ga gp ha hql hq
 unfold a7f
 have na := (c2R.1 ga).1
 have np := (c2R.1 gp).1
 generalize a3p a.base (a.links.zip x.q) = T at *
 generalize P9 T (a1L pt.grasp) = R at *
 generalize a1L pt.grasp = B at *
 obtain ⟨q, v, power, holds⟩ := x
 obtain ⟨arms, walls, parts, slots, gates, walk⟩ := w
 simp only at ga gp na np hx h1 ⊢
 subst hx
 have na' : (n : Int) < arms.length := by omega
 have np' : (p : Int) < parts.length := by omega
 simp only [l6]
 simp only [Wk.c, Wk.enc, Am.c, Am.enc, Ast.c, Ast.enc, Fr.c, Fr.enc, ams, wls, pts, sls, gts, lks, rts, sb, ints] at h1 h2 h3 ⊢
 (repeat first | refine uA ?_ | (refine uK ?_ ?_; focus first | omega | (intros; simp_all <;> omega)) | simp (disch := omega) only [go_sem, Nat.reduceBEq, Nat.reduceAdd, ww, ga, c2O, c2N, Am.enc, lks, sb, c2X] | (refine uD h1 ?_ ?_ ?_; exact tz hw; exact rfl))
 refine S.cond rfl (fun hc => by simp at hc) (fun hc => ?_)
 (repeat first | refine uA ?_ | (refine uK ?_ ?_; focus first | omega | (intros; simp_all <;> omega)) | simp (disch := omega) only [go_sem, Nat.reduceBEq, Nat.reduceAdd, ww, gp, c2O, c2N, Pt.enc, vts, sb, c2X] | (refine uD h2 ?_ ?_ ?_; exact tz hw; exact rfl) | (refine uD h3 ?_ ?_ ?_; exact tz hw; exact rfl))
 (refine S.done ?_; simp only [p9, p8, go_sem, Nat.reduceBEq, Nat.reduceAdd, Nat.reduceLeDiff, Int.reduceToNat, Int.reducePow]; (repeat (refine ⟨?_, ?_⟩; focus first | trivial | omega | simp)); exact j3.out rfl (Imp.tup (by (repeat' (first | exact l8.nil | exact Imp.refl rfl | exact Imp.frz rfl rfl rfl | exact Imp.K7 | refine Imp.agg ?_ | refine l8.cons ?_ ?_)))) rfl)
set_option maxHeartbeats 16000000
def b1E : List C := [.v (.int .i64 0), .v (.slice none 0 0), .v (.slice none 0 0), .v (.slice none 0 0), .v (.slice none 0 0)]
def c1Q (v : Vt) (z : Gt) : Prop := Nm.z8 (Nm.d9 v.x) (Nm.d9 z.low.x) < 0 \/ 0 < Nm.z8 (Nm.d9 v.x) (Nm.d9 z.high.x) \/ Nm.z8 (Nm.d9 v.y) (Nm.d9 z.low.y) < 0 \/ 0 < Nm.z8 (Nm.d9 v.y) (Nm.d9 z.high.y)
instance (v : Vt) (z : Gt) : Decidable (c1Q v z) := by unfold c1Q; infer_instance
def c2p : List Nat := [27, 111]
def c2F (f : Nat) : Bool := c2p.contains f
theorem b9R {E : Ctx} (hP : E.P = Tryz.prog) (s : Stt) (hs : Stb 1073741824 s) :
  j5 E [] 62 [s.c] (.agg [ints s.tick, .rv 5, .rv 2, .rv 3, bls s.gates]) [.gone, .gone, .row 48 10 (s.parts.map Fr.enc), .row 44 6 (s.people.map Vt.enc), .gone, .row 61 4 (s.arms.map Ast.enc)] [] := by
 obtain ⟨P, eff', N, w0, own0, av0, nu0, pk0⟩ := E
 simp only at hP
 subst hP
 refine j5.of (eff := c2F) Tryz.func62 (by cbv) (by exact c3c rfl) fun w own av ν hν => ?_
 have hν0 : ν.length <= 0 := by rw [hν]; exact c2V _
 obtain ⟨⟨n1, b1⟩, ⟨n2, b2⟩, ⟨n3, b3⟩, n4⟩ := hs
 obtain ⟨tick, arms, parts, people, gates⟩ := s
 simp only at n1 b1 n2 n3 n4 ⊢
 have c1 := b4Y (parts.map Fr.enc) (by rw [c2N]; exact n2)
 have c2 := b8y (people.map Vt.enc) (by rw [c2N]; exact n3)
 have c3 := (b6R (gates.map fun b => [.v (.bool b)]) (by rw [c2N]; exact n4)).spec
 simp only [l6]
 simp only [Stt.c, Stt.enc, R5, frs, vts, bls, ints]
 (repeat first | refine uI ?_ | (refine uK ?_ ?_; focus first | omega | (intros; simp_all <;> omega)) | simp (disch := omega) only [go_sem, Nat.reduceBEq, Nat.reduceAdd, ww])
 refine S.G6 [.box 37 [.v (.int .i64 tick), .sl 4 (arms.map Ast.enc), .sl 10 (parts.map Fr.enc), .sl 6 (people.map Vt.enc), .sl 1 (gates.map fun b => [.v (.bool b)])]] (by simp [Eng.F3, Eng.O9]) ?_
 (repeat first | refine uA ?_ | (refine uK ?_ ?_; focus first | omega | (intros; simp_all <;> omega)) | simp (disch := omega) only [go_sem, Nat.reduceBEq, Nat.reduceAdd, ww, F3, c2N] | refine l7.t (FNew.t c1 rfl) ?_ | refine l7.t (FNew.t c2 rfl) ?_ | (refine uB c3 ?_ ?_; exact rfl))
 refine S.loop (X := Nat) (fun i => ⟨[(2, .bp 1 0), (3, .bp 4 0), (19, R5 arms), (20, ints arms.length), (21, ints i)], [.gone, .box 37 [.v (.int .i64 0), .v (.slice none 0 0), .v (.slice none 0 0), .v (.slice none 0 0), .v (.slice none 0 0)], .row 48 10 (parts.map Fr.enc), .row 44 6 (people.map Vt.enc), .box 37 [ints tick, .rv 5, .rv 2, .rv 3, bls gates], .row 61 4 ((arms.take i).map Ast.enc)]⟩) (fun i => i <= arms.length) (fun i => arms.length - i) 0 (c2T _)
  (Ent.trans (Ent.a1P 4 1 61 4 rfl rfl rfl) (by (repeat first | refine uA ?_ | (refine ⟨?_, ?_⟩; focus first | rfl | simp [slot]) | rfl | simp | exact c2Q hν0 (by simp)))) ?_
 intro i hi
 simp only [R5, bls, ints]
 (repeat first | refine uA ?_ | (refine uK ?_ ?_; focus first | omega | (intros; simp_all <;> omega)) | simp (disch := omega) only [go_sem, Nat.reduceBEq, Nat.reduceAdd, ww])
 (refine uJ rfl (fun hc => ?_) fun hc => ?_)
 ·have hi' : i < arms.length := by omega
  have hgi := c2M hi'
  have hap : arms.take (i + 1) = arms.take i ++ [arms[i]] := c3E hi'
  generalize arms[i] = x at hgi hap
  obtain ⟨⟨q1, _⟩, ⟨q2, _⟩⟩ := b1 x (c2P hgi)
  have e1 := (a4p (x.q.map rcs) (by rw [c2N]; exact q1)).spec
  have e2 := (a4p (x.v.map rcs) (by rw [c2N]; exact q2)).spec
  have htl : (arms.take i).length = i := by rw [c2W]; omega
  (repeat first | refine uA ?_ | (refine uK ?_ ?_; focus first | omega | (intros; simp_all <;> omega)) | simp (disch := omega) only [go_sem, Nat.reduceBEq, Nat.reduceAdd, ww, hgi, c2O, c2N, Ast.enc, rts, ints, htl] | (refine uB e1 ?_ ?_; exact rfl) | (refine uB e2 ?_ ?_; exact rfl))
  refine S.next (i + 1) (by omega) (by omega) (by simp only [hap, c3D, c3e, c3v, Ast.enc, rts, ints]; exact (by (repeat first | refine uA ?_ | (refine ⟨?_, ?_⟩; focus first | rfl | simp [slot]) | rfl | simp | exact c2Q hν0 (by simp))))
 ·have hi' : i = arms.length := by omega
  subst hi'
  rw [c3j]
  (repeat first | refine uA ?_ | (refine uK ?_ ?_; focus first | omega | (intros; simp_all <;> omega)) | simp (disch := omega) only [go_sem, Nat.reduceBEq, Nat.reduceAdd, ww])
  (refine S.done ?_; simp only [p9, p8, go_sem, Nat.reduceBEq, Nat.reduceAdd, Nat.reduceLeDiff, Int.reduceToNat, Int.reducePow]; (repeat (refine ⟨?_, ?_⟩; focus first | trivial | omega | simp)); exact j3.L8 (Imp.agg (by (repeat' (first | exact l8.nil | exact Imp.refl rfl | exact Imp.frz rfl rfl rfl | exact Imp.K7 | refine l8.cons ?_ ?_)))) (by (repeat first | refine uA ?_ | (refine ⟨?_, ?_⟩; focus first | rfl | simp [slot]) | rfl | simp)) (c2Q hν0 (by simp)))
def wss (u : List (List Nm.Rt)) : C := .sl 1 (u.map fun l => [rts l])
def Wsb (k : Nat) (u : List (List Nm.Rt)) : Prop := u.length <= k /\ ∀ l ∈ u, Rbs k l
theorem a3Z {k m n : Nat} {a b : Nm.Rt} (ha : Rb k a) (hb : Rb m b) (h1 : 1 <= k) (h2 : 1 <= m) (hn : k + m + 1 <= n) : Rb n (Q5 a b) := (M7 (ha.fit h1) (hb.fit h2)).mono hn
theorem a9z {l : Lk} (h : N7 l = 0) : Rb 8 l.brake := by
 unfold N7 at h
 split at h
 ·cases h
 rename_i h2
 have hs2 : (j4 l.length && j4 l.low && j4 l.high && j4 l.speed && j4 l.brake) = true := by
  cases hb : (j4 l.length && j4 l.low && j4 l.high && j4 l.speed && j4 l.brake) with
  | true => rfl
  | false => exact absurd (.inl hb) h2
 simp only [c2S] at hs2
 exact (X0 hs2.2).mono (by decide)
theorem a4h {α β γ : Type} {f : α × β -> γ} {l : List α} {m : List β} {z : γ} (h : z ∈ (l.zip m).map f) : ∃ a ∈ l, ∃ b ∈ m, z = f (a, b) := by
 obtain ⟨⟨a, b⟩, hm, rfl⟩ := List.mem_map.1 h
 exact ⟨a, (List.of_mem_zip hm).1, b, (List.of_mem_zip hm).2, rfl⟩
theorem c1d {a : Am} {x : Ast} {u : List Nm.Rt} {p : Bool} (ha : G8 a = 0) (hx : Asb 1048576 x) (hu : ∀ r ∈ u, Rb 1048576 r) : (∀ r ∈ (X3 a x u p).q, Rb 2097664 r) /\ ∀ r ∈ (X3 a x u p).v, Rb 2097664 r := by
 have hv : ∀ r ∈ a1k a x, Rb 1048585 r := fun r hr => by
  obtain ⟨l, hl, v, hv, rfl⟩ := a4h hr
  have h1 := hx.2.2 v hv
  have h2 := a9z ((J9 ha).2 l hl)
  unfold M8
  split
  ·exact I8.mono (by decide)
  split
  ·exact a3Z h1 h2 (by decide) (by decide) (by decide)
  ·exact (M6 (h1.fit (by decide)) (h2.fit (by decide))).mono (by decide)
 unfold X3
 split
 ·refine ⟨fun r hr => ?_, fun r hr => (hu r hr).mono (by decide)⟩
  obtain ⟨q, hq, v, hv, rfl⟩ := a4h (show r ∈ mvQ x u from hr)
  exact a3Z (hx.1.2 q hq) (hu v hv) (by decide) (by decide) (by decide)
 ·refine ⟨fun r hr => ?_, fun r hr => (hv r hr).mono (by decide)⟩
  obtain ⟨q, hq, v, hv', rfl⟩ := a4h (show r ∈ a2l a x from hr)
  exact a3Z (hx.1.2 q hq) (hv v hv') (by decide) (by decide) (by decide)
theorem b7M (w : Wk) (P : List Fr) (z : Am × Ast) : (a3v w P z).length = P.length := by
 unfold a3v
 split
 ·rfl
 ·split
  ·simp
  ·rfl
theorem a8c (w : Wk) : ∀ (l : List (Am × Ast)) (P : List Fr), (l.foldl (a3v w) P).length = P.length
 | [], _ => rfl
 | z :: l, P => by rw [List.foldl_cons, a8c w l, b7M]
theorem fold_at {α β : Type} {f : β -> α -> β} {l : List α} {i : Nat} {x : α} (h : l[i]? = some x) (b : β) : (l.take (i + 1)).foldl f b = f ((l.take i).foldl f b) x := by
 rw [take_at h, List.foldl_append]; rfl
set_option maxHeartbeats 4000000
theorem a0b (q : Rat) : (q < 0 /\ w9 q = -q) \/ (0 <= q /\ w9 q = q) := by
 unfold w9
 have h := @Rat.num_nonneg q
 by_cases hn : q.num < 0
 ·rw [if_pos hn]; left; exact ⟨by rw [<- Rat.not_le, <- h]; omega, rfl⟩
 ·rw [if_neg hn]; right; exact ⟨h.1 (by omega), rfl⟩
theorem a3h {b : Rat} (h : 0 < y9 b) : 0 < b := by
 rcases a0C b with ⟨h1, _⟩ | ⟨h1, _⟩ | ⟨_, h1⟩
 ·omega
 ·omega
 ·exact h1
theorem b8D {b v : Nm.Rt} (hb : 0 < y9 (Nm.d9 b)) : ¬ 0 < Nm.z8 (w9 (Nm.d9 (M8 b v))) (w9 (Nm.d9 v)) := by
 have hb' := a3h hb
 rw [V9]
 unfold M8 Q5
 generalize Nm.d9 b = B at *
 generalize Nm.d9 v = V at *
 have hV := a0b V
 split
 ·rw [Nm.r9]
  have := a0b 0
  grind
 ·rename_i h
  have h1 : B < w9 V := (V9 _ _).1 (by omega)
  split
  ·rename_i hs
   rw [Nm.r9]
   have h2 := a0b (V + B)
   have h3 := a0C V
   grind
  ·rename_i hs
   rw [Nm.r9]
   have h2 := a0b (V - B)
   have h3 := a0C V
   grind
theorem b7v {b v : Nm.Rt} (hb : 0 < y9 (Nm.d9 b)) (hv : y9 (Nm.d9 v) = 0) : M8 b v = Nm.ofQ 0 := by
 unfold M8
 rw [if_pos (b0U hb hv)]
theorem b8q {q : Nm.Rt} (h : F9 q = true) : Q5 q (Nm.ofQ 0) = q := by
 unfold Q5
 rw [Nm.r9, Rat.add_zero]
 exact Nm.b3o (of_decide_eq_true h)
theorem b2I {q : Rat} (h : q = 0) : y9 q = 0 := by subst h; decide +kernel
theorem b6w (b v : Nm.Rt) : F9 (M8 b v) = true := by
 unfold M8 Q5 F9
 split
 ·exact decide_eq_true (Nm.Y2 _)
 ·split
  ·exact decide_eq_true (Nm.Y2 _)
  ·exact decide_eq_true (Nm.Y2 _)
theorem b2u (a b : Nm.Rt) : F9 (Q5 a b) = true := decide_eq_true (Nm.Y2 _)
def a8a (x : Lk × Nm.Rt) : Int := if Nm.z8 (Nm.d9 x.2) (Nm.d9 x.1.low) < 0 \/ 0 < Nm.z8 (Nm.d9 x.2) (Nm.d9 x.1.high) then 17 else 0
theorem c0j {a : Am} {x : Ast} {n : Nat} (h : Q9 a x n = 0) : (x.q.all F9 = true /\ x.v.all F9 = true) /\ (∀ z ∈ a.links.zip x.q, a8a z = 0) /\ ∀ z ∈ a.links.zip x.v, Y9 z = 0 := by
 unfold Q9 at h
 split at h
 ·cases h
 rename_i h1
 split at h
 ·rename_i h2; exact absurd h h2
 rename_i h2
 split at h
 ·cases h
 have h2 := Classical.not_not.1 h2
 unfold a0n at h2
 split at h2
 ·rename_i h3; exact absurd h2 h3
 split at h2
 ·cases h2
 refine ⟨?_, a4x h2, a4x h⟩
 have h1 := eq_true_of_ne_false h1
 simpa only [c2S] using h1
theorem b7Y {a : Am} {y : Ast} {n : Nat} (ha : G8 a = 0) (g1 : y.q.all F9 = true) (g2 : y.v.all F9 = true) (hq : y.q.length = a.links.length) (hv : y.v.length = a.links.length) (hh : -1 <= y.holds /\ y.holds < n) (hl : ∀ z ∈ a.links.zip y.q, a8a z = 0) (hs : ∀ z ∈ a.links.zip y.v, Y9 z = 0) : Q9 a y n = 0 := by
 unfold Q9
 have hf : a0n a y.q = 0 := by
  unfold a0n
  rw [if_neg (by simp [ha]), if_neg (by simp [hq])]
  exact a0D hl
 rw [g1, g2, if_neg (by decide), hf, if_neg (by decide), if_neg (by omega)]
 exact a0D hs
theorem b0R (n : Nat) : ∀ (A : List Am) (X Y : List Ast) (h : List Int), X.map (·.holds) = Y.map (·.holds) -> (∀ z ∈ A.zip Y, Q9 z.1 z.2 n = 0) -> (u6 (K3 n) h (A.zip X)).1 = 0 -> (u6 (K3 n) h (A.zip Y)).1 = 0
  | [], _, _, _, _, _, _ => by simp [u6]
  | a :: A, [], [], h, _, _, hx => hx
  | a :: A, [], y :: Y, h, e, _, _ => by simp at e
  | a :: A, x :: X, [], h, e, _, _ => by simp at e
  | a :: A, x :: X, y :: Y, h, e, ho, hx => by
    simp only [c3e, List.cons.injEq] at e
    simp only [List.zip_cons_cons] at ho hx ⊢
    have h1 := ho (a, y) (by simp)
    unfold u6 at hx ⊢
    by_cases hx0 : (K3 n h (a, x)).1 = 0
    · have e0 : Q9 a x n = 0 := by
        unfold K3 at hx0
        split at hx0
        · exact hx0
        · exact Classical.not_not.1 (by assumption)
      have e2 : K3 n h (a, y) = K3 n h (a, x) := by
        unfold K3
        simp only at h1 ⊢
        rw [h1, e0, e.1]
      rw [if_pos hx0] at hx
      rw [e2, if_pos hx0]
      exact b0R n A X Y _ e.2 (fun z hz => ho z (by simp [hz])) hx
    · rw [if_neg hx0] at hx; exact absurd hx hx0
theorem b0B (w : Wk) : ∀ (l : List (Am × Ast)) (P : List Fr), (∀ z ∈ l, z.2.holds < 0) -> l.foldl (a3v w) P = P
 | [], _, _ => rfl
 | z :: l, P, h => by
  have e : a3v w P z = P := by unfold a3v; rw [if_pos (h z (by simp))]
  rw [List.foldl_cons, e, b0B w l P fun y hy => h y (by simp [hy])]
theorem b1q {w : Wk} {s : Stt} {u : List (List Nm.Rt)} {p : List Bool} {z : Am × Ast} (h1 : s.arms.length = w.arms.length) (h2 : u.length = w.arms.length) (h3 : p.length = w.arms.length) (hz : z ∈ w.arms.zip (a0X w s u p)) :
  ∃ x l b, (z.1, x) ∈ w.arms.zip s.arms /\ l ∈ u /\ z.2 = X3 z.1 x l b := by
 obtain ⟨i, hi⟩ := List.getElem?_of_mem hz
 rw [List.getElem?_zip_eq_some] at hi
 obtain ⟨g1, g2⟩ := hi
 have hl := (c2R.1 g1).1
 have x1 := c2M (show i < s.arms.length by omega)
 have x2 := c2M (show i < u.length by omega)
 have x3 := c2M (show i < p.length by omega)
 rw [a2N g1 x1 x2 x3] at g2
 injection g2 with g2
 exact ⟨_, _, _, c2P (F7 g1 x1), c2P x2, g2.symm⟩
theorem b7j {w : Wk} {s : Stt} {u : List (List Nm.Rt)} {p : List Bool} (h1 : s.arms.length = w.arms.length) (h2 : u.length = w.arms.length) (h3 : p.length = w.arms.length) : s.arms.map (·.holds) = (a0X w s u p).map (·.holds) := by
 have hl := a1Q (u := u) (p := p) h1 h2 h3
 refine List.ext_getElem? fun i => ?_
 rw [c3i, c3i]
 rcases c3n i w.arms.length with hi | hi
 ·have x0 := c2M hi
  have x1 := c2M (show i < s.arms.length by omega)
  have x2 := c2M (show i < u.length by omega)
  have x3 := c2M (show i < p.length by omega)
  rw [a2N x0 x1 x2 x3, x1, c2O, c2O, holds_one]
 ·rw [c3q (by omega), c3q (by omega)]
theorem b7r {a : Am} {x : Ast} {kq kv : Nat} (ha : G8 a = 0) (h1 : 1 <= kq) (h2 : 8 <= kv) (hq : ∀ r ∈ x.q, Rb kq r) (hv : ∀ r ∈ x.v, Rb kv r) : (∀ r ∈ a1k a x, Rb (kv + 9) r) /\ ∀ r ∈ a2l a x, Rb (kq + kv + 10) r := by
 have hV : ∀ r ∈ a1k a x, Rb (kv + 9) r := fun r hr => by
  obtain ⟨l, hl, v, hv', rfl⟩ := a4h hr
  have h3 := hv v hv'
  have h4 := a9z ((J9 ha).2 l hl)
  unfold M8
  split
  ·exact I8.mono (by omega)
  split
  ·exact a3Z h3 h4 (by omega) (by decide) (by omega)
  ·exact (M6 (h3.fit (by omega)) (h4.fit (by decide))).mono (by omega)
 refine ⟨hV, fun r hr => ?_⟩
 obtain ⟨q, hq', v, hv', rfl⟩ := a4h (show r ∈ a2l a x from hr)
 exact a3Z (hq q hq') (hV v hv') h1 (by omega) (by omega)
structure Calm (w : Wk) (s : Stt) (k : Nat) : Prop where
 st : I5 w s = 0
 people : s.people = []
 holds : ∀ x ∈ s.arms, x.holds = -1
 q : ∀ x ∈ s.arms, ∀ r ∈ x.q, Rb (100 + 1000 * k) r
 v : ∀ x ∈ s.arms, ∀ r ∈ x.v, Rb (200 + 20 * k) r
 tick : s.tick = k
 parts : ∀ f ∈ s.parts, Fb 1048576 f
theorem b7d {w : Wk} {s : Stt} {k : Nat} (h : Calm w s k) (hk : k <= 10) : Stb 1048576 s := by
 have ho := R7 h.st
 refine ⟨⟨by have := ho.arms; have := ho.big; omega, fun x hx => ?_⟩, ⟨by have := ho.parts; have := ho.big; omega, h.parts⟩, ⟨by have := ho.people; omega, fun v hv => by rw [h.people] at hv; cases hv⟩, by have := ho.gates; have := ho.big; omega⟩
 obtain ⟨i, hi⟩ := List.getElem?_of_mem hx
 have hil := (c2R.1 hi).1
 have ga := c2M (show i < w.arms.length by have := ho.arms; omega)
 have h1 := a2m (ho.one _ (c2P (F7 ga hi)))
 simp only at h1
 have h2 := (X8 h1.arm).2
 have h3 := h1.q
 have h4 := h1.v
 exact ⟨⟨by omega, fun r hr => (h.q x hx r hr).mono (by omega)⟩, by omega, fun r hr => (h.v x hx r hr).mono (by omega)⟩
theorem a6g {w : Wk} {s : Stt} {k : Nat} {u : List (List Nm.Rt)} {p : List Bool} (h : Calm w s k) (h2 : u.length = w.arms.length) (h3 : p.length = w.arms.length) : (w.arms.zip (a0X w s u p)).foldl (a3v w) s.parts = s.parts := by
 refine b0B w _ _ fun z hz => ?_
 obtain ⟨x, l, b, hx, hl, e⟩ := b1q (R7 h.st).arms h2 h3 hz
 rw [e, holds_one, h.holds x (List.of_mem_zip hx).2]
 decide
theorem b6Y {w : Wk} {s : Stt} {k : Nat} {u : List (List Nm.Rt)} {p : List Bool} (h : Calm w s k) (h2 : u.length = w.arms.length) (h3 : p.length = w.arms.length) (hu : ∀ l ∈ u, ∀ r ∈ l, (p.all fun b => !b) = false -> Rb 150 r) (hk : k <= 10) (hs : I5 w (Z0 w s u p []) = 0) : Calm w (Z0 w s u p []) (k + 1) := by
 have ho := R7 h.st
 have hl := a1Q (u := u) (p := p) ho.arms h2 h3
 have key : ∀ y ∈ a0X w s u p, y.holds = -1 /\ (∀ r ∈ y.q, Rb (100 + 1000 * (k + 1)) r) /\ ∀ r ∈ y.v, Rb (200 + 20 * (k + 1)) r := fun y hy => by
  obtain ⟨i, hi⟩ := List.getElem?_of_mem hy
  have hil := (c2R.1 hi).1
  have x0 := c2M (show i < w.arms.length by omega)
  have x1 := c2M (show i < s.arms.length by have := ho.arms; omega)
  have x2 := c2M (show i < u.length by omega)
  have x3 := c2M (show i < p.length by omega)
  rw [a2N x0 x1 x2 x3] at hi
  injection hi with hi
  have m1 := c2P x1
  have m2 := c2P x2
  have m3 := c2P x3
  have h1 := a2m (ho.one _ (c2P (F7 x0 x1)))
  simp only at h1
  generalize w.arms[i]'_ = a at *
  generalize s.arms[i]'_ = x at *
  generalize u[i]'_ = l at *
  generalize p[i]'_ = b at *
  have hb := b7r h1.arm (by omega) (by omega) (h.q x m1) (h.v x m1)
  subst hi
  refine ⟨by rw [holds_one]; exact h.holds x m1, ?_⟩
  unfold X3
  split
  ·rename_i hc
   simp only [c2S] at hc
   have hnp : (p.all fun b => !b) = false := by
    rw [Bool.eq_false_iff]
    intro hall
    have := List.all_eq_true.1 hall b m3
    rw [hc.1] at this
    cases this
   have hub := fun r hr => hu l m2 r hr hnp
   refine ⟨fun r hr => ?_, fun r hr => (hub r hr).mono (by omega)⟩
   obtain ⟨q, hq, v, hv, rfl⟩ := a4h (show r ∈ mvQ x l from hr)
   exact a3Z (h.q x m1 q hq) (hub v hv) (by omega) (by decide) (by omega)
  ·exact ⟨fun r hr => (hb.2 r hr).mono (by omega), fun r hr => (hb.1 r hr).mono (by omega)⟩
 exact ⟨hs, by simp [Z0, h.people], fun x hx => (key x hx).1, fun x hx => (key x hx).2.1, fun x hx => (key x hx).2.2, by have := h.tick; simp only [Z0]; omega, fun f hf => h.parts f (by
  have hf : f ∈ (w.arms.zip (a0X w s u p)).foldl (a3v w) s.parts := hf
  rwa [a6g h h2 h3] at hf)⟩
theorem a5C {l : Lk} (h : N7 l = 0) : Rb 3 l.low /\ Rb 3 l.high /\ Rb 3 l.speed /\ Rb 3 l.brake := by
 unfold N7 at h
 split at h
 ·cases h
 rename_i h2
 have hs2 : (j4 l.length && j4 l.low && j4 l.high && j4 l.speed && j4 l.brake) = true := by
  cases hb : (j4 l.length && j4 l.low && j4 l.high && j4 l.speed && j4 l.brake) with
  | true => rfl
  | false => exact absurd (.inl hb) h2
 simp only [c2S] at hs2
 exact ⟨X0 hs2.1.1.1.2, X0 hs2.1.1.2, X0 hs2.1.2, X0 hs2.2⟩
theorem b5V {w : Wk} (hwb : Wb 1048576 w) (hk : X7 w = 0) (ha : ∀ a ∈ w.arms, G8 a = 0) (hs : ∀ s ∈ w.slots, okF s.frame = true) : Calm w (D9 w) 0 := by
 have hb := b2b (k := 1048576) (by decide) hwb ha hs
 refine ⟨a5y hk ha hs, rfl, fun x hx => ?_, fun x hx r hr => ?_, fun x hx r hr => ?_, rfl, hb.parts.2⟩
 ·obtain ⟨a, _, rfl⟩ := List.mem_map.1 (show x ∈ w.arms.map O5 from hx)
  rfl
 ·obtain ⟨a, hm, rfl⟩ := List.mem_map.1 (show x ∈ w.arms.map O5 from hx)
  obtain ⟨l, hl, rfl⟩ := List.mem_map.1 (show r ∈ a.links.map a0w from hr)
  have h3 := a5C ((J9 (ha a hm)).2 l hl)
  unfold a0w O4 J7
  repeat' split
  all_goals first | exact (h3.1.fit (by decide)).mono (by decide) | exact (h3.2.1.fit (by decide)).mono (by decide) | exact I8.mono (by decide)
 ·obtain ⟨a, hm, rfl⟩ := List.mem_map.1 (show x ∈ w.arms.map O5 from hx)
  obtain ⟨l, hl, rfl⟩ := List.mem_map.1 (show r ∈ a.links.map (fun _ => Nm.ofQ 0) from hr)
  exact I8.mono (by decide)
def aQ (b v : Rat) (j : Nat) : Rat := if v - (j : Rat) * b <= 0 then 0 else v - (j : Rat) * b
def sQ (b v : Rat) : Nat -> Rat
 | 0 => 0
 | j + 1 => sQ b v j + aQ b v (j + 1)
theorem a3n (j : Nat) : ((j + 1 : Nat) : Rat) = (j : Rat) + 1 := by
 rw [Rat.natCast_add]; rfl
theorem b1O (b v : Rat) (j : Nat) : 0 <= aQ b v j := by
 unfold aQ
 split <;> grind
theorem c1V {b v : Rat} (hv : 0 <= v) : aQ b v 0 = v := by
 unfold aQ
 have h : ((0 : Nat) : Rat) = 0 := rfl
 rw [h]
 split <;> grind
theorem c1m {b v : Rat} (hb : 0 < b) (j : Nat) : aQ b v (j + 1) = if aQ b v j <= b then 0 else aQ b v j - b := by
 unfold aQ
 rw [a3n]
 generalize (j : Rat) = J
 have e : (J + 1) * b = J * b + b := by grind
 rw [e]
 generalize J * b = t
 split <;> split <;> (try split) <;> grind
theorem b2S (b v : Rat) : ∀ (j k : Nat), j <= k -> sQ b v j <= sQ b v k
 | j, 0, h => by
  have : j = 0 := by omega
  subst this
  exact Rat.le_refl
 | j, k + 1, h => by
  rcases c3n j (k + 1) with h1 | h1
  ·have h2 := b2S b v j k (by omega)
   have h3 := b1O b v (k + 1)
   rw [sQ]
   grind
  ·have : j = k + 1 := by omega
   subst this
   exact Rat.le_refl
theorem b9f (b v : Rat) (j : Nat) : 0 <= sQ b v j := b2S b v 0 j (c2T _)
theorem b1G {b v : Rat} (hb : 0 < b) {n j : Nat} (h : v <= (n : Rat) * b) (hj : n <= j) : aQ b v j = 0 := by
 unfold aQ
 have h1 : (n : Rat) <= (j : Rat) := by exact_mod_cast hj
 have h2 : (n : Rat) * b <= (j : Rat) * b := Rat.mul_le_mul_of_nonneg_right h1 (by grind)
 rw [if_pos (by grind)]
theorem b9w {b v : Rat} (hb : 0 < b) {n : Nat} (h : v <= (n : Rat) * b) : ∀ j, n <= j -> sQ b v j = sQ b v n
 | 0, hj => by
  have : n = 0 := by omega
  subst this
  rfl
 | j + 1, hj => by
  rcases c3n n (j + 1) with h1 | h1
  ·rw [sQ, b9w hb h j (by omega), b1G hb h hj]
   grind
  ·have : n = j + 1 := by omega
   subst this
   rfl
theorem c2d {b v : Rat} (hb : 0 < b) {n : Nat} (h : v <= (n : Rat) * b) (j : Nat) : sQ b v j <= sQ b v n := by
 rcases Nat.le_total j n with h1 | h1
 ·exact b2S b v j n h1
 ·rw [b9w hb h j h1]
  exact Rat.le_refl
theorem b2p {b v : Rat} (hb : 0 < b) : ∀ (m : Nat), (m : Rat) * b <= v -> sQ b v m = (m : Rat) * v - b * ((m : Rat) * ((m : Rat) + 1) / 2)
 | 0, _ => by
  have h : ((0 : Nat) : Rat) = 0 := rfl
  rw [h, sQ]
  grind
 | m + 1, h => by
  rw [a3n] at h ⊢
  have h1 : (m : Rat) * b <= v := by
   have e : ((m : Rat) + 1) * b = (m : Rat) * b + b := by grind
   grind
  have h2 : aQ b v (m + 1) = v - ((m : Rat) + 1) * b := by
   unfold aQ
   rw [a3n]
   split <;> grind
  rw [sQ, b2p hb m h1, h2]
  generalize (m : Rat) = M
  grind
def a4c (b v : Rat) (n : Nat) : Rat := if n < 2 then 0 else ((n - 1 : Nat) : Rat) * v - b * ((n * (n - 1) / 2 : Nat) : Rat)
theorem b7f (n : Nat) : ((n * (n - 1) / 2 : Nat) : Rat) = ((n - 1 : Nat) : Rat) * (((n - 1 : Nat) : Rat) + 1) / 2 := by
 cases n with
 | zero => decide +kernel
 | succ m =>
  have he : 2 ∣ (m + 1) * m := by
   rcases Nat.mod_two_eq_zero_or_one m with h | h
   ·exact Nat.dvd_trans (Nat.dvd_of_mod_eq_zero h) (Nat.dvd_mul_left _ _)
   ·exact Nat.dvd_trans (Nat.dvd_of_mod_eq_zero (by omega)) (Nat.dvd_mul_right _ _)
  obtain ⟨k, hk⟩ := he
  have hk2 : (m + 1) * (m + 1 - 1) / 2 = k := by rw [Nat.add_sub_cancel, hk]; omega
  rw [hk2, Nat.add_sub_cancel]
  have hc : ((m + 1 : Nat) : Rat) * (m : Rat) = 2 * (k : Rat) := by
   have := congrArg (fun n : Nat => (n : Rat)) hk
   simp only [Rat.natCast_mul] at this
   exact this
  rw [a3n] at hc
  grind
theorem c1n {b v : Rat} (hb : 0 < b) {n : Nat} (h1 : v <= (n : Rat) * b) (h2 : 1 <= n -> ((n - 1 : Nat) : Rat) * b <= v) : a4c b v n = sQ b v n := by
 unfold a4c
 split
 ·rename_i hn
  have : n = 0 \/ n = 1 := by omega
  rcases this with rfl | rfl
  ·rfl
  ·rw [sQ, b1G hb h1 (c2V _)]
   show (0 : Rat) = 0 + 0
   grind
 ·rename_i hn
  obtain ⟨m, rfl⟩ : ∃ m, n = m + 1 := ⟨n - 1, by omega⟩
  have h3 := b2p hb m (h2 (by omega))
  have h4 := b7f (m + 1)
  rw [Nat.add_sub_cancel] at h4 ⊢
  rw [h4, sQ, b1G hb h1 (c2V _), h3]
  grind
def sgQ (v : Rat) : Rat := if v < 0 then -1 else 1
theorem c1u (v : Rat) : sgQ v * w9 v = v := by
 unfold sgQ
 rcases a0b v with ⟨h, e⟩ | ⟨h, e⟩
 ·rw [if_pos h, e]; grind
 ·rw [if_neg (by grind), e]; grind
theorem abs_nonneg (v : Rat) : 0 <= w9 v := by
 rcases a0b v with ⟨h, e⟩ | ⟨h, e⟩ <;> rw [e] <;> grind
structure Jnt (T V B : Rat) (j : Nat) (q v : Nm.Rt) : Prop where
 v : Nm.d9 v = sgQ V * aQ B (w9 V) j
 q : Nm.d9 q = T + sgQ V * sQ B (w9 V) j
theorem Jnt.start (q u : Nm.Rt) (B : Rat) : Jnt (Nm.d9 q + Nm.d9 u) (Nm.d9 u) B 0 (Q5 q u) u := by
 refine ⟨by rw [c1V (abs_nonneg _), c1u], ?_⟩
 unfold Q5
 rw [Nm.r9, sQ]
 grind
theorem Jnt.next {T V B : Rat} {j : Nat} {q v b : Nm.Rt} (h : Jnt T V B j q v) (hb : Nm.d9 b = B) (h0 : 0 < B) : Jnt T V B (j + 1) (Q5 q (M8 b v)) (M8 b v) := by
 have hv : Nm.d9 (M8 b v) = sgQ V * aQ B (w9 V) (j + 1) := by
  have h1 := h.v
  have h2 := c1m (v := w9 V) h0 j
  have h3 := b1O B (w9 V) j
  rw [h2]
  unfold M8 Q5
  rw [hb, h1]
  generalize aQ B (w9 V) j = a at *
  have hs : sgQ V = 1 \/ sgQ V = -1 := by unfold sgQ; split <;> simp
  generalize sgQ V = s at *
  have ha : w9 (s * a) = a := by
   rcases a0b (s * a) with ⟨e1, e2⟩ | ⟨e1, e2⟩ <;> rcases hs with rfl | rfl <;> rw [e2] <;> grind
  rw [ha]
  have hle : Nm.z8 a B <= 0 <-> a <= B := by
   have := V9 a B
   constructor
   ·intro h
    have : ¬ B < a := fun h4 => by have := this.2 h4; omega
    grind
   ·intro h
    have : ¬ 0 < Nm.z8 a B := fun h4 => by have := this.1 h4; grind
    omega
  by_cases hc : a <= B
  ·rw [if_pos (hle.2 hc), if_pos hc, Nm.r9]
   grind
  ·rw [if_neg (fun h => hc (hle.1 h)), if_neg hc]
   have hsg := a0C (s * a)
   split
   ·rw [Nm.r9]
    rcases hs with rfl | rfl <;> grind
   ·rw [Nm.r9]
    rcases hs with rfl | rfl <;> grind
 refine ⟨hv, ?_⟩
 unfold Q5
 rw [Nm.r9, h.q, hv, sQ]
 grind
theorem Jnt.range {T V B : Rat} {j n : Nat} {q v : Nm.Rt} (h : Jnt T V B j q v) (h0 : 0 < B) (h1 : w9 V <= (n : Rat) * B) (h2 : 1 <= n -> ((n - 1 : Nat) : Rat) * B <= w9 V) :
  (T <= Nm.d9 q /\ Nm.d9 q <= T + sgQ V * a4c B (w9 V) n) \/ (T + sgQ V * a4c B (w9 V) n <= Nm.d9 q /\ Nm.d9 q <= T) := by
 rw [h.q, c1n h0 h1 h2]
 have h3 := b9f B (w9 V) j
 have h4 := c2d h0 h1 j
 have hs : sgQ V = 1 \/ sgQ V = -1 := by unfold sgQ; split <;> simp
 rcases hs with e | e <;> rw [e]
 ·left; grind
 ·right; grind
theorem Jnt.stop {T V B : Rat} {j n : Nat} {q v : Nm.Rt} (h : Jnt T V B j q v) (h0 : 0 < B) (h1 : w9 V <= (n : Rat) * B) (hj : n <= j) : Nm.d9 v = 0 := by
 rw [h.v, b1G h0 h1 hj]
 grind
theorem b1s {α : Type} {f : α -> Int} {k : Int} : ∀ {l : List α}, (∀ x ∈ l, f x = 0 \/ f x = k) -> H7 f l = 0 \/ H7 f l = k
 | [], _ => .inl rfl
 | x :: l, h => by
  rw [H7]
  split
  ·exact b1s fun y hy => h y (by simp [hy])
  ·exact h x (by simp)
theorem c0B (z : Lk × Nm.Rt) : a8a z = 0 \/ a8a z = 17 := by unfold a8a; split <;> simp
theorem b1e {a : Am} {y : Ast} {n : Nat} (ha : G8 a = 0) (g1 : y.q.all F9 = true) (g2 : y.v.all F9 = true) (hq : y.q.length = a.links.length) (hv : y.v.length = a.links.length) (hh : -1 <= y.holds /\ y.holds < n) (hs : ∀ z ∈ a.links.zip y.v, Y9 z = 0) : Q9 a y n = 0 \/ Q9 a y n = 17 := by
 have hf : a0n a y.q = 0 \/ a0n a y.q = 17 := by
  unfold a0n
  rw [if_neg (by simp [ha]), if_neg (by simp [hq])]
  exact b1s fun z _ => c0B z
 unfold Q9
 rw [g1, g2, if_neg (by decide)]
 rcases hf with hf | hf
 ·rw [hf, if_neg (by decide), if_neg (by omega)]
  exact .inl (a0D hs)
 ·rw [hf, if_pos (by decide)]
  exact .inr rfl
theorem b6g {a : Am} {x : Ast} {n : Nat} {u : List Nm.Rt} {p : Bool} (h : Q9 a x n = 0) : Q9 a (X3 a x u p) n = 0 \/ Q9 a (X3 a x u p) n = 17 := by
 have ho := a2m h
 obtain ⟨⟨g1, g2⟩, hl, hs⟩ := c0j h
 have hlen := b0k (u := u) (p := p) ho
 have hh := holds_one a x u p
 have hlk := (J9 ho.arm).2
 unfold X3 at *
 by_cases hc : (p && a5P a x.q u) = true
 ·rw [if_pos hc] at *
  simp only [c2S, a5P, c2U] at hc
  obtain ⟨_, c1, c2, c3⟩ := hc
  refine b1e ho.arm ?_ c2 hlen.1 hlen.2 (by rw [hh]; exact ho.holds) fun z hz => ?_
  ·rw [List.all_eq_true]
   intro r hr
   obtain ⟨_, _, _, _, rfl⟩ := a4h (show r ∈ mvQ x u from hr)
   exact b2u _ _
  ·obtain ⟨i, hi⟩ := List.getElem?_of_mem hz
   rw [List.getElem?_zip_eq_some] at hi
   obtain ⟨i1, i2⟩ := hi
   have hil := (c2R.1 i1).1
   have e1 := c2M (show i < x.q.length by have := ho.q; omega)
   have e2 := c2M (show i < u.length by omega)
   have hm := List.all_eq_true.1 c3 _ (c2P (F7 i1 (F7 e1 e2)))
   unfold b5J at hm
   simp only [Bool.not_eq_true', c3r, c3b] at hm
   rw [show (mvA x u).v = u from rfl, e2] at i2
   injection i2 with i2
   unfold Y9
   rw [if_neg]
   rw [<- i2]
   exact hm.1.1
 ·rw [if_neg hc] at *
  refine b1e ho.arm ?_ ?_ hlen.1 hlen.2 (by rw [hh]; exact ho.holds) fun z hz => ?_
  ·rw [List.all_eq_true]
   intro r hr
   obtain ⟨_, _, _, _, rfl⟩ := a4h (show r ∈ a2l a x from hr)
   exact b2u _ _
  ·rw [List.all_eq_true]
   intro r hr
   obtain ⟨_, _, _, _, rfl⟩ := a4h (show r ∈ a1k a x from hr)
   exact b6w _ _
  ·obtain ⟨i, hi⟩ := List.getElem?_of_mem hz
   rw [List.getElem?_zip_eq_some] at hi
   obtain ⟨i1, i2⟩ := hi
   have hil := (c2R.1 i1).1
   have e1 := c2M (show i < x.q.length by have := ho.q; omega)
   have e2 := c2M (show i < x.v.length by have := ho.v; omega)
   have hb := a9J i1 e2 e1
   have h1 := hs _ (c2P (F7 i1 e2))
   have h2 := b8D (v := x.v[i]'(by have := ho.v; omega)) (a0E (hlk _ (c2P i1)))
   rw [show (a9B a x).v = a1k a x from rfl, hb.1] at i2
   injection i2 with i2
   unfold Y9 at h1 ⊢
   simp only at h1
   split at h1
   ·cases h1
   ·rename_i h3
    rw [if_neg]
    rw [<- i2]
    rw [V9] at h2 h3 ⊢
    grind
theorem b2r (n : Nat) : ∀ (A : List Am) (X Y : List Ast) (h : List Int), X.map (·.holds) = Y.map (·.holds) -> (∀ z ∈ A.zip Y, Q9 z.1 z.2 n = 0 \/ Q9 z.1 z.2 n = 17) -> (u6 (K3 n) h (A.zip X)).1 = 0 -> (u6 (K3 n) h (A.zip Y)).1 = 0 \/ (u6 (K3 n) h (A.zip Y)).1 = 17
  | [], _, _, _, _, _, _ => by simp [u6]
  | a :: A, [], [], h, _, _, hx => .inl hx
  | a :: A, [], y :: Y, h, e, _, _ => by simp at e
  | a :: A, x :: X, [], h, e, _, _ => by simp at e
  | a :: A, x :: X, y :: Y, h, e, ho, hx => by
    simp only [c3e, List.cons.injEq] at e
    simp only [List.zip_cons_cons] at ho hx ⊢
    have h1 := ho (a, y) (by simp)
    unfold u6 at hx ⊢
    by_cases hx0 : (K3 n h (a, x)).1 = 0
    · have e0 : Q9 a x n = 0 := by
        unfold K3 at hx0
        split at hx0
        · exact hx0
        · exact Classical.not_not.1 (by assumption)
      rw [if_pos hx0] at hx
      rcases h1 with h1 | h1
      · have e2 : K3 n h (a, y) = K3 n h (a, x) := by
          unfold K3
          simp only at h1 ⊢
          rw [h1, e0, e.1]
        rw [e2, if_pos hx0]
        exact b2r n A X Y _ e.2 (fun z hz => ho z (by simp [hz])) hx
      · have e2 : K3 n h (a, y) = (17, h) := by
          unfold K3
          simp only at h1 ⊢
          rw [h1, if_pos (by decide)]
        rw [e2, if_neg (show ¬ (17 : Int) = 0 by decide)]
        exact .inr rfl
    · rw [if_neg hx0] at hx; exact absurd hx hx0
theorem b8j {w : Wk} {s : Stt} {u : List (List Nm.Rt)} {p : List Bool} (h : I5 w s = 0) (hp : s.people = []) (ht : s.tick < 2000) (h2 : u.length = w.arms.length) (h3 : p.length = w.arms.length) (hg : ((w.arms.zip (a0X w s u p)).foldl (a3v w) s.parts).all a1d = true) : I5 w (Z0 w s u p []) = 0 \/ I5 w (Z0 w s u p []) = 17 := by
 have hok := R7 h
 have hl := a1Q (u := u) (p := p) hok.arms h2 h3
 have hpl := a8c w (w.arms.zip (a0X w s u p)) s.parts
 have he : (u6 (K3 w.parts.length) [] (w.arms.zip s.arms)).1 = 0 := by
  unfold I5 at h
  split at h
  ·rename_i h1; exact absurd h h1
  split at h
  ·cases h
  split at h
  ·cases h
  split at h
  ·rename_i h1; exact absurd h h1
  ·rename_i h1; exact Classical.not_not.1 h1
 have he2 := b2r _ w.arms s.arms (a0X w s u p) [] (b7j hok.arms h2 h3) (fun z hz' => by
  obtain ⟨x, l, b, hx, hl, e⟩ := b1q hok.arms h2 h3 hz'
  rw [e]
  exact b6g (hok.one _ hx)) he
 have e1 := hok.works
 have e2 := hok.tick
 have e3 := hok.parts
 have e4 := hok.gates
 unfold I5 Z0
 rw [e1, if_neg (by decide)]
 simp only [hp, List.zip_nil_left, c3v, List.length_nil, List.all_nil, Bool.and_true]
 rw [if_neg (by omega), if_neg (by omega), hg]
 rcases he2 with he2 | he2
 ·rw [he2, if_neg (by decide)]
  exact .inl rfl
 ·rw [he2, if_pos (by decide)]
  exact .inr rfl
def H6 (B V : Rat) : Int := if ((w9 V / B).floor : Rat) < w9 V / B then (w9 V / B).floor + 1 else (w9 V / B).floor
theorem a2H {B V : Rat} (hB : 0 < B) : 0 <= H6 B V /\ w9 V <= (((H6 B V).toNat : Nat) : Rat) * B /\ (1 <= (H6 B V).toNat -> (((H6 B V).toNat - 1 : Nat) : Rat) * B <= w9 V) := by
 have hq : w9 V / B * B = w9 V := Rat.div_mul_cancel (by grind)
 have h0 : 0 <= w9 V / B := by
  rw [Rat.div_def]
  exact Rat.mul_nonneg (abs_nonneg V) (Rat.le_of_lt (Rat.inv_pos.2 hB))
 unfold H6
 generalize w9 V / B = q at *
 have hf : 0 <= q.floor := Rat.le_floor_iff.2 (by simpa using h0)
 have h1 := Rat.floor_le q
 have h2 := Rat.lt_floor_add_one q
 obtain ⟨f, hfe⟩ : ∃ f : Nat, q.floor = f := ⟨q.floor.toNat, by omega⟩
 rw [hfe] at h1 h2 ⊢
 have e1 : (((f : Int) + 1 : Int) : Rat) = (f : Rat) + 1 := by rw [Rat.intCast_add]; rfl
 have e2 : (((f : Nat) : Int) : Rat) = (f : Rat) := rfl
 rw [e1] at h2
 rw [e2] at h1 ⊢
 rw [<- hq]
 split
 ·rename_i hlt
  refine ⟨by omega, ?_, fun _ => ?_⟩
  ·rw [show ((f : Int) + 1).toNat = f + 1 by omega, a3n]
   exact Rat.mul_le_mul_of_nonneg_right (by grind) (by grind)
  ·rw [show ((f : Int) + 1).toNat - 1 = f by omega]
   exact Rat.mul_le_mul_of_nonneg_right h1 (by grind)
 ·rename_i hlt
  refine ⟨by omega, ?_, fun _ => ?_⟩
  ·rw [c2X]
   exact Rat.mul_le_mul_of_nonneg_right (by grind) (by grind)
  ·rw [c2X]
   have h3 : ((f - 1 : Nat) : Rat) <= (f : Rat) := by exact_mod_cast Nat.sub_le f 1
   exact Rat.mul_le_mul_of_nonneg_right (by grind) (by grind)
theorem a7j (p q : Rat) : J7 p q <= p /\ J7 p q <= q := by
 unfold J7
 have h := V9 p q
 split
 ·have : ¬ q < p := fun h2 => by have := h.2 h2; omega
  grind
 ·have : q < p := h.1 (by omega)
  grind
theorem a7e (p q : Rat) : p <= O4 p q /\ q <= O4 p q := by
 unfold O4
 have h := a1Y p q
 split
 ·have : ¬ p < q := fun h2 => by have := h.2 h2; omega
  grind
 ·have : p < q := h.1 (by omega)
  grind
def a5K (q u b : Nm.Rt) : Rat := Nm.d9 q + Nm.d9 u + sgQ (Nm.d9 u) * a4c (Nm.d9 b) (w9 (Nm.d9 u)) (H6 (Nm.d9 b) (Nm.d9 u)).toNat
def loQ (q u b : Nm.Rt) : Rat := J7 (J7 (Nm.d9 q + Nm.d9 u) (a5K q u b)) (Nm.d9 q)
def hiQ (q u b : Nm.Rt) : Rat := O4 (O4 (Nm.d9 q + Nm.d9 u) (a5K q u b)) (Nm.d9 q)
def a5Z (q0 u b : Nm.Rt) : Nat -> Nm.Rt -> Nm.Rt -> Prop
 | 0, q, v => q = q0 /\ Nm.d9 v = 0
 | k + 1, q, v => Jnt (Nm.d9 q0 + Nm.d9 u) (Nm.d9 u) (Nm.d9 b) k q v \/ (q = q0 /\ Nm.d9 v = 0)
theorem b1n {q0 b q v : Nm.Rt} (hb : 0 < y9 (Nm.d9 b)) (hg : F9 q0 = true) (h : q = q0 /\ Nm.d9 v = 0) : Q5 q (M8 b v) = q0 /\ Nm.d9 (M8 b v) = 0 := by
 rw [b7v hb (b2I h.2), h.1, b8q hg, Nm.r9]
 exact ⟨rfl, rfl⟩
theorem c0w {q0 u b q v : Nm.Rt} {k : Nat} (hb : 0 < y9 (Nm.d9 b)) (hg : F9 q0 = true) (h : a5Z q0 u b (k + 1) q v) : a5Z q0 u b (k + 2) (Q5 q (M8 b v)) (M8 b v) := by
 rcases h with h | h
 ·exact .inl (h.next rfl (a3h hb))
 ·exact .inr (b1n hb hg h)
theorem c0s {q0 u b q v : Nm.Rt} (h : a5Z q0 u b 0 q v) : a5Z q0 u b 1 (Q5 q u) u := by
 rw [h.1]
 exact .inl (Jnt.start q0 u _)
theorem c0E {q0 u b q v : Nm.Rt} (hb : 0 < y9 (Nm.d9 b)) (hg : F9 q0 = true) (h : a5Z q0 u b 0 q v) : a5Z q0 u b 1 (Q5 q (M8 b v)) (M8 b v) := .inr (b1n hb hg h)
theorem b7x {q0 u b q v : Nm.Rt} {j : Nat} (hb : 0 < y9 (Nm.d9 b)) (h : a5Z q0 u b j q v) : loQ q0 u b <= Nm.d9 q /\ Nm.d9 q <= hiQ q0 u b := by
 have h1 := a7j (J7 (Nm.d9 q0 + Nm.d9 u) (a5K q0 u b)) (Nm.d9 q0)
 have h2 := a7j (Nm.d9 q0 + Nm.d9 u) (a5K q0 u b)
 have h3 := a7e (O4 (Nm.d9 q0 + Nm.d9 u) (a5K q0 u b)) (Nm.d9 q0)
 have h4 := a7e (Nm.d9 q0 + Nm.d9 u) (a5K q0 u b)
 have hstill : q = q0 -> loQ q0 u b <= Nm.d9 q /\ Nm.d9 q <= hiQ q0 u b := fun e => by
  unfold loQ hiQ
  rw [e]
  exact ⟨h1.2, h3.2⟩
 cases j with
 | zero => exact hstill h.1
 | succ k =>
  rcases h with h | h
  ·have hB := a3h hb
   obtain ⟨_, t1, t2⟩ := a2H (V := Nm.d9 u) hB
   have hr := h.range hB t1 t2
   unfold loQ hiQ
   unfold a5K at *
   grind
  ·exact hstill h.1
theorem b8Z {q0 u b q v : Nm.Rt} {j : Nat} (hb : 0 < y9 (Nm.d9 b)) (h : a5Z q0 u b j q v) (hj : (H6 (Nm.d9 b) (Nm.d9 u)).toNat + 1 <= j) : Nm.d9 v = 0 := by
 cases j with
 | zero => exact h.2
 | succ k =>
  rcases h with h | h
  ·have hB := a3h hb
   obtain ⟨_, t1, t2⟩ := a2H (V := Nm.d9 u) hB
   exact h.stop hB t1 (by omega)
  ·exact h.2
set_option maxRecDepth 10000
set_option maxHeartbeats 8000000
theorem b6y (x n : Int) (h : 1 <= n) : x % n = (if x.tmod n < 0 then x.tmod n + n else x.tmod n) /\ -n < x.tmod n /\ x.tmod n < n := by
 have hq : x = n * (x.tdiv n) + x.tmod n := (Int.mul_tdiv_add_tmod x n).symm
 have he : x % n = x.tmod n % n := by
  conv => lhs; rw [hq]
  exact Int.mul_add_emod_self_left ..
 have h2 := Int.tmod_lt_of_pos x (show 0 < n by omega)
 have h3 : -n < x.tmod n := by
  have := Int.tmod_lt_of_pos (-x) (show 0 < n by omega)
  rw [Int.neg_tmod] at this
  omega
 refine ⟨?_, h3, h2⟩
 rw [he]
 split
 ·rename_i hc
  have : x.tmod n % n = (x.tmod n + n) % n := by simp
  rw [this]
  exact Int.emod_eq_of_lt (by omega) (by omega)
 ·exact Int.emod_eq_of_lt (by omega) (by omega)
theorem b8M (x n : Int) (h : 1 <= n /\ n <= 4611686018427387904) : G5 Tryz.prog 130 [ints x, ints n] (ints (x % n)) := by
 refine kS Tryz.func130 (by cbv) (by rfl) fun w O => ?_
 simp only [l6, ints]
 have hn : ¬ n = 0 := by omega
 obtain ⟨he, hlt⟩ := b6y x n (by omega)
 (repeat first | refine uA ?_ | (refine uK ?_ ?_; focus first | omega | (intros; simp_all <;> omega)) | simp (disch := omega) only [go_sem, Nat.reduceBEq, Nat.reduceAdd, ww, hn])
 (refine uJ rfl (fun hc => ?_) fun hc => ?_)
 ·rw [he, if_pos hc]
  (repeat first | refine uA ?_ | (refine uK ?_ ?_; focus first | omega | (intros; simp_all <;> omega)) | simp (disch := omega) only [go_sem, Nat.reduceBEq, Nat.reduceAdd, ww])
  exact S.done (j3.out rfl (Imp.refl rfl) rfl)
 ·rw [he, if_neg hc]
  (repeat first | refine uA ?_ | (refine uK ?_ ?_; focus first | omega | (intros; simp_all <;> omega)) | simp (disch := omega) only [go_sem, Nat.reduceBEq, Nat.reduceAdd, ww])
  exact S.done (j3.out rfl (Imp.refl rfl) rfl)
def A9 (l : List Int) : C := .sl 1 (l.map fun n => [.v (.int .i64 n)])
theorem I4 {E : Ctx} (hP : E.P = Tryz.prog) (l : List Int) (n : Int) (h : 1 <= n /\ n <= 4611686018427387904) :
  j5 E [.box 145 [A9 l]] 80 [.bp 0 0, ints n] (ints (nx l n)) [.box 145 [A9 (l.drop 1)]] [] := by
 obtain ⟨P, eff', N, w0, own0, av0, nu0, pk0⟩ := E
 simp only at hP
 subst hP
 refine j5.of (eff := eff) Tryz.func80 (by cbv) (by exact c3c rfl) fun w own av ν hν => ?_
 have hν0 : ν.length <= 1 := by rw [hν]; exact c2V _
 have hn1 : decide (n < 1) = false := decide_eq_false (by omega)
 cases l with
 | nil =>
  have e : nx [] n = 0 := by unfold nx; rw [List.headD_nil, Int.zero_emod]
  rw [e]
  simp only [l6, A9, ints, List.drop_nil, c3v]
  (repeat first | refine uA ?_ | (refine uK ?_ ?_; focus first | omega | (intros; simp_all <;> omega)) | simp (disch := omega) only [go_sem, Nat.reduceBEq, Nat.reduceAdd, ww, hn1, List.length_nil])
  refine S.cond rfl (fun hc => ?_) (fun hc => by simp at hc)
  (repeat first | refine uA ?_ | (refine uK ?_ ?_; focus first | omega | (intros; simp_all <;> omega)) | simp (disch := omega) only [go_sem, Nat.reduceBEq, Nat.reduceAdd, ww])
  (refine S.done ?_; simp only [p9, p8, go_sem, Nat.reduceBEq, Nat.reduceAdd, Nat.reduceLeDiff, Int.reduceToNat, Int.reducePow]; (repeat (refine ⟨?_, ?_⟩; focus first | trivial | omega | simp)); exact j3.L8 (Imp.refl rfl) (by (repeat first | refine uA ?_ | (refine ⟨?_, ?_⟩; focus first | rfl | simp [slot]) | rfl | simp)) (c2Q hν0 (by simp)))
 | cons x r =>
  have e : nx (x :: r) n = x % n := by unfold nx; rw [List.headD_cons]
  rw [e]
  have hb := b8M x n h
  have h0 : decide (((r.length : Int) + 1) = 0) = false := decide_eq_false (by omega)
  simp only [l6, A9, ints, c3e, List.drop_succ_cons, List.drop_zero] at *
  (repeat first | refine uA ?_ | (refine uK ?_ ?_; focus first | omega | (intros; simp_all <;> omega)) | simp (disch := omega) only [go_sem, Nat.reduceBEq, Nat.reduceAdd, ww, hn1, h0, c3g, c2N] | (refine uB hb ?_ ?_; exact rfl))
  refine S.cond rfl (fun hc => by simp at hc; omega) (fun hc => ?_)
  (repeat first | refine uA ?_ | (refine uK ?_ ?_; focus first | omega | (intros; simp_all <;> omega)) | simp (disch := omega) only [go_sem, Nat.reduceBEq, Nat.reduceAdd, ww, hn1, c3g, c2N, List.getElem?_cons_zero, a5O, List.take_succ_cons, List.drop_succ_cons, Nat.add_sub_cancel, c3j] | (refine uB hb ?_ ?_; exact rfl))
  (refine S.done ?_; simp only [p9, p8, go_sem, Nat.reduceBEq, Nat.reduceAdd, Nat.reduceLeDiff, Int.reduceToNat, Int.reducePow]; (repeat (refine ⟨?_, ?_⟩; focus first | trivial | omega | simp)); exact j3.L8 (Imp.refl rfl) (by (repeat first | refine uA ?_ | (refine ⟨?_, ?_⟩; focus first | rfl | simp [slot]) | rfl | simp)) (c2Q hν0 (by simp)))
set_option maxRecDepth 100000
set_option maxHeartbeats 4000000
def nuI (a : Nm.Rt) : Int := Nm.sgn a.neg (Nm.val a.num)
def deI (a : Nm.Rt) : Int := max (Nm.val a.den : Int) 1
def a3a (x : Lk) (k : Int) : Nm.Rt := Q (8 * nuI x.low * deI x.high + (nuI x.high * deI x.low - nuI x.low * deI x.high) * k) (8 * deI x.low * deI x.high)
def M4 : List Lk -> List Int -> List Nm.Rt
 | [], _ => []
 | x :: r, l => a3a x (nx l 9) :: M4 r (l.drop 1)
theorem a0B : ∀ (L : List Lk) (l : List Int), (M4 L l).length = L.length
 | [], _ => rfl
 | x :: r, l => by rw [M4, c3g, c3g, a0B r]
theorem a9r : ∀ (L : List Lk) (l : List Int) (i : Nat) (x : Lk), L[i]? = some x -> M4 (L.take (i + 1)) l = M4 (L.take i) l ++ [a3a x (nx (l.drop i) 9)]
 | [], _, i, x, h => by simp at h
 | y :: r, l, 0, x, h => by
  simp only [List.getElem?_cons_zero, Option.some.injEq] at h
  subst h
  simp [M4]
 | y :: r, l, i + 1, x, h => by
  rw [List.getElem?_cons_succ] at h
  have := a9r r (l.drop 1) i x h
  rw [List.take_succ_cons, M4, this, List.take_succ_cons, M4, List.cons_append, List.drop_drop]
  rw [show 1 + i = i + 1 by omega]
theorem a9k {a d A D : Int} (h : -A <= a /\ a <= A) (hd : 0 <= d /\ d <= D) (hA : 0 <= A) : -(A * D) <= a * d /\ a * d <= A * D := by
 have h1 := Int.mul_le_mul_of_nonneg_right h.2 hd.1
 have h2 := Int.mul_le_mul_of_nonneg_right h.1 hd.1
 have h3 := Int.mul_le_mul_of_nonneg_left hd.2 hA
 rw [Int.neg_mul] at h2
 omega
theorem a9I {a : Nm.Rt} (h : j4 a = true) : (-1000000 <= nuI a /\ nuI a <= 1000000) /\ 1 <= deI a /\ deI a <= 1000 := by
 unfold j4 at h
 simp only [c2S, c2U] at h
 obtain ⟨⟨_, h1⟩, h2⟩ := h
 unfold nuI deI Nm.sgn
 split <;> omega
structure b9j (x : Lk) (k : Int) : Prop where
 n1 : -1000000 <= nuI x.low /\ nuI x.low <= 1000000
 n2 : -1000000 <= nuI x.high /\ nuI x.high <= 1000000
 d1 : 1 <= deI x.low /\ deI x.low <= 1000
 d2 : 1 <= deI x.high /\ deI x.high <= 1000
 p1 : -1000000000 <= nuI x.low * deI x.high /\ nuI x.low * deI x.high <= 1000000000
 p2 : -1000000000 <= nuI x.high * deI x.low /\ nuI x.high * deI x.low <= 1000000000
 p3 : -16000000000 <= (nuI x.high * deI x.low - nuI x.low * deI x.high) * k /\ (nuI x.high * deI x.low - nuI x.low * deI x.high) * k <= 16000000000
 p4 : 1 <= deI x.low * deI x.high /\ deI x.low * deI x.high <= 1000000
 p5 : 8 * nuI x.low * deI x.high = 8 * (nuI x.low * deI x.high)
 p6 : 8 * deI x.low * deI x.high = 8 * (deI x.low * deI x.high)
theorem a9L {x : Lk} {k : Int} (h1 : j4 x.low = true) (h2 : j4 x.high = true) (hk : 0 <= k /\ k <= 8) : b9j x k := by
 obtain ⟨n1, d1⟩ := a9I h1
 obtain ⟨n2, d2⟩ := a9I h2
 have p1 := a9k (A := 1000000) (D := 1000) n1 (d := deI x.high) (by omega) (by decide)
 have p2 := a9k (A := 1000000) (D := 1000) n2 (d := deI x.low) (by omega) (by decide)
 have p3 := a9k (A := 2000000000) (D := 8) (a := nuI x.high * deI x.low - nuI x.low * deI x.high) (d := k) (by omega) hk (by decide)
 have p4 := a9k (A := 1000) (D := 1000) (a := deI x.low) (d := deI x.high) (by omega) (by omega) (by decide)
 have p5 : 0 < deI x.low * deI x.high := Int.mul_pos (by omega) (by omega)
 exact ⟨n1, n2, d1, d2, by omega, by omega, by omega, by omega, Int.mul_assoc _ _ _, Int.mul_assoc _ _ _⟩
theorem c2A {n d : Int} (hn : -1099511627776 <= n /\ n <= 1099511627776) (hd : 1 <= d /\ d <= 1099511627776) : Rb 8 (Q n d) := by
 obtain ⟨g, hg, ⟨k, h1, h2⟩, h3⟩ := a8b n d hd.1
 have hk : k.natAbs <= 1099511627776 := by
  have : n.natAbs = g * k.natAbs := by rw [h1, Int.natAbs_mul]; simp
  have : k.natAbs <= g * k.natAbs := Nat.le_mul_of_pos_left _ hg
  omega
 have e : (256 : Nat) ^ 8 = 18446744073709551616 := by decide
 refine ⟨Nm.F4 ?_, Nm.F4 ?_⟩
 ·show (mkRat n d.toNat).num.natAbs < 256 ^ 8
  rw [h2, e]; omega
 ·show (mkRat n d.toNat).den < 256 ^ 8
  rw [e]; omega
theorem c0i {x : Lk} {k : Int} (h : b9j x k) : Rb 8 (a3a x k) := by
 obtain ⟨n1, n2, d1, d2, p1, p2, p3, p4, p5, p6⟩ := h
 exact c2A (by omega) (by omega)
theorem nx9 (l : List Int) : 0 <= nx l 9 /\ nx l 9 <= 8 := by
 have := l9 l (n := 9) (by decide)
 have := D5 l (n := 9) (by decide)
 omega
theorem a9W {l : Lk} (h : N7 l = 0) : j4 l.low = true /\ j4 l.high = true := by
 unfold N7 at h
 split at h
 ·cases h
 rename_i h2
 have hs2 : (j4 l.length && j4 l.low && j4 l.high && j4 l.speed && j4 l.brake) = true := by
  cases hb : (j4 l.length && j4 l.low && j4 l.high && j4 l.speed && j4 l.brake) with
  | true => rfl
  | false => exact absurd (.inl hb) h2
 simp only [c2S] at hs2
 exact ⟨hs2.1.1.1.2, hs2.1.1.2⟩
theorem a5A : ∀ (L : List Lk) (l : List Int), (∀ x ∈ L, N7 x = 0) -> ∀ r ∈ M4 L l, Rb 8 r
 | [], _, _, r, hr => by cases hr
 | x :: L, l, h, r, hr => by
  rw [M4] at hr
  rcases List.mem_cons.1 hr with rfl | hr
  ·obtain ⟨s1, s2⟩ := a9W (h x (by simp))
   exact c0i (a9L s1 s2 (nx9 l))
  ·exact a5A L _ (fun y hy => h y (by simp [hy])) r hr
theorem a4a (l : List UInt8) (b : UInt8) : Nm.val (l ++ [b]) = 256 * Nm.val l + b.toNat := by
 unfold Nm.val
 rw [List.foldl_append]
 rfl
theorem b2X {l : List UInt8} (h : l.length <= 3) (i : Nat) : Nm.val (l.take i) < 16777216 := by
 have h1 := Nm.X4 (l.take i)
 have h2 : (l.take i).length <= 3 := by rw [c2W]; omega
 have h3 : (256 : Nat) ^ (l.take i).length <= 256 ^ 3 := c3o (by decide) h2
 have e : (256 : Nat) ^ 3 = 16777216 := by decide
 omega
def a3E (x : Lk) (c q : Nm.Rt) : Nm.Rt := Nm.ofQ (O4 (-(Nm.d9 x.speed)) (J7 (Nm.d9 x.speed) (Nm.d9 c - Nm.d9 q)))
def a1z (L : List Lk) (c q : List Nm.Rt) : List Nm.Rt := (L.zip (c.zip q)).map fun z => a3E z.1 z.2.1 z.2.2
def a2X (z : List (Am × Ast)) (to : List Int) (i : Nat) : List Nm.Rt := match z[i]? with
 | some (a, x) => a1z a.links (M4 a.links (to.drop (3 * i))) x.q
 | none => []
def a0O (z : List (Am × Ast)) (to : List Int) (n : Nat) : List (List Nm.Rt) := (List.range n).map (a2X z to)
theorem b4U (z : List (Am × Ast)) (to : List Int) (n : Nat) : a0O z to (n + 1) = a0O z to n ++ [a2X z to n] := by
 unfold a0O
 rw [List.range_succ, c3D]
 rfl
theorem a6z (z : List (Am × Ast)) (to : List Int) (n : Nat) : (a0O z to n).length = n := by unfold a0O; simp
theorem b7y {L : List Lk} {c q : List Nm.Rt} {i : Nat} {l : Lk} {x y : Nm.Rt} (h1 : L[i]? = some l) (h2 : c[i]? = some x) (h3 : q[i]? = some y) : (a1z L c q)[i]? = some (a3E l x y) := by
 unfold a1z
 rw [c3i, F7 h1 (F7 h2 h3)]
 rfl
theorem b0Y {L : List Lk} {c q : List Nm.Rt} (h1 : c.length = L.length) (h2 : q.length = L.length) : (a1z L c q).length = L.length := by
 unfold a1z; simp only [c2N, List.length_zip]; omega
theorem b3a {α : Type} (l : List α) (n : Nat) : l.drop (min l.length n) = l.drop n := by
 rcases Nat.le_total l.length n with h | h
 ·rw [Nat.min_eq_left h, List.drop_eq_nil_of_le h, List.drop_eq_nil_of_le (c2V _)]
 ·rw [Nat.min_eq_right h]
theorem b7R {x : Lk} {c q : Nm.Rt} {k : Nat} (hs : Rb 3 x.speed) (hc : Rb 8 c) (hq : Rb k q) (hk : 8 <= k) : Rb (k + 9) (a3E x c q) := by
 have h1 : Rb (k + 9) (Nm.ofQ (Nm.d9 c - Nm.d9 q)) := (M6 (hc.fit (by decide)) (hq.fit (by omega))).mono (by omega)
 have h2 : Rb (k + 9) (Nm.ofQ (Nm.d9 x.speed)) := (hs.fit (by decide)).mono (by omega)
 have h3 : Rb (k + 9) (Nm.ofQ (-(Nm.d9 x.speed))) := (b2P hs (by decide)).mono (by omega)
 unfold a3E O4 J7
 repeat' split
 all_goals assumption
structure b3d (w : Wk) (s : Stt) (k : Nat) : Prop where
 st : I5 w s = 0
 q : ∀ x ∈ s.arms, ∀ r ∈ x.q, Rb (100 + 1000 * k) r
theorem Calm.b8X {w : Wk} {s : Stt} {k : Nat} (h : Calm w s k) : b3d w s k := ⟨h.st, h.q⟩
theorem b2o {w : Wk} {s : Stt} {to : List Int} {k i : Nat} (h : b3d w s k) {r : Nm.Rt} (hr : r ∈ a2X (w.arms.zip s.arms) to i) : Rb (109 + 1000 * k) r := by
 unfold a2X at hr
 split at hr
 ·rename_i a x hz
  have hm := c2P hz
  have ho := a2m ((R7 h.st).one _ hm)
  simp only at ho
  have hl := (J9 ho.arm).2
  obtain ⟨z, hz2, rfl⟩ := List.mem_map.1 hr
  obtain ⟨z1, z2, z3⟩ := z
  have m1 := (List.of_mem_zip hz2).1
  have m2 := (List.of_mem_zip (List.of_mem_zip hz2).2).1
  have m3 := (List.of_mem_zip (List.of_mem_zip hz2).2).2
  exact (b7R (a5C (hl z1 m1)).2.2.1 (a5A _ _ hl z2 m2) (h.q x (List.of_mem_zip hm).2 z3 m3) (by omega)).mono (by omega)
 ·cases hr
theorem b0S {w : Wk} {s : Stt} {to : List Int} {k i : Nat} (h : b3d w s k) {a : Am} (ha : w.arms[i]? = some a) : (a2X (w.arms.zip s.arms) to i).length = a.links.length := by
 have hok := R7 h.st
 have hil := (c2R.1 ha).1
 have hx := c2M (show i < s.arms.length by have := hok.arms; omega)
 have hz := F7 ha hx
 have ho := a2m (hok.one _ (c2P hz))
 simp only at ho
 unfold a2X
 rw [hz]
 exact b0Y (a0B _ _) ho.q
theorem b9O {w : Wk} {s : Stt} {to : List Int} {k : Nat} (h : b3d w s k) (hk : k <= 10) : Wsb 1048576 (a0O (w.arms.zip s.arms) to w.arms.length) := by
 have hok := R7 h.st
 refine ⟨by rw [a6z]; have := hok.big; omega, fun l hl => ?_⟩
 obtain ⟨i, hi, rfl⟩ := List.mem_map.1 hl
 have hi := List.mem_range.1 hi
 have ha := c2M hi
 have hx := c2M (show i < s.arms.length by have := hok.arms; omega)
 have ho := a2m (hok.one _ (c2P (F7 ha hx)))
 simp only at ho
 have h3 := (X8 ho.arm).2
 exact ⟨by rw [b0S h ha]; omega, fun r hr => (b2o h hr).mono (by omega)⟩
structure c1P (y b : Ast) (j : Nat) (v : Nm.Rt) : Prop where
 ex : ∃ bv q bq, b.v[j]? = some bv /\ y.q[j]? = some q /\ b.q[j]? = some bq /\ ¬ 0 < Nm.z8 (w9 (Nm.d9 v)) (w9 (Nm.d9 bv)) /\ (y9 (Nm.d9 bv) = 0 -> q = bq) /\ Rb 1048576 bv /\ Rb 1048576 v
structure c2L (y b : Ast) : Prop where
 power : y.power = false
 vlen : y.v.length = b.v.length
 qlen : y.q.length = y.v.length
 small : y.v.length <= 3
 joint : ∀ j v, y.v[j]? = some v -> c1P y b j v
theorem a7P {w : Wk} {s : Stt} (h : I5 w s = 0) : s.parts.all a1d = true := by
 unfold I5 at h
 split at h
 ·rename_i h1; exact absurd h h1
 split at h
 ·cases h
 split at h
 ·cases h
 split at h
 ·rename_i h1; exact absurd h h1
 split at h
 ·rename_i h2
  simp only [c2S] at h2
  exact h2.1
 ·cases h
structure c2K (w : Wk) (s : Stt) (to : List Int) : Prop where
 step : c2o w s (a0O (w.arms.zip s.arms) to w.arms.length) (List.replicate w.arms.length true) [] = 0
 next : Calm w (Z0 w s (a0O (w.arms.zip s.arms) to w.arms.length) (List.replicate w.arms.length true) []) 1
set_option maxRecDepth 10000
set_option maxHeartbeats 8000000
instance : DecidableEq Nm.Rt := fun ⟨a, b, c⟩ ⟨d, e, f⟩ => decidable_of_iff (a = d /\ b = e /\ c = f) ⟨fun ⟨h1, h2, h3⟩ => by rw [h1, h2, h3], fun h => by injection h with h1 h2 h3; exact ⟨h1, h2, h3⟩⟩
instance : DecidableEq Vt := fun ⟨a, b⟩ ⟨d, e⟩ => decidable_of_iff (a = d /\ b = e) ⟨fun ⟨h1, h2⟩ => by rw [h1, h2], fun h => by injection h with h1 h2; exact ⟨h1, h2⟩⟩
instance : DecidableEq Fr := fun ⟨a, b, c, g⟩ ⟨d, e, f, h⟩ => decidable_of_iff (a = d /\ b = e /\ c = f /\ g = h) ⟨fun ⟨h1, h2, h3, h4⟩ => by rw [h1, h2, h3, h4], fun h => by injection h with h1 h2 h3 h4; exact ⟨h1, h2, h3, h4⟩⟩
instance : DecidableEq Ast := fun ⟨a, b, c, g⟩ ⟨d, e, f, h⟩ => decidable_of_iff (a = d /\ b = e /\ c = f /\ g = h) ⟨fun ⟨h1, h2, h3, h4⟩ => by rw [h1, h2, h3, h4], fun h => by injection h with h1 h2 h3 h4; exact ⟨h1, h2, h3, h4⟩⟩
instance : DecidableEq Stt := fun ⟨a, b, c, g, i⟩ ⟨d, e, f, h, j⟩ => decidable_of_iff (a = d /\ b = e /\ c = f /\ g = h /\ i = j) ⟨fun ⟨h1, h2, h3, h4, h5⟩ => by rw [h1, h2, h3, h4, h5], fun h => by injection h with h1 h2 h3 h4 h5; exact ⟨h1, h2, h3, h4, h5⟩⟩
def a9g (x : Ast) : Bool := x.v.any fun v => !decide (y9 (Nm.d9 v) = 0)
theorem b6B (a : Nm.Rt) (ha : Rb 17179869184 a) : FZ 71 [rc a] (.v (.bool (!decide (y9 (Nm.d9 a) = 0)))) := by
 refine kW Tryz.func71 (by cbv) (by rfl) fun w O hw => ?_
 have h := V8 a ha
 generalize y9 (Nm.d9 a) = n at *
 simp only [l6]
 simp only [rc, sb, ints] at *
 (repeat first | refine uA ?_ | (refine uK ?_ ?_; focus first | omega | (intros; simp_all <;> omega)) | simp (disch := omega) only [go_sem, Nat.reduceBEq, Nat.reduceAdd, ww] | (refine uD h ?_ ?_ ?_; exact tz hw; exact rfl))
 exact S.done (j3.out rfl (Imp.refl rfl) rfl)
theorem b8S (x : Ast) (hx : Asb 1073741824 x) : FZ 20 [x.c] (.v (.bool (a9g x))) := by
 refine kW Tryz.func20 (by cbv) (by rfl) fun w O hw => ?_
 have h := b2m 71 (by kernel_rfl) (fun v => !decide (y9 (Nm.d9 v) = 0)) x.v (by have := hx.2.1; omega) (fun v hv => b6B v ((hx.2.2 v hv).mono (by decide)))
 unfold a9g
 generalize (x.v.any fun v => !decide (y9 (Nm.d9 v) = 0)) = q at *
 obtain ⟨xq, xv, xp, xh⟩ := x
 simp only [l6]
 simp only [Ast.c, Ast.enc, rts, sb, ints] at *
 (repeat first | refine uA ?_ | (refine uK ?_ ?_; focus first | omega | (intros; simp_all <;> omega)) | simp (disch := omega) only [go_sem, Nat.reduceBEq, Nat.reduceAdd, ww] | (refine uD h ?_ ?_ ?_; exact tz hw; exact rfl))
 exact S.done (j3.out rfl (Imp.refl rfl) rfl)
set_option maxHeartbeats 4000000
end Go.Proofs.YtgmlehjgpgdjhaaGreatDoor
namespace Go.Proofs.YtgmlehjgpgdjhaaGreatDoor.Eng
open Go Go.RowKit
theorem j5.quiet {P : Program} {f : Nat} {args : List C} {s s' : C} {rs' : List Res} (h : ∀ E : Ctx, E.P = P -> j5 E [] f args s rs' []) (hi : Imp rs' [] s s') (hc : s'.cl = true) : G5 P f args s' := by
 intro O w vs hO hA
 have ho0 : ∀ b, ¬ owned [] [] b := fun b ⟨k, r, x, hk, _⟩ => by simp at hk
 have hRG : RG O (fun _ => False) w.heap.size [] [] w := ⟨rfl, fun k r hk => by simp at hk, fun k l r r' x x' b _ hk => by simp at hk, fun b hb => (ho0 b hb).elim, hO, c2V _⟩
 have hsub : ∀ b, OO O [] [] b -> O b := fun b hb => hb.elim id fun h => (ho0 b h).elim
 refine (h ⟨P, fun _ => false, 0, w, fun _ => False, O, [], []⟩ rfl O [] w vs hRG (fun b hb => hb) ⟨rfl, rfl, rfl, c2V _, fun _ _ _ => rfl⟩ ((FzL.keep (Keeps.sub hsub) hA).den [])).mono ?_
 rintro e w' ⟨y, ν', rfl, h1, h2, h3⟩
 have hC : Cut O rs' [] ν' := Cut.of h1 (by simp [R6])
 have h4 := hi O (fun _ => False) w.heap.size ν' w' y h1 hC h3
 exact ⟨y, rfl, ⟨h2.os, h2.tape, h2.output, h2.size, fun b hb => h2.block b hb (ho0 b)⟩, Fz.keep (Keeps.sub fun b hb => .inl hb) (Den.fz hc h4)⟩
end Go.Proofs.YtgmlehjgpgdjhaaGreatDoor.Eng
namespace Go.Proofs.YtgmlehjgpgdjhaaGreatDoor
open Go Go.RowKit Eng
set_option maxRecDepth 10000
set_option maxHeartbeats 16000000
open Go Eng
set_option maxRecDepth 100000
def dX (t f g : Fr) : Rat := Nm.d9 t.x - a8q f ⟨g.x, g.y⟩
def dY (t f g : Fr) : Rat := Nm.d9 t.y - a8u f ⟨g.x, g.y⟩
def c1e (t f g : Fr) : Prop := 0 < Nm.z8 (w9 (dX t f g)) (1 / 8) \/ 0 < Nm.z8 (w9 (dY t f g)) (1 / 8)
instance (t f g : Fr) : Decidable (c1e t f g) := by unfold c1e; infer_instance
set_option maxHeartbeats 4000000
theorem b1l {a : Nm.Rt} (h : j4 a = true) : Nm.d9 a = (nuI a : Rat) / (deI a : Rat) /\ (0 : Rat) < (deI a : Rat) := by
 unfold j4 at h
 simp only [c2S, c2U] at h
 obtain ⟨⟨⟨_, hg⟩, _⟩, _⟩ := h
 have hv : Nm.val a.den ≠ 0 := fun e => hg.1 ((Nm.val_zero hg.2.1).1 e)
 have hd : deI a = (Nm.val a.den : Int) := by unfold deI; omega
 have hp : (0 : Rat) < ((Nm.val a.den : Int) : Rat) := by
  have : (0 : Int) < (Nm.val a.den : Int) := by omega
  exact_mod_cast this
 rw [hd]
 refine ⟨?_, hp⟩
 unfold Nm.d9
 rw [if_pos hg]
 unfold Nm.toQ
 rw [Rat.mkRat_eq_div]
 rfl
theorem c0A {x : Lk} {k : Int} (h1 : j4 x.low = true) (h2 : j4 x.high = true) (hk : 0 <= k /\ k <= 8) : Nm.d9 (a3a x k) = Nm.d9 x.low + (Nm.d9 x.high - Nm.d9 x.low) * (k : Rat) / 8 := by
 obtain ⟨e1, p1⟩ := b1l h1
 obtain ⟨e2, p2⟩ := b1l h2
 have hb := a9L h1 h2 hk
 have b4 := hb.p4
 have b6 := hb.p6
 unfold a3a
 rw [a2r, Rat.mkRat_eq_div, e1, e2]
 have hD : (((8 * deI x.low * deI x.high).toNat : Int) : Rat) = 8 * (deI x.low : Rat) * (deI x.high : Rat) := by
  rw [show (((8 * deI x.low * deI x.high).toNat : Nat) : Int) = 8 * deI x.low * deI x.high by omega]
  simp only [Rat.intCast_mul]
  rfl
 rw [show (((8 * deI x.low * deI x.high).toNat : Nat) : Rat) = (((8 * deI x.low * deI x.high).toNat : Int) : Rat) from rfl, hD]
 simp only [Rat.intCast_add, Rat.intCast_mul, Rat.intCast_sub]
 generalize (nuI x.low : Rat) = n at *
 generalize (nuI x.high : Rat) = m at *
 generalize (deI x.low : Rat) = d at *
 generalize (deI x.high : Rat) = e at *
 generalize (k : Rat) = K at *
 have d0 : d ≠ 0 := by grind
 have e0 : e ≠ 0 := by grind
 have hn : n / d * d = n := Rat.div_mul_cancel d0
 have hm : m / e * e = m := Rat.div_mul_cancel e0
 generalize n / d = L at *
 generalize m / e = H at *
 have hde : (8 * d * e) ≠ 0 := by
  have := Rat.mul_pos p1 p2
  grind
 have key : (8 : Int) * n * e + (m * d - n * e) * K = (L + (H - L) * K / 8) * (8 * d * e) := by
  rw [<- hn, <- hm]
  grind
 rw [key]
 exact Rat.mul_div_cancel hde
theorem b9a {x : Lk} (hl : N7 x = 0) {k : Int} (hk : 0 <= k /\ k <= 8) : a8a (x, a3a x k) = 0 := by
 obtain ⟨h1, h2⟩ := a9W hl
 have h3 := (a3F hl).2.1
 rw [a1Y] at h3
 unfold a8a
 rw [if_neg]
 rw [a1Y, V9]
 simp only
 rw [c0A h1 h2 hk]
 have k0 : (0 : Rat) <= (k : Rat) := by exact_mod_cast hk.1
 have k8 : (k : Rat) <= 8 := by exact_mod_cast hk.2
 generalize Nm.d9 x.low = L at *
 generalize Nm.d9 x.high = H at *
 generalize (k : Rat) = K at *
 have m1 : 0 <= (H - L) * K := Rat.mul_nonneg (by grind) k0
 have m2 : 0 <= (H - L) * (8 - K) := Rat.mul_nonneg (by grind) (by grind)
 grind
theorem b0A : ∀ (L : List Lk) (l : List Int) (z : Lk × Nm.Rt), z ∈ L.zip (M4 L l) -> ∃ l', z.1 ∈ L /\ z.2 = a3a z.1 (nx l' 9)
 | [], _, z, h => by simp at h
 | x :: r, l, z, h => by
  rw [M4, List.zip_cons_cons] at h
  rcases List.mem_cons.1 h with rfl | h
  ·exact ⟨l, by simp, rfl⟩
  ·obtain ⟨l', h1, h2⟩ := b0A r _ z h
   exact ⟨l', by simp [h1], h2⟩
theorem a5S : ∀ (L : List Lk) (l : List Int), (M4 L l).all F9 = true
 | [], _ => rfl
 | x :: r, l => by
  rw [M4, List.all_cons, a5S r]
  have : F9 (a3a x (nx l 9)) = true := decide_eq_true (Nm.Y2 _)
  rw [this]; rfl
end Go.Proofs.YtgmlehjgpgdjhaaGreatDoor
