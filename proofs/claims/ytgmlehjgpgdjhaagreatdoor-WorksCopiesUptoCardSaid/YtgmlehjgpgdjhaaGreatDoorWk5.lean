/- A part of the proof: lemmas only, with the conditions that each names. -/
import Derived.Test.YtgmlehjgpgdjhaaGreatDoorProg
import Derived.KernelRfl
import Derived.Test.YtgmlehjgpgdjhaaGreatDoorWk4
set_option linter.all false
namespace Go.Proofs.YtgmlehjgpgdjhaaGreatDoor
open Go Go.RowKit Eng
set_option maxRecDepth 10000
set_option maxHeartbeats 8000000
theorem b6s {α : Type} (p : α -> Bool) (a b c d e : α) : [a, b, c, d, e].all p = (p a && p b && p c && p d && p e) := by simp [Bool.and_assoc]
theorem a9s {α : Type} (p : α -> Bool) (a b c : α) : [a, b, c].all p = (p a && p b && p c) := by simp [Bool.and_assoc]
theorem a8n {α : Type} (p : α -> Bool) (a b : α) : [a, b].all p = (p a && p b) := by simp
theorem Rbs.five {k : Nat} {a b c d e : Nm.Rt} (h : 5 <= k) (h1 : Rb k a) (h2 : Rb k b) (h3 : Rb k c) (h4 : Rb k d) (h5 : Rb k e) : Rbs k [a, b, c, d, e] := ⟨h, fun x hx => by simp at hx; rcases hx with rfl | rfl | rfl | rfl | rfl <;> assumption⟩
theorem Rbs.three {k : Nat} {a b c : Nm.Rt} (h : 3 <= k) (h1 : Rb k a) (h2 : Rb k b) (h3 : Rb k c) : Rbs k [a, b, c] := ⟨h, fun x hx => by simp at hx; rcases hx with rfl | rfl | rfl <;> assumption⟩
theorem Rbs.two {k : Nat} {a b : Nm.Rt} (h : 2 <= k) (h1 : Rb k a) (h2 : Rb k b) : Rbs k [a, b] := ⟨h, fun x hx => by simp at hx; rcases hx with rfl | rfl <;> assumption⟩
theorem b7L (l : Lk) (hl : Lb 1073741824 l) : FZ 89 [l.c] (ints (V4 l)) := by
  refine kW b0w b0O (by rfl) fun w O hw => ?_
  obtain ⟨length, low, high, speed, brake, shape⟩ := l
  obtain ⟨b1, b2, b3, b4, b5, b6⟩ := hl
  simp only at b1 b2 b3 b4 b5 b6
  have c1 := b1.mono (m := 17179869184) (by decide)
  have c2 := b2.mono (m := 17179869184) (by decide)
  have c3 := b3.mono (m := 17179869184) (by decide)
  have c4 := b4.mono (m := 17179869184) (by decide)
  have c5 := b5.mono (m := 17179869184) (by decide)
  have hsm := a6X _ (Rbs.five (by decide) c1 c2 c3 c4 c5)
  rw [b6s] at hsm
  have hs1 := a0A length c1
  have hcm := a2h low high c2 c3
  have hs2 := a0A speed c4
  have hs3 := a0A brake c5
  have hp := a6B shape b6
  have hv := fun (v : Vt) (h : v ∈ shape) => a6X _ (Rbs.two (by decide) ((b6.2 v h).1.mono (m := 17179869184) (by decide)) ((b6.2 v h).2.mono (m := 17179869184) (by decide)))
  have hn := b6.1
  unfold V4
  simp only
  generalize (p8 length && p8 low && p8 high && p8 speed && p8 brake) = q at *
  generalize I8 (Nm.j4 length) = n1 at *
  generalize Nm.G8 (Nm.j4 low) (Nm.j4 high) = n2 at *
  generalize I8 (Nm.j4 speed) = n3 at *
  generalize I8 (Nm.j4 brake) = n4 at *
  generalize O5 shape 8 = n5 at *
  simp only [a5i, l9, TT, II, OA, OB, OC, MM, LL, VV, FF, MG, LG, VG, FG]
  simp only [Lk.c, Lk.enc, rc, rts, rcs, vts, sb, ints, b9Z, c0x] at *
  (repeat first | refine uG hs1 ?_ | refine uG hcm ?_ | refine uG hsm ?_ | refine uA ?_ | (refine uK ?_ ?_; focus first | omega | (intros; simp_all <;> omega)) | simp (disch := omega) only [go_sem, Nat.reduceBEq, Nat.reduceAdd, ww] | (refine uD hs1 ?_ ?_ ?_; exact tz hw; exact rfl) | (refine uD hcm ?_ ?_ ?_; exact tz hw; exact rfl) | (refine uE hsm ?_ ?_ ?_ ?_; exact tz hw; exact rfl; focus (repeat' first | exact l8.nil | exact Imp.refl rfl | exact Imp.frz rfl rfl rfl | (refine Imp.Y5 rfl rfl ?_ ?_; (focus ((try simp only [b9X]); omega)); (focus first | rfl | assumption)) | refine l8.cons ?_ ?_); done))
  refine S.cond rfl (fun hc => ?_) (fun hc => ?_)
  · rw [if_pos (by simp only [c0A, Bool.not_eq_true', b9U] at hc; rcases hc with (hc | hc) | hc <;> simp [hc])]
    (repeat first | refine uA ?_ | (refine uK ?_ ?_; focus first | omega | (intros; simp_all <;> omega)) | simp (disch := omega) only [go_sem, Nat.reduceBEq, Nat.reduceAdd, ww])
    exact S.done (d9.out rfl (Imp.refl rfl) rfl)
  rw [if_neg (by simp only [c0u, Bool.not_eq_false', c0c] at hc; simp [hc])]
  (repeat first | refine uG hs2 ?_ | refine uG hs3 ?_ | refine uA ?_ | (refine uK ?_ ?_; focus first | omega | (intros; simp_all <;> omega)) | simp (disch := omega) only [go_sem, Nat.reduceBEq, Nat.reduceAdd, ww] | (refine uD hs2 ?_ ?_ ?_; exact tz hw; exact rfl) | (refine uD hs3 ?_ ?_ ?_; exact tz hw; exact rfl))
  refine S.cond rfl (fun hc => ?_) (fun hc => ?_)
  · rw [if_pos (by simp only [c0A, b9U] at hc; exact hc)]
    (repeat first | refine uA ?_ | (refine uK ?_ ?_; focus first | omega | (intros; simp_all <;> omega)) | simp (disch := omega) only [go_sem, Nat.reduceBEq, Nat.reduceAdd, ww])
    exact S.done (d9.out rfl (Imp.refl rfl) rfl)
  rw [if_neg (by simp only [c0u, c0c] at hc; simp [hc])]
  (repeat first | refine uG hp ?_ | refine uA ?_ | (refine uK ?_ ?_; focus first | omega | (intros; simp_all <;> omega)) | simp (disch := omega) only [go_sem, Nat.reduceBEq, Nat.reduceAdd, ww] | (refine uD hp ?_ ?_ ?_; exact tz hw; exact rfl))
  refine S.cond rfl (fun hc => ?_) (fun hc => ?_)
  · rw [if_pos (by simpa using hc)]
    (repeat first | refine uA ?_ | (refine uK ?_ ?_; focus first | omega | (intros; simp_all <;> omega)) | simp (disch := omega) only [go_sem, Nat.reduceBEq, Nat.reduceAdd, ww])
    exact S.done (d9.out rfl (Imp.refl rfl) rfl)
  rw [if_neg (by simpa using hc)]
  (repeat first | refine uA ?_ | (refine uK ?_ ?_; focus first | omega | (intros; simp_all <;> omega)) | simp (disch := omega) only [go_sem, Nat.reduceBEq, Nat.reduceAdd, ww, b9K])
  refine S.loop (X := Nat) (fun i => ⟨[(50, vts shape), (51, ints shape.length), (52, ints i)], []⟩) (fun i => i <= shape.length /\ (shape.all fun v => p8 v.x && p8 v.y) = (shape.drop i).all fun v => p8 v.x && p8 v.y) (fun i => shape.length - i) 0 ⟨b9M _, rfl⟩ (by (repeat first | refine uA ?_ | (refine ⟨?_, ?_⟩; focus first | rfl | simp [slot]) | rfl | simp)) ?_
  rintro i ⟨hi, hg⟩
  simp only [vts, ints]
  (repeat first | refine uA ?_ | (refine uK ?_ ?_; focus first | omega | (intros; simp_all <;> omega)) | simp (disch := omega) only [go_sem, Nat.reduceBEq, Nat.reduceAdd, ww])
  (refine uJ rfl (fun hc => ?_) fun hc => ?_)
  · have hi' : i < shape.length := by omega
    have hgi := b9I hi'
    generalize shape[i] = x at hgi
    have hd := drop_at hgi
    have hs := hv x (b9W hgi)
    rw [a8n] at hs
    (repeat first | refine uG hs ?_ | refine uA ?_ | (refine uK ?_ ?_; focus first | omega | (intros; simp_all <;> omega)) | simp (disch := omega) only [go_sem, Nat.reduceBEq, Nat.reduceAdd, ww, hgi, b9J, b9K, Vt.enc, sb] | (refine uE hs ?_ ?_ ?_ ?_; exact tz hw; exact rfl; focus (repeat' first | exact l8.nil | exact Imp.refl rfl | exact Imp.frz rfl rfl rfl | (refine Imp.Y5 rfl rfl ?_ ?_; (focus ((try simp only [b9X, hgi, b9J, b9K, Vt.enc, sb]); omega)); (focus first | rfl | assumption)) | refine l8.cons ?_ ?_); done))
    refine S.cond rfl (fun hc2 => ?_) (fun hc2 => ?_)
    · have : (shape.all fun v => p8 v.x && p8 v.y) = false := by
        rw [hg, hd, List.all_cons]
        simp only [Bool.not_eq_true'] at hc2
        rw [hc2]; rfl
      rw [this]
      (repeat first | refine uA ?_ | (refine uK ?_ ?_; focus first | omega | (intros; simp_all <;> omega)) | simp (disch := omega) only [go_sem, Nat.reduceBEq, Nat.reduceAdd, ww])
      exact S.done (d9.out rfl (Imp.refl rfl) rfl)
    · (repeat first | refine uA ?_ | (refine uK ?_ ?_; focus first | omega | (intros; simp_all <;> omega)) | simp (disch := omega) only [go_sem, Nat.reduceBEq, Nat.reduceAdd, ww])
      refine S.next (i + 1) ⟨by omega, ?_⟩ (by omega) (by (repeat first | refine uA ?_ | (refine ⟨?_, ?_⟩; focus first | rfl | simp [slot]) | rfl | simp))
      rw [hg, hd, List.all_cons]
      simp only [Bool.not_eq_false'] at hc2
      rw [hc2]; rfl
  · have : (shape.all fun v => p8 v.x && p8 v.y) = true := by rw [hg, List.drop_eq_nil_of_le (by omega)]; rfl
    rw [this]
    (repeat first | refine uA ?_ | (refine uK ?_ ?_; focus first | omega | (intros; simp_all <;> omega)) | simp (disch := omega) only [go_sem, Nat.reduceBEq, Nat.reduceAdd, ww])
    exact S.done (d9.out rfl (Imp.refl rfl) rfl)
theorem b4x (a : Am) (hl : Ab 1073741824 a) : FZ 29 [a.c] (ints (Q7 a)) := by
 refine kW b0F b1b (by rfl) fun w O hw => ?_
 obtain ⟨name, ⟨x, y, half, t⟩, links⟩ := a
 obtain ⟨b0, ⟨b1, b2, b3⟩, hn, hb⟩ := hl
 simp only at b0 b1 b2 b3 hn hb
 have c1 := b1.mono (m := 17179869184) (by decide)
 have c2 := b2.mono (m := 17179869184) (by decide)
 have c3 := b3.mono (m := 17179869184) (by decide)
 have hnm := b6B name (by omega)
 have hsm := a6X _ (Rbs.three (by decide) c1 c2 c3)
 rw [a9s] at hsm
 have hs := a0A t c3
 unfold Q7 a3k
 simp only
 generalize a0y name = q0 at *
 generalize (p8 x && p8 y && p8 t) = q at *
 generalize I8 (Nm.j4 t) = n1 at *
 simp only [a5E, l9, TT, II, OA, OB, OC, MM, LL, VV, FF, MG, LG, VG, FG]
 simp only [Am.c, Am.enc, rc, rts, rcs, lks, sb, ints, b9Z, c0x] at *
 (repeat first | refine uF hnm ?_ | refine uA ?_ | (refine uK ?_ ?_; focus first | omega | (intros; simp_all <;> omega)) | simp (disch := omega) only [go_sem, Nat.reduceBEq, Nat.reduceAdd, ww] | (refine uB hnm ?_ ?_; exact rfl))
 refine S.cond rfl (fun hc => ?_) (fun hc => ?_)
 ·rw [if_pos (by simpa using hc)]
  (repeat first | refine uA ?_ | (refine uK ?_ ?_; focus first | omega | (intros; simp_all <;> omega)) | simp (disch := omega) only [go_sem, Nat.reduceBEq, Nat.reduceAdd, ww])
  exact S.done (d9.out rfl (Imp.refl rfl) rfl)
 rw [if_neg (by simpa using hc)]
 (repeat first | refine uA ?_ | (refine uK ?_ ?_; focus first | omega | (intros; simp_all <;> omega)) | simp (disch := omega) only [go_sem, Nat.reduceBEq, Nat.reduceAdd, ww, b9K])
 refine S.cond rfl (fun hc => ?_) (fun hc => ?_)
 ·rw [if_pos (by simp only [b9U] at hc; omega)]
  (repeat first | refine uA ?_ | (refine uK ?_ ?_; focus first | omega | (intros; simp_all <;> omega)) | simp (disch := omega) only [go_sem, Nat.reduceBEq, Nat.reduceAdd, ww])
  exact S.done (d9.out rfl (Imp.refl rfl) rfl)
 rw [if_neg (by simp only [c0c] at hc; omega)]
 by_cases h0 : links.length = 0
 ·rw [if_pos (.inl h0)]
  have e0 : decide ((links.length : Int) = 0) = true := decide_eq_true (by omega)
  (repeat first | refine uG hs ?_ | refine uG hsm ?_ | refine uA ?_ | (refine uK ?_ ?_; focus first | omega | (intros; simp_all <;> omega)) | simp (disch := omega) only [go_sem, Nat.reduceBEq, Nat.reduceAdd, ww, b9K, e0] | (refine uD hs ?_ ?_ ?_; exact tz hw; exact rfl) | (refine uE hsm ?_ ?_ ?_ ?_; exact tz hw; exact rfl; focus (repeat' first | exact l8.nil | exact Imp.refl rfl | exact Imp.frz rfl rfl rfl | (refine Imp.Y5 rfl rfl ?_ ?_; (focus ((try simp only [b9X, b9K, e0]); omega)); (focus first | rfl | assumption)) | refine l8.cons ?_ ?_); done))
  refine S.cond rfl (fun _ => ?_) (fun hc => by simp at hc)
  (repeat first | refine uA ?_ | (refine uK ?_ ?_; focus first | omega | (intros; simp_all <;> omega)) | simp (disch := omega) only [go_sem, Nat.reduceBEq, Nat.reduceAdd, ww])
  exact S.done (d9.out rfl (Imp.refl rfl) rfl)
 have e0 : decide ((links.length : Int) = 0) = false := decide_eq_false (by omega)
 (repeat first | refine uG hs ?_ | refine uG hsm ?_ | refine uA ?_ | (refine uK ?_ ?_; focus first | omega | (intros; simp_all <;> omega)) | simp (disch := omega) only [go_sem, Nat.reduceBEq, Nat.reduceAdd, ww, b9K, e0] | (refine uD hs ?_ ?_ ?_; exact tz hw; exact rfl) | (refine uE hsm ?_ ?_ ?_ ?_; exact tz hw; exact rfl; focus (repeat' first | exact l8.nil | exact Imp.refl rfl | exact Imp.frz rfl rfl rfl | (refine Imp.Y5 rfl rfl ?_ ?_; (focus ((try simp only [b9X, b9K, e0]); omega)); (focus first | rfl | assumption)) | refine l8.cons ?_ ?_); done))
 refine S.cond rfl (fun hc => ?_) (fun hc => ?_)
 ·rw [if_pos (by simp only [c0A, Bool.not_eq_true', b9U] at hc; rcases hc with hc | hc; (· exact .inr (.inl hc)); (· exact .inr (.inr (by cases half <;> simp_all))))]
  (repeat first | refine uA ?_ | (refine uK ?_ ?_; focus first | omega | (intros; simp_all <;> omega)) | simp (disch := omega) only [go_sem, Nat.reduceBEq, Nat.reduceAdd, ww])
  exact S.done (d9.out rfl (Imp.refl rfl) rfl)
 rw [if_neg (by simp only [c0u, Bool.not_eq_false', c0c] at hc; rintro (h | h | h); (· omega); (· simp_all); (· cases half <;> simp_all))]
 (repeat first | refine uA ?_ | (refine uK ?_ ?_; focus first | omega | (intros; simp_all <;> omega)) | simp (disch := omega) only [go_sem, Nat.reduceBEq, Nat.reduceAdd, ww, b9K])
 refine S.loop (X := Nat) (fun i => ⟨[(48, lks links), (49, ints links.length), (50, ints i)], []⟩) (fun i => i <= links.length /\ F5 V4 links = F5 V4 (links.drop i)) (fun i => links.length - i) 0 ⟨b9M _, rfl⟩ (by (repeat first | refine uA ?_ | (refine ⟨?_, ?_⟩; focus first | rfl | simp [slot]) | rfl | simp)) ?_
 rintro i ⟨hi, hg⟩
 simp only [lks, ints]
 (repeat first | refine uA ?_ | (refine uK ?_ ?_; focus first | omega | (intros; simp_all <;> omega)) | simp (disch := omega) only [go_sem, Nat.reduceBEq, Nat.reduceAdd, ww])
 (refine uJ rfl (fun hc => ?_) fun hc => ?_)
 ·have hi' : i < links.length := by omega
  have hgi := b9I hi'
  generalize links[i] = x at hgi
  have hst := a0I (f := V4) hgi
  have hnx := a0E (f := V4) hgi
  have hs := b7L x (hb x (b9W hgi))
  generalize V4 x = e at *
  simp only [Lk.c, Lk.enc, vts, sb, ints] at hs
  (repeat first | refine uG hs ?_ | refine uA ?_ | (refine uK ?_ ?_; focus first | omega | (intros; simp_all <;> omega)) | simp (disch := omega) only [go_sem, Nat.reduceBEq, Nat.reduceAdd, ww, hgi, b9J, b9K, Lk.enc, vts, sb] | (refine uD hs ?_ ?_ ?_; exact tz hw; exact rfl))
  refine S.cond rfl (fun hc2 => ?_) (fun hc2 => ?_)
  ·rw [hg, hst (by simpa using hc2)]
   (repeat first | refine uA ?_ | (refine uK ?_ ?_; focus first | omega | (intros; simp_all <;> omega)) | simp (disch := omega) only [go_sem, Nat.reduceBEq, Nat.reduceAdd, ww])
   exact S.done (d9.out rfl (Imp.refl rfl) rfl)
  ·(repeat first | refine uA ?_ | (refine uK ?_ ?_; focus first | omega | (intros; simp_all <;> omega)) | simp (disch := omega) only [go_sem, Nat.reduceBEq, Nat.reduceAdd, ww])
   refine S.next (i + 1) ⟨by omega, ?_⟩ (by omega) (by (repeat first | refine uA ?_ | (refine ⟨?_, ?_⟩; focus first | rfl | simp [slot]) | rfl | simp))
   rw [hg, hnx (by simpa using hc2)]
 ·rw [hg, a1t (by omega)]
  (repeat first | refine uA ?_ | (refine uK ?_ ?_; focus first | omega | (intros; simp_all <;> omega)) | simp (disch := omega) only [go_sem, Nat.reduceBEq, Nat.reduceAdd, ww])
  exact S.done (d9.out rfl (Imp.refl rfl) rfl)
theorem b4H (v : Vt) (hv : Vb 17179869184 v) : FZ 134 [v.c] (.v (.bool (!okV v))) := by
 refine kW Tryz.func134 (by cbv) (by rfl) fun w O hw => ?_
 obtain ⟨x, y⟩ := v
 obtain ⟨b1, b2⟩ := hv
 simp only at b1 b2
 have h1 := a2j x (b1.mono (by decide))
 have h2 := a2j y (b2.mono (by decide))
 have h3 := a2E x b1
 have h4 := a2E y b2
 unfold okV
 simp only
 generalize decide x.G5 = q1 at *
 generalize decide y.G5 = q2 at *
 generalize p8 x = q3 at *
 generalize p8 y = q4 at *
 simp only [l9]
 simp only [Vt.c, Vt.enc, rc, sb] at *
 (repeat first | refine uA ?_ | (refine uK ?_ ?_; focus first | omega | (intros; simp_all <;> omega)) | simp (disch := omega) only [go_sem, Nat.reduceBEq, Nat.reduceAdd, ww] | (refine uD h1 ?_ ?_ ?_; exact tz hw; exact rfl) | (refine uD h2 ?_ ?_ ?_; exact tz hw; exact rfl) | (refine uD h3 ?_ ?_ ?_; exact tz hw; exact rfl) | (refine uD h4 ?_ ?_ ?_; exact tz hw; exact rfl))
 have e : (!(q1 && q2 && q3 && q4)) = (!q1 || !q2 || !q3 || !q4) := by cases q1 <;> cases q2 <;> cases q3 <;> cases q4 <;> rfl
 (try rw [e])
 exact S.done (d9.out rfl (Imp.refl rfl) rfl)
theorem a6P (l : List Vt) (hl : Vbs 17179869184 l) : FZ 92 [vts l] (.v (.bool (l.all okV))) := by
 refine kW Tryz.func92 (by cbv) (by rfl) fun w O hw => ?_
 have h := b1q 134 (by kernel_rfl) (fun v => !okV v) l (by have := hl.1; omega) (fun v hv => b4H v (hl.2 v hv))
 have e : l.all okV = !l.any fun v => !okV v := by rw [List.not_any_eq_all_not]; simp
 rw [e]
 generalize (l.any fun v => !okV v) = q at *
 simp only [l9]
 simp only [vts] at *
 (repeat first | refine uA ?_ | (refine uK ?_ ?_; focus first | omega | (intros; simp_all <;> omega)) | simp (disch := omega) only [go_sem, Nat.reduceBEq, Nat.reduceAdd, ww] | (refine uD h ?_ ?_ ?_; exact tz hw; exact rfl))
 exact S.done (d9.out rfl (Imp.refl rfl) rfl)
theorem Vbs.one {k : Nat} {v : Vt} (h : 1 <= k) (h1 : Vb k v) : Vbs k [v] := ⟨h, fun x hx => by simp at hx; subst hx; exact h1⟩
theorem Vbs.two {k : Nat} {v u : Vt} (h : 2 <= k) (h1 : Vb k v) (h2 : Vb k u) : Vbs k [v, u] := ⟨h, fun x hx => by simp at hx; rcases hx with rfl | rfl <;> assumption⟩
theorem b0B (f : Fr) (hf : Fb 17179869184 f) : FZ 93 [f.c] (.v (.bool (okF f))) := by
 refine kW a8G a8p (by rfl) fun w O hw => ?_
 obtain ⟨x, y, half, t⟩ := f
 obtain ⟨b1, b2, b3⟩ := hf
 simp only at b1 b2 b3
 have h1 := a6P [⟨x, y⟩] (Vbs.one (by decide) ⟨b1, b2⟩)
 rw [List.all_cons, List.all_nil, Bool.and_true] at h1
 have h2 := a2j t (b3.mono (by decide))
 have h3 := a2E t b3
 have h4 := a0A t b3
 unfold okF a3k
 simp only
 generalize okV ⟨x, y⟩ = q1 at *
 generalize decide t.G5 = q2 at *
 generalize p8 t = q3 at *
 generalize I8 (Nm.j4 t) = n at *
 simp only [a4a, l9, TT, II, OA, OB, OC, MM, LL, VV, FF, MG, LG, VG, FG]
 simp only [Fr.c, Fr.enc, vts, Vt.enc, rc, sb, ints, b9Z, c0x] at *
 (repeat first | refine uA ?_ | (refine uK ?_ ?_; focus first | omega | (intros; simp_all <;> omega)) | simp (disch := omega) only [go_sem, Nat.reduceBEq, Nat.reduceAdd, ww] | (refine uD h2 ?_ ?_ ?_; exact tz hw; exact rfl) | (refine uD h3 ?_ ?_ ?_; exact tz hw; exact rfl) | (refine uD h4 ?_ ?_ ?_; exact tz hw; exact rfl) | (refine uE h1 ?_ ?_ ?_ ?_; exact tz hw; exact rfl; focus (repeat' first | exact l8.nil | exact Imp.refl rfl | exact Imp.frz rfl rfl rfl | (refine Imp.Y5 rfl rfl ?_ ?_; (focus ((try simp only [b9X]); omega)); (focus first | rfl | assumption)) | refine l8.cons ?_ ?_); done))
 have e : (q1 && q2 && q3 && !(half && !decide (n = 0))) = (q1 && q2 && q3 && (!half || decide (n = 0))) := by cases q1 <;> cases q2 <;> cases q3 <;> cases half <;> simp
 rw [e]
 exact S.done (d9.out rfl (Imp.refl (by rfl)) rfl)
theorem b1D (l : List Vt) (hl : Vbs 1073741824 l) : FZ 33 [vts l] (ints (I5 l)) := by
 refine kW Tryz.func33 (by cbv) (by rfl) fun w O hw => ?_
 have h1 := a6B l hl
 have h2 := a6P l ⟨by have := hl.1; omega, fun v hv => (hl.2 v hv).mono (by decide)⟩
 unfold I5
 generalize O5 l 8 = e at *
 generalize l.all okV = q at *
 simp only [l9]
 simp only [vts, ints] at *
 (repeat first | refine uA ?_ | (refine uK ?_ ?_; focus first | omega | (intros; simp_all <;> omega)) | simp (disch := omega) only [go_sem, Nat.reduceBEq, Nat.reduceAdd, ww] | (refine uD h1 ?_ ?_ ?_; exact tz hw; exact rfl))
 refine S.cond rfl (fun hc => ?_) (fun hc => ?_)
 ·rw [if_pos (by simpa using hc)]
  (repeat first | refine uA ?_ | (refine uK ?_ ?_; focus first | omega | (intros; simp_all <;> omega)) | simp (disch := omega) only [go_sem, Nat.reduceBEq, Nat.reduceAdd, ww])
  exact S.done (d9.out rfl (Imp.refl rfl) rfl)
 rw [if_neg (by simpa using hc)]
 (repeat first | refine uA ?_ | (refine uK ?_ ?_; focus first | omega | (intros; simp_all <;> omega)) | simp (disch := omega) only [go_sem, Nat.reduceBEq, Nat.reduceAdd, ww] | (refine uD h2 ?_ ?_ ?_; exact tz hw; exact rfl))
 refine S.cond rfl (fun hc => ?_) (fun hc => ?_)
 ·rw [if_neg (by simpa using hc)]
  (repeat first | refine uA ?_ | (refine uK ?_ ?_; focus first | omega | (intros; simp_all <;> omega)) | simp (disch := omega) only [go_sem, Nat.reduceBEq, Nat.reduceAdd, ww])
  exact S.done (d9.out rfl (Imp.refl rfl) rfl)
 ·rw [if_pos (by simpa using hc)]
  (repeat first | refine uA ?_ | (refine uK ?_ ?_; focus first | omega | (intros; simp_all <;> omega)) | simp (disch := omega) only [go_sem, Nat.reduceBEq, Nat.reduceAdd, ww])
  exact S.done (d9.out rfl (Imp.refl rfl) rfl)
end Go.Proofs.YtgmlehjgpgdjhaaGreatDoor
namespace Go.Proofs.YtgmlehjgpgdjhaaGreatDoor.Eng
open Go Go.RowKit
theorem j5.ofT {E : Ctx} {eff : Nat -> Bool} {f : Nat} {fn : Func} {ir : E9} (ht : Tz E) (hf : E.P.funcs[f]? = some fn) (hc : D5 eff E.P fn = some ir) {rs : List Res} {args : List C} {s : C} {rs' : List Res} {pk : List Nat} (hn : args.length <= ir.ntmps)
  (h : ∀ w own av ν, ν.length = rs.length -> Tz ⟨E.P, eff, ir.ntmps, w, own, av, ν, pk⟩ -> S ⟨E.P, eff, ir.ntmps, w, own, av, ν, pk⟩ (Fin E.P ir.results (b3I ⟨E.P, eff, ir.ntmps, w, own, av, ν, pk⟩ rs' s)) ⟨l9 0 args, rs⟩ [.code ir.body]) : j5 E rs f args s rs' pk := by
 intro av ν w vs hR hav hF hD
 have hR' : RG av (owned rs ν) w.heap.size ν rs w := ⟨hR.len, hR.res, hR.dis, fun b hb => ⟨(hR.low b hb).1, (hR.low b hb).2.1, .inl hb⟩, hR.av, b9T _⟩
 have ht' : Tz ⟨E.P, eff, ir.ntmps, w, owned rs ν, av, ν, pk⟩ := ⟨ht.at hF, fun ho => by
  rcases (hR.low _ ho).2.2 with h1 | h1
  ·exact ht.2 h1
  ·have := b3F ht.1; omega⟩
 refine (b1h (E := ⟨E.P, eff, ir.ntmps, w, owned rs ν, av, ν, pk⟩) hf hc rfl rfl hR.av rs hR' args hD hn (h w (owned rs ν) av ν hR.len ht')).mono ?_
 rintro e w' ⟨y, rfl, ν', h1, h2, h3, h4⟩
 refine ⟨y, ν', rfl, ⟨h1.len, h1.res, h1.dis, fun b hb => ?_, h1.av, b9L hR.n0 h2.size⟩, ⟨h2.os, h2.tape, h2.output, h2.size, h2.block, fun b hb => (h1.low b hb).2.2, h3⟩, h4⟩
 obtain ⟨g1, g2, g3⟩ := h1.low b hb
 refine ⟨g1, g2, ?_⟩
 rcases g3 with g3 | g3
 ·exact (hR.low b g3).2.2
 ·exact .inr (b9L hR.n0 g3)
def Res.shut : Res -> Bool
 | .gone => false
 | .box _ cs => C.clL cs
 | .row _ _ _ => true
 | .map _ _ => true
 | .mem _ _ => false
theorem a4d {ν ν' : List Value} {w : World} {O O' : Nat -> Prop} {x : Value} {r : Res} (hs : r.shut = true) (hO : ∀ b, O' b -> O b) (h : I7 ν w O x r) : I7 ν' w O' x r := by
 cases r with
 | gone => cases hs
 | box t cs =>
  obtain ⟨b, vs, h1, h2, h3, h4⟩ := h
  exact ⟨b, vs, h1, (FzL.keep (Keeps.sub hO) (h2.fz hs)).den ν', h3, h4⟩
 | row e sz es => exact a4e hO h
 | map s es => exact h
 | mem F X => cases hs
theorem b7s {r r' : Res} (hs : r.shut = true) (hs' : r'.shut = true) {x : Value} {b : Nat} (h : fp r' x b) : fp r x b := by
 cases r <;> cases r' <;> first | exact False.elim h | exact h | (simp [Res.shut] at hs; done) | (simp [Res.shut] at hs'; done)
def at0 (k : Nat) : C -> C
 | .mp 0 => .mp k
 | .bp 0 o => .bp k o
 | .rv 0 => .rv k
 | .bnd f (.mp 0) => .bnd f (.mp k)
 | c => c
def okA : C -> Bool
 | .mp 0 => true
 | .bp 0 _ => true
 | .rv 0 => true
 | .bnd _ (.mp 0) => true
 | c => c.cl
theorem b7t {ν : List Value} {w : World} {O O' : Nat -> Prop} {k : Nat} {x : Value} (hk : ν[k]? = some x) (hO : ∀ b, O' b -> O b) {c : C} {y : Value} (hc : okA c = true) (h : Den ν w O (at0 k c) y) : Den [x] w O' c y := by
 unfold okA at hc
 split at hc
 ·simp only [at0, Den] at h ⊢
  rw [hk] at h
  exact h
 ·simp only [at0, Den] at h ⊢
  rw [hk] at h
  exact h
 ·simp only [at0, Den] at h ⊢
  rw [hk] at h
  exact h
 ·simp only [at0, Den] at h ⊢
  rw [hk] at h
  exact h
 ·rename_i c0 h1 h2 h3 h4
  have e : at0 k c = c := by
   cases c with
   | mp j => cases j with
    | zero => exact (h1 rfl).elim
    | succ j => rfl
   | bp j o => cases j with
    | zero => exact (h2 _ rfl).elim
    | succ j => rfl
   | rv j => cases j with
    | zero => exact (h3 rfl).elim
    | succ j => rfl
   | bnd g d => cases d with
    | mp j => cases j with
     | zero => exact (h4 _ rfl).elim
     | succ j => rfl
    | _ => rfl
   | _ => rfl
  rw [e] at h
  exact (Fz.keep (Keeps.sub hO) (h.fz hc)).den _
theorem b0o {ν : List Value} {w : World} {O O' : Nat -> Prop} {k : Nat} {x : Value} (hk : ν[k]? = some x) (hO : ∀ b, O' b -> O b) : ∀ {cs : List C} {vs : List Value}, cs.all okA = true -> j3 ν w O (cs.map (at0 k)) vs -> j3 [x] w O' cs vs
 | [], vs, _, h => by simpa only [c0x, j3] using h
 | c :: cs, vs, hc, h => by
  simp only [b9Z, j3, List.all_cons, b9N] at h hc ⊢
  obtain ⟨y, ys, e, h1, h2⟩ := h
  exact ⟨y, ys, e, b7t hk hO hc.1 h1, b0o hk hO hc.2 h2⟩
theorem j5.lift {E : Ctx} {rs : List Res} {k f : Nat} {args : List C} {s : C} {r r' : Res} (hk : rs[k]? = some r) (h : j5 E [r] f args s [r'] []) (hs : (r.shut && r'.shut) = true) (ha : args.all okA = true) (hc : s.cl = true) : j5 E rs f (args.map (at0 k)) s (rs.set k r') [] := by
 rw [b9N] at hs
 intro av ν w vs hR hav hF hD
 obtain ⟨x, hx, hok⟩ := hR.res k r hk
 have hown : ∀ b, fp r x b -> owned rs ν b := fun b hb => ⟨k, r, x, hk, hx, hb⟩
 have ho1 : ∀ (q : Res) b, owned [q] [x] b <-> fp q x b := fun q b => by
  constructor
  ·rintro ⟨l, q', y, h1, h2, h3⟩
   cases l with
   | zero => simp at h1 h2; subst h1 h2; exact h3
   | succ l => simp at h1
  ·exact fun hb => ⟨0, q, x, rfl, rfl, hb⟩
 let av' : Nat -> Prop := fun b => OO av rs ν b /\ ¬ fp r x b
 have hOO : ∀ b, OO av' [r] [x] b -> OO av rs ν b := fun b hb => by
  rcases hb with hb | hb
  ·exact hb.1
  ·exact .inr (hown b ((ho1 r b).1 hb))
 have hRG : RG av' E.own0 E.w0.heap.size [x] [r] w := by
  refine ⟨rfl, fun l q hq => ?_, fun l m q q' y y' b hne h1 h2 => ?_, fun b hb => ?_, fun b hb => ?_, hR.n0⟩
  ·cases l with
   | zero => simp at hq; subst hq; exact ⟨x, rfl, a4d hs.1 hOO hok⟩
   | succ l => simp at hq
  ·have e1 : l = 0 := by have := (b9O.1 h1).1; simp at this; exact this
   have e2 : m = 0 := by have := (b9O.1 h2).1; simp at this; exact this
   omega
  ·have hb' := (ho1 r b).1 hb
   obtain ⟨g1, g2, g3⟩ := hR.low b (hown b hb')
   exact ⟨g1, fun h => h.2 hb', g3⟩
  ·rcases hb.1 with h1 | h1
   ·exact hR.av b h1
   ·exact (hR.low b h1).1
 have hav' : ∀ b, E.av b -> av' b := fun b hb => ⟨.inl (hav b hb), fun hf => (hR.low b (hown b hf)).2.1 (hav b hb)⟩
 have hD' : j3 [x] w (OO av' [r] [x]) args vs := b0o hx hOO ha hD
 refine (h av' [x] w vs hRG hav' hF hD').mono ?_
 rintro e w' ⟨y, ν', rfl, h1, h2, h3⟩
 have hν : ν' = [x] := by
  have hl := h1.len
  have h0 := h2.nu 0 x (fun hm => by cases hm) rfl
  match ν', hl, h0 with
  | [z], _, h0 => simp at h0; rw [h0]
 subst hν
 have hT : Turned w w' (fp r x) := ⟨h2.os, h2.tape, h2.output, h2.size, fun b hb hn => h2.block b hb fun ho => hn ((ho1 r b).1 ho)⟩
 have hOO' : ∀ b, OO av (rs.set k r') ν b -> OO av' [r'] [x] b := fun b hb => by
  rcases hb with hb | ⟨l, q, z, hq, hz, hf⟩
  ·exact .inl ⟨.inl hb, fun hf => (hR.low b (hown b hf)).2.1 hb⟩
  ·by_cases e : k = l
   ·subst e
    have hkl := (b9O.1 hk).1
    rw [List.getElem?_set_self hkl] at hq
    rw [hx] at hz
    cases hq
    cases hz
    exact .inr ((ho1 r' b).2 hf)
   ·rw [List.getElem?_set_ne e] at hq
    exact .inl ⟨.inr ⟨l, q, z, hq, hz, hf⟩, fun hf' => hR.dis k l r q x z b e hk hq hx hz hf' hf⟩
 have hup := hR.upd (r' := r') hk hx hT (fun b hb => b7s hs.1 hs.2 hb) (fun _ => by
  obtain ⟨x', hx', hok'⟩ := h1.res 0 r' rfl
  simp at hx'
  subst hx'
  exact a4d hs.2 hOO' hok')
 exact ⟨y, ν, rfl, hup.1, hup.2, (Fz.keep (Keeps.sub hOO') (h3.fz hc)).den ν⟩
end Go.Proofs.YtgmlehjgpgdjhaaGreatDoor.Eng
namespace Go.Proofs.YtgmlehjgpgdjhaaGreatDoor
open Go Go.RowKit Eng
set_option maxRecDepth 10000
set_option maxHeartbeats 8000000
theorem b9u (n : Nms) (s : List UInt8) : (a0e (.string (bs s)) (nmE n)).getD (.bool false) = .bool (n.contains s) := by
 rw [b7R]; cases n.contains s <;> rfl
theorem b0g {E : Ctx} (hP : E.P = Tryz.prog) (n : Nms) (s : List UInt8) (hs : s.length <= 1099511627776) :
  j5 E [.map true (nmE n)] 30 [.mp 0, sb s] (ints (J2 n s).1) [.map true (nmE (J2 n s).2)] [] := by
 obtain ⟨P, eff', N, w0, own0, av0, nu0, pk0⟩ := E
 simp only at hP
 subst hP
 refine j5.of (eff := eff) Tryz.func30 (by cbv) (by exact c0d rfl) fun w own av ν hν => ?_
 have hν0 : ν.length <= 1 := by rw [hν]; exact b9T _
 have h1 := b7K s hs
 have hk := b9u n s
 have hp := b8b n s
 unfold J2
 generalize a0y s = q at *
 generalize n.contains s = c at *
 simp only [l9]
 simp only [sb, ints] at *
 (repeat first | refine uA ?_ | (refine uK ?_ ?_; focus first | omega | (intros; simp_all <;> omega)) | simp (disch := omega) only [go_sem, Nat.reduceBEq, Nat.reduceAdd, ww] | (refine uB h1 ?_ ?_; exact rfl))
 refine S.cond rfl (fun hc => ?_) (fun hc => ?_)
 ·rw [if_pos (by simpa using hc)]
  (repeat first | refine uA ?_ | (refine uK ?_ ?_; focus first | omega | (intros; simp_all <;> omega)) | simp (disch := omega) only [go_sem, Nat.reduceBEq, Nat.reduceAdd, ww])
  (refine S.done ?_; simp only [C8, r9, go_sem, Nat.reduceBEq, Nat.reduceAdd, Nat.reduceLeDiff, Int.reduceToNat, Int.reducePow]; (repeat (refine ⟨?_, ?_⟩; focus first | trivial | omega | simp)); exact d9.M6 (Imp.refl rfl) (by (repeat first | refine uA ?_ | (refine ⟨?_, ?_⟩; focus first | rfl | simp [slot]) | rfl | simp)) (b9L hν0 (by simp)))
 rw [if_neg (by simpa using hc)]
 (repeat first | refine uA ?_ | (refine uK ?_ ?_; focus first | omega | (intros; simp_all <;> omega)) | simp (disch := omega) only [go_sem, Nat.reduceBEq, Nat.reduceAdd, ww, hk])
 refine S.cond rfl (fun hc => ?_) (fun hc => ?_)
 ·rw [if_pos hc]
  (repeat first | refine uA ?_ | (refine uK ?_ ?_; focus first | omega | (intros; simp_all <;> omega)) | simp (disch := omega) only [go_sem, Nat.reduceBEq, Nat.reduceAdd, ww])
  (refine S.done ?_; simp only [C8, r9, go_sem, Nat.reduceBEq, Nat.reduceAdd, Nat.reduceLeDiff, Int.reduceToNat, Int.reducePow]; (repeat (refine ⟨?_, ?_⟩; focus first | trivial | omega | simp)); exact d9.M6 (Imp.refl rfl) (by (repeat first | refine uA ?_ | (refine ⟨?_, ?_⟩; focus first | rfl | simp [slot]) | rfl | simp)) (b9L hν0 (by simp)))
 ·rw [if_neg (by rw [hc]; decide)]
  have hp := hp hc
  (repeat first | refine uA ?_ | (refine uK ?_ ?_; focus first | omega | (intros; simp_all <;> omega)) | simp (disch := omega) only [go_sem, Nat.reduceBEq, Nat.reduceAdd, ww, hp])
  (refine S.done ?_; simp only [C8, r9, go_sem, Nat.reduceBEq, Nat.reduceAdd, Nat.reduceLeDiff, Int.reduceToNat, Int.reducePow]; (repeat (refine ⟨?_, ?_⟩; focus first | trivial | omega | simp)); exact d9.M6 (Imp.refl rfl) (by (repeat first | refine uA ?_ | (refine ⟨?_, ?_⟩; focus first | rfl | simp [slot]) | rfl | simp)) (b9L hν0 (by simp)))
theorem b8f {E : Ctx} (hP : E.P = Tryz.prog) (ht0 : Tz E) (n : Nms) (p : Pt) (hb : Pb 1073741824 p) :
  j5 E [.map true (nmE n)] 35 [.mp 0, p.c] (ints (Y3 n p).1) [.map true (nmE (Y3 n p).2)] [] := by
 obtain ⟨P, eff', N, w0, own0, av0, nu0, pk0⟩ := E
 simp only at hP
 subst hP
 refine j5.ofT (eff := eff) ht0 Tryz.func35 (by cbv) (by exact c0d rfl) fun w own av ν hν ht => ?_
 have hν0 : ν.length <= 1 := by rw [hν]; exact b9T _
 obtain ⟨name, shape, ⟨x, y, half, t⟩⟩ := p
 obtain ⟨b0, b1, b2, b3, b4⟩ := hb
 simp only at b0 b1 b2 b3 b4
 have h1 := fun (E : Ctx) (hP : E.P = Tryz.prog) => b0g hP n name (by omega)
 have h2 := b1D shape b1
 have h3 := b0B ⟨x, y, half, t⟩ ⟨b2.mono (by decide), b3.mono (by decide), b4.mono (by decide)⟩
 unfold Y3
 simp only
 generalize J2 n name = r at *
 obtain ⟨e1, m⟩ := r
 generalize I5 shape = e2 at *
 generalize okF ⟨x, y, half, t⟩ = q at *
 simp only [l9]
 simp only [Pt.c, Pt.enc, Fr.c, Fr.enc, vts, sb, ints] at *
 (repeat first | refine uA ?_ | (refine uK ?_ ?_; focus first | omega | (intros; simp_all <;> omega)) | simp (disch := omega) only [go_sem, Nat.reduceBEq, Nat.reduceAdd, ww] | refine l7.t (j5.lift (k := 0) rfl (h1 _ rfl) rfl rfl rfl) ?_)
 refine S.cond rfl (fun hc => ?_) (fun hc => ?_)
 ·rw [if_pos (by simpa using hc)]
  (repeat first | refine uA ?_ | (refine uK ?_ ?_; focus first | omega | (intros; simp_all <;> omega)) | simp (disch := omega) only [go_sem, Nat.reduceBEq, Nat.reduceAdd, ww])
  (refine S.done ?_; simp only [C8, r9, go_sem, Nat.reduceBEq, Nat.reduceAdd, Nat.reduceLeDiff, Int.reduceToNat, Int.reducePow]; (repeat (refine ⟨?_, ?_⟩; focus first | trivial | omega | simp)); exact d9.M6 (Imp.refl rfl) (by (repeat first | refine uA ?_ | (refine ⟨?_, ?_⟩; focus first | rfl | simp [slot]) | rfl | simp)) (b9L hν0 (by simp)))
 rw [if_neg (by simpa using hc)]
 (repeat first | refine uA ?_ | (refine uK ?_ ?_; focus first | omega | (intros; simp_all <;> omega)) | simp (disch := omega) only [go_sem, Nat.reduceBEq, Nat.reduceAdd, ww] | (refine uD h2 ?_ ?_ ?_; exact ht; exact rfl))
 refine S.cond rfl (fun hc => ?_) (fun hc => ?_)
 ·rw [if_pos (by simpa using hc)]
  (repeat first | refine uA ?_ | (refine uK ?_ ?_; focus first | omega | (intros; simp_all <;> omega)) | simp (disch := omega) only [go_sem, Nat.reduceBEq, Nat.reduceAdd, ww])
  (refine S.done ?_; simp only [C8, r9, go_sem, Nat.reduceBEq, Nat.reduceAdd, Nat.reduceLeDiff, Int.reduceToNat, Int.reducePow]; (repeat (refine ⟨?_, ?_⟩; focus first | trivial | omega | simp)); exact d9.M6 (Imp.refl rfl) (by (repeat first | refine uA ?_ | (refine ⟨?_, ?_⟩; focus first | rfl | simp [slot]) | rfl | simp)) (b9L hν0 (by simp)))
 rw [if_neg (by simpa using hc)]
 (repeat first | refine uA ?_ | (refine uK ?_ ?_; focus first | omega | (intros; simp_all <;> omega)) | simp (disch := omega) only [go_sem, Nat.reduceBEq, Nat.reduceAdd, ww] | (refine uD h3 ?_ ?_ ?_; exact ht; exact rfl))
 refine S.cond rfl (fun hc => ?_) (fun hc => ?_)
 ·rw [if_neg (by simpa using hc)]
  (repeat first | refine uA ?_ | (refine uK ?_ ?_; focus first | omega | (intros; simp_all <;> omega)) | simp (disch := omega) only [go_sem, Nat.reduceBEq, Nat.reduceAdd, ww])
  (refine S.done ?_; simp only [C8, r9, go_sem, Nat.reduceBEq, Nat.reduceAdd, Nat.reduceLeDiff, Int.reduceToNat, Int.reducePow]; (repeat (refine ⟨?_, ?_⟩; focus first | trivial | omega | simp)); exact d9.M6 (Imp.refl rfl) (by (repeat first | refine uA ?_ | (refine ⟨?_, ?_⟩; focus first | rfl | simp [slot]) | rfl | simp)) (b9L hν0 (by simp)))
 ·rw [if_pos (by simpa using hc)]
  (repeat first | refine uA ?_ | (refine uK ?_ ?_; focus first | omega | (intros; simp_all <;> omega)) | simp (disch := omega) only [go_sem, Nat.reduceBEq, Nat.reduceAdd, ww])
  (refine S.done ?_; simp only [C8, r9, go_sem, Nat.reduceBEq, Nat.reduceAdd, Nat.reduceLeDiff, Int.reduceToNat, Int.reducePow]; (repeat (refine ⟨?_, ?_⟩; focus first | trivial | omega | simp)); exact d9.M6 (Imp.refl rfl) (by (repeat first | refine uA ?_ | (refine ⟨?_, ?_⟩; focus first | rfl | simp [slot]) | rfl | simp)) (b9L hν0 (by simp)))
theorem b8e {E : Ctx} (hP : E.P = Tryz.prog) (ht0 : Tz E) (n : Nms) (s : Sl) (hb : Sb 1073741824 s) :
  j5 E [.map true (nmE n)] 37 [.mp 0, s.c] (ints (Z5 n s).1) [.map true (nmE (Z5 n s).2)] [] := by
 obtain ⟨P, eff', N, w0, own0, av0, nu0, pk0⟩ := E
 simp only at hP
 subst hP
 refine j5.ofT (eff := eff) ht0 a4T a4V (by exact c0d rfl) fun w own av ν hν ht => ?_
 have hν0 : ν.length <= 1 := by rw [hν]; exact b9T _
 obtain ⟨name, ⟨x, y, half, t⟩, within⟩ := s
 obtain ⟨b0, ⟨b2, b3, b4⟩, b5⟩ := hb
 simp only at b0 b2 b3 b4 b5
 have h1 := fun (E : Ctx) (hP : E.P = Tryz.prog) => b0g hP n name (by omega)
 have h3 := b0B ⟨x, y, half, t⟩ ⟨b2.mono (by decide), b3.mono (by decide), b4.mono (by decide)⟩
 have h4 := a2j within (b5.mono (by decide))
 have h5 := a2E within (b5.mono (by decide))
 have h6 := a0A within (b5.mono (by decide))
 unfold Z5
 simp only
 generalize J2 n name = r at *
 obtain ⟨e1, m⟩ := r
 generalize okF ⟨x, y, half, t⟩ = q1 at *
 generalize decide within.G5 = q2 at *
 generalize p8 within = q3 at *
 generalize I8 (Nm.j4 within) = n4 at *
 simp only [a1z, l9, TT, II, OA, OB, OC, MM, LL, VV, FF, MG, LG, VG, FG]
 simp only [Sl.c, Sl.enc, Fr.c, Fr.enc, vts, rc, sb, ints] at *
 (repeat first | refine uA ?_ | (refine uK ?_ ?_; focus first | omega | (intros; simp_all <;> omega)) | simp (disch := omega) only [go_sem, Nat.reduceBEq, Nat.reduceAdd, ww] | refine l7.t (j5.lift (k := 0) rfl (h1 _ rfl) rfl rfl rfl) ?_)
 refine S.cond rfl (fun hc => ?_) (fun hc => ?_)
 ·rw [if_pos (by simpa using hc)]
  (repeat first | refine uA ?_ | (refine uK ?_ ?_; focus first | omega | (intros; simp_all <;> omega)) | simp (disch := omega) only [go_sem, Nat.reduceBEq, Nat.reduceAdd, ww])
  (refine S.done ?_; simp only [C8, r9, go_sem, Nat.reduceBEq, Nat.reduceAdd, Nat.reduceLeDiff, Int.reduceToNat, Int.reducePow]; (repeat (refine ⟨?_, ?_⟩; focus first | trivial | omega | simp)); exact d9.M6 (Imp.refl rfl) (by (repeat first | refine uA ?_ | (refine ⟨?_, ?_⟩; focus first | rfl | simp [slot]) | rfl | simp)) (b9L hν0 (by simp)))
 rw [if_neg (by simpa using hc)]
 (repeat first | refine uA ?_ | (refine uK ?_ ?_; focus first | omega | (intros; simp_all <;> omega)) | simp (disch := omega) only [go_sem, Nat.reduceBEq, Nat.reduceAdd, ww] | (refine uD h3 ?_ ?_ ?_; exact ht; exact rfl) | (refine uD h4 ?_ ?_ ?_; exact ht; exact rfl) | (refine uD h5 ?_ ?_ ?_; exact ht; exact rfl) | (refine uD h6 ?_ ?_ ?_; exact ht; exact rfl))
 refine S.cond rfl (fun hc => ?_) (fun hc => ?_)
 ·rw [if_neg (by simp only [c0A, Bool.not_eq_true', b9U] at hc; simp only [b9N, b9U]; rintro ⟨⟨⟨h7, h8⟩, h9⟩, h10⟩; rcases hc with ((hc | hc) | hc) | hc <;> first | (rw [hc] at h7; cases h7; done) | (rw [hc] at h8; cases h8; done) | (rw [hc] at h9; cases h9; done) | omega)]
  (repeat first | refine uA ?_ | (refine uK ?_ ?_; focus first | omega | (intros; simp_all <;> omega)) | simp (disch := omega) only [go_sem, Nat.reduceBEq, Nat.reduceAdd, ww])
  (refine S.done ?_; simp only [C8, r9, go_sem, Nat.reduceBEq, Nat.reduceAdd, Nat.reduceLeDiff, Int.reduceToNat, Int.reducePow]; (repeat (refine ⟨?_, ?_⟩; focus first | trivial | omega | simp)); exact d9.M6 (Imp.refl rfl) (by (repeat first | refine uA ?_ | (refine ⟨?_, ?_⟩; focus first | rfl | simp [slot]) | rfl | simp)) (b9L hν0 (by simp)))
 ·rw [if_pos (by simp only [c0u, Bool.not_eq_false', c0c] at hc; simp only [b9N, b9U]; obtain ⟨⟨⟨h7, h8⟩, h9⟩, h10⟩ := hc; exact ⟨⟨⟨h7, h8⟩, h9⟩, by omega⟩)]
  (repeat first | refine uA ?_ | (refine uK ?_ ?_; focus first | omega | (intros; simp_all <;> omega)) | simp (disch := omega) only [go_sem, Nat.reduceBEq, Nat.reduceAdd, ww])
  (refine S.done ?_; simp only [C8, r9, go_sem, Nat.reduceBEq, Nat.reduceAdd, Nat.reduceLeDiff, Int.reduceToNat, Int.reducePow]; (repeat (refine ⟨?_, ?_⟩; focus first | trivial | omega | simp)); exact d9.M6 (Imp.refl rfl) (by (repeat first | refine uA ?_ | (refine ⟨?_, ?_⟩; focus first | rfl | simp [slot]) | rfl | simp)) (b9L hν0 (by simp)))
theorem b8S {E : Ctx} (hP : E.P = Tryz.prog) (ht0 : Tz E) (n : Nms) (g : Gt) (hb : Gb 1073741824 g) :
  j5 E [.map true (nmE n)] 39 [.mp 0, g.c] (ints (Z4 n g).1) [.map true (nmE (Z4 n g).2)] [] := by
 obtain ⟨P, eff', N, w0, own0, av0, nu0, pk0⟩ := E
 simp only at hP
 subst hP
 refine j5.ofT (eff := eff) ht0 a4U a4S (by exact c0d rfl) fun w own av ν hν ht => ?_
 have hν0 : ν.length <= 1 := by rw [hν]; exact b9T _
 obtain ⟨name, ⟨lx, ly⟩, ⟨hx, hy⟩⟩ := g
 obtain ⟨b0, ⟨b1, b2⟩, ⟨b3, b4⟩⟩ := hb
 simp only at b0 b1 b2 b3 b4
 have h1 := fun (E : Ctx) (hP : E.P = Tryz.prog) => b0g hP n name (by omega)
 have h3 := a6P [⟨lx, ly⟩, ⟨hx, hy⟩] (Vbs.two (by decide) ⟨b1.mono (by decide), b2.mono (by decide)⟩ ⟨b3.mono (by decide), b4.mono (by decide)⟩)
 rw [a8n] at h3
 have h4 := a2h lx hx (b1.mono (by decide)) (b3.mono (by decide))
 have h5 := a2h ly hy (b2.mono (by decide)) (b4.mono (by decide))
 unfold Z4
 simp only
 generalize J2 n name = r at *
 obtain ⟨e1, m⟩ := r
 generalize (okV ⟨lx, ly⟩ && okV ⟨hx, hy⟩) = q1 at *
 generalize Nm.G8 (Nm.j4 lx) (Nm.j4 hx) = n1 at *
 generalize Nm.G8 (Nm.j4 ly) (Nm.j4 hy) = n2 at *
 simp only [a1A, l9, TT, II, OA, OB, OC, MM, LL, VV, FF, MG, LG, VG, FG]
 simp only [Gt.c, Gt.enc, vts, Vt.enc, rc, sb, ints, b9Z, c0x] at *
 (repeat first | refine uA ?_ | (refine uK ?_ ?_; focus first | omega | (intros; simp_all <;> omega)) | simp (disch := omega) only [go_sem, Nat.reduceBEq, Nat.reduceAdd, ww] | refine l7.t (j5.lift (k := 0) rfl (h1 _ rfl) rfl rfl rfl) ?_)
 refine S.cond rfl (fun hc => ?_) (fun hc => ?_)
 ·rw [if_pos (by simpa using hc)]
  (repeat first | refine uA ?_ | (refine uK ?_ ?_; focus first | omega | (intros; simp_all <;> omega)) | simp (disch := omega) only [go_sem, Nat.reduceBEq, Nat.reduceAdd, ww])
  (refine S.done ?_; simp only [C8, r9, go_sem, Nat.reduceBEq, Nat.reduceAdd, Nat.reduceLeDiff, Int.reduceToNat, Int.reducePow]; (repeat (refine ⟨?_, ?_⟩; focus first | trivial | omega | simp)); exact d9.M6 (Imp.refl rfl) (by (repeat first | refine uA ?_ | (refine ⟨?_, ?_⟩; focus first | rfl | simp [slot]) | rfl | simp)) (b9L hν0 (by simp)))
 rw [if_neg (by simpa using hc)]
 (repeat first | refine uA ?_ | (refine uK ?_ ?_; focus first | omega | (intros; simp_all <;> omega)) | simp (disch := omega) only [go_sem, Nat.reduceBEq, Nat.reduceAdd, ww] | (refine uD h4 ?_ ?_ ?_; exact ht; exact rfl) | (refine uD h5 ?_ ?_ ?_; exact ht; exact rfl) | (refine uE h3 ?_ ?_ ?_ ?_; exact ht; exact rfl; focus (repeat' first | exact l8.nil | exact Imp.refl rfl | exact Imp.frz rfl rfl rfl | (refine Imp.Y5 rfl rfl ?_ ?_; (focus ((try simp only [b9X]); omega)); (focus first | rfl | assumption)) | refine l8.cons ?_ ?_); done))
 refine S.cond rfl (fun hc => ?_) (fun hc => ?_)
 ·rw [if_neg (by simp only [c0A, Bool.not_eq_true', b9U] at hc; simp only [b9N, b9U]; rintro ⟨⟨h7, h8⟩, h9⟩; rcases hc with (hc | hc) | hc <;> first | (rw [hc] at h7; cases h7; done) | omega)]
  (repeat first | refine uA ?_ | (refine uK ?_ ?_; focus first | omega | (intros; simp_all <;> omega)) | simp (disch := omega) only [go_sem, Nat.reduceBEq, Nat.reduceAdd, ww])
  (refine S.done ?_; simp only [C8, r9, go_sem, Nat.reduceBEq, Nat.reduceAdd, Nat.reduceLeDiff, Int.reduceToNat, Int.reducePow]; (repeat (refine ⟨?_, ?_⟩; focus first | trivial | omega | simp)); exact d9.M6 (Imp.refl rfl) (by (repeat first | refine uA ?_ | (refine ⟨?_, ?_⟩; focus first | rfl | simp [slot]) | rfl | simp)) (b9L hν0 (by simp)))
 ·rw [if_pos (by simp only [c0u, Bool.not_eq_false', c0c] at hc; simp only [b9N, b9U]; obtain ⟨⟨h7, h8⟩, h9⟩ := hc; exact ⟨⟨h7, by omega⟩, by omega⟩)]
  (repeat first | refine uA ?_ | (refine uK ?_ ?_; focus first | omega | (intros; simp_all <;> omega)) | simp (disch := omega) only [go_sem, Nat.reduceBEq, Nat.reduceAdd, ww])
  (refine S.done ?_; simp only [C8, r9, go_sem, Nat.reduceBEq, Nat.reduceAdd, Nat.reduceLeDiff, Int.reduceToNat, Int.reducePow]; (repeat (refine ⟨?_, ?_⟩; focus first | trivial | omega | simp)); exact d9.M6 (Imp.refl rfl) (by (repeat first | refine uA ?_ | (refine ⟨?_, ?_⟩; focus first | rfl | simp [slot]) | rfl | simp)) (b9L hν0 (by simp)))
theorem b3O {E : Ctx} (hP : E.P = Tryz.prog) (ht0 : Tz E) (n : Nms) (l : List Pt) (hn : l.length <= 1073741824) (hb : ∀ x ∈ l, Pb 1073741824 x) :
  j5 E [.map true (nmE n)] 34 [pts l, .bnd 35 (.mp 0)] (ints (w9 Y3 n l).1) [.map true (nmE (w9 Y3 n l).2)] [] := by
 obtain ⟨P, eff', N, w0, own0, av0, nu0, pk0⟩ := E
 simp only at hP
 subst hP
 refine j5.ofT (eff := eff) ht0 Tryz.func34 (by cbv) (by exact c0d rfl) fun w own av ν hν ht => ?_
 have hν0 : ν.length <= 1 := by rw [hν]; exact b9T _
 simp only [l9, pts, ints]
 (repeat first | refine uA ?_ | (refine uK ?_ ?_; focus first | omega | trivial | (intros; simp_all <;> omega)) | simp (disch := omega) only [go_sem, Nat.reduceBEq, Nat.reduceAdd, Nat.reduceLeDiff, Int.reduceToNat, Int.reducePow, ww, b9K])
 refine S.loop (X := Nat × Nms) (fun x => ⟨[(1, .bnd 35 (.mp 0)), (8, pts l), (9, ints l.length), (10, ints x.1)], [.map true (nmE x.2)]⟩) (fun x => x.1 <= l.length /\ w9 Y3 n l = w9 Y3 x.2 (l.drop x.1)) (fun x => l.length - x.1) (0, n) ⟨b9M _, rfl⟩ (by (repeat first | refine uA ?_ | (refine ⟨?_, ?_⟩; focus first | rfl | trivial | (simp [slot]; done)) | rfl | trivial | simp | exact b9L hν0 (by simp))) ?_
 rintro ⟨i, m⟩ ⟨hi, hg⟩
 simp only [pts, ints] at hi hg ⊢
 (repeat first | refine uA ?_ | (refine uK ?_ ?_; focus first | omega | trivial | (intros; simp_all <;> omega)) | simp (disch := omega) only [go_sem, Nat.reduceBEq, Nat.reduceAdd, Nat.reduceLeDiff, Int.reduceToNat, Int.reducePow, ww])
 (refine uJ rfl (fun hc => ?_) fun hc => ?_)
 ·have hi' : i < l.length := by omega
  have hgi := b9I hi'
  generalize l[i] = x at hgi
  have hst := a1v (f := Y3) (s := m) hgi
  have hnx := a1y (f := Y3) (s := m) hgi
  have hs := fun (E : Ctx) (hP : E.P = Tryz.prog) (ht : Tz E) => b8f hP ht m x (hb x (b9W hgi))
  generalize Y3 m x = r at *
  obtain ⟨e, m'⟩ := r
  simp only [Pt.c, Pt.enc, vts, sb, ints] at hs hst hnx
  (repeat first | refine uA ?_ | (refine uK ?_ ?_; focus first | omega | trivial | (intros; simp_all <;> omega)) | simp (disch := omega) only [go_sem, Nat.reduceBEq, Nat.reduceAdd, Nat.reduceLeDiff, Int.reduceToNat, Int.reducePow, ww, hgi, b9J, b9K, Pt.c, Pt.enc, vts, sb] | refine l7.t (j5.lift (k := 0) rfl (hs _ rfl ht) rfl rfl rfl) ?_)
  refine S.cond rfl (fun hc2 => ?_) (fun hc2 => ?_)
  ·rw [hg, hst (by simpa using hc2)]
   (repeat first | refine uA ?_ | (refine uK ?_ ?_; focus first | omega | trivial | (intros; simp_all <;> omega)) | simp (disch := omega) only [go_sem, Nat.reduceBEq, Nat.reduceAdd, Nat.reduceLeDiff, Int.reduceToNat, Int.reducePow, ww])
   (refine S.done ?_; simp only [C8, r9, go_sem, Nat.reduceBEq, Nat.reduceAdd, Nat.reduceLeDiff, Int.reduceToNat, Int.reducePow]; (repeat (refine ⟨?_, ?_⟩; focus first | trivial | omega | simp)); exact d9.M6 (Imp.refl rfl) (by (repeat first | refine uA ?_ | (refine ⟨?_, ?_⟩; focus first | rfl | trivial | (simp [slot]; done)) | rfl | trivial | simp)) (b9L hν0 (by simp)))
  ·have hc3 : e = 0 := by simpa using hc2
   (repeat first | refine uA ?_ | (refine uK ?_ ?_; focus first | omega | trivial | (intros; simp_all <;> omega)) | simp (disch := omega) only [go_sem, Nat.reduceBEq, Nat.reduceAdd, Nat.reduceLeDiff, Int.reduceToNat, Int.reducePow, ww])
   refine S.next (x := (i, m)) (i + 1, m') ⟨by simp only; omega, by simp only; rw [hg, hnx hc3]⟩ (by simp only; omega) (by (repeat first | refine uA ?_ | (refine ⟨?_, ?_⟩; focus first | rfl | trivial | (simp [slot]; done)) | rfl | trivial | simp | exact b9L hν0 (by simp)))
 ·rw [hg, a2f (by omega)]
  (repeat first | refine uA ?_ | (refine uK ?_ ?_; focus first | omega | trivial | (intros; simp_all <;> omega)) | simp (disch := omega) only [go_sem, Nat.reduceBEq, Nat.reduceAdd, Nat.reduceLeDiff, Int.reduceToNat, Int.reducePow, ww])
  (refine S.done ?_; simp only [C8, r9, go_sem, Nat.reduceBEq, Nat.reduceAdd, Nat.reduceLeDiff, Int.reduceToNat, Int.reducePow]; (repeat (refine ⟨?_, ?_⟩; focus first | trivial | omega | simp)); exact d9.M6 (Imp.refl rfl) (by (repeat first | refine uA ?_ | (refine ⟨?_, ?_⟩; focus first | rfl | trivial | (simp [slot]; done)) | rfl | trivial | simp)) (b9L hν0 (by simp)))
theorem b4u {E : Ctx} (hP : E.P = Tryz.prog) (ht0 : Tz E) (n : Nms) (l : List Sl) (hn : l.length <= 1073741824) (hb : ∀ x ∈ l, Sb 1073741824 x) :
  j5 E [.map true (nmE n)] 36 [sls l, .bnd 37 (.mp 0)] (ints (w9 Z5 n l).1) [.map true (nmE (w9 Z5 n l).2)] [] := by
 obtain ⟨P, eff', N, w0, own0, av0, nu0, pk0⟩ := E
 simp only at hP
 subst hP
 refine j5.ofT (eff := eff) ht0 a3J a3A (by exact c0d rfl) fun w own av ν hν ht => ?_
 have hν0 : ν.length <= 1 := by rw [hν]; exact b9T _
 simp only [a0F, l9, TT, II, OA, OB, OC, MM, LL, VV, FF, MG, LG, VG, FG, sls, ints]
 (repeat first | refine uA ?_ | (refine uK ?_ ?_; focus first | omega | trivial | (intros; simp_all <;> omega)) | simp (disch := omega) only [go_sem, Nat.reduceBEq, Nat.reduceAdd, Nat.reduceLeDiff, Int.reduceToNat, Int.reducePow, ww, b9K])
 refine S.loop (X := Nat × Nms) (fun x => ⟨[(1, .bnd 37 (.mp 0)), (8, sls l), (9, ints l.length), (10, ints x.1)], [.map true (nmE x.2)]⟩) (fun x => x.1 <= l.length /\ w9 Z5 n l = w9 Z5 x.2 (l.drop x.1)) (fun x => l.length - x.1) (0, n) ⟨b9M _, rfl⟩ (by (repeat first | refine uA ?_ | (refine ⟨?_, ?_⟩; focus first | rfl | trivial | (simp [slot]; done)) | rfl | trivial | simp | exact b9L hν0 (by simp))) ?_
 rintro ⟨i, m⟩ ⟨hi, hg⟩
 simp only [sls, ints] at hi hg ⊢
 (repeat first | refine uA ?_ | (refine uK ?_ ?_; focus first | omega | trivial | (intros; simp_all <;> omega)) | simp (disch := omega) only [go_sem, Nat.reduceBEq, Nat.reduceAdd, Nat.reduceLeDiff, Int.reduceToNat, Int.reducePow, ww])
 (refine uJ rfl (fun hc => ?_) fun hc => ?_)
 ·have hi' : i < l.length := by omega
  have hgi := b9I hi'
  generalize l[i] = x at hgi
  have hst := a1v (f := Z5) (s := m) hgi
  have hnx := a1y (f := Z5) (s := m) hgi
  have hs := fun (E : Ctx) (hP : E.P = Tryz.prog) (ht : Tz E) => b8e hP ht m x (hb x (b9W hgi))
  generalize Z5 m x = r at *
  obtain ⟨e, m'⟩ := r
  simp only [Sl.c, Sl.enc, sb, ints] at hs hst hnx
  (repeat first | refine uA ?_ | (refine uK ?_ ?_; focus first | omega | trivial | (intros; simp_all <;> omega)) | simp (disch := omega) only [go_sem, Nat.reduceBEq, Nat.reduceAdd, Nat.reduceLeDiff, Int.reduceToNat, Int.reducePow, ww, hgi, b9J, b9K, Sl.c, Sl.enc, sb] | refine l7.t (j5.lift (k := 0) rfl (hs _ rfl ht) rfl rfl rfl) ?_)
  refine S.cond rfl (fun hc2 => ?_) (fun hc2 => ?_)
  ·rw [hg, hst (by simpa using hc2)]
   (repeat first | refine uA ?_ | (refine uK ?_ ?_; focus first | omega | trivial | (intros; simp_all <;> omega)) | simp (disch := omega) only [go_sem, Nat.reduceBEq, Nat.reduceAdd, Nat.reduceLeDiff, Int.reduceToNat, Int.reducePow, ww])
   (refine S.done ?_; simp only [C8, r9, go_sem, Nat.reduceBEq, Nat.reduceAdd, Nat.reduceLeDiff, Int.reduceToNat, Int.reducePow]; (repeat (refine ⟨?_, ?_⟩; focus first | trivial | omega | simp)); exact d9.M6 (Imp.refl rfl) (by (repeat first | refine uA ?_ | (refine ⟨?_, ?_⟩; focus first | rfl | trivial | (simp [slot]; done)) | rfl | trivial | simp)) (b9L hν0 (by simp)))
  ·have hc3 : e = 0 := by simpa using hc2
   (repeat first | refine uA ?_ | (refine uK ?_ ?_; focus first | omega | trivial | (intros; simp_all <;> omega)) | simp (disch := omega) only [go_sem, Nat.reduceBEq, Nat.reduceAdd, Nat.reduceLeDiff, Int.reduceToNat, Int.reducePow, ww])
   refine S.next (x := (i, m)) (i + 1, m') ⟨by simp only; omega, by simp only; rw [hg, hnx hc3]⟩ (by simp only; omega) (by (repeat first | refine uA ?_ | (refine ⟨?_, ?_⟩; focus first | rfl | trivial | (simp [slot]; done)) | rfl | trivial | simp | exact b9L hν0 (by simp)))
 ·rw [hg, a2f (by omega)]
  (repeat first | refine uA ?_ | (refine uK ?_ ?_; focus first | omega | trivial | (intros; simp_all <;> omega)) | simp (disch := omega) only [go_sem, Nat.reduceBEq, Nat.reduceAdd, Nat.reduceLeDiff, Int.reduceToNat, Int.reducePow, ww])
  (refine S.done ?_; simp only [C8, r9, go_sem, Nat.reduceBEq, Nat.reduceAdd, Nat.reduceLeDiff, Int.reduceToNat, Int.reducePow]; (repeat (refine ⟨?_, ?_⟩; focus first | trivial | omega | simp)); exact d9.M6 (Imp.refl rfl) (by (repeat first | refine uA ?_ | (refine ⟨?_, ?_⟩; focus first | rfl | trivial | (simp [slot]; done)) | rfl | trivial | simp)) (b9L hν0 (by simp)))
theorem b3x {E : Ctx} (hP : E.P = Tryz.prog) (ht0 : Tz E) (n : Nms) (l : List Gt) (hn : l.length <= 1073741824) (hb : ∀ x ∈ l, Gb 1073741824 x) :
  j5 E [.map true (nmE n)] 38 [gts l, .bnd 39 (.mp 0)] (ints (w9 Z4 n l).1) [.map true (nmE (w9 Z4 n l).2)] [] := by
 obtain ⟨P, eff', N, w0, own0, av0, nu0, pk0⟩ := E
 simp only at hP
 subst hP
 refine j5.ofT (eff := eff) ht0 a3D a3K (by exact c0d rfl) fun w own av ν hν ht => ?_
 have hν0 : ν.length <= 1 := by rw [hν]; exact b9T _
 simp only [a0G, l9, TT, II, OA, OB, OC, MM, LL, VV, FF, MG, LG, VG, FG, gts, ints]
 (repeat first | refine uA ?_ | (refine uK ?_ ?_; focus first | omega | trivial | (intros; simp_all <;> omega)) | simp (disch := omega) only [go_sem, Nat.reduceBEq, Nat.reduceAdd, Nat.reduceLeDiff, Int.reduceToNat, Int.reducePow, ww, b9K])
 refine S.loop (X := Nat × Nms) (fun x => ⟨[(1, .bnd 39 (.mp 0)), (8, gts l), (9, ints l.length), (10, ints x.1)], [.map true (nmE x.2)]⟩) (fun x => x.1 <= l.length /\ w9 Z4 n l = w9 Z4 x.2 (l.drop x.1)) (fun x => l.length - x.1) (0, n) ⟨b9M _, rfl⟩ (by (repeat first | refine uA ?_ | (refine ⟨?_, ?_⟩; focus first | rfl | trivial | (simp [slot]; done)) | rfl | trivial | simp | exact b9L hν0 (by simp))) ?_
 rintro ⟨i, m⟩ ⟨hi, hg⟩
 simp only [gts, ints] at hi hg ⊢
 (repeat first | refine uA ?_ | (refine uK ?_ ?_; focus first | omega | trivial | (intros; simp_all <;> omega)) | simp (disch := omega) only [go_sem, Nat.reduceBEq, Nat.reduceAdd, Nat.reduceLeDiff, Int.reduceToNat, Int.reducePow, ww])
 (refine uJ rfl (fun hc => ?_) fun hc => ?_)
 ·have hi' : i < l.length := by omega
  have hgi := b9I hi'
  generalize l[i] = x at hgi
  have hst := a1v (f := Z4) (s := m) hgi
  have hnx := a1y (f := Z4) (s := m) hgi
  have hs := fun (E : Ctx) (hP : E.P = Tryz.prog) (ht : Tz E) => b8S hP ht m x (hb x (b9W hgi))
  generalize Z4 m x = r at *
  obtain ⟨e, m'⟩ := r
  simp only [Gt.c, Gt.enc, sb, ints] at hs hst hnx
  (repeat first | refine uA ?_ | (refine uK ?_ ?_; focus first | omega | trivial | (intros; simp_all <;> omega)) | simp (disch := omega) only [go_sem, Nat.reduceBEq, Nat.reduceAdd, Nat.reduceLeDiff, Int.reduceToNat, Int.reducePow, ww, hgi, b9J, b9K, Gt.c, Gt.enc, sb] | refine l7.t (j5.lift (k := 0) rfl (hs _ rfl ht) rfl rfl rfl) ?_)
  refine S.cond rfl (fun hc2 => ?_) (fun hc2 => ?_)
  ·rw [hg, hst (by simpa using hc2)]
   (repeat first | refine uA ?_ | (refine uK ?_ ?_; focus first | omega | trivial | (intros; simp_all <;> omega)) | simp (disch := omega) only [go_sem, Nat.reduceBEq, Nat.reduceAdd, Nat.reduceLeDiff, Int.reduceToNat, Int.reducePow, ww])
   (refine S.done ?_; simp only [C8, r9, go_sem, Nat.reduceBEq, Nat.reduceAdd, Nat.reduceLeDiff, Int.reduceToNat, Int.reducePow]; (repeat (refine ⟨?_, ?_⟩; focus first | trivial | omega | simp)); exact d9.M6 (Imp.refl rfl) (by (repeat first | refine uA ?_ | (refine ⟨?_, ?_⟩; focus first | rfl | trivial | (simp [slot]; done)) | rfl | trivial | simp)) (b9L hν0 (by simp)))
  ·have hc3 : e = 0 := by simpa using hc2
   (repeat first | refine uA ?_ | (refine uK ?_ ?_; focus first | omega | trivial | (intros; simp_all <;> omega)) | simp (disch := omega) only [go_sem, Nat.reduceBEq, Nat.reduceAdd, Nat.reduceLeDiff, Int.reduceToNat, Int.reducePow, ww])
   refine S.next (x := (i, m)) (i + 1, m') ⟨by simp only; omega, by simp only; rw [hg, hnx hc3]⟩ (by simp only; omega) (by (repeat first | refine uA ?_ | (refine ⟨?_, ?_⟩; focus first | rfl | trivial | (simp [slot]; done)) | rfl | trivial | simp | exact b9L hν0 (by simp)))
 ·rw [hg, a2f (by omega)]
  (repeat first | refine uA ?_ | (refine uK ?_ ?_; focus first | omega | trivial | (intros; simp_all <;> omega)) | simp (disch := omega) only [go_sem, Nat.reduceBEq, Nat.reduceAdd, Nat.reduceLeDiff, Int.reduceToNat, Int.reducePow, ww])
  (refine S.done ?_; simp only [C8, r9, go_sem, Nat.reduceBEq, Nat.reduceAdd, Nat.reduceLeDiff, Int.reduceToNat, Int.reducePow]; (repeat (refine ⟨?_, ?_⟩; focus first | trivial | omega | simp)); exact d9.M6 (Imp.refl rfl) (by (repeat first | refine uA ?_ | (refine ⟨?_, ?_⟩; focus first | rfl | trivial | (simp [slot]; done)) | rfl | trivial | simp)) (b9L hν0 (by simp)))
theorem b4f (l : List (List Vt)) (hn : l.length <= 1073741824) (hb : ∀ x ∈ l, Vbs 1073741824 x) : FZ 32 [wls l, .v (.func (.func 33) #[] #[])] (ints (F5 I5 l)) := by
 refine kW Tryz.func32 (by cbv) (by rfl) fun w O hw => ?_
 have hcal : callable Tryz.prog 33 = true := by kernel_rfl
 simp only [l9, wls, ints]
 (repeat first | refine uA ?_ | (refine uK ?_ ?_; focus first | omega | trivial | (intros; simp_all <;> omega)) | simp (disch := omega) only [go_sem, Nat.reduceBEq, Nat.reduceAdd, Nat.reduceLeDiff, Int.reduceToNat, Int.reducePow, ww, b9K])
 refine S.loop (X := Nat) (fun i => ⟨[(1, .v (.func (.func 33) #[] #[])), (8, wls l), (9, ints l.length), (10, ints i)], []⟩) (fun i => i <= l.length /\ F5 I5 l = F5 I5 (l.drop i)) (fun i => l.length - i) 0 ⟨b9M _, rfl⟩ (by (repeat first | refine uA ?_ | (refine ⟨?_, ?_⟩; focus first | rfl | trivial | (simp [slot]; done)) | rfl | trivial | simp)) ?_
 rintro i ⟨hi, hg⟩
 simp only [wls, ints] at hi hg ⊢
 (repeat first | refine uA ?_ | (refine uK ?_ ?_; focus first | omega | trivial | (intros; simp_all <;> omega)) | simp (disch := omega) only [go_sem, Nat.reduceBEq, Nat.reduceAdd, Nat.reduceLeDiff, Int.reduceToNat, Int.reducePow, ww])
 (refine uJ rfl (fun hc => ?_) fun hc => ?_)
 ·have hi' : i < l.length := by omega
  have hgi := b9I hi'
  generalize l[i] = x at hgi
  have hst := a0I (f := I5) hgi
  have hnx := a0E (f := I5) hgi
  have hs := b1D x (hb x (b9W hgi))
  generalize I5 x = e at *
  simp only [ints] at hs
  (repeat first | refine uA ?_ | (refine uK ?_ ?_; focus first | omega | trivial | (intros; simp_all <;> omega)) | simp (disch := omega) only [go_sem, Nat.reduceBEq, Nat.reduceAdd, Nat.reduceLeDiff, Int.reduceToNat, Int.reducePow, ww, hgi, b9J, b9K, hcal] | (refine uD hs ?_ ?_ ?_; exact tz hw; exact rfl))
  refine S.cond rfl (fun hc2 => ?_) (fun hc2 => ?_)
  ·rw [hg, hst (by simpa using hc2)]
   (repeat first | refine uA ?_ | (refine uK ?_ ?_; focus first | omega | trivial | (intros; simp_all <;> omega)) | simp (disch := omega) only [go_sem, Nat.reduceBEq, Nat.reduceAdd, Nat.reduceLeDiff, Int.reduceToNat, Int.reducePow, ww])
   exact S.done (d9.out rfl (Imp.refl rfl) rfl)
  ·have hc3 : e = 0 := by simpa using hc2
   (repeat first | refine uA ?_ | (refine uK ?_ ?_; focus first | omega | trivial | (intros; simp_all <;> omega)) | simp (disch := omega) only [go_sem, Nat.reduceBEq, Nat.reduceAdd, Nat.reduceLeDiff, Int.reduceToNat, Int.reducePow, ww])
   refine S.next (i + 1) ⟨by omega, by rw [hg, hnx hc3]⟩ (by omega) (by (repeat first | refine uA ?_ | (refine ⟨?_, ?_⟩; focus first | rfl | trivial | (simp [slot]; done)) | rfl | trivial | simp))
 ·rw [hg, a1t (by omega)]
  (repeat first | refine uA ?_ | (refine uK ?_ ?_; focus first | omega | trivial | (intros; simp_all <;> omega)) | simp (disch := omega) only [go_sem, Nat.reduceBEq, Nat.reduceAdd, Nat.reduceLeDiff, Int.reduceToNat, Int.reducePow, ww])
  exact S.done (d9.out rfl (Imp.refl rfl) rfl)
end Go.Proofs.YtgmlehjgpgdjhaaGreatDoor
namespace Go.Proofs.YtgmlehjgpgdjhaaGreatDoor.Eng
open Go Go.RowKit
def Res.bdr (n : Nat) : Res -> Bool
 | .box _ cs => C.bdL n cs
 | _ => true
theorem b8E {ν : List Value} {w : World} {O O' : Nat -> Prop} {x : Value} {r : Res} {n : Nat} (hs : r.bdr n = true) (hO : ∀ b, O' b -> O b) (h : I7 ν w O x r) : I7 (ν.take n) w O' x r := by
 cases r with
 | gone => exact h
 | box t cs =>
  obtain ⟨b, vs, h1, h2, h3, h4⟩ := h
  exact ⟨b, vs, h1, j3.keep (Keeps.sub hO) (j3.takeν n hs h2), h3, h4⟩
 | row e sz es => exact a4e hO h
 | map s es => exact h
 | mem F X => exact h
theorem b9l {ν ν' : List Value} {w : World} {O O' : Nat -> Prop} {x : Value} {r : Res} (hn : Q6 [] ν ν') (hO : ∀ b, O' b -> O b) (h : I7 ν w O x r) : I7 ν' w O' x r := by
 cases r with
 | gone => exact h
 | box t cs =>
  obtain ⟨b, vs, h1, h2, h3, h4⟩ := h
  exact ⟨b, vs, h1, j3.keep (Keeps.sub hO) (j3.nu hn (fun k hk => by cases hk) h2), h3, h4⟩
 | row e sz es => exact a4e hO h
 | map s es => exact h
 | mem F X => exact h
theorem Q6.take (ν : List Value) (n : Nat) : Q6 [] (ν.take n) ν := fun _ _ _ h => Y9 h
theorem b9r {ν ν' : List Value} (h : Q6 [] ν ν') (hl : ν'.length = ν.length) : ν' = ν := by
 apply List.ext_getElem?
 intro i
 rcases c0j i ν.length with h1 | h1
 ·have := h i _ (fun hk => by cases hk) (b9I h1)
  rw [this, b9I h1]
 ·rw [c0q h1, c0q (by omega)]
theorem a5D {rs ext : List Res} {ν : List Value} (hl : ν.length = (rs ++ ext).length) (b : Nat) : owned (rs ++ ext) ν b <-> owned rs (ν.take rs.length) b \/ ∃ k r x, ext[k]? = some r /\ ν[rs.length + k]? = some x /\ fp r x b := by
 constructor
 ·rintro ⟨k, r, x, h1, h2, h3⟩
  rcases c0j k rs.length with h | h
  ·rw [b9P h] at h1
   exact .inl ⟨k, r, x, h1, K3 h h2, h3⟩
  ·rw [b9Y h] at h1
   exact .inr ⟨k - rs.length, r, x, h1, by rw [show rs.length + (k - rs.length) = k by omega]; exact h2, h3⟩
 ·rintro (⟨k, r, x, h1, h2, h3⟩ | ⟨k, r, x, h1, h2, h3⟩)
  ·have h := (b9O.1 h1).1
   exact ⟨k, r, x, by rw [b9P h]; exact h1, Y9 h2, h3⟩
  ·exact ⟨rs.length + k, r, x, by rw [b9Y (by omega), show rs.length + k - rs.length = k by omega]; exact h1, h2, h3⟩
theorem j5.ext {E : Ctx} {rs rs' : List Res} (ex : List Res) {f : Nat} {args : List C} {s : C} (h : j5 E rs f args s rs' []) (hl : rs'.length = rs.length) (hb : rs.all (Res.bdr rs.length) = true) (ha : C.bdL rs.length args = true) : j5 E (rs ++ ex) f args s (rs' ++ ex) [] := by
  intro av ν w vs hR hav hF hD
  have hlen := hR.len
  have hl1 : (ν.take rs.length).length = rs.length := by rw [b9V, hlen, b9X]; omega
  generalize hν1 : ν.take rs.length = ν1 at hl1
  have hown := fun b => a5D hlen b
  rw [hν1] at hown
  have hx : ∀ b k r x, ex[k]? = some r -> ν[rs.length + k]? = some x -> fp r x b -> ¬ owned rs ν1 b := by
    rintro b k r x h1 h2 h3 ⟨l, q, y, g1, g2, g3⟩
    have hlt := (b9O.1 g1).1
    rw [<- hν1] at g2
    exact hR.dis l (rs.length + k) q r y x b (by omega) (by rw [b9P hlt]; exact g1) (by rw [b9Y (by omega), show rs.length + k - rs.length = k by omega]; exact h1) (Y9 g2) h2 g3 h3
  let av' : Nat -> Prop := fun b => OO av (rs ++ ex) ν b /\ ¬ owned rs ν1 b
  have hOO : ∀ b, OO av' rs ν1 b -> OO av (rs ++ ex) ν b := fun b hb => by
    rcases hb with hb | hb
    · exact hb.1
    · exact .inr ((hown b).2 (.inl hb))
  have hRG : RG av' E.own0 E.w0.heap.size ν1 rs w := by
    refine ⟨hl1, fun k r hk => ?_, fun l m q q' y y' b hne h1 h2 h3 h4 => ?_, fun b hb => ?_, fun b hb => ?_, hR.n0⟩
    · have hlt := (b9O.1 hk).1
      obtain ⟨x, hx, hok⟩ := hR.res k r (by rw [b9P hlt]; exact hk)
      refine ⟨x, by rw [<- hν1]; exact K3 hlt hx, ?_⟩
      rw [<- hν1]
      rw [List.all_eq_true] at hb
      exact b8E (hb r (b9W hk)) (by rw [hν1]; exact hOO) hok
    · have g1 := (b9O.1 h1).1
      have g2 := (b9O.1 h2).1
      rw [<- hν1] at h3 h4
      exact hR.dis l m q q' y y' b hne (by rw [b9P g1]; exact h1) (by rw [b9P g2]; exact h2) (Y9 h3) (Y9 h4)
    · obtain ⟨g1, g2, g3⟩ := hR.low b ((hown b).2 (.inl hb))
      exact ⟨g1, fun h => h.2 hb, g3⟩
    · rcases hb.1 with h1 | h1
      · exact hR.av b h1
      · exact (hR.low b h1).1
  have hnav : ∀ b, av b -> ¬ owned rs ν1 b := fun b hb ho => (hR.low b ((hown b).2 (.inl ho))).2.1 hb
  have hD' : j3 ν1 w (OO av' rs ν1) args vs := by
    have := j3.keep (Keeps.sub hOO) (j3.takeν rs.length ha hD)
    rwa [hν1] at this
  refine (h av' ν1 w vs hRG (fun b hb => ⟨.inl (hav b hb), hnav b (hav b hb)⟩) hF hD').mono ?_
  rintro e w' ⟨y, ν', rfl, h1, h2, h3⟩
  have hν' : ν' = ν1 := b9r h2.nu (by rw [h1.len, hl, hl1])
  subst hν'
  have hlen' : ν.length = (rs' ++ ex).length := by rw [hlen, b9X, b9X, hl]
  have hν1' : ν.take rs'.length = ν' := by rw [hl]; exact hν1
  have hown' := fun b => a5D hlen' b
  rw [hν1', hl] at hown'
  have hnu : Q6 [] ν' ν := by rw [<- hν1]; exact Q6.take ν _
  have hxo : ∀ b k r x, ex[k]? = some r -> ν[rs.length + k]? = some x -> fp r x b -> owned (rs ++ ex) ν b := fun b k r x g1 g2 g3 => (hown b).2 (.inr ⟨k, r, x, g1, g2, g3⟩)
  have hOO' : ∀ b, OO av (rs' ++ ex) ν b -> OO av' rs' ν' b := fun b hb => by
    rcases hb with hb | hb
    · exact .inl ⟨.inl hb, hnav b hb⟩
    · rcases (hown' b).1 hb with hb | ⟨k, r, x, g1, g2, g3⟩
      · exact .inr hb
      · exact .inl ⟨.inr (hxo b k r x g1 g2 g3), hx b k r x g1 g2 g3⟩
  have hM : Mv (rs ++ ex) ν w [] (rs' ++ ex) ν w' := by
    refine ⟨h2.os, h2.tape, h2.output, h2.size, fun b hb hn => h2.block b hb fun ho => hn ((hown b).2 (.inl ho)), fun b hb => ?_, fun _ _ _ h => h⟩
    rcases (hown' b).1 hb with hb | ⟨k, r, x, g1, g2, g3⟩
    · rcases h2.own b hb with g | g
      · exact .inl ((hown b).2 (.inl g))
      · exact .inr g
    · exact .inl (hxo b k r x g1 g2 g3)
  refine ⟨y, ν, rfl, ⟨hlen', fun k r hk => ?_, fun l m q q' z z' b hne g1 g2 g3 g4 g5 => ?_, fun b hb => ?_, fun b hb => c0e (hR.av b hb) h2.size, b9L hR.n0 h2.size⟩, hM, Den.keep (Keeps.sub hOO') (Den.nu hnu (fun k hk => by cases hk) h3)⟩
  · rcases c0j k rs'.length with hlt | hge
    · rw [b9P hlt] at hk
      obtain ⟨x, hx', hok⟩ := h1.res k r hk
      exact ⟨x, hnu k x (fun hk => by cases hk) hx', b9l hnu hOO' hok⟩
    · have hk' : (rs ++ ex)[k]? = some r := by
        rw [b9Y hge] at hk
        rw [b9Y (by omega), <- hl]; exact hk
      obtain ⟨x, hx', hok⟩ := hR.res k r hk'
      refine ⟨x, hx', ?_⟩
      have := hok.mv (O' := OO av (rs' ++ ex) ν) (hM.keeps (av := av)) hM.nu (fun b hf => h2.block b (hR.lt hk' hx' hf) (by
        rw [b9Y hge] at hk
        exact hx b (k - rs'.length) r x hk (by rw [show rs.length + (k - rs'.length) = k by omega]; exact hx') hf))
      rwa [a1r] at this
  · rcases c0j l rs'.length with hl1' | hl1' <;> rcases c0j m rs'.length with hm1 | hm1
    · rw [b9P hl1'] at g1
      rw [b9P hm1] at g2
      have e1 : ν'[l]? = some z := by rw [<- hν1']; exact K3 hl1' g3
      have e2 : ν'[m]? = some z' := by rw [<- hν1']; exact K3 hm1 g4
      exact h1.dis l m q q' z z' b hne g1 g2 e1 e2 g5
    · rw [b9P hl1'] at g1
      rw [b9Y hm1] at g2
      have e1 : ν'[l]? = some z := by rw [<- hν1']; exact K3 hl1' g3
      have g4' : ν[rs.length + (m - rs'.length)]? = some z' := by rw [show rs.length + (m - rs'.length) = m by omega]; exact g4
      intro hf
      rcases h2.own b ⟨l, q, z, g1, e1, g5⟩ with ho | ho
      · exact hx b _ q' z' g2 g4' hf ho
      · have := (hR.low b (hxo b _ q' z' g2 g4' hf)).1; omega
    · rw [b9Y hl1'] at g1
      rw [b9P hm1] at g2
      have e2 : ν'[m]? = some z' := by rw [<- hν1']; exact K3 hm1 g4
      have g3' : ν[rs.length + (l - rs'.length)]? = some z := by rw [show rs.length + (l - rs'.length) = l by omega]; exact g3
      intro hf
      rcases h2.own b ⟨m, q', z', g2, e2, hf⟩ with ho | ho
      · exact hx b _ q z g1 g3' g5 ho
      · have := (hR.low b (hxo b _ q z g1 g3' g5)).1; omega
    · rw [b9Y hl1'] at g1
      rw [b9Y hm1] at g2
      exact hR.dis l m q q' z z' b hne (by rw [b9Y (by omega), <- hl]; exact g1) (by rw [b9Y (by omega), <- hl]; exact g2) g3 g4 g5
  · rcases (hown' b).1 hb with hb | ⟨k, r, x, g1, g2, g3⟩
    · obtain ⟨a1, a2, a3⟩ := h1.low b hb
      exact ⟨a1, fun ha => a2 ⟨.inl ha, hnav b ha⟩, a3⟩
    · obtain ⟨a1, a2, a3⟩ := hR.low b (hxo b k r x g1 g2 g3)
      exact ⟨c0e a1 h2.size, a2, a3⟩
end Go.Proofs.YtgmlehjgpgdjhaaGreatDoor.Eng
namespace Go.Proofs.YtgmlehjgpgdjhaaGreatDoor
open Go Go.RowKit Eng
set_option maxRecDepth 10000
set_option maxHeartbeats 8000000
def rsW (w : Wk) (n : Nms) : List Res := [.box 31 w.enc, .map true (nmE n), .box 94 [.mp 1]]
theorem b6J {E : Ctx} (hP : E.P = Tryz.prog) (ht0 : Tz E) (w : Wk) (n : Nms) (a : Am) (hb : Ab 1073741824 a) :
  j5 E (rsW w n) 28 [a.c, .bp 2 0] (ints (a0V n a).1) (rsW w (a0V n a).2) [] := by
 obtain ⟨P, eff', N, w0, own0, av0, nu0, pk0⟩ := E
 simp only at hP
 subst hP
 refine j5.ofT (eff := eff) ht0 Tryz.func28 (by cbv) (by exact c0d rfl) fun w' own av ν hν ht => ?_
 have hν0 : ν.length <= 3 := by rw [hν]; exact b9T _
 have b0 := hb.1
 have h2 := b4x a hb
 have h1 := fun (E : Ctx) (hP : E.P = Tryz.prog) => b0g hP n a.name (by omega)
 unfold a0V
 generalize J2 n a.name = r at *
 obtain ⟨e1, m⟩ := r
 generalize Q7 a = e2 at *
 obtain ⟨name, ⟨x, y, half, t⟩, links⟩ := a
 obtain ⟨arms, walls, parts, slots, gates, walk⟩ := w
 simp only [l9]
 simp only [Am.c, Am.enc, lks, sb, ints, rsW, Wk.enc, ams, wls, pts, sls, gts] at *
 (repeat first | refine uA ?_ | (refine uK ?_ ?_; focus first | omega | (intros; simp_all <;> omega)) | simp (disch := omega) only [go_sem, Nat.reduceBEq, Nat.reduceAdd, ww] | (refine uD h2 ?_ ?_ ?_; exact ht; exact rfl))
 refine S.cond rfl (fun hc => ?_) (fun hc => ?_)
 ·rw [if_pos (by simpa using hc)]
  (repeat first | refine uA ?_ | (refine uK ?_ ?_; focus first | omega | (intros; simp_all <;> omega)) | simp (disch := omega) only [go_sem, Nat.reduceBEq, Nat.reduceAdd, ww])
  (refine S.done ?_; simp only [C8, r9, go_sem, Nat.reduceBEq, Nat.reduceAdd, Nat.reduceLeDiff, Int.reduceToNat, Int.reducePow]; (repeat (refine ⟨?_, ?_⟩; focus first | trivial | omega | simp)); exact d9.M6 (Imp.refl rfl) (by (repeat first | refine uA ?_ | (refine ⟨?_, ?_⟩; focus first | rfl | simp [slot]) | rfl | simp)) (b9L hν0 (by simp)))
 rw [if_neg (by simpa using hc)]
 (repeat first | refine uA ?_ | (refine uK ?_ ?_; focus first | omega | (intros; simp_all <;> omega)) | simp (disch := omega) only [go_sem, Nat.reduceBEq, Nat.reduceAdd, ww] | refine l7.t (j5.lift (k := 1) rfl (h1 _ rfl) rfl rfl rfl) ?_)
 (refine S.done ?_; simp only [C8, r9, go_sem, Nat.reduceBEq, Nat.reduceAdd, Nat.reduceLeDiff, Int.reduceToNat, Int.reducePow]; (repeat (refine ⟨?_, ?_⟩; focus first | trivial | omega | simp)); exact d9.M6 (Imp.refl rfl) (by (repeat first | refine uA ?_ | (refine ⟨?_, ?_⟩; focus first | rfl | simp [slot]) | rfl | simp)) (b9L hν0 (by simp)))
theorem b5D {E : Ctx} (hP : E.P = Tryz.prog) (ht0 : Tz E) (w : Wk) (n : Nms) (l : List Am) (hn : l.length <= 1073741824) (hb : ∀ x ∈ l, Ab 1073741824 x) :
  j5 E (rsW w n) 31 [ams l, .clo 28 [.bp 2 0]] (ints (w9 a0V n l).1) (rsW w (w9 a0V n l).2) [] := by
 obtain ⟨P, eff', N, w0, own0, av0, nu0, pk0⟩ := E
 simp only at hP
 subst hP
 refine j5.ofT (eff := eff) ht0 Tryz.func31 (by cbv) (by exact c0d rfl) fun w' own av ν hν ht => ?_
 have hν0 : ν.length <= 3 := by rw [hν]; exact b9T _
 have hcal : callable Tryz.prog 28 = true := by kernel_rfl
 simp only [l9, ams, ints]
 simp only [rsW, Wk.enc, ams, wls, pts, sls, gts]
 (repeat first | refine uA ?_ | (refine uK ?_ ?_; focus first | omega | (intros; simp_all <;> omega)) | simp (disch := omega) only [go_sem, Nat.reduceBEq, Nat.reduceAdd, ww, b9K])
 refine S.loop (X := Nat × Nms) (fun x => ⟨[(1, .clo 28 [.bp 2 0]), (8, ams l), (9, ints l.length), (10, ints x.1)], rsW w x.2⟩) (fun x => x.1 <= l.length /\ w9 a0V n l = w9 a0V x.2 (l.drop x.1)) (fun x => l.length - x.1) (0, n) ⟨b9M _, rfl⟩ (by simp only [rsW, Wk.enc, ams, wls, pts, sls, gts]; exact (by (repeat first | refine uA ?_ | (refine ⟨?_, ?_⟩; focus first | rfl | simp [slot]) | rfl | simp | exact b9L hν0 (by simp)))) ?_
 rintro ⟨i, m⟩ ⟨hi, hg⟩
 simp only [ams, ints, rsW, Wk.enc, wls, pts, sls, gts] at hi hg ⊢
 (repeat first | refine uA ?_ | (refine uK ?_ ?_; focus first | omega | (intros; simp_all <;> omega)) | simp (disch := omega) only [go_sem, Nat.reduceBEq, Nat.reduceAdd, ww])
 (refine uJ rfl (fun hc => ?_) fun hc => ?_)
 ·have hi' : i < l.length := by omega
  have hgi := b9I hi'
  generalize l[i] = x at hgi
  have hst := a1v (f := a0V) (s := m) hgi
  have hnx := a1y (f := a0V) (s := m) hgi
  have hs := fun (E : Ctx) (hP : E.P = Tryz.prog) (ht : Tz E) => b6J hP ht w m x (hb x (b9W hgi))
  generalize a0V m x = r at *
  obtain ⟨e, m'⟩ := r
  simp only [Am.c, Am.enc, lks, sb, ints, rsW, Wk.enc, ams, wls, pts, sls, gts] at hs hst hnx
  (repeat first | refine uA ?_ | (refine uK ?_ ?_; focus first | omega | (intros; simp_all <;> omega)) | simp (disch := omega) only [go_sem, Nat.reduceBEq, Nat.reduceAdd, ww, hgi, b9J, b9K, Am.enc, lks, sb, hcal] | refine l7.t (j5.ext _ (hs _ rfl ht) rfl rfl rfl) ?_)
  refine S.cond rfl (fun hc2 => ?_) (fun hc2 => ?_)
  ·rw [hg, hst (by simpa using hc2)]
   (repeat first | refine uA ?_ | (refine uK ?_ ?_; focus first | omega | (intros; simp_all <;> omega)) | simp (disch := omega) only [go_sem, Nat.reduceBEq, Nat.reduceAdd, ww])
   (refine S.done ?_; simp only [C8, r9, go_sem, Nat.reduceBEq, Nat.reduceAdd, Nat.reduceLeDiff, Int.reduceToNat, Int.reducePow]; (repeat (refine ⟨?_, ?_⟩; focus first | trivial | omega | simp)); exact d9.M6 (Imp.refl rfl) (by (repeat first | refine uA ?_ | (refine ⟨?_, ?_⟩; focus first | rfl | simp [slot]) | rfl | simp)) (b9L hν0 (by simp)))
  ·have hc3 : e = 0 := by simpa using hc2
   (repeat first | refine uA ?_ | (refine uK ?_ ?_; focus first | omega | (intros; simp_all <;> omega)) | simp (disch := omega) only [go_sem, Nat.reduceBEq, Nat.reduceAdd, ww])
   refine S.next (x := (i, m)) (i + 1, m') ⟨by simp only; omega, by simp only; rw [hg, hnx hc3]⟩ (by simp only; omega) (by (repeat first | refine uA ?_ | (refine ⟨?_, ?_⟩; focus first | rfl | simp [slot]) | rfl | simp | exact b9L hν0 (by simp)))
 ·rw [hg, a2f (by omega)]
  (repeat first | refine uA ?_ | (refine uK ?_ ?_; focus first | omega | (intros; simp_all <;> omega)) | simp (disch := omega) only [go_sem, Nat.reduceBEq, Nat.reduceAdd, ww])
  (refine S.done ?_; simp only [C8, r9, go_sem, Nat.reduceBEq, Nat.reduceAdd, Nat.reduceLeDiff, Int.reduceToNat, Int.reducePow]; (repeat (refine ⟨?_, ?_⟩; focus first | trivial | omega | simp)); exact d9.M6 (Imp.refl rfl) (by (repeat first | refine uA ?_ | (refine ⟨?_, ?_⟩; focus first | rfl | simp [slot]) | rfl | simp)) (b9L hν0 (by simp)))
theorem a4k (w : Wk) (hb : Wb 1073741824 w) : FZ 8 [w.c] (ints (a0p w)) := by
 refine kW a8I a8q (by rfl) fun w' O hw => ?_
 have ht : Tz ⟨Tryz.prog, eff, a1I.ntmps, w', fun _ => False, O, [], []⟩ := tz hw
 obtain ⟨⟨n1, b1⟩, ⟨n2, b2⟩, ⟨n3, b3⟩, ⟨n4, b4⟩, ⟨n5, b5⟩, b6⟩ := hb
 have h1 := fun (E : Ctx) (hP : E.P = Tryz.prog) (ht : Tz E) => b5D hP ht w [] w.arms n1 b1
 have h2 := b4f w.walls n2 b2
 unfold a0p a5l
 generalize w9 a0V [] w.arms = r1 at *
 obtain ⟨e1, m1⟩ := r1
 have h3 := fun (E : Ctx) (hP : E.P = Tryz.prog) (ht : Tz E) => b3O hP ht m1 w.parts n3 b3
 simp only at h3 ⊢
 generalize w9 Y3 m1 w.parts = r3 at *
 obtain ⟨e3, m3⟩ := r3
 have h4 := fun (E : Ctx) (hP : E.P = Tryz.prog) (ht : Tz E) => b4u hP ht m3 w.slots n4 b4
 simp only at h4 ⊢
 generalize w9 Z5 m3 w.slots = r4 at *
 obtain ⟨e4, m4⟩ := r4
 have h5 := fun (E : Ctx) (hP : E.P = Tryz.prog) (ht : Tz E) => b3x hP ht m4 w.gates n5 b5
 simp only at h5 ⊢
 generalize w9 Z4 m4 w.gates = r5 at *
 obtain ⟨e5, m5⟩ := r5
 generalize F5 I5 w.walls = e2 at *
 simp only
 have h6 := a2j w.walk (b6.mono (by decide))
 have h7 := a2E w.walk (b6.mono (by decide))
 have h8 := a0A w.walk (b6.mono (by decide))
 unfold b0e
 generalize decide w.walk.G5 = q1 at *
 generalize p8 w.walk = q2 at *
 generalize I8 (Nm.j4 w.walk) = s8 at *
 obtain ⟨arms, walls, parts, slots, gates, walk⟩ := w
 simp only [a1I, l9, TT, II, OA, OB, OC, MM, LL, VV, FF, MG, LG, VG, FG] at ht ⊢
 simp only [Wk.c, Wk.enc, rsW, ams, wls, pts, sls, gts, rc, sb, ints] at *
 (repeat first | refine uA ?_ | (refine uK ?_ ?_; focus first | omega | (intros; simp_all <;> omega)) | simp (disch := omega) only [go_sem, Nat.reduceBEq, Nat.reduceAdd, ww, b9K])
 refine S.cond rfl (fun hc => ?_) (fun hc => ?_)
 ·rw [if_pos (by simp only [c0A, b9U] at hc; omega)]
  (repeat first | refine uA ?_ | (refine uK ?_ ?_; focus first | omega | (intros; simp_all <;> omega)) | simp (disch := omega) only [go_sem, Nat.reduceBEq, Nat.reduceAdd, ww])
  exact S.done (d9.out rfl (Imp.refl rfl) rfl)
 rw [if_neg (by simp only [c0u, c0c] at hc; omega)]
 (repeat first | refine uA ?_ | (refine uK ?_ ?_; focus first | omega | (intros; simp_all <;> omega)) | simp (disch := omega) only [go_sem, Nat.reduceBEq, Nat.reduceAdd, ww, b9K])
 refine S.cond rfl (fun hc => ?_) (fun hc => ?_)
 ·rw [if_pos (by simp only [b9U] at hc; omega)]
  (repeat first | refine uA ?_ | (refine uK ?_ ?_; focus first | omega | (intros; simp_all <;> omega)) | simp (disch := omega) only [go_sem, Nat.reduceBEq, Nat.reduceAdd, ww])
  exact S.done (d9.out rfl (Imp.refl rfl) rfl)
 rw [if_neg (by simp only [c0c] at hc; omega)]
 (repeat first | refine uI ?_ | (refine uK ?_ ?_; focus first | omega | (intros; simp_all <;> omega)) | simp (disch := omega) only [go_sem, Nat.reduceBEq, Nat.reduceAdd, ww])
 refine S.F4 [.box 31 [.sl 12 (arms.map Am.enc), .sl 1 (walls.map fun s => [vts s]), .sl 12 (parts.map Pt.enc), .sl 14 (slots.map Sl.enc), .sl 13 (gates.map Gt.enc), .v (.bool walk.neg), .v (.string (bs walk.num)), .v (.string (bs walk.den))], .gone, .box 94 [.mp 1]] (by simp [Eng.D9, Eng.V8]) ?_
 (repeat first | refine uA ?_ | (refine uK ?_ ?_; focus first | omega | (intros; simp_all <;> omega)) | simp (disch := omega) only [go_sem, Nat.reduceBEq, Nat.reduceAdd, ww, b9K, D9] | refine l7.t (h1 _ rfl ht) ?_ | refine l7.t (j5.lift (k := 1) rfl (h3 _ rfl ht) rfl rfl rfl) ?_ | refine l7.t (j5.lift (k := 1) rfl (h4 _ rfl ht) rfl rfl rfl) ?_ | refine l7.t (j5.lift (k := 1) rfl (h5 _ rfl ht) rfl rfl rfl) ?_ | (refine uD h2 ?_ ?_ ?_; exact tz hw; exact rfl))
 generalize hL : [e1, e2, e3, e4, e5] = L
 have hl5 : L.length = 5 := by rw [<- hL]; rfl
 have e63 : [[C.v (Value.int IntKind.i64 e1)], [C.v (Value.int IntKind.i64 e2)], [C.v (Value.int IntKind.i64 e3)], [C.v (Value.int IntKind.i64 e4)], [C.v (Value.int IntKind.i64 e5)]] = L.map fun e => [C.v (Value.int IntKind.i64 e)] := by rw [<- hL]; rfl
 simp only [e63]
 refine S.loop (X := Nat) (fun i => ⟨[(1, .bp 0 0), (63, .sl 1 (L.map fun e => [.v (.int .i64 e)])), (64, ints 5), (65, ints i)], [.box 31 [.sl 12 (arms.map Am.enc), .sl 1 (walls.map fun s => [vts s]), .sl 12 (parts.map Pt.enc), .sl 14 (slots.map Sl.enc), .sl 13 (gates.map Gt.enc), .v (.bool walk.neg), .v (.string (bs walk.num)), .v (.string (bs walk.den))]]⟩) (fun i => i <= 5 /\ F5 id L = F5 id (L.drop i)) (fun i => 5 - i) 0 ⟨b9M _, rfl⟩ (by (repeat first | refine uA ?_ | (refine ⟨?_, ?_⟩; focus first | rfl | simp [slot]) | rfl | simp)) ?_
 rintro i ⟨hi, hg⟩
 simp only [ints] at hi hg ⊢
 (repeat first | refine uA ?_ | (refine uK ?_ ?_; focus first | omega | (intros; simp_all <;> omega)) | simp (disch := omega) only [go_sem, Nat.reduceBEq, Nat.reduceAdd, ww])
 (refine uJ rfl (fun hc => ?_) fun hc => ?_)
 ·have hi' : i < L.length := by omega
  have hgi := b9I hi'
  generalize L[i] = x at hgi
  have hst := a0I (f := id) hgi
  have hnx := a0E (f := id) hgi
  simp only [id] at hst hnx
  (repeat first | refine uA ?_ | (refine uK ?_ ?_; focus first | omega | (intros; simp_all <;> omega)) | simp (disch := omega) only [go_sem, Nat.reduceBEq, Nat.reduceAdd, ww, hgi, b9J, b9K, hl5])
  refine S.cond rfl (fun hc2 => ?_) (fun hc2 => ?_)
  ·have h0 : x ≠ 0 := by simpa using hc2
   rw [hg, hst h0, if_pos h0]
   (repeat first | refine uA ?_ | (refine uK ?_ ?_; focus first | omega | (intros; simp_all <;> omega)) | simp (disch := omega) only [go_sem, Nat.reduceBEq, Nat.reduceAdd, ww])
   exact S.done (d9.out rfl (Imp.refl rfl) rfl)
  ·have hc3 : x = 0 := by simpa using hc2
   (repeat first | refine uA ?_ | (refine uK ?_ ?_; focus first | omega | (intros; simp_all <;> omega)) | simp (disch := omega) only [go_sem, Nat.reduceBEq, Nat.reduceAdd, ww])
   refine S.next (i + 1) ⟨by omega, by rw [hg]; exact hnx hc3⟩ (by omega) (by (repeat first | refine uA ?_ | (refine ⟨?_, ?_⟩; focus first | rfl | simp [slot]) | rfl | simp))
 ·rw [hg, a1t (by omega), if_neg (by decide)]
  (repeat first | refine uA ?_ | (refine uK ?_ ?_; focus first | omega | (intros; simp_all <;> omega)) | simp (disch := omega) only [go_sem, Nat.reduceBEq, Nat.reduceAdd, ww] | (refine uD h6 ?_ ?_ ?_; exact tz hw; exact rfl) | (refine uD h7 ?_ ?_ ?_; exact tz hw; exact rfl) | (refine uD h8 ?_ ?_ ?_; exact tz hw; exact rfl))
  refine S.cond rfl (fun hc => ?_) (fun hc => ?_)
  ·rw [if_neg (by simp only [c0A, Bool.not_eq_true', b9U] at hc; simp only [b9N, b9U]; rintro ⟨⟨g7, g8⟩, g9⟩; rcases hc with (hc | hc) | hc <;> first | (rw [hc] at g7; cases g7; done) | (rw [hc] at g8; cases g8; done) | omega)]
   (repeat first | refine uA ?_ | (refine uK ?_ ?_; focus first | omega | (intros; simp_all <;> omega)) | simp (disch := omega) only [go_sem, Nat.reduceBEq, Nat.reduceAdd, ww])
   exact S.done (d9.out rfl (Imp.refl rfl) rfl)
  ·rw [if_pos (by simp only [c0u, Bool.not_eq_false', c0c] at hc; simp only [b9N, b9U]; obtain ⟨⟨g7, g8⟩, g9⟩ := hc; exact ⟨⟨g7, g8⟩, by omega⟩)]
   (repeat first | refine uA ?_ | (refine uK ?_ ?_; focus first | omega | (intros; simp_all <;> omega)) | simp (disch := omega) only [go_sem, Nat.reduceBEq, Nat.reduceAdd, ww])
   exact S.done (d9.out rfl (Imp.refl rfl) rfl)
end Go.Proofs.YtgmlehjgpgdjhaaGreatDoor
namespace Go.Proofs.YtgmlehjgpgdjhaaGreatDoor.Eng
open Go Go.RowKit
mutual
def C.sh (n : Nat) : C -> C
 | .rv k => .rv (n + k)
 | .agg cs => .agg (C.shL n cs)
 | .tup cs => .tup (C.shL n cs)
 | c => c
def C.shL (n : Nat) : List C -> List C
 | [] => []
 | c :: cs => C.sh n c :: C.shL n cs
end
mutual
def C.okS : C -> Bool
 | .rv _ => true
 | .agg cs => C.b0k cs
 | .tup cs => C.b0k cs
 | c => c.cl
def C.b0k : List C -> Bool
 | [] => true
 | c :: cs => C.okS c && C.b0k cs
end
section
variable {ν ν' : List Value} {w : World} {O O' : Nat -> Prop}
mutual
theorem b5c (hO : ∀ b, O' b -> O b) : ∀ {c : C} {y : Value}, c.okS = true -> Den ν' w O c y -> Den (ν ++ ν') w O' (C.sh ν.length c) y
 | .rv k, y, _, h => by
  simp only [C.sh, Den] at h ⊢
  exact ⟨by rw [b9Y (by omega), show ν.length + k - ν.length = k by omega]; exact h.1, h.2⟩
 | .agg cs, y, hc, h => by
  simp only [C.sh, Den, C.okS] at h hc ⊢
  obtain ⟨vs, h1, h2⟩ := h
  exact ⟨vs, a8L hO hc h1, h2⟩
 | .tup cs, y, hc, h => by
  simp only [C.sh, Den, C.okS] at h hc ⊢
  obtain ⟨vs, h1, h2⟩ := h
  exact ⟨vs, a8L hO hc h1, h2⟩
 | .v x, y, hc, h => by simpa only [C.sh, Den] using h
 | .sl sz es, y, hc, h => by simp only [C.sh]; exact (Fz.keep (Keeps.sub hO) (h.fz hc)).den _
 | .xs wr R sz es, y, hc, h => by simp only [C.sh]; exact (Fz.keep (Keeps.sub hO) (h.fz hc)).den _
 | .nl, y, hc, h => by simpa only [C.sh, Den] using h
 | .ep cs, y, hc, h => by simp only [C.sh]; exact (Fz.keep (Keeps.sub hO) (h.fz hc)).den _
 | .clo f cs, y, hc, h => by simp only [C.sh]; exact (Fz.keep (Keeps.sub hO) (h.fz hc)).den _
 | .bnd f x, y, hc, h => by simp only [C.sh]; exact (Fz.keep (Keeps.sub hO) (h.fz hc)).den _
 | .any S, y, hc, h => by simpa only [C.sh, Den] using h
 | .bp _ _, y, hc, h => by simp only [C.okS, C.cl] at hc; cases hc
 | .rp _ _ _ _, y, hc, h => by simp only [C.okS, C.cl] at hc; cases hc
 | .mp _, y, hc, h => by simp only [C.okS, C.cl] at hc; cases hc
 | .wv _ _ _ _, y, hc, h => by simp only [C.okS, C.cl] at hc; cases hc
 | .g _ _, y, hc, h => by simp only [C.okS, C.cl] at hc; cases hc
 | .junk, y, hc, h => by simp only [C.okS, C.cl] at hc; cases hc
theorem a8L (hO : ∀ b, O' b -> O b) : ∀ {cs : List C} {vs : List Value}, C.b0k cs = true -> j3 ν' w O cs vs -> j3 (ν ++ ν') w O' (C.shL ν.length cs) vs
 | [], vs, _, h => by simpa only [C.shL, j3] using h
 | c :: cs, vs, hc, h => by
  simp only [C.shL, j3, C.b0k, b9N] at h hc ⊢
  obtain ⟨y, ys, e, h1, h2⟩ := h
  exact ⟨y, ys, e, b5c hO hc.1 h1, a8L hO hc.2 h2⟩
end
end
def Res.b7d : Res -> Bool
 | .gone => true
 | r => r.shut
theorem b6r {ν ν' : List Value} {w : World} {O O' : Nat -> Prop} {x : Value} {r : Res} (hs : r.b7d = true) (hO : ∀ b, O' b -> O b) (h : I7 ν w O x r) : I7 ν' w O' x r := by
 cases r with
 | gone => trivial
 | box t cs => exact a4d hs hO h
 | row e sz es => exact a4d rfl hO h
 | map s es => exact a4d rfl hO h
 | mem F X => cases hs
theorem j5.pre {E : Ctx} {rs rs' : List Res} {f : Nat} {args : List C} {s : C} (h : j5 E [] f args s rs' []) (hr : rs'.all Res.b7d = true) (hs : s.okS = true) (ha : C.clL args = true) : j5 E rs f args (C.sh rs.length s) (rs ++ rs') [] := by
  intro av ν w vs hR hav hF hD
  rw [List.all_eq_true] at hr
  let av' : Nat -> Prop := OO av rs ν
  have hlt : ∀ b, av' b -> b < w.heap.size := fun b hb => by
    rcases hb with hb | hb
    · exact hR.av b hb
    · exact (hR.low b hb).1
  have ho0 : ∀ b, ¬ owned [] [] b := fun b ⟨k, r, x, hk, _⟩ => by simp at hk
  have hRG : RG av' E.own0 E.w0.heap.size [] [] w := ⟨rfl, fun k r hk => by simp at hk, fun k l r r' x x' b _ hk => by simp at hk, fun b hb => (ho0 b hb).elim, hlt, hR.n0⟩
  have hOO : ∀ b, OO av' [] [] b -> OO av rs ν b := fun b hb => hb.elim id fun h => (ho0 b h).elim
  refine (h av' [] w vs hRG (fun b hb => .inl (hav b hb)) hF ((FzL.keep (Keeps.sub hOO) (hD.fz ha)).den _)).mono ?_
  rintro e w' ⟨y, ν', rfl, h1, h2, h3⟩
  have hlen : (ν ++ ν').length = (rs ++ rs').length := by rw [b9X, b9X, hR.len, h1.len]
  have htk : (ν ++ ν').take rs.length = ν := by rw [<- hR.len]; simp
  have hown := fun b => a5D hlen b
  rw [htk] at hown
  have hnew : ∀ b, (∃ k r x, rs'[k]? = some r /\ (ν ++ ν')[rs.length + k]? = some x /\ fp r x b) -> owned rs' ν' b := by
    rintro b ⟨k, r, x, g1, g2, g3⟩
    rw [<- hR.len, b9Y (by omega), show ν.length + k - ν.length = k by omega] at g2
    exact ⟨k, r, x, g1, g2, g3⟩
  have hge : ∀ b, owned rs' ν' b -> w.heap.size <= b := fun b hb => (h2.own b hb).elim (fun h => (ho0 b h).elim) id
  have hnu : Q6 [] ν (ν ++ ν') := fun k x _ hx => by rw [b9P (b9O.1 hx).1]; exact hx
  have hM : Mv rs ν w [] (rs ++ rs') (ν ++ ν') w' := by
    refine ⟨h2.os, h2.tape, h2.output, h2.size, fun b hb _ => h2.block b hb (ho0 b), fun b hb => ?_, hnu⟩
    rcases (hown b).1 hb with hb | hb
    · exact .inl hb
    · exact .inr (hge b (hnew b hb))
  have hOO' : ∀ b, OO av (rs ++ rs') (ν ++ ν') b -> OO av' rs' ν' b := fun b hb => by
    rcases hb with hb | hb
    · exact .inl (.inl hb)
    · rcases (hown b).1 hb with hb | hb
      · exact .inl (.inr hb)
      · exact .inr (hnew b hb)
  refine ⟨y, ν ++ ν', rfl, ⟨hlen, fun k r hk => ?_, fun l m q q' z z' b hne g1 g2 g3 g4 g5 => ?_, fun b hb => ?_, fun b hb => c0e (hR.av b hb) h2.size, b9L hR.n0 h2.size⟩, hM, by rw [<- hR.len]; exact b5c hOO' hs h3⟩
  · rcases c0j k rs.length with hlt' | hge'
    · rw [b9P hlt'] at hk
      obtain ⟨x, hx, hok⟩ := hR.res k r hk
      have := hok.mv (hM.keeps (av := av)) hM.nu (fun b hf => h2.block b (hR.lt hk hx hf) (ho0 b))
      rw [a1r] at this
      exact ⟨x, hnu k x (fun h => by cases h) hx, this⟩
    · rw [b9Y hge'] at hk
      obtain ⟨x, hx, hok⟩ := h1.res _ r hk
      refine ⟨x, by rw [b9Y (by rw [hR.len]; exact hge'), hR.len]; exact hx, b6r (hr r (b9W hk)) hOO' hok⟩
  · have old : ∀ {l q z}, l < rs.length -> (rs ++ rs')[l]? = some q -> (ν ++ ν')[l]? = some z -> rs[l]? = some q /\ ν[l]? = some z := fun hl a1 a2 => by
      rw [b9P hl] at a1
      rw [b9P (by rw [hR.len]; exact hl)] at a2
      exact ⟨a1, a2⟩
    have new : ∀ {l q z}, rs.length <= l -> (rs ++ rs')[l]? = some q -> (ν ++ ν')[l]? = some z -> rs'[l - rs.length]? = some q /\ ν'[l - rs.length]? = some z := fun hl a1 a2 => by
      rw [b9Y hl] at a1
      rw [b9Y (by rw [hR.len]; exact hl), hR.len] at a2
      exact ⟨a1, a2⟩
    rcases c0j l rs.length with hl1 | hl1 <;> rcases c0j m rs.length with hm1 | hm1
    · obtain ⟨a1, a2⟩ := old hl1 g1 g3
      obtain ⟨a3, a4⟩ := old hm1 g2 g4
      exact hR.dis l m q q' z z' b hne a1 a3 a2 a4 g5
    · obtain ⟨a1, a2⟩ := old hl1 g1 g3
      obtain ⟨a3, a4⟩ := new hm1 g2 g4
      intro hf
      have := hR.lt a1 a2 g5
      have := hge b ⟨_, _, _, a3, a4, hf⟩
      omega
    · obtain ⟨a1, a2⟩ := new hl1 g1 g3
      obtain ⟨a3, a4⟩ := old hm1 g2 g4
      intro hf
      have := hR.lt a3 a4 hf
      have := hge b ⟨_, _, _, a1, a2, g5⟩
      omega
    · obtain ⟨a1, a2⟩ := new hl1 g1 g3
      obtain ⟨a3, a4⟩ := new hm1 g2 g4
      exact h1.dis _ _ q q' z z' b (by omega) a1 a3 a2 a4 g5
  · rcases (hown b).1 hb with hb | hb
    · obtain ⟨a1, a2, a3⟩ := hR.low b hb
      exact ⟨c0e a1 h2.size, a2, a3⟩
    · obtain ⟨a1, a2, a3⟩ := h1.low b (hnew b hb)
      exact ⟨a1, fun ha => a2 (.inl ha), a3⟩
end Go.Proofs.YtgmlehjgpgdjhaaGreatDoor.Eng
namespace Go.Proofs.YtgmlehjgpgdjhaaGreatDoor
open Go Go.RowKit Eng
set_option maxRecDepth 100000
set_option maxHeartbeats 8000000
theorem b6D (es : List (List C)) (hn : es.length <= 1073741824) : FNew Tryz.prog 27 [.sl 6 es] 44 6 es := by
 refine FNew.of (eff := eff) Tryz.func27 (by cbv) (by exact c0d rfl) fun w O => ?_
 simp only [l9]
 (repeat first | refine uA ?_ | (refine uK ?_ ?_; focus first | omega | (intros; simp_all <;> omega)) | simp (disch := omega) only [go_sem, Nat.reduceBEq, Nat.reduceAdd, ww])
 refine S.split 4 (Sx := fun y => ∃ b, y = .bool b /\ (es ≠ [] -> b = false)) rfl fun y hy => ?_
 obtain ⟨b, rfl, hb⟩ := hy
 refine S.cond rfl (fun hc => ?_) (fun hc => ?_)
 ·have he : es = [] := Classical.byContradiction fun h => by rw [hb h] at hc; cases hc
  subst he
  (repeat first | refine uA ?_ | (refine uK ?_ ?_; focus first | omega | (intros; simp_all <;> omega)) | simp (disch := omega) only [go_sem, Nat.reduceBEq, Nat.reduceAdd, ww])
  refine S.weaken (Ent.pack 2 44 6 rfl) ?_
  exact S.done (d9.new rfl rfl rfl)
 ·(repeat first | refine uA ?_ | (refine uK ?_ ?_; focus first | omega | (intros; simp_all <;> omega)) | simp (disch := omega) only [go_sem, Nat.reduceBEq, Nat.reduceAdd, ww])
  exact S.done (d9.new rfl rfl rfl)
open Go Eng
set_option maxHeartbeats 16000000
theorem b5t (es : List (List C)) (hn : es.length <= 1073741824) : FNew Tryz.prog 25 [.sl 14 es] 86 14 es := by
 refine FNew.of (eff := eff) Tryz.func25 (by cbv) (by exact c0d rfl) fun w O => ?_
 simp only [l9]
 (repeat first | refine uA ?_ | (refine uK ?_ ?_; focus first | omega | (intros; simp_all <;> omega)) | simp (disch := omega) only [go_sem, Nat.reduceBEq, Nat.reduceAdd, ww])
 refine S.split 4 (Sx := fun y => ∃ b, y = .bool b /\ (es ≠ [] -> b = false)) rfl fun y hy => ?_
 obtain ⟨b, rfl, hb⟩ := hy
 refine S.cond rfl (fun hc => ?_) (fun hc => ?_)
 ·have he : es = [] := Classical.byContradiction fun h => by rw [hb h] at hc; cases hc
  subst he
  (repeat first | refine uA ?_ | (refine uK ?_ ?_; focus first | omega | (intros; simp_all <;> omega)) | simp (disch := omega) only [go_sem, Nat.reduceBEq, Nat.reduceAdd, ww])
  refine S.weaken (Ent.pack 2 86 14 rfl) ?_
  exact S.done (d9.new rfl rfl rfl)
 ·(repeat first | refine uA ?_ | (refine uK ?_ ?_; focus first | omega | (intros; simp_all <;> omega)) | simp (disch := omega) only [go_sem, Nat.reduceBEq, Nat.reduceAdd, ww])
  exact S.done (d9.new rfl rfl rfl)
theorem b5A (es : List (List C)) (hn : es.length <= 1073741824) : FNew Tryz.prog 26 [.sl 13 es] 91 13 es := by
 refine FNew.of (eff := eff) Tryz.func26 (by cbv) (by exact c0d rfl) fun w O => ?_
 simp only [l9]
 (repeat first | refine uA ?_ | (refine uK ?_ ?_; focus first | omega | (intros; simp_all <;> omega)) | simp (disch := omega) only [go_sem, Nat.reduceBEq, Nat.reduceAdd, ww])
 refine S.split 4 (Sx := fun y => ∃ b, y = .bool b /\ (es ≠ [] -> b = false)) rfl fun y hy => ?_
 obtain ⟨b, rfl, hb⟩ := hy
 refine S.cond rfl (fun hc => ?_) (fun hc => ?_)
 ·have he : es = [] := Classical.byContradiction fun h => by rw [hb h] at hc; cases hc
  subst he
  (repeat first | refine uA ?_ | (refine uK ?_ ?_; focus first | omega | (intros; simp_all <;> omega)) | simp (disch := omega) only [go_sem, Nat.reduceBEq, Nat.reduceAdd, ww])
  refine S.weaken (Ent.pack 2 91 13 rfl) ?_
  exact S.done (d9.new rfl rfl rfl)
 ·(repeat first | refine uA ?_ | (refine uK ?_ ?_; focus first | omega | (intros; simp_all <;> omega)) | simp (disch := omega) only [go_sem, Nat.reduceBEq, Nat.reduceAdd, ww])
  exact S.done (d9.new rfl rfl rfl)
end Go.Proofs.YtgmlehjgpgdjhaaGreatDoor
namespace Go.Proofs.YtgmlehjgpgdjhaaGreatDoor.Eng
open Go Go.RowKit
theorem b5L {w w' : World} {O O' : Nat -> Prop} : ∀ {cs : List C} {vs : List Value}, (∀ c ∈ cs, ∃ x, c = .v x) -> FzL w O cs vs -> FzL w' O' cs vs
 | [], vs, _, h => by simpa only [FzL] using h
 | c :: cs, vs, hp, h => by
  simp only [FzL] at h ⊢
  obtain ⟨y, ys, e, h1, h2⟩ := h
  obtain ⟨x, rfl⟩ := hp c (by simp)
  exact ⟨y, ys, e, by simpa only [Fz] using h1, b5L (fun c hc => hp c (by simp [hc])) h2⟩
theorem b5B {w : World} {O R : Nat -> Prop} {e sz n : Nat} {y : Value} {es : List (List C)} {vs : List Value} (h : rowAt w e sz y n vs) (hn : es.length = n) (hl : ∀ q ∈ es, q.length = sz) (hF : FzL w (fun b => O b \/ R b) es.flatten vs) (h1 : ∀ u ∈ vs, u.oneCell' = true)
  (hb : ∀ b, A8 y = some b -> b < w.heap.size /\ ¬ (O b \/ R b)) : Fz w O (.xs true R sz es) y := by
 have h0 := b0N (O := fun b => O b \/ R b) h hn hl hF h1 hb
 simp only [Fz] at h0 ⊢
 obtain ⟨A, c, rfl, h2, h3, h4⟩ := h0
 refine ⟨A, c, rfl, h2, h3, fun hp => ?_⟩
 obtain ⟨ad, rfl, h5, h6, h7⟩ := h4 hp
 refine ⟨ad, rfl, h5, h6, fun _ => ?_, h7⟩
 rcases h.2 with ⟨hz, _⟩ | ⟨g, cap, cur, hv, hc0, hg, _⟩
 ·omega
 ·injection hv with hv
  injection hv with hv
  subst hv
  exact ⟨cur, e, hg⟩
theorem FNew.xp {E : Ctx} {R : Nat -> Prop} (hR : ∀ b, R b -> b < E.w0.heap.size) {rs : List Res} {p : Bool} {f : Nat} {args : List C} {e sz : Nat} {es : List (List C)} (h : FNew E.P f args e sz es) (hb : C.clL args = true) (hf : ∀ c ∈ es.flatten, ∃ x, c = .v x) : L6 E rs p f args (.xs true R sz es) := by
 intro _ av ν w vs hRG hav hF hD
 have hlt : ∀ b, OO av rs ν b -> b < w.heap.size := fun b hb => by
  rcases hb with hb | hb
  ·exact hRG.av b hb
  ·exact (hRG.low b hb).1
 refine (h (OO av rs ν) w vs hlt (hD.fz hb)).mono ?_
 rintro ee w' ⟨y, rfl, h1, h2, h0, us, h3, h4, h5⟩
 refine ⟨y, rfl, h1, ?_⟩
 simp only [Den]
 refine b5B h5 rfl h0 (b5L hf h3) h4 fun b hb => ?_
 obtain ⟨h6, h7⟩ := h2 b hb
 refine ⟨h7, fun ho => ?_⟩
 rcases ho with ho | ho
 ·have := hlt b ho; omega
 ·have := hR b ho; have := hF.size; omega
theorem I7.sub {ν : List Value} {w : World} {O O' : Nat -> Prop} {x : Value} {r : Res} (h : I7 ν w O x r) (hs : ∀ b, O' b -> O b) : I7 ν w O' x r := by
 have := I7.mv (pk := []) (ν' := ν) h (Keeps.sub hs) (fun _ _ _ h => h) fun _ _ => rfl
 have e : r.x9 [] = r := by have := a2i [r]; simpa using this
 rwa [e] at this
theorem j3.set {ν : List Value} {w : World} {O : Nat -> Prop} {c' : C} {y : Value} : ∀ {cs : List C} {vs : List Value} {i : Nat}, j3 ν w O cs vs -> vs[i]? = some y -> Den ν w O c' y -> j3 ν w O (cs.set i c') vs
 | [], vs, i, h, hy, _ => by simp only [j3] at h; subst h; simp at hy
 | c :: cs, vs, 0, h, hy, hd => by
  simp only [j3, List.set_cons_zero] at h ⊢
  obtain ⟨z, zs, rfl, h1, h2⟩ := h
  simp at hy
  subst hy
  exact ⟨_, _, rfl, hd, h2⟩
 | c :: cs, vs, i + 1, h, hy, hd => by
  simp only [j3, List.set_cons_succ] at h ⊢
  obtain ⟨z, zs, rfl, h1, h2⟩ := h
  exact ⟨_, _, rfl, h1, j3.set h2 (by simpa using hy) hd⟩
theorem Ent.b5Y {E : Ctx} (hown : ∀ b, ¬ E.own0 b) {R : Nat -> Prop} (hR : ∀ b, R b -> b < E.w0.heap.size) {fr : List (Nat × C)} {rs : List Res} (j k i : Nat) {t e sz : Nat} {cs : List C} {es : List (List C)} (es' : List (List C))
  (hj : rs[j]? = some (.box t cs)) (hi : cs[i]? = some (.rv k)) (hk : rs[k]? = some (.row e sz es)) (hl : es'.length = es.length) (hz : ∀ q ∈ es', q.length = sz)
  (hX : ∀ w O vs, FzL w O es.flatten vs -> FzL w (fun b => O b \/ R b) es'.flatten vs) : Ent E ⟨fr, rs⟩ ⟨fr, (rs.set k .gone).set j (.box t (cs.set i (.xs true R sz es')))⟩ := by
 intro wf ν a w hG
 refine ⟨ν, ?_⟩
 obtain ⟨d, s, f, rg, frm, nu⟩ := hG
 have hne : j ≠ k := fun h => by subst h; rw [hj] at hk; cases hk
 obtain ⟨xk, hxk, hokk⟩ := rg.res k _ hk
 obtain ⟨xj, hxj, b0, vs, rfl, hD, h1, hh⟩ := rg.res j _ hj
 have get : ∀ {l : Nat} {r : Res}, ((rs.set k .gone).set j (.box t (cs.set i (.xs true R sz es'))))[l]? = some r -> (l = j /\ r = .box t (cs.set i (.xs true R sz es'))) \/ (l = k /\ r = .gone) \/ (l ≠ j /\ l ≠ k /\ rs[l]? = some r) := by
  intro l r h
  have hjl := (b9O.1 hj).1
  have hkl := (b9O.1 hk).1
  by_cases e1 : l = j
  ·subst e1
   rw [List.getElem?_set_self (by rw [c0p]; exact hjl)] at h
   injection h with h
   exact .inl ⟨rfl, h.symm⟩
  ·rw [List.getElem?_set_ne (by omega)] at h
   by_cases e2 : l = k
   ·subst e2
    rw [List.getElem?_set_self hkl] at h
    injection h with h
    exact .inr (.inl ⟨rfl, h.symm⟩)
   ·rw [List.getElem?_set_ne (by omega)] at h
    exact .inr (.inr ⟨e1, e2, h⟩)
 have own : ∀ b, owned ((rs.set k .gone).set j (.box t (cs.set i (.xs true R sz es')))) ν b -> ∃ (l : Nat) (r : Res) (x : Value), l ≠ k /\ rs[l]? = some r /\ ν[l]? = some x /\ fp r x b := by
  rintro b ⟨l, r, x, h2, h3, h4⟩
  rcases get h2 with ⟨rfl, rfl⟩ | ⟨rfl, rfl⟩ | ⟨_, h5, h6⟩
  ·exact ⟨l, _, x, hne, hj, h3, h4⟩
  ·exact h4.elim
  ·exact ⟨l, r, x, h5, h6, h3, h4⟩
 have sub : ∀ b, OO E.av ((rs.set k .gone).set j (.box t (cs.set i (.xs true R sz es')))) ν b -> OO E.av rs ν b := fun b hb => by
  rcases hb with hb | hb
  ·exact .inl hb
  ·obtain ⟨l, r, x, _, h2, h3, h4⟩ := own b hb
   exact .inr ⟨l, r, x, h2, h3, h4⟩
 have dead : ∀ b, A8 xk = some b -> ¬ OO E.av ((rs.set k .gone).set j (.box t (cs.set i (.xs true R sz es')))) ν b := fun b hb ho => by
  have hf : fp (.row e sz es) xk b := hb
  rcases ho with ho | ho
  ·exact (rg.low b ⟨k, _, xk, hk, hxk, hf⟩).2.1 ho
  ·obtain ⟨l, r, x, h0, h2, h3, h4⟩ := own b ho
   exact rg.dis l k r _ x xk b h0 h2 hk h3 hxk h4 hf
 have hxs : Den ν w (OO E.av ((rs.set k .gone).set j (.box t (cs.set i (.xs true R sz es')))) ν) (.xs true R sz es') xk := by
  simp only [Den]
  obtain ⟨_, us, g1, g2, g3⟩ := hokk
  refine b5B g3 hl hz (hX w _ us (FzL.keep (Keeps.sub sub) g1)) g2 fun b hb => ?_
  have hf : fp (.row e sz es) xk b := hb
  refine ⟨rg.lt hk hxk hf, fun ho => ?_⟩
  rcases ho with ho | ho
  ·exact dead b hb ho
  ·have h4 := (rg.low b ⟨k, _, xk, hk, hxk, hf⟩).2.2
   have := hR b ho
   rcases h4 with h4 | h4
   ·exact hown b h4
   ·omega
 obtain ⟨y, hy, hyd⟩ := hD.get hi
 simp only [Den] at hyd
 have hyx : y = xk := by have h5 := hyd.1; rw [hxk] at h5; injection h5 with h5; exact h5.symm
 subst hyx
 refine ⟨d, s, fun u => Den.keep (Keeps.sub sub) (f u), ⟨by rw [c0p, c0p]; exact rg.len, fun l r hr => ?_, ?_, fun b hb => ?_, rg.av, rg.n0⟩, frm, nu⟩
 ·rcases get hr with ⟨rfl, rfl⟩ | ⟨rfl, rfl⟩ | ⟨_, _, h6⟩
  ·exact ⟨_, hxj, b0, vs, rfl, (j3.keep (Keeps.sub sub) hD).set hy hxs, h1, hh⟩
  ·exact ⟨_, hxk, trivial⟩
  ·obtain ⟨x, hx, hok⟩ := rg.res l r h6
   exact ⟨x, hx, hok.sub sub⟩
 ·intro l m r r' x x' b hlm hr hr' hx hx' hf hf'
  have back : ∀ {l : Nat} {r : Res} {x : Value}, ((rs.set k .gone).set j (.box t (cs.set i (.xs true R sz es'))))[l]? = some r -> fp r x b -> ∃ q, rs[l]? = some q /\ fp q x b := by
   intro l r x h2 h3
   rcases get h2 with ⟨rfl, rfl⟩ | ⟨rfl, rfl⟩ | ⟨_, _, h6⟩
   ·exact ⟨_, hj, h3⟩
   ·exact h3.elim
   ·exact ⟨_, h6, h3⟩
  obtain ⟨q, h2, h3⟩ := back hr hf
  obtain ⟨q', h2', h3'⟩ := back hr' hf'
  exact rg.dis l m q q' x x' b hlm h2 h2' hx hx' h3 h3'
 ·obtain ⟨l, r, x, _, h2, h3, h4⟩ := own b hb
  exact rg.low b ⟨l, r, x, h2, h3, h4⟩
theorem a7r {w : World} {O R : Nat -> Prop} : ∀ {cs : List C} {vs : List Value}, (∀ c ∈ cs, (∃ x, c = .v x) \/ ∃ wr sz es, c = .xs wr R sz es) -> FzL w O cs vs -> FzL w (fun b => O b \/ R b) cs vs
 | [], vs, _, h => by simpa only [FzL] using h
 | c :: cs, vs, hp, h => by
  simp only [FzL] at h ⊢
  obtain ⟨y, ys, e, h1, h2⟩ := h
  refine ⟨y, ys, e, ?_, a7r (fun c hc => hp c (by simp [hc])) h2⟩
  rcases hp c (by simp) with ⟨x, rfl⟩ | ⟨wr, sz, es, rfl⟩
  ·simpa only [Fz] using h1
  ·simp only [Fz] at h1 ⊢
   obtain ⟨A, c, rfl, h3, h4, h5⟩ := h1
   refine ⟨A, c, rfl, h3, h4, fun h0 => ?_⟩
   obtain ⟨ad, rfl, h6, h7, h8, h9⟩ := h5 h0
   have hk : Keeps (fun b => O b \/ R b) w (fun b => (O b \/ R b) \/ R b) w := Keeps.sub fun b hb => hb.elim id .inr
   obtain ⟨k1, k2, _⟩ := hk _ h6 h7
   exact ⟨ad, rfl, k1, k2, h8, FzE.keep hk h6 h7 h9⟩
def a3c (P : Program) (f : Nat) (args : List C) (r : (Nat -> Prop) -> C) : Prop := ∀ (R O : Nat -> Prop) (w : World) (vs : List Value), (∀ b, R b -> b < w.heap.size) -> (∀ b, O b -> b < w.heap.size) -> FzL w O args vs ->
 Calls P f vs.toArray w fun e w' => ∃ y, e = .returned y /\ Below w.heap.size w w' /\ Fz w' O (r R) y
theorem a3c.of {eff : Nat -> Bool} {P : Program} {f : Nat} {fn : Func} {ir : E9} (hf : P.funcs[f]? = some fn) (hc : D5 eff P fn = some ir) {args : List C} {r : (Nat -> Prop) -> C} (hn : args.length <= ir.ntmps)
  (h : ∀ (w : World) (O R : Nat -> Prop), (∀ b, R b -> b < w.heap.size) -> S ⟨P, eff, ir.ntmps, w, fun _ => False, O, [], []⟩ (Fin P ir.results (Out ⟨P, eff, ir.ntmps, w, fun _ => False, O, [], []⟩ (r R))) ⟨l9 0 args, []⟩ [.code ir.body]) : a3c P f args r := by
 intro R O w vs hR hO hargs
 exact enter hf hc O hO args hargs hn (h w O R hR)
theorem a3c.t {E : Ctx} {R : Nat -> Prop} (hR : ∀ b, R b -> b < E.w0.heap.size) {rs : List Res} {f : Nat} {args : List C} {r : (Nat -> Prop) -> C} (h : a3c E.P f args r) (hb : (C.bdL rs.length args && C.clL args) = true) : j5 E rs f args (r R) rs [] := by
 rw [b9N] at hb
 intro av ν w vs hRG hav hF hD
 refine (h R (OO av rs ν) w vs (fun b hb => c0e (hR b hb) hF.size) (fun b hb => ?_) (hD.fz hb.2)).mono ?_
 ·rcases hb with hb | hb
  ·exact hRG.av b hb
  ·exact (hRG.low b hb).1
 ·rintro ee w' ⟨y, rfl, h1, h2⟩
  exact ⟨y, ν, rfl, hRG.below h1, Mv.of_below h1, h2.den ν⟩
theorem Imp.xsm {rs rs' : List Res} {wr : Bool} {R : Nat -> Prop} {sz : Nat} {es es' : List (List C)} (hl : es'.length = es.length) (hX : ∀ w O ad i, FzE w O sz es ad i -> FzE w O sz es' ad i) : Imp rs rs' (.xs wr R sz es) (.sl sz es') := fun av own0 n0 ν w y hR hC h => by
 simp only [Den, Fz] at h ⊢
 obtain ⟨A, c, rfl, h2, h3, h4⟩ := h
 refine ⟨A, c, by rw [hl], by rw [hl]; exact h2, h3, fun h0 => ?_⟩
 obtain ⟨ad, rfl, h5, h6, _, h7⟩ := h4 (by rw [<- hl]; exact h0)
 have hk : Keeps (fun b => OO av rs ν b \/ R b) w (OO av rs' (ν.take rs'.length)) w := Keeps.sub fun b hb => .inl (hC.sub b hb)
 obtain ⟨k1, k2, _⟩ := hk _ h5 h6
 exact ⟨ad, rfl, k1, k2, hX _ _ _ _ (FzE.keep hk h5 h6 h7)⟩
theorem Imp.xs {rs rs' : List Res} {wr : Bool} {R : Nat -> Prop} {sz : Nat} {es : List (List C)} : Imp rs rs' (.xs wr R sz es) (.sl sz es) := Imp.xsm rfl fun _ _ _ _ h => h
theorem a6b {α : Type} {f g : α -> List C} {sz : Nat} {w : World} {O : Nat -> Prop} (hl : ∀ x, (g x).length = (f x).length) (h : ∀ x ad j, FzA w O (f x) ad j -> FzA w O (g x) ad j) : ∀ {l : List α} {ad : Addr} {i : Nat}, FzE w O sz (l.map f) ad i -> FzE w O sz (l.map g) ad i
 | [], _, _, h => by simpa only [c0x, FzE] using h
 | x :: l, ad, i, h' => by
  simp only [b9Z, FzE] at h' ⊢
  exact ⟨by rw [hl]; exact h'.1, h x _ _ h'.2.1, a6b hl h h'.2.2⟩
theorem a4l {w : World} {O : Nat -> Prop} {c c' : C} (h : ∀ y, Fz w O c y -> Fz w O c' y) : ∀ {cs : List C} {ad : Addr} {j : Nat}, FzA w O (cs ++ [c]) ad j -> FzA w O (cs ++ [c']) ad j
 | [], ad, j, h' => by
  simp only [List.nil_append, FzA] at h' ⊢
  obtain ⟨⟨y, h1, h2, h3⟩, h4⟩ := h'
  exact ⟨⟨y, h1, h2, h y h3⟩, h4⟩
 | d :: cs, ad, j, h' => by
  simp only [List.cons_append, FzA] at h' ⊢
  exact ⟨h'.1, a4l h h'.2⟩
theorem b3P {w : World} {O R : Nat -> Prop} {wr : Bool} {sz : Nat} {es : List (List C)} {y : Value} (h : Fz w O (.xs wr R sz es) y) : Fz w O (.sl sz es) y := by
 simp only [Fz] at h ⊢
 obtain ⟨A, c, rfl, h2, h3, h4⟩ := h
 refine ⟨A, c, rfl, h2, h3, fun h0 => ?_⟩
 obtain ⟨ad, rfl, h5, h6, _, h7⟩ := h4 h0
 have hk : Keeps (fun b => O b \/ R b) w O w := Keeps.sub fun b hb => .inl hb
 obtain ⟨k1, k2, _⟩ := hk _ h5 h6
 exact ⟨ad, rfl, k1, k2, FzE.keep hk h5 h6 h7⟩
theorem S.obs {E : Ctx} {Q : Exit -> Act -> World -> Prop} {st : St} {k : List It} (h : ∀ ν a w, Wf E -> Good E ν st a w -> ∃ st' ν', Good E ν' st' a w /\ S E Q st' k) : S E Q st k := fun wf ν a w hG =>
 let ⟨_, ν', hG', hs⟩ := h ν a w wf hG
 hs wf ν' a w hG'
theorem a7t {E E1 : Ctx} (hP : E1.P = E.P) (he : E1.eff = E.eff) (hN : E1.N = E.N) {Q : Exit -> Act -> World -> Prop} : ∀ k : List It, wpS E1 Q k = wpS E Q k /\ ∀ id, exS E1 Q id k = exS E Q id k
 | [] => ⟨by funext a w; simp only [wpS], fun id => by funext a w; simp only [exS]⟩
 | .code c :: k => by
  obtain ⟨h1, h2⟩ := a7t (Q := Q) hP he hN k
  exact ⟨by funext a w; simp only [wpS, hP, he, hN, h1, h2], fun id => by funext a w; simp only [exS, h2]⟩
 | .blk i :: k => by
  obtain ⟨h1, h2⟩ := a7t (Q := Q) hP he hN k
  exact ⟨by funext a w; simp only [wpS, h1], fun id => by funext a w; simp only [exS, h1, h2]⟩
 | .inv J :: k => by
  obtain ⟨h1, h2⟩ := a7t (Q := Q) hP he hN k
  exact ⟨by funext a w; simp only [wpS], fun id => by funext a w; simp only [exS, h2]⟩
theorem S.b8R {E : Ctx} {Q : Exit -> Act -> World -> Prop} {st : St} {k : List It} (h : ∀ ν a w, Wf E -> Good E ν st a w -> ∃ st', Good ⟨E.P, E.eff, E.N, w, owned st.rs ν, E.av, ν, []⟩ ν st' a w /\ S ⟨E.P, E.eff, E.N, w, owned st.rs ν, E.av, ν, []⟩ Q st' k) : S E Q st k := fun wf ν a w hG =>
 let ⟨_, hG', hs⟩ := h ν a w wf hG
 (a7t (E := E) (E1 := ⟨E.P, E.eff, E.N, w, owned st.rs ν, E.av, ν, []⟩) rfl rfl rfl k).1 ▸ hs (fun b hb => hG.rg.av b hb) ν a w hG'
theorem b2M {E : Ctx} {ν : List Value} {st : St} {a : Act} {w : World} (hG : Good E ν st a w) : Good ⟨E.P, E.eff, E.N, w, owned st.rs ν, E.av, ν, []⟩ ν st a w :=
 ⟨hG.dfr, hG.size, hG.fr, ⟨hG.rg.len, hG.rg.res, hG.rg.dis, fun b hb => ⟨(hG.rg.low b hb).1, (hG.rg.low b hb).2.1, .inl hb⟩, hG.rg.av, b9T _⟩, ⟨rfl, rfl, rfl, b9T _, fun _ _ _ => rfl⟩, fun _ _ _ h => h⟩
def C.old (R : Nat -> Prop) : C -> C
 | .sl sz es => .xs false R sz es
 | c => c
def Res.old (R : Nat -> Prop) : Res -> Res
 | .box t cs => .box t (cs.map (C.old R))
 | r => r
theorem b7Q {ν : List Value} {w : World} {O R : Nat -> Prop} (hR : ∀ b, R b -> w.heap.size <= b) {c : C} {y : Value} (h : Den ν w O c y) : Den ν w O (C.old R c) y := by
 cases c with
 | sl sz es =>
  have hk : Keeps O w (fun b => O b \/ R b) w := fun b hb hn => ⟨hb, fun hq => hq.elim hn fun hr => by have := hR b hr; omega, rfl⟩
  simp only [Den, C.old, Fz] at h ⊢
  obtain ⟨A, c, rfl, h2, h3, h4⟩ := h
  refine ⟨A, c, rfl, h2, h3, fun h0 => ?_⟩
  obtain ⟨ad, rfl, h5, h6, h7⟩ := h4 h0
  obtain ⟨k1, k2, _⟩ := hk _ h5 h6
  exact ⟨ad, rfl, k1, k2, (fun h => by cases h), FzE.keep hk h5 h6 h7⟩
 | _ => exact h
theorem b1T {ν : List Value} {w : World} {O R : Nat -> Prop} (hR : ∀ b, R b -> w.heap.size <= b) : ∀ {cs : List C} {vs : List Value}, j3 ν w O cs vs -> j3 ν w O (cs.map (C.old R)) vs
 | [], vs, h => by simpa only [c0x, j3] using h
 | c :: cs, vs, h => by
  simp only [b9Z, j3] at h ⊢
  obtain ⟨y, ys, e, h1, h2⟩ := h
  exact ⟨y, ys, e, b7Q hR h1, b1T hR h2⟩
theorem b0J (R : Nat -> Prop) (r : Res) (x : Value) (b : Nat) : fp (r.old R) x b = fp r x b := by cases r <;> rfl
theorem a5W {R : Nat -> Prop} {rs : List Res} {k : Nat} {r : Res} (h : (rs.map (Res.old R))[k]? = some r) : ∃ q, rs[k]? = some q /\ r = q.old R := by
 rw [c0w, Option.map_eq_some_iff] at h
 obtain ⟨q, h1, h2⟩ := h
 exact ⟨q, h1, h2.symm⟩
theorem a9n {R : Nat -> Prop} {rs : List Res} {ν : List Value} {b : Nat} : owned (rs.map (Res.old R)) ν b <-> owned rs ν b := by
 constructor
 ·rintro ⟨k, r, x, h1, h2, h3⟩
  obtain ⟨q, g1, rfl⟩ := a5W h1
  exact ⟨k, q, x, g1, h2, by rwa [b0J] at h3⟩
 ·rintro ⟨k, r, x, h1, h2, h3⟩
  exact ⟨k, r.old R, x, by rw [c0w, h1]; rfl, h2, by rwa [b0J]⟩
theorem b6H {E : Ctx} {ν : List Value} {fr : List (Nat × C)} {rs : List Res} {a : Act} {w : World} {R : Nat -> Prop} (hR : ∀ b, R b -> w.heap.size <= b) (hG : Good E ν ⟨fr, rs⟩ a w) : Good E ν ⟨fr, rs.map (Res.old R)⟩ a w := by
 have sub : ∀ b, OO E.av (rs.map (Res.old R)) ν b -> OO E.av rs ν b := fun b hb => hb.imp id a9n.1
 obtain ⟨d, s, f, rg, frm, nu⟩ := hG
 refine ⟨d, s, fun t => Den.keep (Keeps.sub sub) (f t), ⟨by rw [b9K]; exact rg.len, fun k r hr => ?_, ?_, fun b hb => rg.low b (a9n.1 hb), rg.av, rg.n0⟩, frm, nu⟩
 ·obtain ⟨q, g1, rfl⟩ := a5W hr
  obtain ⟨x, hx, hok⟩ := rg.res k q g1
  refine ⟨x, hx, ?_⟩
  have hok := hok.sub sub
  cases q with
  | box t cs =>
   obtain ⟨b, vs, h1, h2, h3⟩ := hok
   exact ⟨b, vs, h1, b1T hR h2, h3⟩
  | _ => exact hok
 ·intro k l r r' x x' b hne h1 h2 h3 h4 h5 h6
  obtain ⟨q, g1, rfl⟩ := a5W h1
  obtain ⟨q', g2, rfl⟩ := a5W h2
  rw [b0J] at h5 h6
  exact rg.dis k l q q' x x' b hne g1 g2 h3 h4 h5 h6
theorem d9.b9y {E E1 : Ctx} (hE : Frm E.own0 E.w0 E1.w0) (h0 : ∀ b, ¬ E.own0 b) (hlow : ∀ b, E1.own0 b -> E.w0.heap.size <= b) {rs : List Res} {x : Value} : d9 E1 rs (Out E (.v x)) [.v x] := by
 intro wf ν w y hR hF _ hd
 simp only [a6Y, Den] at hd
 subst hd
 refine ⟨⟨hF.os.trans hE.os, hF.tape.trans hE.tape, hF.output.trans hE.output, b9L hE.size hF.size, fun b hb => ?_⟩, by simp only [Fz]⟩
 rw [hF.block b (c0e hb hE.size) fun ho => by have := hlow b ho; omega]
 exact hE.block b hb (h0 b)
end Go.Proofs.YtgmlehjgpgdjhaaGreatDoor.Eng
namespace Go.Proofs.YtgmlehjgpgdjhaaGreatDoor
open Go Eng
def a4Q : E9 := ⟨93, [.cell 2 true 8], .seq (.reg [OA 1 (.box 31 (TT 0)), OA 2 (.alloc 31 [.slice none 0 0, .slice none 0 0, .slice none 0 0, .slice none 0 0, .slice none 0 0, .bool false, .string ⟨#[]⟩, .string ⟨#[]⟩])]) (.seq (.F4 [.q, .q,
 .q, .q, .q, .q, .q, .q, .q, .a, .e (some 3) true] [FF 13 3 1, VV 14 13, OA 15 (.call 25 [TT 14]), FF 16 4 1, VV 17 16, OA 18 (.call 26 [TT 17]), FF 19 5 1, LL 20 3 19, OA 21 (.build [.slice none 0 0, .slice none 0 0, .slice none
 0 0, .slice none 0 0, .slice none 0 0, .bool false, .string ⟨#[]⟩, .string ⟨#[]⟩] [(3, (1, TT 15)), (4, (1, TT 18)), (5, (3, TT 20))]), OA 3 (.alloc 31 [.slice none 0 0, .slice none 0 0, .slice none 0 0, .slice none 0 0, .slice
 none 0 0, .bool false, .string ⟨#[]⟩, .string ⟨#[]⟩]), OB (.store 8 (TT 3) (TT 21))]) (.seq (.seq (.reg [FF 22 0 1, VV 23 22, OA 24 (.len false (TT 23)), OA 25 (.mv (II 0))]) (.block 0 (.loop (.seq (.reg [OA 26 (.bin .lss (TT
 25) (TT 24))]) (.seq (.cond (TT 26) .skip (.exit 0)) (.seq (.block 1 (.seq (.reg [OA 27 (.j6 12 (TT 23) (TT 25)), LL 28 12 27, OA 5 (.alloc 51 [.string ⟨#[]⟩, .bool false, .string ⟨#[]⟩, .string ⟨#[]⟩, .bool false, .string
 ⟨#[]⟩, .string ⟨#[]⟩, .bool false, .bool false, .string ⟨#[]⟩, .string ⟨#[]⟩, .slice none 0 0]), OB (.store 12 (TT 5) (TT 28))]) (.seq (.reg [FF 29 0 5, VV 30 29, FF 31 1 5, LL 32 10 31, OA 33 (.build [.string ⟨#[]⟩, .bool
 false, .string ⟨#[]⟩, .string ⟨#[]⟩, .bool false, .string ⟨#[]⟩, .string ⟨#[]⟩, .bool false, .bool false, .string ⟨#[]⟩, .string ⟨#[]⟩, .slice none 0 0] [(0, (1, TT 30)), (1, (10, TT 32))]), OA 6 (.alloc 51 [.string ⟨#[]⟩, .bool
 false, .string ⟨#[]⟩, .string ⟨#[]⟩, .bool false, .string ⟨#[]⟩, .string ⟨#[]⟩, .bool false, .bool false, .string ⟨#[]⟩, .string ⟨#[]⟩, .slice none 0 0]), OB (.store 12 (TT 6) (TT 33))]) (.seq (.seq (.reg [FF 34 11 5, VV 35 34,
 OA 36 (.len false (TT 35)), OA 37 (.mv (II 0))]) (.block 2 (.loop (.seq (.reg [OA 38 (.bin .lss (TT 37) (TT 36))]) (.seq (.cond (TT 38) .skip (.exit 2)) (.seq (.block 3 (.seq (.reg [OA 39 (.j6 16 (TT 35) (TT 37)), LL 40 16
 39, OA 8 (.alloc 53 [.bool false, .string ⟨#[]⟩, .string ⟨#[]⟩, .bool false, .string ⟨#[]⟩, .string ⟨#[]⟩, .bool false, .string ⟨#[]⟩, .string ⟨#[]⟩, .bool false, .string ⟨#[]⟩, .string ⟨#[]⟩, .bool false, .string ⟨#[]⟩, .string
 ⟨#[]⟩, .slice none 0 0]), OB (.store 16 (TT 8) (TT 40))]) (.seq (.reg [FF 41 15 8, VV 42 41, OA 43 (.call 27 [TT 42]), FF 44 15 8, OB (.store 1 (TT 44) (TT 43))]) (.reg [FF 45 11 6, VV 46 45, LL 47 16 8, OA 48 (.bsl 53 16 1
 [.bool false, .string ⟨#[]⟩, .string ⟨#[]⟩, .bool false, .string ⟨#[]⟩, .string ⟨#[]⟩, .bool false, .string ⟨#[]⟩, .string ⟨#[]⟩, .bool false, .string ⟨#[]⟩, .string ⟨#[]⟩, .bool false, .string ⟨#[]⟩, .string ⟨#[]⟩, .slice none
 0 0] [(0, TT 47)]), OA 49 (.app 53 16 224 (TT 46) (TT 48)), FF 50 11 6, OB (.store 1 (TT 50) (TT 49))])))) (.reg [OA 51 (.bin .add (TT 37) (II 1)), MM 37 51]))))))) (.reg [FF 52 0 3, VV 53 52, LL 54 12 6, OA 55 (.bsl 51 12 1
 [.string ⟨#[]⟩, .bool false, .string ⟨#[]⟩, .string ⟨#[]⟩, .bool false, .string ⟨#[]⟩, .string ⟨#[]⟩, .bool false, .bool false, .string ⟨#[]⟩, .string ⟨#[]⟩, .slice none 0 0] [(0, TT 54)]), OA 56 (.app 51 12 168 (TT 53) (TT
 55)), FF 57 0 3, OB (.store 1 (TT 57) (TT 56))]))))) (.reg [OA 58 (.bin .add (TT 25) (II 1)), MM 25 58]))))))) (.seq (.seq (.reg [FF 59 1 1, VV 60 59, OA 61 (.len false (TT 60)), OA 62 (.mv (II 0))]) (.block 4 (.loop (.seq (.reg
 [OA 63 (.bin .lss (TT 62) (TT 61))]) (.seq (.cond (TT 63) .skip (.exit 4)) (.seq (.block 5 (.seq (.reg [OA 64 (.j6 1 (TT 60) (TT 62)), VV 65 64, MM 10 65]) (.F4 [.q, .q, .q, .q, .q, .e none true, .q, .e none true] [FF 66 1
 3, VV 67 66, MM 68 10, OA 69 (.call 27 [TT 68]), OA 70 (.bsl 34 1 1 [.slice none 0 0] [(0, TT 69)]), OA 71 (.app 34 1 24 (TT 67) (TT 70)), FF 72 1 3, OB (.store 1 (TT 72) (TT 71))]))) (.reg [OA 73 (.bin .add (TT 62) (II 1)), MM
 62 73]))))))) (.seq (.seq (.reg [FF 74 2 1, VV 75 74, OA 76 (.len false (TT 75)), OA 77 (.mv (II 0))]) (.block 6 (.loop (.seq (.reg [OA 78 (.bin .lss (TT 77) (TT 76))]) (.seq (.cond (TT 78) .skip (.exit 6)) (.seq (.block 7 (.seq
 (.reg [OA 79 (.j6 12 (TT 75) (TT 77)), LL 80 12 79, OA 12 (.alloc 65 [.string ⟨#[]⟩, .slice none 0 0, .bool false, .string ⟨#[]⟩, .string ⟨#[]⟩, .bool false, .string ⟨#[]⟩, .string ⟨#[]⟩, .bool false, .bool false, .string
 ⟨#[]⟩, .string ⟨#[]⟩]), OB (.store 12 (TT 12) (TT 80))]) (.seq (.reg [FF 81 1 12, VV 82 81, OA 83 (.call 27 [TT 82]), FF 84 1 12, OB (.store 1 (TT 84) (TT 83))]) (.reg [FF 85 2 3, VV 86 85, LL 87 12 12, OA 88 (.bsl 65 12 1
 [.string ⟨#[]⟩, .slice none 0 0, .bool false, .string ⟨#[]⟩, .string ⟨#[]⟩, .bool false, .string ⟨#[]⟩, .string ⟨#[]⟩, .bool false, .bool false, .string ⟨#[]⟩, .string ⟨#[]⟩] [(0, TT 87)]), OA 89 (.app 65 12 168 (TT 86) (TT
 88)), FF 90 2 3, OB (.store 1 (TT 90) (TT 89))])))) (.reg [OA 91 (.bin .add (TT 77) (II 1)), MM 77 91]))))))) (.seq (.reg [LL 92 8 3, OB (.store 8 (TT 2) (TT 92))]) .ret)))))⟩
theorem b0d : D5 eff Tryz.prog Tryz.f7 = some a4Q := by kernel_rfl
theorem a9X : Tryz.prog.funcs[7]? = some Tryz.f7 := Tryz.func7
open Go Go.RowKit Eng
set_option maxRecDepth 100000
set_option maxHeartbeats 32000000
def Lk.P7 (R : Nat -> Prop) (l : Lk) : List C := [.v (.bool l.length.neg), sb l.length.num, sb l.length.den, .v (.bool l.low.neg), sb l.low.num, sb l.low.den, .v (.bool l.high.neg), sb l.high.num, sb l.high.den, .v (.bool l.speed.neg), sb l.speed.num, sb l.speed.den, .v (.bool l.brake.neg), sb l.brake.num, sb l.brake.den, .xs true R 6 (l.shape.map Vt.enc)]
def Am.P7 (R : Nat -> Prop) (a : Am) : List C := [sb a.name, .v (.bool a.base.x.neg), sb a.base.x.num, sb a.base.x.den, .v (.bool a.base.y.neg), sb a.base.y.num, sb a.base.y.den, .v (.bool a.base.half), .v (.bool a.base.t.neg), sb a.base.t.num, sb a.base.t.den, .xs true R 16 (a.links.map (Lk.P7 R))]
def wlX (R : Nat -> Prop) (s : List Vt) : List C := [.xs true R 6 (s.map Vt.enc)]
def wcX (R : Nat -> Prop) (w : Wk) : C := .agg [.xs true R 12 (w.arms.map (Am.P7 R)), .xs true R 1 (w.walls.map (wlX R)), pts w.parts, sls w.slots, gts w.gates, .v (.bool w.walk.neg), sb w.walk.num, sb w.walk.den]
theorem a7v (l : List Vt) : ∀ c ∈ (l.map Vt.enc).flatten, ∃ x, c = .v x := fun c hc => by
 obtain ⟨q, hq, hc⟩ := List.mem_flatten.1 hc
 obtain ⟨v, _, rfl⟩ := List.mem_map.1 hq
 simp only [Vt.enc, sb, List.mem_cons, List.not_mem_nil, or_false] at hc
 rcases hc with rfl | rfl | rfl | rfl | rfl | rfl <;> exact ⟨_, rfl⟩
theorem b8x (R : Nat -> Prop) (l : List Lk) : ∀ c ∈ (l.map (Lk.P7 R)).flatten, (∃ x, c = .v x) \/ ∃ wr sz es, c = .xs wr R sz es := fun c hc => by
 obtain ⟨q, hq, hc⟩ := List.mem_flatten.1 hc
 obtain ⟨v, _, rfl⟩ := List.mem_map.1 hq
 simp only [Lk.P7, sb, List.mem_cons, List.not_mem_nil, or_false] at hc
 rcases hc with rfl | rfl | rfl | rfl | rfl | rfl | rfl | rfl | rfl | rfl | rfl | rfl | rfl | rfl | rfl | rfl <;> first | exact .inl ⟨_, rfl⟩ | exact .inr ⟨_, _, _, rfl⟩
theorem b8Z (R : Nat -> Prop) (l : List Am) : ∀ c ∈ (l.map (Am.P7 R)).flatten, (∃ x, c = .v x) \/ ∃ wr sz es, c = .xs wr R sz es := fun c hc => by
 obtain ⟨q, hq, hc⟩ := List.mem_flatten.1 hc
 obtain ⟨v, _, rfl⟩ := List.mem_map.1 hq
 simp only [Am.P7, sb, List.mem_cons, List.not_mem_nil, or_false] at hc
 rcases hc with rfl | rfl | rfl | rfl | rfl | rfl | rfl | rfl | rfl | rfl | rfl | rfl <;> first | exact .inl ⟨_, rfl⟩ | exact .inr ⟨_, _, _, rfl⟩
theorem b8W (R : Nat -> Prop) (l : List (List Vt)) : ∀ c ∈ (l.map (wlX R)).flatten, (∃ x, c = .v x) \/ ∃ wr sz es, c = .xs wr R sz es := fun c hc => by
 obtain ⟨q, hq, hc⟩ := List.mem_flatten.1 hc
 obtain ⟨v, _, rfl⟩ := List.mem_map.1 hq
 simp only [wlX, List.mem_cons, List.not_mem_nil, or_false] at hc
 subst hc
 exact .inr ⟨_, _, _, rfl⟩
theorem a8w {α : Type} {f : α -> List C} {n : Nat} (h : ∀ x, (f x).length = n) (l : List α) : ∀ q ∈ l.map f, q.length = n := fun q hq => by
 obtain ⟨x, _, rfl⟩ := List.mem_map.1 hq
 exact h x
theorem b7Y (w : Wk) (hb : Wb 1048576 w) : a3c Tryz.prog 7 [w.c] fun R => wcX R w := by
 refine a3c.of (eff := eff) a9X b0d (by exact c0d rfl) fun w' O R hR => ?_
 obtain ⟨n1, b1⟩ := hb.arms
 obtain ⟨n2, b2⟩ := hb.walls
 obtain ⟨n3, b3⟩ := hb.parts
 have n4 := hb.slots.1
 have n5 := hb.gates.1
 obtain ⟨arms, walls, parts, slots, gates, walk⟩ := w
 simp only at n1 b1 n2 b2 n3 b3 n4 n5 ⊢
 have c1 := (b5t (slots.map Sl.enc) (by rw [b9K]; omega)).spec
 have c2 := (b5A (gates.map Gt.enc) (by rw [b9K]; omega)).spec
 have hv := fun (l : List Vt) (hl : Vbs 1048576 l) => b6D (l.map Vt.enc) (by rw [b9K]; have := hl.1; omega)
 unfold wcX
 simp only [a4Q, l9, TT, II, OA, OB, OC, MM, LL, VV, FF, MG, LG, VG, FG]
 simp only [Wk.c, Wk.enc, ams, wls, pts, sls, gts, sb]
 (repeat first | refine uA ?_ | (refine uK ?_ ?_; focus first | omega | (intros; simp_all <;> omega)) | simp (disch := omega) only [go_sem, Nat.reduceBEq, Nat.reduceAdd, ww, b9K] | (refine uB c1 ?_ ?_; exact rfl) | (refine uB c2 ?_ ?_; exact rfl))
 refine S.loop (X := Nat) (fun i => ⟨[(1, .bp 0 0), (2, .bp 1 0), (3, .bp 2 0), (23, ams arms), (24, ints arms.length), (25, ints i)], [.box 31 [ams arms, wls walls, pts parts, sls slots, gts gates, .v (.bool walk.neg), sb walk.num, sb walk.den], .box 31 [.v (.slice none 0 0), .v (.slice none 0 0), .v (.slice none 0 0), .v (.slice none 0 0), .v (.slice none 0 0), .v (.bool false), .v (.string ⟨#[]⟩), .v (.string ⟨#[]⟩)], .box 31 [.rv 3, .rv 4, .rv 5, sls slots, gts gates, .v (.bool walk.neg), sb walk.num, sb walk.den], .row 51 12 ((arms.take i).map (Am.P7 R)), .row 34 1 [], .row 65 12 []]⟩) (fun i => i <= arms.length) (fun i => arms.length - i) 0 (b9M _)
  (Ent.trans (Ent.a0h 2 0 51 12 rfl rfl rfl) (Ent.trans (Ent.a0h 2 1 34 1 rfl rfl rfl) (Ent.trans (Ent.a0h 2 2 65 12 rfl rfl rfl) (by (repeat first | refine uA ?_ | (refine ⟨?_, ?_⟩; focus first | rfl | simp [slot]) | rfl | simp))))) ?_
 intro i hi
 simp only [ams, wls, pts, sls, gts, sb, ints]
 (repeat first | refine uA ?_ | (refine uK ?_ ?_; focus first | omega | (intros; simp_all <;> omega)) | simp (disch := omega) only [go_sem, Nat.reduceBEq, Nat.reduceAdd, ww])
 (refine uJ rfl (fun hc => ?_) fun hc => ?_)
 ·have hi' : i < arms.length := by omega
  have hgi := b9I hi'
  have hap : arms.take (i + 1) = arms.take i ++ [arms[i]] := c0B hi'
  have htl : (arms.take i).length = i := by rw [b9V]; omega
  generalize arms[i] = a at hgi hap
  obtain ⟨_, _, nl, bl⟩ := b1 a (b9W hgi)
  (repeat first | refine uA ?_ | (refine uK ?_ ?_; focus first | omega | (intros; simp_all <;> omega)) | simp (disch := omega) only [go_sem, Nat.reduceBEq, Nat.reduceAdd, ww, hgi, b9J, b9K, Am.enc, lks, sb])
  refine S.loop (X := Nat) (fun k => ⟨[(1, .bp 0 0), (2, .bp 1 0), (3, .bp 2 0), (6, .bp 7 0), (23, ams arms), (24, ints arms.length), (25, ints i), (35, lks a.links), (36, ints a.links.length), (37, ints k)], [.box 31 [ams arms, wls walls, pts parts, sls slots, gts gates, .v (.bool walk.neg), sb walk.num, sb walk.den], .box 31 [.v (.slice none 0 0), .v (.slice none 0 0), .v (.slice none 0 0), .v (.slice none 0 0), .v (.slice none 0 0), .v (.bool false), .v (.string ⟨#[]⟩), .v (.string ⟨#[]⟩)], .box 31 [.rv 3, .rv 4, .rv 5, sls slots, gts gates, .v (.bool walk.neg), sb walk.num, sb walk.den], .row 51 12 ((arms.take i).map (Am.P7 R)), .row 34 1 [], .row 65 12 [], .gone, .box 51 [sb a.name, .v (.bool a.base.x.neg), sb a.base.x.num, sb a.base.x.den, .v (.bool a.base.y.neg), sb a.base.y.num, sb a.base.y.den, .v (.bool a.base.half), .v (.bool a.base.t.neg), sb a.base.t.num, sb a.base.t.den, .rv 8], .row 53 16 ((a.links.take k).map (Lk.P7 R))]⟩) (fun k => k <= a.links.length) (fun k => a.links.length - k) 0 (b9M _)
   (Ent.trans (Ent.a0h 7 11 53 16 rfl rfl rfl) (by (repeat first | refine uA ?_ | (refine ⟨?_, ?_⟩; focus first | rfl | simp [slot]) | rfl | simp))) ?_
  intro k hk
  simp only [ams, wls, pts, sls, gts, lks, sb, ints]
  (repeat first | refine uA ?_ | (refine uK ?_ ?_; focus first | omega | (intros; simp_all <;> omega)) | simp (disch := omega) only [go_sem, Nat.reduceBEq, Nat.reduceAdd, ww])
  (refine uJ rfl (fun hc => ?_) fun hc => ?_)
  ·have hk' : k < a.links.length := by omega
   have hgk := b9I hk'
   have hak : a.links.take (k + 1) = a.links.take k ++ [a.links[k]] := c0B hk'
   have htk : (a.links.take k).length = k := by rw [b9V]; omega
   generalize a.links[k] = l at hgk hak
   have cv := hv l.shape (bl l (b9W hgk)).2.2.2.2.2
   (repeat first | refine uA ?_ | (refine uK ?_ ?_; focus first | omega | (intros; simp_all <;> omega)) | simp (disch := omega) only [go_sem, Nat.reduceBEq, Nat.reduceAdd, ww, hgk, b9J, b9K, htk, Lk.enc, vts, sb] | refine l7.quiet (FNew.xp hR cv rfl (a7v l.shape)) ?_ | refine U8.mk (FNew.xp hR cv rfl (a7v l.shape)) ?_)
   refine S.next (k + 1) (by omega) (by omega) (by simp only [hak, c0C, b9Z, c0x, Lk.P7, sb]; exact (by (repeat first | refine uA ?_ | (refine ⟨?_, ?_⟩; focus first | rfl | simp [slot]) | rfl | simp)))
  ·have hk' : k = a.links.length := by omega
   subst hk'
   rw [c0m]
   refine S.exit rfl ?_
   refine S.weaken (st' := ⟨[(1, .bp 0 0), (2, .bp 1 0), (3, .bp 2 0), (6, .bp 7 0), (23, ams arms), (24, ints arms.length), (25, ints i)], [.box 31 [ams arms, wls walls, pts parts, sls slots, gts gates, .v (.bool walk.neg), sb walk.num, sb walk.den], .box 31 [.v (.slice none 0 0), .v (.slice none 0 0), .v (.slice none 0 0), .v (.slice none 0 0), .v (.slice none 0 0), .v (.bool false), .v (.string ⟨#[]⟩), .v (.string ⟨#[]⟩)], .box 31 [.rv 3, .rv 4, .rv 5, sls slots, gts gates, .v (.bool walk.neg), sb walk.num, sb walk.den], .row 51 12 ((arms.take i).map (Am.P7 R)), .row 34 1 [], .row 65 12 [], .gone, .box 51 [sb a.name, .v (.bool a.base.x.neg), sb a.base.x.num, sb a.base.x.den, .v (.bool a.base.y.neg), sb a.base.y.num, sb a.base.y.den, .v (.bool a.base.half), .v (.bool a.base.t.neg), sb a.base.t.num, sb a.base.t.den, .rv 8], .row 53 16 (a.links.map (Lk.P7 R))]⟩) (Ent.mk _ _ (by (repeat first | refine uA ?_ | (refine ⟨?_, ?_⟩; focus first | rfl | simp [slot]) | rfl | simp)) (by (repeat first | refine uA ?_ | (refine ⟨?_, ?_⟩; focus first | rfl | simp [slot]) | rfl | simp)) (b9M _)) ?_
   refine S.weaken (Ent.b5Y (fun _ h => h) hR 7 8 11 _ rfl rfl rfl rfl (a8w (f := Lk.P7 R) (fun _ => rfl) _) fun w O vs h => a7r (b8x R _) h) ?_
   simp only [ams, wls, pts, sls, gts, sb, ints, lks, List.set_cons_succ, List.set_cons_zero]
   (repeat first | refine uA ?_ | (refine uK ?_ ?_; focus first | omega | (intros; simp_all <;> omega)) | simp (disch := omega) only [go_sem, Nat.reduceBEq, Nat.reduceAdd, ww, b9K, htl])
   refine S.next (i + 1) (by omega) (by omega) (by simp only [hap, c0C, b9Z, c0x, Am.P7, sb]; exact (by (repeat first | refine uA ?_ | (refine ⟨?_, ?_⟩; focus first | rfl | simp [slot]) | rfl | simp)))
 have hi' : i = arms.length := by omega
 subst hi'
 rw [c0m]
 (repeat first | refine uA ?_ | (refine uK ?_ ?_; focus first | omega | (intros; simp_all <;> omega)) | simp (disch := omega) only [go_sem, Nat.reduceBEq, Nat.reduceAdd, ww, b9K])
 refine S.loop (X := Nat) (fun i => ⟨[(1, .bp 0 0), (2, .bp 1 0), (3, .bp 2 0), (60, wls walls), (61, ints walls.length), (62, ints i)], [.box 31 [ams arms, wls walls, pts parts, sls slots, gts gates, .v (.bool walk.neg), sb walk.num, sb walk.den], .box 31 [.v (.slice none 0 0), .v (.slice none 0 0), .v (.slice none 0 0), .v (.slice none 0 0), .v (.slice none 0 0), .v (.bool false), .v (.string ⟨#[]⟩), .v (.string ⟨#[]⟩)], .box 31 [.rv 3, .rv 4, .rv 5, sls slots, gts gates, .v (.bool walk.neg), sb walk.num, sb walk.den], .row 51 12 (arms.map (Am.P7 R)), .row 34 1 ((walls.take i).map (wlX R)), .row 65 12 []]⟩) (fun i => i <= walls.length) (fun i => walls.length - i) 0 (b9M _) (by (repeat first | refine uA ?_ | (refine ⟨?_, ?_⟩; focus first | rfl | simp [slot]) | rfl | simp)) ?_
 intro i hi
 simp only [ams, wls, pts, sls, gts, sb, ints]
 (repeat first | refine uA ?_ | (refine uK ?_ ?_; focus first | omega | (intros; simp_all <;> omega)) | simp (disch := omega) only [go_sem, Nat.reduceBEq, Nat.reduceAdd, ww])
 (refine uJ rfl (fun hc => ?_) fun hc => ?_)
 ·have hi' : i < walls.length := by omega
  have hgi := b9I hi'
  have hap : walls.take (i + 1) = walls.take i ++ [walls[i]] := c0B hi'
  have htl : (walls.take i).length = i := by rw [b9V]; omega
  generalize walls[i] = x at hgi hap
  have cv := hv x (b2 x (b9W hgi))
  (repeat first | refine uA ?_ | (refine uK ?_ ?_; focus first | omega | (intros; simp_all <;> omega)) | simp (disch := omega) only [go_sem, Nat.reduceBEq, Nat.reduceAdd, ww, hgi, b9J, b9K, htl, vts] | refine l7.quiet (FNew.xp hR cv rfl (a7v x)) ?_ | refine U8.mk (FNew.xp hR cv rfl (a7v x)) ?_)
  refine S.next (i + 1) (by omega) (by omega) (by simp only [hap, c0C, b9Z, c0x, wlX]; exact (by (repeat first | refine uA ?_ | (refine ⟨?_, ?_⟩; focus first | rfl | simp [slot]) | rfl | simp)))
 have hi' : i = walls.length := by omega
 subst hi'
 rw [c0m]
 (repeat first | refine uA ?_ | (refine uK ?_ ?_; focus first | omega | (intros; simp_all <;> omega)) | simp (disch := omega) only [go_sem, Nat.reduceBEq, Nat.reduceAdd, ww, b9K])
 refine S.loop (X := Nat) (fun i => ⟨[(1, .bp 0 0), (2, .bp 1 0), (3, .bp 2 0), (75, pts parts), (76, ints parts.length), (77, ints i)], [.box 31 [ams arms, wls walls, pts parts, sls slots, gts gates, .v (.bool walk.neg), sb walk.num, sb walk.den], .box 31 [.v (.slice none 0 0), .v (.slice none 0 0), .v (.slice none 0 0), .v (.slice none 0 0), .v (.slice none 0 0), .v (.bool false), .v (.string ⟨#[]⟩), .v (.string ⟨#[]⟩)], .box 31 [.rv 3, .rv 4, .rv 5, sls slots, gts gates, .v (.bool walk.neg), sb walk.num, sb walk.den], .row 51 12 (arms.map (Am.P7 R)), .row 34 1 (walls.map (wlX R)), .row 65 12 ((parts.take i).map Pt.enc)]⟩) (fun i => i <= parts.length) (fun i => parts.length - i) 0 (b9M _) (by (repeat first | refine uA ?_ | (refine ⟨?_, ?_⟩; focus first | rfl | simp [slot]) | rfl | simp)) ?_
 intro i hi
 simp only [ams, wls, pts, sls, gts, sb, ints]
 (repeat first | refine uA ?_ | (refine uK ?_ ?_; focus first | omega | (intros; simp_all <;> omega)) | simp (disch := omega) only [go_sem, Nat.reduceBEq, Nat.reduceAdd, ww])
 (refine uJ rfl (fun hc => ?_) fun hc => ?_)
 ·have hi' : i < parts.length := by omega
  have hgi := b9I hi'
  have hap : parts.take (i + 1) = parts.take i ++ [parts[i]] := c0B hi'
  have htl : (parts.take i).length = i := by rw [b9V]; omega
  generalize parts[i] = x at hgi hap
  have cv := (hv x.shape (b3 x (b9W hgi)).2.1).spec
  (repeat first | refine uA ?_ | (refine uK ?_ ?_; focus first | omega | (intros; simp_all <;> omega)) | simp (disch := omega) only [go_sem, Nat.reduceBEq, Nat.reduceAdd, ww, hgi, b9J, b9K, htl, Pt.enc, vts, sb] | (refine uB cv ?_ ?_; exact rfl))
  refine S.next (i + 1) (by omega) (by omega) (by simp only [hap, c0C, b9Z, c0x, Pt.enc, vts, sb]; exact (by (repeat first | refine uA ?_ | (refine ⟨?_, ?_⟩; focus first | rfl | simp [slot]) | rfl | simp)))
 have hi' : i = parts.length := by omega
 subst hi'
 rw [c0m]
 refine S.exit rfl ?_
 refine S.weaken (Ent.b5Y (fun _ h => h) hR 2 3 0 _ rfl rfl rfl rfl (a8w (f := Am.P7 R) (fun _ => rfl) _) fun w O vs h => a7r (b8Z R _) h) ?_
 refine S.weaken (Ent.b5Y (fun _ h => h) hR 2 4 1 _ rfl rfl rfl rfl (a8w (f := wlX R) (fun _ => rfl) _) fun w O vs h => a7r (b8W R _) h) ?_
 simp only [List.set_cons_succ, List.set_cons_zero]
 (repeat first | refine uA ?_ | (refine uK ?_ ?_; focus first | omega | (intros; simp_all <;> omega)) | simp (disch := omega) only [go_sem, Nat.reduceBEq, Nat.reduceAdd, ww])
 (refine S.done ?_; simp only [C8, r9, go_sem, Nat.reduceBEq, Nat.reduceAdd, Nat.reduceLeDiff, Int.reduceToNat, Int.reducePow]; (repeat (refine ⟨?_, ?_⟩; focus first | trivial | omega | simp)); exact d9.out rfl (Imp.agg (by (repeat' (first | exact l8.nil | exact Imp.refl rfl | exact Imp.frz rfl rfl rfl | exact Imp.a4o | refine l8.cons ?_ ?_)))) rfl)
end Go.Proofs.YtgmlehjgpgdjhaaGreatDoor
namespace Go.Proofs.YtgmlehjgpgdjhaaGreatDoor.Eng
open Go Go.RowKit
def b1U (l : List Nat) : Value := .tuple (l.map fun b : Nat => Value.int .i64 (b : Int)).toArray
theorem b3u (l : List Nat) (b : Nat) : a0W (b1U l) b <-> b ∈ l := by
 unfold b1U a0W
 simp only [List.mem_map]
 constructor
 ·rintro ⟨c, hc, h⟩
  injection h with _ h
  have : c = b := by omega
  subst this
  exact hc
 ·exact fun h => ⟨b, h, rfl⟩
def P8 (w : World) (X : Value) (w' : World) : Prop := ∀ b, a0W X b -> ∀ cur te, w.heap[b]? = some (.cells cur te (0, 0)) -> ∃ cur', w'.heap[b]? = some (.cells cur' te (0, 0)) /\ cur'.size = cur.size /\ ∀ (o : Nat) A n c, cur[o]? = some (.slice A n c) -> cur'[o]? = some (.slice A n c)
theorem P8.refl (w : World) (X : Value) : P8 w X w := fun _ _ cur _ h => ⟨cur, h, rfl, fun _ _ _ _ h => h⟩
theorem P8.stable (w : World) (X : Value) (w1 w2 : World) (h : ∀ b, a0W X b -> w2.heap[b]? = w1.heap[b]?) (hF : P8 w X w1) : P8 w X w2 := fun b hb cur te hc => by
 obtain ⟨cur', h1, h2, h3⟩ := hF b hb cur te hc
 exact ⟨cur', (h b hb).trans h1, h2, h3⟩
structure At (w : World) (X : Value) (ad : Addr) : Prop where
 mem : a0W X ad.block
 spot : ad.spot = none
 cells : ∃ cur te, w.heap[ad.block]? = some (.cells cur te (0, 0))
theorem b0P {ad : Addr} (h : ad.spot = none) (n : Nat) : ad.add n = ⟨ad.block, ad.off + n, none⟩ := by
 obtain ⟨b, o, s⟩ := ad
 simp only at h
 subst h
 unfold Addr.add
 split
 ·rename_i h; subst h; rfl
 ·rfl
theorem At.add {w : World} {X : Value} {ad : Addr} (h : At w X ad) (n : Nat) : At w X (ad.add n) := by
 rw [b0P h.spot]
 exact ⟨h.mem, rfl, h.cells⟩
theorem cell_of {w : World} {b o : Nat} {cur : Array Value} {te : TypeId} {fz : Nat × Nat} (h : w.heap[b]? = some (.cells cur te fz)) : w.cell? ⟨b, o, none⟩ = cur[o]? := by
 unfold World.cell?
 simp only [h]
 rfl
theorem b3G {w w' : World} {X : Value} {ad : Addr} {A : Option Addr} {n c : Nat} (ha : At w X ad) (h : w.cell? ad = some (.slice A n c)) (hF : P8 w X w') : w'.cell? ad = some (.slice A n c) := by
 obtain ⟨⟨b, o, s⟩, rfl, cur, te, hc⟩ : ∃ a, a = ad /\ ∃ cur te, w.heap[ad.block]? = some (.cells cur te (0, 0)) := ⟨ad, rfl, ha.cells⟩
 have hs := ha.spot
 have hm := ha.mem
 simp only at hs hm hc
 subst hs
 obtain ⟨cur', h1, h2, h3⟩ := hF b hm cur te hc
 rw [cell_of hc] at h
 rw [cell_of h1]
 exact h3 o A n c h
theorem a4E {w : World} {X : Value} {ad : Addr} {sz : Nat} (ha : At w X ad) (hp : 0 < sz) (hc : ∀ j, j < sz -> ∃ v, w.cell? (ad.add j) = some v /\ ∀ A n c, v ≠ .slice A n c) (w1 : World) (y : Value) (hF : P8 w X w1) (hy : y.cells.toList.length = sz) (_ : ∀ u ∈ y.cells.toList, u.oneCell' = true) :
  ∃ cur te, w1.heap[ad.block]? = some (.cells cur te (0, 0)) /\ ad.off + sz <= cur.size /\ P8 w X (w1.setRow ad.block (cur.toList.take ad.off ++ y.cells.toList ++ cur.toList.drop (ad.off + sz)).toArray) := by
 obtain ⟨cur, te, hh⟩ := ha.cells
 have hm := ha.mem
 have hs := ha.spot
 obtain ⟨b, o, s⟩ := ad
 simp only at hs hm hh ⊢
 subst hs
 obtain ⟨cur1, g1, g2, g3⟩ := hF b hm cur te hh
 have hcell : ∀ j, j < sz -> ∃ v, cur[o + j]? = some v /\ ∀ A n c, v ≠ .slice A n c := fun j hj => by
  obtain ⟨v, h1, h2⟩ := hc j hj
  rw [b0P rfl, cell_of hh] at h1
  exact ⟨v, h1, h2⟩
 have hlast : o + sz <= cur.size := by
  obtain ⟨v, h1, _⟩ := hcell (sz - 1) (by omega)
  have := (Array.getElem?_eq_some_iff.1 h1).1
  omega
 refine ⟨cur1, te, g1, by omega, fun b' hb' cu te' hcu => ?_⟩
 by_cases e : b' = b
 ·subst e
  rw [hh] at hcu
  injection hcu with hcu
  injection hcu with e1 e2 e3
  subst e1 e2
  refine ⟨_, setRow_heap w1 b' _ _ te (0, 0) g1, ?_, fun q A n c hq => ?_⟩
  ·simp only [List.size_toArray, b9X, b9V, c0y, hy, Array.length_toList]
   omega
  ·have hq1 := g3 q A n c hq
   have hno : ¬ (o <= q /\ q < o + sz) := fun ⟨h1, h2⟩ => by
    obtain ⟨v, h3, h4⟩ := hcell (q - o) (by omega)
    rw [show o + (q - o) = q by omega, hq] at h3
    injection h3 with h3
    exact h4 A n c h3.symm
   have hl : (cur1.toList.take o).length = o := by rw [b9V, Array.length_toList]; omega
   rw [List.getElem?_toArray]
   rcases c0j q o with h1 | h1
   ·rw [c0t, b9P (by omega), List.getElem?_take, if_pos h1]
    simpa using hq1
   ·have h2 : o + sz <= q := by omega
    rw [b9Y (by rw [b9X, hl, hy]; omega), b9X, hl, hy, c0v, show o + sz + (q - (o + sz)) = q by omega]
    simpa using hq1
 ·obtain ⟨cu', h1, h2, h3⟩ := hF b' hb' cu te' hcu
  exact ⟨cu', by rw [setRow_other w1 b b' _ e]; exact h1, h2, h3⟩
theorem a7H {w : World} {O R : Nat -> Prop} {X : Value} (hX : ∀ b, b < w.heap.size -> ¬ (O b \/ R b) -> a0W X b) {sz : Nat} (hz : 0 < sz) {es : List (List C)} {y : Value} (h : Fz w O (.xs true R sz es) y) : ∃ A c, y = .slice A es.length c /\ (0 < es.length -> ∃ ad, A = some ad /\ At w X ad /\ FzE w (fun b => O b \/ R b) sz es ad 0) := by
 simp only [Fz] at h
 obtain ⟨A, c, rfl, _, _, h4⟩ := h
 refine ⟨A, c, rfl, fun h0 => ?_⟩
 obtain ⟨ad, rfl, h5, h6, h7, h8⟩ := h4 h0
 refine ⟨ad, rfl, ⟨hX _ h5 h6, ?_, h7 trivial⟩, h8⟩
 cases es with
 | nil => simp at h0
 | cons e es =>
  simp only [FzE] at h8
  obtain ⟨hl, h9, _⟩ := h8
  cases e with
  | nil => simp at hl; omega
  | cons c e =>
   simp only [FzA] at h9
   obtain ⟨⟨v, hv, _⟩, _⟩ := h9
   rw [Nat.zero_mul] at hv
   have e0 : ad.add 0 = ad := by unfold Addr.add; simp
   rw [e0] at hv
   unfold World.cell? at hv
   split at hv
   ·split at hv
    ·cases hv
    ·rename_i h; simpa using h
   ·cases hv
theorem a7u {w : World} {O : Nat -> Prop} {sz : Nat} {es : List (List C)} {ad : Addr} (h : FzE w O sz es ad 0) {i : Nat} {q : List C} (hq : es[i]? = some q) : ∀ j c, q[j]? = some c -> ∃ y, w.cell? (ad.add (i * sz + j)) = some y /\ Fz w O c y := by
 obtain ⟨_, hA⟩ := FzE.get h hq
 intro j c hc
 have key : ∀ {cs : List C} {k j : Nat} {c : C}, FzA w O cs ad k -> cs[j]? = some c -> ∃ y, w.cell? (ad.add (k + j)) = some y /\ Fz w O c y := by
  intro cs
  induction cs with
  | nil => intro k j c _ h; simp at h
  | cons d cs ih =>
   intro k j c h hj
   simp only [FzA] at h
   cases j with
   | zero =>
    simp at hj
    subst hj
    obtain ⟨⟨y, h1, _, h3⟩, _⟩ := h
    exact ⟨y, h1, h3⟩
   | succ j =>
    obtain ⟨y, h1, h2⟩ := ih h.2 (by simpa using hj)
    exact ⟨y, by rw [<- h1]; congr 2; omega, h2⟩
 simp only [c0n] at hA
 exact key hA hc
def okM (R : Nat -> Prop) : C -> Prop
 | .v _ => True
 | .junk => True
 | .xs _ R' _ _ => R' = R
 | _ => False
theorem b9g {ν ν' : List Value} {w : World} {O O' R : Nat -> Prop} (hs : ∀ b, O' b -> O b \/ R b) {c : C} {y : Value} (hc : okM R c) (h : Den ν w O c y) : Den ν' w O' c y := by
 cases c with
 | v x => simpa only [Den] using h
 | junk => simp only [Den]
 | xs wr R' sz es =>
  simp only [okM] at hc
  subst hc
  simp only [Den, Fz] at h ⊢
  obtain ⟨A, c, rfl, h2, h3, h4⟩ := h
  refine ⟨A, c, rfl, h2, h3, fun h0 => ?_⟩
  obtain ⟨ad, rfl, h5, h6, h7, h8⟩ := h4 h0
  have hk : Keeps (fun b => O b \/ R' b) w (fun b => O' b \/ R' b) w := Keeps.sub fun b hb => hb.elim (fun h => hs b h) .inr
  obtain ⟨k1, k2, _⟩ := hk _ h5 h6
  exact ⟨ad, rfl, k1, k2, h7, FzE.keep hk h5 h6 h8⟩
 | _ => exact hc.elim
theorem b5p {ν ν' : List Value} {w : World} {O O' R : Nat -> Prop} (hs : ∀ b, O' b -> O b \/ R b) : ∀ {cs : List C} {vs : List Value}, (∀ c ∈ cs, okM R c) -> j3 ν w O cs vs -> j3 ν' w O' cs vs
 | [], vs, _, h => by simpa only [j3] using h
 | c :: cs, vs, hc, h => by
  simp only [j3] at h ⊢
  obtain ⟨y, ys, e, h1, h2⟩ := h
  exact ⟨y, ys, e, b9g hs (hc c (by simp)) h1, b5p hs (fun c h => hc c (by simp [h])) h2⟩
noncomputable def newB (w : World) (O R : Nat -> Prop) : Value := by
 classical
 exact b1U ((List.range w.heap.size).filter fun b => decide (¬ (O b \/ R b)))
theorem b1O {w : World} {O R : Nat -> Prop} {b : Nat} : a0W (newB w O R) b <-> b < w.heap.size /\ ¬ (O b \/ R b) := by
 unfold newB
 rw [b3u, List.mem_filter, List.mem_range]
 simp
def b9x (R : Nat -> Prop) : Res -> Prop
 | .gone => True
 | .box _ cs => ∀ c ∈ cs, okM R c
 | _ => False
theorem b6l {E : Ctx} {ν : List Value} {fr fr' : List (Nat × C)} {rs : List Res} {a : Act} {w : World} {R R1 : Nat -> Prop} (hG : Good E ν ⟨fr, rs⟩ a w) (hR : ∀ b, b < w.heap.size -> ¬ R b -> R1 b /\ (E.own0 b \/ E.w0.heap.size <= b)) (hrs : ∀ r ∈ rs, b9x R1 r)
  (hfr : ∀ t, slot fr' t = .junk \/ (slot fr' t = slot fr t /\ ((∃ x, slot fr t = .v x) \/ ∃ k o, slot fr t = .bp k o))) : Good E (ν ++ [newB w (OO E.av rs ν) R]) ⟨fr', rs ++ [.mem (P8 w (newB w (OO E.av rs ν) R)) (newB w (OO E.av rs ν) R)]⟩ a w := by
 obtain ⟨d, s, f, rg, frm, nu⟩ := hG
 generalize hX : newB w (OO E.av rs ν) R = X
 have hM : ∀ b, a0W X b -> b < w.heap.size /\ ¬ OO E.av rs ν b /\ R1 b /\ (E.own0 b \/ E.w0.heap.size <= b) := fun b hb => by
  rw [<- hX, b1O] at hb
  obtain ⟨h1, h2⟩ := hR b hb.1 fun h => hb.2 (.inr h)
  exact ⟨hb.1, fun h => hb.2 (.inl h), h1, h2⟩
 have old : ∀ {k : Nat} {q : Res}, (rs ++ [.mem (P8 w X) X])[k]? = some q -> (k < rs.length /\ rs[k]? = some q) \/ (k = rs.length /\ q = .mem (P8 w X) X) := by
  intro k q hk
  rcases c0j k rs.length with hlt | hge
  ·rw [b9P hlt] at hk; exact .inl ⟨hlt, hk⟩
  ·rw [b9Y hge] at hk
   have : k - rs.length = 0 := by
    rcases c0f (k - rs.length) with h0 | h0
    ·exact h0
    ·rw [c0q (by simp; omega)] at hk; cases hk
   rw [this] at hk
   simp at hk
   exact .inr ⟨by omega, hk.symm⟩
 have vold : ∀ {k}, k < rs.length -> (ν ++ [X])[k]? = ν[k]? := fun hk => b9P (by rw [rg.len]; exact hk)
 have vnew : (ν ++ [X])[rs.length]? = some X := by rw [<- rg.len]; simp
 have own : ∀ b, owned (rs ++ [.mem (P8 w X) X]) (ν ++ [X]) b -> owned rs ν b \/ a0W X b := by
  rintro b ⟨k, q, y, hk, hy, hf⟩
  rcases old hk with ⟨hlt, hk'⟩ | ⟨rfl, rfl⟩
  ·rw [vold hlt] at hy; exact .inl ⟨k, q, y, hk', hy, hf⟩
  ·exact .inr (by rw [vnew] at hy; injection hy with hy; subst hy; exact hf)
 have sub : ∀ b, OO E.av (rs ++ [.mem (P8 w X) X]) (ν ++ [X]) b -> OO E.av rs ν b \/ R1 b := fun b hb => by
  rcases hb with hb | hb
  ·exact .inl (.inl hb)
  ·rcases own b hb with h | h
   ·exact .inl (.inr h)
   ·exact .inr (hM b h).2.2.1
 refine ⟨d, s, fun t => ?_, ⟨by simp [rg.len], fun k q hk => ?_, ?_, fun b hb => ?_, rg.av, rg.n0⟩, frm, fun k x hk hx => ?_⟩
 ·rcases hfr t with h | ⟨h, h2⟩
  ·show Den _ _ _ (slot fr' t) _
   rw [h]
   simp only [Den]
  ·show Den _ _ _ (slot fr' t) _
   rw [h]
   have hd := f t
   rcases h2 with ⟨x, h2⟩ | ⟨k, o, h2⟩
   ·rw [h2] at hd ⊢
    simpa only [Den] using hd
   ·rw [h2] at hd ⊢
    simp only [Den] at hd ⊢
    obtain ⟨b, h3, h4⟩ := hd
    exact ⟨b, by rw [b9P (b9O.1 h3).1]; exact h3, h4⟩
 ·rcases old hk with ⟨hlt, hk'⟩ | ⟨rfl, rfl⟩
  ·obtain ⟨x, hx, hok⟩ := rg.res k q hk'
   refine ⟨x, by rw [vold hlt]; exact hx, ?_⟩
   have hq := hrs q (b9W hk')
   cases q with
   | gone => trivial
   | box t cs =>
    obtain ⟨b, vs, h1, h2, h3⟩ := hok
    exact ⟨b, vs, h1, b5p sub hq h2, h3⟩
   | _ => exact hq.elim
  ·exact ⟨X, vnew, rfl, P8.refl w X, P8.stable w X⟩
 ·intro k l q q' y y' b hne hk hl hy hy' hf hf'
  rcases old hk with ⟨hlt, hk'⟩ | ⟨rfl, rfl⟩
  ·rw [vold hlt] at hy
   rcases old hl with ⟨hlt', hl'⟩ | ⟨rfl, rfl⟩
   ·rw [vold hlt'] at hy'
    exact rg.dis k l q q' y y' b hne hk' hl' hy hy' hf hf'
   ·rw [vnew] at hy'
    injection hy' with hy'
    subst hy'
    exact (hM b hf').2.1 (.inr ⟨k, q, y, hk', hy, hf⟩)
  ·rw [vnew] at hy
   injection hy with hy
   subst hy
   rcases old hl with ⟨hlt', hl'⟩ | ⟨rfl, rfl⟩
   ·rw [vold hlt'] at hy'
    exact (hM b hf).2.1 (.inr ⟨l, q', y', hl', hy', hf'⟩)
   ·exact hne rfl
 ·rcases own b hb with h | h
  ·exact rg.low b h
  ·obtain ⟨h1, h2, _, h4⟩ := hM b h
   exact ⟨h1, fun ha => h2 (.inl ha), h4⟩
 ·have := nu k x hk hx
  rw [b9P (b9O.1 this).1]
  exact this
theorem a0q {rs : List Res} {k : Nat} {w : World} {X : Value} {ad : Addr} {A : Option Addr} {n c : Nat} (hk : rs[k]? = some (.mem (P8 w X) X)) (ha : At w X ad) (h : w.cell? ad = some (.slice A n c)) : b5f rs ad [.slice A n c] :=
 ⟨k, _, X, hk, fun w1 hF j u hj => by
  cases j with
  | zero =>
   simp at hj
   subst hj
   have e0 : ad.add 0 = ad := by unfold Addr.add; simp
   rw [e0]
   exact b3G ha h hF
  | succ j => simp at hj⟩
theorem a7h {w : World} {O : Nat -> Prop} {sz : Nat} {es : List (List C)} {ad : Addr} (h : FzE w O sz es ad 0) {i : Nat} {q : List C} (hq : es[i]? = some q) {f n : Nat} (hp : ∀ j, j < n -> ∃ x, q[f + j]? = some (.v x) /\ ∀ A n c, x ≠ .slice A n c) : ∀ j, j < n -> ∃ v, w.cell? (((ad.add (i * sz)).add f).add j) = some v /\ ∀ A n c, v ≠ .slice A n c := fun j hj => by
 obtain ⟨x, h1, h2⟩ := hp j hj
 obtain ⟨y, h3, h4⟩ := a7u h hq _ _ h1
 simp only [Fz] at h4
 subst h4
 exact ⟨_, by rw [add_add', add_add']; exact h3, h2⟩
theorem b4E {E : Ctx} {ν : List Value} {fr : List (Nat × C)} {rs : List Res} {a : Act} {w : World} {j : Nat} {t : TypeId} {cs : List C} (hG : Good E ν ⟨fr, rs⟩ a w) (hj : rs[j]? = some (.box t cs)) :
  ∃ vs, j3 ν w (OO E.av rs ν) cs vs /\ (∀ b, OO E.av (rs.set j (.box t (vs.map .v))) ν b -> OO E.av rs ν b) /\ Good E ν ⟨fr, rs.set j (.box t (vs.map .v))⟩ a w := by
 obtain ⟨d, s, f, rg, frm, nu⟩ := hG
 obtain ⟨xj, hxj, b0, vs, rfl, hD, h1, hh⟩ := rg.res j _ hj
 have hjl := (b9O.1 hj).1
 have get : ∀ {l : Nat} {r : Res}, (rs.set j (.box t (vs.map .v)))[l]? = some r -> ∃ q, rs[l]? = some q /\ (∀ x b, fp r x b <-> fp q x b) /\ ((l = j /\ r = .box t (vs.map .v)) \/ r = q) := by
  intro l r h
  by_cases e : l = j
  ·subst e
   rw [List.getElem?_set_self hjl] at h
   injection h with h
   subst h
   exact ⟨_, hj, fun _ _ => Iff.rfl, .inl ⟨rfl, rfl⟩⟩
  ·rw [List.getElem?_set_ne (by omega)] at h
   exact ⟨r, h, fun _ _ => Iff.rfl, .inr rfl⟩
 have own : ∀ b, owned (rs.set j (.box t (vs.map .v))) ν b -> owned rs ν b := by
  rintro b ⟨l, r, x, h2, h3, h4⟩
  obtain ⟨q, h5, h6, _⟩ := get h2
  exact ⟨l, q, x, h5, h3, (h6 x b).1 h4⟩
 have sub : ∀ b, OO E.av (rs.set j (.box t (vs.map .v))) ν b -> OO E.av rs ν b := fun b hb => hb.imp id (own b)
 refine ⟨vs, hD, sub, d, s, fun u => Den.keep (Keeps.sub sub) (f u), ⟨by rw [c0p]; exact rg.len, fun l r hr => ?_, ?_, fun b hb => rg.low b (own b hb), rg.av, rg.n0⟩, frm, nu⟩
 ·obtain ⟨q, h5, _, h7⟩ := get hr
  rcases h7 with ⟨rfl, rfl⟩ | rfl
  ·exact ⟨_, hxj, b0, vs, rfl, j3.vs vs, h1, hh⟩
  ·obtain ⟨x, hx, hok⟩ := rg.res l r h5
   exact ⟨x, hx, hok.sub sub⟩
 ·intro l m r r' x x' b hlm hr hr' hx hx' hf hf'
  obtain ⟨q, h2, h3, _⟩ := get hr
  obtain ⟨q', h2', h3', _⟩ := get hr'
  exact rg.dis l m q q' x x' b hlm h2 h2' hx hx' ((h3 x b).1 hf) ((h3' x' b).1 hf')
end Go.Proofs.YtgmlehjgpgdjhaaGreatDoor.Eng
namespace Go.Proofs.YtgmlehjgpgdjhaaGreatDoor
open Go Go.RowKit Eng
set_option maxRecDepth 10000
set_option maxHeartbeats 4000000
open Go Eng
def nx (l : List Int) (n : Int) : Int := l.headD 0 % n
abbrev Q (n d : Int) : Nm.Rt := Nm.ofQ (mkRat n d.toNat)
def atV (x y : Int) : Vt := ⟨Q x 4, Q y 4⟩
def a1R (x y u v : Int) : List Vt := [atV x y, atV u y, atV u v, atV x v]
def a0v (w h k s : Int) : List Vt :=
 if k = 0 then [atV (-w) (-h), atV w (-h), atV w h, atV (-w) h] else
 if k = 1 then [atV (-w) (-h), atV w (-h), atV (s - w) h] else
 if k = 2 then [atV (-w - 1) (-h - 1), atV w (-h - 1), atV (w + 1) (-h), atV (w + 1) h, atV (-w - 1) h] else
 [atV (-w) 0, atV 0 (-h), atV w 0, atV 0 h]
def a0z (l : List Int) : List Vt × List Int :=
 let w := 1 + nx l 6
 let h := 1 + nx (l.drop 1) 6
 let k := nx (l.drop 2) 4
 if k = 1 then (a0v w h k (nx (l.drop 3) (2 * w + 1)), l.drop 4) else (a0v w h k 0, l.drop 3)
def a3s (a lo hi sp br tri : Int) : Lk :=
 ⟨Q (4 + 2 * a) 4, Q (-1 - lo) 3, Q (1 + hi) 3, Q 1 (4 + sp), Q 1 (10 + br), if tri = 2 then [atV (-1) (-1), atV (4 + 2 * a + 1) 0, atV (-1) 1] else a1R (-1) (-1) (4 + 2 * a + 1) 1⟩
def b3s (l : List Int) : Lk := a3s (nx l 4) (nx (l.drop 1) 6) (nx (l.drop 2) 6) (nx (l.drop 3) 8) (nx (l.drop 4) 20) (nx (l.drop 5) 3)
def a1u : Nat -> List Int -> List Lk
 | 0, _ => []
 | n + 1, l => b3s l :: a1u n (l.drop 6)
def a1Q (k : Int) : Int := if k = 0 then 0 else if k = 2 then -1 else 1
def a2P (n : Nat) : List UInt8 := [[111, 110, 101], [116, 119, 111], [116, 104, 114, 101, 101], [102, 111, 117, 114]].getD n []
def a2B (l : List Int) : Nat := (1 + nx (l.drop 2) 3).toNat
def a8v (l : List Int) (n : Nat) : Am := ⟨a2P n, ⟨Q (40 * n) 4, Q 0 4, false, Q (a1Q (nx l 4)) (1 + nx (l.drop 1) 3)⟩, a1u (a2B l) (l.drop 3)⟩
def a8J (l : List Int) : List Int := l.drop (3 + 6 * a2B l)
def a0P : Nat -> Nat -> List Int -> List Am
 | 0, _, _ => []
 | k + 1, n, l => a8v l n :: a0P k (n + 1) (a8J l)
def a4r : Nat -> List Int -> List Int
 | 0, l => l
 | k + 1, l => a4r k (a8J l)
def a0c (l : List Int) : Int := if nx (l.drop 2) 2 = 1 then -(12 + nx (l.drop 1) 30) - 6 else 12 + nx (l.drop 1) 30
def b0f (l : List Int) : List Vt :=
 a1R (nx l 80 - 30) (a0c l) (nx l 80 - 30 + 1 + nx (l.drop 3) 20) (a0c l + 1 + nx (l.drop 4) 5)
def Z9 : Nat -> List Int -> List (List Vt)
 | 0, _ => []
 | k + 1, l => b0f l :: Z9 k (l.drop 5)
def a2v (n : Nat) : List UInt8 := [[98, 111, 108, 116], [110, 117, 116]].getD n []
def b6Y (l : List Int) (n : Nat) : Pt := ⟨a2v n, (a0z l).1, ⟨Q 0 4, Q 0 4, false, Q 0 1⟩⟩
def Y0 : Nat -> Nat -> List Int -> List Pt
 | 0, _, _ => []
 | k + 1, n, l => b6Y l n :: Y0 k (n + 1) (a0z l).2
def a3d : Nat -> List Int -> List Int
 | 0, l => l
 | k + 1, l => a3d k (a0z l).2
def a3n (n : Nat) : List UInt8 := [[104, 101, 114, 101], [116, 104, 101, 114, 101], [98, 101, 121, 111, 110, 100]].getD n []
def b3z (l : List Int) (n : Nat) : Sl := ⟨a3n n, ⟨Q (nx l 40 - 20) 4, Q (nx (l.drop 1) 24 - 12) 4, false, Q (nx (l.drop 2) 5 - 2) 2⟩, Q 1 (8 + nx (l.drop 3) 20)⟩
def X6 : Nat -> Nat -> List Int -> List Sl
 | 0, _, _ => []
 | k + 1, n, l => b3z l n :: X6 k (n + 1) (l.drop 4)
def b3W (l : List Int) : Gt := ⟨[100, 111, 111, 114], atV (nx l 60 - 30) (nx (l.drop 1) 60 - 30), atV (nx l 60 - 30 + nx (l.drop 2) 12) (nx (l.drop 1) 60 - 30 + nx (l.drop 3) 12)⟩
def Y2 : Nat -> List Int -> List Gt
 | 0, _ => []
 | k + 1, l => b3W l :: Y2 k (l.drop 4)
def nA (l : List Int) : Nat := (1 + nx l 2).toNat
def l1 (l : List Int) : List Int := a4r (nA l) (l.drop 1)
def nW (l : List Int) : Nat := (nx (l1 l) 3).toNat
def l2 (l : List Int) : List Int := (l1 l).drop (1 + 5 * nW l)
def nP (l : List Int) : Nat := (nx (l2 l) 3).toNat
def l3 (l : List Int) : List Int := a3d (nP l) ((l2 l).drop 1)
def nS (l : List Int) : Nat := nP l + (nx (l3 l) 2).toNat
def l4 (l : List Int) : List Int := (l3 l).drop (1 + 4 * nS l)
def nG (l : List Int) : Nat := (nx (l4 l) 2).toNat
def l5 (l : List Int) : List Int := (l4 l).drop (1 + 4 * nG l)
def F6 (l : List Int) : Wk :=
 ⟨a0P (nA l) 0 (l.drop 1), Z9 (nW l) ((l1 l).drop 1), Y0 (nP l) 0 ((l2 l).drop 1), X6 (nS l) 0 ((l3 l).drop 1), Y2 (nG l) ((l4 l).drop 1), Q (nx (l5 l) 4) 8⟩
theorem l6 (l : List Int) {n : Int} (h : 0 < n) : 0 <= nx l n := Int.emod_nonneg _ (by omega)
theorem z8 (l : List Int) {n : Int} (h : 0 < n) : nx l n < n := Int.emod_lt_of_pos _ h
set_option maxRecDepth 100000
theorem b0i (n d : Int) (hd : 1 <= d) : ∃ g : Nat, 0 < g /\ (∃ k : Int, n = g * k /\ (mkRat n d.toNat).num = k) /\ (mkRat n d.toNat).den <= d.toNat := by
 have hd0 : d.toNat ≠ 0 := by omega
 rw [Rat.num_mkRat, Rat.den_mkRat, if_neg hd0, if_neg hd0]
 have hg : 0 < Nat.gcd d.toNat n.natAbs := Nat.gcd_pos_of_pos_left _ (by omega)
 refine ⟨Nat.gcd d.toNat n.natAbs, hg, ?_, Nat.div_le_self _ _⟩
 have hdv : ((Nat.gcd d.toNat n.natAbs : Nat) : Int) ∣ n := Int.ofNat_dvd_left.2 (Nat.gcd_dvd_right ..)
 obtain ⟨k, hk⟩ := hdv
 refine ⟨k, hk, ?_⟩
 conv => lhs; arg 1; rw [hk]
 exact Int.mul_ediv_cancel_left _ (by omega)
theorem b6v (q : Rat) : I8 q = q.num.sign := by
 unfold I8
 by_cases h : q.num = 0
 ·rw [if_pos h, h]; rfl
 ·rw [if_neg h]
  by_cases h2 : q.num < 0
  ·rw [if_pos h2, Int.sign_eq_neg_one_of_neg h2]
  ·rw [if_neg h2, Int.sign_eq_one_of_pos (by omega)]
theorem a3U (n d : Int) (hd : 1 <= d) : I8 (mkRat n d.toNat) = n.sign := by
 obtain ⟨g, hg, ⟨k, h1, h2⟩, _⟩ := b0i n d hd
 rw [b6v, h2, h1, Int.sign_mul, Int.sign_eq_one_of_pos (show (0 : Int) < (g : Int) by omega), Int.one_mul]
theorem N9 (n d : Int) (hn : -1000000 <= n /\ n <= 1000000) (hd : 1 <= d /\ d <= 1000) : p8 (Q n d) = true := by
 obtain ⟨g, hg, ⟨k, h1, h2⟩, h3⟩ := b0i n d hd.1
 have hk : k.natAbs <= 1000000 := by
  have : n.natAbs = g * k.natAbs := by rw [h1, Int.natAbs_mul]; simp
  have : k.natAbs <= g * k.natAbs := Nat.le_mul_of_pos_left _ hg
  omega
 unfold p8
 simp only [b9N, b9U]
 have e1 : (Q n d).num = Nm.enc k.natAbs := by unfold Q Nm.ofQ; rw [h2]
 have e2 : (Q n d).den = Nm.enc (mkRat n d.toNat).den := rfl
 rw [e1, e2, Nm.H9, Nm.H9]
 exact ⟨⟨⟨⟨Nm.J8 (by omega), Nm.J8 (by omega)⟩, Nm.a2C _⟩, hk⟩, by omega⟩
theorem a2J (n d : Int) : (Q n d).G5 := Nm.a2C _
theorem a1P (n d : Int) : Nm.j4 (Q n d) = mkRat n d.toNat := Nm.X8 _
theorem a3Z (a b : Int) {n : Nat} (hn : n ≠ 0) : mkRat a n - mkRat b n = mkRat (a - b) n := by
 rw [Rat.sub_eq_add_neg, Rat.neg_mkRat, Rat.mkRat_add_mkRat _ _ hn hn, <- Int.add_mul, Rat.mkRat_mul_right hn]
 rw [Int.sub_eq_add_neg]
theorem mk_pos (a : Int) {n : Nat} (hn : n ≠ 0) : 0 < mkRat a n <-> 0 < a := by
 have h := a3U a (n : Int) (by omega)
 rw [b9R] at h
 have hnp : 0 < mkRat a n <-> 0 < (mkRat a n).num := by
  rw [<- Rat.not_le, <- Int.not_le]
  refine not_congr ?_
  rw [Rat.le_iff]
  simp
 rw [hnp]
 unfold I8 at h
 rcases Int.lt_trichotomy a 0 with h1 | h1 | h1
 ·rw [Int.sign_eq_neg_one_of_neg h1] at h
  split at h
  ·cases h
  ·split at h
   ·omega
   ·cases h
 ·subst h1
  simp at h ⊢
 ·rw [Int.sign_eq_one_of_pos h1] at h
  split at h
  ·cases h
  ·split at h
   ·cases h
   ·omega
theorem b4F {a b : Int} {n : Nat} (hn : n ≠ 0) (h : a < b) : Nm.G8 (mkRat a n) (mkRat b n) = -1 := by
 unfold Nm.G8
 rw [if_pos]
 have h1 := (mk_pos (b - a) hn).2 (by omega)
 rw [<- a3Z b a hn] at h1
 grind
theorem b5n {a b : Int} {n : Nat} (hn : n ≠ 0) (h : a <= b) : Nm.G8 (mkRat a n) (mkRat b n) <= 0 := by
 rcases Int.lt_or_eq_of_le h with h1 | h1
 ·rw [b4F hn h1]; decide
 ·subst h1
  unfold Nm.G8
  rw [if_neg (Rat.lt_irrefl), if_pos rfl]
  exact Int.le_refl _
def a5H (p q r : Int × Int) : Int := (q.1 - p.1) * (r.2 - p.2) - (q.2 - p.2) * (r.1 - p.1)
theorem left_at (p q r : Int × Int) : a6d (atV p.1 p.2) (atV q.1 q.2) (atV r.1 r.2) = (a5H p q r).sign := by
 unfold a6d atV a5H
 simp only [a1P]
 rw [show Int.toNat 4 = 4 from rfl, a3Z _ _ (by decide), a3Z _ _ (by decide), a3Z _ _ (by decide), a3Z _ _ (by decide), Rat.mkRat_mul_mkRat, Rat.mkRat_mul_mkRat, a3Z _ _ (by decide)]
 exact a3U _ 16 (by decide)
def a5U (l : List (Int × Int)) : Bool := (List.range l.length).all fun i => (List.range l.length).all fun k => decide (k < 2) || decide (0 < a5H (l.getD i (0, 0)) (l.getD ((i + 1) % l.length) (0, 0)) (l.getD ((i + k) % l.length) (0, 0)))
def a3f (l : List (Int × Int)) : List Vt := l.map fun p => atV p.1 p.2
theorem a7c (l : List (Int × Int)) (i : Nat) (h : i < l.length) : (a3f l).getD i Vt.zero = atV (l.getD i (0, 0)).1 (l.getD i (0, 0)).2 := by
 rw [b9Q, b9Q, a3f, c0w, b9I h]
 rfl
theorem b7r (l : List (Int × Int)) (h3 : 3 <= l.length) (h8 : l.length <= 8) (h : a5U l = true) : O5 (a3f l) 8 = 0 := by
 have hl : (a3f l).length = l.length := by simp [a3f]
 unfold O5
 rw [if_neg (by omega), if_neg (by omega), if_pos]
 rw [hl, <- h]
 unfold a5U
 have key : ∀ i, i < l.length -> ∀ k, decide (0 < a1h (a3f l) i k) = decide (0 < a5H (l.getD i (0, 0)) (l.getD ((i + 1) % l.length) (0, 0)) (l.getD ((i + k) % l.length) (0, 0))) := by
  intro i hi k
  unfold a1h
  rw [hl, a7c l i hi, a7c l _ (Nat.mod_lt _ (by omega)), a7c l _ (Nat.mod_lt _ (by omega)), left_at]
  refine decide_eq_decide.2 ?_
  exact Int.sign_pos_iff
 rw [Bool.eq_iff_iff, List.all_eq_true, List.all_eq_true]
 refine forall_congr' fun i => ?_
 refine imp_congr_right fun hi => ?_
 rw [List.all_eq_true, List.all_eq_true]
 refine forall_congr' fun k => ?_
 refine imp_congr_right fun hk => ?_
 rw [key i (List.mem_range.1 hi) k]
theorem b4L (x y u v : Int) (h1 : x < u) (h2 : y < v) : a5U [(x, y), (u, y), (u, v), (x, v)] = true := by
 have hp : 0 < (u - x) * (v - y) := Int.mul_pos (by omega) (by omega)
 unfold a5U
 simp only [c0l, List.length_nil, show List.range (0 + 1 + 1 + 1 + 1) = [0, 1, 2, 3] from rfl, List.all_cons, List.all_nil, Bool.and_true, b9N, c0A, b9U]
 refine ⟨⟨.inl (by decide), .inl (by decide), .inr ?_, .inr ?_⟩, ⟨.inl (by decide), .inl (by decide), .inr ?_, .inr ?_⟩, ⟨.inl (by decide), .inl (by decide), .inr ?_, .inr ?_⟩, ⟨.inl (by decide), .inl (by decide), .inr ?_, .inr ?_⟩⟩ <;>
 ·simp [a5H]
  grind
theorem a6R (l : List (Int × Int)) (h3 : 3 <= l.length) (h8 : l.length <= 8) (h : a5U l = true) (hb : ∀ p ∈ l, (-1000000 <= p.1 /\ p.1 <= 1000000) /\ -1000000 <= p.2 /\ p.2 <= 1000000) : I5 (a3f l) = 0 /\ (a3f l).all (fun v => p8 v.x && p8 v.y) = true := by
 have hs : ∀ v ∈ a3f l, p8 v.x = true /\ p8 v.y = true /\ v.x.G5 /\ v.y.G5 := by
  intro v hv
  obtain ⟨p, hp, rfl⟩ := List.mem_map.1 hv
  have := hb p hp
  exact ⟨N9 _ _ this.1 (by decide), N9 _ _ this.2 (by decide), a2J _ _, a2J _ _⟩
 refine ⟨?_, ?_⟩
 ·unfold I5
  rw [b7r l h3 h8 h, if_neg (by decide), if_pos]
  rw [List.all_eq_true]
  intro v hv
  obtain ⟨a1, a2, a3, a4⟩ := hs v hv
  unfold okV
  simp [a1, a2, a3, a4]
 ·rw [List.all_eq_true]
  intro v hv
  obtain ⟨a1, a2, a3, a4⟩ := hs v hv
  simp [a1, a2]
def a1a (w h k s : Int) : List (Int × Int) :=
 if k = 0 then [(-w, -h), (w, -h), (w, h), (-w, h)] else
 if k = 1 then [(-w, -h), (w, -h), (s - w, h)] else
 if k = 2 then [(-w - 1, -h - 1), (w, -h - 1), (w + 1, -h), (w + 1, h), (-w - 1, h)] else
 [(-w, 0), (0, -h), (w, 0), (0, h)]
theorem b4R (w h k s : Int) : a0v w h k s = a3f (a1a w h k s) := by
 unfold a0v a1a
 split
 ·rfl
 split
 ·rfl
 split <;> rfl
theorem b5i : ∀ w h : Fin 6, ∀ k : Fin 4, ∀ s : Fin 13, (s : Nat) <= 2 * (w + 1 : Nat) -> a5U (a1a ((w : Nat) + 1 : Int) ((h : Nat) + 1 : Int) ((k : Nat) : Int) ((s : Nat) : Int)) = true := by decide +kernel
theorem b5R (w h k s : Int) : 3 <= (a1a w h k s).length /\ (a1a w h k s).length <= 8 := by
 unfold a1a
 split
 ·simp
 split
 ·simp
 split <;> simp
theorem b4v {w h k s : Int} (hw : 1 <= w /\ w <= 6) (hh : 1 <= h /\ h <= 6) (hs : 0 <= s /\ s <= 12) : ∀ p ∈ a1a w h k s, (-1000000 <= p.1 /\ p.1 <= 1000000) /\ -1000000 <= p.2 /\ p.2 <= 1000000 := by
 unfold a1a
 intro p hp
 split at hp
 ·simp at hp; rcases hp with rfl | rfl | rfl | rfl <;> simp only <;> omega
 split at hp
 ·simp at hp; rcases hp with rfl | rfl | rfl <;> simp only <;> omega
 split at hp
 ·simp at hp; rcases hp with rfl | rfl | rfl | rfl | rfl <;> simp only <;> omega
 ·simp at hp; rcases hp with rfl | rfl | rfl | rfl <;> simp only <;> omega
theorem b1v {w h k s : Int} (hw : 1 <= w /\ w <= 6) (hh : 1 <= h /\ h <= 6) (hk : 0 <= k /\ k <= 3) (hs : 0 <= s /\ s <= 2 * w) : I5 (a0v w h k s) = 0 /\ (a0v w h k s).length <= 8 := by
 have hc := b5i ⟨(w - 1).toNat, by omega⟩ ⟨(h - 1).toNat, by omega⟩ ⟨k.toNat, by omega⟩ ⟨s.toNat, by omega⟩ (by simp only; omega)
 simp only at hc
 rw [show (((w - 1).toNat : Nat) + 1 : Int) = w by omega, show (((h - 1).toNat : Nat) + 1 : Int) = h by omega, show ((k.toNat : Nat) : Int) = k by omega, show ((s.toNat : Nat) : Int) = s by omega] at hc
 rw [b4R]
 obtain ⟨l1, l2⟩ := b5R w h k s
 exact ⟨(a6R _ l1 l2 hc (b4v hw hh (by omega))).1, by simpa [a3f] using l2⟩
theorem b1p (l : List Int) : I5 (a0z l).1 = 0 /\ (a0z l).1.length <= 8 := by
 have b1 := l6 l (n := 6) (by decide)
 have b2 := z8 l (n := 6) (by decide)
 have b3 := l6 (l.drop 1) (n := 6) (by decide)
 have b4 := z8 (l.drop 1) (n := 6) (by decide)
 have b5 := l6 (l.drop 2) (n := 4) (by decide)
 have b6 := z8 (l.drop 2) (n := 4) (by decide)
 unfold a0z
 simp only
 split
 ·rename_i h
  have b7 := l6 (l.drop 3) (n := 2 * (1 + nx l 6) + 1) (by omega)
  have b8 := z8 (l.drop 3) (n := 2 * (1 + nx l 6) + 1) (by omega)
  exact b1v (by omega) (by omega) (by omega) (by omega)
 ·exact b1v (by omega) (by omega) (by omega) (by omega)
theorem b2S {x y u v : Int} (h1 : x < u) (h2 : y < v) (hb : -1000000 <= x /\ u <= 1000000 /\ -1000000 <= y /\ v <= 1000000) : I5 (a1R x y u v) = 0 /\ (a1R x y u v).all (fun v => p8 v.x && p8 v.y) = true :=
 a6R [(x, y), (u, y), (u, v), (x, v)] (by simp) (by simp) (b4L x y u v h1 h2) (fun p hp => by simp at hp; rcases hp with rfl | rfl | rfl | rfl <;> simp only <;> omega)
theorem a3y {l : List Vt} (h : I5 l = 0) : O5 l 8 = 0 := by
 unfold I5 at h
 split at h
 ·rename_i h1; exact absurd h h1
 ·rename_i h1; exact Classical.not_not.1 h1
theorem b7Z {a lo hi sp br tri : Int} (ha : 0 <= a /\ a < 4) (h1 : 0 <= lo /\ lo < 6) (h2 : 0 <= hi /\ hi < 6) (h3 : 0 <= sp /\ sp < 8) (h4 : 0 <= br /\ br < 20) : V4 (a3s a lo hi sp br tri) = 0 := by
 have hs : ∀ n d : Int, 0 < n -> 1 <= d -> I8 (Nm.j4 (Q n d)) = 1 := fun n d hn hd => by rw [a1P, a3U _ _ hd, Int.sign_eq_one_of_pos hn]
 have hsh : I5 (a3s a lo hi sp br tri).shape = 0 /\ (a3s a lo hi sp br tri).shape.all (fun v => p8 v.x && p8 v.y) = true := by
  unfold a3s
  simp only
  split
  ·refine a6R [(-1, -1), (4 + 2 * a + 1, 0), (-1, 1)] (by simp) (by simp) ?_ (fun p hp => by simp at hp; rcases hp with rfl | rfl | rfl <;> simp only <;> omega)
   have : a = 0 \/ a = 1 \/ a = 2 \/ a = 3 := by omega
   rcases this with rfl | rfl | rfl | rfl <;> decide
  ·exact b2S (by omega) (by omega) (by omega)
 have hpe := a3y hsh.1
 unfold V4
 rw [hpe, hsh.2, if_neg, if_neg, if_neg (by decide), if_pos rfl]
 ·unfold a3s
  simp only
  rw [hs 1 (4 + sp) (by decide) (by omega), hs 1 (10 + br) (by decide) (by omega)]
  decide
 ·unfold a3s
  simp only
  rw [N9 _ _ (by omega) (by omega), N9 _ _ (by omega) (by omega), N9 _ _ (by omega) (by omega), N9 _ _ (by omega) (by omega), N9 _ _ (by omega) (by omega), hs (4 + 2 * a) 4 (by omega) (by decide), a1P, a1P, b4F (by decide) (by omega)]
  decide
theorem a7f : ∀ (n : Nat) (l : List Int), F5 V4 (a1u n l) = 0 /\ (a1u n l).length = n
 | 0, _ => ⟨rfl, rfl⟩
 | n + 1, l => by
  have h := b7Z (a := nx l 4) (lo := nx (l.drop 1) 6) (hi := nx (l.drop 2) 6) (sp := nx (l.drop 3) 8) (br := nx (l.drop 4) 20) (tri := nx (l.drop 5) 3)
   ⟨l6 _ (by decide), z8 _ (by decide)⟩ ⟨l6 _ (by decide), z8 _ (by decide)⟩ ⟨l6 _ (by decide), z8 _ (by decide)⟩ ⟨l6 _ (by decide), z8 _ (by decide)⟩ ⟨l6 _ (by decide), z8 _ (by decide)⟩
  have e : V4 (b3s l) = 0 := h
  simp only [a1u, F5, c0l]
  rw [if_pos e]
  exact ⟨(a7f n _).1, by rw [(a7f n _).2]⟩
theorem b3r (k : Int) : -1 <= a1Q k /\ a1Q k <= 1 := by unfold a1Q; split; omega; split <;> omega
theorem b8Q (l : List Int) (n : Nat) (hn : n <= 3) : Q7 (a8v l n) = 0 := by
 have a3 := l6 (l.drop 1) (n := 3) (by decide)
 have a4 := z8 (l.drop 1) (n := 3) (by decide)
 have a5 := l6 (l.drop 2) (n := 3) (by decide)
 have a6 := z8 (l.drop 2) (n := 3) (by decide)
 have ht := b3r (nx l 4)
 obtain ⟨g1, g2⟩ := a7f (a2B l) (l.drop 3)
 have hc : a2B l = (1 + nx (l.drop 2) 3).toNat := rfl
 have hnm : a0y (a2P n) = true := by
  have : n = 0 \/ n = 1 \/ n = 2 \/ n = 3 := by omega
  rcases this with rfl | rfl | rfl | rfl <;> decide
 unfold Q7 a8v
 simp only
 rw [g1, hnm, if_neg (by decide), if_neg (by rw [g2]; omega), if_neg]
 rw [g2, N9 _ _ (by omega) (by decide), N9 _ _ (by omega) (by decide), N9 _ _ (by omega) (by omega)]
 rintro (h | h | h)
 ·omega
 ·cases h
 ·cases h
theorem b1n : ∀ (l : List Am) (n : Nms), (∀ a ∈ l, Q7 a = 0) -> w9 a0V n l = w9 J2 n (l.map Am.name)
 | [], _, _ => rfl
 | a :: l, n, h => by
  have h0 := h a (by simp)
  have e : a0V n a = J2 n a.name := by unfold a0V; rw [h0, if_neg (by decide)]
  simp only [w9, b9Z, e]
  split
  ·exact b1n l _ fun x hx => h x (by simp [hx])
  ·rfl
theorem a8W : ∀ (l : List Pt) (n : Nms), (∀ a ∈ l, I5 a.shape = 0 /\ okF a.grasp = true) -> w9 Y3 n l = w9 J2 n (l.map Pt.name)
 | [], _, _ => rfl
 | a :: l, n, h => by
  obtain ⟨h0, h1⟩ := h a (by simp)
  have e : Y3 n a = J2 n a.name := by
   unfold Y3
   by_cases h2 : (J2 n a.name).1 = 0
   ·rw [if_neg (by rw [h2]; decide), h0, if_neg (by decide), h1, if_pos rfl]
    rw [<- h2]
   ·rw [if_pos h2]
  simp only [w9, b9Z, e]
  split
  ·exact a8W l _ fun x hx => h x (by simp [hx])
  ·rfl
theorem a9t : ∀ (l : List Sl) (n : Nms), (∀ s ∈ l, (okF s.frame && decide s.within.G5 && p8 s.within && decide (0 < I8 (Nm.j4 s.within))) = true) -> w9 Z5 n l = w9 J2 n (l.map Sl.name)
 | [], _, _ => rfl
 | a :: l, n, h => by
  have h1 := h a (by simp)
  have e : Z5 n a = J2 n a.name := by
   unfold Z5
   by_cases h2 : (J2 n a.name).1 = 0
   ·rw [if_neg (by rw [h2]; decide), h1, if_pos rfl]
    rw [<- h2]
   ·rw [if_pos h2]
  simp only [w9, b9Z, e]
  split
  ·exact a9t l _ fun x hx => h x (by simp [hx])
  ·rfl
theorem a9e : ∀ (l : List Gt) (n : Nms), (∀ g ∈ l, (okV g.low && okV g.high && decide (Nm.G8 (Nm.j4 g.low.x) (Nm.j4 g.high.x) <= 0) && decide (Nm.G8 (Nm.j4 g.low.y) (Nm.j4 g.high.y) <= 0)) = true) -> w9 Z4 n l = w9 J2 n (l.map Gt.name)
 | [], _, _ => rfl
 | a :: l, n, h => by
  have h1 := h a (by simp)
  have e : Z4 n a = J2 n a.name := by
   unfold Z4
   by_cases h2 : (J2 n a.name).1 = 0
   ·rw [if_neg (by rw [h2]; decide), h1, if_pos rfl]
    rw [<- h2]
   ·rw [if_pos h2]
  simp only [w9, b9Z, e]
  split
  ·exact a9e l _ fun x hx => h x (by simp [hx])
  ·rfl
theorem a2x {α : Type} {f : α -> Int} : ∀ {l : List α}, (∀ x ∈ l, f x = 0) -> F5 f l = 0
 | [], _ => rfl
 | x :: l, h => by rw [F5, if_pos (h x (by simp))]; exact a2x fun y hy => h y (by simp [hy])
theorem a4A : ∀ (c n : Nat) (l : List Int), n + c <= 4 -> ∀ a ∈ a0P c n l, Q7 a = 0
 | 0, _, _, _, a, ha => by cases ha
 | c + 1, n, l, h, a, ha => by
  rcases List.mem_cons.1 ha with rfl | ha
  ·exact b8Q l n (by omega)
  ·exact a4A c (n + 1) _ (by omega) a ha
theorem a6F : ∀ (c n : Nat) (l : List Int), (a0P c n l).map Am.name = (List.range c).map fun i => a2P (n + i)
 | 0, _, _ => rfl
 | c + 1, n, l => by
  rw [a0P, b9Z, a6F c, List.range_succ_eq_map, b9Z, List.map_map]
  congr 1
  refine List.map_congr_left fun i _ => ?_
  simp only [Function.comp]
  congr 1
  omega
theorem a4W : ∀ (c n : Nat) (l : List Int), (a0P c n l).length = c
 | 0, _, _ => rfl
 | c + 1, n, l => by rw [a0P, c0l, a4W]
theorem b6I (l : List Int) : I5 (b0f l) = 0 /\ (b0f l).all (fun v => p8 v.x && p8 v.y) = true := by
 have a1 := l6 l (n := 80) (by decide)
 have a2 := z8 l (n := 80) (by decide)
 have a3 := l6 (l.drop 1) (n := 30) (by decide)
 have a4 := z8 (l.drop 1) (n := 30) (by decide)
 have a5 := l6 (l.drop 3) (n := 20) (by decide)
 have a6 := z8 (l.drop 3) (n := 20) (by decide)
 have a7 := l6 (l.drop 4) (n := 5) (by decide)
 have a8 := z8 (l.drop 4) (n := 5) (by decide)
 have hy : -1000 <= a0c l /\ a0c l <= 1000 := by unfold a0c; split <;> omega
 exact b2S (by omega) (by omega) (by omega)
theorem a3v : ∀ (c : Nat) (l : List Int), (∀ x ∈ Z9 c l, I5 x = 0 /\ x.all (fun v => p8 v.x && p8 v.y) = true) /\ (Z9 c l).length = c
 | 0, _ => ⟨fun x hx => (by cases hx), rfl⟩
 | c + 1, l => by
  refine ⟨fun x hx => ?_, by rw [Z9, c0l, (a3v c _).2]⟩
  rcases List.mem_cons.1 hx with rfl | hx
  ·exact b6I l
  ·exact (a3v c _).1 x hx
theorem b4r {a b c d : Int} (ha : -1000000 <= a /\ a <= 1000000) (hb : 1 <= b /\ b <= 1000) (hc : -1000000 <= c /\ c <= 1000000) (hd : 1 <= d /\ d <= 1000) : okV ⟨Q a b, Q c d⟩ = true := by
 unfold okV
 simp only [N9 _ _ ha hb, N9 _ _ hc hd, decide_eq_true (a2J a b), decide_eq_true (a2J c d), Bool.and_self]
theorem b7b {a c e f : Int} (ha : -1000000 <= a /\ a <= 1000000) (hc : -1000000 <= c /\ c <= 1000000) (he : -1000000 <= e /\ e <= 1000000) (hf : 1 <= f /\ f <= 1000) : okF ⟨Q a 4, Q c 4, false, Q e f⟩ = true := by
 unfold okF a3k
 simp only [b4r ha (show (1 : Int) <= 4 /\ (4 : Int) <= 1000 by decide) hc (show (1 : Int) <= 4 /\ (4 : Int) <= 1000 by decide), N9 _ _ he hf, decide_eq_true (a2J e f), Bool.false_and, Bool.not_false, Bool.and_self]
theorem a5a : ∀ (c n : Nat) (l : List Int), (∀ p ∈ Y0 c n l, (I5 p.shape = 0 /\ okF p.grasp = true) /\ p.shape.length <= 8) /\ (Y0 c n l).length = c /\ (Y0 c n l).map Pt.name = (List.range c).map fun i => a2v (n + i)
 | 0, _, _ => ⟨fun x hx => (by cases hx), rfl, rfl⟩
 | c + 1, n, l => by
  obtain ⟨h1, h2, h3⟩ := a5a c (n + 1) (a0z l).2
  refine ⟨fun x hx => ?_, by rw [Y0, c0l, h2], ?_⟩
  ·rcases List.mem_cons.1 hx with rfl | hx
   ·exact ⟨⟨(b1p l).1, b7b (by decide) (by decide) (by decide) (by decide)⟩, (b1p l).2⟩
   ·exact h1 x hx
  ·rw [Y0, b9Z, h3, List.range_succ_eq_map, b9Z, List.map_map]
   congr 1
   refine List.map_congr_left fun i _ => ?_
   simp only [Function.comp]
   congr 1
   omega
theorem a3m : ∀ (c n : Nat) (l : List Int), (∀ s ∈ X6 c n l, (okF s.frame && decide s.within.G5 && p8 s.within && decide (0 < I8 (Nm.j4 s.within))) = true) /\ (X6 c n l).length = c /\ (X6 c n l).map Sl.name = (List.range c).map fun i => a3n (n + i)
 | 0, _, _ => ⟨fun x hx => (by cases hx), rfl, rfl⟩
 | c + 1, n, l => by
  obtain ⟨h1, h2, h3⟩ := a3m c (n + 1) (l.drop 4)
  have a1 := l6 l (n := 40) (by decide)
  have a2 := z8 l (n := 40) (by decide)
  have a3 := l6 (l.drop 1) (n := 24) (by decide)
  have a4 := z8 (l.drop 1) (n := 24) (by decide)
  have a5 := l6 (l.drop 2) (n := 5) (by decide)
  have a6 := z8 (l.drop 2) (n := 5) (by decide)
  have a7 := l6 (l.drop 3) (n := 20) (by decide)
  have a8 := z8 (l.drop 3) (n := 20) (by decide)
  refine ⟨fun x hx => ?_, by rw [X6, c0l, h2], ?_⟩
  ·rcases List.mem_cons.1 hx with rfl | hx
   ·unfold b3z
    simp only
    rw [b7b (by omega) (by omega) (by omega) (by decide), N9 _ _ (by decide) (by omega), decide_eq_true (a2J _ _), a1P, a3U _ _ (by omega)]
    decide
   ·exact h1 x hx
  ·rw [X6, b9Z, h3, List.range_succ_eq_map, b9Z, List.map_map]
   congr 1
   refine List.map_congr_left fun i _ => ?_
   simp only [Function.comp]
   congr 1
   omega
theorem a5L : ∀ (c : Nat) (l : List Int), (∀ g ∈ Y2 c l, (okV g.low && okV g.high && decide (Nm.G8 (Nm.j4 g.low.x) (Nm.j4 g.high.x) <= 0) && decide (Nm.G8 (Nm.j4 g.low.y) (Nm.j4 g.high.y) <= 0)) = true) /\ (Y2 c l).length = c /\ (Y2 c l).map Gt.name = List.replicate c [100, 111, 111, 114]
 | 0, _ => ⟨fun x hx => (by cases hx), rfl, rfl⟩
 | c + 1, l => by
  obtain ⟨h1, h2, h3⟩ := a5L c (l.drop 4)
  have a1 := l6 l (n := 60) (by decide)
  have a2 := z8 l (n := 60) (by decide)
  have a3 := l6 (l.drop 1) (n := 60) (by decide)
  have a4 := z8 (l.drop 1) (n := 60) (by decide)
  have a5 := l6 (l.drop 2) (n := 12) (by decide)
  have a6 := z8 (l.drop 2) (n := 12) (by decide)
  have a7 := l6 (l.drop 3) (n := 12) (by decide)
  have a8 := z8 (l.drop 3) (n := 12) (by decide)
  refine ⟨fun x hx => ?_, by rw [Y2, c0l, h2], ?_⟩
  ·rcases List.mem_cons.1 hx with rfl | hx
   ·unfold b3W atV
    simp only
    rw [b4r (by omega) (by decide) (by omega) (by decide), b4r (by omega) (by decide) (by omega) (by decide), a1P, a1P, a1P, a1P, decide_eq_true (b5n (by decide) (by omega)), decide_eq_true (b5n (by decide) (by omega))]
    decide
   ·exact h1 x hx
  ·rw [Y2, b9Z, h3, List.replicate_succ]
   rfl
theorem counts (l : List Int) : (1 <= nA l /\ nA l <= 2) /\ nW l <= 2 /\ nP l <= 2 /\ (nP l <= nS l /\ nS l <= nP l + 1) /\ nG l <= 1 := by
 have a1 := l6 l (n := 2) (by decide)
 have a2 := z8 l (n := 2) (by decide)
 have a3 := l6 (l1 l) (n := 3) (by decide)
 have a4 := z8 (l1 l) (n := 3) (by decide)
 have a5 := l6 (l2 l) (n := 3) (by decide)
 have a6 := z8 (l2 l) (n := 3) (by decide)
 have a7 := l6 (l3 l) (n := 2) (by decide)
 have a8 := z8 (l3 l) (n := 2) (by decide)
 have a9 := l6 (l4 l) (n := 2) (by decide)
 have a10 := z8 (l4 l) (n := 2) (by decide)
 unfold nS
 unfold nA nW nP nG
 omega
theorem b6b : ∀ a w p s g : Nat, (1 <= a /\ a <= 2) -> p <= 2 -> (p <= s /\ s <= p + 1) -> g <= 1 ->
  (w9 J2 [] ((List.range a).map fun i => a2P (0 + i))).1 = 0 /\
  (w9 J2 (w9 J2 [] ((List.range a).map fun i => a2P (0 + i))).2 ((List.range p).map fun i => a2v (0 + i))).1 = 0 /\
  (w9 J2 (w9 J2 (w9 J2 [] ((List.range a).map fun i => a2P (0 + i))).2 ((List.range p).map fun i => a2v (0 + i))).2 ((List.range s).map fun i => a3n (0 + i))).1 = 0 /\
  (w9 J2 (w9 J2 (w9 J2 (w9 J2 [] ((List.range a).map fun i => a2P (0 + i))).2 ((List.range p).map fun i => a2v (0 + i))).2 ((List.range s).map fun i => a3n (0 + i))).2 (List.replicate g [100, 111, 111, 114])).1 = 0 := by
 intro a w p s g ha hp hs hg
 have h1 : a = 1 \/ a = 2 := by omega
 have h2 : p = 0 \/ p = 1 \/ p = 2 := by omega
 have h3 : s = p \/ s = p + 1 := by omega
 have h4 : g = 0 \/ g = 1 := by omega
 rcases h1 with rfl | rfl <;> rcases h2 with rfl | rfl | rfl <;> rcases h3 with rfl | rfl <;> rcases h4 with rfl | rfl <;> decide
theorem b0D (l : List Int) : a0p (F6 l) = 0 := by
 obtain ⟨c1, c2, c3, c4, c5⟩ := counts l
 have x1 := a4A (nA l) 0 (l.drop 1) (by omega)
 have x2 := a3v (nW l) ((l1 l).drop 1)
 have x3 := a5a (nP l) 0 ((l2 l).drop 1)
 have x4 := a3m (nS l) 0 ((l3 l).drop 1)
 have x5 := a5L (nG l) ((l4 l).drop 1)
 have hn := b6b (nA l) 0 (nP l) (nS l) (nG l) c1 c3 c4 c5
 have a1 := l6 (l5 l) (n := 4) (by decide)
 have a2 := z8 (l5 l) (n := 4) (by decide)
 have hw : b0e (Q (nx (l5 l) 4) 8) = 0 := by
  unfold b0e
  rw [N9 _ _ (by omega) (by decide), decide_eq_true (a2J _ _), a1P, a3U _ _ (by decide)]
  have : 0 <= (nx (l5 l) 4).sign := by
   rcases Int.lt_or_eq_of_le a1 with h | h
   ·rw [Int.sign_eq_one_of_pos h]; decide
   ·rw [<- h]; decide
  simp [this]
 have hL : a5l (F6 l) = [0, 0, 0, 0, 0] := by
  unfold a5l F6
  simp only
  rw [b1n _ _ x1, a6F, a8W _ _ (fun a ha => (x3.1 a ha).1), x3.2.2, a9t _ _ x4.1, x4.2.2, a9e _ _ x5.1, x5.2.2, a2x (fun a ha => (x2.1 a ha).1), hn.1, hn.2.1, hn.2.2.1, hn.2.2.2]
 unfold a0p
 rw [hL]
 have l1' : (F6 l).arms.length = nA l := a4W ..
 have l2' : (F6 l).walls.length = nW l := x2.2
 have l3' : (F6 l).parts.length = nP l := x3.2.1
 have l4' : (F6 l).slots.length = nS l := x4.2.1
 have l5' : (F6 l).gates.length = nG l := x5.2.1
 rw [if_neg (by omega), if_neg (by omega), if_neg (by decide)]
 exact hw
set_option maxRecDepth 10000
set_option maxHeartbeats 8000000
def a3C (a : Am) (n : Int) : Int := if Q7 a ≠ 0 then Q7 a else if n ≠ a.links.length then 1 else 0
theorem b8J (a : Am) (n : Int) (hl : Ab 1073741824 a) : FZ 101 [a.c, ints n] (ints (a3C a n)) := by
 refine kW Tryz.func101 (by cbv) (by rfl) fun w O hw => ?_
 have h := b4x a hl
 unfold a3C
 generalize Q7 a = e at *
 obtain ⟨name, ⟨x, y, half, t⟩, links⟩ := a
 simp only [l9]
 simp only [Am.c, Am.enc, lks, sb, ints] at *
 (repeat first | refine uA ?_ | (refine uK ?_ ?_; focus first | omega | (intros; simp_all <;> omega)) | simp (disch := omega) only [go_sem, Nat.reduceBEq, Nat.reduceAdd, ww] | (refine uD h ?_ ?_ ?_; exact tz hw; exact rfl))
 refine S.cond rfl (fun hc => ?_) (fun hc => ?_)
 ·rw [if_pos (by simpa using hc)]
  (repeat first | refine uA ?_ | (refine uK ?_ ?_; focus first | omega | (intros; simp_all <;> omega)) | simp (disch := omega) only [go_sem, Nat.reduceBEq, Nat.reduceAdd, ww])
  exact S.done (d9.out rfl (Imp.refl rfl) rfl)
 rw [if_neg (by simpa using hc)]
 (repeat first | refine uA ?_ | (refine uK ?_ ?_; focus first | omega | (intros; simp_all <;> omega)) | simp (disch := omega) only [go_sem, Nat.reduceBEq, Nat.reduceAdd, ww, b9K])
 refine S.cond rfl (fun hc => ?_) (fun hc => ?_)
 ·rw [if_pos (by simpa using hc)]
  (repeat first | refine uA ?_ | (refine uK ?_ ?_; focus first | omega | (intros; simp_all <;> omega)) | simp (disch := omega) only [go_sem, Nat.reduceBEq, Nat.reduceAdd, ww])
  exact S.done (d9.out rfl (Imp.refl rfl) rfl)
 ·rw [if_neg (by simpa using hc)]
  (repeat first | refine uA ?_ | (refine uK ?_ ?_; focus first | omega | (intros; simp_all <;> omega)) | simp (disch := omega) only [go_sem, Nat.reduceBEq, Nat.reduceAdd, ww])
  exact S.done (d9.out rfl (Imp.refl rfl) rfl)
def a3G (x : Lk × Nm.Rt) : Int := if Nm.G8 (Nm.j4 x.2) (Nm.j4 x.1.low) < 0 \/ 0 < Nm.G8 (Nm.j4 x.2) (Nm.j4 x.1.high) then 17 else 0
theorem b0L (a : Am) (q : List Nm.Rt) : a2A a q = if a3C a q.length ≠ 0 then a3C a q.length else F5 a3G (a.links.zip q) := by
 unfold a2A a3C
 by_cases h : Q7 a = 0
 ·rw [if_neg (by simp [h])]
  by_cases h2 : q.length = a.links.length
  ·simp [h, h2]; rfl
  ·have h3 : ¬ (q.length : Int) = a.links.length := by omega
   simp [h, h2, h3]
 ·simp [h]
theorem a8H {α β : Type} {l : List α} {m : List β} {i : Nat} {x : α} {y : β} (h : l[i]? = some x) (k : m[i]? = some y) : (l.zip m)[i]? = some (x, y) := by
 rw [List.getElem?_zip_eq_some]; exact ⟨h, k⟩
theorem b8o (a : Am) (q : List Nm.Rt) (hl : Ab 1073741824 a) (hq : Rbs 1073741824 q) : FZ 96 [a.c, rts q] (ints (a2A a q)) := by
 refine kW b2v b2j (by rfl) fun w O hw => ?_
 have h := b8J a q.length hl
 rw [b0L]
 have hlen : a3C a q.length = 0 -> q.length = a.links.length := by
  unfold a3C
  intro h
  split at h
  ·rename_i h1; exact absurd h h1
  ·split at h
   ·cases h
   ·rename_i h1; have := Classical.not_not.1 h1; omega
 generalize a3C a q.length = e at *
 obtain ⟨hqn, hqb⟩ := hq
 obtain ⟨name, ⟨x, y, half, t⟩, links⟩ := a
 obtain ⟨b0, ⟨b1, b2, b3⟩, hn, hb⟩ := hl
 simp only at b0 b1 b2 b3 hn hb hlen
 simp only [a6K, l9, TT, II, OA, OB, OC, MM, LL, VV, FF, MG, LG, VG, FG]
 simp only [Am.c, Am.enc, lks, sb, ints, rts] at *
 (repeat first | refine uA ?_ | (refine uK ?_ ?_; focus first | omega | (intros; simp_all <;> omega)) | simp (disch := omega) only [go_sem, Nat.reduceBEq, Nat.reduceAdd, ww, b9K] | (refine uD h ?_ ?_ ?_; exact tz hw; exact rfl))
 refine S.cond rfl (fun hc => ?_) (fun hc => ?_)
 ·rw [if_pos (by simpa using hc)]
  (repeat first | refine uA ?_ | (refine uK ?_ ?_; focus first | omega | (intros; simp_all <;> omega)) | simp (disch := omega) only [go_sem, Nat.reduceBEq, Nat.reduceAdd, ww])
  exact S.done (d9.out rfl (Imp.refl rfl) rfl)
 rw [if_neg (by simpa using hc)]
 have hlen := hlen (by simpa using hc)
 (repeat first | refine uA ?_ | (refine uK ?_ ?_; focus first | omega | (intros; simp_all <;> omega)) | simp (disch := omega) only [go_sem, Nat.reduceBEq, Nat.reduceAdd, ww, b9K])
 refine S.loop (X := Nat) (fun i => ⟨[(1, rts q), (16, lks links), (17, ints links.length), (18, ints i)], []⟩) (fun i => i <= links.length /\ F5 a3G (links.zip q) = F5 a3G ((links.zip q).drop i)) (fun i => links.length - i) 0 ⟨b9M _, rfl⟩ (by (repeat first | refine uA ?_ | (refine ⟨?_, ?_⟩; focus first | rfl | simp [slot]) | rfl | simp)) ?_
 rintro i ⟨hi, hg⟩
 simp only [rts, lks, ints]
 (repeat first | refine uA ?_ | (refine uK ?_ ?_; focus first | omega | (intros; simp_all <;> omega)) | simp (disch := omega) only [go_sem, Nat.reduceBEq, Nat.reduceAdd, ww])
 (refine uJ rfl (fun hc => ?_) fun hc => ?_)
 ·have hi' : i < links.length := by omega
  have hgi := b9I hi'
  have hgq := b9I (show i < q.length by omega)
  generalize links[i] = x at hgi
  generalize q[i]'_ = v at hgq
  have hz := a8H hgi hgq
  have hst := a0I (f := a3G) hz
  have hnx := a0E (f := a3G) hz
  have bx := hb x (b9W hgi)
  have bv := (hqb v (b9W hgq)).mono (m := 17179869184) (by decide)
  have h1 := a2h v x.low bv (bx.2.1.mono (by decide))
  have h2 := a2h v x.high bv (bx.2.2.1.mono (by decide))
  unfold a3G at hst hnx
  simp only at hst hnx
  generalize Nm.G8 (Nm.j4 v) (Nm.j4 x.low) = n1 at *
  generalize Nm.G8 (Nm.j4 v) (Nm.j4 x.high) = n2 at *
  have hqi : (i : Int) < q.length := by omega
  simp only [rc, sb, ints] at h1 h2
  (repeat first | refine uA ?_ | (refine uK ?_ ?_; focus first | omega | (intros; simp_all <;> omega)) | simp (disch := omega) only [go_sem, Nat.reduceBEq, Nat.reduceAdd, ww, hgi, hgq, b9J, b9K, Lk.enc, rcs, vts, sb, b9R] | (refine uD h1 ?_ ?_ ?_; exact tz hw; exact rfl) | (refine uD h2 ?_ ?_ ?_; exact tz hw; exact rfl))
  refine S.cond rfl (fun hc2 => ?_) (fun hc2 => ?_)
  ·have hp : n1 < 0 \/ 0 < n2 := by simpa using hc2
   rw [if_pos hp] at hst
   rw [hg, show a3G = fun x : Lk × Nm.Rt => if Nm.G8 (Nm.j4 x.2) (Nm.j4 x.1.low) < 0 \/ 0 < Nm.G8 (Nm.j4 x.2) (Nm.j4 x.1.high) then 17 else 0 from rfl, hst (by decide)]
   (repeat first | refine uA ?_ | (refine uK ?_ ?_; focus first | omega | (intros; simp_all <;> omega)) | simp (disch := omega) only [go_sem, Nat.reduceBEq, Nat.reduceAdd, ww])
   exact S.done (d9.out rfl (Imp.refl rfl) rfl)
  ·have hp : ¬ (n1 < 0 \/ 0 < n2) := by simpa using hc2
   rw [if_neg hp] at hnx
   (repeat first | refine uA ?_ | (refine uK ?_ ?_; focus first | omega | (intros; simp_all <;> omega)) | simp (disch := omega) only [go_sem, Nat.reduceBEq, Nat.reduceAdd, ww])
   refine S.next (i + 1) ⟨by omega, ?_⟩ (by omega) (by (repeat first | refine uA ?_ | (refine ⟨?_, ?_⟩; focus first | rfl | simp [slot]) | rfl | simp))
   rw [hg, show a3G = fun x : Lk × Nm.Rt => if Nm.G8 (Nm.j4 x.2) (Nm.j4 x.1.low) < 0 \/ 0 < Nm.G8 (Nm.j4 x.2) (Nm.j4 x.1.high) then 17 else 0 from rfl, hnx rfl]
 ·rw [hg, a1t (by rw [List.length_zip]; omega)]
  (repeat first | refine uA ?_ | (refine uK ?_ ?_; focus first | omega | (intros; simp_all <;> omega)) | simp (disch := omega) only [go_sem, Nat.reduceBEq, Nat.reduceAdd, ww])
  exact S.done (d9.out rfl (Imp.refl rfl) rfl)
set_option maxRecDepth 100000
set_option maxHeartbeats 4000000
theorem b6M {a : Nm.Rt} (h : p8 a = true) : Rb 3 a := by
 unfold p8 at h
 simp only [b9N, b9U] at h
 exact ⟨h.1.1.1.1, by have := h.1.1.1.2; omega⟩
theorem F7 {a : Nm.Rt} (h : p8 a = true) : Rb 1048576 a := (b6M h).mono (by decide)
theorem a9o {α : Type} {f : α -> Int} : ∀ {l : List α}, F5 f l = 0 -> ∀ x ∈ l, f x = 0
 | [], _, x, hx => by cases hx
 | y :: l, h, x, hx => by
  rw [F5] at h
  split at h
  ·rename_i h0
   rcases List.mem_cons.1 hx with rfl | hx
   ·exact h0
   ·exact a9o h x hx
  ·rename_i h0; exact absurd h h0
theorem a8P {l : List Vt} (h : O5 l 8 = 0) : l.length <= 8 := by
 unfold O5 at h
 split at h
 ·cases h
 ·omega
theorem a9z {l : List Vt} (h : I5 l = 0) : Vbs 1048576 l := by
 have hl := a8P (a3y h)
 unfold I5 at h
 rw [a3y h, if_neg (by decide)] at h
 split at h
 ·rename_i ha
  rw [List.all_eq_true] at ha
  refine ⟨by omega, fun v hv => ?_⟩
  have := ha v hv
  unfold okV at this
  simp only [b9N] at this
  exact ⟨F7 this.1.2, F7 this.2⟩
 ·cases h
theorem a4t {l : Lk} (h : V4 l = 0) : Lb 1048576 l /\ Nm.G8 (Nm.j4 l.low) (Nm.j4 l.high) < 0 /\ 0 < I8 (Nm.j4 l.speed) := by
 unfold V4 at h
 split at h
 ·cases h
 rename_i h1
 split at h
 ·cases h
 rename_i h2
 split at h
 ·rename_i h3; exact absurd h h3
 rename_i h3
 split at h
 ·rename_i h4
  have h1a : (p8 l.length && p8 l.low && p8 l.high && p8 l.speed && p8 l.brake) = true := by
   cases hb : (p8 l.length && p8 l.low && p8 l.high && p8 l.speed && p8 l.brake) with
   | true => rfl
   | false => exact absurd (.inl hb) h1
  simp only [b9N] at h1a
  obtain ⟨⟨⟨⟨s1, s2⟩, s3⟩, s4⟩, s5⟩ := h1a
  have hpe := a8P (Classical.not_not.1 h3)
  rw [List.all_eq_true] at h4
  refine ⟨⟨F7 s1, F7 s2, F7 s3, F7 s4, F7 s5, by omega, fun v hv => ?_⟩, ?_, ?_⟩
  ·have := h4 v hv
   simp only [b9N] at this
   exact ⟨F7 this.1, F7 this.2⟩
  ·have : ¬ 0 <= Nm.G8 (Nm.j4 l.low) (Nm.j4 l.high) := fun h => h1 (.inr (.inr h))
   omega
  ·have : ¬ I8 (Nm.j4 l.speed) <= 0 := fun h => h2 (.inl h)
   omega
 ·cases h
theorem a9h {a : Am} (h : Q7 a = 0) : Ab 1048576 a /\ ∀ l ∈ a.links, V4 l = 0 := by
 unfold Q7 at h
 split at h
 ·cases h
 rename_i h1
 split at h
 ·cases h
 split at h
 ·cases h
 rename_i h2 h3
 have hn : a.name.length <= 12 := by
  have : a0y a.name = true := by simpa using h1
  unfold a0y at this
  simp only [b9N, b9U] at this
  exact this.2
 have h3a : (p8 a.base.x && p8 a.base.y && p8 a.base.t) = true := by
  cases hb : (p8 a.base.x && p8 a.base.y && p8 a.base.t) with
  | true => rfl
  | false => exact absurd (.inr (.inl hb)) h3
 simp only [b9N] at h3a
 have hl := a9o h
 exact ⟨⟨by omega, ⟨F7 h3a.1.1, F7 h3a.1.2, F7 h3a.2⟩, by omega, fun l hl' => (a4t (hl l hl')).1⟩, hl⟩
theorem a6e {f : Fr} (h : okF f = true) : Fb 1048576 f /\ a0L f = true := by
 unfold okF okV at h
 simp only [b9N, b9U] at h
 obtain ⟨⟨⟨⟨⟨⟨g1, g2⟩, s1⟩, s2⟩, g3⟩, s3⟩, z⟩ := h
 refine ⟨⟨F7 s1, F7 s2, F7 s3⟩, ?_⟩
 unfold a0L K9
 simp [g1, g2, g3, z]
theorem b5m {n : Nat} : (a2P n).length <= 5 /\ (a2v n).length <= 4 /\ (a3n n).length <= 6 := by
 refine ⟨?_, ?_, ?_⟩
 ·unfold a2P
  match n with
  | 0 | 1 | 2 | 3 => decide
  | n + 4 => simp
 ·unfold a2v
  match n with
  | 0 | 1 => decide
  | n + 2 => simp
 ·unfold a3n
  match n with
  | 0 | 1 | 2 => decide
  | n + 3 => simp
theorem a9d : ∀ (c n : Nat) (l : List Int), ∀ p ∈ Y0 c n l, p.name.length <= 4
 | 0, _, _, p, hp => by cases hp
 | c + 1, n, l, p, hp => by
  rcases List.mem_cons.1 hp with rfl | hp
  ·exact b5m.2.1
  ·exact a9d c _ _ p hp
theorem a8Q : ∀ (c n : Nat) (l : List Int), ∀ p ∈ X6 c n l, p.name.length <= 6
 | 0, _, _, p, hp => by cases hp
 | c + 1, n, l, p, hp => by
  rcases List.mem_cons.1 hp with rfl | hp
  ·exact b5m.2.2
  ·exact a8Q c _ _ p hp
theorem a9J : ∀ (c : Nat) (l : List Int), ∀ p ∈ Y2 c l, p.name.length <= 4
 | 0, _, p, hp => by cases hp
 | c + 1, l, p, hp => by
  rcases List.mem_cons.1 hp with rfl | hp
  ·exact (by decide : ([100, 111, 111, 114] : List UInt8).length <= 4)
  ·exact a9J c _ p hp
theorem Fb.mono {k m : Nat} {f : Fr} (h : Fb k f) (hm : k <= m) : Fb m f := ⟨h.1.mono hm, h.2.1.mono hm, h.2.2.mono hm⟩
theorem Vbs.mono {k m : Nat} {l : List Vt} (h : Vbs k l) (hm : k <= m) : Vbs m l := ⟨b9L h.1 hm, fun v hv => ⟨(h.2 v hv).1.mono hm, (h.2 v hv).2.mono hm⟩⟩
theorem Ab.mono {k m : Nat} {a : Am} (h : Ab k a) (hm : k <= m) : Ab m a := ⟨b9L h.1 hm, h.2.1.mono hm, b9L h.2.2.1 hm, fun l hl => by
 obtain ⟨h1, h2, h3, h4, h5, h6⟩ := h.2.2.2 l hl
 exact ⟨h1.mono hm, h2.mono hm, h3.mono hm, h4.mono hm, h5.mono hm, h6.mono hm⟩⟩
theorem Wb.mono {k m : Nat} {w : Wk} (h : Wb k w) (hm : k <= m) : Wb m w :=
  ⟨⟨b9L h.arms.1 hm, fun x hx => (h.arms.2 x hx).mono hm⟩, ⟨b9L h.walls.1 hm, fun x hx => (h.walls.2 x hx).mono hm⟩, ⟨b9L h.parts.1 hm, fun x hx => ⟨b9L (h.parts.2 x hx).1 hm, (h.parts.2 x hx).2.1.mono hm, (h.parts.2 x hx).2.2.mono hm⟩⟩,
   ⟨b9L h.slots.1 hm, fun x hx => ⟨b9L (h.slots.2 x hx).1 hm, (h.slots.2 x hx).2.1.mono hm, (h.slots.2 x hx).2.2.mono hm⟩⟩, ⟨b9L h.gates.1 hm, fun x hx => ⟨b9L (h.gates.2 x hx).1 hm, ⟨(h.gates.2 x hx).2.1.1.mono hm, (h.gates.2 x hx).2.1.2.mono hm⟩, (h.gates.2 x hx).2.2.1.mono hm, (h.gates.2 x hx).2.2.2.mono hm⟩⟩, h.walk.mono hm⟩
theorem Stb.mono {k m : Nat} {s : Stt} (h : Stb k s) (hm : k <= m) : Stb m s :=
 ⟨⟨b9L h.arms.1 hm, fun x hx => ⟨⟨b9L (h.arms.2 x hx).1.1 hm, fun r hr => ((h.arms.2 x hx).1.2 r hr).mono hm⟩, b9L (h.arms.2 x hx).2.1 hm, fun r hr => ((h.arms.2 x hx).2.2 r hr).mono hm⟩⟩, ⟨b9L h.parts.1 hm, fun x hx => (h.parts.2 x hx).mono hm⟩, h.people.mono hm, b9L h.gates hm⟩
theorem b1x (l : List Int) : Wb 1048576 (F6 l) := by
 obtain ⟨c1, c2, c3, c4, c5⟩ := counts l
 have x1 := a4A (nA l) 0 (l.drop 1) (by omega)
 have x2 := a3v (nW l) ((l1 l).drop 1)
 have x3 := a5a (nP l) 0 ((l2 l).drop 1)
 have x4 := a3m (nS l) 0 ((l3 l).drop 1)
 have x5 := a5L (nG l) ((l4 l).drop 1)
 have a1 := l6 (l5 l) (n := 4) (by decide)
 have a2 := z8 (l5 l) (n := 4) (by decide)
 refine ⟨⟨?_, fun x hx => (a9h (x1 x hx)).1⟩, ⟨?_, fun x hx => a9z (x2.1 x hx).1⟩, ⟨?_, fun x hx => ?_⟩, ⟨?_, fun x hx => ?_⟩, ⟨?_, fun x hx => ?_⟩, ?_⟩
 ·show (a0P _ _ _).length <= _
  rw [a4W]; omega
 ·show (Z9 _ _).length <= _
  rw [x2.2]; omega
 ·show (Y0 _ _ _).length <= _
  rw [x3.2.1]; omega
 ·obtain ⟨⟨h1, h2⟩, h3⟩ := x3.1 x hx
  have := a9d _ _ _ x hx
  exact ⟨by omega, a9z h1, (a6e h2).1⟩
 ·show (X6 _ _ _).length <= _
  rw [x4.2.1]; omega
 ·have h := x4.1 x hx
  simp only [b9N] at h
  have := a8Q _ _ _ x hx
  exact ⟨by omega, (a6e h.1.1.1).1, F7 h.1.2⟩
 ·show (Y2 _ _).length <= _
  rw [x5.2.1]; omega
 ·have h := x5.1 x hx
  simp only [b9N] at h
  have := a9J _ _ x hx
  obtain ⟨⟨⟨h1, h2⟩, _⟩, _⟩ := h
  unfold okV at h1 h2
  simp only [b9N] at h1 h2
  exact ⟨by omega, ⟨F7 h1.1.2, F7 h1.2⟩, F7 h2.1.2, F7 h2.2⟩
 ·exact F7 (N9 _ _ (by omega) (by decide))
theorem b4A (l : List Int) : Wb 1073741824 (F6 l) := (b1x l).mono (by decide)
theorem a6f {α β : Type} {f : α -> β} : ∀ {l : List α} {x : α × β}, x ∈ l.zip (l.map f) -> x.1 ∈ l /\ x.2 = f x.1
 | [], x, h => by simp at h
 | a :: l, x, h => by
  simp only [b9Z, List.zip_cons_cons] at h
  rcases List.mem_cons.1 h with rfl | h
  ·exact ⟨List.mem_cons_self .., rfl⟩
  ·exact ⟨List.mem_cons_of_mem _ (a6f h).1, (a6f h).2⟩
theorem a8M (p q : Rat) : Nm.G8 p q < 0 <-> p < q := by
 unfold Nm.G8
 split
 ·simp_all
 ·split
  ·simp_all
  ·simp_all
theorem a8m (p q : Rat) : 0 < Nm.G8 p q <-> q < p := by
 unfold Nm.G8
 split
 ·rename_i h; simp; grind
 ·split
  ·rename_i h1 h2; simp; grind
  ·rename_i h1 h2; simp; grind
theorem b5h {l : Lk} (h : V4 l = 0) : a3G (l, a0D l) = 0 := by
 have hc := (a8M _ _).1 (a4t h).2.1
 unfold a3G a0D
 simp only [Nm.X8]
 rw [if_neg]
 rw [a8M, a8m]
 unfold a7a a1K
 have e1 : ∀ p q : Rat, (Nm.G8 p q >= 0) <-> ¬ p < q := fun p q => by rw [<- a8M]; omega
 have e2 : ∀ p q : Rat, (Nm.G8 p q <= 0) <-> ¬ q < p := fun p q => by rw [<- a8m]; omega
 simp only [e1, e2]
 repeat' split
 all_goals grind
theorem b2L {l : Lk} (h : V4 l = 0) : a0J (l, Nm.ofQ 0) = 0 := by
 have hs := (a4t h).2.2
 unfold a0J
 simp only [Nm.X8]
 rw [if_neg]
 have h0 : a3b 0 = 0 := rfl
 rw [h0, a8m]
 have hn : 0 < (Nm.j4 l.speed).num := by
  unfold I8 at hs
  split at hs
  ·omega
  ·split at hs <;> omega
 intro hlt
 have := (Rat.lt_iff _ _).1 hlt
 simp at this
 omega
theorem b5z {a : Am} (h : Q7 a = 0) (n : Nat) : a3B a (X7 a) n = 0 := by
 have hl := (a9h h).2
 unfold a3B X7
 simp only
 have g1 : (a.links.map a0D).all K9 = true := by
  rw [List.all_eq_true]
  intro x hx
  obtain ⟨l, _, rfl⟩ := List.mem_map.1 hx
  exact decide_eq_true (Nm.a2C _)
 have g2 : (a.links.map fun _ => Nm.ofQ 0).all K9 = true := by
  rw [List.all_eq_true]
  intro x hx
  obtain ⟨l, _, rfl⟩ := List.mem_map.1 hx
  exact decide_eq_true (Nm.a2C _)
 have hf : a2A a (a.links.map a0D) = 0 := by
  rw [b0L]
  have : a3C a (a.links.map a0D).length = 0 := by
   unfold a3C
   rw [h, if_neg (by decide), b9K, if_neg (by simp)]
  rw [this, if_neg (by decide)]
  refine a2x fun x hx => ?_
  obtain ⟨h1, h2⟩ := a6f hx
  obtain ⟨x1, x2⟩ := x
  simp only at h1 h2
  rw [h2]
  exact b5h (hl x1 h1)
 rw [g1, g2, if_neg (by decide), hf, if_neg (by decide), if_neg (by simp; omega)]
 refine a2x fun x hx => ?_
 obtain ⟨h1, h2⟩ := a6f hx
 obtain ⟨x1, x2⟩ := x
 simp only at h1 h2
 rw [h2]
 exact b2L (hl x1 h1)
theorem a6w (n : Nat) : ∀ (l : List Am) (h : List Int), (∀ a ∈ l, Q7 a = 0) -> (w9 (a1s n) h (l.zip (l.map X7))).1 = 0
 | [], _, _ => rfl
 | a :: l, h, ha => by
  have e : a1s n h (a, X7 a) = (0, a5Z h (-1)) := by
   unfold a1s
   simp only
   rw [b5z (ha a (by simp)) n, if_neg (by decide), if_neg (by simp [X7])]
   rfl
  simp only [b9Z, List.zip_cons_cons, w9, e]
  exact a6w n l _ fun x hx => ha x (by simp [hx])
theorem b0E {w : Wk} (h : a0p w = 0) (ha : ∀ a ∈ w.arms, Q7 a = 0) (hs : ∀ s ∈ w.slots, okF s.frame = true) : a4X w (J7 w) = 0 := by
 unfold a4X
 have l1 : (J7 w).arms.length = w.arms.length := by simp [J7]
 have l2 : (J7 w).parts.length = w.parts.length := by simp [J7]
 have l3 : (J7 w).gates.length = w.gates.length := by simp [J7]
 have l4 : (J7 w).people = [] := rfl
 have l5 : (J7 w).tick = 0 := rfl
 have hh : (w9 (a1s w.parts.length) [] (w.arms.zip (J7 w).arms)).1 = 0 := a6w _ w.arms [] ha
 have hp : (J7 w).parts.all a0L = true := by
  rw [List.all_eq_true]
  intro f hf
  obtain ⟨i, _, rfl⟩ := List.mem_map.1 hf
  unfold a5d
  split
  ·exact (a6e (hs _ (b9S _))).2
  ·unfold a2t a0L K9 a3k
   simp [Nm.a2C]
 rw [h, if_neg (by decide), l4, if_neg (by decide), l1, l2, l3, l5, if_neg (by simp), hh, if_neg (by decide), hp]
 rfl
theorem a2N : Rb 1048576 (Nm.ofQ 0) := ⟨b9L (Nm.J8 (k := 8) (by decide)) (by decide), b9L (Nm.J8 (k := 8) (by decide)) (by decide)⟩
theorem b6o {k : Nat} (hk : 1048576 <= k) {w : Wk} (hw : Wb k w) (ha : ∀ a ∈ w.arms, Q7 a = 0) (hs : ∀ s ∈ w.slots, okF s.frame = true) : Stb k (J7 w) := by
 refine ⟨⟨?_, fun x hx => ?_⟩, ⟨?_, fun x hx => ?_⟩, ⟨b9M _, fun v hv => by cases hv⟩, ?_⟩
 ·show (w.arms.map X7).length <= _
  rw [b9K]; exact hw.arms.1
 ·obtain ⟨a, haa, rfl⟩ := List.mem_map.1 hx
  have hab := hw.arms.2 a haa
  refine ⟨⟨?_, fun r hr => ?_⟩, ?_, fun r hr => ?_⟩
  ·show (a.links.map a0D).length <= _
   rw [b9K]; exact hab.2.2.1
  ·obtain ⟨l, hl, rfl⟩ := List.mem_map.1 hr
   have hlb := hab.2.2.2 l hl
   unfold a0D a7a a1K
   repeat' split
   all_goals first | exact hlb.2.1.fit (by omega) | exact hlb.2.2.1.fit (by omega) | exact a2N.mono hk
  ·show (a.links.map fun _ => Nm.ofQ 0).length <= _
   rw [b9K]; exact hab.2.2.1
  ·obtain ⟨l, hl, rfl⟩ := List.mem_map.1 hr
   exact a2N.mono hk
 ·show ((List.range _).map _).length <= _
  simp; exact hw.parts.1
 ·obtain ⟨i, _, rfl⟩ := List.mem_map.1 hx
  unfold a5d
  split
  ·exact (a6e (hs _ (b9S _))).1.mono hk
  ·exact ⟨a2N.mono hk, a2N.mono hk, a2N.mono hk⟩
 ·show (List.replicate _ _).length <= _
  rw [List.length_replicate]; exact hw.gates.1
theorem a9K {w : Wk} (hw : Wb 1073741824 w) (ha : ∀ a ∈ w.arms, Q7 a = 0) (hs : ∀ s ∈ w.slots, okF s.frame = true) : Stb 1073741824 (J7 w) := b6o (by decide) hw ha hs
theorem a6p (l : List Int) : (∀ a ∈ (F6 l).arms, Q7 a = 0) /\ ∀ s ∈ (F6 l).slots, okF s.frame = true := by
 obtain ⟨c1, c2, c3, c4, c5⟩ := counts l
 refine ⟨a4A (nA l) 0 (l.drop 1) (by omega), fun s hs => ?_⟩
 have h := (a3m (nS l) 0 ((l3 l).drop 1)).1 s hs
 simp only [b9N] at h
 exact h.1.1.1
structure b9H (w : Wk) (s : Stt) : Prop where
 works : a0p w = 0
 people : s.people.length <= 4
 tick : 0 <= s.tick /\ s.tick <= 2000
 arms : s.arms.length = w.arms.length
 parts : s.parts.length = w.parts.length
 gates : s.gates.length = w.gates.length
 one : ∀ z ∈ w.arms.zip s.arms, a3B z.1 z.2 w.parts.length = 0
 big : 1 <= w.arms.length /\ w.arms.length <= 4 /\ w.parts.length <= 6 /\ w.gates.length <= 4
structure b9G (a : Am) (x : Ast) (n : Nat) : Prop where
 arm : Q7 a = 0
 q : x.q.length = a.links.length
 v : x.v.length = a.links.length
 holds : -1 <= x.holds /\ x.holds < n
set_option maxHeartbeats 8000000
theorem b3d (q : Rat) : Nm.ofQ (a3b q) = ⟨false, Nm.enc q.num.natAbs, Nm.enc q.den⟩ := by
 unfold a3b
 by_cases h : q.num < 0
 ·rw [if_pos h, a7X]
  simp [h]
 ·rw [if_neg h]
  unfold Nm.ofQ
  rw [decide_eq_false h]
theorem b9e (a : Nm.Rt) (ha : Rb 17179869184 a) : FZ 61 [rc a] (rq (a3b (Nm.j4 a))) := by
 unfold rq
 rw [b3d]
 exact b8y a ha
theorem b8M {k : Nat} {p : Rat} (h : Rb k (Nm.ofQ p)) : Rb k (Nm.ofQ (a3b p)) := by rw [b3d]; exact h
theorem b5U (a : Nm.Rt) (ha : Rb 68719476736 a) : FZ 99 [rc a] (.v (.bool (!K9 a))) := by
 refine kW Tryz.func99 (by cbv) (by rfl) fun w O hw => ?_
 have h := a2j a ha
 unfold K9
 generalize decide a.G5 = q at *
 simp only [l9]
 simp only [rc, sb] at *
 (repeat first | refine uA ?_ | (refine uK ?_ ?_; focus first | omega | (intros; simp_all <;> omega)) | simp (disch := omega) only [go_sem, Nat.reduceBEq, Nat.reduceAdd, ww] | (refine uD h ?_ ?_ ?_; exact tz hw; exact rfl))
 exact S.done (d9.out rfl (Imp.refl rfl) rfl)
theorem a6j (l : List Nm.Rt) (hl : Rbs 68719476736 l) : FZ 49 [rts l] (.v (.bool (l.all K9))) := by
 refine kW Tryz.func49 (by cbv) (by rfl) fun w O hw => ?_
 have h := b5Q 99 (by kernel_rfl) (fun a => !K9 a) l (by have := hl.1; omega) (fun a ha => b5U a (hl.2 a ha))
 have e : l.all K9 = !l.any fun a => !K9 a := by rw [List.not_any_eq_all_not]; simp
 rw [e]
 generalize (l.any fun a => !K9 a) = q at *
 simp only [l9]
 simp only [rts] at *
 (repeat first | refine uA ?_ | (refine uK ?_ ?_; focus first | omega | (intros; simp_all <;> omega)) | simp (disch := omega) only [go_sem, Nat.reduceBEq, Nat.reduceAdd, ww] | (refine uD h ?_ ?_ ?_; exact tz hw; exact rfl))
 exact S.done (d9.out rfl (Imp.refl rfl) rfl)
theorem b6P (f : Fr) (hf : Fb 17179869184 f) : FZ 46 [f.c] (.v (.bool (a0L f))) := by
 refine kW Tryz.func46 (by cbv) (by rfl) fun w O hw => ?_
 obtain ⟨x, y, half, t⟩ := f
 obtain ⟨b1, b2, b3⟩ := hf
 simp only at b1 b2 b3
 have h1 := a6j _ (Rbs.three (by decide) (b1.mono (m := 68719476736) (by decide)) (b2.mono (m := 68719476736) (by decide)) (b3.mono (m := 68719476736) (by decide)))
 rw [a9s] at h1
 have h4 := a0A t b3
 unfold a0L a3k
 simp only
 generalize (K9 x && K9 y && K9 t) = q1 at *
 generalize I8 (Nm.j4 t) = n at *
 simp only [l9]
 simp only [Fr.c, Fr.enc, rts, rcs, rc, sb, ints, b9Z, c0x] at *
 (repeat first | refine uA ?_ | (refine uK ?_ ?_; focus first | omega | (intros; simp_all <;> omega)) | simp (disch := omega) only [go_sem, Nat.reduceBEq, Nat.reduceAdd, ww] | (refine uD h4 ?_ ?_ ?_; exact tz hw; exact rfl) | (refine uE h1 ?_ ?_ ?_ ?_; exact tz hw; exact rfl; focus (repeat' first | exact l8.nil | exact Imp.refl rfl | exact Imp.frz rfl rfl rfl | (refine Imp.Y5 rfl rfl ?_ ?_; (focus ((try simp only [b9X]); omega)); (focus first | rfl | assumption)) | refine l8.cons ?_ ?_); done))
 have e : (q1 && !(half && !decide (n = 0))) = (q1 && (!half || decide (n = 0))) := by cases q1 <;> cases half <;> simp
 rw [e]
 exact S.done (d9.out rfl (Imp.refl (by rfl)) rfl)
theorem b7h (f : Fr) (hf : Fb 17179869184 f) : FZ 45 [f.c] (.v (.bool (!a0L f))) := by
 refine kW Tryz.func45 (by cbv) (by rfl) fun w O hw => ?_
 have h := b6P f hf
 generalize a0L f = q at *
 simp only [l9]
 simp only [Fr.c, Fr.enc, sb] at *
 (repeat first | refine uA ?_ | (refine uK ?_ ?_; focus first | omega | (intros; simp_all <;> omega)) | simp (disch := omega) only [go_sem, Nat.reduceBEq, Nat.reduceAdd, ww] | (refine uD h ?_ ?_ ?_; exact tz hw; exact rfl))
 exact S.done (d9.out rfl (Imp.refl rfl) rfl)
theorem b7U (v : Vt) (hv : Vb 68719476736 v) : FZ 48 [v.c] (.v (.bool (!a5V v))) := by
 refine kW Tryz.func48 (by cbv) (by rfl) fun w O hw => ?_
 have h := a6j _ (Rbs.two (by decide) hv.1 hv.2)
 rw [a8n] at h
 unfold a5V
 generalize (K9 v.x && K9 v.y) = q at *
 simp only [l9]
 simp only [Vt.c, Vt.enc, rts, rcs, sb, b9Z, c0x] at *
 (repeat first | refine uA ?_ | (refine uK ?_ ?_; focus first | omega | (intros; simp_all <;> omega)) | simp (disch := omega) only [go_sem, Nat.reduceBEq, Nat.reduceAdd, ww] | (refine uE h ?_ ?_ ?_ ?_; exact tz hw; exact rfl; focus (repeat' first | exact l8.nil | exact Imp.refl rfl | exact Imp.frz rfl rfl rfl | (refine Imp.Y5 rfl rfl ?_ ?_; (focus ((try simp only [b9X]); omega)); (focus first | rfl | assumption)) | refine l8.cons ?_ ?_); done))
 exact S.done (d9.out rfl (Imp.refl rfl) rfl)
theorem b4O {a : Am} {q : List Nm.Rt} (h : a2A a q = 0) : q.length = a.links.length := by
 unfold a2A at h
 split at h
 ·rename_i h1; exact absurd h h1
 ·split at h
  ·cases h
  ·rename_i h2; exact Classical.not_not.1 h2
theorem b9i (a : Am) (x : Ast) (parts : Nat) (ha : Ab 1073741824 a) (hx : Asb 1073741824 x) (hp : parts <= 1073741824) : FZ 43 [a.c, x.c, .v (.int .i64 (parts : Int))] (ints (a3B a x parts)) := by
 refine kW b0Y b1m (by rfl) fun w O hw => ?_
 have h1 := a6j x.q ⟨by have := hx.1.1; omega, fun r hr => (hx.1.2 r hr).mono (by decide)⟩
 have h2 := a6j x.v ⟨by have := hx.2.1; omega, fun r hr => (hx.2.2 r hr).mono (by decide)⟩
 have h3 := b8o a x.q ha hx.1
 have hln := b4O (a := a) (q := x.q)
 unfold a3B
 generalize a2A a x.q = e at *
 obtain ⟨q, v, power, holds⟩ := x
 simp only at h1 h2 h3 hln ⊢
 generalize q.all K9 = g1 at *
 generalize v.all K9 = g2 at *
 obtain ⟨hvn, hvb⟩ := hx.2
 obtain ⟨name, ⟨bx, by', half, t⟩, links⟩ := a
 obtain ⟨b0, ⟨b1, b2, b3⟩, hn, hb⟩ := ha
 simp only at b0 b1 b2 b3 hn hb hln hvn hvb ⊢
 simp only [a5B, l9, TT, II, OA, OB, OC, MM, LL, VV, FF, MG, LG, VG, FG]
 simp only [Am.c, Am.enc, Ast.c, Ast.enc, lks, rts, sb, ints] at *
 (repeat first | refine uA ?_ | (refine uK ?_ ?_; focus first | omega | (intros; simp_all <;> omega)) | simp (disch := omega) only [go_sem, Nat.reduceBEq, Nat.reduceAdd, ww] | (refine uD h1 ?_ ?_ ?_; exact tz hw; exact rfl) | (refine uD h2 ?_ ?_ ?_; exact tz hw; exact rfl))
 refine S.cond rfl (fun hc => ?_) (fun hc => ?_)
 ·rw [if_pos (by cases g1 <;> cases g2 <;> simp_all)]
  (repeat first | refine uA ?_ | (refine uK ?_ ?_; focus first | omega | (intros; simp_all <;> omega)) | simp (disch := omega) only [go_sem, Nat.reduceBEq, Nat.reduceAdd, ww])
  exact S.done (d9.out rfl (Imp.refl rfl) rfl)
 rw [if_neg (by cases g1 <;> cases g2 <;> simp_all)]
 (repeat first | refine uA ?_ | (refine uK ?_ ?_; focus first | omega | (intros; simp_all <;> omega)) | simp (disch := omega) only [go_sem, Nat.reduceBEq, Nat.reduceAdd, ww] | (refine uD h3 ?_ ?_ ?_; exact tz hw; exact rfl))
 refine S.cond rfl (fun hc => ?_) (fun hc => ?_)
 ·rw [if_pos (by simpa using hc)]
  (repeat first | refine uA ?_ | (refine uK ?_ ?_; focus first | omega | (intros; simp_all <;> omega)) | simp (disch := omega) only [go_sem, Nat.reduceBEq, Nat.reduceAdd, ww])
  exact S.done (d9.out rfl (Imp.refl rfl) rfl)
 rw [if_neg (by simpa using hc)]
 have hln := hln (by simpa using hc)
 (repeat first | refine uA ?_ | (refine uK ?_ ?_; focus first | omega | (intros; simp_all <;> omega)) | simp (disch := omega) only [go_sem, Nat.reduceBEq, Nat.reduceAdd, ww, b9K])
 refine S.cond rfl (fun hc => ?_) (fun hc => ?_)
 ·rw [if_pos (by simp only [c0A, Bool.not_eq_true', b9U, c0c] at hc; omega)]
  (repeat first | refine uA ?_ | (refine uK ?_ ?_; focus first | omega | (intros; simp_all <;> omega)) | simp (disch := omega) only [go_sem, Nat.reduceBEq, Nat.reduceAdd, ww])
  exact S.done (d9.out rfl (Imp.refl rfl) rfl)
 rw [if_neg (by simp only [c0u, Bool.not_eq_false', b9U, c0c] at hc; omega)]
 have hvl : v.length = links.length := by simp only [c0u, Bool.not_eq_false', b9U, c0c] at hc; omega
 (repeat first | refine uA ?_ | (refine uK ?_ ?_; focus first | omega | (intros; simp_all <;> omega)) | simp (disch := omega) only [go_sem, Nat.reduceBEq, Nat.reduceAdd, ww, b9K])
 refine S.loop (X := Nat) (fun i => ⟨[(4, .bp 1 0), (46, lks links), (47, ints links.length), (48, ints i)], [.gone, .box 61 [rts q, rts v, .v (.bool power), ints holds]]⟩) (fun i => i <= links.length /\ F5 a0J (links.zip v) = F5 a0J ((links.zip v).drop i)) (fun i => links.length - i) 0 ⟨b9M _, rfl⟩ (by (repeat first | refine uA ?_ | (refine ⟨?_, ?_⟩; focus first | rfl | simp [slot]) | rfl | simp)) ?_
 rintro i ⟨hi, hg⟩
 simp only [lks, ints, rts]
 (repeat first | refine uA ?_ | (refine uK ?_ ?_; focus first | omega | (intros; simp_all <;> omega)) | simp (disch := omega) only [go_sem, Nat.reduceBEq, Nat.reduceAdd, ww])
 (refine uJ rfl (fun hc => ?_) fun hc => ?_)
 ·have hi' : i < links.length := by omega
  have hgi := b9I hi'
  have hgv := b9I (show i < v.length by omega)
  generalize links[i] = l at hgi
  generalize v[i]'_ = r at hgv
  have hz := a8H hgi hgv
  have hst := a0I (f := a0J) hz
  have hnx := a0E (f := a0J) hz
  have bl := hb l (b9W hgi)
  have br := (hvb r (b9W hgv)).mono (m := 17179869184) (by decide)
  have o1 := b9e r br
  have o2 := a2h (Nm.ofQ (a3b (Nm.j4 r))) l.speed (b8M (br.fit (by decide))) (bl.2.2.2.1.mono (by decide))
  rw [Nm.X8] at o2
  unfold a0J at hst hnx
  simp only at hst hnx
  generalize Nm.G8 (a3b (Nm.j4 r)) (Nm.j4 l.speed) = n1 at *
  unfold rq at o1
  generalize Nm.ofQ (a3b (Nm.j4 r)) = ar at *
  have hvi : (i : Int) < v.length := by omega
  simp only [rc, sb, ints] at o1 o2
  (repeat first | refine uA ?_ | (refine uK ?_ ?_; focus first | omega | (intros; simp_all <;> omega)) | simp (disch := omega) only [go_sem, Nat.reduceBEq, Nat.reduceAdd, ww, hgi, hgv, b9J, b9K, Lk.enc, rcs, vts, sb, b9R] | (refine uD o1 ?_ ?_ ?_; exact tz hw; exact rfl) | (refine uD o2 ?_ ?_ ?_; exact tz hw; exact rfl))
  refine S.cond rfl (fun hc2 => ?_) (fun hc2 => ?_)
  ·have hp : 0 < n1 := by simpa using hc2
   rw [if_pos hp] at hst
   rw [hg, show a0J = fun x : Lk × Nm.Rt => if 0 < Nm.G8 (a3b (Nm.j4 x.2)) (Nm.j4 x.1.speed) then 1 else 0 from rfl, hst (by decide)]
   (repeat first | refine uA ?_ | (refine uK ?_ ?_; focus first | omega | (intros; simp_all <;> omega)) | simp (disch := omega) only [go_sem, Nat.reduceBEq, Nat.reduceAdd, ww])
   exact S.done (d9.out rfl (Imp.refl rfl) rfl)
  ·have hp : ¬ 0 < n1 := by simpa using hc2
   rw [if_neg hp] at hnx
   (repeat first | refine uA ?_ | (refine uK ?_ ?_; focus first | omega | (intros; simp_all <;> omega)) | simp (disch := omega) only [go_sem, Nat.reduceBEq, Nat.reduceAdd, ww])
   refine S.next (i + 1) ⟨by omega, ?_⟩ (by omega) (by (repeat first | refine uA ?_ | (refine ⟨?_, ?_⟩; focus first | rfl | simp [slot]) | rfl | simp))
   rw [hg, show a0J = fun x : Lk × Nm.Rt => if 0 < Nm.G8 (a3b (Nm.j4 x.2)) (Nm.j4 x.1.speed) then 1 else 0 from rfl, hnx rfl]
 ·rw [hg, a1t (by rw [List.length_zip]; omega)]
  (repeat first | refine uA ?_ | (refine uK ?_ ?_; focus first | omega | (intros; simp_all <;> omega)) | simp (disch := omega) only [go_sem, Nat.reduceBEq, Nat.reduceAdd, ww])
  exact S.done (d9.out rfl (Imp.refl rfl) rfl)
set_option maxHeartbeats 16000000
theorem b9j (h : List Int) (n : Int) : (a0e (.int .i64 n) (hdE h)).getD (.bool false) = .bool (h.contains n) := by
 rw [b7T]; cases h.contains n <;> rfl
theorem b3i {α : Type} (p : α -> Bool) (l : List α) : l.all p = !l.any fun x => !p x := by rw [List.not_any_eq_all_not]; simp
theorem b1j (w : Wk) (s : Stt) (hb : Wb 1073741824 w) (hs : Stb 1073741824 s) : FZ 9 [w.c, s.c] (ints (a4X w s)) := by
 refine kW a8h a8k (by rfl) fun w' O hw => ?_
 have hwk := a4k w hb
 obtain ⟨⟨n1, b1⟩, ⟨n2, b2⟩, ⟨n3, b3⟩, n4⟩ := hs
 have hone := fun (a : Am) (x : Ast) (ha : a ∈ w.arms) (hx : x ∈ s.arms) => b9i a x w.parts.length (hb.arms.2 a ha) (b1 x hx) (by have := hb.parts.1; omega)
 have hfr := b3T 45 (by kernel_rfl) (fun f => !a0L f) s.parts (by omega) (fun f hf => b7h f ⟨(b2 f hf).1.mono (by decide), (b2 f hf).2.1.mono (by decide), (b2 f hf).2.2.mono (by decide)⟩)
 have hvc := b1q 48 (by kernel_rfl) (fun v => !a5V v) s.people (by omega) (fun v hv => b7U v ((b3 v hv).mono (by decide)))
 have m1 := hb.arms.1
 have m2 := hb.parts.1
 have m3 := hb.gates.1
 unfold a4X
 rw [b3i a0L, b3i a5V]
 generalize a0p w = e0 at *
 generalize (s.parts.any fun f => !a0L f) = g1 at *
 generalize (s.people.any fun v => !a5V v) = g2 at *
 obtain ⟨arms, walls, parts, slots, gates, walk⟩ := w
 obtain ⟨tick, sarms, sparts, people, sgates⟩ := s
 simp only at *
 simp only [a4b, l9, TT, II, OA, OB, OC, MM, LL, VV, FF, MG, LG, VG, FG]
 simp only [Wk.c, Wk.enc, Stt.c, Stt.enc, ams, wls, pts, sls, gts, a3I, frs, vts, bls, sb, ints] at hwk hfr hvc ⊢
 (repeat first | refine uA ?_ | (refine uK ?_ ?_; focus first | omega | (intros; simp_all <;> omega)) | simp (disch := omega) only [go_sem, Nat.reduceBEq, Nat.reduceAdd, ww] | (refine uD hwk ?_ ?_ ?_; exact tz hw; exact rfl))
 refine S.cond rfl (fun hc => ?_) (fun hc => ?_)
 ·rw [if_pos (by simpa using hc)]
  (repeat first | refine uA ?_ | (refine uK ?_ ?_; focus first | omega | (intros; simp_all <;> omega)) | simp (disch := omega) only [go_sem, Nat.reduceBEq, Nat.reduceAdd, ww])
  exact S.done (d9.out rfl (Imp.refl rfl) rfl)
 rw [if_neg (by simpa using hc)]
 (repeat first | refine uA ?_ | (refine uK ?_ ?_; focus first | omega | (intros; simp_all <;> omega)) | simp (disch := omega) only [go_sem, Nat.reduceBEq, Nat.reduceAdd, ww, b9K])
 refine S.cond rfl (fun hc => ?_) (fun hc => ?_)
 ·rw [if_pos (by simp only [b9U] at hc; omega)]
  (repeat first | refine uA ?_ | (refine uK ?_ ?_; focus first | omega | (intros; simp_all <;> omega)) | simp (disch := omega) only [go_sem, Nat.reduceBEq, Nat.reduceAdd, ww])
  exact S.done (d9.out rfl (Imp.refl rfl) rfl)
 rw [if_neg (by simp only [c0c] at hc; omega)]
 (repeat first | refine uA ?_ | (refine uK ?_ ?_; focus first | omega | (intros; simp_all <;> omega)) | simp (disch := omega) only [go_sem, Nat.reduceBEq, Nat.reduceAdd, ww, b9K])
 refine S.cond rfl (fun hc => ?_) (fun hc => ?_)
 ·rw [if_pos (by simp only [c0A, Bool.not_eq_true', b9U, c0c] at hc; omega)]
  (repeat first | refine uA ?_ | (refine uK ?_ ?_; focus first | omega | (intros; simp_all <;> omega)) | simp (disch := omega) only [go_sem, Nat.reduceBEq, Nat.reduceAdd, ww])
  exact S.done (d9.out rfl (Imp.refl rfl) rfl)
 have hls : sarms.length = arms.length := by simp only [c0u, Bool.not_eq_false', b9U, c0c] at hc; omega
 rw [if_neg (by simp only [c0u, Bool.not_eq_false', b9U, c0c] at hc; omega)]
 (repeat first | refine uA ?_ | (refine uK ?_ ?_; focus first | omega | (intros; simp_all <;> omega)) | simp (disch := omega) only [go_sem, Nat.reduceBEq, Nat.reduceAdd, ww, b9K])
 refine S.loop (X := Nat × List Int) (fun x => ⟨[(2, .bp 0 0), (3, .bp 1 0), (6, .mp 2), (56, a3I sarms), (57, ints sarms.length), (58, ints x.1)], [.box 31 [ams arms, wls walls, pts parts, sls slots, gts gates, .v (.bool walk.neg), sb walk.num, sb walk.den], .box 37 [ints tick, a3I sarms, frs sparts, vts people, bls sgates], .map false (hdE x.2)]⟩)
  (fun x => x.1 <= sarms.length /\ w9 (a1s parts.length) [] (arms.zip sarms) = w9 (a1s parts.length) x.2 ((arms.zip sarms).drop x.1)) (fun x => sarms.length - x.1) (0, []) ⟨b9M _, rfl⟩ (by (repeat first | refine uA ?_ | (refine ⟨?_, ?_⟩; focus first | rfl | simp [slot]) | rfl | simp)) ?_
 rintro ⟨i, h⟩ ⟨hi, hg⟩
 simp only [ams, wls, pts, sls, gts, a3I, frs, vts, bls, sb, ints] at hi hg ⊢
 (repeat first | refine uA ?_ | (refine uK ?_ ?_; focus first | omega | (intros; simp_all <;> omega)) | simp (disch := omega) only [go_sem, Nat.reduceBEq, Nat.reduceAdd, ww])
 (refine uJ rfl (fun hc => ?_) fun hc => ?_)
 ·have hgx := b9I (show i < sarms.length by omega)
  have hga := b9I (show i < arms.length by omega)
  generalize sarms[i]'_ = x at hgx
  generalize arms[i]'_ = a at hga
  have hz := a8H hga hgx
  have hst := a1v (f := a1s parts.length) (s := h) hz
  have hnx := a1y (f := a1s parts.length) (s := h) hz
  have ho := hone a x (b9W hga) (b9W hgx)
  have hlk := b9j h x.holds
  have hpt := b8K h x.holds
  have hai : (i : Int) < arms.length := by omega
  have hv : a1s parts.length h (a, x) = if a3B a x parts.length ≠ 0 then (a3B a x parts.length, h) else if (decide (0 <= x.holds) && h.contains x.holds) = true then (10, h) else (0, a5Z h x.holds) := rfl
  rw [hv] at hst hnx
  clear hv
  generalize a3B a x parts.length = e1 at *
  generalize h.contains x.holds = c1 at *
  simp only [Am.c, Am.enc, Ast.c, Ast.enc, lks, rts, sb, ints] at ho
  (repeat first | refine uA ?_ | (refine uK ?_ ?_; focus first | omega | (intros; simp_all <;> omega)) | simp (disch := omega) only [go_sem, Nat.reduceBEq, Nat.reduceAdd, ww, hga, hgx, b9J, b9K, Am.enc, Ast.enc, lks, rts, sb, ints, b9R] | (refine uD ho ?_ ?_ ?_; exact tz hw; exact rfl))
  refine S.cond rfl (fun hc2 => ?_) (fun hc2 => ?_)
  ·have h0 : e1 ≠ 0 := by simpa using hc2
   rw [if_pos h0] at hst
   rw [hg, hst h0, if_pos h0]
   (repeat first | refine uA ?_ | (refine uK ?_ ?_; focus first | omega | (intros; simp_all <;> omega)) | simp (disch := omega) only [go_sem, Nat.reduceBEq, Nat.reduceAdd, ww])
   exact S.done (d9.out rfl (Imp.refl rfl) rfl)
  have h0 : e1 = 0 := by simpa using hc2
  rw [if_neg (by simp [h0])] at hst hnx
  (repeat first | refine uA ?_ | (refine uK ?_ ?_; focus first | omega | (intros; simp_all <;> omega)) | simp (disch := omega) only [go_sem, Nat.reduceBEq, Nat.reduceAdd, ww, hlk])
  refine S.cond rfl (fun hc3 => ?_) (fun hc3 => ?_)
  ·rw [if_pos hc3] at hst
   rw [hg, hst (by simp), if_pos (by simp)]
   (repeat first | refine uA ?_ | (refine uK ?_ ?_; focus first | omega | (intros; simp_all <;> omega)) | simp (disch := omega) only [go_sem, Nat.reduceBEq, Nat.reduceAdd, ww])
   exact S.done (d9.out rfl (Imp.refl rfl) rfl)
  ·rw [if_neg (by rw [hc3]; decide)] at hnx
   (repeat first | refine uA ?_ | (refine uK ?_ ?_; focus first | omega | (intros; simp_all <;> omega)) | simp (disch := omega) only [go_sem, Nat.reduceBEq, Nat.reduceAdd, ww, hpt])
   refine S.next (x := (i, h)) (i + 1, a5Z h x.holds) ⟨by simp only; omega, by simp only; rw [hg, hnx rfl]⟩ (by simp only; omega) (by (repeat first | refine uA ?_ | (refine ⟨?_, ?_⟩; focus first | rfl | simp [slot]) | rfl | simp))
 ·rw [hg, a2f (by rw [List.length_zip]; omega), if_neg (by simp)]
  (repeat first | refine uA ?_ | (refine uK ?_ ?_; focus first | omega | (intros; simp_all <;> omega)) | simp (disch := omega) only [go_sem, Nat.reduceBEq, Nat.reduceAdd, ww] | (refine uD hfr ?_ ?_ ?_; exact tz hw; exact rfl) | (refine uD hvc ?_ ?_ ?_; exact tz hw; exact rfl))
  refine S.cond rfl (fun hc => ?_) (fun hc => ?_)
  ·rw [if_neg (by cases g1 <;> cases g2 <;> simp_all)]
   (repeat first | refine uA ?_ | (refine uK ?_ ?_; focus first | omega | (intros; simp_all <;> omega)) | simp (disch := omega) only [go_sem, Nat.reduceBEq, Nat.reduceAdd, ww])
   exact S.done (d9.out rfl (Imp.refl rfl) rfl)
  ·rw [if_pos (by cases g1 <;> cases g2 <;> simp_all)]
   (repeat first | refine uA ?_ | (refine uK ?_ ?_; focus first | omega | (intros; simp_all <;> omega)) | simp (disch := omega) only [go_sem, Nat.reduceBEq, Nat.reduceAdd, ww])
   exact S.done (d9.out rfl (Imp.refl rfl) rfl)
theorem a8y : Rb 8 (Nm.ofQ 0) := ⟨Nm.J8 (by decide), Nm.J8 (by decide)⟩
theorem b6W : FZ 86 [.v (.int .i64 0)] (rq 0) := by
 have := b9f 0 (by decide) (by decide)
 rwa [show ((0 : Int) : Rat) = 0 from rfl] at this
theorem b7J : FZ 56 [] a2t.c := by
 refine kW Tryz.func56 (by cbv) (by rfl) fun w O hw => ?_
 have h1 := b6W
 have h2 := b9c (Nm.ofQ 0) (a8y.mono (by decide))
 rw [Nm.X8] at h2
 unfold tq rq at *
 unfold a2t
 generalize Nm.ofQ 0 = r at *
 simp only [l9]
 simp only [Fr.c, Fr.enc, rc, tc, sb] at *
 (repeat first | refine uA ?_ | (refine uK ?_ ?_; focus first | omega | (intros; simp_all <;> omega)) | simp (disch := omega) only [go_sem, Nat.reduceBEq, Nat.reduceAdd, ww] | (refine uD h1 ?_ ?_ ?_; exact tz hw; exact rfl) | (refine uD h2 ?_ ?_ ?_; exact tz hw; exact rfl))
 (refine S.done ?_; simp only [C8, r9, go_sem, Nat.reduceBEq, Nat.reduceAdd, Nat.reduceLeDiff, Int.reduceToNat, Int.reducePow]; (repeat (refine ⟨?_, ?_⟩; focus first | trivial | omega | simp)); exact d9.out rfl (Imp.refl rfl) rfl)
theorem b7I (w : Wk) (hwb : Wb 1073741824 w) (h : a0p w = 0) : FZ 24 [w.c] (.tup [(J7 w).c, ints 0]) := by
 refine kW a8l a8A (by rfl) fun w' O hw => ?_
 have hck := a4k w hwb
 rw [h] at hck
 obtain ⟨n1, b1⟩ := hwb.arms
 have n3 := hwb.parts.1
 have n4 := hwb.slots.1
 have n5 := hwb.gates.1
 have hz := b6W
 have hfz := b7J
 have hpe : ∀ i, a5d w i = if h : i < w.slots.length then (w.slots[i]).frame else a2t := fun _ => rfl
 unfold J7
 generalize hfp : a5d w = fP at *
 obtain ⟨arms, walls, parts, slots, gates, walk⟩ := w
 simp only at n1 b1 n3 n4 n5 hpe ⊢
 simp only [a3Y, l9, TT, II, OA, OB, OC, MM, LL, VV, FF, MG, LG, VG, FG]
 simp only [Wk.c, Wk.enc, Stt.c, Stt.enc, ams, wls, pts, sls, gts, a3I, frs, vts, bls, rc, sb, ints] at hck ⊢
 (repeat first | refine uA ?_ | (refine uK ?_ ?_; focus first | omega | (intros; simp_all <;> omega)) | simp (disch := omega) only [go_sem, Nat.reduceBEq, Nat.reduceAdd, ww] | (refine uD hck ?_ ?_ ?_; exact tz hw; exact rfl))
 refine S.cond rfl (fun hc => by simp at hc) (fun hc => ?_)
 (repeat first | refine uA ?_ | (refine uK ?_ ?_; focus first | omega | (intros; simp_all <;> omega)) | simp (disch := omega) only [go_sem, Nat.reduceBEq, Nat.reduceAdd, ww, b9K])
 refine S.loop (X := Nat) (fun i => ⟨[(1, .bp 0 0), (2, .bp 1 0), (5, .bp 2 0), (20, ams arms), (21, ints arms.length), (22, ints i)], [.box 31 [ams arms, wls walls, pts parts, sls slots, gts gates, .v (.bool walk.neg), sb walk.num, sb walk.den], .box 37 [.v (.int .i64 0), .v (.slice none 0 0), .v (.slice none 0 0), .v (.slice none 0 0), .v (.slice none 0 0)], .box 37 [.v (.int .i64 0), .rv 3, .rv 4, .v (.slice none 0 0), .v (.slice none 0 0)], .row 61 4 (((arms.take i).map X7).map Ast.enc), .row 48 10 []]⟩) (fun i => i <= arms.length) (fun i => arms.length - i) 0 (b9M _)
  (Ent.trans (Ent.a0h 2 1 61 4 rfl rfl rfl) (Ent.trans (Ent.a0h 2 2 48 10 rfl rfl rfl) (by (repeat first | refine uA ?_ | (refine ⟨?_, ?_⟩; focus first | rfl | simp [slot]) | rfl | simp)))) ?_
 intro i hi
 simp only [ams, wls, pts, sls, gts, vts, sb, ints]
 (repeat first | refine uA ?_ | (refine uK ?_ ?_; focus first | omega | (intros; simp_all <;> omega)) | simp (disch := omega) only [go_sem, Nat.reduceBEq, Nat.reduceAdd, ww])
 (refine uJ rfl (fun hc => ?_) fun hc => ?_)
 ·have hi' : i < arms.length := by omega
  have hgi := b9I hi'
  have hap : arms.take (i + 1) = arms.take i ++ [arms[i]] := c0B hi'
  have htl : (arms.take i).length = i := by rw [b9V]; omega
  generalize arms[i] = a at hgi hap
  obtain ⟨b0, _, nl, bl⟩ := b1 a (b9W hgi)
  (repeat first | refine uA ?_ | (refine uK ?_ ?_; focus first | omega | (intros; simp_all <;> omega)) | simp (disch := omega) only [go_sem, Nat.reduceBEq, Nat.reduceAdd, ww, hgi, b9J, b9K, Am.enc, lks, sb])
  refine S.loop (X := Nat) (fun k => ⟨[(1, .bp 0 0), (2, .bp 1 0), (5, .bp 2 0), (8, .bp 6 0), (20, ams arms), (21, ints arms.length), (22, ints i), (28, lks a.links), (29, ints a.links.length), (30, ints k)], [.box 31 [ams arms, wls walls, pts parts, sls slots, gts gates, .v (.bool walk.neg), sb walk.num, sb walk.den], .box 37 [.v (.int .i64 0), .v (.slice none 0 0), .v (.slice none 0 0), .v (.slice none 0 0), .v (.slice none 0 0)], .box 37 [.v (.int .i64 0), .rv 3, .rv 4, .v (.slice none 0 0), .v (.slice none 0 0)], .row 61 4 (((arms.take i).map X7).map Ast.enc), .row 48 10 [], .gone, .box 61 [.rv 7, .rv 8, .v (.bool false), .v (.int .i64 (-1))], .row 29 3 (((a.links.take k).map a0D).map rcs), .row 29 3 (((a.links.take k).map fun _ => Nm.ofQ 0).map rcs)]⟩) (fun k => k <= a.links.length) (fun k => a.links.length - k) 0 (b9M _)
   (Ent.trans (Ent.a0h 6 0 29 3 rfl rfl rfl) (Ent.trans (Ent.a0h 6 1 29 3 rfl rfl rfl) (by (repeat first | refine uA ?_ | (refine ⟨?_, ?_⟩; focus first | rfl | simp [slot]) | rfl | simp)))) ?_
  intro k hk
  simp only [ams, wls, pts, sls, gts, lks, vts, sb, ints]
  (repeat first | refine uA ?_ | (refine uK ?_ ?_; focus first | omega | (intros; simp_all <;> omega)) | simp (disch := omega) only [go_sem, Nat.reduceBEq, Nat.reduceAdd, ww])
  (refine uJ rfl (fun hc => ?_) fun hc => ?_)
  ·have hk' : k < a.links.length := by omega
   have hgk := b9I hk'
   have hak : a.links.take (k + 1) = a.links.take k ++ [a.links[k]] := c0B hk'
   have htk : (a.links.take k).length = k := by rw [b9V]; omega
   generalize a.links[k] = l at hgk hak
   obtain ⟨_, l2, l3, _⟩ := bl l (b9W hgk)
   have z1 := a8y
   have z2 := l3.fit (by decide)
   have o1 := b5E l.high (Nm.ofQ 0) (l3.mono (by decide)) (a8y.mono (by decide))
   rw [Nm.X8] at o1
   have z3 : Rb 1073741824 (Nm.ofQ (a1K (Nm.j4 l.high) 0)) := by unfold a1K; split; exact z2; exact z1.mono (by decide)
   have o2 := b8I l.low (Nm.ofQ (a1K (Nm.j4 l.high) 0)) (l2.mono (by decide)) (z3.mono (by decide))
   rw [Nm.X8] at o2
   have hq : a0D l = Nm.ofQ (a7a (Nm.j4 l.low) (a1K (Nm.j4 l.high) 0)) := rfl
   unfold rq at o1 o2 hz
   generalize Nm.ofQ (a7a (Nm.j4 l.low) (a1K (Nm.j4 l.high) 0)) = r2 at *
   generalize Nm.ofQ (a1K (Nm.j4 l.high) 0) = r1 at *
   generalize Nm.ofQ 0 = r0 at *
   simp only [rc, sb] at o1 o2 hz
   (repeat first | refine uA ?_ | (refine uK ?_ ?_; focus first | omega | (intros; simp_all <;> omega)) | simp (disch := omega) only [go_sem, Nat.reduceBEq, Nat.reduceAdd, ww, hgk, b9J, b9K, htk, Lk.enc, vts, sb] | (refine uD hz ?_ ?_ ?_; exact tz hw; exact rfl) | (refine uD o1 ?_ ?_ ?_; exact tz hw; exact rfl) | (refine uD o2 ?_ ?_ ?_; exact tz hw; exact rfl))
   refine S.next (k + 1) (by omega) (by omega) (by simp only [hak, hq, c0C, b9Z, c0x, rcs, sb]; exact (by (repeat first | refine uA ?_ | (refine ⟨?_, ?_⟩; focus first | rfl | simp [slot]) | rfl | simp)))
  ·have hk' : k = a.links.length := by omega
   subst hk'
   rw [c0m]
   refine S.exit rfl ?_
   refine S.weaken (st' := ⟨[(1, .bp 0 0), (2, .bp 1 0), (5, .bp 2 0), (8, .bp 6 0), (20, ams arms), (21, ints arms.length), (22, ints i)], [.box 31 [ams arms, wls walls, pts parts, sls slots, gts gates, .v (.bool walk.neg), sb walk.num, sb walk.den], .box 37 [.v (.int .i64 0), .v (.slice none 0 0), .v (.slice none 0 0), .v (.slice none 0 0), .v (.slice none 0 0)], .box 37 [.v (.int .i64 0), .rv 3, .rv 4, .v (.slice none 0 0), .v (.slice none 0 0)], .row 61 4 (((arms.take i).map X7).map Ast.enc), .row 48 10 [], .gone, .box 61 (X7 a).enc]⟩) (Ent.mk _ _ (by (repeat first | refine uA ?_ | (refine ⟨?_, ?_⟩; focus first | rfl | simp [slot]) | rfl | simp)) (by (repeat' (first | exact L9.nil | exact RI.gone _ | exact RI.row _ _ _ _ rfl | exact RI.map _ _ _ rfl | exact RI.box _ _ _ (l8.refl rfl) | (refine RI.box _ _ _ ?_; (repeat' (first | exact l8.nil | exact Imp.refl rfl | exact Imp.frz rfl rfl rfl | exact Imp.a4o | refine l8.cons ?_ ?_))) | refine L9.cons ?_ ?_))) (b9M _)) ?_
   simp only [ams, wls, pts, sls, gts, vts, sb, ints, Ast.enc, rts]
   (repeat first | refine uA ?_ | (refine uK ?_ ?_; focus first | omega | (intros; simp_all <;> omega)) | simp (disch := omega) only [go_sem, Nat.reduceBEq, Nat.reduceAdd, ww, b9K, htl])
   refine S.next (i + 1) (by omega) (by omega) (by simp only [hap, c0C, b9Z, c0x, Ast.enc, rts, ints]; exact (by (repeat first | refine uA ?_ | (refine ⟨?_, ?_⟩; focus first | rfl | simp [slot]) | rfl | simp)))
 ·have hi' : i = arms.length := by omega
  subst hi'
  rw [c0m]
  (repeat first | refine uA ?_ | (refine uK ?_ ?_; focus first | omega | (intros; simp_all <;> omega)) | simp (disch := omega) only [go_sem, Nat.reduceBEq, Nat.reduceAdd, ww, b9K])
  refine S.loop (X := Nat) (fun i => ⟨[(1, .bp 0 0), (2, .bp 1 0), (5, .bp 2 0), (62, ints parts.length), (63, ints i)], [.box 31 [ams arms, wls walls, pts parts, sls slots, gts gates, .v (.bool walk.neg), sb walk.num, sb walk.den], .box 37 [.v (.int .i64 0), .v (.slice none 0 0), .v (.slice none 0 0), .v (.slice none 0 0), .v (.slice none 0 0)], .box 37 [.v (.int .i64 0), .rv 3, .rv 4, .v (.slice none 0 0), .v (.slice none 0 0)], .row 61 4 ((arms.map X7).map Ast.enc), .row 48 10 (((List.range i).map fP).map Fr.enc)]⟩) (fun i => i <= parts.length) (fun i => parts.length - i) 0 (b9M _) (by (repeat first | refine uA ?_ | (refine ⟨?_, ?_⟩; focus first | rfl | simp [slot]) | rfl | simp)) ?_
  intro i hi
  simp only [ams, wls, pts, sls, gts, vts, sb, ints]
  (repeat first | refine uA ?_ | (refine uK ?_ ?_; focus first | omega | (intros; simp_all <;> omega)) | simp (disch := omega) only [go_sem, Nat.reduceBEq, Nat.reduceAdd, ww])
  (refine uJ rfl (fun hc => ?_) fun hc => ?_)
  ·have hrl : ((List.range i).map fP).length = i := by simp
   simp only [a2t, Fr.c, Fr.enc, sb] at hfz
   (repeat first | refine uA ?_ | (refine uK ?_ ?_; focus first | omega | (intros; simp_all <;> omega)) | simp (disch := omega) only [go_sem, Nat.reduceBEq, Nat.reduceAdd, ww] | (refine uD hfz ?_ ?_ ?_; exact tz hw; exact rfl))
   refine S.join (Y := Fr) (fun f => ⟨[(1, .bp 0 0), (2, .bp 1 0), (5, .bp 2 0), (12, .bp 5 0), (62, ints parts.length), (63, ints i)], [.box 31 [ams arms, wls walls, pts parts, sls slots, gts gates, .v (.bool walk.neg), sb walk.num, sb walk.den], .box 37 [.v (.int .i64 0), .v (.slice none 0 0), .v (.slice none 0 0), .v (.slice none 0 0), .v (.slice none 0 0)], .box 37 [.v (.int .i64 0), .rv 3, .rv 4, .v (.slice none 0 0), .v (.slice none 0 0)], .row 61 4 ((arms.map X7).map Ast.enc), .row 48 10 (((List.range i).map fP).map Fr.enc), .box 48 f.enc]⟩) (fun f => f = fP i) ?_ ?_
   ·refine S.cond rfl (fun hc => ?_) (fun hc => ?_)
    ·have hsi : i < slots.length := by simp at hc; omega
     have hgs := b9I hsi
     have hf : fP i = (slots[i]).frame := by rw [hpe i, dif_pos hsi]
     generalize slots[i] = s at hgs hf
     (repeat first | refine uA ?_ | (refine uK ?_ ?_; focus first | omega | (intros; simp_all <;> omega)) | simp (disch := omega) only [go_sem, Nat.reduceBEq, Nat.reduceAdd, ww, hgs, b9J, b9K, Sl.enc, sb, b9R])
     exact S.met s.frame hf.symm (by simp only [ams, wls, pts, sls, gts, vts, sb, ints, Fr.enc]; exact (by (repeat first | refine uA ?_ | (refine ⟨?_, ?_⟩; focus first | rfl | simp [slot]) | rfl | simp)))
    ·have hf : fP i = a2t := by rw [hpe i, dif_neg (by simp at hc; omega)]
     (repeat first | refine uA ?_ | (refine uK ?_ ?_; focus first | omega | (intros; simp_all <;> omega)) | simp (disch := omega) only [go_sem, Nat.reduceBEq, Nat.reduceAdd, ww])
     exact S.met a2t hf.symm (by simp only [ams, wls, pts, sls, gts, vts, sb, ints, Fr.enc, a2t]; exact (by (repeat first | refine uA ?_ | (refine ⟨?_, ?_⟩; focus first | rfl | simp [slot]) | rfl | simp)))
   rintro f hf
   simp only [ams, wls, pts, sls, gts, vts, sb, ints, Fr.enc]
   (repeat first | refine uA ?_ | (refine uK ?_ ?_; focus first | omega | (intros; simp_all <;> omega)) | simp (disch := omega) only [go_sem, Nat.reduceBEq, Nat.reduceAdd, ww, b9K, hrl, List.length_range])
   refine S.next (i + 1) (by omega) (by omega) (by simp only [List.range_succ, c0C, b9Z, c0x, <- hf, Fr.enc, sb]; exact (by (repeat first | refine uA ?_ | (refine ⟨?_, ?_⟩; focus first | rfl | simp [slot]) | rfl | simp)))
  ·have hi' : i = parts.length := by omega
   subst hi'
   simp only [List.map_replicate]
   (repeat first | refine uA ?_ | (refine uK ?_ ?_; focus first | omega | (intros; simp_all <;> omega)) | simp (disch := omega) only [go_sem, Nat.reduceBEq, Nat.reduceAdd, ww, b9K, b9R])
   (refine S.done ?_; simp only [C8, r9, go_sem, Nat.reduceBEq, Nat.reduceAdd, Nat.reduceLeDiff, Int.reduceToNat, Int.reducePow]; (repeat (refine ⟨?_, ?_⟩; focus first | trivial | omega | simp)); exact d9.out rfl (Imp.tup (by (repeat' (first | exact l8.nil | exact Imp.refl rfl | exact Imp.frz rfl rfl rfl | exact Imp.a4o | refine Imp.agg ?_ | refine l8.cons ?_ ?_)))) rfl)
set_option maxHeartbeats 8000000
set_option maxHeartbeats 16000000
def b8w (v : Vt) (z : Gt) : Prop := Nm.G8 (Nm.j4 v.x) (Nm.j4 z.low.x) < 0 \/ 0 < Nm.G8 (Nm.j4 v.x) (Nm.j4 z.high.x) \/ Nm.G8 (Nm.j4 v.y) (Nm.j4 z.low.y) < 0 \/ 0 < Nm.G8 (Nm.j4 v.y) (Nm.j4 z.high.y)
instance (v : Vt) (z : Gt) : Decidable (b8w v z) := by unfold b8w; infer_instance
set_option maxHeartbeats 4000000
structure Calm (w : Wk) (s : Stt) (k : Nat) : Prop where
 st : a4X w s = 0
 people : s.people = []
 holds : ∀ x ∈ s.arms, x.holds = -1
 q : ∀ x ∈ s.arms, ∀ r ∈ x.q, Rb (100 + 1000 * k) r
 v : ∀ x ∈ s.arms, ∀ r ∈ x.v, Rb (200 + 20 * k) r
 tick : s.tick = k
 parts : ∀ f ∈ s.parts, Fb 1048576 f
def b4p : Wk := ⟨[], [], [], [], [], ⟨false, [], []⟩⟩
theorem a5u {w : World} {O : Nat -> Prop} {sz : Nat} : Fz w O (.sl sz []) (.slice none 0 0) := by
 simp only [Fz]
 exact ⟨none, 0, rfl, b9T _, b9M _, fun h => absurd h (by simp)⟩
theorem b6q : FZ 8 [.agg [.v (.slice none 0 0), .v (.slice none 0 0), .v (.slice none 0 0), .v (.slice none 0 0), .v (.slice none 0 0), .v (.bool false), .v (.string ⟨#[]⟩), .v (.string ⟨#[]⟩)]] (ints 4) := by
 have h := a4k b4p ⟨⟨b9M _, fun x hx => (by cases hx)⟩, ⟨b9M _, fun x hx => (by cases hx)⟩, ⟨b9M _, fun x hx => (by cases hx)⟩, ⟨b9M _, fun x hx => (by cases hx)⟩, ⟨b9M _, fun x hx => (by cases hx)⟩, ⟨b9M _, b9M _⟩⟩
 have he : a0p b4p = 4 := rfl
 rw [he] at h
 intro O w vs hw hO hA
 refine h O w vs hw hO ?_
 simp only [FzL, Fz] at hA
 obtain ⟨y, ys, rfl, ⟨us, ⟨y1, r1, rfl, rfl, y2, r2, rfl, rfl, y3, r3, rfl, rfl, y4, r4, rfl, rfl, y5, r5, rfl, rfl, y6, r6, rfl, rfl, y7, r7, rfl, rfl, y8, r8, rfl, rfl, rfl⟩, rfl⟩, rfl⟩ := hA
 refine ⟨_, _, rfl, ?_, rfl⟩
 simp only [Wk.c, Wk.enc, b4p, Fz]
 exact ⟨_, ⟨_, _, rfl, a5u, _, _, rfl, a5u, _, _, rfl, a5u, _, _, rfl, a5u, _, _, rfl, a5u, _, _, rfl, by simp only [Fz], _, _, rfl, by simp only [sb, Fz]; rfl, _, _, rfl, by simp only [sb, Fz]; rfl, rfl⟩, rfl⟩
set_option maxRecDepth 10000
set_option maxHeartbeats 8000000
theorem b5O (x n : Int) (h : 1 <= n) : x % n = (if x.tmod n < 0 then x.tmod n + n else x.tmod n) /\ -n < x.tmod n /\ x.tmod n < n := by
 have hq : x = n * (x.tdiv n) + x.tmod n := (Int.mul_tdiv_add_tmod x n).symm
 have he : x % n = x.tmod n % n := by
  conv => lhs; rw [hq]
  exact Int.mul_add_emod_self_left ..
 have h2 := Int.tmod_lt_of_pos x (show 0 < n by omega)
 have h3 : -n < x.tmod n := by
  have := Int.tmod_lt_of_pos (-x) (show 0 < n by omega)
  rw [Int.neg_tmod] at this
  omega
 refine ⟨?_, h3, h2⟩
 rw [he]
 split
 ·rename_i hc
  have : x.tmod n % n = (x.tmod n + n) % n := by simp
  rw [this]
  exact Int.emod_eq_of_lt (by omega) (by omega)
 ·exact Int.emod_eq_of_lt (by omega) (by omega)
theorem b6h (x n : Int) (h : 1 <= n /\ n <= 4611686018427387904) : F3 Tryz.prog 130 [ints x, ints n] (ints (x % n)) := by
 refine kS Tryz.func130 (by cbv) (by rfl) fun w O => ?_
 simp only [l9, ints]
 have hn : ¬ n = 0 := by omega
 obtain ⟨he, hlt⟩ := b5O x n (by omega)
 (repeat first | refine uA ?_ | (refine uK ?_ ?_; focus first | omega | (intros; simp_all <;> omega)) | simp (disch := omega) only [go_sem, Nat.reduceBEq, Nat.reduceAdd, ww, hn])
 (refine uJ rfl (fun hc => ?_) fun hc => ?_)
 ·rw [he, if_pos hc]
  (repeat first | refine uA ?_ | (refine uK ?_ ?_; focus first | omega | (intros; simp_all <;> omega)) | simp (disch := omega) only [go_sem, Nat.reduceBEq, Nat.reduceAdd, ww])
  exact S.done (d9.out rfl (Imp.refl rfl) rfl)
 ·rw [he, if_neg hc]
  (repeat first | refine uA ?_ | (refine uK ?_ ?_; focus first | omega | (intros; simp_all <;> omega)) | simp (disch := omega) only [go_sem, Nat.reduceBEq, Nat.reduceAdd, ww])
  exact S.done (d9.out rfl (Imp.refl rfl) rfl)
def F9 (l : List Int) : C := .sl 1 (l.map fun n => [.v (.int .i64 n)])
theorem F8 {E : Ctx} (hP : E.P = Tryz.prog) (l : List Int) (n : Int) (h : 1 <= n /\ n <= 4611686018427387904) :
  j5 E [.box 145 [F9 l]] 80 [.bp 0 0, ints n] (ints (nx l n)) [.box 145 [F9 (l.drop 1)]] [] := by
 obtain ⟨P, eff', N, w0, own0, av0, nu0, pk0⟩ := E
 simp only at hP
 subst hP
 refine j5.of (eff := eff) Tryz.func80 (by cbv) (by exact c0d rfl) fun w own av ν hν => ?_
 have hν0 : ν.length <= 1 := by rw [hν]; exact b9T _
 have hn1 : decide (n < 1) = false := decide_eq_false (by omega)
 cases l with
 | nil =>
  have e : nx [] n = 0 := by unfold nx; rw [List.headD_nil, Int.zero_emod]
  rw [e]
  simp only [l9, F9, ints, List.drop_nil, c0x]
  (repeat first | refine uA ?_ | (refine uK ?_ ?_; focus first | omega | (intros; simp_all <;> omega)) | simp (disch := omega) only [go_sem, Nat.reduceBEq, Nat.reduceAdd, ww, hn1, List.length_nil])
  refine S.cond rfl (fun hc => ?_) (fun hc => by simp at hc)
  (repeat first | refine uA ?_ | (refine uK ?_ ?_; focus first | omega | (intros; simp_all <;> omega)) | simp (disch := omega) only [go_sem, Nat.reduceBEq, Nat.reduceAdd, ww])
  (refine S.done ?_; simp only [C8, r9, go_sem, Nat.reduceBEq, Nat.reduceAdd, Nat.reduceLeDiff, Int.reduceToNat, Int.reducePow]; (repeat (refine ⟨?_, ?_⟩; focus first | trivial | omega | simp)); exact d9.M6 (Imp.refl rfl) (by (repeat first | refine uA ?_ | (refine ⟨?_, ?_⟩; focus first | rfl | simp [slot]) | rfl | simp)) (b9L hν0 (by simp)))
 | cons x r =>
  have e : nx (x :: r) n = x % n := by unfold nx; rw [List.headD_cons]
  rw [e]
  have hb := b6h x n h
  have h0 : decide (((r.length : Int) + 1) = 0) = false := decide_eq_false (by omega)
  simp only [l9, F9, ints, b9Z, List.drop_succ_cons, List.drop_zero] at *
  (repeat first | refine uA ?_ | (refine uK ?_ ?_; focus first | omega | (intros; simp_all <;> omega)) | simp (disch := omega) only [go_sem, Nat.reduceBEq, Nat.reduceAdd, ww, hn1, h0, c0l, b9K] | (refine uB hb ?_ ?_; exact rfl))
  refine S.cond rfl (fun hc => by simp at hc; omega) (fun hc => ?_)
  (repeat first | refine uA ?_ | (refine uK ?_ ?_; focus first | omega | (intros; simp_all <;> omega)) | simp (disch := omega) only [go_sem, Nat.reduceBEq, Nat.reduceAdd, ww, hn1, c0l, b9K, List.getElem?_cons_zero, a4I, List.take_succ_cons, List.drop_succ_cons, Nat.add_sub_cancel, c0m] | (refine uB hb ?_ ?_; exact rfl))
  (refine S.done ?_; simp only [C8, r9, go_sem, Nat.reduceBEq, Nat.reduceAdd, Nat.reduceLeDiff, Int.reduceToNat, Int.reducePow]; (repeat (refine ⟨?_, ?_⟩; focus first | trivial | omega | simp)); exact d9.M6 (Imp.refl rfl) (by (repeat first | refine uA ?_ | (refine ⟨?_, ?_⟩; focus first | rfl | simp [slot]) | rfl | simp)) (b9L hν0 (by simp)))
def a5p (l : List UInt8) (i : Nat) (out : List UInt8) : Prop :=
 out.length = l.length /\ ∀ k, k < l.length -> out[k]? = if k < i \/ l.length - i <= k then l[l.length - 1 - k]? else l[k]?
theorem b2b (l : List UInt8) : a5p l 0 l := ⟨rfl, fun k hk => by rw [if_neg (by omega)]⟩
theorem b2N {l out : List UInt8} {i : Nat} {x y : UInt8} (h : a5p l i out) (hi : i + 1 < l.length - i) (hx : out[i]? = some x) (hy : out[l.length - 1 - i]? = some y) : a5p l (i + 1) ((out.set i y).set (l.length - 1 - i) x) := by
 obtain ⟨h1, h2⟩ := h
 have e1 := h2 i (by omega)
 have e2 := h2 (l.length - 1 - i) (by omega)
 rw [if_neg (by omega), hx] at e1
 rw [if_neg (by omega), hy] at e2
 refine ⟨by simp [h1], fun k hk => ?_⟩
 by_cases k1 : k = l.length - 1 - i
 ·subst k1
  rw [List.getElem?_set_self (by simp; omega), if_pos (by omega), e1]
  congr 1
  omega
 ·rw [List.getElem?_set_ne (fun e => k1 e.symm)]
  by_cases k2 : k = i
  ·subst k2
   rw [List.getElem?_set_self (by omega), if_pos (by omega), e2]
  ·rw [List.getElem?_set_ne (fun e => k2 e.symm), h2 k hk]
   by_cases k3 : k < i \/ l.length - i <= k
   ·rw [if_pos k3, if_pos (by omega)]
   ·rw [if_neg k3, if_neg (by omega)]
theorem b3V {l out : List UInt8} {i : Nat} (h : a5p l i out) (hi : l.length - i <= i + 1) : out = l.reverse := by
 obtain ⟨h1, h2⟩ := h
 apply List.ext_getElem?
 intro k
 rcases c0j k l.length with hk | hk
 ·rw [h2 k hk, List.getElem?_reverse hk]
  by_cases k3 : k < i \/ l.length - i <= k
  ·rw [if_pos k3]
  ·rw [if_neg k3, show l.length - 1 - k = k by omega]
 ·rw [c0q (by omega), c0q (by simp; omega)]
theorem b9v {E : Ctx} (hP : E.P = Tryz.prog) (l : List UInt8) (hl : l.length <= 1099511627776) : j5 E [.row 5 1 (l.map D8)] 145 [.rv 0] (.tup []) [.row 5 1 (l.reverse.map D8)] [] := by
 obtain ⟨P, eff', N, w0, own0, av0, nu0, pk0⟩ := E
 simp only at hP
 subst hP
 refine j5.of (eff := eff) Tryz.func145 (by cbv) (by exact c0d rfl) fun w own av ν hν => ?_
 have hν0 : ν.length <= 1 := by rw [hν]; exact b9T _
 simp only [l9]
 (repeat first | refine uA ?_ | (refine uK ?_ ?_; focus first | omega | (intros; simp_all <;> omega)) | simp (disch := omega) only [go_sem, Nat.reduceBEq, Nat.reduceAdd, ww, b9K])
 refine S.loop (X := Nat × List UInt8) (fun x => ⟨[(0, .rv 0), (2, ints x.1), (3, ints ((l.length : Int) - 1 - (x.1 : Int)))], [.row 5 1 (x.2.map D8)]⟩) (fun x => x.1 <= l.length /\ a5p l x.1 x.2) (fun x => l.length - x.1) (0, l) ⟨b9M _, b2b l⟩ (by simp only [Int.natCast_zero, Int.sub_zero]; exact (by (repeat first | refine uA ?_ | (refine ⟨?_, ?_⟩; focus first | rfl | simp [slot]) | rfl | simp | exact b9L hν0 (by simp)))) ?_
 rintro ⟨i, out⟩ ⟨hi, hinv⟩
 simp only [ints] at hi hinv ⊢
 have hol := hinv.1
 (repeat first | refine uA ?_ | (refine uK ?_ ?_; focus first | omega | (intros; simp_all <;> omega)) | simp (disch := omega) only [go_sem, Nat.reduceBEq, Nat.reduceAdd, ww])
 (refine uJ rfl (fun hc => ?_) fun hc => ?_)
 ·have gi : out[i]? = some (out[i]'(by omega)) := b9I (by omega)
  have gj : out[l.length - 1 - i]? = some (out[l.length - 1 - i]'(by omega)) := b9I (by omega)
  have hst := b2N hinv (by omega) gi gj
  have hsk : l.length - 1 - i ≠ i := by omega
  generalize out[i]'_ = xi at *
  generalize out[l.length - 1 - i]'_ = xj at *
  have gj2 : (out.set i xj)[l.length - 1 - i]? = some xj := by rw [List.getElem?_set_ne (Ne.symm hsk)]; exact gj
  have n0 : ((l.length : Int) - 1 - (i : Int)).toNat = l.length - 1 - i := by omega
  have e1 : (out.map D8).set i [.v (.int .u8 ((xj.toNat : Nat) : Int))] = (out.set i xj).map D8 := a2b out i xj
  have e2 : ((out.set i xj).map D8).set (l.length - 1 - i) [.v (.int .u8 ((xi.toNat : Nat) : Int))] = ((out.set i xj).set (l.length - 1 - i) xi).map D8 := a2b _ _ _
  have hr : (l.length : Int) - 1 - ((i + 1 : Nat) : Int) = (l.length : Int) - 1 - (i : Int) - 1 := by omega
  (repeat first | refine uA ?_ | (refine uK ?_ ?_; focus first | omega | (intros; simp_all <;> omega)) | simp (disch := omega) only [go_sem, Nat.reduceBEq, Nat.reduceAdd, ww, b9K, gi, gj, gj2, n0, e1, e2, D8, b9J, b9R, c0p])
  refine S.next (x := (i, out)) (i + 1, _) ⟨by simp only; omega, hst⟩ (by simp only; omega) (by simp only [hr]; exact (by (repeat first | refine uA ?_ | (refine ⟨?_, ?_⟩; focus first | rfl | simp [slot]) | rfl | simp | exact b9L hν0 (by simp))))
 ·have := b3V hinv (by omega)
  subst this
  (repeat first | refine uA ?_ | (refine uK ?_ ?_; focus first | omega | (intros; simp_all <;> omega)) | simp (disch := omega) only [go_sem, Nat.reduceBEq, Nat.reduceAdd, ww])
  exact S.end_ (d9.own rfl)
theorem b1A (n : Nat) (hn : n < 4611686018427387904) : F3 Tryz.prog 131 [.v (.int .i64 (n : Int))] (sb (Nm.enc n)) := by
  refine kS Tryz.func131 (by cbv) (by rfl) fun w O => ?_
  have h8 : (Nm.enc n).length <= 8 := Nm.J8 (by omega)
  simp only [l9, sb]
  (repeat first | refine uA ?_ | (refine uK ?_ ?_; focus first | omega | (intros; simp_all <;> omega)) | simp (disch := omega) only [go_sem, Nat.reduceBEq, Nat.reduceAdd, ww])
  refine S.loop (X := Nat × List UInt8) (fun x => ⟨[(0, ints x.1), (3, .rv 0)], [.row 5 1 (x.2.map D8)]⟩) (fun x => x.1 <= n /\ Nm.enc x.1 ++ x.2.reverse = Nm.enc n) (fun x => x.1) (n, []) ⟨b9T _, by simp⟩ (Ent.trans (Ent.pack 3 5 1 rfl) (by (repeat first | refine uA ?_ | (refine ⟨?_, ?_⟩; focus first | rfl | simp [slot]) | rfl | simp))) ?_
  rintro ⟨m, out⟩ ⟨hm, hinv⟩
  simp only [ints] at hm hinv ⊢
  have hol : out.length <= 8 := by
    have := congrArg List.length hinv
    simp only [b9X, List.length_reverse] at this
    omega
  (repeat first | refine uA ?_ | (refine uK ?_ ?_; focus first | omega | (intros; simp_all <;> omega)) | simp (disch := omega) only [go_sem, Nat.reduceBEq, Nat.reduceAdd, ww])
  (refine uJ rfl (fun hc => ?_) fun hc => ?_)
  · have he : Nm.enc m = Nm.enc (m / 256) ++ [UInt8.ofNat (m % 256)] := by
      conv => lhs; unfold Nm.enc
      rw [if_neg (by omega)]
    have hb : (UInt8.ofNat (m % 256)).toNat = m % 256 := by simp
    have h1 : IntKind.u8.wrap (Int.tmod (m : Int) 256) = (((UInt8.ofNat (m % 256)).toNat : Nat) : Int) := by
      rw [hb, show Int.tmod (m : Int) 256 = ((m % 256 : Nat) : Int) from rfl, a0H]
      omega
    have h2 : Int.tdiv (m : Int) 256 = ((m / 256 : Nat) : Int) := rfl
    have hap : Nm.enc (m / 256) ++ (out ++ [UInt8.ofNat (m % 256)]).reverse = Nm.enc n := by
      rw [List.reverse_append, <- hinv, he]
      simp
    generalize UInt8.ofNat (m % 256) = b at *
    (repeat first | refine uA ?_ | (refine uK ?_ ?_; focus first | omega | (intros; simp_all <;> omega)) | simp (disch := omega) only [go_sem, Nat.reduceBEq, Nat.reduceAdd, ww, b9K, h1, h2])
    refine S.next (x := (m, out)) (m / 256, out ++ [b]) ⟨by simp only; omega, hap⟩ (by simp only; omega) (by simp only [c0C, b9Z, c0x, D8]; exact (by (repeat first | refine uA ?_ | (refine ⟨?_, ?_⟩; focus first | rfl | simp [slot]) | rfl | simp)))
  · have h0 : m = 0 := by omega
    subst h0
    rw [Nm.a0s, List.nil_append] at hinv
    have hr := fun (E : Ctx) (hP : E.P = Tryz.prog) => b9v hP out (by omega)
    rw [hinv] at hr
    (repeat first | refine uA ?_ | (refine uK ?_ ?_; focus first | omega | (intros; simp_all <;> omega)) | simp (disch := omega) only [go_sem, Nat.reduceBEq, Nat.reduceAdd, ww, O8, a2s] | refine l7.t (j5.lift (k := 0) rfl (hr _ rfl) rfl rfl rfl) ?_)
    exact S.done (d9.out rfl (Imp.refl rfl) rfl)
theorem b5X (a b : Nat) (h : 0 < b) : Nat.gcd b (a % b) = Nat.gcd a b := by
 rw [Nat.gcd_comm b, <- Nat.gcd_rec, Nat.gcd_comm]
theorem a0Q (n d : Int) (hn : -1099511627776 <= n /\ n <= 1099511627776) (hd : 1 <= d /\ d <= 1099511627776) : F3 Tryz.prog 85 [ints n, ints d] (rc (Q n d)) := by
 refine kS a8E a8F (by rfl) fun w O => ?_
 obtain ⟨m, rfl⟩ : ∃ m : Nat, d = m := ⟨d.toNat, by omega⟩
 have hq : Q n m = Nm.ofQ (mkRat (Nm.sgn (decide (n < 0)) n.natAbs) m) := by
  unfold Q
  have : Nm.sgn (decide (n < 0)) n.natAbs = n := by unfold Nm.sgn; by_cases h : n < 0 <;> simp [h] <;> omega
  rw [this, b9R]
 rw [hq, <- Nm.a8r _ (by omega)]
 have hmx : (if n < -n then -n else n) = ((n.natAbs : Nat) : Int) := by split <;> omega
 have hwn : IntKind.i64.wrap (0 - n) = -n := by rw [Eng.wrap_i64 (by omega)]; omega
 have hgp : 0 < Nat.gcd n.natAbs m := Nat.gcd_pos_of_pos_right _ (by omega)
 simp only [a3O, l9, TT, II, OA, OB, OC, MM, LL, VV, FF, MG, LG, VG, FG, ints]
 (repeat first | refine uA ?_ | (refine uK ?_ ?_; focus first | omega | (intros; simp_all <;> omega)) | simp (disch := omega) only [go_sem, Nat.reduceBEq, Nat.reduceAdd, ww, hwn, hmx])
 refine S.loop (X := Nat × Nat) (fun x => ⟨[(0, ints n), (1, ints m), (4, .bp 0 0), (5, ints x.1), (6, ints x.2)], [.box 29 [.v (.bool false), .v (.string ⟨#[]⟩), .v (.string ⟨#[]⟩)]]⟩) (fun x => Nat.gcd x.1 x.2 = Nat.gcd n.natAbs m /\ x.1 <= 1099511627776 /\ x.2 <= 1099511627776) (fun x => x.2) (n.natAbs, m) ⟨rfl, by omega, by omega⟩ (by (repeat first | refine uA ?_ | (refine ⟨?_, ?_⟩; focus first | rfl | simp [slot]) | rfl | simp)) ?_
 rintro ⟨a, b⟩ ⟨hg, ha, hb⟩
 simp only [ints] at hg ha hb ⊢
 (repeat first | refine uA ?_ | (refine uK ?_ ?_; focus first | omega | (intros; simp_all <;> omega)) | simp (disch := omega) only [go_sem, Nat.reduceBEq, Nat.reduceAdd, ww])
 (refine uJ rfl (fun hc => ?_) fun hc => ?_)
 ·have h1 : Int.tmod (a : Int) (b : Int) = ((a % b : Nat) : Int) := rfl
  have hlt : a % b < b := Nat.mod_lt _ (by omega)
  have hb0 : ¬ ((b : Int) = 0) := by omega
  (repeat first | refine uA ?_ | (refine uK ?_ ?_; focus first | omega | (intros; simp_all <;> omega)) | simp (disch := omega) only [go_sem, Nat.reduceBEq, Nat.reduceAdd, ww, h1, hb0])
  refine S.next (x := (a, b)) (b, a % b) ⟨by simp only; rw [b5X a b (by omega)]; exact hg, by simp only; omega, by simp only; omega⟩ (by simp only; omega) (by (repeat first | refine uA ?_ | (refine ⟨?_, ?_⟩; focus first | rfl | simp [slot]) | rfl | simp))
 ·have hb0 : b = 0 := by omega
  subst hb0
  rw [Nat.gcd_zero_right] at hg
  subst hg
  have ha0 : ¬ (((Nat.gcd n.natAbs m : Nat) : Int) = 0) := by omega
  generalize hgg : Nat.gcd n.natAbs m = g at *
  have hdvn : g ∣ n.natAbs := by rw [<- hgg]; exact Nat.gcd_dvd_left ..
  have e2 : Int.tdiv (m : Int) (g : Int) = ((m / g : Nat) : Int) := rfl
  obtain ⟨k, hk⟩ := hdvn
  have hkq : n.natAbs / g = k := by rw [hk]; exact Nat.mul_div_cancel_left _ hgp
  have e1 : Int.tdiv n (g : Int) = Nm.sgn (decide (n < 0)) k := by
   have h3 : (n : Int) = (g : Int) * Nm.sgn (decide (n < 0)) k := by
    have h4 : ((n.natAbs : Nat) : Int) = (g : Int) * (k : Int) := by rw [hk]; simp
    unfold Nm.sgn
    by_cases h : n < 0
    ·simp only [h, decide_true, if_true, Int.mul_neg]; omega
    ·simp only [h, decide_false, c0z, if_false]; omega
   rw [show Int.tdiv n (g : Int) = Int.tdiv ((g : Int) * Nm.sgn (decide (n < 0)) k) (g : Int) from congrArg (fun z => Int.tdiv z (g : Int)) h3]
   exact Int.mul_tdiv_cancel_left _ (by omega)
  have hkb : k <= 1099511627776 := by
   have : k <= g * k := Nat.le_mul_of_pos_left k hgp
   omega
  have hmb : m / g <= m := Nat.div_le_self _ _
  have hs : -1099511627776 <= Nm.sgn (decide (n < 0)) k /\ Nm.sgn (decide (n < 0)) k <= 1099511627776 := by unfold Nm.sgn; split <;> omega
  have hneg : decide (Nm.sgn (decide (n < 0)) k < 0) = (decide (n < 0) && !decide (k = 0)) := by
   unfold Nm.sgn
   by_cases h : n < 0
   ·by_cases h0 : k = 0
    ·subst h0; simp [h]
    ·simp [h, h0]; try omega
   ·simp [h]; try omega
  have hab : (if Nm.sgn (decide (n < 0)) k < -(Nm.sgn (decide (n < 0)) k) then -(Nm.sgn (decide (n < 0)) k) else Nm.sgn (decide (n < 0)) k) = ((k : Nat) : Int) := by unfold Nm.sgn; split <;> split <;> omega
  have hws : IntKind.i64.wrap (0 - Nm.sgn (decide (n < 0)) k) = -(Nm.sgn (decide (n < 0)) k) := by rw [Eng.wrap_i64 (by omega)]; omega
  have hwm : IntKind.i64.wrap ((m / g : Nat) : Int) = ((m / g : Nat) : Int) := by
   generalize m / g = z at *
   exact Eng.wrap_i64 (by omega)
  have d1 := b1A k (by omega)
  have d2 := b1A (m / g) (by omega)
  have hres : (if n.natAbs = 0 then Nm.a1O else ⟨decide (n < 0), Nm.enc (n.natAbs / g), Nm.enc (m / g)⟩ : Nm.Rt) = ⟨decide (n < 0) && !decide (k = 0), Nm.enc k, Nm.enc (m / g)⟩ := by
   rw [hkq]
   by_cases h0 : n.natAbs = 0
   ·have hn0 : n = 0 := by omega
    subst hn0
    have hk0 : k = 0 := by
     rcases c0f k with h | h
     ·exact h
     ·have := Nat.mul_pos hgp h; omega
    have hgm : g = m := by rw [<- hgg]; simp
    subst hk0
    have h1 : m / g = 1 := by rw [hgm]; exact Nat.div_self (by omega)
    rw [h1, Nm.a1e, Nm.a0s]
    rfl
   ·have hk0 : k ≠ 0 := by intro h; subst h; omega
    rw [if_neg h0]
    simp [hk0]
  rw [hres]
  rw [<- hneg]
  simp only [rc, sb] at d1 d2 ⊢
  generalize Nm.sgn (decide (n < 0)) k = s at *
  (repeat first | refine uA ?_ | (refine uK ?_ ?_; focus first | omega | (intros; simp_all <;> omega)) | simp (disch := omega) only [go_sem, Nat.reduceBEq, Nat.reduceAdd, ww, ha0, e1, e2, hws, hab, hwm] | (refine uB d1 ?_ ?_; exact rfl) | (refine uB d2 ?_ ?_; exact rfl))
  (refine S.done ?_; simp only [C8, r9, go_sem, Nat.reduceBEq, Nat.reduceAdd, Nat.reduceLeDiff, Int.reduceToNat, Int.reducePow]; (repeat (refine ⟨?_, ?_⟩; focus first | trivial | omega | simp)); exact d9.out rfl (Imp.refl rfl) rfl)
theorem O3 (x y : Int) (hx : -1000000 <= x /\ x <= 1000000) (hy : -1000000 <= y /\ y <= 1000000) : F3 Tryz.prog 84 [ints x, ints y] (atV x y).c := by
 refine kS Tryz.func84 (by cbv) (by rfl) fun w O => ?_
 have h1 := a0Q x 4 (by omega) (by omega)
 have h2 := a0Q y 4 (by omega) (by omega)
 unfold atV
 generalize Q x 4 = qx at *
 generalize Q y 4 = qy at *
 simp only [l9]
 simp only [rc, sb, ints, Vt.c, Vt.enc] at *
 (repeat first | refine uA ?_ | (refine uK ?_ ?_; focus first | omega | (intros; simp_all <;> omega)) | simp (disch := omega) only [go_sem, Nat.reduceBEq, Nat.reduceAdd, ww] | (refine uB h1 ?_ ?_; exact rfl) | (refine uB h2 ?_ ?_; exact rfl))
 (refine S.done ?_; simp only [C8, r9, go_sem, Nat.reduceBEq, Nat.reduceAdd, Nat.reduceLeDiff, Int.reduceToNat, Int.reducePow]; (repeat (refine ⟨?_, ?_⟩; focus first | trivial | omega | simp)); exact d9.out rfl (Imp.refl rfl) rfl)
theorem b4T (x y u v : Int) (hx : -100000 <= x /\ x <= 100000) (hy : -100000 <= y /\ y <= 100000) (hu : -100000 <= u /\ u <= 100000) (hv : -100000 <= v /\ v <= 100000) : F3 Tryz.prog 82 [ints x, ints y, ints u, ints v] (vts (a1R x y u v)) := by
 refine kS Tryz.func82 (by cbv) (by rfl) fun w O => ?_
 have h1 := O3 x y (by omega) (by omega)
 have h2 := O3 u y (by omega) (by omega)
 have h3 := O3 u v (by omega) (by omega)
 have h4 := O3 x v (by omega) (by omega)
 unfold a1R
 generalize atV x y = p1 at *
 generalize atV u y = p2 at *
 generalize atV u v = p3 at *
 generalize atV x v = p4 at *
 simp only [l9]
 simp only [vts, Vt.c, Vt.enc, sb, ints] at *
 (repeat first | refine uA ?_ | (refine uK ?_ ?_; focus first | omega | (intros; simp_all <;> omega)) | simp (disch := omega) only [go_sem, Nat.reduceBEq, Nat.reduceAdd, ww] | (refine uB h1 ?_ ?_; exact rfl) | (refine uB h2 ?_ ?_; exact rfl) | (refine uB h3 ?_ ?_; exact rfl) | (refine uB h4 ?_ ?_; exact rfl))
 exact S.done (d9.out rfl (Imp.frz rfl rfl rfl) rfl)
theorem b5S (l : List Int) : a0z l = if nx (l.drop 2) 4 = 1 then (a0v (1 + nx l 6) (1 + nx (l.drop 1) 6) 1 (nx (l.drop 3) (2 * (1 + nx l 6) + 1)), l.drop 4) else (a0v (1 + nx l 6) (1 + nx (l.drop 1) 6) (nx (l.drop 2) 4) 0, l.drop 3) := by
 unfold a0z
 by_cases h : nx (l.drop 2) 4 = 1
 ·simp only [h, if_true]
 ·simp only [if_neg h]
theorem b8r {E : Ctx} (hP : E.P = Tryz.prog) (l : List Int) :
  j5 E [.box 145 [F9 l]] 83 [.bp 0 0] (vts (a0z l).1) [.box 145 [F9 (a0z l).2]] [] := by
 obtain ⟨P, eff', N, w0, own0, av0, nu0, pk0⟩ := E
 simp only at hP
 subst hP
 refine j5.of (eff := eff) a6V a7b (by exact c0d rfl) fun w own av ν hν => ?_
 have hν0 : ν.length <= 1 := by rw [hν]; exact b9T _
 have n1 := fun (E : Ctx) (hP : E.P = Tryz.prog) => F8 hP l 6 (by decide)
 have n2 := fun (E : Ctx) (hP : E.P = Tryz.prog) => F8 hP (l.drop 1) 6 (by decide)
 have n3 := fun (E : Ctx) (hP : E.P = Tryz.prog) => F8 hP (l.drop 2) 4 (by decide)
 have b1 := l6 l (n := 6) (by decide)
 have b2 := z8 l (n := 6) (by decide)
 have b3 := l6 (l.drop 1) (n := 6) (by decide)
 have b4 := z8 (l.drop 1) (n := 6) (by decide)
 have b5 := l6 (l.drop 2) (n := 4) (by decide)
 have b6 := z8 (l.drop 2) (n := 4) (by decide)
 rw [b5S]
 generalize hw : nx l 6 = w' at *
 generalize hh : nx (l.drop 1) 6 = h' at *
 have n4 := fun (E : Ctx) (hP : E.P = Tryz.prog) => F8 hP (l.drop 3) (2 * (1 + w') + 1) (by omega)
 have b7 := l6 (l.drop 3) (n := 2 * (1 + w') + 1) (by omega)
 have b8 := z8 (l.drop 3) (n := 2 * (1 + w') + 1) (by omega)
 generalize hk : nx (l.drop 2) 4 = k at *
 generalize hs : nx (l.drop 3) (2 * (1 + w') + 1) = s at *
 rw [List.drop_drop] at n2 n3 n4
 generalize hu1 : 1 + w' = u at *
 generalize hv1 : 1 + h' = v at *
 have ru : IntKind.i64.wrap (0 - u) = -u := by rw [Eng.wrap_i64 (by omega)]; omega
 have rv : IntKind.i64.wrap (0 - v) = -v := by rw [Eng.wrap_i64 (by omega)]; omega
 simp only [a2S, l9, TT, II, OA, OB, OC, MM, LL, VV, FF, MG, LG, VG, FG]
 simp only [F9, ints] at n1 n2 n3 n4 ⊢
 (repeat first | refine uA ?_ | (refine uK ?_ ?_; focus first | omega | (intros; simp_all <;> omega)) | simp (disch := omega) only [go_sem, Nat.reduceBEq, Nat.reduceAdd, ww, hu1, hv1] | refine l7.t (j5.lift (k := 0) rfl (n1 _ rfl) rfl rfl rfl) ?_ | refine l7.t (j5.lift (k := 0) rfl (n2 _ rfl) rfl rfl rfl) ?_)
 (repeat first | refine uA ?_ | (refine uK ?_ ?_; focus first | omega | (intros; simp_all <;> omega)) | simp (disch := omega) only [go_sem, Nat.reduceBEq, Nat.reduceAdd, ww] | refine l7.t (j5.lift (k := 0) rfl (n3 _ rfl) rfl rfl rfl) ?_)
 by_cases k0 : k = 0
 ·subst k0
  rw [if_neg (by decide), show a0v u v 0 0 = [atV (-u) (-v), atV u (-v), atV u v, atV (-u) v] from rfl]
  have h1 := O3 (-u) (-v) (by omega) (by omega)
  have h2 := O3 (u) (-v) (by omega) (by omega)
  have h3 := O3 (u) (v) (by omega) (by omega)
  have h4 := O3 (-u) (v) (by omega) (by omega)
  generalize hq1 : atV (-u) (-v) = p1 at *
  generalize hq2 : atV (u) (-v) = p2 at *
  generalize hq3 : atV (u) (v) = p3 at *
  generalize hq4 : atV (-u) (v) = p4 at *
  simp only [vts, Vt.c, Vt.enc, sb, ints] at h1 h2 h3 h4 ⊢
  refine S.cond rfl (fun hc => ?_) (fun hc => by simp at hc)
  (repeat first | refine uA ?_ | (refine uK ?_ ?_; focus first | omega | (intros; simp_all <;> omega)) | simp (disch := omega) only [go_sem, Nat.reduceBEq, Nat.reduceAdd, ww, ru, rv] | (refine uB h1 ?_ ?_; exact rfl) | (refine uB h2 ?_ ?_; exact rfl) | (refine uB h3 ?_ ?_; exact rfl) | (refine uB h4 ?_ ?_; exact rfl))
  (refine S.done ?_; simp only [C8, r9, go_sem, Nat.reduceBEq, Nat.reduceAdd, Nat.reduceLeDiff, Int.reduceToNat, Int.reducePow]; (repeat (refine ⟨?_, ?_⟩; focus first | trivial | omega | simp)); exact d9.M6 (Imp.frz rfl rfl rfl) (by (repeat first | refine uA ?_ | (refine ⟨?_, ?_⟩; focus first | rfl | simp [slot]) | rfl | simp)) (b9L hν0 (by simp)))
 refine S.cond rfl (fun hc => by simp at hc; exact absurd hc k0) (fun hc => ?_)
 (repeat first | refine uA ?_ | (refine uK ?_ ?_; focus first | omega | (intros; simp_all <;> omega)) | simp (disch := omega) only [go_sem, Nat.reduceBEq, Nat.reduceAdd, ww])
 by_cases k1 : k = 1
 ·subst k1
  rw [if_pos rfl, show a0v u v 1 s = [atV (-u) (-v), atV u (-v), atV (s - u) v] from rfl]
  have h1 := O3 (-u) (-v) (by omega) (by omega)
  have h2 := O3 (u) (-v) (by omega) (by omega)
  have h3 := O3 (s - u) (v) (by omega) (by omega)
  generalize hq1 : atV (-u) (-v) = p1 at *
  generalize hq2 : atV (u) (-v) = p2 at *
  generalize hq3 : atV (s - u) (v) = p3 at *
  simp only [vts, Vt.c, Vt.enc, sb, ints] at h1 h2 h3 ⊢
  refine S.cond rfl (fun hc => ?_) (fun hc => by simp at hc)
  (repeat first | refine uA ?_ | (refine uK ?_ ?_; focus first | omega | (intros; simp_all <;> omega)) | simp (disch := omega) only [go_sem, Nat.reduceBEq, Nat.reduceAdd, ww, ru, rv] | refine l7.t (j5.lift (k := 0) rfl (n4 _ rfl) rfl rfl rfl) ?_ | (refine uB h1 ?_ ?_; exact rfl) | (refine uB h2 ?_ ?_; exact rfl) | (refine uB h3 ?_ ?_; exact rfl))
  (refine S.done ?_; simp only [C8, r9, go_sem, Nat.reduceBEq, Nat.reduceAdd, Nat.reduceLeDiff, Int.reduceToNat, Int.reducePow]; (repeat (refine ⟨?_, ?_⟩; focus first | trivial | omega | simp)); exact d9.M6 (Imp.frz rfl rfl rfl) (by (repeat first | refine uA ?_ | (refine ⟨?_, ?_⟩; focus first | rfl | simp [slot]) | rfl | simp)) (b9L hν0 (by simp)))
 rw [if_neg k1]
 refine S.cond rfl (fun hc => by simp at hc; exact absurd hc k1) (fun hc => ?_)
 (repeat first | refine uA ?_ | (refine uK ?_ ?_; focus first | omega | (intros; simp_all <;> omega)) | simp (disch := omega) only [go_sem, Nat.reduceBEq, Nat.reduceAdd, ww])
 by_cases k2 : k = 2
 ·subst k2
  rw [show a0v u v 2 0 = [atV (-u - 1) (-v - 1), atV u (-v - 1), atV (u + 1) (-v), atV (u + 1) v, atV (-u - 1) v] from rfl]
  have h1 := O3 (-u - 1) (-v - 1) (by omega) (by omega)
  have h2 := O3 (u) (-v - 1) (by omega) (by omega)
  have h3 := O3 (u + 1) (-v) (by omega) (by omega)
  have h4 := O3 (u + 1) (v) (by omega) (by omega)
  have h5 := O3 (-u - 1) (v) (by omega) (by omega)
  generalize hq1 : atV (-u - 1) (-v - 1) = p1 at *
  generalize hq2 : atV (u) (-v - 1) = p2 at *
  generalize hq3 : atV (u + 1) (-v) = p3 at *
  generalize hq4 : atV (u + 1) (v) = p4 at *
  generalize hq5 : atV (-u - 1) (v) = p5 at *
  simp only [vts, Vt.c, Vt.enc, sb, ints] at h1 h2 h3 h4 h5 ⊢
  refine S.cond rfl (fun hc => ?_) (fun hc => by simp at hc)
  (repeat first | refine uA ?_ | (refine uK ?_ ?_; focus first | omega | (intros; simp_all <;> omega)) | simp (disch := omega) only [go_sem, Nat.reduceBEq, Nat.reduceAdd, ww, ru, rv] | (refine uB h1 ?_ ?_; exact rfl) | (refine uB h2 ?_ ?_; exact rfl) | (refine uB h3 ?_ ?_; exact rfl) | (refine uB h4 ?_ ?_; exact rfl) | (refine uB h5 ?_ ?_; exact rfl))
  (refine S.done ?_; simp only [C8, r9, go_sem, Nat.reduceBEq, Nat.reduceAdd, Nat.reduceLeDiff, Int.reduceToNat, Int.reducePow]; (repeat (refine ⟨?_, ?_⟩; focus first | trivial | omega | simp)); exact d9.M6 (Imp.frz rfl rfl rfl) (by (repeat first | refine uA ?_ | (refine ⟨?_, ?_⟩; focus first | rfl | simp [slot]) | rfl | simp)) (b9L hν0 (by simp)))
 ·rw [show a0v u v k 0 = [atV (-u) 0, atV 0 (-v), atV u 0, atV 0 v] by unfold a0v; rw [if_neg k0, if_neg k1, if_neg k2]]
  have h1 := O3 (-u) (0) (by omega) (by omega)
  have h2 := O3 (0) (-v) (by omega) (by omega)
  have h3 := O3 (u) (0) (by omega) (by omega)
  have h4 := O3 (0) (v) (by omega) (by omega)
  generalize hq1 : atV (-u) (0) = p1 at *
  generalize hq2 : atV (0) (-v) = p2 at *
  generalize hq3 : atV (u) (0) = p3 at *
  generalize hq4 : atV (0) (v) = p4 at *
  simp only [vts, Vt.c, Vt.enc, sb, ints] at h1 h2 h3 h4 ⊢
  refine S.cond rfl (fun hc => by simp at hc; exact absurd hc k2) (fun hc => ?_)
  (repeat first | refine uA ?_ | (refine uK ?_ ?_; focus first | omega | (intros; simp_all <;> omega)) | simp (disch := omega) only [go_sem, Nat.reduceBEq, Nat.reduceAdd, ww, ru, rv] | (refine uB h1 ?_ ?_; exact rfl) | (refine uB h2 ?_ ?_; exact rfl) | (refine uB h3 ?_ ?_; exact rfl) | (refine uB h4 ?_ ?_; exact rfl))
  (refine S.done ?_; simp only [C8, r9, go_sem, Nat.reduceBEq, Nat.reduceAdd, Nat.reduceLeDiff, Int.reduceToNat, Int.reducePow]; (repeat (refine ⟨?_, ?_⟩; focus first | trivial | omega | simp)); exact d9.M6 (Imp.frz rfl rfl rfl) (by (repeat first | refine uA ?_ | (refine ⟨?_, ?_⟩; focus first | rfl | simp [slot]) | rfl | simp)) (b9L hν0 (by simp)))
end Go.Proofs.YtgmlehjgpgdjhaaGreatDoor
