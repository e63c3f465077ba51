/- A part of the proof: lemmas only, with the conditions that each names. -/
import Derived.Test.YtogfpjohjphngaaGreatDoorProg
import Derived.KernelRfl
import Derived.Shelf.Strings.SlTrimAscii
import Derived.Laws.Bits64b
import Derived.Test.YtogfpjohjphngaaGreatDoorPk4
set_option linter.all false
namespace Go.Proofs.YtogfpjohjphngaaGreatDoor
open Go Go.RowKit Eng
set_option maxRecDepth 100000
set_option maxHeartbeats 8000000
theorem a7r (es : List (List C)) (hn : es.length <= 1073741824) : FNew Tryz.prog 63 [.sl 6 es] 51 6 es := by
 refine FNew.of (eff := eff) Tryz.func63 (by cbv) (by exact c1I rfl) fun w O => ?_
 simp only [j6]
 (repeat first | refine uA ?_ | (refine uK ?_ ?_; focus first | omega | (intros; simp_all <;> omega)) | simp (disch := omega) only [go_sem, Nat.reduceBEq, Nat.reduceAdd, ww])
 refine S.split 4 (Sx := fun y => ∃ b, y = .bool b /\ (es ≠ [] -> b = false)) rfl fun y hy => ?_
 obtain ⟨b, rfl, hb⟩ := hy
 refine S.cond rfl (fun hc => ?_) (fun hc => ?_)
 ·have he : es = [] := Classical.byContradiction fun h => by rw [hb h] at hc; cases hc
  subst he
  (repeat first | refine uA ?_ | (refine uK ?_ ?_; focus first | omega | (intros; simp_all <;> omega)) | simp (disch := omega) only [go_sem, Nat.reduceBEq, Nat.reduceAdd, ww])
  refine S.weaken (Ent.pack 2 51 6 rfl) ?_
  exact S.done (j3.new rfl rfl rfl)
 ·(repeat first | refine uA ?_ | (refine uK ?_ ?_; focus first | omega | (intros; simp_all <;> omega)) | simp (disch := omega) only [go_sem, Nat.reduceBEq, Nat.reduceAdd, ww])
  exact S.done (j3.new rfl rfl rfl)
theorem a6c (es : List (List C)) (hn : es.length <= 1073741824) : FNew Tryz.prog 60 [.sl 1 es] 4 1 es := by
 refine FNew.of (eff := eff) Tryz.func60 (by cbv) (by exact c1I rfl) fun w O => ?_
 simp only [j6]
 (repeat first | refine uA ?_ | (refine uK ?_ ?_; focus first | omega | (intros; simp_all <;> omega)) | simp (disch := omega) only [go_sem, Nat.reduceBEq, Nat.reduceAdd, ww])
 refine S.split 4 (Sx := fun y => ∃ b, y = .bool b /\ (es ≠ [] -> b = false)) rfl fun y hy => ?_
 obtain ⟨b, rfl, hb⟩ := hy
 refine S.cond rfl (fun hc => ?_) (fun hc => ?_)
 ·have he : es = [] := Classical.byContradiction fun h => by rw [hb h] at hc; cases hc
  subst he
  (repeat first | refine uA ?_ | (refine uK ?_ ?_; focus first | omega | (intros; simp_all <;> omega)) | simp (disch := omega) only [go_sem, Nat.reduceBEq, Nat.reduceAdd, ww])
  refine S.weaken (Ent.pack 2 4 1 rfl) ?_
  exact S.done (j3.new rfl rfl rfl)
 ·(repeat first | refine uA ?_ | (refine uK ?_ ?_; focus first | omega | (intros; simp_all <;> omega)) | simp (disch := omega) only [go_sem, Nat.reduceBEq, Nat.reduceAdd, ww])
  exact S.done (j3.new rfl rfl rfl)
theorem a1m (es : List (List C)) (hn : es.length <= 1073741824) : FNew Tryz.prog 150 [.sl 3 es] 29 3 es := by
 refine FNew.of (eff := eff) Tryz.func150 (by cbv) (by exact c1I rfl) fun w O => ?_
 simp only [j6]
 (repeat first | refine uA ?_ | (refine uK ?_ ?_; focus first | omega | (intros; simp_all <;> omega)) | simp (disch := omega) only [go_sem, Nat.reduceBEq, Nat.reduceAdd, ww])
 refine S.split 4 (Sx := fun y => ∃ b, y = .bool b /\ (es ≠ [] -> b = false)) rfl fun y hy => ?_
 obtain ⟨b, rfl, hb⟩ := hy
 refine S.cond rfl (fun hc => ?_) (fun hc => ?_)
 ·have he : es = [] := Classical.byContradiction fun h => by rw [hb h] at hc; cases hc
  subst he
  (repeat first | refine uA ?_ | (refine uK ?_ ?_; focus first | omega | (intros; simp_all <;> omega)) | simp (disch := omega) only [go_sem, Nat.reduceBEq, Nat.reduceAdd, ww])
  refine S.weaken (Ent.pack 2 29 3 rfl) ?_
  exact S.done (j3.new rfl rfl rfl)
 ·(repeat first | refine uA ?_ | (refine uK ?_ ?_; focus first | omega | (intros; simp_all <;> omega)) | simp (disch := omega) only [go_sem, Nat.reduceBEq, Nat.reduceAdd, ww])
  exact S.done (j3.new rfl rfl rfl)
theorem a7A (es : List (List C)) (hn : es.length <= 1073741824) : FNew Tryz.prog 149 [.sl 10 es] 55 10 es := by
 refine FNew.of (eff := eff) Tryz.func149 (by cbv) (by exact c1I rfl) fun w O => ?_
 simp only [j6]
 (repeat first | refine uA ?_ | (refine uK ?_ ?_; focus first | omega | (intros; simp_all <;> omega)) | simp (disch := omega) only [go_sem, Nat.reduceBEq, Nat.reduceAdd, ww])
 refine S.split 4 (Sx := fun y => ∃ b, y = .bool b /\ (es ≠ [] -> b = false)) rfl fun y hy => ?_
 obtain ⟨b, rfl, hb⟩ := hy
 refine S.cond rfl (fun hc => ?_) (fun hc => ?_)
 ·have he : es = [] := Classical.byContradiction fun h => by rw [hb h] at hc; cases hc
  subst he
  (repeat first | refine uA ?_ | (refine uK ?_ ?_; focus first | omega | (intros; simp_all <;> omega)) | simp (disch := omega) only [go_sem, Nat.reduceBEq, Nat.reduceAdd, ww])
  refine S.weaken (Ent.pack 2 55 10 rfl) ?_
  exact S.done (j3.new rfl rfl rfl)
 ·(repeat first | refine uA ?_ | (refine uK ?_ ?_; focus first | omega | (intros; simp_all <;> omega)) | simp (disch := omega) only [go_sem, Nat.reduceBEq, Nat.reduceAdd, ww])
  exact S.done (j3.new rfl rfl rfl)
theorem b2R (q : Rat) : Nm.ofQ (J2 q) = ⟨false, Nm.enc q.num.natAbs, Nm.enc q.den⟩ := by
 unfold J2
 by_cases h : q.num < 0
 ·rw [if_pos h, a8n]
  simp [h]
 ·rw [if_neg h]
  unfold Nm.ofQ
  rw [decide_eq_false h]
theorem a7J (a : Nm.Rt) (ha : Rb 17179869184 a) : FZ 75 [rc a] (rq (J2 (Nm.d9 a))) := by
 unfold rq
 rw [b2R]
 exact b9Z a ha
theorem a5S {k : Nat} {p : Rat} (h : Rb k (Nm.ofQ p)) : Rb k (Nm.ofQ (J2 p)) := by rw [b2R]; exact h
theorem b6v (a : Nm.Rt) (ha : Rb 68719476736 a) : FZ 211 [rc a] (.v (.bool (!C8 a))) := by
 refine kW Tryz.func211 (by cbv) (by rfl) fun w O hw => ?_
 have h := P5 a ha
 unfold C8
 generalize decide a.A8 = q at *
 simp only [j6]
 simp only [rc, sb] at *
 (repeat first | refine uA ?_ | (refine uK ?_ ?_; focus first | omega | (intros; simp_all <;> omega)) | simp (disch := omega) only [go_sem, Nat.reduceBEq, Nat.reduceAdd, ww] | (refine uD h ?_ ?_ ?_; exact tz hw; exact rfl))
 exact S.done (j3.out rfl (Imp.refl rfl) rfl)
theorem a6q (l : List Nm.Rt) (hl : Rbs 68719476736 l) : FZ 139 [rts l] (.v (.bool (l.all C8))) := by
 refine kW Tryz.func139 (by cbv) (by rfl) fun w O hw => ?_
 have h := b6Q 211 (by kernel_rfl) (fun a => !C8 a) l (by have := hl.1; omega) (fun a ha => b6v a (hl.2 a ha))
 have e : l.all C8 = !l.any fun a => !C8 a := by rw [List.not_any_eq_all_not]; simp
 rw [e]
 generalize (l.any fun a => !C8 a) = q at *
 simp only [j6]
 simp only [rts] at *
 (repeat first | refine uA ?_ | (refine uK ?_ ?_; focus first | omega | (intros; simp_all <;> omega)) | simp (disch := omega) only [go_sem, Nat.reduceBEq, Nat.reduceAdd, ww] | (refine uD h ?_ ?_ ?_; exact tz hw; exact rfl))
 exact S.done (j3.out rfl (Imp.refl rfl) rfl)
theorem b6a (f : Fr) (hf : Fb 17179869184 f) : FZ 136 [f.c] (.v (.bool (Y6 f))) := by
 refine kW Tryz.func136 (by cbv) (by rfl) fun w O hw => ?_
 obtain ⟨x, y, half, t⟩ := f
 obtain ⟨b1, b2, b3⟩ := hf
 simp only at b1 b2 b3
 have h1 := a6q _ (Rbs.three (by decide) (b1.mono (m := 68719476736) (by decide)) (b2.mono (m := 68719476736) (by decide)) (b3.mono (m := 68719476736) (by decide)))
 rw [a3Q] at h1
 have h4 := O3 t b3
 unfold Y6 a1Q
 simp only
 generalize (C8 x && C8 y && C8 t) = q1 at *
 generalize y8 (Nm.d9 t) = n at *
 simp only [j6]
 simp only [Fr.c, Fr.enc, rts, rcs, rc, sb, ints, c1J, c1N] at *
 (repeat first | refine uA ?_ | (refine uK ?_ ?_; focus first | omega | (intros; simp_all <;> omega)) | simp (disch := omega) only [go_sem, Nat.reduceBEq, Nat.reduceAdd, ww] | (refine uD h4 ?_ ?_ ?_; exact tz hw; exact rfl) | (refine uE h1 ?_ ?_ ?_ ?_; exact tz hw; exact rfl; focus (repeat' first | exact j5.nil | exact Imp.refl rfl | exact Imp.frz rfl rfl rfl | (refine Imp.J9 rfl rfl ?_ ?_; (focus ((try simp only [c1s]); omega)); (focus first | rfl | assumption)) | refine j5.cons ?_ ?_); done))
 have e : (q1 && !(half && !decide (n = 0))) = (q1 && (!half || decide (n = 0))) := by cases q1 <;> cases half <;> simp
 rw [e]
 exact S.done (j3.out rfl (Imp.refl (by rfl)) rfl)
theorem b7O (f : Fr) (hf : Fb 17179869184 f) : FZ 135 [f.c] (.v (.bool (!Y6 f))) := by
 refine kW Tryz.func135 (by cbv) (by rfl) fun w O hw => ?_
 have h := b6a f hf
 generalize Y6 f = q at *
 simp only [j6]
 simp only [Fr.c, Fr.enc, sb] at *
 (repeat first | refine uA ?_ | (refine uK ?_ ?_; focus first | omega | (intros; simp_all <;> omega)) | simp (disch := omega) only [go_sem, Nat.reduceBEq, Nat.reduceAdd, ww] | (refine uD h ?_ ?_ ?_; exact tz hw; exact rfl))
 exact S.done (j3.out rfl (Imp.refl rfl) rfl)
theorem b8v (v : Vt) (hv : Vb 68719476736 v) : FZ 138 [v.c] (.v (.bool (!a1B v))) := by
 refine kW Tryz.func138 (by cbv) (by rfl) fun w O hw => ?_
 have h := a6q _ (Rbs.two (by decide) hv.1 hv.2)
 rw [a4C] at h
 unfold a1B
 generalize (C8 v.x && C8 v.y) = q at *
 simp only [j6]
 simp only [Vt.c, Vt.enc, rts, rcs, sb, c1J, c1N] at *
 (repeat first | refine uA ?_ | (refine uK ?_ ?_; focus first | omega | (intros; simp_all <;> omega)) | simp (disch := omega) only [go_sem, Nat.reduceBEq, Nat.reduceAdd, ww] | (refine uE h ?_ ?_ ?_ ?_; exact tz hw; exact rfl; focus (repeat' first | exact j5.nil | exact Imp.refl rfl | exact Imp.frz rfl rfl rfl | (refine Imp.J9 rfl rfl ?_ ?_; (focus ((try simp only [c1s]); omega)); (focus first | rfl | assumption)) | refine j5.cons ?_ ?_); done))
 exact S.done (j3.out rfl (Imp.refl rfl) rfl)
theorem b5L {a : Am} {q : List Nm.Rt} (h : a1c a q = 0) : q.length = a.links.length := by
 unfold a1c at h
 split at h
 ·rename_i h1; exact absurd h h1
 ·split at h
  ·cases h
  ·rename_i h2; exact Classical.not_not.1 h2
theorem c0G (a : Am) (x : Ast) (parts : Nat) (ha : Ab 1073741824 a) (hx : Asb 1073741824 x) (hp : parts <= 1073741824) : FZ 133 [a.c, x.c, .v (.int .i64 (parts : Int))] (ints (a0W a x parts)) := by
 refine kW Tryz.func133 (by cbv) (by rfl) fun w O hw => ?_
 have h1 := a6q x.q ⟨by have := hx.1.1; omega, fun r hr => (hx.1.2 r hr).mono (by decide)⟩
 have h2 := a6q x.v ⟨by have := hx.2.1; omega, fun r hr => (hx.2.2 r hr).mono (by decide)⟩
 have h3 := b4q a x.q ha hx.1
 have hln := b5L (a := a) (q := x.q)
 unfold a0W
 generalize a1c a x.q = e at *
 obtain ⟨q, v, power, holds⟩ := x
 simp only at h1 h2 h3 hln ⊢
 generalize q.all C8 = g1 at *
 generalize v.all C8 = g2 at *
 obtain ⟨hvn, hvb⟩ := hx.2
 obtain ⟨name, ⟨bx, by', half, t⟩, links⟩ := a
 obtain ⟨b0, ⟨b1, b2, b3⟩, hn, hb⟩ := ha
 simp only at b0 b1 b2 b3 hn hb hln hvn hvb ⊢
 simp only [j6]
 simp only [Am.c, Am.enc, Ast.c, Ast.enc, lks, rts, sb, ints] at *
 (repeat first | refine uA ?_ | (refine uK ?_ ?_; focus first | omega | (intros; simp_all <;> omega)) | simp (disch := omega) only [go_sem, Nat.reduceBEq, Nat.reduceAdd, ww] | (refine uD h1 ?_ ?_ ?_; exact tz hw; exact rfl) | (refine uD h2 ?_ ?_ ?_; exact tz hw; exact rfl))
 refine S.cond rfl (fun hc => ?_) (fun hc => ?_)
 ·rw [if_pos (by cases g1 <;> cases g2 <;> simp_all)]
  (repeat first | refine uA ?_ | (refine uK ?_ ?_; focus first | omega | (intros; simp_all <;> omega)) | simp (disch := omega) only [go_sem, Nat.reduceBEq, Nat.reduceAdd, ww])
  exact S.done (j3.out rfl (Imp.refl rfl) rfl)
 rw [if_neg (by cases g1 <;> cases g2 <;> simp_all)]
 (repeat first | refine uA ?_ | (refine uK ?_ ?_; focus first | omega | (intros; simp_all <;> omega)) | simp (disch := omega) only [go_sem, Nat.reduceBEq, Nat.reduceAdd, ww] | (refine uD h3 ?_ ?_ ?_; exact tz hw; exact rfl))
 refine S.cond rfl (fun hc => ?_) (fun hc => ?_)
 ·rw [if_pos (by simpa using hc)]
  (repeat first | refine uA ?_ | (refine uK ?_ ?_; focus first | omega | (intros; simp_all <;> omega)) | simp (disch := omega) only [go_sem, Nat.reduceBEq, Nat.reduceAdd, ww])
  exact S.done (j3.out rfl (Imp.refl rfl) rfl)
 rw [if_neg (by simpa using hc)]
 have hln := hln (by simpa using hc)
 (repeat first | refine uA ?_ | (refine uK ?_ ?_; focus first | omega | (intros; simp_all <;> omega)) | simp (disch := omega) only [go_sem, Nat.reduceBEq, Nat.reduceAdd, ww, c1q])
 refine S.cond rfl (fun hc => ?_) (fun hc => ?_)
 ·rw [if_pos (by simp only [c1Z, Bool.not_eq_true', c1w, c1x] at hc; omega)]
  (repeat first | refine uA ?_ | (refine uK ?_ ?_; focus first | omega | (intros; simp_all <;> omega)) | simp (disch := omega) only [go_sem, Nat.reduceBEq, Nat.reduceAdd, ww])
  exact S.done (j3.out rfl (Imp.refl rfl) rfl)
 rw [if_neg (by simp only [c1H, Bool.not_eq_false', c1w, c1x] at hc; omega)]
 have hvl : v.length = links.length := by simp only [c1H, Bool.not_eq_false', c1w, c1x] at hc; omega
 (repeat first | refine uA ?_ | (refine uK ?_ ?_; focus first | omega | (intros; simp_all <;> omega)) | simp (disch := omega) only [go_sem, Nat.reduceBEq, Nat.reduceAdd, ww, c1q])
 refine S.loop (X := Nat) (fun i => ⟨[(4, .bp 1 0), (46, lks links), (47, ints links.length), (48, ints i)], [.gone, .box 90 [rts q, rts v, .v (.bool power), ints holds]]⟩) (fun i => i <= links.length /\ D8 U9 (links.zip v) = D8 U9 ((links.zip v).drop i)) (fun i => links.length - i) 0 ⟨c1y _, rfl⟩ (by (repeat first | refine uA ?_ | (refine ⟨?_, ?_⟩; focus first | rfl | simp [slot]) | rfl | simp)) ?_
 rintro i ⟨hi, hg⟩
 simp only [lks, ints, rts]
 (repeat first | refine uA ?_ | (refine uK ?_ ?_; focus first | omega | (intros; simp_all <;> omega)) | simp (disch := omega) only [go_sem, Nat.reduceBEq, Nat.reduceAdd, ww])
 (refine uJ rfl (fun hc => ?_) fun hc => ?_)
 ·have hi' : i < links.length := by omega
  have hgi := c1p hi'
  have hgv := c1p (show i < v.length by omega)
  generalize links[i] = l at hgi
  generalize v[i]'_ = r at hgv
  have hz := M4 hgi hgv
  have hst := a0h (f := U9) hz
  have hnx := a0c (f := U9) hz
  have bl := hb l (c1t hgi)
  have br := (hvb r (c1t hgv)).mono (m := 17179869184) (by decide)
  have o1 := a7J r br
  have o2 := K7 (Nm.ofQ (J2 (Nm.d9 r))) l.speed (a5S (br.fit (by decide))) (bl.2.2.2.1.mono (by decide))
  rw [Nm.G9] at o2
  unfold U9 at hst hnx
  simp only at hst hnx
  generalize Nm.q8 (J2 (Nm.d9 r)) (Nm.d9 l.speed) = n1 at *
  unfold rq at o1
  generalize Nm.ofQ (J2 (Nm.d9 r)) = ar at *
  have hvi : (i : Int) < v.length := by omega
  simp only [rc, sb, ints] at o1 o2
  (repeat first | refine uA ?_ | (refine uK ?_ ?_; focus first | omega | (intros; simp_all <;> omega)) | simp (disch := omega) only [go_sem, Nat.reduceBEq, Nat.reduceAdd, ww, hgi, hgv, c1r, c1q, Lk.enc, rcs, vts, sb, c1u] | (refine uD o1 ?_ ?_ ?_; exact tz hw; exact rfl) | (refine uD o2 ?_ ?_ ?_; exact tz hw; exact rfl))
  refine S.cond rfl (fun hc2 => ?_) (fun hc2 => ?_)
  ·have hp : 0 < n1 := by simpa using hc2
   rw [if_pos hp] at hst
   rw [hg, show U9 = fun x : Lk × Nm.Rt => if 0 < Nm.q8 (J2 (Nm.d9 x.2)) (Nm.d9 x.1.speed) then 1 else 0 from rfl, hst (by decide)]
   (repeat first | refine uA ?_ | (refine uK ?_ ?_; focus first | omega | (intros; simp_all <;> omega)) | simp (disch := omega) only [go_sem, Nat.reduceBEq, Nat.reduceAdd, ww])
   exact S.done (j3.out rfl (Imp.refl rfl) rfl)
  ·have hp : ¬ 0 < n1 := by simpa using hc2
   rw [if_neg hp] at hnx
   (repeat first | refine uA ?_ | (refine uK ?_ ?_; focus first | omega | (intros; simp_all <;> omega)) | simp (disch := omega) only [go_sem, Nat.reduceBEq, Nat.reduceAdd, ww])
   refine S.next (i + 1) ⟨by omega, ?_⟩ (by omega) (by (repeat first | refine uA ?_ | (refine ⟨?_, ?_⟩; focus first | rfl | simp [slot]) | rfl | simp))
   rw [hg, show U9 = fun x : Lk × Nm.Rt => if 0 < Nm.q8 (J2 (Nm.d9 x.2)) (Nm.d9 x.1.speed) then 1 else 0 from rfl, hnx rfl]
 ·rw [hg, a0w (by rw [List.length_zip]; omega)]
  (repeat first | refine uA ?_ | (refine uK ?_ ?_; focus first | omega | (intros; simp_all <;> omega)) | simp (disch := omega) only [go_sem, Nat.reduceBEq, Nat.reduceAdd, ww])
  exact S.done (j3.out rfl (Imp.refl rfl) rfl)
set_option maxHeartbeats 16000000
theorem c0F (h : List Int) (n : Int) : (a0K (.int .i64 n) (hdE h)).getD (.bool false) = .bool (h.contains n) := by
 rw [b8Y]; cases h.contains n <;> rfl
theorem b2I {α : Type} (p : α -> Bool) (l : List α) : l.all p = !l.any fun x => !p x := by rw [List.not_any_eq_all_not]; simp
theorem a3r (w : Wk) (s : Stt) (hb : Wb 1073741824 w) (hs : Stb 1073741824 s) : FZ 38 [w.c, s.c] (ints (H8 w s)) := by
 refine kW Tryz.func38 (by cbv) (by rfl) fun w' O hw => ?_
 have hwk := b6O w hb
 obtain ⟨⟨n1, b1⟩, ⟨n2, b2⟩, ⟨n3, b3⟩, n4⟩ := hs
 have hone := fun (a : Am) (x : Ast) (ha : a ∈ w.arms) (hx : x ∈ s.arms) => c0G a x w.parts.length (hb.arms.2 a ha) (b1 x hx) (by have := hb.parts.1; omega)
 have hfr := b3l 135 (by kernel_rfl) (fun f => !Y6 f) s.parts (by omega) (fun f hf => b7O f ⟨(b2 f hf).1.mono (by decide), (b2 f hf).2.1.mono (by decide), (b2 f hf).2.2.mono (by decide)⟩)
 have hvc := b0i 138 (by kernel_rfl) (fun v => !a1B v) s.people (by omega) (fun v hv => b8v v ((b3 v hv).mono (by decide)))
 have m1 := hb.arms.1
 have m2 := hb.parts.1
 have m3 := hb.gates.1
 unfold H8
 rw [b2I Y6, b2I a1B]
 generalize X3 w = e0 at *
 generalize (s.parts.any fun f => !Y6 f) = g1 at *
 generalize (s.people.any fun v => !a1B v) = g2 at *
 obtain ⟨arms, walls, parts, slots, gates, walk⟩ := w
 obtain ⟨tick, sarms, sparts, people, sgates⟩ := s
 simp only at *
 simp only [j6]
 simp only [Wk.c, Wk.enc, Stt.c, Stt.enc, ams, wls, pts, sls, gts, F5, frs, vts, bls, sb, ints] at hwk hfr hvc ⊢
 (repeat first | refine uA ?_ | (refine uK ?_ ?_; focus first | omega | (intros; simp_all <;> omega)) | simp (disch := omega) only [go_sem, Nat.reduceBEq, Nat.reduceAdd, ww] | (refine uD hwk ?_ ?_ ?_; exact tz hw; exact rfl))
 refine S.cond rfl (fun hc => ?_) (fun hc => ?_)
 ·rw [if_pos (by simpa using hc)]
  (repeat first | refine uA ?_ | (refine uK ?_ ?_; focus first | omega | (intros; simp_all <;> omega)) | simp (disch := omega) only [go_sem, Nat.reduceBEq, Nat.reduceAdd, ww])
  exact S.done (j3.out rfl (Imp.refl rfl) rfl)
 rw [if_neg (by simpa using hc)]
 (repeat first | refine uA ?_ | (refine uK ?_ ?_; focus first | omega | (intros; simp_all <;> omega)) | simp (disch := omega) only [go_sem, Nat.reduceBEq, Nat.reduceAdd, ww, c1q])
 refine S.cond rfl (fun hc => ?_) (fun hc => ?_)
 ·rw [if_pos (by simp only [c1w] at hc; omega)]
  (repeat first | refine uA ?_ | (refine uK ?_ ?_; focus first | omega | (intros; simp_all <;> omega)) | simp (disch := omega) only [go_sem, Nat.reduceBEq, Nat.reduceAdd, ww])
  exact S.done (j3.out rfl (Imp.refl rfl) rfl)
 rw [if_neg (by simp only [c1x] at hc; omega)]
 (repeat first | refine uA ?_ | (refine uK ?_ ?_; focus first | omega | (intros; simp_all <;> omega)) | simp (disch := omega) only [go_sem, Nat.reduceBEq, Nat.reduceAdd, ww, c1q])
 refine S.cond rfl (fun hc => ?_) (fun hc => ?_)
 ·rw [if_pos (by simp only [c1Z, Bool.not_eq_true', c1w, c1x] at hc; omega)]
  (repeat first | refine uA ?_ | (refine uK ?_ ?_; focus first | omega | (intros; simp_all <;> omega)) | simp (disch := omega) only [go_sem, Nat.reduceBEq, Nat.reduceAdd, ww])
  exact S.done (j3.out rfl (Imp.refl rfl) rfl)
 have hls : sarms.length = arms.length := by simp only [c1H, Bool.not_eq_false', c1w, c1x] at hc; omega
 rw [if_neg (by simp only [c1H, Bool.not_eq_false', c1w, c1x] at hc; omega)]
 (repeat first | refine uA ?_ | (refine uK ?_ ?_; focus first | omega | (intros; simp_all <;> omega)) | simp (disch := omega) only [go_sem, Nat.reduceBEq, Nat.reduceAdd, ww, c1q])
 refine S.loop (X := Nat × List Int) (fun x => ⟨[(2, .bp 0 0), (3, .bp 1 0), (6, .mp 2), (56, F5 sarms), (57, ints sarms.length), (58, ints x.1)], [.box 31 [ams arms, wls walls, pts parts, sls slots, gts gates, .v (.bool walk.neg), sb walk.num, sb walk.den], .box 37 [ints tick, F5 sarms, frs sparts, vts people, bls sgates], .map false (hdE x.2)]⟩)
  (fun x => x.1 <= sarms.length /\ C9 (V6 parts.length) [] (arms.zip sarms) = C9 (V6 parts.length) x.2 ((arms.zip sarms).drop x.1)) (fun x => sarms.length - x.1) (0, []) ⟨c1y _, rfl⟩ (by (repeat first | refine uA ?_ | (refine ⟨?_, ?_⟩; focus first | rfl | simp [slot]) | rfl | simp)) ?_
 rintro ⟨i, h⟩ ⟨hi, hg⟩
 simp only [ams, wls, pts, sls, gts, F5, frs, vts, bls, sb, ints] at hi hg ⊢
 (repeat first | refine uA ?_ | (refine uK ?_ ?_; focus first | omega | (intros; simp_all <;> omega)) | simp (disch := omega) only [go_sem, Nat.reduceBEq, Nat.reduceAdd, ww])
 (refine uJ rfl (fun hc => ?_) fun hc => ?_)
 ·have hgx := c1p (show i < sarms.length by omega)
  have hga := c1p (show i < arms.length by omega)
  generalize sarms[i]'_ = x at hgx
  generalize arms[i]'_ = a at hga
  have hz := M4 hga hgx
  have hst := R6 (f := V6 parts.length) (s := h) hz
  have hnx := R7 (f := V6 parts.length) (s := h) hz
  have ho := hone a x (c1t hga) (c1t hgx)
  have hlk := c0F h x.holds
  have hpt := b9r h x.holds
  have hai : (i : Int) < arms.length := by omega
  have hv : V6 parts.length h (a, x) = if a0W a x parts.length ≠ 0 then (a0W a x parts.length, h) else if (decide (0 <= x.holds) && h.contains x.holds) = true then (10, h) else (0, a1I h x.holds) := rfl
  rw [hv] at hst hnx
  clear hv
  generalize a0W a x parts.length = e1 at *
  generalize h.contains x.holds = c1 at *
  simp only [Am.c, Am.enc, Ast.c, Ast.enc, lks, rts, sb, ints] at ho
  (repeat first | refine uA ?_ | (refine uK ?_ ?_; focus first | omega | (intros; simp_all <;> omega)) | simp (disch := omega) only [go_sem, Nat.reduceBEq, Nat.reduceAdd, ww, hga, hgx, c1r, c1q, Am.enc, Ast.enc, lks, rts, sb, ints, c1u] | (refine uD ho ?_ ?_ ?_; exact tz hw; exact rfl))
  refine S.cond rfl (fun hc2 => ?_) (fun hc2 => ?_)
  ·have h0 : e1 ≠ 0 := by simpa using hc2
   rw [if_pos h0] at hst
   rw [hg, hst h0, if_pos h0]
   (repeat first | refine uA ?_ | (refine uK ?_ ?_; focus first | omega | (intros; simp_all <;> omega)) | simp (disch := omega) only [go_sem, Nat.reduceBEq, Nat.reduceAdd, ww])
   exact S.done (j3.out rfl (Imp.refl rfl) rfl)
  have h0 : e1 = 0 := by simpa using hc2
  rw [if_neg (by simp [h0])] at hst hnx
  (repeat first | refine uA ?_ | (refine uK ?_ ?_; focus first | omega | (intros; simp_all <;> omega)) | simp (disch := omega) only [go_sem, Nat.reduceBEq, Nat.reduceAdd, ww, hlk])
  refine S.cond rfl (fun hc3 => ?_) (fun hc3 => ?_)
  ·rw [if_pos hc3] at hst
   rw [hg, hst (by simp), if_pos (by simp)]
   (repeat first | refine uA ?_ | (refine uK ?_ ?_; focus first | omega | (intros; simp_all <;> omega)) | simp (disch := omega) only [go_sem, Nat.reduceBEq, Nat.reduceAdd, ww])
   exact S.done (j3.out rfl (Imp.refl rfl) rfl)
  ·rw [if_neg (by rw [hc3]; decide)] at hnx
   (repeat first | refine uA ?_ | (refine uK ?_ ?_; focus first | omega | (intros; simp_all <;> omega)) | simp (disch := omega) only [go_sem, Nat.reduceBEq, Nat.reduceAdd, ww, hpt])
   refine S.next (x := (i, h)) (i + 1, a1I h x.holds) ⟨by simp only; omega, by simp only; rw [hg, hnx rfl]⟩ (by simp only; omega) (by (repeat first | refine uA ?_ | (refine ⟨?_, ?_⟩; focus first | rfl | simp [slot]) | rfl | simp))
 ·rw [hg, W9 (by rw [List.length_zip]; omega), if_neg (by simp)]
  (repeat first | refine uA ?_ | (refine uK ?_ ?_; focus first | omega | (intros; simp_all <;> omega)) | simp (disch := omega) only [go_sem, Nat.reduceBEq, Nat.reduceAdd, ww] | (refine uD hfr ?_ ?_ ?_; exact tz hw; exact rfl) | (refine uD hvc ?_ ?_ ?_; exact tz hw; exact rfl))
  refine S.cond rfl (fun hc => ?_) (fun hc => ?_)
  ·rw [if_neg (by cases g1 <;> cases g2 <;> simp_all)]
   (repeat first | refine uA ?_ | (refine uK ?_ ?_; focus first | omega | (intros; simp_all <;> omega)) | simp (disch := omega) only [go_sem, Nat.reduceBEq, Nat.reduceAdd, ww])
   exact S.done (j3.out rfl (Imp.refl rfl) rfl)
  ·rw [if_pos (by cases g1 <;> cases g2 <;> simp_all)]
   (repeat first | refine uA ?_ | (refine uK ?_ ?_; focus first | omega | (intros; simp_all <;> omega)) | simp (disch := omega) only [go_sem, Nat.reduceBEq, Nat.reduceAdd, ww])
   exact S.done (j3.out rfl (Imp.refl rfl) rfl)
theorem L8 : Rb 8 (Nm.ofQ 0) := ⟨Nm.G5 (by decide), Nm.G5 (by decide)⟩
theorem a9M : FZ 71 [.v (.int .i64 0)] (rq 0) := by
 have := a3R 0 (by decide) (by decide)
 rwa [show ((0 : Int) : Rat) = 0 from rfl] at this
theorem b2w : FZ 154 [] a2Z.c := by
 refine kW Tryz.func154 (by cbv) (by rfl) fun w O hw => ?_
 have h1 := a9M
 have h2 := a5s (Nm.ofQ 0) (L8.mono (by decide))
 rw [Nm.G9] at h2
 unfold tq rq at *
 unfold a2Z
 generalize Nm.ofQ 0 = r at *
 simp only [j6]
 simp only [Fr.c, Fr.enc, rc, tc, sb] at *
 (repeat first | refine uA ?_ | (refine uK ?_ ?_; focus first | omega | (intros; simp_all <;> omega)) | simp (disch := omega) only [go_sem, Nat.reduceBEq, Nat.reduceAdd, ww] | (refine uD h1 ?_ ?_ ?_; exact tz hw; exact rfl) | (refine uD h2 ?_ ?_ ?_; exact tz hw; exact rfl))
 (refine S.done ?_; simp only [p9, l7, go_sem, Nat.reduceBEq, Nat.reduceAdd, Nat.reduceLeDiff, Int.reduceToNat, Int.reducePow]; (repeat (refine ⟨?_, ?_⟩; focus first | trivial | omega | simp)); exact j3.out rfl (Imp.refl rfl) rfl)
open Go Eng
def c0m : List Nat := [150]
def c0S (f : Nat) : Bool := c0m.contains f
set_option maxHeartbeats 8000000
theorem b4m {b v : Rat} (h : 0 < y8 b) (hv : y8 v = 0) : Nm.q8 (J2 v) b <= 0 := by
 have h1 := a5T b
 have h2 := a5T v
 have h3 : v = 0 := by
  rcases h2 with h2 | h2 | h2
  ·omega
  ·exact h2.2
  ·omega
 have h4 : 0 < b := by
  rcases h1 with h1 | h1 | h1
  ·omega
  ·omega
  ·exact h1.2
 have h5 : ¬ 0 < Nm.q8 (J2 v) b := fun h => by
  have := (U1 _ _).1 h
  rw [h3, show J2 0 = 0 from rfl] at this
  grind
 omega
theorem b5X (b v : Nm.Rt) (hb : Rb 1073741824 b) (hv : Rb 1073741824 v) (h : 0 < y8 (Nm.d9 b)) : FZ 235 [rc b, rc v] (rc (a1l b v)) := by
 refine kW Tryz.func235 (by cbv) (by rfl) fun w O hw => ?_
 have o1 := O3 b (hb.mono (by decide))
 have o2 := a7J v (hv.mono (by decide))
 have o3 := K7 (Nm.ofQ (J2 (Nm.d9 v))) b (a5S ((hv.mono (m := 17179869184) (by decide)).fit (by decide))) (hb.mono (by decide))
 rw [Nm.G9] at o3
 have o4 := a9M
 have o5 := O3 v (hv.mono (by decide))
 have o6 := a6h v b (hv.mono (by decide)) (hb.mono (by decide))
 have o7 := a1P v b (hv.mono (by decide)) (hb.mono (by decide))
 have hz := b4m (v := Nm.d9 v) h
 have hs := a5T (Nm.d9 v)
 unfold a1l a3K
 generalize Nm.q8 (J2 (Nm.d9 v)) (Nm.d9 b) = c at *
 generalize y8 (Nm.d9 b) = s1 at *
 generalize y8 (Nm.d9 v) = s2 at *
 unfold rq at *
 generalize Nm.ofQ (J2 (Nm.d9 v)) = av at *
 generalize Nm.ofQ (Nm.d9 v - Nm.d9 b) = d at *
 generalize Nm.ofQ (Nm.d9 v + Nm.d9 b) = e at *
 generalize Nm.ofQ 0 = z at *
 simp only [j6]
 simp only [rc, sb, ints] at *
 (repeat first | refine uA ?_ | (refine uK ?_ ?_; focus first | omega | (intros; simp_all <;> omega)) | simp (disch := omega) only [go_sem, Nat.reduceBEq, Nat.reduceAdd, ww] | (refine uD o1 ?_ ?_ ?_; exact tz hw; exact rfl) | (refine uD o2 ?_ ?_ ?_; exact tz hw; exact rfl) | (refine uD o3 ?_ ?_ ?_; exact tz hw; exact rfl))
 refine S.cond rfl (fun hc => ?_) (fun hc => ?_)
 ·rw [if_pos (by simp only [c1Z, c1w] at hc; omega)]
  (repeat first | refine uA ?_ | (refine uK ?_ ?_; focus first | omega | (intros; simp_all <;> omega)) | simp (disch := omega) only [go_sem, Nat.reduceBEq, Nat.reduceAdd, ww] | (refine uD o4 ?_ ?_ ?_; exact tz hw; exact rfl))
  (refine S.done ?_; simp only [p9, l7, go_sem, Nat.reduceBEq, Nat.reduceAdd, Nat.reduceLeDiff, Int.reduceToNat, Int.reducePow]; (repeat (refine ⟨?_, ?_⟩; focus first | trivial | omega | simp)); exact j3.out rfl (Imp.refl rfl) rfl)
 have hc1 : ¬ c <= 0 := by simp only [c1H, c1x] at hc; omega
 rw [if_neg hc1]
 (repeat first | refine uA ?_ | (refine uK ?_ ?_; focus first | omega | (intros; simp_all <;> omega)) | simp (disch := omega) only [go_sem, Nat.reduceBEq, Nat.reduceAdd, ww] | (refine uD o5 ?_ ?_ ?_; exact tz hw; exact rfl))
 refine S.cond rfl (fun hc => ?_) (fun hc => ?_)
 ·rw [if_neg (by simp only [c1w] at hc; omega)]
  (repeat first | refine uA ?_ | (refine uK ?_ ?_; focus first | omega | (intros; simp_all <;> omega)) | simp (disch := omega) only [go_sem, Nat.reduceBEq, Nat.reduceAdd, ww] | (refine uD o6 ?_ ?_ ?_; exact tz hw; exact rfl))
  (refine S.done ?_; simp only [p9, l7, go_sem, Nat.reduceBEq, Nat.reduceAdd, Nat.reduceLeDiff, Int.reduceToNat, Int.reducePow]; (repeat (refine ⟨?_, ?_⟩; focus first | trivial | omega | simp)); exact j3.out rfl (Imp.refl rfl) rfl)
 ·rw [if_pos (by simp only [c1x] at hc; omega)]
  (repeat first | refine uA ?_ | (refine uK ?_ ?_; focus first | omega | (intros; simp_all <;> omega)) | simp (disch := omega) only [go_sem, Nat.reduceBEq, Nat.reduceAdd, ww] | (refine uD o7 ?_ ?_ ?_; exact tz hw; exact rfl))
  (refine S.done ?_; simp only [p9, l7, go_sem, Nat.reduceBEq, Nat.reduceAdd, Nat.reduceLeDiff, Int.reduceToNat, Int.reducePow]; (repeat (refine ⟨?_, ?_⟩; focus first | trivial | omega | simp)); exact j3.out rfl (Imp.refl rfl) rfl)
theorem b8j (a : Am) (q v : List Nm.Rt) (hl : Ab 1073741824 a) (ha : J8 a = 0) (hq : q.length = a.links.length) (hv : v.length = a.links.length) : FZ 234 [a.c, rts q, rts v] (ints 0) := by
 refine kW Tryz.func234 (by cbv) (by rfl) fun w O hw => ?_
 have h := a7O a hl
 rw [ha] at h
 have hn := hl.2.2.1
 obtain ⟨name, ⟨x, y, half, t⟩, links⟩ := a
 simp only at hq hv hn
 simp only [j6]
 simp only [Am.c, Am.enc, lks, rts, sb, ints] at *
 (repeat first | refine uA ?_ | (refine uK ?_ ?_; focus first | omega | (intros; simp_all <;> omega)) | simp (disch := omega) only [go_sem, Nat.reduceBEq, Nat.reduceAdd, ww] | (refine uD h ?_ ?_ ?_; exact tz hw; exact rfl))
 refine S.cond rfl (fun hc => by simp at hc) (fun hc => ?_)
 (repeat first | refine uA ?_ | (refine uK ?_ ?_; focus first | omega | (intros; simp_all <;> omega)) | simp (disch := omega) only [go_sem, Nat.reduceBEq, Nat.reduceAdd, ww, c1q])
 refine S.cond rfl (fun hc => by simp only [c1Z, Bool.not_eq_true', c1x] at hc; omega) (fun hc => ?_)
 (repeat first | refine uA ?_ | (refine uK ?_ ?_; focus first | omega | (intros; simp_all <;> omega)) | simp (disch := omega) only [go_sem, Nat.reduceBEq, Nat.reduceAdd, ww])
 exact S.done (j3.out rfl (Imp.refl rfl) rfl)
theorem b8R {a : Am} {x : Ast} {i : Nat} {l : Lk} {q v : Nm.Rt} (h1 : a.links[i]? = some l) (h2 : x.v[i]? = some v) (h3 : x.q[i]? = some q) : (a2R a x)[i]? = some (a1l l.brake v) /\ (a4k a x)[i]? = some (a3K q (a1l l.brake v)) := by
 have h4 : (a2R a x)[i]? = some (a1l l.brake v) := by
  unfold a2R
  rw [c2f, M4 h1 h2]; rfl
 refine ⟨h4, ?_⟩
 unfold a4k
 rw [c2f, M4 h3 h4]; rfl
theorem b8x {a : Am} {x : Ast} (h1 : x.q.length = a.links.length) (h2 : x.v.length = a.links.length) : (a2R a x).length = a.links.length /\ (a4k a x).length = a.links.length := by
 unfold a4k a2R
 simp only [c1q, List.length_zip]; omega
theorem a6z {α : Type} {l m : List α} {i : Nat} {y : α} (f : α -> List C) (hl : l.length = m.length) (hy : l[i]? = some y) : ((l.take i ++ m.drop i).map f).set i (f y) = (l.take (i + 1) ++ m.drop (i + 1)).map f := by
 rw [<- List.map_set, b8Q hl hy]
theorem b8y {α : Type} {l m : List α} {i : Nat} {y : α} (hl : l.length = m.length) (hy : l[i]? = some y) : (l.take (i + 1) ++ m.drop (i + 1))[i]? = some y := by
 obtain ⟨hi, rfl⟩ := c1z.1 hy
 rw [c1C (by rw [c1D]; omega), List.getElem?_take, if_pos (by omega), c1p hi]
theorem b8d {k : Nat} {b v : Nm.Rt} (hk : 8 <= k) (hb : Rb k b) (hv : Rb k v) : Rb (k + k + 1) (a1l b v) := by
 unfold a1l
 split
 ·exact L8.mono (by omega)
 split
 ·exact Q8 (hv.fit (by omega)) (hb.fit (by omega))
 ·exact P7 (hv.fit (by omega)) (hb.fit (by omega))
theorem b7M (a : Am) (x : Ast) (hl : Ab 1073741824 a) (hx : Asb 1073741824 x) (ha : J8 a = 0) (hq : x.q.length = a.links.length) (hv : x.v.length = a.links.length) : FZ 216 [a.c, x.c] (.tup [(Ast.mk (a4k a x) (a2R a x) x.power x.holds).c, ints 0]) := by
 refine V4.of (eff := c0S) Tryz.func216 (by cbv) (by exact c1I rfl) fun w O hw => ?_
 have h := b8j a x.q x.v hl ha hq hv
 have hbr := fun l hl => b3n ((a1v ha).2 l hl)
 have hbg := @b8R a x
 obtain ⟨hVl, hQl⟩ := b8x hq hv
 have c1 := a1m (x.q.map rcs) (by rw [c1q]; exact hx.1.1)
 have c2 := a1m (x.v.map rcs) (by rw [c1q]; exact hx.2.1)
 generalize a2R a x = V at *
 generalize a4k a x = Q at *
 obtain ⟨hqn, hqb⟩ := hx.1
 obtain ⟨hvn, hvb⟩ := hx.2
 obtain ⟨name, ⟨bx, by', half, t⟩, links⟩ := a
 obtain ⟨q, v, power, holds⟩ := x
 obtain ⟨b0, ⟨b1, b2, b3⟩, hn, hb⟩ := hl
 simp only at hq hv hn hb hbr hqn hqb hvn hvb hVl hQl hbg h c1 c2 ⊢
 simp only [j6]
 simp only [Am.c, Am.enc, Ast.c, Ast.enc, lks, rts, sb, ints] at h c1 c2 ⊢
 (repeat first | refine uA ?_ | (refine uK ?_ ?_; focus first | omega | (intros; simp_all <;> omega)) | simp (disch := omega) only [go_sem, Nat.reduceBEq, Nat.reduceAdd, ww] | (refine uD h ?_ ?_ ?_; exact tz hw; exact rfl))
 refine S.cond rfl (fun hc => by simp at hc) (fun hc => ?_)
 (repeat first | refine uI ?_ | (refine uK ?_ ?_; focus first | omega | (intros; simp_all <;> omega)) | simp (disch := omega) only [go_sem, Nat.reduceBEq, Nat.reduceAdd, ww])
 refine S.K3 [.gone, .box 90 [.sl 3 (q.map rcs), .sl 3 (v.map rcs), .v (.bool power), .v (.int .i64 holds)]] (by simp [Eng.E5, Eng.P9]) ?_
 (repeat first | refine uA ?_ | (refine uK ?_ ?_; focus first | omega | (intros; simp_all <;> omega)) | simp (disch := omega) only [go_sem, Nat.reduceBEq, Nat.reduceAdd, ww, E5, c1q] | refine l9.t (FNew.t c1 rfl) ?_ | refine l9.t (FNew.t c2 rfl) ?_)
 refine S.loop (X := Nat) (fun i => ⟨[(3, .bp 1 0), (4, .bp 2 0), (7, .bp 5 0), (32, lks links), (33, ints links.length), (34, ints i)], [.gone, .box 90 [.sl 3 (q.map rcs), .sl 3 (v.map rcs), .v (.bool power), .v (.int .i64 holds)], .box 90 [.v (.slice none 0 0), .v (.slice none 0 0), .v (.bool false), .v (.int .i64 0)], .row 29 3 ((Q.take i ++ q.drop i).map rcs), .row 29 3 ((V.take i ++ v.drop i).map rcs), .box 90 [.rv 3, .rv 4, .v (.bool power), .v (.int .i64 holds)]]⟩) (fun i => i <= links.length) (fun i => links.length - i) 0 (c1y _) (by (repeat first | refine uA ?_ | (refine ⟨?_, ?_⟩; focus first | rfl | simp [slot]) | rfl | simp)) ?_
 intro i hi
 simp only [lks, ints]
 (repeat first | refine uA ?_ | (refine uK ?_ ?_; focus first | omega | (intros; simp_all <;> omega)) | simp (disch := omega) only [go_sem, Nat.reduceBEq, Nat.reduceAdd, ww])
 (refine uJ rfl (fun hc => ?_) fun hc => ?_)
 ·have hi' : i < links.length := by omega
  have hgl := c1p hi'
  have hgq := c1p (show i < q.length by omega)
  have hgv := c1p (show i < v.length by omega)
  generalize links[i] = l at hgl
  generalize q[i]'_ = qi at hgq
  generalize v[i]'_ = vi at hgv
  obtain ⟨g1, g2⟩ := hbg hgl hgv hgq
  have bl := hb l (c1t hgl)
  have bv := hvb vi (c1t hgv)
  have bq := hqb qi (c1t hgq)
  have o1 := b5X l.brake vi bl.2.2.2.2.1 bv (hbr l (c1t hgl))
  have o2 := a1P qi (a1l l.brake vi) (bq.mono (by decide)) ((b8d (by decide) bl.2.2.2.2.1 bv).mono (by decide))
  have s1 := a6z rcs (by omega) g1 (m := v)
  have s2 := a6z rcs (by omega) g2 (m := q)
  have s3 := b8y (by omega) g1 (m := v)
  have m1 := a4I (l := V) (m := v) (i := i) (by omega) (by omega)
  have m2 := a4I (l := Q) (m := q) (i := i) (by omega) (by omega)
  have m3 := a4I (l := V) (m := v) (i := i + 1) (by omega) (by omega)
  unfold rq at o2
  unfold a3K at s2
  generalize Nm.ofQ (Nm.d9 qi + Nm.d9 (a1l l.brake vi)) = z at *
  generalize a1l l.brake vi = y at *
  generalize V.take i ++ v.drop i = V0 at *
  generalize hV1 : V.take (i + 1) ++ v.drop (i + 1) = V1 at *
  generalize hQ1 : Q.take (i + 1) ++ q.drop (i + 1) = Q1 at *
  generalize Q.take i ++ q.drop i = Q0 at *
  have e1 : ∃ u, V0[i]? = some u := ⟨_, c1p (show i < V0.length by omega)⟩
  have e2 : ∃ u, Q0[i]? = some u := ⟨_, c1p (show i < Q0.length by omega)⟩
  obtain ⟨u1, e1⟩ := e1
  obtain ⟨u2, e2⟩ := e2
  simp only [rc, rcs, sb] at o1 o2 s1 s2
  (repeat first | refine uA ?_ | (refine uK ?_ ?_; focus first | omega | (intros; simp_all <;> omega)) | simp (disch := omega) only [go_sem, Nat.reduceBEq, Nat.reduceAdd, ww, hgl, hgq, hgv, e1, e2, s1, s2, s3, m1, m2, m3, c1r, c1q, Lk.enc, rcs, vts, sb, c1u] | (refine uD o1 ?_ ?_ ?_; exact tz hw; exact rfl) | (refine uD o2 ?_ ?_ ?_; exact tz hw; exact rfl))
  refine S.next (i + 1) (by omega) (by omega) (by simp only [hV1, hQ1]; exact (by (repeat first | refine uA ?_ | (refine ⟨?_, ?_⟩; focus first | rfl | simp [slot]) | rfl | simp)))
 ·have hi' : i = links.length := by omega
  subst hi'
  rw [show Q.take links.length ++ q.drop links.length = Q by rw [<- hq]; exact mid_end (by omega), show V.take links.length ++ v.drop links.length = V by rw [<- hv]; exact mid_end (by omega)]
  (repeat first | refine uA ?_ | (refine uK ?_ ?_; focus first | omega | (intros; simp_all <;> omega)) | simp (disch := omega) only [go_sem, Nat.reduceBEq, Nat.reduceAdd, ww])
  (refine S.done ?_; simp only [p9, l7, go_sem, Nat.reduceBEq, Nat.reduceAdd, Nat.reduceLeDiff, Int.reduceToNat, Int.reducePow]; (repeat (refine ⟨?_, ?_⟩; focus first | trivial | omega | simp)); exact j3.out rfl (Imp.tup (by (repeat' (first | exact j5.nil | exact Imp.refl rfl | exact Imp.frz rfl rfl rfl | exact Imp.F7 | refine Imp.agg ?_ | refine j5.cons ?_ ?_)))) rfl)
def a6R : a0G := ⟨65, [.tmp 6], .seq (.reg [OA 3 (.box 76 (TT 0)), OA 6 (.mv (.const (.bool false)))]) (.seq (.seq (.reg [MM 10 2, OA 11 (.len false (TT 10)), FF 12 11 3, VV 13 12, OA 14 (.len false (TT 13)), OA 15 (.bin .neq (TT 11) (TT 14))])
 (.cond (TT 15) (.seq (.reg [OA 6 (.mv (.const (.bool false)))]) .ret) .skip)) (.seq (.seq (.reg [FF 16 11 3, VV 17 16, OA 18 (.len false (TT 17)), OA 19 (.mv (II 0))]) (.block 0 (.loop (.seq (.reg [OA 20 (.bin .lss (TT 19) (TT
 18))]) (.seq (.cond (TT 20) .skip (.exit 0)) (.seq (.block 1 (.seq (.reg [MM 21 19, OA 22 (.E8 16 (TT 17) (TT 19)), LL 23 16 22, OA 8 (.alloc 158 [.bool false, .string ⟨#[]⟩, .string ⟨#[]⟩, .bool false, .string ⟨#[]⟩, .string
 ⟨#[]⟩, .bool false, .string ⟨#[]⟩, .string ⟨#[]⟩, .bool false, .string ⟨#[]⟩, .string ⟨#[]⟩, .bool false, .string ⟨#[]⟩, .string ⟨#[]⟩, .slice none 0 0]), MM 7 21, OB (.store 16 (TT 8) (TT 23))]) (.seq (.K3 [.q, .q, .q, .q,
 .q, .q, .q, .q, .q, .a, .e (some 9) true] [MM 24 1, MM 25 7, OA 26 (.E8 3 (TT 24) (TT 25)), LL 27 3 26, MM 28 2, MM 29 7, OA 30 (.E8 3 (TT 28) (TT 29)), LL 31 3 30, OA 32 (.call 16 [TT 27, TT 31]), OA 9 (.alloc 29 [.bool
 false, .string ⟨#[]⟩, .string ⟨#[]⟩]), OB (.store 3 (TT 9) (TT 32))]) (.seq (.K3 [.q, .q, .q, .q, .q, .q, .q, .q, .q, .q, .q, .q, .q, .q, .q, .q, .q, .q, .q, .q, .q, .q, .q, .q, .q, .q, .q, .q, .q, .q, .q] [MM 33 2, MM 34 7,
 OA 35 (.E8 3 (TT 33) (TT 34)), LL 36 3 35, OA 37 (.call 62 [TT 36]), OA 38 (.un .not (TT 37)), MM 39 38, MG 40 2 39 false, MG 41 7 39 false, OC 42 (.E8 3 (TT 40) (TT 41)) 39 false, LG 43 3 42 39 false, OC 44 (.call 75 [TT
 43]) 39 false, FG 45 9 8 39 false, LG 46 3 45 39 false, OC 47 (.call 52 [TT 44, TT 46]) 39 false, OC 48 (.bin .gtr (TT 47) (II 0)) 39 false, OA 49 (.pick (TT 39) (.const (.bool true)) (TT 48)), MM 50 49, LG 51 3 9 50 false, FG
 52 3 8 50 false, LG 53 3 52 50 false, OC 54 (.call 52 [TT 51, TT 53]) 50 false, OC 55 (.bin .lss (TT 54) (II 0)) 50 false, OA 56 (.pick (TT 50) (.const (.bool true)) (TT 55)), MM 57 56, LG 58 3 9 57 false, FG 59 6 8 57 false, LG
 60 3 59 57 false, OC 61 (.call 52 [TT 58, TT 60]) 57 false, OC 62 (.bin .gtr (TT 61) (II 0)) 57 false, OA 63 (.pick (TT 57) (.const (.bool true)) (TT 62))]) (.cond (TT 63) (.seq (.reg [OA 6 (.mv (.const (.bool false)))]) .ret)
 .skip))))) (.reg [OA 64 (.bin .add (TT 19) (II 1)), MM 19 64]))))))) (.seq (.reg [OA 6 (.mv (.const (.bool true)))]) .ret)))⟩
theorem b2l : X8 eff Tryz.prog Tryz.f215 = some a6R := by kernel_rfl
theorem b1S : Tryz.prog.funcs[215]? = some Tryz.f215 := Tryz.func215
theorem b2T {α β γ : Type} {f : α × β × γ -> Bool} {g : γ -> Bool} : ∀ (l : List α) (q : List β) (u : List γ), q.length = l.length -> u.length = l.length -> (u.all g && (l.zip (q.zip u)).all f) = (l.zip (q.zip u)).all fun x => g x.2.2 && f x
 | [], [], [], _, _ => rfl
 | a :: l, b :: q, c :: u, h1, h2 => by
  have ih := b2T (f := f) (g := g) l q u (by simpa using h1) (by simpa using h2)
  simp only [List.zip_cons_cons, List.all_cons, <- ih]
  cases g c <;> cases u.all g <;> simp
theorem b0G {α : Type} {f : α -> Bool} {l : List α} {i : Nat} {x : α} (h : l[i]? = some x) : (l.drop i).all f = (f x && (l.drop (i + 1)).all f) := by
 rw [drop_at h, List.all_cons]
theorem a7t (p q : Rat) : Nm.q8 p q < 0 <-> 0 < Nm.q8 q p := by rw [a1u, U1]
def b1c (x : Lk × Nm.Rt × Nm.Rt) : Bool := C8 x.2.2 && b6L x
theorem c0t (a : Am) (q u : List Nm.Rt) (hl : Ab 1073741824 a) (hq : Rbs 1073741824 q) (hu : Rbs 1073741824 u) (hql : q.length = a.links.length) : FZ 215 [a.c, rts q, rts u] (.v (.bool (a7j a q u))) := by
  refine kW b1S b2l (by rfl) fun w O hw => ?_
  obtain ⟨hqn, hqb⟩ := hq
  obtain ⟨hun, hub⟩ := hu
  unfold a7j
  obtain ⟨name, ⟨bx, by', half, t⟩, links⟩ := a
  obtain ⟨b0, ⟨b1, b2, b3⟩, hn, hb⟩ := hl
  simp only at b0 b1 b2 b3 hn hb hql ⊢
  simp only [a6R, j6, TT, II, OA, OB, OC, MM, LL, VV, FF, MG, LG, VG, FG]
  simp only [Am.c, Am.enc, lks, rts, sb, ints]
  (repeat first | refine uA ?_ | (refine uK ?_ ?_; focus first | omega | (intros; simp_all <;> omega)) | simp (disch := omega) only [go_sem, Nat.reduceBEq, Nat.reduceAdd, ww, c1q])
  refine S.cond rfl (fun hc => ?_) (fun hc => ?_)
  · rw [show decide (u.length = links.length) = false from decide_eq_false (by simp only [Bool.not_eq_true', c1x] at hc; omega), Bool.false_and]
    (repeat first | refine uA ?_ | (refine uK ?_ ?_; focus first | omega | (intros; simp_all <;> omega)) | simp (disch := omega) only [go_sem, Nat.reduceBEq, Nat.reduceAdd, ww])
    exact S.done (j3.out rfl (Imp.refl rfl) rfl)
  have hul : u.length = links.length := by simp only [Bool.not_eq_false', c1w] at hc; omega
  rw [decide_eq_true hul, Bool.true_and, b2T links q u hql hul, show (fun x : Lk × Nm.Rt × Nm.Rt => C8 x.2.2 && b6L x) = b1c from rfl]
  (repeat first | refine uA ?_ | (refine uK ?_ ?_; focus first | omega | (intros; simp_all <;> omega)) | simp (disch := omega) only [go_sem, Nat.reduceBEq, Nat.reduceAdd, ww, c1q])
  refine S.loop (X := Nat) (fun i => ⟨[(1, rts q), (2, rts u), (17, lks links), (18, ints links.length), (19, ints i)], []⟩) (fun i => i <= links.length /\ (links.zip (q.zip u)).all b1c = ((links.zip (q.zip u)).drop i).all b1c) (fun i => links.length - i) 0 ⟨c1y _, rfl⟩ (by (repeat first | refine uA ?_ | (refine ⟨?_, ?_⟩; focus first | rfl | simp [slot]) | rfl | simp)) ?_
  rintro i ⟨hi, hg⟩
  simp only [rts, lks, ints]
  (repeat first | refine uA ?_ | (refine uK ?_ ?_; focus first | omega | (intros; simp_all <;> omega)) | simp (disch := omega) only [go_sem, Nat.reduceBEq, Nat.reduceAdd, ww])
  (refine uJ rfl (fun hc => ?_) fun hc => ?_)
  · have hi' : i < links.length := by omega
    have hgl := c1p hi'
    have hgq := c1p (show i < q.length by omega)
    have hgu := c1p (show i < u.length by omega)
    generalize links[i] = l at hgl
    generalize q[i]'_ = qi at hgq
    generalize u[i]'_ = ui at hgu
    have hd := b0G (f := b1c) (M4 hgl (M4 hgq hgu))
    have bl := hb l (c1t hgl)
    have bq := (hqb qi (c1t hgq)).mono (m := 17179869184) (by decide)
    have bu := (hub ui (c1t hgu)).mono (m := 17179869184) (by decide)
    have bz := (Q8 ((hqb qi (c1t hgq)).fit (by decide)) ((hub ui (c1t hgu)).fit (by decide))).mono (m := 17179869184) (by decide)
    have o1 := a1P qi ui bq bu
    have o2 := P5 ui (bu.mono (by decide))
    have o3 := a7J ui bu
    have o4 := K7 (Nm.ofQ (J2 (Nm.d9 ui))) l.speed (a5S (bu.fit (by decide))) (bl.2.2.2.1.mono (by decide))
    have o5 := K7 (Nm.ofQ (Nm.d9 qi + Nm.d9 ui)) l.low bz (bl.2.1.mono (by decide))
    have o6 := K7 (Nm.ofQ (Nm.d9 qi + Nm.d9 ui)) l.high bz (bl.2.2.1.mono (by decide))
    have hsw := a7t (Nm.d9 qi + Nm.d9 ui) (Nm.d9 l.low)
    rw [Nm.G9] at o4 o5 o6
    have hv : b1c (l, qi, ui) = (decide ui.A8 && !(decide (0 < Nm.q8 (J2 (Nm.d9 ui)) (Nm.d9 l.speed)) || decide (0 < Nm.q8 (Nm.d9 l.low) (Nm.d9 qi + Nm.d9 ui)) || decide (0 < Nm.q8 (Nm.d9 qi + Nm.d9 ui) (Nm.d9 l.high)))) := rfl
    rw [hv] at hd
    clear hv
    generalize decide ui.A8 = g at *
    generalize Nm.q8 (J2 (Nm.d9 ui)) (Nm.d9 l.speed) = c1 at *
    generalize Nm.q8 (Nm.d9 l.low) (Nm.d9 qi + Nm.d9 ui) = c2 at *
    generalize Nm.q8 (Nm.d9 qi + Nm.d9 ui) (Nm.d9 l.low) = c3 at *
    generalize Nm.q8 (Nm.d9 qi + Nm.d9 ui) (Nm.d9 l.high) = c4 at *
    unfold rq at o1 o3
    generalize Nm.ofQ (Nm.d9 qi + Nm.d9 ui) = z at *
    generalize Nm.ofQ (J2 (Nm.d9 ui)) = au at *
    have hqi : (i : Int) < q.length := by omega
    have hui : (i : Int) < u.length := by omega
    simp only [rc, sb, ints] at o1 o2 o3 o4 o5 o6
    (repeat first | refine uG o1 ?_ | refine uG o2 ?_ | refine uG o3 ?_ | refine uG o4 ?_ | refine uG o5 ?_ | refine uG o6 ?_ | refine uA ?_ | (refine uK ?_ ?_; focus first | omega | (intros; simp_all <;> omega)) | simp (disch := omega) only [go_sem, Nat.reduceBEq, Nat.reduceAdd, ww, hgl, hgq, hgu, c1r, c1q, Lk.enc, rcs, vts, sb, c1u] | (refine uD o1 ?_ ?_ ?_; exact tz hw; exact rfl) | (refine uD o2 ?_ ?_ ?_; exact tz hw; exact rfl) | (refine uD o3 ?_ ?_ ?_; exact tz hw; exact rfl) | (refine uD o4 ?_ ?_ ?_; exact tz hw; exact rfl) | (refine uD o5 ?_ ?_ ?_; exact tz hw; exact rfl) | (refine uD o6 ?_ ?_ ?_; exact tz hw; exact rfl))
    refine S.cond rfl (fun hc2 => ?_) (fun hc2 => ?_)
    · rw [hg, hd, show (g && !(decide (0 < c1) || decide (0 < c2) || decide (0 < c4))) = false by
        cases g
        · rfl
        · simp only [Bool.not_true, Bool.false_or, c1Z, c1w] at hc2
          rw [show (decide (0 < c1) || decide (0 < c2) || decide (0 < c4)) = true by simp only [c1Z, c1w]; omega]
          rfl, Bool.false_and]
      (repeat first | refine uA ?_ | (refine uK ?_ ?_; focus first | omega | (intros; simp_all <;> omega)) | simp (disch := omega) only [go_sem, Nat.reduceBEq, Nat.reduceAdd, ww])
      exact S.done (j3.out rfl (Imp.refl rfl) rfl)
    · (repeat first | refine uA ?_ | (refine uK ?_ ?_; focus first | omega | (intros; simp_all <;> omega)) | simp (disch := omega) only [go_sem, Nat.reduceBEq, Nat.reduceAdd, ww])
      refine S.next (i + 1) ⟨by omega, ?_⟩ (by omega) (by (repeat first | refine uA ?_ | (refine ⟨?_, ?_⟩; focus first | rfl | simp [slot]) | rfl | simp))
      rw [hg, hd, show (g && !(decide (0 < c1) || decide (0 < c2) || decide (0 < c4))) = true by
        cases g
        · simp at hc2
        · simp only [Bool.not_true, Bool.false_or, c1H, c1x] at hc2
          rw [show (decide (0 < c1) || decide (0 < c2) || decide (0 < c4)) = false by simp only [c1H, c1x]; omega]
          rfl, Bool.true_and]
  · rw [hg, List.drop_eq_nil_of_le (by simp only [List.length_zip]; omega), List.all_nil]
    (repeat first | refine uA ?_ | (refine uK ?_ ?_; focus first | omega | (intros; simp_all <;> omega)) | simp (disch := omega) only [go_sem, Nat.reduceBEq, Nat.reduceAdd, ww])
    exact S.done (j3.out rfl (Imp.refl rfl) rfl)
theorem b9X {x : Ast} {u : List Nm.Rt} {i : Nat} {q v : Nm.Rt} (h1 : x.q[i]? = some q) (h2 : u[i]? = some v) : (mvQ x u)[i]? = some (a3K q v) := by
 unfold mvQ
 rw [c2f, M4 h1 h2]; rfl
theorem take_at {α : Type} {l : List α} {i : Nat} {x : α} (h : l[i]? = some x) : l.take (i + 1) = l.take i ++ [x] := by
 obtain ⟨hi, rfl⟩ := c1z.1 h
 exact c2g hi
theorem b9p (a : Am) (x : Ast) (u : List Nm.Rt) (p : Bool) (hl : Ab 1073741824 a) (hx : Asb 1073741824 x) (hu : Rbs 1073741824 u) (ha : J8 a = 0) (hq : x.q.length = a.links.length) (hv : x.v.length = a.links.length) : FZ 159 [a.c, x.c, rts u, .v (.bool p)] (.tup [(a1F a x u p).c, ints 0]) := by
 refine kW Tryz.func159 (by cbv) (by rfl) fun w O hw => ?_
 have h1 := b7M a x hl hx ha hq hv
 have h2 := c0t a x.q u hl hx.1 hu hq
 have h3 : a7j a x.q u = true -> u.length = a.links.length := fun h => by unfold a7j at h; rw [c1B] at h; exact of_decide_eq_true h.1
 have h4 := @b9X x u
 have h5 : (mvQ x u).length = min x.q.length u.length := by unfold mvQ; rw [c1q, List.length_zip]
 have c1 := (a1m (u.map rcs) (by rw [c1q]; exact hu.1)).spec
 obtain ⟨hqn, hqb⟩ := hx.1
 obtain ⟨hun, hub⟩ := hu
 unfold a1F mvA b7a
 generalize a4k a x = BQ at *
 generalize a2R a x = BV at *
 generalize mvQ x u = M at *
 generalize a7j a x.q u = m at *
 obtain ⟨name, ⟨bx, by', half, t⟩, links⟩ := a
 obtain ⟨q, v, power, holds⟩ := x
 simp only at h1 h2 h3 h4 h5 hq hv hqn hqb ⊢
 have hn := hl.2.2.1
 simp only at hn
 simp only [j6]
 simp only [Am.c, Am.enc, Ast.c, Ast.enc, lks, rts, sb, ints] at h1 h2 c1 ⊢
 by_cases hm : (p && m) = true
 ·rw [if_pos hm]
  rw [c1B] at hm
  obtain ⟨rfl, rfl⟩ := hm
  have h3 := h3 rfl
  (repeat first | refine uG h2 ?_ | refine uA ?_ | (refine uK ?_ ?_; focus first | omega | (intros; simp_all <;> omega)) | simp (disch := omega) only [go_sem, Nat.reduceBEq, Nat.reduceAdd, ww] | (refine uD h2 ?_ ?_ ?_; exact tz hw; exact rfl))
  refine S.cond rfl (fun hc => by simp at hc) (fun hc => ?_)
  (repeat first | refine uF c1 ?_ | refine uA ?_ | (refine uK ?_ ?_; focus first | omega | (intros; simp_all <;> omega)) | simp (disch := omega) only [go_sem, Nat.reduceBEq, Nat.reduceAdd, ww, c1q] | (refine uB c1 ?_ ?_; exact rfl))
  refine S.loop (X := Nat) (fun i => ⟨[(2, rts u), (8, .bp 2 0), (12, .bp 3 0), (43, rts q), (44, ints q.length), (45, ints i)], [.gone, .gone, .box 90 [.v (.slice none 0 0), .v (.slice none 0 0), .v (.bool false), .v (.int .i64 0)], .box 90 [.rv 4, rts u, .v (.bool true), ints holds], .row 29 3 ((M.take i).map rcs)]⟩) (fun i => i <= q.length) (fun i => q.length - i) 0 (c1y _) (Ent.trans (Ent.a2x 3 0 29 3 rfl rfl rfl) (by (repeat first | refine uA ?_ | (refine ⟨?_, ?_⟩; focus first | rfl | simp [slot]) | rfl | simp))) ?_
  intro i hi
  simp only [rts, ints]
  (repeat first | refine uA ?_ | (refine uK ?_ ?_; focus first | omega | (intros; simp_all <;> omega)) | simp (disch := omega) only [go_sem, Nat.reduceBEq, Nat.reduceAdd, ww])
  (refine uJ rfl (fun hc => ?_) fun hc => ?_)
  ·have hgq := c1p (show i < q.length by omega)
   have hgu := c1p (show i < u.length by omega)
   generalize q[i]'_ = qi at hgq
   generalize u[i]'_ = ui at hgu
   have hap := take_at (h4 hgq hgu)
   have htl : (M.take i).length = i := by rw [c1D]; omega
   have o1 := a1P qi ui ((hqb qi (c1t hgq)).mono (by decide)) ((hub ui (c1t hgu)).mono (by decide))
   unfold rq at o1
   unfold a3K at hap
   generalize Nm.ofQ (Nm.d9 qi + Nm.d9 ui) = z at *
   have hui : (i : Int) < u.length := by omega
   simp only [rc, sb] at o1
   (repeat first | refine uG o1 ?_ | refine uA ?_ | (refine uK ?_ ?_; focus first | omega | (intros; simp_all <;> omega)) | simp (disch := omega) only [go_sem, Nat.reduceBEq, Nat.reduceAdd, ww, hgq, hgu, c1r, c1q, rcs, sb, htl, c1u] | (refine uD o1 ?_ ?_ ?_; exact tz hw; exact rfl))
   refine S.next (i + 1) (by omega) (by omega) (by simp only [hap, c2h, c1J, c1N, rcs, sb]; exact (by (repeat first | refine uA ?_ | (refine ⟨?_, ?_⟩; focus first | rfl | simp [slot]) | rfl | simp)))
  ·have hi' : i = q.length := by omega
   subst hi'
   rw [c1O (by omega)]
   (repeat first | refine uA ?_ | (refine uK ?_ ?_; focus first | omega | (intros; simp_all <;> omega)) | simp (disch := omega) only [go_sem, Nat.reduceBEq, Nat.reduceAdd, ww])
   (refine S.done ?_; simp only [p9, l7, go_sem, Nat.reduceBEq, Nat.reduceAdd, Nat.reduceLeDiff, Int.reduceToNat, Int.reducePow]; (repeat (refine ⟨?_, ?_⟩; focus first | trivial | omega | simp)); exact j3.out rfl (Imp.tup (by (repeat' (first | exact j5.nil | exact Imp.refl rfl | exact Imp.frz rfl rfl rfl | exact Imp.F7 | refine Imp.agg ?_ | refine j5.cons ?_ ?_)))) rfl)
 ·rw [if_neg hm]
  cases p
  ·(repeat first | refine uG h2 ?_ | refine uA ?_ | (refine uK ?_ ?_; focus first | omega | (intros; simp_all <;> omega)) | simp (disch := omega) only [go_sem, Nat.reduceBEq, Nat.reduceAdd, ww] | (refine uD h2 ?_ ?_ ?_; exact tz hw; exact rfl))
   refine S.cond rfl (fun hc => ?_) (fun hc => by simp at hc)
   (repeat first | refine uG h1 ?_ | refine uI ?_ | (refine uK ?_ ?_; focus first | omega | (intros; simp_all <;> omega)) | simp (disch := omega) only [go_sem, Nat.reduceBEq, Nat.reduceAdd, ww] | (refine uD h1 ?_ ?_ ?_; exact tz hw; exact rfl))
   refine S.K3 [.gone, .box 90 [.sl 3 (q.map rcs), .sl 3 (v.map rcs), .v (.bool power), .v (.int .i64 holds)]] (by simp [Eng.E5, Eng.P9]) ?_
   (repeat first | refine uA ?_ | (refine uK ?_ ?_; focus first | omega | (intros; simp_all <;> omega)) | simp (disch := omega) only [go_sem, Nat.reduceBEq, Nat.reduceAdd, ww])
   (refine S.done ?_; simp only [p9, l7, go_sem, Nat.reduceBEq, Nat.reduceAdd, Nat.reduceLeDiff, Int.reduceToNat, Int.reducePow]; (repeat (refine ⟨?_, ?_⟩; focus first | trivial | omega | simp)); exact j3.out rfl (Imp.tup (by (repeat' (first | exact j5.nil | exact Imp.refl rfl | exact Imp.frz rfl rfl rfl | exact Imp.F7 | refine Imp.agg ?_ | refine j5.cons ?_ ?_)))) rfl)
  ·have hm : m = false := by simpa using hm
   subst hm
   (repeat first | refine uG h2 ?_ | refine uA ?_ | (refine uK ?_ ?_; focus first | omega | (intros; simp_all <;> omega)) | simp (disch := omega) only [go_sem, Nat.reduceBEq, Nat.reduceAdd, ww] | (refine uD h2 ?_ ?_ ?_; exact tz hw; exact rfl))
   refine S.cond rfl (fun hc => ?_) (fun hc => by simp at hc)
   (repeat first | refine uG h1 ?_ | refine uI ?_ | (refine uK ?_ ?_; focus first | omega | (intros; simp_all <;> omega)) | simp (disch := omega) only [go_sem, Nat.reduceBEq, Nat.reduceAdd, ww] | (refine uD h1 ?_ ?_ ?_; exact tz hw; exact rfl))
   refine S.K3 [.gone, .box 90 [.sl 3 (q.map rcs), .sl 3 (v.map rcs), .v (.bool power), .v (.int .i64 holds)]] (by simp [Eng.E5, Eng.P9]) ?_
   (repeat first | refine uA ?_ | (refine uK ?_ ?_; focus first | omega | (intros; simp_all <;> omega)) | simp (disch := omega) only [go_sem, Nat.reduceBEq, Nat.reduceAdd, ww])
   (refine S.done ?_; simp only [p9, l7, go_sem, Nat.reduceBEq, Nat.reduceAdd, Nat.reduceLeDiff, Int.reduceToNat, Int.reducePow]; (repeat (refine ⟨?_, ?_⟩; focus first | trivial | omega | simp)); exact j3.out rfl (Imp.tup (by (repeat' (first | exact j5.nil | exact Imp.refl rfl | exact Imp.frz rfl rfl rfl | exact Imp.F7 | refine Imp.agg ?_ | refine j5.cons ?_ ?_)))) rfl)
theorem a8x (f g : Fr) (h1 : Rb 4294967296 f.x) (h2 : Rb 4294967296 f.y) (h3 : Rb 268435456 f.t) (h4 : Rb 268435456 g.x) (h5 : Rb 268435456 g.y) (h6 : Rb 268435456 g.t) : FZ 217 [f.c, g.c] (O5 f g).c := by
 refine kW Tryz.func217 (by cbv) (by rfl) fun w O hw => ?_
 have k1 := c0x f ⟨g.x, g.y⟩ h1 h2 h3 h4 h5
 have k2 := b8r f.half f.t g.half g.t (h3.mono (by decide)) (h6.mono (by decide))
 unfold O5 vq tq at *
 generalize Nm.ofQ (a8q f ⟨g.x, g.y⟩) = r1 at *
 generalize Nm.ofQ (a8A f ⟨g.x, g.y⟩) = r2 at *
 generalize a1K f.half (w9 f.half f.t) g.half (w9 g.half g.t) = r3 at *
 obtain ⟨r3, r4⟩ := r3
 simp only at *
 generalize Nm.ofQ r4 = r5 at *
 obtain ⟨fx, fy, fh, ft⟩ := f
 obtain ⟨gx, gy, gh, gt⟩ := g
 simp only [j6]
 simp only [Fr.c, Fr.enc, Vt.c, Vt.enc, vc, tc, sb] at *
 (repeat first | refine uA ?_ | (refine uK ?_ ?_; focus first | omega | (intros; simp_all <;> omega)) | simp (disch := omega) only [go_sem, Nat.reduceBEq, Nat.reduceAdd, ww] | (refine uD k1 ?_ ?_ ?_; exact tz hw; exact rfl) | (refine uD k2 ?_ ?_ ?_; exact tz hw; exact rfl))
 (refine S.done ?_; simp only [p9, l7, go_sem, Nat.reduceBEq, Nat.reduceAdd, Nat.reduceLeDiff, Int.reduceToNat, Int.reducePow]; (repeat (refine ⟨?_, ?_⟩; focus first | trivial | omega | simp)); exact j3.out rfl (Imp.refl rfl) rfl)
theorem b7P (f : Fr) (hf : Fb 1048576 f) : FZ 218 [f.c] (a1k f).c := by
 refine kW Tryz.func218 (by cbv) (by rfl) fun w O hw => ?_
 obtain ⟨h1, h2, h3⟩ := hf
 have k1 := b8s f.half f.t (h3.mono (by decide))
 have k2 := b2w
 have k3 := b0S (Nm.ofQ 0) (Nm.ofQ 0) f.x f.y (L8.mono (by decide)) (L8.mono (by decide)) (h1.mono (by decide)) (h2.mono (by decide))
 rw [Nm.G9] at k3
 have s1 := P7 L8 (h1.fit (by decide))
 have s2 := P7 L8 (h2.fit (by decide))
 have s3 := a6u (U5 (h := f.half) h3 (by decide))
 have k4 := b2N (Nm.ofQ (0 - Nm.d9 f.x)) (Nm.ofQ (0 - Nm.d9 f.y)) (Nm.ofQ (- w9 f.half f.t)) f.half (s1.mono (by decide)) (s2.mono (by decide)) (s3.mono (by decide))
 unfold a1k
 unfold a2Z at k2
 unfold vq tq at *
 generalize Nm.ofQ (Nm.d9 (Nm.ofQ (0 - Nm.d9 f.x)) * R4 f.half (w9 f.half (Nm.ofQ (- w9 f.half f.t))) - Nm.d9 (Nm.ofQ (0 - Nm.d9 f.y)) * R3 (w9 f.half (Nm.ofQ (- w9 f.half f.t)))) = r1 at *
 generalize Nm.ofQ (Nm.d9 (Nm.ofQ (0 - Nm.d9 f.x)) * R3 (w9 f.half (Nm.ofQ (- w9 f.half f.t))) + Nm.d9 (Nm.ofQ (0 - Nm.d9 f.y)) * R4 f.half (w9 f.half (Nm.ofQ (- w9 f.half f.t)))) = r2 at *
 generalize Nm.ofQ (0 - Nm.d9 f.x) = r3 at *
 generalize Nm.ofQ (0 - Nm.d9 f.y) = r4 at *
 generalize Nm.ofQ (- w9 f.half f.t) = r5 at *
 generalize Nm.ofQ 0 = z at *
 obtain ⟨fx, fy, fh, ft⟩ := f
 simp only [j6]
 simp only [Fr.c, Fr.enc, vc, tc, sb] at *
 (repeat first | refine uA ?_ | (refine uK ?_ ?_; focus first | omega | (intros; simp_all <;> omega)) | simp (disch := omega) only [go_sem, Nat.reduceBEq, Nat.reduceAdd, ww] | (refine uD k1 ?_ ?_ ?_; exact tz hw; exact rfl) | (refine uD k2 ?_ ?_ ?_; exact tz hw; exact rfl) | (refine uD k3 ?_ ?_ ?_; exact tz hw; exact rfl) | (refine uD k4 ?_ ?_ ?_; exact tz hw; exact rfl))
 (refine S.done ?_; simp only [p9, l7, go_sem, Nat.reduceBEq, Nat.reduceAdd, Nat.reduceLeDiff, Int.reduceToNat, Int.reducePow]; (repeat (refine ⟨?_, ?_⟩; focus first | trivial | omega | simp)); exact j3.out rfl (Imp.refl rfl) rfl)
theorem b7R {f : Fr} {c : Vt} {x t k : Nat} (hx : Rb x f.x) (hy : Rb x f.y) (ht : Rb t f.t) (hc1 : Rb k c.x) (hc2 : Rb k c.y) (h1 : 1 <= x) (h2 : 1 <= t) (h3 : 1 <= k) : Rb (x + 2 * (k + 4 * t + 18) + 2) (Nm.ofQ (a8q f c)) /\ Rb (x + 2 * (k + 4 * t + 18) + 2) (Nm.ofQ (a8A f c)) := by
 have g1 := a7Z f.half (U5 (h := f.half) ht h2)
 have g2 := a7L (U5 (h := f.half) ht h2)
 have g3 := hc1.fit h3
 have g4 := hc2.fit h3
 unfold a8q a8A
 exact ⟨(Q8 (hx.fit h1) (P7 (I9 g3 g1) (I9 g4 g2))).mono (by omega), (Q8 (hy.fit h1) (Q8 (I9 g3 g2) (I9 g4 g1))).mono (by omega)⟩
theorem b6X {h1 h2 : Bool} {p q : Rat} {a b : Nat} (hp : Rb a (Nm.ofQ p)) (hq : Rb b (Nm.ofQ q)) : Rb (2 * (a + b) + 16) (Nm.ofQ (a1K h1 p h2 q).2) := by
 have kb : Rb 8 (Nm.ofQ (-1)) := ⟨Nm.G5 (by decide), Nm.G5 (by decide)⟩
 have kz : Rb (2 * (a + b) + 16) (Nm.ofQ 0) := L8.mono (by omega)
 unfold a1K
 split
 ·exact kz
 split
 ·split
  ·exact kz
  ·rename_i h; exact (a3H h kb hq).mono (by omega)
 split
 ·split
  ·exact kz
  ·rename_i h; exact (a3H h kb hp).mono (by omega)
 split
 ·exact kz
 ·rename_i h; exact (a3H h (Q8 hp hq) (P7 Y8 (I9 hp hq))).mono (by omega)
theorem b1j {f g : Fr} {x t k u : Nat} (hx : Rb x f.x) (hy : Rb x f.y) (ht : Rb t f.t) (hc1 : Rb k g.x) (hc2 : Rb k g.y) (hu : Rb u g.t) (h1 : 1 <= x) (h2 : 1 <= t) (h3 : 1 <= k) (h4 : 1 <= u) :
  Rb (x + 2 * (k + 4 * t + 18) + 2) (O5 f g).x /\ Rb (x + 2 * (k + 4 * t + 18) + 2) (O5 f g).y /\ Rb (2 * (t + u) + 16) (O5 f g).t := by
 obtain ⟨a, b⟩ := b7R (c := ⟨g.x, g.y⟩) hx hy ht hc1 hc2 h1 h2 h3
 exact ⟨a, b, b6X (U5 ht h2) (U5 hu h4)⟩
def tB : Nat -> Nat
 | 0 => 8
 | n + 1 => 2 * (2 * (tB n + 2097664) + 16 + 8) + 16
def xB : Nat -> Nat
 | 0 => 8
 | n + 1 => xB n + 2 * (8 + 4 * tB n + 18) + 2 + 2 * (8 + 4 * (2 * (tB n + 2097664) + 16) + 18) + 2
theorem b1t {i : Nat} (h : i <= 3) : 8 <= tB i /\ 8 <= xB i /\ tB i <= 176205632 /\ xB i <= 1308956300 := by
 have : i = 0 \/ i = 1 \/ i = 2 \/ i = 3 := by omega
 rcases this with rfl | rfl | rfl | rfl <;> decide
theorem b_lt {i : Nat} (h : i < 3) : 2 * (tB i + 2097664) + 16 <= 88102800 /\ xB i + 2 * (8 + 4 * tB i + 18) + 2 <= 604133846 := by
 have : i = 0 \/ i = 1 \/ i = 2 := by omega
 rcases this with rfl | rfl | rfl <;> decide
def Fx (i : Nat) (f : Fr) : Prop := Rb (xB i) f.x /\ Rb (xB i) f.y /\ Rb (tB i) f.t
theorem a6s {e : Fr} {i : Nat} {q : Nm.Rt} (he : Fx i e) (hi : i < 3) (hq : Rb 2097664 q) : Rb (xB i + 2 * (8 + 4 * tB i + 18) + 2) (O5 e (a0o q)).x /\ Rb (xB i + 2 * (8 + 4 * tB i + 18) + 2) (O5 e (a0o q)).y /\ Rb (2 * (tB i + 2097664) + 16) (O5 e (a0o q)).t := by
 have hb := b1t (show i <= 3 by omega)
 exact b1j he.1 he.2.1 he.2.2 L8 L8 (hq.fit (by decide)) (by omega) (by omega) (by omega) (by decide)
theorem b4U {e : Fr} {i : Nat} {q : Nm.Rt} {l : Lk} (he : Fx i e) (hi : i < 3) (hq : Rb 2097664 q) (hl : Rb 8 l.length) : Fx (i + 1) (O5 (O5 e (a0o q)) (a4V l)) := by
 obtain ⟨h1, h2, h3⟩ := a6s he hi hq
 exact b1j h1 h2 h3 hl L8 L8 (by omega) (by omega) (by omega) (by decide)
theorem b4A {a : Am} (h : J8 a = 0) : Fx 0 a.base /\ ∀ l ∈ a.links, Rb 8 l.length := by
 have hl := (a1v h).2
 unfold J8 at h
 split at h
 ·cases h
 split at h
 ·cases h
 split at h
 ·cases h
 rename_i h1
 have hs : (j4 a.base.x && j4 a.base.y && j4 a.base.t) = true := by
  cases hb : (j4 a.base.x && j4 a.base.y && j4 a.base.t) with
  | true => rfl
  | false => exact absurd (.inr (.inl hb)) h1
 simp only [c1B] at hs
 refine ⟨⟨(a2j hs.1.1).mono (by decide), (a2j hs.1.2).mono (by decide), (a2j hs.2).mono (by decide)⟩, fun l hm => ?_⟩
 have := hl l hm
 unfold U3 at this
 split at this
 ·cases this
 rename_i h2
 have hs2 : (j4 l.length && j4 l.low && j4 l.high && j4 l.speed && j4 l.brake) = true := by
  cases hb : (j4 l.length && j4 l.low && j4 l.high && j4 l.speed && j4 l.brake) with
  | true => rfl
  | false => exact absurd (.inl hb) h2
 simp only [c1B] at hs2
 exact (a2j hs2.1.1.1.1).mono (by decide)
theorem b7o : ∀ (z : List (Lk × Nm.Rt)) (e : Fr) (i : Nat), Fx i e -> i + z.length <= 3 -> (∀ y ∈ z, Rb 8 y.1.length /\ Rb 2097664 y.2) -> Fx (i + z.length) (a2N e z)
 | [], e, i, he, _, _ => he
 | (l, q) :: r, e, i, he, hi, hz => by
  simp only [c1M] at hi
  have h1 := b4U (l := l) he (by omega) (hz (l, q) (by simp)).2 (hz (l, q) (by simp)).1
  have h2 := b7o r _ (i + 1) h1 (by omega) fun y hy => hz y (by simp [hy])
  simp only [a2N, c1M]
  rwa [show i + 1 + r.length = i + (r.length + 1) by omega] at h2
theorem b5Y (a : Am) (q : List Nm.Rt) (hl : Ab 1073741824 a) (ha : J8 a = 0) (hql : q.length = a.links.length) (hq : ∀ r ∈ q, Rb 2097664 r) : FZ 220 [a.c, rts q] (.tup [frs (a0E a.base (a.links.zip q)), ints 0]) := by
 refine kW Tryz.func220 (by cbv) (by rfl) fun w O hw => ?_
 have h := b4p a q.length hl
 rw [b9h ha (by omega)] at h
 have hz := a9M
 have ht := a5s (Nm.ofQ 0) (L8.mono (by decide))
 rw [Nm.G9] at ht
 obtain ⟨fb, lb⟩ := b4A ha
 have hn3 := (a3d ha).2
 have hn := hl.2.2.1
 obtain ⟨name, base, links⟩ := a
 simp only at hql fb lb hn3 hn ⊢
 have t1 := fun (e : Fr) (i : Nat) (l : Lk) (r : Nm.Rt) (he : Fx i e) (hi : i < 3) (hr : Rb 2097664 r) => a8x e (a0o r) (he.1.mono (by have := b1t (show i <= 3 by omega); omega)) (he.2.1.mono (by have := b1t (show i <= 3 by omega); omega)) (he.2.2.mono (by have := b1t (show i <= 3 by omega); omega)) (L8.mono (by decide)) (L8.mono (by decide)) ((hr.fit (by decide)).mono (by decide))
 have t2 := fun (e : Fr) (i : Nat) (l : Lk) (r : Nm.Rt) (he : Fx i e) (hi : i < 3) (hr : Rb 2097664 r) (hl : Rb 8 l.length) => a8x (O5 e (a0o r)) (a4V l) ((a6s he hi hr).1.mono (by have := b_lt hi; omega)) ((a6s he hi hr).2.1.mono (by have := b_lt hi; omega)) ((a6s he hi hr).2.2.mono (by have := b_lt hi; omega)) (hl.mono (by decide)) (L8.mono (by decide)) (L8.mono (by decide))
 simp only [j6]
 unfold rq at hz
 unfold tq at ht
 have hj : ∀ r, a0o r = ⟨Nm.ofQ 0, Nm.ofQ 0, false, Nm.ofQ (Nm.d9 r)⟩ := fun _ => rfl
 have hlg : ∀ l : Lk, a4V l = ⟨l.length, Nm.ofQ 0, false, Nm.ofQ 0⟩ := fun _ => rfl
 generalize Nm.ofQ 0 = z at *
 simp only [Am.c, Am.enc, lks, rts, rc, tc, sb, ints] at h hz ht ⊢
 (repeat first | refine uA ?_ | (refine uK ?_ ?_; focus first | omega | (intros; simp_all <;> omega)) | simp (disch := omega) only [go_sem, Nat.reduceBEq, Nat.reduceAdd, ww, c1q] | (refine uD h ?_ ?_ ?_; exact tz hw; exact rfl))
 refine S.cond rfl (fun hc => by simp at hc) (fun hc => ?_)
 (repeat first | refine uA ?_ | (refine uK ?_ ?_; focus first | omega | (intros; simp_all <;> omega)) | simp (disch := omega) only [go_sem, Nat.reduceBEq, Nat.reduceAdd, ww, c1q] | (refine uD hz ?_ ?_ ?_; exact tz hw; exact rfl) | (refine uD ht ?_ ?_ ?_; exact tz hw; exact rfl))
 refine S.loop (X := Nat × Fr × List Fr) (fun x => ⟨[(1, rts q), (7, .bp 1 0), (8, .bp 2 0), (9, .bp 3 0), (10, .rv 4), (29, lks links), (30, ints links.length), (31, ints x.1)], [.gone, .box 55 x.2.1.enc, .box 51 [.v (.bool z.neg), sb z.num, sb z.den, .v (.bool z.neg), sb z.num, sb z.den], .box 53 [.v (.bool false), .v (.bool z.neg), sb z.num, sb z.den], .row 55 10 (x.2.2.map Fr.enc)]⟩)
  (fun x => x.1 <= links.length /\ x.2.2.length = x.1 /\ a0E base (links.zip q) = x.2.2 ++ a0E x.2.1 ((links.zip q).drop x.1) /\ Fx x.1 x.2.1) (fun x => links.length - x.1) (0, base, []) ⟨c1y _, rfl, rfl, fb⟩ (Ent.trans (Ent.pack 10 55 10 rfl) (by simp only [Fr.enc, sb]; exact (by (repeat first | refine uA ?_ | (refine ⟨?_, ?_⟩; focus first | rfl | simp [slot]) | rfl | simp)))) ?_
 rintro ⟨i, e, outs⟩ ⟨hi, ho, hg, hF⟩
 simp only at hi ho hg hF
 simp only [rts, lks, sb, ints, Fr.enc]
 (repeat first | refine uA ?_ | (refine uK ?_ ?_; focus first | omega | (intros; simp_all <;> omega)) | simp (disch := omega) only [go_sem, Nat.reduceBEq, Nat.reduceAdd, ww])
 (refine uJ rfl (fun hc => ?_) fun hc => ?_)
 ·have hi' : i < links.length := by omega
  have hgl := c1p hi'
  have hgq := c1p (show i < q.length by omega)
  generalize links[i] = l at hgl
  generalize q[i]'_ = r at hgq
  have hr := hq r (c1t hgq)
  have hb := lb l (c1t hgl)
  have k1 := t1 e i l r hF (by omega) hr
  have k2 := t2 e i l r hF (by omega) hr hb
  have k3 := a5s r (hr.mono (by decide))
  have hF' := b4U (l := l) hF (by omega) hr hb
  rw [drop_at (M4 hgl hgq), a0E] at hg
  unfold tq at k3
  generalize O5 (O5 e (a0o r)) (a4V l) = e2 at *
  generalize O5 e (a0o r) = f at *
  rw [hj] at k1
  rw [hlg] at k2
  generalize Nm.ofQ (Nm.d9 r) = y at *
  have hqi : (i : Int) < q.length := by omega
  simp only [Fr.c, Fr.enc, rc, tc, sb] at k1 k2 k3
  (repeat first | refine uA ?_ | (refine uK ?_ ?_; focus first | omega | (intros; simp_all <;> omega)) | simp (disch := omega) only [go_sem, Nat.reduceBEq, Nat.reduceAdd, ww, hgl, hgq, c1r, c1q, Lk.enc, rcs, vts, sb, ho, c1u] | (refine uD hz ?_ ?_ ?_; exact tz hw; exact rfl) | (refine uD k1 ?_ ?_ ?_; exact tz hw; exact rfl) | (refine uD k2 ?_ ?_ ?_; exact tz hw; exact rfl) | (refine uD k3 ?_ ?_ ?_; exact tz hw; exact rfl))
  refine S.next (x := (i, e, outs)) (i + 1, e2, outs ++ [f]) ⟨by simp only; omega, by simp only [c1s, ho]; rfl, by simp only; rw [hg, c1T]; rfl, hF'⟩ (by simp only; omega) (by simp only [c2h, c1J, c1N, Fr.enc, sb]; exact (by (repeat first | refine uA ?_ | (refine ⟨?_, ?_⟩; focus first | rfl | simp [slot]) | rfl | simp)))
 ·rw [List.drop_eq_nil_of_le (by rw [List.length_zip]; omega), a0E] at hg
  rw [hg]
  (repeat first | refine uA ?_ | (refine uK ?_ ?_; focus first | omega | (intros; simp_all <;> omega)) | simp (disch := omega) only [go_sem, Nat.reduceBEq, Nat.reduceAdd, ww, c1q])
  simp only [frs, c2h, c1J, c1N, Fr.enc, sb]
  (refine S.done ?_; simp only [p9, l7, go_sem, Nat.reduceBEq, Nat.reduceAdd, Nat.reduceLeDiff, Int.reduceToNat, Int.reducePow]; (repeat (refine ⟨?_, ?_⟩; focus first | trivial | omega | simp)); exact j3.out rfl (Imp.tup (by (repeat' (first | exact j5.nil | exact Imp.refl rfl | exact Imp.frz rfl rfl rfl | exact Imp.F7 | refine Imp.agg ?_ | refine j5.cons ?_ ?_)))) rfl)
theorem c0n (a : Am) (q : List Nm.Rt) (hl : Ab 1073741824 a) (ha : J8 a = 0) (hql : q.length = a.links.length) (hq : ∀ r ∈ q, Rb 2097664 r) : FZ 165 [a.c, rts q] (.tup [(a2N a.base (a.links.zip q)).c, ints 0]) := by
 refine kW Tryz.func165 (by cbv) (by rfl) fun w O hw => ?_
 have h := b5Y a q hl ha hql hq
 obtain ⟨h1, h2⟩ := a6P (a.links.zip q) a.base
 have hn : (a.links.zip q).length <= 1073741824 := by rw [List.length_zip]; have := hl.2.2.1; omega
 generalize a0E a.base (a.links.zip q) = L at *
 generalize a2N a.base (a.links.zip q) = T at *
 generalize (a.links.zip q).length = n at *
 obtain ⟨name, base, links⟩ := a
 simp only [j6]
 simp only [Am.c, Am.enc, lks, rts, frs, Fr.c, Fr.enc, sb, ints] at h ⊢
 have e1 : ((L.length : Int) - 1) = (n : Int) := by omega
 have e2 : (n : Int) < L.length := by omega
 (repeat first | refine uA ?_ | (refine uK ?_ ?_; focus first | omega | (intros; simp_all <;> omega)) | simp (disch := omega) only [go_sem, Nat.reduceBEq, Nat.reduceAdd, ww] | (refine uD h ?_ ?_ ?_; exact tz hw; exact rfl))
 refine S.cond rfl (fun hc => by simp at hc) (fun hc => ?_)
 (repeat first | refine uA ?_ | (refine uK ?_ ?_; focus first | omega | (intros; simp_all <;> omega)) | simp (disch := omega) only [go_sem, Nat.reduceBEq, Nat.reduceAdd, ww, c1q, e1, h1, c1r, Fr.enc, sb, c1u])
 (refine S.done ?_; simp only [p9, l7, go_sem, Nat.reduceBEq, Nat.reduceAdd, Nat.reduceLeDiff, Int.reduceToNat, Int.reducePow]; (repeat (refine ⟨?_, ?_⟩; focus first | trivial | omega | simp)); exact j3.out rfl (Imp.tup (by (repeat' (first | exact j5.nil | exact Imp.refl rfl | exact Imp.frz rfl rfl rfl | exact Imp.F7 | refine Imp.agg ?_ | refine j5.cons ?_ ?_)))) rfl)
theorem b9I {f : Fr} (h : Fb 1048576 f) : Rb 268435456 (a1k f).x /\ Rb 268435456 (a1k f).y /\ Rb 268435456 (a1k f).t := by
 obtain ⟨c1, c2, c3⟩ := h
 have s1 := (P7 L8 (c1.fit (by decide)))
 have s2 := (P7 L8 (c2.fit (by decide)))
 have s3 := a6u (U5 (h := f.half) c3 (by decide))
 have g1 := a7Z f.half (U5 (h := f.half) s3 (by decide))
 have g2 := a7L (U5 (h := f.half) s3 (by decide))
 have s4 := s1.fit (by decide)
 have s5 := s2.fit (by decide)
 unfold a1k
 exact ⟨(P7 (I9 s4 g1) (I9 s5 g2)).mono (by decide), (Q8 (I9 s4 g2) (I9 s5 g1)).mono (by decide), s3.mono (by decide)⟩
theorem b4N {w : Wk} {n : Nat} {q : List Nm.Rt} {a : Am} {p : Nat} {pt : Pt} (hwb : Wb 1048576 w) (ga : w.arms[n]? = some a) (gp : w.parts[p]? = some pt) (ha : J8 a = 0) (hql : q.length = a.links.length) (hq : ∀ r ∈ q, Rb 2097664 r) : FZ 217 [(a2N a.base (a.links.zip q)).c, (a1k pt.grasp).c] (O5 (a2N a.base (a.links.zip q)) (a1k pt.grasp)).c := by
 have hb := hwb.parts.2 pt (c1t gp)
 obtain ⟨fb, lb⟩ := b4A ha
 have ht := b7o (a.links.zip q) a.base 0 fb (by have := (a3d ha).2; rw [List.length_zip]; omega) fun y hy => ⟨lb _ (List.of_mem_zip hy).1, hq _ (List.of_mem_zip hy).2⟩
 have hc := b1t (show 0 + (a.links.zip q).length <= 3 by have := (a3d ha).2; rw [List.length_zip]; omega)
 have hk := b9I hb.2.2
 exact a8x (a2N a.base (a.links.zip q)) (a1k pt.grasp) (ht.1.mono (by omega)) (ht.2.1.mono (by omega)) (ht.2.2.mono (by omega)) hk.1 hk.2.1 hk.2.2
theorem b4O (w : Wk) (n : Nat) (x : Ast) (a : Am) (p : Nat) (pt : Pt) (hwb : Wb 1048576 w) (ga : w.arms[n]? = some a) (gp : w.parts[p]? = some pt) (hx : x.holds = p) (ha : J8 a = 0) (hql : x.q.length = a.links.length) (hq : ∀ r ∈ x.q, Rb 2097664 r) :
  FZ 160 [w.c, .v (.int .i64 (n : Int)), x.c] (.tup [(a6C a x.q pt.grasp).c, ints 0]) := by
 refine kW Tryz.func160 (by cbv) (by rfl) fun w' O hw => ?_
 obtain ⟨n1, b1⟩ := hwb.arms
 obtain ⟨n2, b2⟩ := hwb.parts
 have h1 := c0n a x.q ((b1 a (c1t ga)).mono (by decide)) ha hql hq
 have h2 := b7P pt.grasp (b2 pt (c1t gp)).2.2
 have h3 := b4N hwb ga gp ha hql hq
 unfold a6C
 have na := (c1z.1 ga).1
 have np := (c1z.1 gp).1
 generalize a2N a.base (a.links.zip x.q) = T at *
 generalize O5 T (a1k pt.grasp) = R at *
 generalize a1k pt.grasp = B at *
 obtain ⟨q, v, power, holds⟩ := x
 obtain ⟨arms, walls, parts, slots, gates, walk⟩ := w
 simp only at ga gp na np hx h1 ⊢
 subst hx
 have na' : (n : Int) < arms.length := by omega
 have np' : (p : Int) < parts.length := by omega
 simp only [j6]
 simp only [Wk.c, Wk.enc, Am.c, Am.enc, Ast.c, Ast.enc, Fr.c, Fr.enc, ams, wls, pts, sls, gts, lks, rts, sb, ints] at h1 h2 h3 ⊢
 (repeat first | refine uA ?_ | (refine uK ?_ ?_; focus first | omega | (intros; simp_all <;> omega)) | simp (disch := omega) only [go_sem, Nat.reduceBEq, Nat.reduceAdd, ww, ga, c1r, c1q, Am.enc, lks, sb, c1u] | (refine uD h1 ?_ ?_ ?_; exact tz hw; exact rfl))
 refine S.cond rfl (fun hc => by simp at hc) (fun hc => ?_)
 (repeat first | refine uA ?_ | (refine uK ?_ ?_; focus first | omega | (intros; simp_all <;> omega)) | simp (disch := omega) only [go_sem, Nat.reduceBEq, Nat.reduceAdd, ww, gp, c1r, c1q, Pt.enc, vts, sb, c1u] | (refine uD h2 ?_ ?_ ?_; exact tz hw; exact rfl) | (refine uD h3 ?_ ?_ ?_; exact tz hw; exact rfl))
 (refine S.done ?_; simp only [p9, l7, go_sem, Nat.reduceBEq, Nat.reduceAdd, Nat.reduceLeDiff, Int.reduceToNat, Int.reducePow]; (repeat (refine ⟨?_, ?_⟩; focus first | trivial | omega | simp)); exact j3.out rfl (Imp.tup (by (repeat' (first | exact j5.nil | exact Imp.refl rfl | exact Imp.frz rfl rfl rfl | exact Imp.F7 | refine Imp.agg ?_ | refine j5.cons ?_ ?_)))) rfl)
def c0v : List Nat := [60, 63]
def c1g (f : Nat) : Bool := c0v.contains f
set_option maxHeartbeats 16000000
theorem b4K {E : Ctx} (hP : E.P = Tryz.prog) (s : Stt) (hs : Stb 1073741824 s) :
  l8 E [] 42 [s.c] (.agg [ints s.tick, F5 s.arms, frs s.parts, .rv 2, .rv 3]) [.gone, .gone, .row 51 6 (s.people.map Vt.enc), .row 4 1 (s.gates.map fun b => [.v (.bool b)])] [] := by
 obtain ⟨P, eff', N, w0, own0, av0, nu0, pk0⟩ := E
 simp only at hP
 subst hP
 refine l8.of (eff := c1g) Tryz.func42 (by cbv) (by exact c1I rfl) fun w own av ν hν => ?_
 have hν0 : ν.length <= 0 := by rw [hν]; exact c1A _
 obtain ⟨⟨n1, b1⟩, ⟨n2, b2⟩, ⟨n3, b3⟩, n4⟩ := hs
 obtain ⟨tick, arms, parts, people, gates⟩ := s
 simp only at n1 b1 n2 n3 n4 ⊢
 have c1 := a7A (parts.map Fr.enc) (by rw [c1q]; exact n2)
 have c2 := a7r (people.map Vt.enc) (by rw [c1q]; exact n3)
 have c3 := a6c (gates.map fun b => [.v (.bool b)]) (by rw [c1q]; exact n4)
 simp only [j6]
 simp only [Stt.c, Stt.enc, F5, frs, vts, bls, ints]
 (repeat first | refine uI ?_ | (refine uK ?_ ?_; focus first | omega | (intros; simp_all <;> omega)) | simp (disch := omega) only [go_sem, Nat.reduceBEq, Nat.reduceAdd, ww])
 refine S.K3 [.box 37 [.v (.int .i64 tick), .sl 4 (arms.map Ast.enc), .sl 10 (parts.map Fr.enc), .sl 6 (people.map Vt.enc), .sl 1 (gates.map fun b => [.v (.bool b)])]] (by simp [Eng.E5, Eng.P9]) ?_
 (repeat first | refine uA ?_ | (refine uK ?_ ?_; focus first | omega | (intros; simp_all <;> omega)) | simp (disch := omega) only [go_sem, Nat.reduceBEq, Nat.reduceAdd, ww, E5, c1q] | refine l9.t (FNew.t c2 rfl) ?_ | refine l9.t (FNew.t c3 rfl) ?_ | (refine uB c1.spec ?_ ?_; exact rfl))
 refine S.loop (X := Nat) (fun i => ⟨[(2, .bp 1 0), (3, .bp 4 0), (19, F5 arms), (20, ints arms.length), (21, ints i)], [.gone, .box 37 [.v (.int .i64 0), .v (.slice none 0 0), .v (.slice none 0 0), .v (.slice none 0 0), .v (.slice none 0 0)], .row 51 6 (people.map Vt.enc), .row 4 1 (gates.map fun b => [.v (.bool b)]), .box 37 [ints tick, .rv 5, frs parts, .rv 2, .rv 3], .row 90 4 ((arms.take i).map Ast.enc)]⟩) (fun i => i <= arms.length) (fun i => arms.length - i) 0 (c1y _)
  (Ent.trans (Ent.a2x 4 1 90 4 rfl rfl rfl) (by (repeat first | refine uA ?_ | (refine ⟨?_, ?_⟩; focus first | rfl | simp [slot]) | rfl | simp | exact c1v hν0 (by simp)))) ?_
 intro i hi
 simp only [F5, frs, ints]
 (repeat first | refine uA ?_ | (refine uK ?_ ?_; focus first | omega | (intros; simp_all <;> omega)) | simp (disch := omega) only [go_sem, Nat.reduceBEq, Nat.reduceAdd, ww])
 (refine uJ rfl (fun hc => ?_) fun hc => ?_)
 ·have hi' : i < arms.length := by omega
  have hgi := c1p hi'
  have hap : arms.take (i + 1) = arms.take i ++ [arms[i]] := c2g hi'
  generalize arms[i] = x at hgi hap
  obtain ⟨⟨q1, _⟩, ⟨q2, _⟩⟩ := b1 x (c1t hgi)
  have e1 := (a1m (x.q.map rcs) (by rw [c1q]; exact q1)).spec
  have e2 := (a1m (x.v.map rcs) (by rw [c1q]; exact q2)).spec
  have htl : (arms.take i).length = i := by rw [c1D]; omega
  (repeat first | refine uA ?_ | (refine uK ?_ ?_; focus first | omega | (intros; simp_all <;> omega)) | simp (disch := omega) only [go_sem, Nat.reduceBEq, Nat.reduceAdd, ww, hgi, c1r, c1q, Ast.enc, rts, ints, htl] | (refine uB e1 ?_ ?_; exact rfl) | (refine uB e2 ?_ ?_; exact rfl))
  refine S.next (i + 1) (by omega) (by omega) (by simp only [hap, c2h, c1J, c1N, Ast.enc, rts, ints]; exact (by (repeat first | refine uA ?_ | (refine ⟨?_, ?_⟩; focus first | rfl | simp [slot]) | rfl | simp | exact c1v hν0 (by simp))))
 ·have hi' : i = arms.length := by omega
  subst hi'
  rw [c1L]
  (repeat first | refine uA ?_ | (refine uK ?_ ?_; focus first | omega | (intros; simp_all <;> omega)) | simp (disch := omega) only [go_sem, Nat.reduceBEq, Nat.reduceAdd, ww])
  (refine S.done ?_; simp only [p9, l7, go_sem, Nat.reduceBEq, Nat.reduceAdd, Nat.reduceLeDiff, Int.reduceToNat, Int.reducePow]; (repeat (refine ⟨?_, ?_⟩; focus first | trivial | omega | simp)); exact j3.M8 (Imp.agg (by (repeat' (first | exact j5.nil | exact Imp.refl rfl | exact Imp.frz rfl rfl rfl | exact Imp.F7 | refine j5.cons ?_ ?_)))) (by (repeat first | refine uA ?_ | (refine ⟨?_, ?_⟩; focus first | rfl | simp [slot]) | rfl | simp)) (c1v hν0 (by simp)))
def a0L : List C := [.v (.int .i64 0), .v (.slice none 0 0), .v (.slice none 0 0), .v (.slice none 0 0), .v (.slice none 0 0)]
theorem b9T (w : Wk) (s : Stt) (g : Nat) (is : Bool) (hwb : Wb 1073741824 w) (hs : Stb 1073741824 s) (h : H8 w s = 0) :
  FZ 58 [w.c, s.c, .v (.int .i64 (g : Int)), .v (.bool is)] (if g < w.gates.length then .tup [(Stt.mk s.tick s.arms s.parts s.people (s.gates.set g is)).c, ints 0] else .tup [.agg a0L, ints 1]) := by
 refine kW a6g a5U (by rfl) fun w' O hw => ?_
 have hck := a3r w s hwb hs
 rw [h] at hck
 have hcp := fun (E : Ctx) (hP : E.P = Tryz.prog) => b4K hP s hs
 have n4 := hs.gates
 have n5 := hwb.gates.1
 have hgl : s.gates.length = w.gates.length := by
  unfold H8 at h
  split at h
  ·rename_i h1; exact absurd h h1
  ·split at h
   ·cases h
   ·split at h
    ·cases h
    ·omega
 obtain ⟨arms, walls, parts, slots, gates, walk⟩ := w
 obtain ⟨tick, sarms, sparts, people, sgates⟩ := s
 simp only at n4 n5 hgl ⊢
 simp only [a3E, j6, TT, II, OA, OB, OC, MM, LL, VV, FF, MG, LG, VG, FG]
 simp only [Wk.c, Wk.enc, Stt.c, Stt.enc, ams, wls, pts, sls, gts, F5, frs, vts, bls, sb, ints] at hck hcp ⊢
 (repeat first | refine uA ?_ | (refine uK ?_ ?_; focus first | omega | (intros; simp_all <;> omega)) | simp (disch := omega) only [go_sem, Nat.reduceBEq, Nat.reduceAdd, ww] | (refine uD hck ?_ ?_ ?_; exact tz hw; exact rfl))
 refine S.cond rfl (fun hc => by simp at hc) (fun hc => ?_)
 (repeat first | refine uA ?_ | (refine uK ?_ ?_; focus first | omega | (intros; simp_all <;> omega)) | simp (disch := omega) only [go_sem, Nat.reduceBEq, Nat.reduceAdd, ww, c1q])
 by_cases hg : g < gates.length
 ·rw [if_pos hg]
  refine S.cond rfl (fun hc => by simp at hc; omega) (fun hc => ?_)
  have hset : (sgates.map fun b => [C.v (Value.bool b)]).set g [C.v (Value.bool is)] = (sgates.set g is).map fun b => [C.v (Value.bool b)] := by rw [List.map_set]
  have hgg : sgates[g]? = some (sgates[g]'(by omega)) := c1p (by omega)
  (repeat first | refine uA ?_ | (refine uK ?_ ?_; focus first | omega | (intros; simp_all <;> omega)) | simp (disch := omega) only [go_sem, Nat.reduceBEq, Nat.reduceAdd, ww, C.sh, C.shL, c1M, List.length_nil, c1q, hset, hgg, c1r, c1u] | refine l9.t (l8.pre (hcp _ rfl) rfl rfl rfl) ?_)
  (refine S.done ?_; simp only [p9, l7, go_sem, Nat.reduceBEq, Nat.reduceAdd, Nat.reduceLeDiff, Int.reduceToNat, Int.reducePow]; (repeat (refine ⟨?_, ?_⟩; focus first | trivial | omega | simp)); exact j3.out rfl (Imp.tup (by (repeat' (first | exact j5.nil | exact Imp.refl rfl | exact Imp.frz rfl rfl rfl | exact Imp.F7 | refine Imp.agg ?_ | refine j5.cons ?_ ?_)))) rfl)
 ·rw [if_neg hg]
  refine S.cond rfl (fun hc => ?_) (fun hc => by simp at hc; omega)
  (repeat first | refine uA ?_ | (refine uK ?_ ?_; focus first | omega | (intros; simp_all <;> omega)) | simp (disch := omega) only [go_sem, Nat.reduceBEq, Nat.reduceAdd, ww])
  (refine S.done ?_; simp only [p9, l7, go_sem, Nat.reduceBEq, Nat.reduceAdd, Nat.reduceLeDiff, Int.reduceToNat, Int.reducePow]; (repeat (refine ⟨?_, ?_⟩; focus first | trivial | omega | simp)); exact j3.out rfl (Imp.tup (by (repeat' (first | exact j5.nil | exact Imp.refl rfl | exact Imp.frz rfl rfl rfl | exact Imp.F7 | refine Imp.agg ?_ | refine j5.cons ?_ ?_)))) rfl)
theorem a6Q {w : Wk} {s : Stt} (h : H8 w s = 0) : s.gates.length = w.gates.length := by
 unfold H8 at h
 split at h
 ·rename_i h1; exact absurd h h1
 ·split at h
  ·cases h
  ·split at h
   ·cases h
   ·omega
def a2c (v : Vt) (z : Gt) : Prop := Nm.q8 (Nm.d9 v.x) (Nm.d9 z.low.x) < 0 \/ 0 < Nm.q8 (Nm.d9 v.x) (Nm.d9 z.high.x) \/ Nm.q8 (Nm.d9 v.y) (Nm.d9 z.low.y) < 0 \/ 0 < Nm.q8 (Nm.d9 v.y) (Nm.d9 z.high.y)
instance (v : Vt) (z : Gt) : Decidable (a2c v z) := by unfold a2c; infer_instance
theorem b8w (w : Wk) (s : Stt) (g : Nat) (v : Vt) (z : Gt) (o : Bool) (hwb : Wb 1073741824 w) (hs : Stb 1073741824 s) (h : H8 w s = 0) (hz : w.gates[g]? = some z) (ho : s.gates[g]? = some o) (hv : Vb 1073741824 v) (g1 : v.x.A8) (g2 : v.y.A8) :
  FZ 59 [w.c, s.c, .v (.int .i64 (g : Int)), v.c] (if o = false then .tup [.agg a0L, ints 7] else if a2c v z then .tup [.agg a0L, ints 17] else if s.people.length = 4 then .tup [.agg a0L, ints 6] else .tup [(Stt.mk s.tick s.arms s.parts (s.people ++ [v]) s.gates).c, ints 0]) := by
 refine kW a5v a5x (by rfl) fun w' O hw => ?_
 have hck := a3r w s hwb hs
 rw [h] at hck
 have hcp := fun (E : Ctx) (hP : E.P = Tryz.prog) => b4K hP s hs
 have n3 := hs.people.1
 have n4 := hs.gates
 have n5 := hwb.gates.1
 have hgl := a6Q h
 have hgi : g < w.gates.length := (c1z.1 hz).1
 have hzb := hwb.gates.2 z (c1t hz)
 obtain ⟨_, ⟨zb1, zb2⟩, ⟨zb3, zb4⟩⟩ := hzb
 have o1 := P5 v.x (hv.1.mono (by decide))
 have o2 := P5 v.y (hv.2.mono (by decide))
 rw [decide_eq_true g1] at o1
 rw [decide_eq_true g2] at o2
 have o3 := K7 v.x z.low.x (hv.1.mono (by decide)) (zb1.mono (by decide))
 have o4 := K7 v.x z.high.x (hv.1.mono (by decide)) (zb3.mono (by decide))
 have o5 := K7 v.y z.low.y (hv.2.mono (by decide)) (zb2.mono (by decide))
 have o6 := K7 v.y z.high.y (hv.2.mono (by decide)) (zb4.mono (by decide))
 have hout : a2c v z = (Nm.q8 (Nm.d9 v.x) (Nm.d9 z.low.x) < 0 \/ 0 < Nm.q8 (Nm.d9 v.x) (Nm.d9 z.high.x) \/ Nm.q8 (Nm.d9 v.y) (Nm.d9 z.low.y) < 0 \/ 0 < Nm.q8 (Nm.d9 v.y) (Nm.d9 z.high.y)) := rfl
 generalize Nm.q8 (Nm.d9 v.x) (Nm.d9 z.low.x) = x1 at *
 generalize Nm.q8 (Nm.d9 v.x) (Nm.d9 z.high.x) = x2 at *
 generalize Nm.q8 (Nm.d9 v.y) (Nm.d9 z.low.y) = x3 at *
 generalize Nm.q8 (Nm.d9 v.y) (Nm.d9 z.high.y) = x4 at *
 obtain ⟨arms, walls, parts, slots, gates, walk⟩ := w
 obtain ⟨tick, sarms, sparts, people, sgates⟩ := s
 simp only at n3 n4 n5 hgl hz ho hgi ⊢
 simp only [a2Q, j6, TT, II, OA, OB, OC, MM, LL, VV, FF, MG, LG, VG, FG]
 simp only [Wk.c, Wk.enc, Stt.c, Stt.enc, ams, wls, pts, sls, gts, F5, frs, vts, bls, rc, Vt.c, Vt.enc, sb, ints] at hck hcp o1 o2 o3 o4 o5 o6 ⊢
 have e1 : decide ((g : Int) < 0) = false := decide_eq_false (by omega)
 have e2 : decide ((gates.length : Int) <= (g : Int)) = false := decide_eq_false (by omega)
 (repeat first | refine uA ?_ | (refine uK ?_ ?_; focus first | omega | (intros; simp_all <;> omega)) | simp (disch := omega) only [go_sem, Nat.reduceBEq, Nat.reduceAdd, ww] | (refine uD hck ?_ ?_ ?_; exact tz hw; exact rfl))
 refine S.cond rfl (fun hc => by simp at hc) (fun hc => ?_)
 (repeat first | refine uA ?_ | (refine uK ?_ ?_; focus first | omega | (intros; simp_all <;> omega)) | simp (disch := omega) only [go_sem, Nat.reduceBEq, Nat.reduceAdd, ww, c1q, e1, e2] | (refine uD o1 ?_ ?_ ?_; exact tz hw; exact rfl) | (refine uD o2 ?_ ?_ ?_; exact tz hw; exact rfl))
 refine S.cond rfl (fun hc => by simp at hc) (fun hc => ?_)
 (repeat first | refine uA ?_ | (refine uK ?_ ?_; focus first | omega | (intros; simp_all <;> omega)) | simp (disch := omega) only [go_sem, Nat.reduceBEq, Nat.reduceAdd, ww, c1q, hz, ho, c1r, Gt.enc, sb, c1u])
 by_cases c1 : o = false
 ·rw [if_pos c1]
  refine S.cond rfl (fun hc => ?_) (fun hc => by simp at hc; rw [hc] at c1; cases c1)
  (repeat first | refine uA ?_ | (refine uK ?_ ?_; focus first | omega | (intros; simp_all <;> omega)) | simp (disch := omega) only [go_sem, Nat.reduceBEq, Nat.reduceAdd, ww])
  (refine S.done ?_; simp only [p9, l7, go_sem, Nat.reduceBEq, Nat.reduceAdd, Nat.reduceLeDiff, Int.reduceToNat, Int.reducePow]; (repeat (refine ⟨?_, ?_⟩; focus first | trivial | omega | simp)); exact j3.out rfl (Imp.tup (by (repeat' (first | exact j5.nil | exact Imp.refl rfl | exact Imp.frz rfl rfl rfl | exact Imp.F7 | refine Imp.agg ?_ | refine j5.cons ?_ ?_)))) rfl)
 rw [if_neg c1]
 refine S.cond rfl (fun hc => by simp at hc; exact absurd hc c1) (fun hc => ?_)
 (repeat first | refine uA ?_ | (refine uK ?_ ?_; focus first | omega | (intros; simp_all <;> omega)) | simp (disch := omega) only [go_sem, Nat.reduceBEq, Nat.reduceAdd, ww] | (refine uD o3 ?_ ?_ ?_; exact tz hw; exact rfl) | (refine uD o4 ?_ ?_ ?_; exact tz hw; exact rfl) | (refine uD o5 ?_ ?_ ?_; exact tz hw; exact rfl) | (refine uD o6 ?_ ?_ ?_; exact tz hw; exact rfl))
 by_cases c2 : a2c v z
 ·rw [if_pos c2]
  rw [hout] at c2
  refine S.cond rfl (fun hc => ?_) (fun hc => by simp only [c1H, c1x] at hc; omega)
  (repeat first | refine uA ?_ | (refine uK ?_ ?_; focus first | omega | (intros; simp_all <;> omega)) | simp (disch := omega) only [go_sem, Nat.reduceBEq, Nat.reduceAdd, ww])
  (refine S.done ?_; simp only [p9, l7, go_sem, Nat.reduceBEq, Nat.reduceAdd, Nat.reduceLeDiff, Int.reduceToNat, Int.reducePow]; (repeat (refine ⟨?_, ?_⟩; focus first | trivial | omega | simp)); exact j3.out rfl (Imp.tup (by (repeat' (first | exact j5.nil | exact Imp.refl rfl | exact Imp.frz rfl rfl rfl | exact Imp.F7 | refine Imp.agg ?_ | refine j5.cons ?_ ?_)))) rfl)
 rw [if_neg c2]
 rw [hout] at c2
 refine S.cond rfl (fun hc => by simp only [c1Z, c1w] at hc; omega) (fun hc => ?_)
 (repeat first | refine uA ?_ | (refine uK ?_ ?_; focus first | omega | (intros; simp_all <;> omega)) | simp (disch := omega) only [go_sem, Nat.reduceBEq, Nat.reduceAdd, ww, c1q])
 by_cases c3 : people.length = 4
 ·rw [if_pos c3]
  refine S.cond rfl (fun hc => ?_) (fun hc => by simp at hc; omega)
  (repeat first | refine uA ?_ | (refine uK ?_ ?_; focus first | omega | (intros; simp_all <;> omega)) | simp (disch := omega) only [go_sem, Nat.reduceBEq, Nat.reduceAdd, ww])
  (refine S.done ?_; simp only [p9, l7, go_sem, Nat.reduceBEq, Nat.reduceAdd, Nat.reduceLeDiff, Int.reduceToNat, Int.reducePow]; (repeat (refine ⟨?_, ?_⟩; focus first | trivial | omega | simp)); exact j3.out rfl (Imp.tup (by (repeat' (first | exact j5.nil | exact Imp.refl rfl | exact Imp.frz rfl rfl rfl | exact Imp.F7 | refine Imp.agg ?_ | refine j5.cons ?_ ?_)))) rfl)
 rw [if_neg c3]
 refine S.cond rfl (fun hc => by simp at hc; omega) (fun hc => ?_)
 (repeat first | refine uA ?_ | (refine uK ?_ ?_; focus first | omega | (intros; simp_all <;> omega)) | simp (disch := omega) only [go_sem, Nat.reduceBEq, Nat.reduceAdd, ww, C.sh, C.shL, c1M, List.length_nil, c1q] | refine l9.t (l8.pre (hcp _ rfl) rfl rfl rfl) ?_)
 simp only [c2h, c1J, c1N, Vt.enc, sb]
 (refine S.done ?_; simp only [p9, l7, go_sem, Nat.reduceBEq, Nat.reduceAdd, Nat.reduceLeDiff, Int.reduceToNat, Int.reducePow]; (repeat (refine ⟨?_, ?_⟩; focus first | trivial | omega | simp)); exact j3.out rfl (Imp.tup (by (repeat' (first | exact j5.nil | exact Imp.refl rfl | exact Imp.frz rfl rfl rfl | exact Imp.F7 | refine Imp.agg ?_ | refine j5.cons ?_ ?_)))) rfl)
def c0M : List Nat := [63, 68, 149]
def c1o (f : Nat) : Bool := c0M.contains f
theorem b8U {E : Ctx} (hP : E.P = Tryz.prog) (s : Stt) (hs : Stb 1073741824 s) :
  l8 E [] 42 [s.c] (.agg [ints s.tick, .rv 5, .rv 2, .rv 3, bls s.gates]) [.gone, .gone, .row 55 10 (s.parts.map Fr.enc), .row 51 6 (s.people.map Vt.enc), .gone, .row 90 4 (s.arms.map Ast.enc)] [] := by
 obtain ⟨P, eff', N, w0, own0, av0, nu0, pk0⟩ := E
 simp only at hP
 subst hP
 refine l8.of (eff := c1o) Tryz.func42 (by cbv) (by exact c1I rfl) fun w own av ν hν => ?_
 have hν0 : ν.length <= 0 := by rw [hν]; exact c1A _
 obtain ⟨⟨n1, b1⟩, ⟨n2, b2⟩, ⟨n3, b3⟩, n4⟩ := hs
 obtain ⟨tick, arms, parts, people, gates⟩ := s
 simp only at n1 b1 n2 n3 n4 ⊢
 have c1 := a7A (parts.map Fr.enc) (by rw [c1q]; exact n2)
 have c2 := a7r (people.map Vt.enc) (by rw [c1q]; exact n3)
 have c3 := (a6c (gates.map fun b => [.v (.bool b)]) (by rw [c1q]; exact n4)).spec
 simp only [j6]
 simp only [Stt.c, Stt.enc, F5, frs, vts, bls, ints]
 (repeat first | refine uI ?_ | (refine uK ?_ ?_; focus first | omega | (intros; simp_all <;> omega)) | simp (disch := omega) only [go_sem, Nat.reduceBEq, Nat.reduceAdd, ww])
 refine S.K3 [.box 37 [.v (.int .i64 tick), .sl 4 (arms.map Ast.enc), .sl 10 (parts.map Fr.enc), .sl 6 (people.map Vt.enc), .sl 1 (gates.map fun b => [.v (.bool b)])]] (by simp [Eng.E5, Eng.P9]) ?_
 (repeat first | refine uA ?_ | (refine uK ?_ ?_; focus first | omega | (intros; simp_all <;> omega)) | simp (disch := omega) only [go_sem, Nat.reduceBEq, Nat.reduceAdd, ww, E5, c1q] | refine l9.t (FNew.t c1 rfl) ?_ | refine l9.t (FNew.t c2 rfl) ?_ | (refine uB c3 ?_ ?_; exact rfl))
 refine S.loop (X := Nat) (fun i => ⟨[(2, .bp 1 0), (3, .bp 4 0), (19, F5 arms), (20, ints arms.length), (21, ints i)], [.gone, .box 37 [.v (.int .i64 0), .v (.slice none 0 0), .v (.slice none 0 0), .v (.slice none 0 0), .v (.slice none 0 0)], .row 55 10 (parts.map Fr.enc), .row 51 6 (people.map Vt.enc), .box 37 [ints tick, .rv 5, .rv 2, .rv 3, bls gates], .row 90 4 ((arms.take i).map Ast.enc)]⟩) (fun i => i <= arms.length) (fun i => arms.length - i) 0 (c1y _)
  (Ent.trans (Ent.a2x 4 1 90 4 rfl rfl rfl) (by (repeat first | refine uA ?_ | (refine ⟨?_, ?_⟩; focus first | rfl | simp [slot]) | rfl | simp | exact c1v hν0 (by simp)))) ?_
 intro i hi
 simp only [F5, bls, ints]
 (repeat first | refine uA ?_ | (refine uK ?_ ?_; focus first | omega | (intros; simp_all <;> omega)) | simp (disch := omega) only [go_sem, Nat.reduceBEq, Nat.reduceAdd, ww])
 (refine uJ rfl (fun hc => ?_) fun hc => ?_)
 ·have hi' : i < arms.length := by omega
  have hgi := c1p hi'
  have hap : arms.take (i + 1) = arms.take i ++ [arms[i]] := c2g hi'
  generalize arms[i] = x at hgi hap
  obtain ⟨⟨q1, _⟩, ⟨q2, _⟩⟩ := b1 x (c1t hgi)
  have e1 := (a1m (x.q.map rcs) (by rw [c1q]; exact q1)).spec
  have e2 := (a1m (x.v.map rcs) (by rw [c1q]; exact q2)).spec
  have htl : (arms.take i).length = i := by rw [c1D]; omega
  (repeat first | refine uA ?_ | (refine uK ?_ ?_; focus first | omega | (intros; simp_all <;> omega)) | simp (disch := omega) only [go_sem, Nat.reduceBEq, Nat.reduceAdd, ww, hgi, c1r, c1q, Ast.enc, rts, ints, htl] | (refine uB e1 ?_ ?_; exact rfl) | (refine uB e2 ?_ ?_; exact rfl))
  refine S.next (i + 1) (by omega) (by omega) (by simp only [hap, c2h, c1J, c1N, Ast.enc, rts, ints]; exact (by (repeat first | refine uA ?_ | (refine ⟨?_, ?_⟩; focus first | rfl | simp [slot]) | rfl | simp | exact c1v hν0 (by simp))))
 ·have hi' : i = arms.length := by omega
  subst hi'
  rw [c1L]
  (repeat first | refine uA ?_ | (refine uK ?_ ?_; focus first | omega | (intros; simp_all <;> omega)) | simp (disch := omega) only [go_sem, Nat.reduceBEq, Nat.reduceAdd, ww])
  (refine S.done ?_; simp only [p9, l7, go_sem, Nat.reduceBEq, Nat.reduceAdd, Nat.reduceLeDiff, Int.reduceToNat, Int.reducePow]; (repeat (refine ⟨?_, ?_⟩; focus first | trivial | omega | simp)); exact j3.M8 (Imp.agg (by (repeat' (first | exact j5.nil | exact Imp.refl rfl | exact Imp.frz rfl rfl rfl | exact Imp.F7 | refine j5.cons ?_ ?_)))) (by (repeat first | refine uA ?_ | (refine ⟨?_, ?_⟩; focus first | rfl | simp [slot]) | rfl | simp)) (c1v hν0 (by simp)))
def wss (u : List (List Nm.Rt)) : C := .sl 1 (u.map fun l => [rts l])
def Wsb (k : Nat) (u : List (List Nm.Rt)) : Prop := u.length <= k /\ ∀ l ∈ u, Rbs k l
theorem b7V (a b k : Rat) : 0 < Nm.q8 (a4h a b) k <-> 0 < Nm.q8 a k \/ 0 < Nm.q8 b k := by
 unfold a4h
 have h := a1u a b
 rw [U1, U1]
 split
 ·rw [U1]
  have : ¬ a < b := fun h2 => by have := h.2 h2; omega
  grind
 ·rw [U1]
  have : a < b := h.1 (by omega)
  grind
theorem b1b {k m n : Nat} {a b : Nm.Rt} (ha : Rb k a) (hb : Rb m b) (h1 : 1 <= k) (h2 : 1 <= m) (hn : k + m + 1 <= n) : Rb n (a3K a b) := (Q8 (ha.fit h1) (hb.fit h2)).mono hn
theorem b3B {l : Lk} (h : U3 l = 0) : Rb 8 l.brake := by
 unfold U3 at h
 split at h
 ·cases h
 rename_i h2
 have hs2 : (j4 l.length && j4 l.low && j4 l.high && j4 l.speed && j4 l.brake) = true := by
  cases hb : (j4 l.length && j4 l.low && j4 l.high && j4 l.speed && j4 l.brake) with
  | true => rfl
  | false => exact absurd (.inl hb) h2
 simp only [c1B] at hs2
 exact (a2j hs2.2).mono (by decide)
theorem b7c {α β γ : Type} {f : α × β -> γ} {l : List α} {m : List β} {z : γ} (h : z ∈ (l.zip m).map f) : ∃ a ∈ l, ∃ b ∈ m, z = f (a, b) := by
 obtain ⟨⟨a, b⟩, hm, rfl⟩ := List.mem_map.1 h
 exact ⟨a, (List.of_mem_zip hm).1, b, (List.of_mem_zip hm).2, rfl⟩
theorem b9t {a : Am} {x : Ast} {u : List Nm.Rt} {p : Bool} (ha : J8 a = 0) (hx : Asb 1048576 x) (hu : ∀ r ∈ u, Rb 1048576 r) : (∀ r ∈ (a1F a x u p).q, Rb 2097664 r) /\ ∀ r ∈ (a1F a x u p).v, Rb 2097664 r := by
 have hv : ∀ r ∈ a2R a x, Rb 1048585 r := fun r hr => by
  obtain ⟨l, hl, v, hv, rfl⟩ := b7c hr
  have h1 := hx.2.2 v hv
  have h2 := b3B ((a1v ha).2 l hl)
  unfold a1l
  split
  ·exact L8.mono (by decide)
  split
  ·exact b1b h1 h2 (by decide) (by decide) (by decide)
  ·exact (P7 (h1.fit (by decide)) (h2.fit (by decide))).mono (by decide)
 unfold a1F
 split
 ·refine ⟨fun r hr => ?_, fun r hr => (hu r hr).mono (by decide)⟩
  obtain ⟨q, hq, v, hv, rfl⟩ := b7c (show r ∈ mvQ x u from hr)
  exact b1b (hx.1.2 q hq) (hu v hv) (by decide) (by decide) (by decide)
 ·refine ⟨fun r hr => ?_, fun r hr => (hv r hr).mono (by decide)⟩
  obtain ⟨q, hq, v, hv', rfl⟩ := b7c (show r ∈ a4k a x from hr)
  exact b1b (hx.1.2 q hq) (hv v hv') (by decide) (by decide) (by decide)
theorem b6T (w : Wk) (P : List Fr) (z : Am × Ast) : (a8K w P z).length = P.length := by
 unfold a8K
 split
 ·rfl
 ·split
  ·simp
  ·rfl
theorem b0z (w : Wk) : ∀ (l : List (Am × Ast)) (P : List Fr), (l.foldl (a8K w) P).length = P.length
 | [], _ => rfl
 | z :: l, P => by rw [List.foldl_cons, b0z w l, b6T]
theorem fold_at {α β : Type} {f : β -> α -> β} {l : List α} {i : Nat} {x : α} (h : l[i]? = some x) (b : β) : (l.take (i + 1)).foldl f b = f ((l.take i).foldl f b) x := by
 rw [take_at h, List.foldl_append]; rfl
def Z0 (w : Wk) (s : Stt) (g : Int) : Int := if H8 w s ≠ 0 then H8 w s else if g < 0 \/ (w.gates.length : Int) <= g then 1 else 0
def a7B (s : Stt) (g : Nat) (is : Bool) : Stt := ⟨s.tick, s.arms, s.parts, s.people, s.gates.set g is⟩
def a3x (s : Stt) (v : Vt) : Stt := ⟨s.tick, s.arms, s.parts, s.people ++ [v], s.gates⟩
def a0C (w : Wk) (s : Stt) (g : Int) (v : Vt) : Int :=
 if Z0 w s g ≠ 0 then Z0 w s g else if (C8 v.x && C8 v.y) = false then 1 else
 match w.gates[g.toNat]?, s.gates[g.toNat]? with
 | some z, some o => if o = false then 7 else if a2c v z then 17 else if s.people.length = 4 then 6 else 0
 | _, _ => 0
theorem a8F {w : Wk} {s : Stt} {g : Int} (h : Z0 w s g = 0) : H8 w s = 0 /\ ∃ n : Nat, g = n /\ n < w.gates.length := by
 unfold Z0 at h
 split at h
 ·rename_i h1; exact absurd h h1
 split at h
 ·cases h
 rename_i h1 h2
 exact ⟨Classical.not_not.1 h1, g.toNat, by omega, by omega⟩
theorem b8o (w : Wk) (s : Stt) (g : Int) (is : Bool) (hwb : Wb 1073741824 w) (hs : Stb 1073741824 s) :
  FZ 58 [w.c, s.c, ints g, .v (.bool is)] (if Z0 w s g = 0 then .tup [(a7B s g.toNat is).c, ints 0] else .tup [.agg a0L, ints (Z0 w s g)]) := by
 by_cases h : Z0 w s g = 0
 ·rw [if_pos h]
  obtain ⟨h0, n, rfl, hn⟩ := a8F h
  have := b9T w s n is hwb hs h0
  rwa [if_pos hn] at this
 rw [if_neg h]
 refine kW a6g a5U (by rfl) fun w' O hw => ?_
 have hck := a3r w s hwb hs
 have n5 := hwb.gates.1
 unfold Z0 at h ⊢
 generalize H8 w s = e at *
 obtain ⟨arms, walls, parts, slots, gates, walk⟩ := w
 obtain ⟨tick, sarms, sparts, people, sgates⟩ := s
 simp only at n5 h ⊢
 simp only [a3E, j6, TT, II, OA, OB, OC, MM, LL, VV, FF, MG, LG, VG, FG]
 simp only [Wk.c, Wk.enc, Stt.c, Stt.enc, ams, wls, pts, sls, gts, F5, frs, vts, bls, sb, ints, a0L] at hck ⊢
 (repeat first | refine uG hck ?_ | refine uA ?_ | (refine uK ?_ ?_; focus first | omega | (intros; simp_all <;> omega)) | simp (disch := omega) only [go_sem, Nat.reduceBEq, Nat.reduceAdd, ww] | (refine uD hck ?_ ?_ ?_; exact tz hw; exact rfl))
 by_cases h0 : e = 0
 ·subst h0
  rw [if_neg (by decide)] at h ⊢
  have hg : g < 0 \/ (gates.length : Int) <= g := Classical.byContradiction fun h1 => h (if_neg h1)
  rw [if_pos hg]
  refine S.cond rfl (fun hc => by simp at hc) (fun hc => ?_)
  (repeat first | refine uA ?_ | (refine uK ?_ ?_; focus first | omega | (intros; simp_all <;> omega)) | simp (disch := omega) only [go_sem, Nat.reduceBEq, Nat.reduceAdd, ww, c1q])
  refine S.cond rfl (fun hc => ?_) (fun hc => by simp only [c1H, c1x] at hc; omega)
  (repeat first | refine uA ?_ | (refine uK ?_ ?_; focus first | omega | (intros; simp_all <;> omega)) | simp (disch := omega) only [go_sem, Nat.reduceBEq, Nat.reduceAdd, ww])
  (refine S.done ?_; simp only [p9, l7, go_sem, Nat.reduceBEq, Nat.reduceAdd, Nat.reduceLeDiff, Int.reduceToNat, Int.reducePow]; (repeat (refine ⟨?_, ?_⟩; focus first | trivial | omega | simp)); exact j3.out rfl (Imp.tup (by (repeat' (first | exact j5.nil | exact Imp.refl rfl | exact Imp.frz rfl rfl rfl | exact Imp.F7 | refine Imp.agg ?_ | refine j5.cons ?_ ?_)))) rfl)
 ·rw [if_pos h0]
  refine S.cond rfl (fun hc => ?_) (fun hc => by simp at hc; exact absurd hc h0)
  (repeat first | refine uA ?_ | (refine uK ?_ ?_; focus first | omega | (intros; simp_all <;> omega)) | simp (disch := omega) only [go_sem, Nat.reduceBEq, Nat.reduceAdd, ww])
  (refine S.done ?_; simp only [p9, l7, go_sem, Nat.reduceBEq, Nat.reduceAdd, Nat.reduceLeDiff, Int.reduceToNat, Int.reducePow]; (repeat (refine ⟨?_, ?_⟩; focus first | trivial | omega | simp)); exact j3.out rfl (Imp.tup (by (repeat' (first | exact j5.nil | exact Imp.refl rfl | exact Imp.frz rfl rfl rfl | exact Imp.F7 | refine Imp.agg ?_ | refine j5.cons ?_ ?_)))) rfl)
theorem b6K (w : Wk) (s : Stt) (g : Int) (v : Vt) (hwb : Wb 1073741824 w) (hs : Stb 1073741824 s) (hv : Vb 1073741824 v) :
    FZ 59 [w.c, s.c, ints g, v.c] (if a0C w s g v = 0 then .tup [(a3x s v).c, ints 0] else .tup [.agg a0L, ints (a0C w s g v)]) := by
  by_cases h : Z0 w s g = 0 /\ (C8 v.x && C8 v.y) = true
  · obtain ⟨h, hgd⟩ := h
    have hE : a0C w s g v = match w.gates[g.toNat]?, s.gates[g.toNat]? with
      | some z, some o => if o = false then 7 else if a2c v z then 17 else if s.people.length = 4 then 6 else 0
      | _, _ => 0 := by unfold a0C; rw [if_neg (by simpa using h), if_neg (by rw [hgd]; decide)]
    obtain ⟨h0, n, rfl, hn⟩ := a8F h
    rw [c1B] at hgd
    have hz := c1p hn
    have ho := c1p (show n < s.gates.length by have := a6Q h0; omega)
    generalize w.gates[n] = z at hz
    generalize s.gates[n]'_ = o at ho
    have := b8w w s n v z o hwb hs h0 hz ho hv (of_decide_eq_true hgd.1) (of_decide_eq_true hgd.2)
    rw [c1u, hz, ho] at hE
    simp only at hE
    rw [hE]
    by_cases c1 : o = false
    · rw [if_pos c1] at this ⊢; exact this
    rw [if_neg c1] at this ⊢
    by_cases c2 : a2c v z
    · rw [if_pos c2] at this ⊢; exact this
    rw [if_neg c2] at this ⊢
    by_cases c3 : s.people.length = 4
    · rw [if_pos c3] at this ⊢; exact this
    · rw [if_neg c3] at this ⊢; exact this
  have hE : a0C w s g v = if Z0 w s g ≠ 0 then Z0 w s g else 1 := by
    unfold a0C
    by_cases h1 : Z0 w s g = 0
    · have hb : (C8 v.x && C8 v.y) = false := by
        cases hb : (C8 v.x && C8 v.y)
        · rfl
        · exact absurd ⟨h1, hb⟩ h
      rw [if_neg (by simpa using h1), if_pos hb, h1]; rfl
    · rw [if_pos h1, if_pos h1]
  have hne : a0C w s g v ≠ 0 := by
    rw [hE]; split
    · assumption
    · decide
  rw [if_neg hne]
  rw [hE]
  clear hE hne
  refine kW a5v a5x (by rfl) fun w' O hw => ?_
  have hck := a3r w s hwb hs
  have n5 := hwb.gates.1
  have o1 := P5 v.x (hv.1.mono (by decide))
  have o2 := P5 v.y (hv.2.mono (by decide))
  have hg1 : ∀ a, C8 a = decide a.A8 := fun _ => rfl
  rw [hg1, hg1] at h
  generalize decide v.x.A8 = g1 at *
  generalize decide v.y.A8 = g2 at *
  unfold Z0 at h ⊢
  generalize H8 w s = e at *
  obtain ⟨arms, walls, parts, slots, gates, walk⟩ := w
  obtain ⟨tick, sarms, sparts, people, sgates⟩ := s
  simp only at n5 h ⊢
  simp only [a2Q, j6, TT, II, OA, OB, OC, MM, LL, VV, FF, MG, LG, VG, FG]
  simp only [Wk.c, Wk.enc, Stt.c, Stt.enc, Vt.c, Vt.enc, ams, wls, pts, sls, gts, F5, frs, vts, bls, rc, sb, ints, a0L] at hck o1 o2 ⊢
  (repeat first | refine uG hck ?_ | refine uA ?_ | (refine uK ?_ ?_; focus first | omega | (intros; simp_all <;> omega)) | simp (disch := omega) only [go_sem, Nat.reduceBEq, Nat.reduceAdd, ww] | (refine uD hck ?_ ?_ ?_; exact tz hw; exact rfl))
  by_cases h0 : e = 0
  · subst h0
    refine S.cond rfl (fun hc => by simp at hc) (fun hc => ?_)
    rw [if_neg (show ¬ (0 : Int) ≠ 0 by decide)] at h ⊢
    (repeat first | refine uG o1 ?_ | refine uG o2 ?_ | refine uA ?_ | (refine uK ?_ ?_; focus first | omega | (intros; simp_all <;> omega)) | simp (disch := omega) only [go_sem, Nat.reduceBEq, Nat.reduceAdd, ww, c1q] | (refine uD o1 ?_ ?_ ?_; exact tz hw; exact rfl) | (refine uD o2 ?_ ?_ ?_; exact tz hw; exact rfl))
    have hone : (if (if g < 0 \/ (gates.length : Int) <= g then (1 : Int) else 0) ≠ 0 then (if g < 0 \/ (gates.length : Int) <= g then (1 : Int) else 0) else 1) = 1 := by
      by_cases hg : g < 0 \/ (gates.length : Int) <= g
      · rw [if_pos hg]; rfl
      · rw [if_neg hg]; rfl
    rw [hone]
    refine S.cond rfl (fun hc => ?_) (fun hc => by
      simp only [c1H, Bool.not_eq_false', c1x] at hc
      obtain ⟨⟨⟨c1, c2⟩, c3⟩, c4⟩ := hc
      exact absurd ⟨if_neg (by omega), by rw [c3, c4]; rfl⟩ h)
    (repeat first | refine uA ?_ | (refine uK ?_ ?_; focus first | omega | (intros; simp_all <;> omega)) | simp (disch := omega) only [go_sem, Nat.reduceBEq, Nat.reduceAdd, ww])
    (refine S.done ?_; simp only [p9, l7, go_sem, Nat.reduceBEq, Nat.reduceAdd, Nat.reduceLeDiff, Int.reduceToNat, Int.reducePow]; (repeat (refine ⟨?_, ?_⟩; focus first | trivial | omega | simp)); exact j3.out rfl (Imp.tup (by (repeat' (first | exact j5.nil | exact Imp.refl rfl | exact Imp.frz rfl rfl rfl | exact Imp.F7 | refine Imp.agg ?_ | refine j5.cons ?_ ?_)))) rfl)
  · rw [if_pos h0, if_pos h0]
    refine S.cond rfl (fun hc => ?_) (fun hc => by simp at hc; exact absurd hc h0)
    (repeat first | refine uA ?_ | (refine uK ?_ ?_; focus first | omega | (intros; simp_all <;> omega)) | simp (disch := omega) only [go_sem, Nat.reduceBEq, Nat.reduceAdd, ww])
    (refine S.done ?_; simp only [p9, l7, go_sem, Nat.reduceBEq, Nat.reduceAdd, Nat.reduceLeDiff, Int.reduceToNat, Int.reducePow]; (repeat (refine ⟨?_, ?_⟩; focus first | trivial | omega | simp)); exact j3.out rfl (Imp.tup (by (repeat' (first | exact j5.nil | exact Imp.refl rfl | exact Imp.frz rfl rfl rfl | exact Imp.F7 | refine Imp.agg ?_ | refine j5.cons ?_ ?_)))) rfl)
def a3v : a0G := ⟨173, [.cell 10 true 5, .tmp 11], .seq (.reg [OA 5 (.box 31 (TT 0)), OA 6 (.box 37 (TT 1)), OA 10 (.alloc 37 [.int .i64 0, .slice none 0 0, .slice none 0 0, .slice none 0 0, .slice none 0 0]), OA 11 (.mv (II 0))]) (.seq (.seq
 (.reg [LL 22 8 5, LL 23 5 6, OA 24 (.call 38 [TT 22, TT 23]), MM 12 24]) (.seq (.reg [MM 25 12, OA 26 (.bin .neq (TT 25) (II 0))]) (.cond (TT 26) (.seq (.reg [OA 27 (.build [.int .i64 0, .slice none 0 0, .slice none 0 0, .slice
 none 0 0, .slice none 0 0] []), MM 28 12, OB (.store 5 (TT 10) (TT 27)), MM 11 28]) .ret) .skip))) (.seq (.seq (.reg [MM 29 2, OA 30 (.len false (TT 29)), FF 31 0 5, VV 32 31, OA 33 (.len false (TT 32)), OA 34 (.bin .neq (TT 30)
 (TT 33)), MM 35 34, MG 36 3 35 false, OC 37 (.len false (TT 36)) 35 false, FG 38 0 5 35 false, VG 39 38 35 false, OC 40 (.len false (TT 39)) 35 false, OC 41 (.bin .neq (TT 37) (TT 40)) 35 false, OA 42 (.pick (TT 35) (.const
 (.bool true)) (TT 41)), MM 43 42, MG 44 4 43 false, OC 45 (.len false (TT 44)) 43 false, FG 46 3 6 43 false, VG 47 46 43 false, OC 48 (.len false (TT 47)) 43 false, OC 49 (.bin .neq (TT 45) (TT 48)) 43 false, OA 50 (.pick (TT
 43) (.const (.bool true)) (TT 49))]) (.cond (TT 50) (.seq (.reg [OA 51 (.build [.int .i64 0, .slice none 0 0, .slice none 0 0, .slice none 0 0, .slice none 0 0] []), OB (.store 5 (TT 10) (TT 51)), OA 11 (.mv (II 1))]) .ret)
 .skip)) (.seq (.seq (.reg [MM 52 4, OA 53 (.len false (TT 52)), OA 54 (.mv (II 0))]) (.block 0 (.loop (.seq (.reg [OA 55 (.bin .lss (TT 54) (TT 53))]) (.seq (.cond (TT 55) .skip (.exit 0)) (.seq (.block 1 (.seq (.reg [OA 56
 (.E8 6 (TT 52) (TT 54)), LL 57 6 56, OA 14 (.alloc 51 [.bool false, .string ⟨#[]⟩, .string ⟨#[]⟩, .bool false, .string ⟨#[]⟩, .string ⟨#[]⟩]), OB (.store 6 (TT 14) (TT 57))]) (.seq (.K3 [.q, .q, .q, .q, .q, .q, .q, .q, .q,
 .q, .q, .q, .q, .q, .q, .q, .q, .q, .q, .q, .q, .q, .q, .q, .q, .q, .q, .q] [FF 58 0 14, LL 59 3 58, OA 60 (.call 62 [TT 59]), OA 61 (.un .not (TT 60)), MM 62 61, FG 63 3 14 62 false, LG 64 3 63 62 false, OC 65 (.call 62 [TT
 64]) 62 false, OC 66 (.un .not (TT 65)) 62 false, OA 67 (.pick (TT 62) (.const (.bool true)) (TT 66)), MM 68 67, FG 69 0 14 68 false, LG 70 3 69 68 false, OC 71 (.call 75 [TT 70]) 68 false, FG 72 5 5 68 false, LG 73 3 72 68
 false, OC 74 (.call 52 [TT 71, TT 73]) 68 false, OC 75 (.bin .gtr (TT 74) (II 0)) 68 false, OA 76 (.pick (TT 68) (.const (.bool true)) (TT 75)), MM 77 76, FG 78 3 14 77 false, LG 79 3 78 77 false, OC 80 (.call 75 [TT 79]) 77
 false, FG 81 5 5 77 false, LG 82 3 81 77 false, OC 83 (.call 52 [TT 80, TT 82]) 77 false, OC 84 (.bin .gtr (TT 83) (II 0)) 77 false, OA 85 (.pick (TT 77) (.const (.bool true)) (TT 84))]) (.cond (TT 85) (.seq (.reg [OA 86 (.build
 [.int .i64 0, .slice none 0 0, .slice none 0 0, .slice none 0 0, .slice none 0 0] []), OB (.store 5 (TT 10) (TT 86)), OA 11 (.mv (II 1))]) .ret) .skip)))) (.reg [OA 87 (.bin .add (TT 54) (II 1)), MM 54 87]))))))) (.seq (.seq
 (.reg [FF 88 0 6, VV 89 88, OA 90 (.bin .eql (TT 89) (II 2000))]) (.cond (TT 90) (.seq (.reg [OA 91 (.build [.int .i64 0, .slice none 0 0, .slice none 0 0, .slice none 0 0, .slice none 0 0] []), OB (.store 5 (TT 10) (TT 91)), OA
 11 (.mv (II 7))]) .ret) .skip)) (.seq (.reg [LL 92 5 6, OA 93 (.call 42 [TT 92]), OA 15 (.alloc 37 [.int .i64 0, .slice none 0 0, .slice none 0 0, .slice none 0 0, .slice none 0 0]), OB (.store 5 (TT 15) (TT 93))]) (.seq (.reg
 [FF 94 0 15, VV 95 94, OA 96 (.bin .add (TT 95) (II 1)), FF 97 0 15, OB (.store 1 (TT 97) (TT 96))]) (.seq (.seq (.reg [FF 98 0 5, VV 99 98, OA 100 (.len false (TT 99)), OA 101 (.mv (II 0))]) (.block 2 (.loop (.seq (.reg [OA 102
 (.bin .lss (TT 101) (TT 100))]) (.seq (.cond (TT 102) .skip (.exit 2)) (.seq (.block 3 (.seq (.reg [MM 103 101, OA 104 (.E8 12 (TT 99) (TT 101)), LL 105 12 104, OA 17 (.alloc 76 [.string ⟨#[]⟩, .bool false, .string ⟨#[]⟩,
 .string ⟨#[]⟩, .bool false, .string ⟨#[]⟩, .string ⟨#[]⟩, .bool false, .bool false, .string ⟨#[]⟩, .string ⟨#[]⟩, .slice none 0 0]), MM 16 103, OB (.store 12 (TT 17) (TT 105))]) (.seq (.K3 [.q, .q, .q, .q, .q, .q, .q, .q, .q,
 .q, .q, .q, .q, .q, .q, .q, .q, .l, .a, .e (some 18) false, .q] [LL 107 12 17, FF 108 1 6, VV 109 108, MM 110 16, OA 111 (.E8 4 (TT 109) (TT 110)), LL 112 4 111, MM 113 2, MM 114 16, OA 115 (.E8 1 (TT 113) (TT 114)), VV
 116 115, MM 117 3, MM 118 16, OA 119 (.E8 1 (TT 117) (TT 118)), VV 120 119, OA 121 (.call 159 [TT 107, TT 112, TT 116, TT 120]), MM 106 121, OA 122 (.ext (TT 106) 0), OA 123 (.ext (TT 106) 1), OA 18 (.alloc 90 [.slice none 0
 0, .slice none 0 0, .bool false, .int .i64 0]), OB (.store 4 (TT 18) (TT 122)), MM 19 123]) (.seq (.seq (.reg [MM 124 19, OA 125 (.bin .neq (TT 124) (II 0))]) (.cond (TT 125) (.seq (.reg [OA 126 (.build [.int .i64 0, .slice none
 0 0, .slice none 0 0, .slice none 0 0, .slice none 0 0] []), MM 127 19, OB (.store 5 (TT 10) (TT 126)), MM 11 127]) .ret) .skip)) (.seq (.reg [FF 128 1 15, VV 129 128, MM 130 16, LL 131 4 18, OA 132 (.E8 4 (TT 129) (TT 130)),
 OB (.store 4 (TT 132) (TT 131))]) (.seq (.reg [FF 133 3 18, VV 134 133, OA 135 (.bin .geq (TT 134) (II 0))]) (.cond (TT 135) (.seq (.K3 [.q, .q, .q, .q, .q, .q, .q, .q, .q, .q, .l, .q, .e none false, .q] [FF 137 2 15, VV 138
 137, FF 139 3 18, VV 140 139, LL 141 8 5, MM 142 16, LL 143 4 18, OA 144 (.call 160 [TT 141, TT 142, TT 143]), MM 136 144, OA 145 (.ext (TT 136) 0), OA 146 (.ext (TT 136) 1), OA 147 (.E8 10 (TT 138) (TT 140)), OB (.store 10
 (TT 147) (TT 145)), MM 19 146]) (.seq (.reg [MM 148 19, OA 149 (.bin .neq (TT 148) (II 0))]) (.cond (TT 149) (.seq (.reg [OA 150 (.build [.int .i64 0, .slice none 0 0, .slice none 0 0, .slice none 0 0, .slice none 0 0] []), MM
 151 19, OB (.store 5 (TT 10) (TT 150)), MM 11 151]) .ret) .skip))) .skip))))))) (.reg [OA 152 (.bin .add (TT 101) (II 1)), MM 101 152]))))))) (.seq (.seq (.reg [MM 153 4, OA 154 (.len false (TT 153)), OA 155 (.mv (II 0))])
 (.block 4 (.loop (.seq (.reg [OA 156 (.bin .lss (TT 155) (TT 154))]) (.seq (.cond (TT 156) .skip (.exit 4)) (.seq (.block 5 (.seq (.reg [MM 157 155, OA 158 (.E8 6 (TT 153) (TT 155)), LL 159 6 158, OA 21 (.alloc 51 [.bool
 false, .string ⟨#[]⟩, .string ⟨#[]⟩, .bool false, .string ⟨#[]⟩, .string ⟨#[]⟩]), MM 20 157, OB (.store 6 (TT 21) (TT 159))]) (.K3 [.q, .q, .q, .q, .q, .q, .q, .q, .q, .q, .q, .e none true] [FF 160 3 15, VV 161 160, MM 162 20,
 FF 163 3 6, VV 164 163, MM 165 20, OA 166 (.E8 6 (TT 164) (TT 165)), LL 167 6 166, LL 168 6 21, OA 169 (.call 161 [TT 167, TT 168]), OA 170 (.E8 6 (TT 161) (TT 162)), OB (.store 6 (TT 170) (TT 169))]))) (.reg [OA 171 (.bin
 .add (TT 155) (II 1)), MM 155 171]))))))) (.seq (.reg [LL 172 5 15, OB (.store 5 (TT 10) (TT 172)), OA 11 (.mv (II 0))]) .ret)))))))))⟩
theorem b0N : X8 eff Tryz.prog Tryz.f56 = some a3v := by kernel_rfl
theorem b1y : Tryz.prog.funcs[56]? = some Tryz.f56 := Tryz.func56
set_option maxHeartbeats 32000000
def a7y (w : Wk) (s : Stt) (u : List (List Nm.Rt)) (p : List Bool) (v : List Vt) : C := if a3e w s u p v = 0 then .tup [(a9N w s u p v).c, ints 0] else .tup [.agg a0L, ints (a3e w s u p v)]
theorem b9Q (w : Wk) (s : Stt) (u : List (List Nm.Rt)) (p : List Bool) (v : List Vt) (hwb : Wb 1048576 w) (hs : Stb 1048576 s) (hu : Wsb 1048576 u) (hp : p.length <= 1048576) (hv : Vbs 1048576 v) :
    FZ 56 [w.c, s.c, wss u, bls p, vts v] (a7y w s u p v) := by
  refine kW b1y b0N (by rfl) fun w' O hw => ?_
  have hck := a3r w s (hwb.mono (by decide)) (hs.mono (by decide))
  have hcp := fun (E : Ctx) (hP : E.P = Tryz.prog) => b8U hP s (hs.mono (by decide))
  have n1 := hs.arms.1
  have n2 := hs.parts.1
  have n3 := hs.people.1
  have n4 := hs.gates
  have n5 := hwb.arms.1
  have n6 := hu.1
  have n7 := hv.1
  by_cases h0 : H8 w s = 0
  · have hok := a7s h0
    have hE : a3e w s u p v = if u.length ≠ w.arms.length \/ p.length ≠ w.arms.length \/ v.length ≠ s.people.length then 1 else if v.all (a4N w.walk) = false then 1 else if s.tick = 2000 then 7 else 0 := by
      unfold a3e; rw [if_neg (by simpa using h0)]
    have hcar := fun (n : Nat) (x : Ast) (a : Am) (q : Nat) (pt : Pt) => b4O w n x a q pt hwb
    have hone := fun (z : Am × Ast) hz => b5w (hok.one z hz)
    have hbs := hs.arms.2
    have hba := hwb.arms.2
    have hbu := hu.2
    have hbv := hv.2
    have hbp := hs.people.2
    have hkw := hwb.walk
    have hal := b7l (u := u) (p := p) hok.arms
    have hag := @b6S w s u p
    have hpl := b0z w
    have hput : ∀ P z, a8K w P z = if z.2.holds < 0 then P else match w.parts[z.2.holds.toNat]? with | some pt => P.set z.2.holds.toNat (a6C z.1 z.2.q pt.grasp) | none => P := fun _ _ => rfl
    have e1 := hok.arms
    have e2 := hok.parts
    have e3 := hok.tick
    rw [h0] at hck
    unfold a7y a9N
    generalize a5W w s u p = A at *
    generalize a8K w = pP at *
    generalize a3e w s u p v = se at *
    clear hok h0
    obtain ⟨arms, walls, parts, slots, gates, walk⟩ := w
    obtain ⟨tick, sarms, sparts, people, sgates⟩ := s
    simp only at n1 n2 n3 n4 n5 hE hbs hba hbp hkw hal hag hput e1 e2 e3 hone ⊢
    simp only [a3v, j6, TT, II, OA, OB, OC, MM, LL, VV, FF, MG, LG, VG, FG]
    simp only [Wk.c, Wk.enc, Stt.c, Stt.enc, a0L, ams, wls, pts, sls, gts, F5, frs, vts, bls, wss, rts, sb, ints] at hck hcp hcar ⊢
    (repeat first | refine uA ?_ | (refine uK ?_ ?_; focus first | omega | (intros; simp_all <;> omega)) | simp (disch := omega) only [go_sem, Nat.reduceBEq, Nat.reduceAdd, ww] | (refine uD hck ?_ ?_ ?_; exact tz hw; exact rfl))
    refine S.cond rfl (fun hc => by simp at hc) (fun hc => ?_)
    (repeat first | refine uA ?_ | (refine uK ?_ ?_; focus first | omega | (intros; simp_all <;> omega)) | simp (disch := omega) only [go_sem, Nat.reduceBEq, Nat.reduceAdd, ww, c1q])
    refine S.cond rfl (fun hc => ?_) (fun hc => ?_)
    · have hl : u.length ≠ arms.length \/ p.length ≠ arms.length \/ v.length ≠ people.length := by simp only [c1Z, Bool.not_eq_true', c1x] at hc; omega
      rw [if_pos hl] at hE
      subst hE
      rw [if_neg (by decide)]
      (repeat first | refine uA ?_ | (refine uK ?_ ?_; focus first | omega | (intros; simp_all <;> omega)) | simp (disch := omega) only [go_sem, Nat.reduceBEq, Nat.reduceAdd, ww])
      (refine S.done ?_; simp only [p9, l7, go_sem, Nat.reduceBEq, Nat.reduceAdd, Nat.reduceLeDiff, Int.reduceToNat, Int.reducePow]; (repeat (refine ⟨?_, ?_⟩; focus first | trivial | omega | simp)); exact j3.out rfl (Imp.tup (by (repeat' (first | exact j5.nil | exact Imp.refl rfl | exact Imp.frz rfl rfl rfl | exact Imp.F7 | refine Imp.agg ?_ | refine j5.cons ?_ ?_)))) rfl)
    have hl : ¬ (u.length ≠ arms.length \/ p.length ≠ arms.length \/ v.length ≠ people.length) := by simp only [c1H, Bool.not_eq_false', c1w] at hc; omega
    rw [if_neg hl] at hE
    have hl1 : u.length = arms.length := by omega
    have hl2 : p.length = arms.length := by omega
    have hl3 : v.length = people.length := by omega
    clear hl
    have hal := hal hl1 hl2
    (repeat first | refine uA ?_ | (refine uK ?_ ?_; focus first | omega | (intros; simp_all <;> omega)) | simp (disch := omega) only [go_sem, Nat.reduceBEq, Nat.reduceAdd, ww, c1q])
    refine S.loop (X := Nat) (fun i => ⟨[(2, wss u), (3, bls p), (4, vts v), (5, .bp 0 0), (6, .bp 1 0), (10, .bp 2 0), (52, vts v), (53, ints v.length), (54, ints i)], [.box 31 [ams arms, wls walls, pts parts, sls slots, gts gates, .v (.bool walk.neg), sb walk.num, sb walk.den], .box 37 [ints tick, F5 sarms, frs sparts, vts people, bls sgates], .box 37 [.v (.int .i64 0), .v (.slice none 0 0), .v (.slice none 0 0), .v (.slice none 0 0), .v (.slice none 0 0)]]⟩) (fun i => i <= v.length /\ v.all (a4N walk) = (v.drop i).all (a4N walk)) (fun i => v.length - i) 0 ⟨c1y _, rfl⟩ (by (repeat first | refine uA ?_ | (refine ⟨?_, ?_⟩; focus first | rfl | simp [slot]) | rfl | simp)) ?_
    rintro i ⟨hi, hg⟩
    simp only [ams, wls, pts, sls, gts, F5, frs, vts, bls, wss, rts, sb, ints] at hi ⊢
    (repeat first | refine uA ?_ | (refine uK ?_ ?_; focus first | omega | (intros; simp_all <;> omega)) | simp (disch := omega) only [go_sem, Nat.reduceBEq, Nat.reduceAdd, ww])
    (refine uJ rfl (fun hc => ?_) fun hc => ?_)
    · have hgv := c1p (show i < v.length by omega)
      generalize v[i]'_ = y at hgv
      have hd := b0G (f := a4N walk) hgv
      obtain ⟨by1, by2⟩ := hbv y (c1t hgv)
      have o1 := P5 y.x (by1.mono (by decide))
      have o2 := P5 y.y (by2.mono (by decide))
      have o3 := a7J y.x (by1.mono (by decide))
      have o4 := a7J y.y (by2.mono (by decide))
      have o5 := K7 (Nm.ofQ (J2 (Nm.d9 y.x))) walk (a5S ((by1.mono (m := 17179869184) (by decide)).fit (by decide))) (hkw.mono (by decide))
      have o6 := K7 (Nm.ofQ (J2 (Nm.d9 y.y))) walk (a5S ((by2.mono (m := 17179869184) (by decide)).fit (by decide))) (hkw.mono (by decide))
      rw [Nm.G9] at o5 o6
      have hm := b7V (J2 (Nm.d9 y.x)) (J2 (Nm.d9 y.y)) (Nm.d9 walk)
      have hv : a4N walk y = (decide y.x.A8 && decide y.y.A8 && !decide (0 < Nm.q8 (a4h (J2 (Nm.d9 y.x)) (J2 (Nm.d9 y.y))) (Nm.d9 walk))) := rfl
      rw [hv] at hd
      clear hv
      generalize Nm.q8 (a4h (J2 (Nm.d9 y.x)) (J2 (Nm.d9 y.y))) (Nm.d9 walk) = c0 at *
      generalize decide y.x.A8 = g1 at *
      generalize decide y.y.A8 = g2 at *
      generalize Nm.q8 (J2 (Nm.d9 y.x)) (Nm.d9 walk) = c1 at *
      generalize Nm.q8 (J2 (Nm.d9 y.y)) (Nm.d9 walk) = c2 at *
      unfold rq at o3 o4
      generalize Nm.ofQ (J2 (Nm.d9 y.x)) = a1 at *
      generalize Nm.ofQ (J2 (Nm.d9 y.y)) = a2 at *
      simp only [rc, sb, ints] at o1 o2 o3 o4 o5 o6
      (repeat first | refine uA ?_ | (refine uK ?_ ?_; focus first | omega | (intros; simp_all <;> omega)) | simp (disch := omega) only [go_sem, Nat.reduceBEq, Nat.reduceAdd, ww, hgv, c1r, c1q, Vt.enc, sb, c1u] | (refine uD o1 ?_ ?_ ?_; exact tz hw; exact rfl) | (refine uD o2 ?_ ?_ ?_; exact tz hw; exact rfl) | (refine uD o3 ?_ ?_ ?_; exact tz hw; exact rfl) | (refine uD o4 ?_ ?_ ?_; exact tz hw; exact rfl) | (refine uD o5 ?_ ?_ ?_; exact tz hw; exact rfl) | (refine uD o6 ?_ ?_ ?_; exact tz hw; exact rfl))
      refine S.cond rfl (fun hc2 => ?_) (fun hc2 => ?_)
      · have hf : v.all (a4N walk) = false := by
          rw [hg, hd]
          cases g1
          · rfl
          cases g2
          · rfl
          simp only [Bool.not_true, Bool.false_or, c1Z, c1w] at hc2
          rw [decide_eq_true (show 0 < c0 from hm.2 hc2)]; rfl
        rw [if_pos hf] at hE
        subst hE
        rw [if_neg (by decide)]
        (repeat first | refine uA ?_ | (refine uK ?_ ?_; focus first | omega | (intros; simp_all <;> omega)) | simp (disch := omega) only [go_sem, Nat.reduceBEq, Nat.reduceAdd, ww])
        (refine S.done ?_; simp only [p9, l7, go_sem, Nat.reduceBEq, Nat.reduceAdd, Nat.reduceLeDiff, Int.reduceToNat, Int.reducePow]; (repeat (refine ⟨?_, ?_⟩; focus first | trivial | omega | simp)); exact j3.out rfl (Imp.tup (by (repeat' (first | exact j5.nil | exact Imp.refl rfl | exact Imp.frz rfl rfl rfl | exact Imp.F7 | refine Imp.agg ?_ | refine j5.cons ?_ ?_)))) rfl)
      · (repeat first | refine uA ?_ | (refine uK ?_ ?_; focus first | omega | (intros; simp_all <;> omega)) | simp (disch := omega) only [go_sem, Nat.reduceBEq, Nat.reduceAdd, ww])
        refine S.next (i + 1) ⟨by omega, ?_⟩ (by omega) (by (repeat first | refine uA ?_ | (refine ⟨?_, ?_⟩; focus first | rfl | simp [slot]) | rfl | simp))
        rw [hg, hd]
        cases g1
        · simp at hc2
        cases g2
        · simp at hc2
        simp only [Bool.not_true, Bool.false_or, c1H, c1x] at hc2
        rw [decide_eq_false (show ¬ 0 < c0 from fun h => by have := hm.1 h; omega)]; rfl
    rw [List.drop_eq_nil_of_le (by omega), List.all_nil] at hg
    rw [hg, if_neg (by decide)] at hE
    (repeat first | refine uA ?_ | (refine uK ?_ ?_; focus first | omega | (intros; simp_all <;> omega)) | simp (disch := omega) only [go_sem, Nat.reduceBEq, Nat.reduceAdd, ww])
    refine S.cond rfl (fun hc => ?_) (fun hc => ?_)
    · rw [if_pos (by simpa using hc)] at hE
      subst hE
      rw [if_neg (by decide)]
      (repeat first | refine uA ?_ | (refine uK ?_ ?_; focus first | omega | (intros; simp_all <;> omega)) | simp (disch := omega) only [go_sem, Nat.reduceBEq, Nat.reduceAdd, ww])
      (refine S.done ?_; simp only [p9, l7, go_sem, Nat.reduceBEq, Nat.reduceAdd, Nat.reduceLeDiff, Int.reduceToNat, Int.reducePow]; (repeat (refine ⟨?_, ?_⟩; focus first | trivial | omega | simp)); exact j3.out rfl (Imp.tup (by (repeat' (first | exact j5.nil | exact Imp.refl rfl | exact Imp.frz rfl rfl rfl | exact Imp.F7 | refine Imp.agg ?_ | refine j5.cons ?_ ?_)))) rfl)
    rw [if_neg (by simpa using hc)] at hE
    subst hE
    rw [if_pos rfl]
    have htk : IntKind.i64.wrap (tick + 1) = tick + 1 := wrap_i64 (by omega)
    (repeat first | refine uA ?_ | (refine uK ?_ ?_; focus first | omega | (intros; simp_all <;> omega)) | simp (disch := omega) only [go_sem, Nat.reduceBEq, Nat.reduceAdd, ww, C.sh, C.shL, c1M, List.length_nil, c1q, htk] | refine l9.t (l8.pre (hcp _ rfl) rfl rfl rfl) ?_)
    refine S.loop (X := Nat) (fun i => ⟨[(2, wss u), (3, bls p), (4, vts v), (5, .bp 0 0), (6, .bp 1 0), (10, .bp 2 0), (15, .bp 9 0), (99, ams arms), (100, ints arms.length), (101, ints i)], [.box 31 [ams arms, wls walls, pts parts, sls slots, gts gates, .v (.bool walk.neg), sb walk.num, sb walk.den], .box 37 [ints tick, F5 sarms, frs sparts, vts people, bls sgates], .box 37 [.v (.int .i64 0), .v (.slice none 0 0), .v (.slice none 0 0), .v (.slice none 0 0), .v (.slice none 0 0)], .gone, .gone, .row 55 10 ((((arms.zip A).take i).foldl pP sparts).map Fr.enc), .row 51 6 (people.map Vt.enc), .gone, .row 90 4 ((A.take i ++ sarms.drop i).map Ast.enc), .box 37 [ints (tick + 1), .rv 8, .rv 5, .rv 6, bls sgates]]⟩) (fun i => i <= arms.length) (fun i => arms.length - i) 0 (c1y _) (by (repeat first | refine uA ?_ | (refine ⟨?_, ?_⟩; focus first | rfl | simp [slot]) | rfl | simp)) ?_
    intro i hi
    simp only [ams, wls, pts, sls, gts, F5, frs, vts, bls, wss, rts, sb, ints] at hi ⊢
    (repeat first | refine uA ?_ | (refine uK ?_ ?_; focus first | omega | (intros; simp_all <;> omega)) | simp (disch := omega) only [go_sem, Nat.reduceBEq, Nat.reduceAdd, ww])
    (refine uJ rfl (fun hc => ?_) fun hc => ?_)
    · have hga := c1p (show i < arms.length by omega)
      have hgx := c1p (show i < sarms.length by omega)
      have hgu := c1p (show i < u.length by omega)
      have hgp := c1p (show i < p.length by omega)
      generalize arms[i]'_ = a at hga
      generalize sarms[i]'_ = x at hgx
      generalize u[i]'_ = ui at hgu
      generalize p[i]'_ = b at hgp
      have hgA := hag hga hgx hgu hgp
      have hz := c1t (M4 hga hgx)
      obtain ⟨k1, k2, k3, k4⟩ := hone _ hz
      simp only at k1 k2 k3 k4
      have bx := hbs x (c1t hgx)
      have bu := hbu ui (c1t hgu)
      have ba := hba a (c1t hga)
      have o1 := b9p a x ui b (ba.mono (by decide)) ⟨⟨c1v bx.1.1 (by decide), fun r hr => (bx.1.2 r hr).mono (by decide)⟩, c1v bx.2.1 (by decide), fun r hr => (bx.2.2 r hr).mono (by decide)⟩ ⟨c1v bu.1 (by decide), fun r hr => (bu.2 r hr).mono (by decide)⟩ k1 k2 k3
      have hfa := fold_at (f := pP) (M4 hga hgA) sparts
      rw [hput] at hfa
      have hh := holds_one a x ui b
      have hql := (b8K (u := ui) (p := b) ⟨k1, k2, k3, k4⟩).1
      have hqb := (b9t (u := ui) (p := b) k1 bx bu.2).1
      have hcar := fun q pt => hcar i (a1F a x ui b) a q pt hga
      have hPl := hpl ((arms.zip A).take i) sparts
      have s1 := a6z Ast.enc (by omega) hgA (m := sarms)
      have m1 := a4I (l := A) (m := sarms) (i := i) (by omega) (by omega)
      generalize hA1 : A.take (i + 1) ++ sarms.drop (i + 1) = A1 at *
      generalize A.take i ++ sarms.drop i = A0 at *
      generalize hP1 : ((arms.zip A).take (i + 1)).foldl pP sparts = P1 at *
      generalize ((arms.zip A).take i).foldl pP sparts = P0 at *
      obtain ⟨z0, hz0⟩ : ∃ z0, A0[i]? = some z0 := ⟨_, c1p (show i < A0.length by omega)⟩
      generalize hy : a1F a x ui b = y at *
      have hxi : (i : Int) < sarms.length := by omega
      have hui : (i : Int) < u.length := by omega
      have hpi : (i : Int) < p.length := by omega
      simp only [Am.c, Am.enc, Ast.c, Ast.enc, lks, rts, sb, ints] at o1 s1 hcar
      (repeat first | refine uA ?_ | (refine uK ?_ ?_; focus first | omega | (intros; simp_all <;> omega)) | simp (disch := omega) only [go_sem, Nat.reduceBEq, Nat.reduceAdd, ww, hga, hgx, hgu, hgp, hz0, m1, s1, c1r, c1q, Am.enc, Ast.enc, lks, rts, sb, ints, c1u] | (refine uD o1 ?_ ?_ ?_; exact tz hw; exact rfl))
      refine S.cond rfl (fun hc2 => by simp at hc2) (fun hc2 => ?_)
      (repeat first | refine uA ?_ | (refine uK ?_ ?_; focus first | omega | (intros; simp_all <;> omega)) | simp (disch := omega) only [go_sem, Nat.reduceBEq, Nat.reduceAdd, ww, hz0, m1, s1, c1r, c1q, Ast.enc, rts, ints, c1u])
      refine S.cond rfl (fun hc3 => ?_) (fun hc3 => ?_)
      · have hp0 : 0 <= y.holds := by simpa using hc3
        obtain ⟨q, hq⟩ : ∃ q : Nat, y.holds = q := ⟨y.holds.toNat, by omega⟩
        have hqp : q < parts.length := by omega
        have hgq := c1p hqp
        generalize parts[q] = pt at hgq
        have o2 := hcar q pt hgq hq k1 hql hqb
        rw [if_neg (by simp only; omega)] at hfa
        simp only [hq, c1u, hgq] at hfa
        have s2 : (P0.map Fr.enc).set q (a6C a y.q pt.grasp).enc = P1.map Fr.enc := by rw [<- List.map_set, <- hfa]
        obtain ⟨z1, hz1⟩ : ∃ z1, P0[q]? = some z1 := ⟨_, c1p (show q < P0.length by omega)⟩
        have hq2 : (q : Int) < P0.length := by omega
        generalize a6C a y.q pt.grasp = R at *
        simp only [Fr.c, Fr.enc, hq, sb] at o2 s2
        simp only [hq]
        (repeat first | refine uA ?_ | (refine uK ?_ ?_; focus first | omega | (intros; simp_all <;> omega)) | simp (disch := omega) only [go_sem, Nat.reduceBEq, Nat.reduceAdd, ww, hz1, s2, hPl, Fr.enc, sb, c1r, c1q, c1u] | (refine uD o2 ?_ ?_ ?_; exact tz hw; exact rfl))
        refine S.cond rfl (fun hc2 => by simp at hc2) (fun hc2 => ?_)
        (repeat first | refine uA ?_ | (refine uK ?_ ?_; focus first | omega | (intros; simp_all <;> omega)) | simp (disch := omega) only [go_sem, Nat.reduceBEq, Nat.reduceAdd, ww])
        refine S.next (i + 1) (by omega) (by omega) (by simp only [hA1, hP1]; exact (by (repeat first | refine uA ?_ | (refine ⟨?_, ?_⟩; focus first | rfl | simp [slot]) | rfl | simp)))
      · have hp0 : y.holds < 0 := by simp only [c1x] at hc3; omega
        rw [if_pos (by simpa using hp0)] at hfa
        subst hfa
        (repeat first | refine uA ?_ | (refine uK ?_ ?_; focus first | omega | (intros; simp_all <;> omega)) | simp (disch := omega) only [go_sem, Nat.reduceBEq, Nat.reduceAdd, ww])
        refine S.next (i + 1) (by omega) (by omega) (by simp only [hA1, hP1]; exact (by (repeat first | refine uA ?_ | (refine ⟨?_, ?_⟩; focus first | rfl | simp [slot]) | rfl | simp)))
    have hi' : i = arms.length := by omega
    subst hi'
    rw [show (arms.zip A).take arms.length = arms.zip A from c1O (by rw [List.length_zip]; omega), show A.take arms.length ++ sarms.drop arms.length = A by rw [<- e1]; exact mid_end (by omega)]
    have hMl : ((people.zip v).map a8L).length = people.length := by rw [c1q, List.length_zip]; omega
    have hMg : ∀ (i : Nat) (a b : Vt), people[i]? = some a -> v[i]? = some b -> ((people.zip v).map a8L)[i]? = some (a8L (a, b)) := fun i a b h1 h2 => by rw [c2f, M4 h1 h2]; rfl
    generalize (arms.zip A).foldl pP sparts = PP at *
    generalize (people.zip v).map a8L = M at *
    (repeat first | refine uA ?_ | (refine uK ?_ ?_; focus first | omega | (intros; simp_all <;> omega)) | simp (disch := omega) only [go_sem, Nat.reduceBEq, Nat.reduceAdd, ww, c1q])
    refine S.loop (X := Nat) (fun i => ⟨[(6, .bp 1 0), (10, .bp 2 0), (15, .bp 9 0), (153, vts v), (154, ints v.length), (155, ints i)], [.gone, .box 37 [ints tick, F5 sarms, frs sparts, vts people, bls sgates], .box 37 [.v (.int .i64 0), .v (.slice none 0 0), .v (.slice none 0 0), .v (.slice none 0 0), .v (.slice none 0 0)], .gone, .gone, .row 55 10 (PP.map Fr.enc), .row 51 6 ((M.take i ++ people.drop i).map Vt.enc), .gone, .row 90 4 (A.map Ast.enc), .box 37 [ints (tick + 1), .rv 8, .rv 5, .rv 6, bls sgates]]⟩) (fun i => i <= v.length) (fun i => v.length - i) 0 (c1y _) (by (repeat first | refine uA ?_ | (refine ⟨?_, ?_⟩; focus first | rfl | simp [slot]) | rfl | simp)) ?_
    intro i hi
    simp only [ams, wls, pts, sls, gts, F5, frs, vts, bls, wss, rts, sb, ints] at hi ⊢
    (repeat first | refine uA ?_ | (refine uK ?_ ?_; focus first | omega | (intros; simp_all <;> omega)) | simp (disch := omega) only [go_sem, Nat.reduceBEq, Nat.reduceAdd, ww])
    (refine uJ rfl (fun hc => ?_) fun hc => ?_)
    · have hgv := c1p (show i < v.length by omega)
      have hgw := c1p (show i < people.length by omega)
      generalize v[i]'_ = b at hgv
      generalize people[i]'_ = a at hgw
      have hgM := hMg i a b hgw hgv
      obtain ⟨ba1, ba2⟩ := hbp a (c1t hgw)
      obtain ⟨bb1, bb2⟩ := hbv b (c1t hgv)
      have o1 := b5u a.x a.y b.x b.y (ba1.mono (by decide)) (ba2.mono (by decide)) (bb1.mono (by decide)) (bb2.mono (by decide))
      have s1 := a6z Vt.enc (by omega) hgM (m := people)
      have m1 := a4I (l := M) (m := people) (i := i) (by omega) (by omega)
      have hV : a8L (a, b) = ⟨Nm.ofQ (Nm.d9 a.x + Nm.d9 b.x), Nm.ofQ (Nm.d9 a.y + Nm.d9 b.y)⟩ := rfl
      rw [hV] at s1
      unfold vq at o1
      generalize Nm.ofQ (Nm.d9 a.x + Nm.d9 b.x) = r1 at *
      generalize Nm.ofQ (Nm.d9 a.y + Nm.d9 b.y) = r2 at *
      generalize hM1 : M.take (i + 1) ++ people.drop (i + 1) = M1 at *
      generalize M.take i ++ people.drop i = M0 at *
      obtain ⟨z0, hz0⟩ : ∃ z0, M0[i]? = some z0 := ⟨_, c1p (show i < M0.length by omega)⟩
      have hwi : (i : Int) < people.length := by omega
      simp only [vc, Vt.enc, sb] at o1 s1
      (repeat first | refine uA ?_ | (refine uK ?_ ?_; focus first | omega | (intros; simp_all <;> omega)) | simp (disch := omega) only [go_sem, Nat.reduceBEq, Nat.reduceAdd, ww, hgv, hgw, hz0, m1, s1, c1r, c1q, Vt.enc, sb, c1u] | (refine uD o1 ?_ ?_ ?_; exact tz hw; exact rfl))
      refine S.next (i + 1) (by omega) (by omega) (by simp only [hM1]; exact (by (repeat first | refine uA ?_ | (refine ⟨?_, ?_⟩; focus first | rfl | simp [slot]) | rfl | simp)))
    have hi' : i = v.length := by omega
    subst hi'
    rw [show M.take v.length ++ people.drop v.length = M by rw [hl3]; exact mid_end (by omega)]
    (repeat first | refine uA ?_ | (refine uK ?_ ?_; focus first | omega | (intros; simp_all <;> omega)) | simp (disch := omega) only [go_sem, Nat.reduceBEq, Nat.reduceAdd, ww])
    (refine S.done ?_; simp only [p9, l7, go_sem, Nat.reduceBEq, Nat.reduceAdd, Nat.reduceLeDiff, Int.reduceToNat, Int.reducePow]; (repeat (refine ⟨?_, ?_⟩; focus first | trivial | omega | simp)); exact j3.out rfl (Imp.tup (by (repeat' (first | exact j5.nil | exact Imp.refl rfl | exact Imp.frz rfl rfl rfl | exact Imp.F7 | refine Imp.agg ?_ | refine j5.cons ?_ ?_)))) rfl)
  · have hE : a3e w s u p v = H8 w s := by unfold a3e; rw [if_pos h0]
    unfold a7y
    rw [hE, if_neg h0]
    generalize H8 w s = e at *
    obtain ⟨arms, walls, parts, slots, gates, walk⟩ := w
    obtain ⟨tick, sarms, sparts, people, sgates⟩ := s
    simp only [a3v, j6, TT, II, OA, OB, OC, MM, LL, VV, FF, MG, LG, VG, FG]
    simp only [Wk.c, Wk.enc, Stt.c, Stt.enc, a0L, ams, wls, pts, sls, gts, F5, frs, vts, bls, wss, rts, sb, ints] at hck ⊢
    (repeat first | refine uA ?_ | (refine uK ?_ ?_; focus first | omega | (intros; simp_all <;> omega)) | simp (disch := omega) only [go_sem, Nat.reduceBEq, Nat.reduceAdd, ww] | (refine uD hck ?_ ?_ ?_; exact tz hw; exact rfl))
    refine S.cond rfl (fun hc => ?_) (fun hc => by simp at hc; exact absurd hc h0)
    (repeat first | refine uA ?_ | (refine uK ?_ ?_; focus first | omega | (intros; simp_all <;> omega)) | simp (disch := omega) only [go_sem, Nat.reduceBEq, Nat.reduceAdd, ww])
    (refine S.done ?_; simp only [p9, l7, go_sem, Nat.reduceBEq, Nat.reduceAdd, Nat.reduceLeDiff, Int.reduceToNat, Int.reducePow]; (repeat (refine ⟨?_, ?_⟩; focus first | trivial | omega | simp)); exact j3.out rfl (Imp.tup (by (repeat' (first | exact j5.nil | exact Imp.refl rfl | exact Imp.frz rfl rfl rfl | exact Imp.F7 | refine Imp.agg ?_ | refine j5.cons ?_ ?_)))) rfl)
set_option maxRecDepth 10000
set_option maxHeartbeats 4000000
def azL : List UInt8 := [97, 98, 99, 100, 101, 102, 103, 104, 105, 106, 107, 108, 109, 110, 111, 112, 113, 114, 115, 116, 117, 118, 119, 120, 121, 122]
theorem c0h : ∀ n : Fin 256, azL.contains (UInt8.ofNat n) = H6 (UInt8.ofNat n) := by decide +kernel
theorem b5h (b : UInt8) : azL.contains b = H6 b := by
 have h := c0h ⟨b.toNat, b.toNat_lt⟩
 simpa using h
theorem b4Q {p : UInt8 -> Bool} {x : UInt8} : ∀ {l : List UInt8}, x ∈ l.takeWhile p -> p x = true
 | [], h => by simp at h
 | y :: l, h => by
  rw [List.takeWhile_cons] at h
  split at h
  ·rcases List.mem_cons.1 h with rfl | h
   ·assumption
   ·exact b4Q h
  ·cases h
theorem b1e {p : UInt8 -> Bool} : ∀ {l : List UInt8}, l.dropWhile p = [] <-> l.all p = true
 | [] => by simp
 | x :: l => by
  rw [List.dropWhile_cons, List.all_cons]
  cases h : p x
  ·simp
  ·simpa using b1e (p := p) (l := l)
theorem b7i (l : List UInt8) : Lib.trimS l azL = [] <-> l.all H6 = true := by
 have hf : (fun b => azL.contains b) = H6 := funext b5h
 unfold Lib.trimS Lib.trimLeftS Lib.trimRightS
 rw [hf, b1e]
 constructor
 ·intro h
  rw [List.all_eq_true] at h ⊢
  intro x hx
  cases hl : H6 x with
  | true => rfl
  | false =>
   have : x ∈ (l.reverse.dropWhile H6).reverse := by
    rw [List.mem_reverse]
    have hx' : x ∈ l.reverse := List.mem_reverse.2 hx
    rw [<- List.takeWhile_append_dropWhile (p := H6) (l := l.reverse)] at hx'
    rcases List.mem_append.1 hx' with h1 | h1
    ·have := b4Q h1
     rw [hl] at this; cases this
    ·exact h1
   have := h x this
   rw [hl] at this; cases this
 ·intro h
  rw [List.all_eq_true] at h ⊢
  intro x hx
  exact h x (List.mem_reverse.1 ((List.dropWhile_sublist _).mem (List.mem_reverse.1 hx)))
theorem b9a (s : List UInt8) (hs : s.length <= 1099511627776) : u7 Tryz.prog 82 [sb s, .v (.string ⟨#[97, 98, 99, 100, 101, 102, 103, 104, 105, 106, 107, 108, 109, 110, 111, 112, 113, 114, 115, 116, 117, 118, 119, 120, 121, 122]⟩)] (sb (Lib.trimS s azL)) := by
 intro O w vs hO hA
 simp only [FzL, sb, Fz] at hA
 obtain ⟨y, ys, rfl, rfl, z, zs, rfl, rfl, rfl⟩ := hA
 refine (Any.strings_Trim_laid Tryz.b8T (by kernel_rfl) (bs s) ⟨#[97, 98, 99, 100, 101, 102, 103, 104, 105, 106, 107, 108, 109, 110, 111, 112, 113, 114, 115, 116, 117, 118, 119, 120, 121, 122]⟩ w (by rw [u6]; omega) (by decide) (ascii_of_all (by decide))).mono ?_
 rintro e w' ⟨rfl, hb⟩
 exact ⟨_, rfl, hb, by simp only [sb, Fz, O0]; rfl⟩
theorem b8X (s : List UInt8) (hs : s.length <= 1099511627776) : u7 Tryz.prog 20 [sb s] (.v (.bool (a0m s))) := by
 refine kS Tryz.func20 (by cbv) (by rfl) fun w O => ?_
 have h := b9a s hs
 have e : a0m s = ((!decide (s = []) && decide ((s.length : Int) <= 12)) && decide (Lib.trimS s azL = [])) := by
  have h1 : decide (Lib.trimS s azL = []) = s.all H6 := by
   have := b7i s
   cases h : s.all H6
   ·exact decide_eq_false (fun h2 => by rw [this.1 h2] at h; cases h)
   ·exact decide_eq_true (this.2 h)
  have h2 : (s.all fun b => decide (97 <= b.toNat) && decide (b.toNat <= 122)) = s.all H6 := rfl
  have h3 : decide (1 <= s.length) = !decide (s = []) := by cases s <;> simp
  have h4 : decide (s.length <= 12) = decide ((s.length : Int) <= 12) := by apply decide_eq_decide.2; omega
  unfold a0m
  rw [h1, h2, h3, h4]
  cases s.all H6 <;> cases (decide (s = [])) <;> cases (decide ((s.length : Int) <= 12)) <;> rfl
 rw [e]
 generalize Lib.trimS s azL = t at *
 simp only [j6]
 simp only [sb] at *
 (repeat first | refine uA ?_ | (refine uK ?_ ?_; focus first | omega | (intros; simp_all <;> omega)) | simp (disch := omega) only [go_sem, Nat.reduceBEq, Nat.reduceAdd, ww, u6, Z8, decide_not] | (refine uB h ?_ ?_; exact rfl))
 exact S.done (j3.out rfl (Imp.refl rfl) rfl)
theorem a3z {α : Type} {f : α -> Bool} {l : List α} {i : Nat} {x : α} (h : l[i]? = some x) : (l.drop i).all f = (f x && (l.drop (i + 1)).all f) := by
 obtain ⟨h1, h2⟩ := c1z.1 h
 rw [List.drop_eq_getElem_cons h1, List.all_cons, h2]
theorem a4F {α : Type} {f : α -> Bool} {l : List α} {i : Nat} (h : l.length <= i) : (l.drop i).all f = true := by rw [List.drop_eq_nil_of_le h]; rfl
theorem V8 {a : Nm.Rt} : j4 a = (decide a.A8 && j4 a) := by
 unfold j4
 cases decide a.A8 <;> simp
theorem a3w (l : List Nm.Rt) (hl : Rbs 17179869184 l) : FZ 85 [rts l] (.v (.bool (l.all j4))) := by
 refine kW Tryz.func85 (by cbv) (by rfl) fun w O hw => ?_
 obtain ⟨hn, hb⟩ := hl
 simp only [j6, rts]
 (repeat first | refine uA ?_ | (refine uK ?_ ?_; focus first | omega | (intros; simp_all <;> omega)) | simp (disch := omega) only [go_sem, Nat.reduceBEq, Nat.reduceAdd, ww, c1q])
 refine S.loop (X := Nat) (fun i => ⟨[(5, rts l), (6, ints l.length), (7, ints i)], []⟩) (fun i => i <= l.length /\ l.all j4 = (l.drop i).all j4) (fun i => l.length - i) 0 ⟨c1y _, rfl⟩ (by (repeat first | refine uA ?_ | (refine ⟨?_, ?_⟩; focus first | rfl | simp [slot]) | rfl | simp)) ?_
 rintro i ⟨hi, hg⟩
 simp only [rts, ints] at hi ⊢
 (repeat first | refine uA ?_ | (refine uK ?_ ?_; focus first | omega | (intros; simp_all <;> omega)) | simp (disch := omega) only [go_sem, Nat.reduceBEq, Nat.reduceAdd, ww])
 (refine uJ rfl (fun hc => ?_) fun hc => ?_)
 ·have hgi := c1p (show i < l.length by omega)
  generalize l[i]'(_) = x at hgi
  have hx := hb x (c1t hgi)
  have hs := a3z (f := j4) hgi
  have o1 := P5 x (hx.mono (by decide))
  have o2 := a2b x hx
  rw [V8] at hs
  generalize decide x.A8 = q1 at *
  generalize j4 x = q2 at *
  simp only [rc, sb] at o1 o2
  (repeat first | refine uA ?_ | (refine uK ?_ ?_; focus first | omega | (intros; simp_all <;> omega)) | simp (disch := omega) only [go_sem, Nat.reduceBEq, Nat.reduceAdd, ww, hgi, c1r, c1q, rcs, sb, c1u] | (refine uD o1 ?_ ?_ ?_; exact tz hw; exact rfl) | (refine uD o2 ?_ ?_ ?_; exact tz hw; exact rfl))
  refine S.cond rfl (fun hc2 => ?_) (fun hc2 => ?_)
  ·rw [hg, hs, show (q1 && q2) = false by cases q1 <;> cases q2 <;> simp_all, Bool.false_and]
   (repeat first | refine uA ?_ | (refine uK ?_ ?_; focus first | omega | (intros; simp_all <;> omega)) | simp (disch := omega) only [go_sem, Nat.reduceBEq, Nat.reduceAdd, ww])
   exact S.done (j3.out rfl (Imp.refl rfl) rfl)
  ·(repeat first | refine uA ?_ | (refine uK ?_ ?_; focus first | omega | (intros; simp_all <;> omega)) | simp (disch := omega) only [go_sem, Nat.reduceBEq, Nat.reduceAdd, ww])
   refine S.next (i + 1) ⟨by omega, by rw [hg, hs, show (q1 && q2) = true by cases q1 <;> cases q2 <;> simp_all, Bool.true_and]⟩ (by omega) (by (repeat first | refine uA ?_ | (refine ⟨?_, ?_⟩; focus first | rfl | simp [slot]) | rfl | simp))
 ·rw [hg, a4F (by omega)]
  (repeat first | refine uA ?_ | (refine uK ?_ ?_; focus first | omega | (intros; simp_all <;> omega)) | simp (disch := omega) only [go_sem, Nat.reduceBEq, Nat.reduceAdd, ww])
  exact S.done (j3.out rfl (Imp.refl rfl) rfl)
theorem a6E (l : List Nm.Rt) (hl : Rbs 17179869184 l) : FZ 140 [rts l] (.v (.bool (l.all C8))) := by
 refine kW Tryz.func140 (by cbv) (by rfl) fun w O hw => ?_
 obtain ⟨hn, hb⟩ := hl
 simp only [j6, rts]
 (repeat first | refine uA ?_ | (refine uK ?_ ?_; focus first | omega | (intros; simp_all <;> omega)) | simp (disch := omega) only [go_sem, Nat.reduceBEq, Nat.reduceAdd, ww, c1q])
 refine S.loop (X := Nat) (fun i => ⟨[(5, rts l), (6, ints l.length), (7, ints i)], []⟩) (fun i => i <= l.length /\ l.all C8 = (l.drop i).all C8) (fun i => l.length - i) 0 ⟨c1y _, rfl⟩ (by (repeat first | refine uA ?_ | (refine ⟨?_, ?_⟩; focus first | rfl | simp [slot]) | rfl | simp)) ?_
 rintro i ⟨hi, hg⟩
 simp only [rts, ints] at hi ⊢
 (repeat first | refine uA ?_ | (refine uK ?_ ?_; focus first | omega | (intros; simp_all <;> omega)) | simp (disch := omega) only [go_sem, Nat.reduceBEq, Nat.reduceAdd, ww])
 (refine uJ rfl (fun hc => ?_) fun hc => ?_)
 ·have hgi := c1p (show i < l.length by omega)
  generalize l[i]'(_) = x at hgi
  have hx := hb x (c1t hgi)
  have hs := a3z (f := C8) hgi
  have o1 := P5 x (hx.mono (by decide))
  rw [show decide x.A8 = C8 x from rfl] at o1
  generalize C8 x = q1 at *
  simp only [rc, sb] at o1
  (repeat first | refine uA ?_ | (refine uK ?_ ?_; focus first | omega | (intros; simp_all <;> omega)) | simp (disch := omega) only [go_sem, Nat.reduceBEq, Nat.reduceAdd, ww, hgi, c1r, c1q, rcs, sb, c1u] | (refine uD o1 ?_ ?_ ?_; exact tz hw; exact rfl))
  refine S.cond rfl (fun hc2 => ?_) (fun hc2 => ?_)
  ·rw [hg, hs, show q1 = false by simpa using hc2, Bool.false_and]
   (repeat first | refine uA ?_ | (refine uK ?_ ?_; focus first | omega | (intros; simp_all <;> omega)) | simp (disch := omega) only [go_sem, Nat.reduceBEq, Nat.reduceAdd, ww])
   exact S.done (j3.out rfl (Imp.refl rfl) rfl)
  ·(repeat first | refine uA ?_ | (refine uK ?_ ?_; focus first | omega | (intros; simp_all <;> omega)) | simp (disch := omega) only [go_sem, Nat.reduceBEq, Nat.reduceAdd, ww])
   refine S.next (i + 1) ⟨by omega, by rw [hg, hs, show q1 = true by simpa using hc2, Bool.true_and]⟩ (by omega) (by (repeat first | refine uA ?_ | (refine ⟨?_, ?_⟩; focus first | rfl | simp [slot]) | rfl | simp))
 ·rw [hg, a4F (by omega)]
  (repeat first | refine uA ?_ | (refine uK ?_ ?_; focus first | omega | (intros; simp_all <;> omega)) | simp (disch := omega) only [go_sem, Nat.reduceBEq, Nat.reduceAdd, ww])
  exact S.done (j3.out rfl (Imp.refl rfl) rfl)
theorem okF_eq (f : Fr) : okF f = ([f.x, f.y, f.t].all j4 && !a1Q f.half f.t) := by
 rw [a3Q, V8 (a := f.x), V8 (a := f.y), V8 (a := f.t)]
 unfold okF okV
 simp only
 generalize a1Q f.half f.t = z
 cases decide f.x.A8 <;> cases decide f.y.A8 <;> cases decide f.t.A8 <;> cases j4 f.x <;> cases j4 f.y <;> cases j4 f.t <;> cases z <;> rfl
theorem b0H (v : Vt) : okV v = [v.x, v.y].all j4 := by
 rw [a4C, V8 (a := v.x), V8 (a := v.y)]
 unfold okV
 cases decide v.x.A8 <;> cases decide v.y.A8 <;> cases j4 v.x <;> cases j4 v.y <;> rfl
theorem a9W (f : Fr) (hf : Fb 17179869184 f) : FZ 22 [f.c] (.v (.bool (okF f))) := by
 refine kW Tryz.func22 (by cbv) (by rfl) fun w O hw => ?_
 rw [okF_eq]
 obtain ⟨x, y, half, t⟩ := f
 obtain ⟨b1, b2, b3⟩ := hf
 simp only at b1 b2 b3
 have h1 := a3w _ (Rbs.three (by decide) b1 b2 b3)
 have h4 := O3 t b3
 unfold a1Q
 simp only
 generalize [x, y, t].all j4 = q1 at *
 generalize y8 (Nm.d9 t) = n at *
 simp only [j6]
 simp only [Fr.c, Fr.enc, rts, rcs, rc, sb, ints, c1J, c1N] at *
 (repeat first | refine uA ?_ | (refine uK ?_ ?_; focus first | omega | (intros; simp_all <;> omega)) | simp (disch := omega) only [go_sem, Nat.reduceBEq, Nat.reduceAdd, ww] | (refine uD h4 ?_ ?_ ?_; exact tz hw; exact rfl) | (refine uE h1 ?_ ?_ ?_ ?_; exact tz hw; exact rfl; focus (repeat' first | exact j5.nil | exact Imp.refl rfl | exact Imp.frz rfl rfl rfl | (refine Imp.J9 rfl rfl ?_ ?_; (focus ((try simp only [c1s]); omega)); (focus first | rfl | assumption)) | refine j5.cons ?_ ?_); done))
 exact S.done (j3.out rfl (Imp.refl (by rfl)) rfl)
theorem b0y (l : List Vt) (hl : Vbs 1073741824 l) : FZ 100 [vts l] (ints (K8 l)) := by
 refine kW Tryz.func100 (by cbv) (by rfl) fun w O hw => ?_
 have h1 := a4i l hl
 obtain ⟨hn, hb⟩ := hl
 unfold K8
 generalize U2 l 8 = e at *
 simp only [j6]
 simp only [vts, ints] at *
 (repeat first | refine uA ?_ | (refine uK ?_ ?_; focus first | omega | (intros; simp_all <;> omega)) | simp (disch := omega) only [go_sem, Nat.reduceBEq, Nat.reduceAdd, ww] | (refine uD h1 ?_ ?_ ?_; exact tz hw; exact rfl))
 refine S.cond rfl (fun hc => ?_) (fun hc => ?_)
 ·rw [if_pos (by simpa using hc)]
  (repeat first | refine uA ?_ | (refine uK ?_ ?_; focus first | omega | (intros; simp_all <;> omega)) | simp (disch := omega) only [go_sem, Nat.reduceBEq, Nat.reduceAdd, ww])
  exact S.done (j3.out rfl (Imp.refl rfl) rfl)
 rw [if_neg (by simpa using hc)]
 (repeat first | refine uA ?_ | (refine uK ?_ ?_; focus first | omega | (intros; simp_all <;> omega)) | simp (disch := omega) only [go_sem, Nat.reduceBEq, Nat.reduceAdd, ww, c1q])
 refine S.loop (X := Nat) (fun i => ⟨[(11, vts l), (12, ints l.length), (13, ints i)], []⟩) (fun i => i <= l.length /\ l.all okV = (l.drop i).all okV) (fun i => l.length - i) 0 ⟨c1y _, rfl⟩ (by (repeat first | refine uA ?_ | (refine ⟨?_, ?_⟩; focus first | rfl | simp [slot]) | rfl | simp)) ?_
 rintro i ⟨hi, hg⟩
 simp only [vts, ints] at hi ⊢
 (repeat first | refine uA ?_ | (refine uK ?_ ?_; focus first | omega | (intros; simp_all <;> omega)) | simp (disch := omega) only [go_sem, Nat.reduceBEq, Nat.reduceAdd, ww])
 (refine uJ rfl (fun hc => ?_) fun hc => ?_)
 ·have hgi := c1p (show i < l.length by omega)
  generalize l[i]'(_) = v at hgi
  have hv := hb v (c1t hgi)
  have hs := a3z (f := okV) hgi
  rw [b0H] at hs
  have o1 := a3w _ (Rbs.two (by decide) (hv.1.mono (m := 17179869184) (by decide)) (hv.2.mono (m := 17179869184) (by decide)))
  generalize [v.x, v.y].all j4 = q at *
  simp only [rts, rcs, sb, c1J, c1N] at o1
  (repeat first | refine uA ?_ | (refine uK ?_ ?_; focus first | omega | (intros; simp_all <;> omega)) | simp (disch := omega) only [go_sem, Nat.reduceBEq, Nat.reduceAdd, ww, hgi, c1r, c1q, Vt.enc, sb, c1u] | (refine uE o1 ?_ ?_ ?_ ?_; exact tz hw; exact rfl; focus (repeat' first | exact j5.nil | exact Imp.refl rfl | exact Imp.frz rfl rfl rfl | (refine Imp.J9 rfl rfl ?_ ?_; (focus ((try simp only [c1s, hgi, c1r, c1q, Vt.enc, sb, c1u]); omega)); (focus first | rfl | assumption)) | refine j5.cons ?_ ?_); done))
  refine S.cond rfl (fun hc2 => ?_) (fun hc2 => ?_)
  ·rw [hg, hs, show q = false by simpa using hc2, Bool.false_and, if_neg (by decide)]
   (repeat first | refine uA ?_ | (refine uK ?_ ?_; focus first | omega | (intros; simp_all <;> omega)) | simp (disch := omega) only [go_sem, Nat.reduceBEq, Nat.reduceAdd, ww])
   exact S.done (j3.out rfl (Imp.refl rfl) rfl)
  ·(repeat first | refine uA ?_ | (refine uK ?_ ?_; focus first | omega | (intros; simp_all <;> omega)) | simp (disch := omega) only [go_sem, Nat.reduceBEq, Nat.reduceAdd, ww])
   refine S.next (i + 1) ⟨by omega, by rw [hg, hs, show q = true by simpa using hc2, Bool.true_and]⟩ (by omega) (by (repeat first | refine uA ?_ | (refine ⟨?_, ?_⟩; focus first | rfl | simp [slot]) | rfl | simp))
 ·rw [hg, a4F (by omega), if_pos rfl]
  (repeat first | refine uA ?_ | (refine uK ?_ ?_; focus first | omega | (intros; simp_all <;> omega)) | simp (disch := omega) only [go_sem, Nat.reduceBEq, Nat.reduceAdd, ww])
  exact S.done (j3.out rfl (Imp.refl rfl) rfl)
end Go.Proofs.YtogfpjohjphngaaGreatDoor
namespace Go.Proofs.YtogfpjohjphngaaGreatDoor.Eng
open Go Go.RowKit
theorem l8.b3F {E : Ctx} {rs rs' : List Res} {pk : List Nat} (ex : List Res) {f : Nat} {args : List C} {s : C} (h : l8 E rs f args s rs' pk) (hl : rs'.length = rs.length) (hb : rs.all (Res.bdr rs.length) = true) (ha : C.bdL rs.length args = true) : l8 E (rs ++ ex) f args s (rs' ++ ex.map (Res.x9 pk)) pk := by
 intro av ν w vs hR hav hF hD
 have hlen := hR.len
 have hl1 : (ν.take rs.length).length = rs.length := by rw [c1D, hlen, c1s]; omega
 generalize hν1 : ν.take rs.length = ν1 at hl1
 have hown := fun b => a2G hlen b
 rw [hν1] at hown
 have hx : ∀ b k r x, ex[k]? = some r -> ν[rs.length + k]? = some x -> fp r x b -> ¬ owned rs ν1 b := by
  rintro b k r x h1 h2 h3 ⟨l, q, y, g1, g2, g3⟩
  have hlt := (c1z.1 g1).1
  rw [<- hν1] at g2
  exact hR.dis l (rs.length + k) q r y x b (by omega) (by rw [c1C hlt]; exact g1) (by rw [c1F (by omega), show rs.length + k - rs.length = k by omega]; exact h1) (U7 g2) h2 g3 h3
 let av' : Nat -> Prop := fun b => OO av (rs ++ ex) ν b /\ ¬ owned rs ν1 b
 have hOO : ∀ b, OO av' rs ν1 b -> OO av (rs ++ ex) ν b := fun b hb => by
  rcases hb with hb | hb
  ·exact hb.1
  ·exact .inr ((hown b).2 (.inl hb))
 have hRG : RG av' E.own0 E.w0.heap.size ν1 rs w := by
  refine ⟨hl1, fun k r hk => ?_, fun l m q q' y y' b hne h1 h2 h3 h4 => ?_, fun b hb => ?_, fun b hb => ?_, hR.n0⟩
  ·have hlt := (c1z.1 hk).1
   obtain ⟨x, hx, hok⟩ := hR.res k r (by rw [c1C hlt]; exact hk)
   refine ⟨x, by rw [<- hν1]; exact I7 hlt hx, ?_⟩
   rw [<- hν1]
   rw [List.all_eq_true] at hb
   exact b5k (hb r (c1t hk)) (by rw [hν1]; exact hOO) hok
  ·have g1 := (c1z.1 h1).1
   have g2 := (c1z.1 h2).1
   rw [<- hν1] at h3 h4
   exact hR.dis l m q q' y y' b hne (by rw [c1C g1]; exact h1) (by rw [c1C g2]; exact h2) (U7 h3) (U7 h4)
  ·obtain ⟨g1, g2, g3⟩ := hR.low b ((hown b).2 (.inl hb))
   exact ⟨g1, fun h => h.2 hb, g3⟩
  ·rcases hb.1 with h1 | h1
   ·exact hR.av b h1
   ·exact (hR.low b h1).1
 have hnav : ∀ b, av b -> ¬ owned rs ν1 b := fun b hb ho => (hR.low b ((hown b).2 (.inl ho))).2.1 hb
 have hD' : l6 ν1 w (OO av' rs ν1) args vs := by
  have := l6.keep (Keeps.sub hOO) (l6.takeν rs.length ha hD)
  rwa [hν1] at this
 refine (h av' ν1 w vs hRG (fun b hb => ⟨.inl (hav b hb), hnav b (hav b hb)⟩) hF hD').mono ?_
 rintro e w' ⟨y, ν', rfl, h1, h2, h3⟩
 have hl' : ν'.length = rs.length := by rw [h1.len, hl]
 let ν2 : List Value := ν' ++ ν.drop rs.length
 have hdl : (ν.drop rs.length).length = ex.length := by rw [c2d, hlen, c1s]; omega
 have hlen' : ν2.length = (rs' ++ ex.map (Res.x9 pk)).length := by rw [c1s, c1s, hl', hdl, hl, c1q]
 have tk : ν2.take rs'.length = ν' := by rw [hl, <- hl']; simp [ν2]
 have tl : ∀ k, ν2[rs.length + k]? = ν[rs.length + k]? := fun k => by
  show (ν' ++ ν.drop rs.length)[rs.length + k]? = _
  rw [c1F (by omega), hl', show rs.length + k - rs.length = k by omega, c2e]
 have hown' := fun b => a2G hlen' b
 rw [tk, hl] at hown'
 have hnu : T9 [] ν' ν2 := fun k x _ hx => by show (ν' ++ _)[k]? = _; rw [c1C (c1z.1 hx).1]; exact hx
 have hnu2 : T9 pk ν ν2 := fun k x hk hx => by
  rcases c1Q k rs.length with h0 | h0
  ·show (ν' ++ _)[k]? = _
   rw [c1C (by omega)]
   exact h2.nu k x hk (by rw [<- hν1]; exact I7 h0 hx)
  ·have := tl (k - rs.length)
   rw [show rs.length + (k - rs.length) = k by omega] at this
   rw [this]; exact hx
 have hxo : ∀ b k r x, ex[k]? = some r -> ν[rs.length + k]? = some x -> fp r x b -> owned (rs ++ ex) ν b := fun b k r x g1 g2 g3 => (hown b).2 (.inr ⟨k, r, x, g1, g2, g3⟩)
 have hex : ∀ b, (∃ k r x, (ex.map (Res.x9 pk))[k]? = some r /\ ν2[rs.length + k]? = some x /\ fp r x b) -> ∃ k r x, ex[k]? = some r /\ ν[rs.length + k]? = some x /\ fp r x b := by
  rintro b ⟨k, r, x, g1, g2, g3⟩
  rw [c2f] at g1
  cases hk : ex[k]? with
  | none => rw [hk] at g1; cases g1
  | some r0 =>
   rw [hk] at g1
   simp only [c1r, Option.some.injEq] at g1
   subst g1
   rw [a0t] at g3
   exact ⟨k, r0, x, hk, by rw [<- tl]; exact g2, g3⟩
 have hOO' : ∀ b, OO av (rs' ++ ex.map (Res.x9 pk)) ν2 b -> OO av' rs' ν' b := fun b hb => by
  rcases hb with hb | hb
  ·exact .inl ⟨.inl hb, hnav b hb⟩
  ·rcases (hown' b).1 hb with hb | hb
   ·exact .inr hb
   ·obtain ⟨k, r, x, g1, g2, g3⟩ := hex b hb
    exact .inl ⟨.inr (hxo b k r x g1 g2 g3), hx b k r x g1 g2 g3⟩
 have hM : Mv (rs ++ ex) ν w pk (rs' ++ ex.map (Res.x9 pk)) ν2 w' := by
  refine ⟨h2.os, h2.tape, h2.output, h2.size, fun b hb hn => h2.block b hb fun ho => hn ((hown b).2 (.inl ho)), fun b hb => ?_, hnu2⟩
  rcases (hown' b).1 hb with hb | hb
  ·rcases h2.own b hb with g | g
   ·exact .inl ((hown b).2 (.inl g))
   ·exact .inr g
  ·obtain ⟨k, r, x, g1, g2, g3⟩ := hex b hb
   exact .inl (hxo b k r x g1 g2 g3)
 have old : ∀ {l q z}, l < rs'.length -> (rs' ++ ex.map (Res.x9 pk))[l]? = some q -> ν2[l]? = some z -> rs'[l]? = some q /\ ν'[l]? = some z := fun hlt a1 a2 => by
  rw [c1C hlt] at a1
  exact ⟨a1, by rw [<- tk]; exact I7 hlt a2⟩
 have new : ∀ {l q z b}, rs'.length <= l -> (rs' ++ ex.map (Res.x9 pk))[l]? = some q -> ν2[l]? = some z -> fp q z b -> ∃ q0, ex[l - rs'.length]? = some q0 /\ ν[rs.length + (l - rs'.length)]? = some z /\ fp q0 z b := fun {l q z b} hge a1 a2 a3 => by
  rw [c1F hge, c2f] at a1
  cases hk : ex[l - rs'.length]? with
  | none => rw [hk] at a1; cases a1
  | some q0 =>
   rw [hk] at a1
   simp only [c1r, Option.some.injEq] at a1
   subst a1
   rw [a0t] at a3
   refine ⟨q0, rfl, ?_, a3⟩
   rw [<- tl, show rs.length + (l - rs'.length) = l by omega]; exact a2
 refine ⟨y, ν2, rfl, ⟨hlen', fun k r hk => ?_, fun l m q q' z z' b hne g1 g2 g3 g4 g5 g6 => ?_, fun b hb => ?_, fun b hb => c1K (hR.av b hb) h2.size, c1v hR.n0 h2.size⟩, hM, Den.keep (Keeps.sub hOO') (Den.nu hnu (fun k hk => by cases hk) h3)⟩
 ·rcases c1Q k rs'.length with hlt | hge
  ·rw [c1C hlt] at hk
   obtain ⟨x, hx', hok⟩ := h1.res k r hk
   exact ⟨x, hnu k x (fun hk => by cases hk) hx', b7r hnu hOO' hok⟩
  ·rw [c1F hge, c2f] at hk
   cases hk0 : ex[k - rs'.length]? with
   | none => rw [hk0] at hk; cases hk
   | some r0 =>
    rw [hk0] at hk
    simp only [c1r, Option.some.injEq] at hk
    subst hk
    have hk' : (rs ++ ex)[k]? = some r0 := by rw [c1F (by omega), <- hl]; exact hk0
    obtain ⟨x, hx', hok⟩ := hR.res k r0 hk'
    have hx2 : ν[rs.length + (k - rs'.length)]? = some x := by rw [show rs.length + (k - rs'.length) = k by omega]; exact hx'
    refine ⟨x, by have := tl (k - rs'.length); rw [show rs.length + (k - rs'.length) = k by omega] at this; rw [this]; exact hx', ?_⟩
    exact hok.mv (O' := OO av (rs' ++ ex.map (Res.x9 pk)) ν2) (hM.keeps (av := av)) hM.nu (fun b hf => h2.block b (hR.lt hk' hx' hf) (hx b (k - rs'.length) r0 x hk0 hx2 hf))
 ·rcases c1Q l rs'.length with hl2 | hl2 <;> rcases c1Q m rs'.length with hm2 | hm2
  ·obtain ⟨a1, a2⟩ := old hl2 g1 g3
   obtain ⟨a3, a4⟩ := old hm2 g2 g4
   exact h1.dis l m q q' z z' b hne a1 a3 a2 a4 g5 g6
  ·obtain ⟨a1, a2⟩ := old hl2 g1 g3
   obtain ⟨q0, a3, a4, a5⟩ := new hm2 g2 g4 g6
   rcases h2.own b ⟨l, q, z, a1, a2, g5⟩ with ho | ho
   ·exact hx b _ q0 z' a3 a4 a5 ho
   ·have := (hR.low b (hxo b _ q0 z' a3 a4 a5)).1; omega
  ·obtain ⟨q0, a1, a2, a5⟩ := new hl2 g1 g3 g5
   obtain ⟨a3, a4⟩ := old hm2 g2 g4
   rcases h2.own b ⟨m, q', z', a3, a4, g6⟩ with ho | ho
   ·exact hx b _ q0 z a1 a2 a5 ho
   ·have := (hR.low b (hxo b _ q0 z a1 a2 a5)).1; omega
  ·obtain ⟨q0, a1, a2, a5⟩ := new hl2 g1 g3 g5
   obtain ⟨q1, a3, a4, a6⟩ := new hm2 g2 g4 g6
   rw [show rs.length + (l - rs'.length) = l by omega] at a2
   rw [show rs.length + (m - rs'.length) = m by omega] at a4
   exact hR.dis l m q0 q1 z z' b hne (by rw [c1F (by omega), <- hl]; exact a1) (by rw [c1F (by omega), <- hl]; exact a3) a2 a4 a5 a6
 ·rcases (hown' b).1 hb with hb | hb
  ·obtain ⟨a1, a2, a3⟩ := h1.low b hb
   exact ⟨a1, fun ha => a2 ⟨.inl ha, hnav b ha⟩, a3⟩
  ·obtain ⟨k, r, x, g1, g2, g3⟩ := hex b hb
   obtain ⟨a1, a2, a3⟩ := hR.low b (hxo b k r x g1 g2 g3)
   exact ⟨c1K a1 h2.size, a2, a3⟩
theorem l8.quiet {P : Program} {f : Nat} {args : List C} {s s' : C} {rs' : List Res} (h : ∀ E : Ctx, E.P = P -> l8 E [] f args s rs' []) (hi : Imp rs' [] s s') (hc : s'.cl = true) : u7 P f args s' := by
 intro O w vs hO hA
 have ho0 : ∀ b, ¬ owned [] [] b := fun b ⟨k, r, x, hk, _⟩ => by simp at hk
 have hRG : RG O (fun _ => False) w.heap.size [] [] w := ⟨rfl, fun k r hk => by simp at hk, fun k l r r' x x' b _ hk => by simp at hk, fun b hb => (ho0 b hb).elim, hO, c1A _⟩
 have hsub : ∀ b, OO O [] [] b -> O b := fun b hb => hb.elim id fun h => (ho0 b h).elim
 refine (h ⟨P, fun _ => false, 0, w, fun _ => False, O, [], []⟩ rfl O [] w vs hRG (fun b hb => hb) ⟨rfl, rfl, rfl, c1A _, fun _ _ _ => rfl⟩ ((FzL.keep (Keeps.sub hsub) hA).den [])).mono ?_
 rintro e w' ⟨y, ν', rfl, h1, h2, h3⟩
 have hC : Cut O rs' [] ν' := Cut.of h1 (by simp [Q9])
 have h4 := hi O (fun _ => False) w.heap.size ν' w' y h1 hC h3
 exact ⟨y, rfl, ⟨h2.os, h2.tape, h2.output, h2.size, fun b hb => h2.block b hb (ho0 b)⟩, Fz.keep (Keeps.sub fun b hb => .inl hb) (Den.fz hc h4)⟩
end Go.Proofs.YtogfpjohjphngaaGreatDoor.Eng
namespace Go.Proofs.YtogfpjohjphngaaGreatDoor
open Go Go.RowKit Eng
set_option maxRecDepth 10000
set_option maxHeartbeats 16000000
def nmR (n : Nms) : List (List C) := n.map fun s => [sb s]
theorem b9F (n : Nms) (s : List UInt8) (hn : n.length <= 1099511627776) : u7 Tryz.prog 202 [.sl 1 (nmR n), sb s] (ints (a1O (fun x => decide (s = x)) n)) := by
 refine kS Tryz.func202 (by cbv) (by rfl) fun w O => ?_
 simp only [j6, nmR, sb]
 (repeat first | refine uA ?_ | (refine uK ?_ ?_; focus first | omega | (intros; simp_all <;> omega)) | simp (disch := omega) only [go_sem, Nat.reduceBEq, Nat.reduceAdd, ww, c1q])
 refine S.loop (X := Nat) (fun i => ⟨[(0, .sl 1 (nmR n)), (1, sb s), (7, ints n.length), (8, ints i)], []⟩) (fun i => i <= n.length /\ ∀ j, j < i -> ∀ x, n[j]? = some x -> decide (s = x) = false) (fun i => n.length - i) 0 ⟨c1y _, fun _ h => absurd h (Nat.not_lt_zero _)⟩ (by simp only [nmR, sb]; exact (by (repeat first | refine uA ?_ | (refine ⟨?_, ?_⟩; focus first | rfl | simp [slot]) | rfl | simp))) ?_
 rintro i ⟨hi, hm⟩
 simp only [nmR, sb, ints]
 (repeat first | refine uA ?_ | (refine uK ?_ ?_; focus first | omega | (intros; simp_all <;> omega)) | simp (disch := omega) only [go_sem, Nat.reduceBEq, Nat.reduceAdd, ww])
 (refine uJ rfl (fun hc => ?_) fun hc => ?_)
 ·have hgi := c1p (show i < n.length by omega)
  generalize n[i]'(_) = x at hgi
  (repeat first | refine uA ?_ | (refine uK ?_ ?_; focus first | omega | (intros; simp_all <;> omega)) | simp (disch := omega) only [go_sem, Nat.reduceBEq, Nat.reduceAdd, ww, hgi, c1r, c1q, c1u, a5a])
  refine S.cond rfl (fun hc2 => ?_) (fun hc2 => ?_)
  ·rw [a5h (p := fun x => decide (s = x)) hgi hc2 hm]
   (repeat first | refine uA ?_ | (refine uK ?_ ?_; focus first | omega | (intros; simp_all <;> omega)) | simp (disch := omega) only [go_sem, Nat.reduceBEq, Nat.reduceAdd, ww])
   exact S.done (j3.out rfl (Imp.refl rfl) rfl)
  ·(repeat first | refine uA ?_ | (refine uK ?_ ?_; focus first | omega | (intros; simp_all <;> omega)) | simp (disch := omega) only [go_sem, Nat.reduceBEq, Nat.reduceAdd, ww])
   refine S.next (i + 1) ⟨by omega, fun j hj y hy => ?_⟩ (by omega) (by (repeat first | refine uA ?_ | (refine ⟨?_, ?_⟩; focus first | rfl | simp [slot]) | rfl | simp))
   rcases c1Q j i with h1 | h1
   ·exact hm j h1 y hy
   ·have : j = i := by omega
    subst this
    rw [hgi] at hy
    cases hy
    exact hc2
 ·have hi' : i = n.length := by omega
  subst hi'
  rw [a3U hm]
  (repeat first | refine uA ?_ | (refine uK ?_ ?_; focus first | omega | (intros; simp_all <;> omega)) | simp (disch := omega) only [go_sem, Nat.reduceBEq, Nat.reduceAdd, ww])
  exact S.done (j3.out rfl (Imp.refl rfl) rfl)
theorem b8S (n : Nms) (s : List UInt8) : n.any (fun x => decide (s = x)) = n.contains s := by
 rw [Bool.eq_iff_iff, List.any_eq_true, List.contains_iff_mem]
 exact ⟨fun ⟨x, h1, h2⟩ => by rw [of_decide_eq_true h2]; exact h1, fun h => ⟨s, h, by simp⟩⟩
theorem c0i (n : Nms) (s : List UInt8) (hn : n.length <= 1099511627776) : u7 Tryz.prog 99 [.sl 1 (nmR n), sb s] (.v (.bool (n.contains s))) := by
 refine kS Tryz.func99 (by cbv) (by rfl) fun w O => ?_
 have h := b9F n s hn
 rw [<- b8S, <- a4U]
 generalize a1O (fun x => decide (s = x)) n = k at *
 simp only [j6]
 simp only [sb, ints] at *
 (repeat first | refine uA ?_ | (refine uK ?_ ?_; focus first | omega | (intros; simp_all <;> omega)) | simp (disch := omega) only [go_sem, Nat.reduceBEq, Nat.reduceAdd, ww] | (refine uB h ?_ ?_; exact rfl))
 exact S.done (j3.out rfl (Imp.refl rfl) rfl)
def rsR (w : Wk) (n : Nms) : List Res := [.box 31 w.enc, .box 153 [.rv 2], .row 9 1 (nmR n)]
theorem b8M {E : Ctx} (hP : E.P = Tryz.prog) (w : Wk) (n : Nms) (s : List UInt8) (hs : s.length <= 1099511627776) (hn : n.length <= 1000000) :
  l8 E (rsR w n) 98 [sb s, .bp 1 0] (ints (J5 n s).1) (rsR w (J5 n s).2) [2] := by
 obtain ⟨P, eff', N, w0, own0, av0, nu0, pk0⟩ := E
 simp only at hP
 subst hP
 refine l8.of (eff := eff) Tryz.func98 (by cbv) (by exact c1I rfl) fun w' own av ν hν => ?_
 have hν0 : ν.length <= 3 := by rw [hν]; exact c1A _
 have h1 := b8X s hs
 have h2 := c0i n s (by omega)
 have hap : nmR (n ++ [s]) = nmR n ++ [[sb s]] := by simp [nmR]
 unfold J5
 generalize a0m s = q at *
 generalize n.contains s = c at *
 have hl : (nmR n).length = n.length := by simp [nmR]
 obtain ⟨arms, walls, parts, slots, gates, walk⟩ := w
 simp only [j6]
 simp only [rsR, Wk.enc, ams, wls, pts, sls, gts, sb, ints] at h1 h2 hap ⊢
 (repeat first | refine uA ?_ | (refine uK ?_ ?_; focus first | omega | (intros; simp_all <;> omega)) | simp (disch := omega) only [go_sem, Nat.reduceBEq, Nat.reduceAdd, ww] | (refine uB h1 ?_ ?_; exact rfl))
 refine S.cond rfl (fun hc => ?_) (fun hc => ?_)
 ·rw [if_pos (by simpa using hc)]
  (repeat first | refine uA ?_ | (refine uK ?_ ?_; focus first | omega | (intros; simp_all <;> omega)) | simp (disch := omega) only [go_sem, Nat.reduceBEq, Nat.reduceAdd, ww])
  (refine S.done ?_; simp only [p9, l7, go_sem, Nat.reduceBEq, Nat.reduceAdd, Nat.reduceLeDiff, Int.reduceToNat, Int.reducePow]; (repeat (refine ⟨?_, ?_⟩; focus first | trivial | omega | simp)); exact j3.M8 (Imp.refl rfl) (by (repeat first | refine uA ?_ | (refine ⟨?_, ?_⟩; focus first | rfl | simp [slot]) | rfl | simp)) (c1v hν0 (by simp)))
 rw [if_neg (by simpa using hc)]
 (repeat first | refine uA ?_ | (refine uK ?_ ?_; focus first | omega | (intros; simp_all <;> omega)) | simp (disch := omega) only [go_sem, Nat.reduceBEq, Nat.reduceAdd, ww] | (refine uC h2 ?_ ?_ ?_; exact rfl; focus (repeat' first | exact j5.nil | exact Imp.refl rfl | exact Imp.frz rfl rfl rfl | (refine Imp.J9 rfl rfl ?_ ?_; (focus ((try simp only [c1s]); omega)); (focus first | rfl | assumption)) | refine j5.cons ?_ ?_); done))
 refine S.cond rfl (fun hc => ?_) (fun hc => ?_)
 ·rw [if_pos hc]
  (repeat first | refine uA ?_ | (refine uK ?_ ?_; focus first | omega | (intros; simp_all <;> omega)) | simp (disch := omega) only [go_sem, Nat.reduceBEq, Nat.reduceAdd, ww])
  (refine S.done ?_; simp only [p9, l7, go_sem, Nat.reduceBEq, Nat.reduceAdd, Nat.reduceLeDiff, Int.reduceToNat, Int.reducePow]; (repeat (refine ⟨?_, ?_⟩; focus first | trivial | omega | simp)); exact j3.M8 (Imp.refl rfl) (by (repeat first | refine uA ?_ | (refine ⟨?_, ?_⟩; focus first | rfl | simp [slot]) | rfl | simp)) (c1v hν0 (by simp)))
 ·rw [if_neg (by rw [hc]; decide)]
  simp only [hap]
  (repeat first | refine uA ?_ | (refine uK ?_ ?_; focus first | omega | (intros; simp_all <;> omega)) | simp (disch := omega) only [go_sem, Nat.reduceBEq, Nat.reduceAdd, ww, hl])
  (refine S.done ?_; simp only [p9, l7, go_sem, Nat.reduceBEq, Nat.reduceAdd, Nat.reduceLeDiff, Int.reduceToNat, Int.reducePow]; (repeat (refine ⟨?_, ?_⟩; focus first | trivial | omega | simp)); exact j3.M8 (Imp.refl rfl) (by (repeat first | refine uA ?_ | (refine ⟨?_, ?_⟩; focus first | rfl | simp [slot]) | rfl | simp)) (c1v hν0 (by simp)))
theorem a5u (n : Nms) (s : List UInt8) : (J5 n s).2.length <= n.length + 1 := by
 unfold J5
 split
 ·simp
 ·split
  ·simp
  ·simp
theorem b2x (p q : Rat) : decide (Nm.q8 p q = 1) = !decide (Nm.q8 p q <= 0) := by
 have h : -1 <= Nm.q8 p q /\ Nm.q8 p q <= 1 := by
  unfold Nm.q8
  repeat' split
  all_goals first
   | omega
   | (have := a7z (p.num.natAbs * q.den) (q.num.natAbs * p.den); omega)
 by_cases h1 : Nm.q8 p q <= 0
 ·rw [decide_eq_true h1, decide_eq_false (by omega)]; rfl
 ·rw [decide_eq_false h1, decide_eq_true (by omega)]; rfl
theorem b0f (q : Rat) : -1 <= y8 q /\ y8 q <= 1 := by unfold y8; split; omega; split <;> omega
theorem sign_one (q : Rat) : decide (y8 q < 1) = !decide (0 < y8 q) := by
 rw [<- decide_not]; apply decide_eq_decide.2; omega
theorem b4D (q : Rat) : decide (y8 q = -1) = !decide (0 <= y8 q) := by
 have := b0f q
 rw [<- decide_not]; apply decide_eq_decide.2; omega
open Go Eng
set_option maxRecDepth 100000
theorem a7b {a : Nm.Rt} (h : j4 a = true) : a.A8 := by
 rw [V8, c1B] at h
 exact of_decide_eq_true h.1
theorem b2X {q : Rat} : 0 < y8 q <-> 0 < q := by
 have h1 := @Rat.num_nonneg q
 have h2 := @Rat.num_eq_zero q
 unfold y8
 constructor
 ·intro h
  split at h
  ·omega
  ·split at h
   ·omega
   ·rename_i h3 h4
    have h5 : 0 <= q := h1.1 (by omega)
    have h6 : q ≠ 0 := fun e => h3 (h2.2 e)
    grind
 ·intro h
  have h5 : 0 <= q.num := h1.2 (by grind)
  have h6 : q.num ≠ 0 := fun e => by have := h2.1 e; grind
  rw [if_neg h6, if_neg (by omega)]; decide
theorem b2A {q : Rat} : y8 q < 0 <-> q < 0 := by
 have h1 := @Rat.num_nonneg q
 have hn : q.num < 0 <-> q < 0 := by rw [<- Rat.not_le, <- h1]; omega
 unfold y8
 constructor
 ·intro h
  split at h
  ·omega
  ·split at h
   ·exact hn.1 (by assumption)
   ·omega
 ·intro h
  have := hn.2 h
  rw [if_neg (by omega), if_pos this]; decide
theorem b5r (p q : Rat) : a4h p q = if p < q then q else p := by
 unfold a4h
 by_cases h : p < q
 ·rw [if_pos h, if_neg]
  have := (a1u p q).2 h
  omega
 ·rw [if_neg h, if_pos]
  have : ¬ Nm.q8 p q < 0 := fun h2 => h ((a1u p q).1 h2)
  omega
theorem b5o (p q : Rat) : a4M p q = if q < p then q else p := by
 unfold a4M
 by_cases h : q < p
 ·rw [if_pos h, if_neg]
  have := (U1 p q).2 h
  omega
 ·rw [if_neg h, if_pos]
  have : ¬ 0 < Nm.q8 p q := fun h2 => h ((U1 p q).1 h2)
  omega
theorem b7Y {l : Lk} (h : U3 l = 0) : a0r l = if 0 < y8 (Nm.d9 l.low) then l.low else if y8 (Nm.d9 l.high) < 0 then l.high else Nm.ofQ 0 := by
 have hlt := (a1u _ _).1 (a2W h).2.1
 have hs : j4 l.low = true /\ j4 l.high = true := by
  unfold U3 at h
  split at h
  ·cases h
  ·rename_i h1
   have h2 : (j4 l.length && j4 l.low && j4 l.high && j4 l.speed && j4 l.brake) = true := by
    cases hb : (j4 l.length && j4 l.low && j4 l.high && j4 l.speed && j4 l.brake) with
    | true => rfl
    | false => exact absurd (.inl hb) h1
   simp only [c1B] at h2
   exact ⟨h2.1.1.1.2, h2.1.1.2⟩
 have g1 := a7b hs.1
 have g2 := a7b hs.2
 unfold a0r
 rw [b5r, b5o]
 by_cases c1 : 0 < Nm.d9 l.low
 ·rw [if_pos (b2X.2 c1)]
  by_cases c2 : 0 < Nm.d9 l.high
  ·rw [if_pos c2, if_neg (by grind), Nm.a5E g1]
  ·rw [if_neg c2, if_neg (by grind), Nm.a5E g1]
 ·rw [if_neg (fun h => c1 (b2X.1 h))]
  by_cases c2 : Nm.d9 l.high < 0
  ·rw [if_pos (b2A.2 c2), if_neg (show ¬ 0 < Nm.d9 l.high by grind), if_pos hlt, Nm.a5E g2]
  ·rw [if_neg (fun h => c2 (b2A.1 h))]
   congr 1
   by_cases c3 : 0 < Nm.d9 l.high
   ·rw [if_pos c3]; split <;> grind
   ·rw [if_neg c3]; split <;> grind
theorem b6E (w : Wk) (hwb : Wb 1073741824 w) (h : X3 w = 0) : FZ 47 [w.c] (K4 w).c := by
 refine kW Tryz.func47 (by cbv) (by rfl) fun w' O hw => ?_
 have hao := a8G h
 obtain ⟨n1, b1⟩ := hwb.arms
 have n3 := hwb.parts.1
 have n4 := hwb.slots.1
 have n5 := hwb.gates.1
 have hz := a9M
 have hfz := b2w
 have hpe : ∀ i, a5C w i = if h : i < w.slots.length then (w.slots[i]).frame else a2Z := fun _ => rfl
 unfold K4
 generalize hfp : a5C w = fP at *
 obtain ⟨arms, walls, parts, slots, gates, walk⟩ := w
 simp only at n1 b1 n3 n4 n5 hpe hao ⊢
 simp only [j6]
 simp only [Wk.c, Wk.enc, Stt.c, Stt.enc, ams, wls, pts, sls, gts, F5, frs, vts, bls, rc, sb, ints] at ⊢
 (repeat first | refine uA ?_ | (refine uK ?_ ?_; focus first | omega | (intros; simp_all <;> omega)) | simp (disch := omega) only [go_sem, Nat.reduceBEq, Nat.reduceAdd, ww, c1q, c1u])
 refine S.loop (X := Nat) (fun i => ⟨[(1, .bp 0 0), (2, .bp 1 0), (3, .bp 3 0), (17, ams arms), (18, ints arms.length), (19, ints i)], [.box 31 [ams arms, wls walls, pts parts, sls slots, gts gates, .v (.bool walk.neg), sb walk.num, sb walk.den], .box 37 [.v (.int .i64 0), .v (.slice none 0 0), .v (.slice none 0 0), .v (.slice none 0 0), .v (.slice none 0 0)], .row 4 1 (List.replicate gates.length [.v (.bool false)]), .box 37 [.v (.int .i64 0), .rv 4, .rv 5, .v (.slice none 0 0), .rv 2], .row 90 4 (((arms.take i).map a0n).map Ast.enc), .row 55 10 []]⟩) (fun i => i <= arms.length) (fun i => arms.length - i) 0 (c1y _)
  (Ent.trans (Ent.a2x 3 1 90 4 rfl rfl rfl) (Ent.trans (Ent.a2x 3 2 55 10 rfl rfl rfl) (by (repeat first | refine uA ?_ | (refine ⟨?_, ?_⟩; focus first | rfl | simp [slot]) | rfl | simp)))) ?_
 intro i hi
 simp only [ams, wls, pts, sls, gts, vts, sb, ints]
 (repeat first | refine uA ?_ | (refine uK ?_ ?_; focus first | omega | (intros; simp_all <;> omega)) | simp (disch := omega) only [go_sem, Nat.reduceBEq, Nat.reduceAdd, ww])
 (refine uJ rfl (fun hc => ?_) fun hc => ?_)
 ·have hi' : i < arms.length := by omega
  have hgi := c1p hi'
  have hap : arms.take (i + 1) = arms.take i ++ [arms[i]] := c2g hi'
  have htl : (arms.take i).length = i := by rw [c1D]; omega
  generalize arms[i] = a at hgi hap
  obtain ⟨b0, _, nl, bl⟩ := b1 a (c1t hgi)
  have hlo := (a1v (hao a (c1t hgi))).2
  (repeat first | refine uA ?_ | (refine uK ?_ ?_; focus first | omega | (intros; simp_all <;> omega)) | simp (disch := omega) only [go_sem, Nat.reduceBEq, Nat.reduceAdd, ww, hgi, c1r, c1q, Am.enc, lks, sb])
  refine S.loop (X := Nat) (fun k => ⟨[(1, .bp 0 0), (2, .bp 1 0), (3, .bp 3 0), (6, .bp 7 0), (17, ams arms), (18, ints arms.length), (19, ints i), (25, lks a.links), (26, ints a.links.length), (27, ints k)], [.box 31 [ams arms, wls walls, pts parts, sls slots, gts gates, .v (.bool walk.neg), sb walk.num, sb walk.den], .box 37 [.v (.int .i64 0), .v (.slice none 0 0), .v (.slice none 0 0), .v (.slice none 0 0), .v (.slice none 0 0)], .row 4 1 (List.replicate gates.length [.v (.bool false)]), .box 37 [.v (.int .i64 0), .rv 4, .rv 5, .v (.slice none 0 0), .rv 2], .row 90 4 (((arms.take i).map a0n).map Ast.enc), .row 55 10 [], .gone, .box 90 [.rv 8, .rv 9, .v (.bool false), .v (.int .i64 (-1))], .row 29 3 (((a.links.take k).map a0r).map rcs), .row 29 3 (((a.links.take k).map fun _ => Nm.ofQ 0).map rcs)]⟩) (fun k => k <= a.links.length) (fun k => a.links.length - k) 0 (c1y _)
   (Ent.trans (Ent.a2x 7 0 29 3 rfl rfl rfl) (Ent.trans (Ent.a2x 7 1 29 3 rfl rfl rfl) (by (repeat first | refine uA ?_ | (refine ⟨?_, ?_⟩; focus first | rfl | simp [slot]) | rfl | simp)))) ?_
  intro k hk
  simp only [ams, wls, pts, sls, gts, lks, vts, sb, ints]
  (repeat first | refine uA ?_ | (refine uK ?_ ?_; focus first | omega | (intros; simp_all <;> omega)) | simp (disch := omega) only [go_sem, Nat.reduceBEq, Nat.reduceAdd, ww])
  (refine uJ rfl (fun hc => ?_) fun hc => ?_)
  ·have hk' : k < a.links.length := by omega
   have hgk := c1p hk'
   have hak : a.links.take (k + 1) = a.links.take k ++ [a.links[k]] := c2g hk'
   have htk : (a.links.take k).length = k := by rw [c1D]; omega
   generalize a.links[k] = l at hgk hak
   obtain ⟨_, l2, l3, _⟩ := bl l (c1t hgk)
   have o1 := O3 l.low (l2.mono (by decide))
   have o2 := O3 l.high (l3.mono (by decide))
   have hq := b7Y (hlo l (c1t hgk))
   unfold rq at hz
   generalize y8 (Nm.d9 l.low) = s1 at *
   generalize y8 (Nm.d9 l.high) = s2 at *
   generalize hz0 : Nm.ofQ 0 = r0 at *
   simp only [rc, sb, ints] at o1 o2 hz
   (repeat first | refine uA ?_ | (refine uK ?_ ?_; focus first | omega | (intros; simp_all <;> omega)) | simp (disch := omega) only [go_sem, Nat.reduceBEq, Nat.reduceAdd, ww, hgk, c1r, c1q, Lk.enc, vts, sb] | (refine uD hz ?_ ?_ ?_; exact tz hw; exact rfl) | (refine uD o1 ?_ ?_ ?_; exact tz hw; exact rfl))
   refine S.join (Y := Nm.Rt) (fun q => ⟨[(1, .bp 0 0), (2, .bp 1 0), (3, .bp 3 0), (6, .bp 7 0), (9, .bp 11 0), (17, ams arms), (18, ints arms.length), (19, ints i), (25, lks a.links), (26, ints a.links.length), (27, ints k)], [.box 31 [ams arms, wls walls, pts parts, sls slots, gts gates, .v (.bool walk.neg), sb walk.num, sb walk.den], .box 37 [.v (.int .i64 0), .v (.slice none 0 0), .v (.slice none 0 0), .v (.slice none 0 0), .v (.slice none 0 0)], .row 4 1 (List.replicate gates.length [.v (.bool false)]), .box 37 [.v (.int .i64 0), .rv 4, .rv 5, .v (.slice none 0 0), .rv 2], .row 90 4 (((arms.take i).map a0n).map Ast.enc), .row 55 10 [], .gone, .box 90 [.rv 8, .rv 9, .v (.bool false), .v (.int .i64 (-1))], .row 29 3 (((a.links.take k).map a0r).map rcs), .row 29 3 (((a.links.take k).map fun _ => r0).map rcs), .gone, .box 29 (rcs q)]⟩) (fun q => q = a0r l) ?_ ?_
   ·refine S.cond rfl (fun hc2 => ?_) (fun hc2 => ?_)
    ·rw [if_pos (by simpa using hc2)] at hq
     (repeat first | refine uA ?_ | (refine uK ?_ ?_; focus first | omega | (intros; simp_all <;> omega)) | simp (disch := omega) only [go_sem, Nat.reduceBEq, Nat.reduceAdd, ww])
     exact S.met l.low hq.symm (by simp only [ams, wls, pts, sls, gts, lks, vts, rcs, sb, ints]; exact (by (repeat first | refine uA ?_ | (refine ⟨?_, ?_⟩; focus first | rfl | simp [slot]) | rfl | simp)))
    rw [if_neg (by simpa using hc2)] at hq
    (repeat first | refine uA ?_ | (refine uK ?_ ?_; focus first | omega | (intros; simp_all <;> omega)) | simp (disch := omega) only [go_sem, Nat.reduceBEq, Nat.reduceAdd, ww] | (refine uD o2 ?_ ?_ ?_; exact tz hw; exact rfl))
    refine S.cond rfl (fun hc3 => ?_) (fun hc3 => ?_)
    ·rw [if_pos (by simpa using hc3)] at hq
     (repeat first | refine uA ?_ | (refine uK ?_ ?_; focus first | omega | (intros; simp_all <;> omega)) | simp (disch := omega) only [go_sem, Nat.reduceBEq, Nat.reduceAdd, ww])
     exact S.met l.high hq.symm (by simp only [ams, wls, pts, sls, gts, lks, vts, rcs, sb, ints]; exact (by (repeat first | refine uA ?_ | (refine ⟨?_, ?_⟩; focus first | rfl | simp [slot]) | rfl | simp)))
    ·rw [if_neg (by simpa using hc3)] at hq
     (repeat first | refine uA ?_ | (refine uK ?_ ?_; focus first | omega | (intros; simp_all <;> omega)) | simp (disch := omega) only [go_sem, Nat.reduceBEq, Nat.reduceAdd, ww])
     exact S.met r0 hq.symm (by simp only [ams, wls, pts, sls, gts, lks, vts, rcs, sb, ints]; exact (by (repeat first | refine uA ?_ | (refine ⟨?_, ?_⟩; focus first | rfl | simp [slot]) | rfl | simp)))
   rintro q rfl
   clear hq
   simp only [ams, wls, pts, sls, gts, lks, vts, rcs, sb, ints]
   (repeat first | refine uI ?_ | (refine uK ?_ ?_; focus first | omega | (intros; simp_all <;> omega)) | simp (disch := omega) only [go_sem, Nat.reduceBEq, Nat.reduceAdd, ww])
   refine S.K3 [.gone, .gone, .gone, .gone, .gone, .gone, .gone, .box 90 [.junk, .rv 9, .v (.bool false), .v (.int .i64 (-1))]] (by simp [Eng.E5, Eng.leC]) ?_
   (repeat first | refine uA ?_ | (refine uK ?_ ?_; focus first | omega | (intros; simp_all <;> omega)) | simp (disch := omega) only [go_sem, Nat.reduceBEq, Nat.reduceAdd, ww, KMd, c1q, htk] | (refine uD hz ?_ ?_ ?_; exact tz hw; exact rfl))
   refine S.next (k + 1) (by omega) (by omega) (by simp only [hak, hz0, c2h, c1J, c1N, rcs, sb]; exact (by (repeat first | refine uA ?_ | (refine ⟨?_, ?_⟩; focus first | rfl | simp [slot]) | rfl | simp)))
  ·have hk' : k = a.links.length := by omega
   subst hk'
   rw [c1L]
   refine S.exit rfl ?_
   refine S.weaken (st' := ⟨[(1, .bp 0 0), (2, .bp 1 0), (3, .bp 3 0), (6, .bp 7 0), (17, ams arms), (18, ints arms.length), (19, ints i)], [.box 31 [ams arms, wls walls, pts parts, sls slots, gts gates, .v (.bool walk.neg), sb walk.num, sb walk.den], .box 37 [.v (.int .i64 0), .v (.slice none 0 0), .v (.slice none 0 0), .v (.slice none 0 0), .v (.slice none 0 0)], .row 4 1 (List.replicate gates.length [.v (.bool false)]), .box 37 [.v (.int .i64 0), .rv 4, .rv 5, .v (.slice none 0 0), .rv 2], .row 90 4 (((arms.take i).map a0n).map Ast.enc), .row 55 10 [], .gone, .box 90 (a0n a).enc]⟩) (Ent.mk _ _ (by (repeat first | refine uA ?_ | (refine ⟨?_, ?_⟩; focus first | rfl | simp [slot]) | rfl | simp)) (by (repeat' (first | exact M9.nil | exact RI.gone _ | exact RI.row _ _ _ _ rfl | exact RI.map _ _ _ rfl | exact RI.box _ _ _ (j5.refl rfl) | (refine RI.box _ _ _ ?_; (repeat' (first | exact j5.nil | exact Imp.refl rfl | exact Imp.frz rfl rfl rfl | exact Imp.F7 | refine j5.cons ?_ ?_))) | refine M9.cons ?_ ?_))) (c1y _)) ?_
   simp only [ams, wls, pts, sls, gts, vts, sb, ints, Ast.enc, rts]
   (repeat first | refine uA ?_ | (refine uK ?_ ?_; focus first | omega | (intros; simp_all <;> omega)) | simp (disch := omega) only [go_sem, Nat.reduceBEq, Nat.reduceAdd, ww, c1q, htl])
   refine S.next (i + 1) (by omega) (by omega) (by simp only [hap, c2h, c1J, c1N, Ast.enc, rts, ints]; exact (by (repeat first | refine uA ?_ | (refine ⟨?_, ?_⟩; focus first | rfl | simp [slot]) | rfl | simp)))
 ·have hi' : i = arms.length := by omega
  subst hi'
  rw [c1L]
  (repeat first | refine uA ?_ | (refine uK ?_ ?_; focus first | omega | (intros; simp_all <;> omega)) | simp (disch := omega) only [go_sem, Nat.reduceBEq, Nat.reduceAdd, ww, c1q])
  refine S.loop (X := Nat) (fun i => ⟨[(1, .bp 0 0), (2, .bp 1 0), (3, .bp 3 0), (66, ints parts.length), (67, ints i)], [.box 31 [ams arms, wls walls, pts parts, sls slots, gts gates, .v (.bool walk.neg), sb walk.num, sb walk.den], .box 37 [.v (.int .i64 0), .v (.slice none 0 0), .v (.slice none 0 0), .v (.slice none 0 0), .v (.slice none 0 0)], .row 4 1 (List.replicate gates.length [.v (.bool false)]), .box 37 [.v (.int .i64 0), .rv 4, .rv 5, .v (.slice none 0 0), .rv 2], .row 90 4 ((arms.map a0n).map Ast.enc), .row 55 10 (((List.range i).map fP).map Fr.enc)]⟩) (fun i => i <= parts.length) (fun i => parts.length - i) 0 (c1y _) (by (repeat first | refine uA ?_ | (refine ⟨?_, ?_⟩; focus first | rfl | simp [slot]) | rfl | simp)) ?_
  intro i hi
  simp only [ams, wls, pts, sls, gts, vts, sb, ints]
  (repeat first | refine uA ?_ | (refine uK ?_ ?_; focus first | omega | (intros; simp_all <;> omega)) | simp (disch := omega) only [go_sem, Nat.reduceBEq, Nat.reduceAdd, ww])
  (refine uJ rfl (fun hc => ?_) fun hc => ?_)
  ·have hrl : ((List.range i).map fP).length = i := by simp
   simp only [a2Z, Fr.c, Fr.enc, sb] at hfz
   (repeat first | refine uA ?_ | (refine uK ?_ ?_; focus first | omega | (intros; simp_all <;> omega)) | simp (disch := omega) only [go_sem, Nat.reduceBEq, Nat.reduceAdd, ww, c1q])
   refine S.cond rfl (fun hc => ?_) (fun hc => ?_)
   ·have hsi : i < slots.length := by simp at hc; omega
    have hgs := c1p hsi
    have hf : fP i = (slots[i]).frame := by rw [hpe i, dif_pos hsi]
    generalize slots[i] = s at hgs hf
    (repeat first | refine uA ?_ | (refine uK ?_ ?_; focus first | omega | (intros; simp_all <;> omega)) | simp (disch := omega) only [go_sem, Nat.reduceBEq, Nat.reduceAdd, ww, hgs, c1r, c1q, Sl.enc, sb, c1u, hrl, List.length_range])
    refine S.next (i + 1) (by omega) (by omega) (by simp only [List.range_succ, c2h, c1J, c1N, hf, Fr.enc, sb]; exact (by (repeat first | refine uA ?_ | (refine ⟨?_, ?_⟩; focus first | rfl | simp [slot]) | rfl | simp)))
   ·have hf : fP i = a2Z := by rw [hpe i, dif_neg (by simp at hc; omega)]
    (repeat first | refine uA ?_ | (refine uK ?_ ?_; focus first | omega | (intros; simp_all <;> omega)) | simp (disch := omega) only [go_sem, Nat.reduceBEq, Nat.reduceAdd, ww, c1q, hrl, List.length_range] | (refine uD hfz ?_ ?_ ?_; exact tz hw; exact rfl))
    refine S.next (i + 1) (by omega) (by omega) (by simp only [List.range_succ, c2h, c1J, c1N, hf, a2Z, Fr.enc, sb]; exact (by (repeat first | refine uA ?_ | (refine ⟨?_, ?_⟩; focus first | rfl | simp [slot]) | rfl | simp)))
  ·have hi' : i = parts.length := by omega
   subst hi'
   simp only [List.map_replicate]
   (repeat first | refine uA ?_ | (refine uK ?_ ?_; focus first | omega | (intros; simp_all <;> omega)) | simp (disch := omega) only [go_sem, Nat.reduceBEq, Nat.reduceAdd, ww])
   (refine S.done ?_; simp only [p9, l7, go_sem, Nat.reduceBEq, Nat.reduceAdd, Nat.reduceLeDiff, Int.reduceToNat, Int.reducePow]; (repeat (refine ⟨?_, ?_⟩; focus first | trivial | omega | simp)); exact j3.out rfl (Imp.agg (by (repeat' (first | exact j5.nil | exact Imp.refl rfl | exact Imp.frz rfl rfl rfl | exact Imp.F7 | refine j5.cons ?_ ?_)))) rfl)
set_option maxRecDepth 10000
set_option maxHeartbeats 8000000
instance : DecidableEq Nm.Rt := fun ⟨a, b, c⟩ ⟨d, e, f⟩ => decidable_of_iff (a = d /\ b = e /\ c = f) ⟨fun ⟨h1, h2, h3⟩ => by rw [h1, h2, h3], fun h => by injection h with h1 h2 h3; exact ⟨h1, h2, h3⟩⟩
instance : DecidableEq Vt := fun ⟨a, b⟩ ⟨d, e⟩ => decidable_of_iff (a = d /\ b = e) ⟨fun ⟨h1, h2⟩ => by rw [h1, h2], fun h => by injection h with h1 h2; exact ⟨h1, h2⟩⟩
instance : DecidableEq Fr := fun ⟨a, b, c, g⟩ ⟨d, e, f, h⟩ => decidable_of_iff (a = d /\ b = e /\ c = f /\ g = h) ⟨fun ⟨h1, h2, h3, h4⟩ => by rw [h1, h2, h3, h4], fun h => by injection h with h1 h2 h3 h4; exact ⟨h1, h2, h3, h4⟩⟩
instance : DecidableEq Ast := fun ⟨a, b, c, g⟩ ⟨d, e, f, h⟩ => decidable_of_iff (a = d /\ b = e /\ c = f /\ g = h) ⟨fun ⟨h1, h2, h3, h4⟩ => by rw [h1, h2, h3, h4], fun h => by injection h with h1 h2 h3 h4; exact ⟨h1, h2, h3, h4⟩⟩
instance : DecidableEq Stt := fun ⟨a, b, c, g, i⟩ ⟨d, e, f, h, j⟩ => decidable_of_iff (a = d /\ b = e /\ c = f /\ g = h /\ i = j) ⟨fun ⟨h1, h2, h3, h4, h5⟩ => by rw [h1, h2, h3, h4, h5], fun h => by injection h with h1 h2 h3 h4 h5; exact ⟨h1, h2, h3, h4, h5⟩⟩
theorem b8f (a b : List Nm.Rt) (hn : a.length <= 1000000000000) (hb : b.length <= 1000000000000) : u7 Tryz.prog 144 [rts a, rts b] (.v (.bool (decide (a = b)))) := by
  refine kS Tryz.func144 (by cbv) (by rfl) fun w O => ?_
  simp only [j6, ints, rts]
  (repeat first | refine uA ?_ | (refine uK ?_ ?_; focus first | omega | (intros; simp_all <;> omega)) | simp (disch := omega) only [go_sem, Nat.reduceBEq, Nat.reduceAdd, ww, c1q])
  (refine uJ rfl (fun hc => ?_) fun hc => ?_)
  · have hne : ¬ a = b := fun e => hc (by rw [e])
    rw [decide_eq_false hne]
    (repeat first | refine uA ?_ | (refine uK ?_ ?_; focus first | omega | (intros; simp_all <;> omega)) | simp (disch := omega) only [go_sem, Nat.reduceBEq, Nat.reduceAdd, ww])
    exact S.done (j3.out rfl (Imp.refl rfl) rfl)
  have hlen : a.length = b.length := by omega
  (repeat first | refine uA ?_ | (refine uK ?_ ?_; focus first | omega | (intros; simp_all <;> omega)) | simp (disch := omega) only [go_sem, Nat.reduceBEq, Nat.reduceAdd, ww, c1q])
  refine S.loop (X := Nat) (fun i => ⟨[(0, rts a), (1, rts b), (12, ints a.length), (13, ints i)], []⟩)
    (fun i => i <= a.length /\ a.take i = b.take i) (fun i => a.length - i) 0 ⟨c1y _, by simp⟩ (by (repeat first | refine uA ?_ | (refine ⟨?_, ?_⟩; focus first | rfl | simp [slot]) | rfl | simp)) ?_
  rintro i ⟨hi, he⟩
  simp only [ints, rts] at hi ⊢
  (repeat first | refine uA ?_ | (refine uK ?_ ?_; focus first | omega | (intros; simp_all <;> omega)) | simp (disch := omega) only [go_sem, Nat.reduceBEq, Nat.reduceAdd, ww])
  (refine uJ rfl (fun hc => ?_) fun hc => ?_)
  · have hgi := c1p (show i < a.length by omega)
    have hgj := c1p (show i < b.length by omega)
    have hti := c2g (show i < a.length by omega)
    have htj := c2g (show i < b.length by omega)
    generalize a[i]'_ = z at hgi hti
    generalize b[i]'_ = y at hgj htj
    by_cases hzy : z = y
    · subst hzy
      (repeat first | refine uA ?_ | (refine uK ?_ ?_; focus first | omega | (intros; simp_all <;> omega)) | simp (disch := omega) only [go_sem, Nat.reduceBEq, Nat.reduceAdd, ww, hgi, hgj, c1r, c1q, rcs, sb, c1u, a5a, beq_self_eq_true, decide_true])
      refine S.cond rfl (fun hc2 => by simp at hc2) (fun hc2 => ?_)
      (repeat first | refine uA ?_ | (refine uK ?_ ?_; focus first | omega | (intros; simp_all <;> omega)) | simp (disch := omega) only [go_sem, Nat.reduceBEq, Nat.reduceAdd, ww])
      refine S.next (i + 1) ⟨by omega, by rw [hti, htj, he]⟩ (by omega) (by (repeat first | refine uA ?_ | (refine ⟨?_, ?_⟩; focus first | rfl | simp [slot]) | rfl | simp))
    · have hne : ¬ a = b := fun e => by
        subst e
        rw [hgi] at hgj
        injection hgj with hgj
        exact hzy hgj
      obtain ⟨z1, z2, z3⟩ := z
      obtain ⟨y1, y2, y3⟩ := y
      (repeat first | refine uA ?_ | (refine uK ?_ ?_; focus first | omega | (intros; simp_all <;> omega)) | simp (disch := omega) only [go_sem, Nat.reduceBEq, Nat.reduceAdd, ww, hgi, hgj, c1r, c1q, rcs, sb, c1u, a5a])
      refine S.cond rfl (fun hc2 => ?_) (fun hc2 => by simp at hc2 hzy; simp_all)
      rw [decide_eq_false hne]
      (repeat first | refine uA ?_ | (refine uK ?_ ?_; focus first | omega | (intros; simp_all <;> omega)) | simp (disch := omega) only [go_sem, Nat.reduceBEq, Nat.reduceAdd, ww])
      exact S.done (j3.out rfl (Imp.refl rfl) rfl)
  have hi' : i = a.length := by omega
  subst hi'
  have hab : a = b := by
    rw [c1L] at he
    rw [hlen, c1L] at he
    exact he
  rw [decide_eq_true hab]
  (repeat first | refine uA ?_ | (refine uK ?_ ?_; focus first | omega | (intros; simp_all <;> omega)) | simp (disch := omega) only [go_sem, Nat.reduceBEq, Nat.reduceAdd, ww])
  exact S.done (j3.out rfl (Imp.refl rfl) rfl)
theorem b4c (x n : Int) (h : 1 <= n) : x % n = (if x.tmod n < 0 then x.tmod n + n else x.tmod n) /\ -n < x.tmod n /\ x.tmod n < n := by
 have hq : x = n * (x.tdiv n) + x.tmod n := (Int.mul_tdiv_add_tmod x n).symm
 have he : x % n = x.tmod n % n := by
  conv => lhs; rw [hq]
  exact Int.mul_add_emod_self_left ..
 have h2 := Int.tmod_lt_of_pos x (show 0 < n by omega)
 have h3 : -n < x.tmod n := by
  have := Int.tmod_lt_of_pos (-x) (show 0 < n by omega)
  rw [Int.neg_tmod] at this
  omega
 refine ⟨?_, h3, h2⟩
 rw [he]
 split
 ·rename_i hc
  have : x.tmod n % n = (x.tmod n + n) % n := by simp
  rw [this]
  exact Int.emod_eq_of_lt (by omega) (by omega)
 ·exact Int.emod_eq_of_lt (by omega) (by omega)
theorem b6o (x n : Int) (h : 1 <= n /\ n <= 4611686018427387904) : u7 Tryz.prog 12 [ints x, ints n] (ints (x % n)) := by
 refine kS Tryz.func12 (by cbv) (by rfl) fun w O => ?_
 simp only [j6, ints]
 have hn : ¬ n = 0 := by omega
 obtain ⟨he, hlt⟩ := b4c x n (by omega)
 (repeat first | refine uA ?_ | (refine uK ?_ ?_; focus first | omega | (intros; simp_all <;> omega)) | simp (disch := omega) only [go_sem, Nat.reduceBEq, Nat.reduceAdd, ww, hn])
 (refine uJ rfl (fun hc => ?_) fun hc => ?_)
 ·rw [he, if_pos hc]
  (repeat first | refine uA ?_ | (refine uK ?_ ?_; focus first | omega | (intros; simp_all <;> omega)) | simp (disch := omega) only [go_sem, Nat.reduceBEq, Nat.reduceAdd, ww])
  exact S.done (j3.out rfl (Imp.refl rfl) rfl)
 ·rw [he, if_neg hc]
  (repeat first | refine uA ?_ | (refine uK ?_ ?_; focus first | omega | (intros; simp_all <;> omega)) | simp (disch := omega) only [go_sem, Nat.reduceBEq, Nat.reduceAdd, ww])
  exact S.done (j3.out rfl (Imp.refl rfl) rfl)
def a0J (l : List Int) : C := .sl 1 (l.map fun n => [.v (.int .i64 n)])
theorem a0A {E : Ctx} (hP : E.P = Tryz.prog) (l : List Int) (n : Int) (h : 1 <= n /\ n <= 4611686018427387904) :
  l8 E [.box 225 [a0J l]] 173 [.bp 0 0, ints n] (ints (nx l n)) [.box 225 [a0J (l.drop 1)]] [] := by
 obtain ⟨P, eff', N, w0, own0, av0, nu0, pk0⟩ := E
 simp only at hP
 subst hP
 refine l8.of (eff := eff) Tryz.func173 (by cbv) (by exact c1I rfl) fun w own av ν hν => ?_
 have hν0 : ν.length <= 1 := by rw [hν]; exact c1A _
 have hn1 : decide (n < 1) = false := decide_eq_false (by omega)
 cases l with
 | nil =>
  have e : nx [] n = 0 := by unfold nx; rw [List.headD_nil, Int.zero_emod]
  rw [e]
  simp only [j6, a0J, ints, List.drop_nil, c1N]
  (repeat first | refine uA ?_ | (refine uK ?_ ?_; focus first | omega | (intros; simp_all <;> omega)) | simp (disch := omega) only [go_sem, Nat.reduceBEq, Nat.reduceAdd, ww, hn1, List.length_nil])
  refine S.cond rfl (fun hc => ?_) (fun hc => by simp at hc)
  (repeat first | refine uA ?_ | (refine uK ?_ ?_; focus first | omega | (intros; simp_all <;> omega)) | simp (disch := omega) only [go_sem, Nat.reduceBEq, Nat.reduceAdd, ww])
  (refine S.done ?_; simp only [p9, l7, go_sem, Nat.reduceBEq, Nat.reduceAdd, Nat.reduceLeDiff, Int.reduceToNat, Int.reducePow]; (repeat (refine ⟨?_, ?_⟩; focus first | trivial | omega | simp)); exact j3.M8 (Imp.refl rfl) (by (repeat first | refine uA ?_ | (refine ⟨?_, ?_⟩; focus first | rfl | simp [slot]) | rfl | simp)) (c1v hν0 (by simp)))
 | cons x r =>
  have e : nx (x :: r) n = x % n := by unfold nx; rw [List.headD_cons]
  rw [e]
  have hb := b6o x n h
  have h0 : decide (((r.length : Int) + 1) = 0) = false := decide_eq_false (by omega)
  simp only [j6, a0J, ints, c1J, List.drop_succ_cons, List.drop_zero] at *
  (repeat first | refine uA ?_ | (refine uK ?_ ?_; focus first | omega | (intros; simp_all <;> omega)) | simp (disch := omega) only [go_sem, Nat.reduceBEq, Nat.reduceAdd, ww, hn1, h0, c1M, c1q] | (refine uB hb ?_ ?_; exact rfl))
  refine S.cond rfl (fun hc => by simp at hc; omega) (fun hc => ?_)
  (repeat first | refine uA ?_ | (refine uK ?_ ?_; focus first | omega | (intros; simp_all <;> omega)) | simp (disch := omega) only [go_sem, Nat.reduceBEq, Nat.reduceAdd, ww, hn1, c1M, c1q, List.getElem?_cons_zero, a4T, List.take_succ_cons, List.drop_succ_cons, Nat.add_sub_cancel, c1L] | (refine uB hb ?_ ?_; exact rfl))
  (refine S.done ?_; simp only [p9, l7, go_sem, Nat.reduceBEq, Nat.reduceAdd, Nat.reduceLeDiff, Int.reduceToNat, Int.reducePow]; (repeat (refine ⟨?_, ?_⟩; focus first | trivial | omega | simp)); exact j3.M8 (Imp.refl rfl) (by (repeat first | refine uA ?_ | (refine ⟨?_, ?_⟩; focus first | rfl | simp [slot]) | rfl | simp)) (c1v hν0 (by simp)))
def a6i (l : List UInt8) (i : Nat) (out : List UInt8) : Prop :=
 out.length = l.length /\ ∀ k, k < l.length -> out[k]? = if k < i \/ l.length - i <= k then l[l.length - 1 - k]? else l[k]?
theorem b1R (l : List UInt8) : a6i l 0 l := ⟨rfl, fun k hk => by rw [if_neg (by omega)]⟩
theorem b1X {l out : List UInt8} {i : Nat} {x y : UInt8} (h : a6i l i out) (hi : i + 1 < l.length - i) (hx : out[i]? = some x) (hy : out[l.length - 1 - i]? = some y) : a6i l (i + 1) ((out.set i y).set (l.length - 1 - i) x) := by
 obtain ⟨h1, h2⟩ := h
 have e1 := h2 i (by omega)
 have e2 := h2 (l.length - 1 - i) (by omega)
 rw [if_neg (by omega), hx] at e1
 rw [if_neg (by omega), hy] at e2
 refine ⟨by simp [h1], fun k hk => ?_⟩
 by_cases k1 : k = l.length - 1 - i
 ·subst k1
  rw [List.getElem?_set_self (by simp; omega), if_pos (by omega), e1]
  congr 1
  omega
 ·rw [List.getElem?_set_ne (fun e => k1 e.symm)]
  by_cases k2 : k = i
  ·subst k2
   rw [List.getElem?_set_self (by omega), if_pos (by omega), e2]
  ·rw [List.getElem?_set_ne (fun e => k2 e.symm), h2 k hk]
   by_cases k3 : k < i \/ l.length - i <= k
   ·rw [if_pos k3, if_pos (by omega)]
   ·rw [if_neg k3, if_neg (by omega)]
theorem b3i {l out : List UInt8} {i : Nat} (h : a6i l i out) (hi : l.length - i <= i + 1) : out = l.reverse := by
 obtain ⟨h1, h2⟩ := h
 apply List.ext_getElem?
 intro k
 rcases c1Q k l.length with hk | hk
 ·rw [h2 k hk, List.getElem?_reverse hk]
  by_cases k3 : k < i \/ l.length - i <= k
  ·rw [if_pos k3]
  ·rw [if_neg k3, show l.length - 1 - k = k by omega]
 ·rw [c2b (by omega), c2b (by simp; omega)]
theorem c0I {E : Ctx} (hP : E.P = Tryz.prog) (l : List UInt8) (hl : l.length <= 1099511627776) : l8 E [.row 5 1 (l.map F4)] 189 [.rv 0] (.tup []) [.row 5 1 (l.reverse.map F4)] [] := by
 obtain ⟨P, eff', N, w0, own0, av0, nu0, pk0⟩ := E
 simp only at hP
 subst hP
 refine l8.of (eff := eff) Tryz.func189 (by cbv) (by exact c1I rfl) fun w own av ν hν => ?_
 have hν0 : ν.length <= 1 := by rw [hν]; exact c1A _
 simp only [j6]
 (repeat first | refine uA ?_ | (refine uK ?_ ?_; focus first | omega | (intros; simp_all <;> omega)) | simp (disch := omega) only [go_sem, Nat.reduceBEq, Nat.reduceAdd, ww, c1q])
 refine S.loop (X := Nat × List UInt8) (fun x => ⟨[(0, .rv 0), (2, ints x.1), (3, ints ((l.length : Int) - 1 - (x.1 : Int)))], [.row 5 1 (x.2.map F4)]⟩) (fun x => x.1 <= l.length /\ a6i l x.1 x.2) (fun x => l.length - x.1) (0, l) ⟨c1y _, b1R l⟩ (by simp only [Int.natCast_zero, Int.sub_zero]; exact (by (repeat first | refine uA ?_ | (refine ⟨?_, ?_⟩; focus first | rfl | simp [slot]) | rfl | simp | exact c1v hν0 (by simp)))) ?_
 rintro ⟨i, out⟩ ⟨hi, hinv⟩
 simp only [ints] at hi hinv ⊢
 have hol := hinv.1
 (repeat first | refine uA ?_ | (refine uK ?_ ?_; focus first | omega | (intros; simp_all <;> omega)) | simp (disch := omega) only [go_sem, Nat.reduceBEq, Nat.reduceAdd, ww])
 (refine uJ rfl (fun hc => ?_) fun hc => ?_)
 ·have gi : out[i]? = some (out[i]'(by omega)) := c1p (by omega)
  have gj : out[l.length - 1 - i]? = some (out[l.length - 1 - i]'(by omega)) := c1p (by omega)
  have hst := b1X hinv (by omega) gi gj
  have hsk : l.length - 1 - i ≠ i := by omega
  generalize out[i]'_ = xi at *
  generalize out[l.length - 1 - i]'_ = xj at *
  have gj2 : (out.set i xj)[l.length - 1 - i]? = some xj := by rw [List.getElem?_set_ne (Ne.symm hsk)]; exact gj
  have n0 : ((l.length : Int) - 1 - (i : Int)).toNat = l.length - 1 - i := by omega
  have e1 : (out.map F4).set i [.v (.int .u8 ((xj.toNat : Nat) : Int))] = (out.set i xj).map F4 := a2z out i xj
  have e2 : ((out.set i xj).map F4).set (l.length - 1 - i) [.v (.int .u8 ((xi.toNat : Nat) : Int))] = ((out.set i xj).set (l.length - 1 - i) xi).map F4 := a2z _ _ _
  have hr : (l.length : Int) - 1 - ((i + 1 : Nat) : Int) = (l.length : Int) - 1 - (i : Int) - 1 := by omega
  (repeat first | refine uA ?_ | (refine uK ?_ ?_; focus first | omega | (intros; simp_all <;> omega)) | simp (disch := omega) only [go_sem, Nat.reduceBEq, Nat.reduceAdd, ww, c1q, gi, gj, gj2, n0, e1, e2, F4, c1r, c1u, c2c])
  refine S.next (x := (i, out)) (i + 1, _) ⟨by simp only; omega, hst⟩ (by simp only; omega) (by simp only [hr]; exact (by (repeat first | refine uA ?_ | (refine ⟨?_, ?_⟩; focus first | rfl | simp [slot]) | rfl | simp | exact c1v hν0 (by simp))))
 ·have := b3i hinv (by omega)
  subst this
  (repeat first | refine uA ?_ | (refine uK ?_ ?_; focus first | omega | (intros; simp_all <;> omega)) | simp (disch := omega) only [go_sem, Nat.reduceBEq, Nat.reduceAdd, ww])
  exact S.end_ (j3.own rfl)
theorem b0Z (n : Nat) (hn : n < 4611686018427387904) : u7 Tryz.prog 80 [.v (.int .i64 (n : Int))] (sb (Nm.enc n)) := by
  refine kS Tryz.func80 (by cbv) (by rfl) fun w O => ?_
  have h8 : (Nm.enc n).length <= 8 := Nm.G5 (by omega)
  simp only [j6, sb]
  (repeat first | refine uA ?_ | (refine uK ?_ ?_; focus first | omega | (intros; simp_all <;> omega)) | simp (disch := omega) only [go_sem, Nat.reduceBEq, Nat.reduceAdd, ww])
  refine S.loop (X := Nat × List UInt8) (fun x => ⟨[(0, ints x.1), (3, .rv 0)], [.row 5 1 (x.2.map F4)]⟩) (fun x => x.1 <= n /\ Nm.enc x.1 ++ x.2.reverse = Nm.enc n) (fun x => x.1) (n, []) ⟨c1A _, by simp⟩ (Ent.trans (Ent.pack 3 5 1 rfl) (by (repeat first | refine uA ?_ | (refine ⟨?_, ?_⟩; focus first | rfl | simp [slot]) | rfl | simp))) ?_
  rintro ⟨m, out⟩ ⟨hm, hinv⟩
  simp only [ints] at hm hinv ⊢
  have hol : out.length <= 8 := by
    have := congrArg List.length hinv
    simp only [c1s, List.length_reverse] at this
    omega
  (repeat first | refine uA ?_ | (refine uK ?_ ?_; focus first | omega | (intros; simp_all <;> omega)) | simp (disch := omega) only [go_sem, Nat.reduceBEq, Nat.reduceAdd, ww])
  (refine uJ rfl (fun hc => ?_) fun hc => ?_)
  · have he : Nm.enc m = Nm.enc (m / 256) ++ [UInt8.ofNat (m % 256)] := by
      conv => lhs; unfold Nm.enc
      rw [if_neg (by omega)]
    have hb : (UInt8.ofNat (m % 256)).toNat = m % 256 := by simp
    have h1 : IntKind.u8.wrap (Int.tmod (m : Int) 256) = (((UInt8.ofNat (m % 256)).toNat : Nat) : Int) := by
      rw [hb, show Int.tmod (m : Int) 256 = ((m % 256 : Nat) : Int) from rfl, a1f]
      omega
    have h2 : Int.tdiv (m : Int) 256 = ((m / 256 : Nat) : Int) := rfl
    have hap : Nm.enc (m / 256) ++ (out ++ [UInt8.ofNat (m % 256)]).reverse = Nm.enc n := by
      rw [List.reverse_append, <- hinv, he]
      simp
    generalize UInt8.ofNat (m % 256) = b at *
    (repeat first | refine uA ?_ | (refine uK ?_ ?_; focus first | omega | (intros; simp_all <;> omega)) | simp (disch := omega) only [go_sem, Nat.reduceBEq, Nat.reduceAdd, ww, c1q, h1, h2])
    refine S.next (x := (m, out)) (m / 256, out ++ [b]) ⟨by simp only; omega, hap⟩ (by simp only; omega) (by simp only [c2h, c1J, c1N, F4]; exact (by (repeat first | refine uA ?_ | (refine ⟨?_, ?_⟩; focus first | rfl | simp [slot]) | rfl | simp)))
  · have h0 : m = 0 := by omega
    subst h0
    rw [Nm.a0V, List.nil_append] at hinv
    have hr := fun (E : Ctx) (hP : E.P = Tryz.prog) => c0I hP out (by omega)
    rw [hinv] at hr
    (repeat first | refine uA ?_ | (refine uK ?_ ?_; focus first | omega | (intros; simp_all <;> omega)) | simp (disch := omega) only [go_sem, Nat.reduceBEq, Nat.reduceAdd, ww, P8, a1T] | refine l9.t (l8.lift (k := 0) rfl (hr _ rfl) rfl rfl rfl) ?_)
    exact S.done (j3.out rfl (Imp.refl rfl) rfl)
theorem b6W (a b : Nat) (h : 0 < b) : Nat.gcd b (a % b) = Nat.gcd a b := by
 rw [Nat.gcd_comm b, <- Nat.gcd_rec, Nat.gcd_comm]
theorem a2u (n d : Int) (hn : -1099511627776 <= n /\ n <= 1099511627776) (hd : 1 <= d /\ d <= 1099511627776) : u7 Tryz.prog 17 [ints n, ints d] (rc (Q n d)) := by
 refine kS Tryz.func17 (by cbv) (by rfl) fun w O => ?_
 obtain ⟨m, rfl⟩ : ∃ m : Nat, d = m := ⟨d.toNat, by omega⟩
 have hq : Q n m = Nm.ofQ (mkRat (Nm.sgn (decide (n < 0)) n.natAbs) m) := by
  unfold Q
  have : Nm.sgn (decide (n < 0)) n.natAbs = n := by unfold Nm.sgn; by_cases h : n < 0 <;> simp [h] <;> omega
  rw [this, c1u]
 rw [hq, <- Nm.a8N _ (by omega)]
 have hmx : (if n < -n then -n else n) = ((n.natAbs : Nat) : Int) := by split <;> omega
 have hwn : IntKind.i64.wrap (0 - n) = -n := by rw [Eng.wrap_i64 (by omega)]; omega
 have hgp : 0 < Nat.gcd n.natAbs m := Nat.gcd_pos_of_pos_right _ (by omega)
 simp only [j6, ints]
 (repeat first | refine uA ?_ | (refine uK ?_ ?_; focus first | omega | (intros; simp_all <;> omega)) | simp (disch := omega) only [go_sem, Nat.reduceBEq, Nat.reduceAdd, ww, hwn, hmx])
 refine S.loop (X := Nat × Nat) (fun x => ⟨[(0, ints n), (1, ints m), (4, .bp 0 0), (5, ints x.1), (6, ints x.2)], [.box 29 [.v (.bool false), .v (.string ⟨#[]⟩), .v (.string ⟨#[]⟩)]]⟩) (fun x => Nat.gcd x.1 x.2 = Nat.gcd n.natAbs m /\ x.1 <= 1099511627776 /\ x.2 <= 1099511627776) (fun x => x.2) (n.natAbs, m) ⟨rfl, by omega, by omega⟩ (by (repeat first | refine uA ?_ | (refine ⟨?_, ?_⟩; focus first | rfl | simp [slot]) | rfl | simp)) ?_
 rintro ⟨a, b⟩ ⟨hg, ha, hb⟩
 simp only [ints] at hg ha hb ⊢
 (repeat first | refine uA ?_ | (refine uK ?_ ?_; focus first | omega | (intros; simp_all <;> omega)) | simp (disch := omega) only [go_sem, Nat.reduceBEq, Nat.reduceAdd, ww])
 (refine uJ rfl (fun hc => ?_) fun hc => ?_)
 ·have h1 : Int.tmod (a : Int) (b : Int) = ((a % b : Nat) : Int) := rfl
  have hlt : a % b < b := Nat.mod_lt _ (by omega)
  have hb0 : ¬ ((b : Int) = 0) := by omega
  (repeat first | refine uA ?_ | (refine uK ?_ ?_; focus first | omega | (intros; simp_all <;> omega)) | simp (disch := omega) only [go_sem, Nat.reduceBEq, Nat.reduceAdd, ww, h1, hb0])
  refine S.next (x := (a, b)) (b, a % b) ⟨by simp only; rw [b6W a b (by omega)]; exact hg, by simp only; omega, by simp only; omega⟩ (by simp only; omega) (by (repeat first | refine uA ?_ | (refine ⟨?_, ?_⟩; focus first | rfl | simp [slot]) | rfl | simp))
 ·have hb0 : b = 0 := by omega
  subst hb0
  rw [Nat.gcd_zero_right] at hg
  subst hg
  have ha0 : ¬ (((Nat.gcd n.natAbs m : Nat) : Int) = 0) := by omega
  generalize hgg : Nat.gcd n.natAbs m = g at *
  have hdvn : g ∣ n.natAbs := by rw [<- hgg]; exact Nat.gcd_dvd_left ..
  have e2 : Int.tdiv (m : Int) (g : Int) = ((m / g : Nat) : Int) := rfl
  obtain ⟨k, hk⟩ := hdvn
  have hkq : n.natAbs / g = k := by rw [hk]; exact Nat.mul_div_cancel_left _ hgp
  have e1 : Int.tdiv n (g : Int) = Nm.sgn (decide (n < 0)) k := by
   have h3 : (n : Int) = (g : Int) * Nm.sgn (decide (n < 0)) k := by
    have h4 : ((n.natAbs : Nat) : Int) = (g : Int) * (k : Int) := by rw [hk]; simp
    unfold Nm.sgn
    by_cases h : n < 0
    ·simp only [h, decide_true, if_true, Int.mul_neg]; omega
    ·simp only [h, decide_false, c2a, if_false]; omega
   rw [show Int.tdiv n (g : Int) = Int.tdiv ((g : Int) * Nm.sgn (decide (n < 0)) k) (g : Int) from congrArg (fun z => Int.tdiv z (g : Int)) h3]
   exact Int.mul_tdiv_cancel_left _ (by omega)
  have hkb : k <= 1099511627776 := by
   have : k <= g * k := Nat.le_mul_of_pos_left k hgp
   omega
  have hmb : m / g <= m := Nat.div_le_self _ _
  have hs : -1099511627776 <= Nm.sgn (decide (n < 0)) k /\ Nm.sgn (decide (n < 0)) k <= 1099511627776 := by unfold Nm.sgn; split <;> omega
  have hneg : decide (Nm.sgn (decide (n < 0)) k < 0) = (decide (n < 0) && !decide (k = 0)) := by
   unfold Nm.sgn
   by_cases h : n < 0
   ·by_cases h0 : k = 0
    ·subst h0; simp [h]
    ·simp [h, h0]; try omega
   ·simp [h]; try omega
  have hab : (if Nm.sgn (decide (n < 0)) k < -(Nm.sgn (decide (n < 0)) k) then -(Nm.sgn (decide (n < 0)) k) else Nm.sgn (decide (n < 0)) k) = ((k : Nat) : Int) := by unfold Nm.sgn; split <;> split <;> omega
  have hws : IntKind.i64.wrap (0 - Nm.sgn (decide (n < 0)) k) = -(Nm.sgn (decide (n < 0)) k) := by rw [Eng.wrap_i64 (by omega)]; omega
  have hwm : IntKind.i64.wrap ((m / g : Nat) : Int) = ((m / g : Nat) : Int) := by
   generalize m / g = z at *
   exact Eng.wrap_i64 (by omega)
  have d1 := b0Z k (by omega)
  have d2 := b0Z (m / g) (by omega)
  have hres : (if n.natAbs = 0 then Nm.a2w else ⟨decide (n < 0), Nm.enc (n.natAbs / g), Nm.enc (m / g)⟩ : Nm.Rt) = ⟨decide (n < 0) && !decide (k = 0), Nm.enc k, Nm.enc (m / g)⟩ := by
   rw [hkq]
   by_cases h0 : n.natAbs = 0
   ·have hn0 : n = 0 := by omega
    subst hn0
    have hk0 : k = 0 := by
     rcases c1P k with h | h
     ·exact h
     ·have := Nat.mul_pos hgp h; omega
    have hgm : g = m := by rw [<- hgg]; simp
    subst hk0
    have h1 : m / g = 1 := by rw [hgm]; exact Nat.div_self (by omega)
    rw [h1, Nm.a1w, Nm.a0V]
    rfl
   ·have hk0 : k ≠ 0 := by intro h; subst h; omega
    rw [if_neg h0]
    simp [hk0]
  rw [hres]
  rw [<- hneg]
  simp only [rc, sb] at d1 d2 ⊢
  generalize Nm.sgn (decide (n < 0)) k = s at *
  (repeat first | refine uA ?_ | (refine uK ?_ ?_; focus first | omega | (intros; simp_all <;> omega)) | simp (disch := omega) only [go_sem, Nat.reduceBEq, Nat.reduceAdd, ww, ha0, e1, e2, hws, hab, hwm] | (refine uB d1 ?_ ?_; exact rfl) | (refine uB d2 ?_ ?_; exact rfl))
  (refine S.done ?_; simp only [p9, l7, go_sem, Nat.reduceBEq, Nat.reduceAdd, Nat.reduceLeDiff, Int.reduceToNat, Int.reducePow]; (repeat (refine ⟨?_, ?_⟩; focus first | trivial | omega | simp)); exact j3.out rfl (Imp.refl rfl) rfl)
theorem a6f (x y : Int) (hx : -1000000 <= x /\ x <= 1000000) (hy : -1000000 <= y /\ y <= 1000000) : u7 Tryz.prog 177 [ints x, ints y] (atV x y).c := by
 refine kS Tryz.func177 (by cbv) (by rfl) fun w O => ?_
 have h1 := a2u x 4 (by omega) (by omega)
 have h2 := a2u y 4 (by omega) (by omega)
 unfold atV
 generalize Q x 4 = qx at *
 generalize Q y 4 = qy at *
 simp only [j6]
 simp only [rc, sb, ints, Vt.c, Vt.enc] at *
 (repeat first | refine uA ?_ | (refine uK ?_ ?_; focus first | omega | (intros; simp_all <;> omega)) | simp (disch := omega) only [go_sem, Nat.reduceBEq, Nat.reduceAdd, ww] | (refine uB h1 ?_ ?_; exact rfl) | (refine uB h2 ?_ ?_; exact rfl))
 (refine S.done ?_; simp only [p9, l7, go_sem, Nat.reduceBEq, Nat.reduceAdd, Nat.reduceLeDiff, Int.reduceToNat, Int.reducePow]; (repeat (refine ⟨?_, ?_⟩; focus first | trivial | omega | simp)); exact j3.out rfl (Imp.refl rfl) rfl)
theorem b9J (x y u v : Int) (hx : -100000 <= x /\ x <= 100000) (hy : -100000 <= y /\ y <= 100000) (hu : -100000 <= u /\ u <= 100000) (hv : -100000 <= v /\ v <= 100000) : u7 Tryz.prog 175 [ints x, ints y, ints u, ints v] (vts (a9K x y u v)) := by
 refine kS Tryz.func175 (by cbv) (by rfl) fun w O => ?_
 have h1 := a6f x y (by omega) (by omega)
 have h2 := a6f u y (by omega) (by omega)
 have h3 := a6f u v (by omega) (by omega)
 have h4 := a6f x v (by omega) (by omega)
 unfold a9K
 generalize atV x y = p1 at *
 generalize atV u y = p2 at *
 generalize atV u v = p3 at *
 generalize atV x v = p4 at *
 simp only [j6]
 simp only [vts, Vt.c, Vt.enc, sb, ints] at *
 (repeat first | refine uA ?_ | (refine uK ?_ ?_; focus first | omega | (intros; simp_all <;> omega)) | simp (disch := omega) only [go_sem, Nat.reduceBEq, Nat.reduceAdd, ww] | (refine uB h1 ?_ ?_; exact rfl) | (refine uB h2 ?_ ?_; exact rfl) | (refine uB h3 ?_ ?_; exact rfl) | (refine uB h4 ?_ ?_; exact rfl))
 exact S.done (j3.out rfl (Imp.frz rfl rfl rfl) rfl)
set_option maxRecDepth 100000
set_option maxHeartbeats 16000000
theorem b5S (n : Nat) (h : n <= 3) : ([[C.v (.string ⟨#[111, 110, 101]⟩)], [C.v (.string ⟨#[116, 119, 111]⟩)], [C.v (.string ⟨#[116, 104, 114, 101, 101]⟩)], [C.v (.string ⟨#[102, 111, 117, 114]⟩)]] : List (List C))[n]? = some [C.v (.string (bs (b6H n)))] := by
 match n, h with
 | 0, _ => rfl
 | 1, _ => rfl
 | 2, _ => rfl
 | 3, _ => rfl
theorem b8C (k : Int) (h0 : 0 <= k) (h1 : k < 4) : ([[C.v (.int .i64 0)], [C.v (.int .i64 1)], [C.v (.int .i64 (-1))], [C.v (.int .i64 1)]] : List (List C))[k.toNat]? = some [C.v (.int .i64 (a5f k))] := by
 have : k = 0 \/ k = 1 \/ k = 2 \/ k = 3 := by omega
 rcases this with rfl | rfl | rfl | rfl <;> rfl
theorem b4M (k : Int) : -1 <= a5f k /\ a5f k <= 1 := by unfold a5f; split; omega; split <;> omega
theorem c0j {E : Ctx} (hP : E.P = Tryz.prog) (l : List Int) (n : Nat) (hn : n <= 3) :
  l8 E [.box 225 [a0J l]] 174 [.bp 0 0, .v (.int .i64 (n : Int))] (b0F l n).c [.box 225 [a0J (a7h l)]] [] := by
 obtain ⟨P, eff', N, w0, own0, av0, nu0, pk0⟩ := E
 simp only at hP
 subst hP
 refine l8.of (eff := eff) Tryz.func174 (by cbv) (by exact c1I rfl) fun w own av ν hν => ?_
 have hν0 : ν.length <= 1 := by rw [hν]; exact c1A _
 have hnm := b5S n hn
 have h1 := a6f (40 * (n : Int)) 0 (by omega) (by omega)
 have k1 := fun (E : Ctx) (hP : E.P = Tryz.prog) => a0A hP l 4 (by decide)
 have k2 := fun (E : Ctx) (hP : E.P = Tryz.prog) => a0A hP (l.drop 1) 3 (by decide)
 have k3 := fun (E : Ctx) (hP : E.P = Tryz.prog) => a0A hP (l.drop 2) 3 (by decide)
 have a1 := Y5 l (n := 4) (by decide)
 have a2 := a2X l (n := 4) (by decide)
 have a3 := Y5 (l.drop 1) (n := 3) (by decide)
 have a4 := a2X (l.drop 1) (n := 3) (by decide)
 have a5 := Y5 (l.drop 2) (n := 3) (by decide)
 have a6 := a2X (l.drop 2) (n := 3) (by decide)
 have htn := b8C (nx l 4) a1 a2
 have htr := b4M (nx l 4)
 have h2 := a2u (a5f (nx l 4)) (1 + nx (l.drop 1) 3) (by omega) (by omega)
 rw [List.drop_drop] at k2 k3
 have hc : ((a5o l : Nat) : Int) = 1 + nx (l.drop 2) 3 := by unfold a5o; omega
 have hc3 : a5o l <= 3 := by omega
 have hR : a7h l = (l.drop 3).drop (6 * a5o l) := by unfold a7h; rw [List.drop_drop]
 unfold b0F
 rw [hR]
 generalize a5o l = c at *
 generalize l.drop 3 = l0 at *
 unfold atV at h1
 generalize Q (40 * (n : Int)) 4 = q1 at *
 generalize Q 0 4 = q2 at *
 generalize a5f (nx l 4) = tn at *
 generalize Q tn (1 + nx (l.drop 1) 3) = q3 at *
 generalize nx l 4 = x1 at *
 generalize nx (l.drop 1) 3 = x2 at *
 generalize nx (l.drop 2) 3 = x3 at *
 generalize b6H n = nm at *
 simp only [j6]
 simp only [Am.c, Am.enc, Vt.c, Vt.enc, rc, a0J, sb, ints, lks] at h1 h2 k1 k2 k3 ⊢
 (repeat first | refine uA ?_ | (refine uK ?_ ?_; focus first | omega | trivial | (intros; simp_all <;> omega)) | simp (disch := omega) only [go_sem, Nat.reduceBEq, Nat.reduceAdd, Nat.reduceLeDiff, Int.reduceToNat, Int.reducePow, ww, hnm, htn, c1u] | refine l9.t (l8.lift (k := 0) rfl (k1 _ rfl) rfl rfl rfl) ?_ | refine l9.t (l8.lift (k := 0) rfl (k2 _ rfl) rfl rfl rfl) ?_ | (refine uB h1 ?_ ?_; exact rfl) | (refine uB h2 ?_ ?_; exact rfl))
 (repeat first | refine uA ?_ | (refine uK ?_ ?_; focus first | omega | trivial | (intros; simp_all <;> omega)) | simp (disch := omega) only [go_sem, Nat.reduceBEq, Nat.reduceAdd, Nat.reduceLeDiff, Int.reduceToNat, Int.reducePow, ww] | refine l9.t (l8.lift (k := 0) rfl (k3 _ rfl) rfl rfl rfl) ?_)
 rw [<- hc]
 refine S.loop (X := Nat × List Lk × List Int) (fun x => ⟨[(0, .bp 0 0), (4, .bp 1 0), (5, .bp 3 0), (30, ints c), (31, ints x.1)], [.box 225 [a0J x.2.2], .box 76 [.v (.string ⟨#[]⟩), .v (.bool false), .v (.string ⟨#[]⟩), .v (.string ⟨#[]⟩), .v (.bool false), .v (.string ⟨#[]⟩), .v (.string ⟨#[]⟩), .v (.bool false), .v (.bool false), .v (.string ⟨#[]⟩), .v (.string ⟨#[]⟩), .v (.slice none 0 0)], .gone, .box 76 [.v (.string (bs nm)), .v (.bool q1.neg), .v (.string (bs q1.num)), .v (.string (bs q1.den)), .v (.bool q2.neg), .v (.string (bs q2.num)), .v (.string (bs q2.den)), .v (.bool false), .v (.bool q3.neg), .v (.string (bs q3.num)), .v (.string (bs q3.den)), .rv 4], .row 158 16 (x.2.1.map Lk.enc)]⟩)
  (fun x => x.1 <= c /\ x.2.1.length = x.1 /\ x.2.1 ++ a4L (c - x.1) x.2.2 = a4L c l0 /\ x.2.2.drop (6 * (c - x.1)) = l0.drop (6 * c)) (fun x => c - x.1) (0, [], l0) ⟨c1y _, rfl, rfl, rfl⟩ (Ent.trans (Ent.a2x 3 11 158 16 rfl rfl rfl) (by (repeat first | refine uA ?_ | (refine ⟨?_, ?_⟩; focus first | rfl | trivial | (simp [slot]; done)) | rfl | trivial | simp | exact c1v hν0 (by simp)))) ?_
 rintro ⟨i, ls, m⟩ ⟨hi, hls, hL, hM⟩
 simp only [ints, a0J] at hi hls hL hM ⊢
 (repeat first | refine uA ?_ | (refine uK ?_ ?_; focus first | omega | trivial | (intros; simp_all <;> omega)) | simp (disch := omega) only [go_sem, Nat.reduceBEq, Nat.reduceAdd, Nat.reduceLeDiff, Int.reduceToNat, Int.reducePow, ww])
 (refine uJ rfl (fun hc => ?_) fun hc => ?_)
 ·have hi' : c - i = (c - i - 1) + 1 := by omega
  have n0 := fun (E : Ctx) (hP : E.P = Tryz.prog) => a0A hP (m.drop 0) 4 (by decide)
  have a0 := Y5 (m.drop 0) (n := 4) (by decide)
  have b0 := a2X (m.drop 0) (n := 4) (by decide)
  have n1 := fun (E : Ctx) (hP : E.P = Tryz.prog) => a0A hP (m.drop 1) 6 (by decide)
  have a1 := Y5 (m.drop 1) (n := 6) (by decide)
  have b1 := a2X (m.drop 1) (n := 6) (by decide)
  have n2 := fun (E : Ctx) (hP : E.P = Tryz.prog) => a0A hP (m.drop 2) 6 (by decide)
  have a2 := Y5 (m.drop 2) (n := 6) (by decide)
  have b2 := a2X (m.drop 2) (n := 6) (by decide)
  have n3 := fun (E : Ctx) (hP : E.P = Tryz.prog) => a0A hP (m.drop 3) 8 (by decide)
  have a3 := Y5 (m.drop 3) (n := 8) (by decide)
  have b3 := a2X (m.drop 3) (n := 8) (by decide)
  have n4 := fun (E : Ctx) (hP : E.P = Tryz.prog) => a0A hP (m.drop 4) 20 (by decide)
  have a4 := Y5 (m.drop 4) (n := 20) (by decide)
  have b4 := a2X (m.drop 4) (n := 20) (by decide)
  have n5 := fun (E : Ctx) (hP : E.P = Tryz.prog) => a0A hP (m.drop 5) 3 (by decide)
  have a5 := Y5 (m.drop 5) (n := 3) (by decide)
  have b5 := a2X (m.drop 5) (n := 3) (by decide)
  rw [hi', a4L] at hL
  have hM2 : (m.drop 6).drop (6 * (c - (i + 1))) = l0.drop (6 * c) := by rw [List.drop_drop, <- hM]; congr 1; omega
  rw [show c - i - 1 = c - (i + 1) by omega] at hL
  simp only [List.drop_drop, List.drop_zero] at n0 n1 n2 n3 n4 n5 a0 b0
  unfold b7v b7D at hL
  have o1 := a2u (4 + 2 * nx m 4) 4 (by omega) (by omega)
  have o2 := a2u (-1 - nx (m.drop 1) 6) 3 (by omega) (by omega)
  have o3 := a2u (1 + nx (m.drop 2) 6) 3 (by omega) (by omega)
  have o4 := a2u 1 (4 + nx (m.drop 3) 8) (by omega) (by omega)
  have o5 := a2u 1 (10 + nx (m.drop 4) 20) (by omega) (by omega)
  have o6 := b9J (-1) (-1) (4 + 2 * nx m 4 + 1) 1 (by omega) (by omega) (by omega) (by omega)
  have o7 := a6f (-1) (-1) (by omega) (by omega)
  have o8 := a6f (4 + 2 * nx m 4 + 1) 0 (by omega) (by omega)
  have o9 := a6f (-1) 1 (by omega) (by omega)
  generalize Q (4 + 2 * nx m 4) 4 = p1 at *
  generalize Q (-1 - nx (m.drop 1) 6) 3 = p2 at *
  generalize Q (1 + nx (m.drop 2) 6) 3 = p3 at *
  generalize Q 1 (4 + nx (m.drop 3) 8) = p4 at *
  generalize Q 1 (10 + nx (m.drop 4) 20) = p5 at *
  generalize a9K (-1) (-1) (4 + 2 * nx m 4 + 1) 1 = r6 at *
  generalize atV (-1) (-1) = v7 at *
  generalize atV (4 + 2 * nx m 4 + 1) 0 = v8 at *
  generalize atV (-1) 1 = v9 at *
  generalize nx m 4 = y0 at *
  generalize nx (m.drop 1) 6 = y1 at *
  generalize nx (m.drop 2) 6 = y2 at *
  generalize nx (m.drop 3) 8 = y3 at *
  generalize nx (m.drop 4) 20 = y4 at *
  generalize nx (m.drop 5) 3 = y5 at *
  simp only [a0J, ints, rc, sb, vts, Vt.c, Vt.enc] at n0 n1 n2 n3 n4 n5 o1 o2 o3 o4 o5 o6 o7 o8 o9
  (repeat first | refine uA ?_ | (refine uK ?_ ?_; focus first | omega | trivial | (intros; simp_all <;> omega)) | simp (disch := omega) only [go_sem, Nat.reduceBEq, Nat.reduceAdd, Nat.reduceLeDiff, Int.reduceToNat, Int.reducePow, ww] | refine l9.t (l8.lift (k := 0) rfl (n0 _ rfl) rfl rfl rfl) ?_ | refine l9.t (l8.lift (k := 0) rfl (n1 _ rfl) rfl rfl rfl) ?_ | refine l9.t (l8.lift (k := 0) rfl (n2 _ rfl) rfl rfl rfl) ?_ | refine l9.t (l8.lift (k := 0) rfl (n3 _ rfl) rfl rfl rfl) ?_ | refine l9.t (l8.lift (k := 0) rfl (n4 _ rfl) rfl rfl rfl) ?_ | refine l9.t (l8.lift (k := 0) rfl (n5 _ rfl) rfl rfl rfl) ?_ | (refine uB o1 ?_ ?_; exact rfl) | (refine uB o2 ?_ ?_; exact rfl) | (refine uB o3 ?_ ?_; exact rfl) | (refine uB o4 ?_ ?_; exact rfl) | (refine uB o5 ?_ ?_; exact rfl) | (refine uB o6 ?_ ?_; exact rfl))
  refine S.join (Y := List Vt) (fun sh => ⟨[(0, .bp 0 0), (4, .bp 1 0), (5, .bp 3 0), (7, .bp 5 0), (30, ints c), (31, ints i)], [.box 225 [a0J (m.drop 6)], .box 76 [.v (.string ⟨#[]⟩), .v (.bool false), .v (.string ⟨#[]⟩), .v (.string ⟨#[]⟩), .v (.bool false), .v (.string ⟨#[]⟩), .v (.string ⟨#[]⟩), .v (.bool false), .v (.bool false), .v (.string ⟨#[]⟩), .v (.string ⟨#[]⟩), .v (.slice none 0 0)], .gone, .box 76 [.v (.string (bs nm)), .v (.bool q1.neg), .v (.string (bs q1.num)), .v (.string (bs q1.den)), .v (.bool q2.neg), .v (.string (bs q2.num)), .v (.string (bs q2.den)), .v (.bool false), .v (.bool q3.neg), .v (.string (bs q3.num)), .v (.string (bs q3.den)), .rv 4], .row 158 16 (ls.map Lk.enc), .box 158 (Lk.enc ⟨p1, p2, p3, p4, p5, sh⟩)]⟩) (fun sh => sh = if y5 = 2 then [v7, v8, v9] else r6) ?_ ?_
  ·refine S.cond rfl (fun hc => ?_) (fun hc => ?_)
   ·(repeat first | refine uA ?_ | (refine uK ?_ ?_; focus first | omega | trivial | (intros; simp_all <;> omega)) | simp (disch := omega) only [go_sem, Nat.reduceBEq, Nat.reduceAdd, Nat.reduceLeDiff, Int.reduceToNat, Int.reducePow, ww] | (refine uB o7 ?_ ?_; exact rfl) | (refine uB o8 ?_ ?_; exact rfl) | (refine uB o9 ?_ ?_; exact rfl))
    exact S.met [v7, v8, v9] (by simp at hc; rw [if_pos hc]) (Ent.mk _ _ (by (repeat' (first | exact a0g.nil | exact Imp.junk | exact Imp.refl rfl | exact Imp.eq (by simp [slot]; done) rfl | refine a0g.cons ?_ ?_))) (by (repeat' (first | exact M9.nil | exact RI.gone _ | exact RI.row _ _ _ _ rfl | exact RI.map _ _ _ rfl | exact RI.box _ _ _ (j5.refl rfl) | (refine RI.box _ _ _ ?_; (repeat' (first | exact j5.nil | exact Imp.refl rfl | exact Imp.frz rfl rfl rfl | exact Imp.F7 | refine j5.cons ?_ ?_))) | refine M9.cons ?_ ?_))) (c1v hν0 (by simp)))
   ·(repeat first | refine uA ?_ | (refine uK ?_ ?_; focus first | omega | trivial | (intros; simp_all <;> omega)) | simp (disch := omega) only [go_sem, Nat.reduceBEq, Nat.reduceAdd, Nat.reduceLeDiff, Int.reduceToNat, Int.reducePow, ww])
    exact S.met r6 (by simp at hc; rw [if_neg hc]) (by (repeat first | refine uA ?_ | (refine ⟨?_, ?_⟩; focus first | rfl | trivial | (simp [slot]; done)) | rfl | trivial | simp | exact c1v hν0 (by simp)))
  rintro sh hsh
  rw [<- hsh] at hL
  simp only [a0J, ints, Lk.enc, vts]
  (repeat first | refine uA ?_ | (refine uK ?_ ?_; focus first | omega | trivial | (intros; simp_all <;> omega)) | simp (disch := omega) only [go_sem, Nat.reduceBEq, Nat.reduceAdd, Nat.reduceLeDiff, Int.reduceToNat, Int.reducePow, ww, c1q, hls])
  refine S.next (x := (i, ls, m)) (i + 1, ls ++ [⟨p1, p2, p3, p4, p5, sh⟩], m.drop 6) ⟨by simp only; omega, by simp [hls], by simp only; rw [c1T]; exact hL, by simp only; exact hM2⟩ (by simp only; omega) (by simp only [c2h, c1J, c1N]; exact (by (repeat first | refine uA ?_ | (refine ⟨?_, ?_⟩; focus first | rfl | trivial | (simp [slot]; done)) | rfl | trivial | simp | exact c1v hν0 (by simp))))
 ·have hi' : i = c := by omega
  subst hi'
  rw [Nat.sub_self, a4L, List.append_nil] at hL
  rw [Nat.sub_self, Nat.mul_zero, List.drop_zero] at hM
  subst hL
  subst hM
  (repeat first | refine uA ?_ | (refine uK ?_ ?_; focus first | omega | trivial | (intros; simp_all <;> omega)) | simp (disch := omega) only [go_sem, Nat.reduceBEq, Nat.reduceAdd, Nat.reduceLeDiff, Int.reduceToNat, Int.reducePow, ww])
  (refine S.done ?_; simp only [p9, l7, go_sem, Nat.reduceBEq, Nat.reduceAdd, Nat.reduceLeDiff, Int.reduceToNat, Int.reducePow]; (repeat (refine ⟨?_, ?_⟩; focus first | trivial | omega | simp)); exact j3.M8 (Imp.agg (by (repeat' (first | exact j5.nil | exact Imp.refl rfl | exact Imp.frz rfl rfl rfl | exact Imp.F7 | refine j5.cons ?_ ?_)))) (by (repeat first | refine uA ?_ | (refine ⟨?_, ?_⟩; focus first | rfl | trivial | (simp [slot]; done)) | rfl | trivial | simp)) (c1v hν0 (by simp)))
theorem b5d {w : World} {O : Nat -> Prop} {sz : Nat} : Fz w O (.sl sz []) (.slice none 0 0) := by
 simp only [Fz]
 exact ⟨none, 0, rfl, c1A _, c1y _, fun h => absurd h (by simp)⟩
def I5 : Wk := ⟨[b0F [] 0], [], [], [], [], Q 0 8⟩
theorem a3Y : X3 I5 = 0 := by decide +kernel
theorem a9X : Wb 1048576 I5 := by
 have ha := a8G a3Y
 refine ⟨⟨by decide, fun x hx => (a1v (ha x hx)).1⟩, ⟨by decide, fun x hx => by cases hx⟩, ⟨by decide, fun x hx => by cases hx⟩, ⟨by decide, fun x hx => by cases hx⟩, ⟨by decide, fun x hx => by cases hx⟩, ⟨by decide +kernel, by decide +kernel⟩⟩
theorem S.a9L {E : Ctx} {Q : Exit -> Act -> World -> Prop} {st : St} {k : List It} {body : IC} (h : ∀ J, S E Q st (.code body :: .inv J :: k)) : S E Q st (.code (.loop body) :: k) :=
 S.loop (X := Unit) (fun _ => st) (fun _ => True) (fun _ => 0) () trivial (fun _ ν _ _ h => ⟨ν, h⟩) fun _ _ => h _
theorem b7m : u7 Tryz.prog 69 [a0J []] I5.c := by
 refine kS a6I a6H (by rfl) fun w O => ?_
 have k2 := fun (E : Ctx) (hP : E.P = Tryz.prog) => a0A hP [] 2 (by decide)
 have k3 := fun (E : Ctx) (hP : E.P = Tryz.prog) => a0A hP [] 3 (by decide)
 have k4 := fun (E : Ctx) (hP : E.P = Tryz.prog) => a0A hP [] 4 (by decide)
 have ha : ∀ i : Nat, i = 0 -> ∀ E : Ctx, E.P = Tryz.prog -> l8 E [.box 225 [a0J []]] 174 [.bp 0 0, .v (.int .i64 (i : Int))] (b0F [] 0).c [.box 225 [a0J (a7h [])]] [] := fun i h E hP => by subst h; exact c0j hP [] 0 (by decide)
 have o1 := a2u 0 8 (by decide) (by decide)
 have e1 : a7h [] = [] := by unfold a7h; exact List.drop_nil
 rw [e1] at ha
 simp only [List.drop_nil, show nx [] 2 = 0 from rfl, show nx [] 3 = 0 from rfl, show nx [] 4 = 0 from rfl, a0J, c1N, ints] at k2 k3 k4 ha o1
 unfold I5
 generalize b0F [] 0 = A at *
 generalize Q 0 8 = q at *
 simp only [Am.c, Am.enc, lks, rc, sb] at ha o1
 simp only [a2V, j6, TT, II, OA, OB, OC, MM, LL, VV, FF, MG, LG, VG, FG]
 simp only [a0J, c1N]
 (repeat first | refine uA ?_ | (refine uK ?_ ?_; focus first | omega | (intros; simp_all <;> omega)) | simp (disch := omega) only [go_sem, Nat.reduceBEq, Nat.reduceAdd, ww] | refine l9.t (l8.lift (k := 1) rfl (k2 _ rfl) rfl rfl rfl) ?_)
 refine S.loop (X := Nat) (fun i => ⟨[(2, .bp 0 0), (3, .bp 1 0), (4, .bp 2 0), (17, ints 1), (18, ints i)], [.box 31 [.v (.slice none 0 0), .v (.slice none 0 0), .v (.slice none 0 0), .v (.slice none 0 0), .v (.slice none 0 0), .v (.bool false), .v (.string ⟨#[]⟩), .v (.string ⟨#[]⟩)], .box 225 [.sl 1 []], .box 31 [.rv 3, .v (.slice none 0 0), .v (.slice none 0 0), .v (.slice none 0 0), .v (.slice none 0 0), .v (.bool false), .v (.string ⟨#[]⟩), .v (.string ⟨#[]⟩)], .row 76 12 ((List.replicate i A).map Am.enc)]⟩) (fun i => i <= 1) (fun i => 1 - i) 0 (by decide) (Ent.trans (Ent.a2x 2 0 76 12 rfl rfl rfl) (by (repeat first | refine uA ?_ | (refine ⟨?_, ?_⟩; focus first | rfl | simp [slot]) | rfl | simp))) ?_
 intro i hi
 simp only [ints]
 (repeat first | refine uA ?_ | (refine uK ?_ ?_; focus first | omega | (intros; simp_all <;> omega)) | simp (disch := omega) only [go_sem, Nat.reduceBEq, Nat.reduceAdd, ww])
 (refine uJ rfl (fun hc => ?_) fun hc => ?_)
 ·have hi' : i = 0 := by omega
  have ha := ha i hi'
  (repeat first | refine uI ?_ | (refine uK ?_ ?_; focus first | omega | (intros; simp_all <;> omega)) | simp (disch := omega) only [go_sem, Nat.reduceBEq, Nat.reduceAdd, ww])
  refine S.K3 [.gone, .gone, .box 31 [.rv 3, .v (.slice none 0 0), .v (.slice none 0 0), .v (.slice none 0 0), .v (.slice none 0 0), .v (.bool false), .v (.string ⟨#[]⟩), .v (.string ⟨#[]⟩)]] (by simp [Eng.E5, Eng.P9]) ?_
  (repeat first | refine uA ?_ | (refine uK ?_ ?_; focus first | omega | (intros; simp_all <;> omega)) | simp (disch := omega) only [go_sem, Nat.reduceBEq, Nat.reduceAdd, ww, c1q, List.length_replicate, E5] | refine l9.t (l8.lift (k := 1) rfl (ha _ rfl) rfl rfl rfl) ?_)
  refine S.next (i + 1) (by omega) (by omega) (by simp only [List.replicate_succ', c2h, c1J, c1N, Am.enc, lks, sb, ints]; exact (by (repeat first | refine uA ?_ | (refine ⟨?_, ?_⟩; focus first | rfl | simp [slot]) | rfl | simp)))
 have hi' : i = 1 := by omega
 subst hi'
 (repeat first | refine uA ?_ | (refine uK ?_ ?_; focus first | omega | (intros; simp_all <;> omega)) | simp (disch := omega) only [go_sem, Nat.reduceBEq, Nat.reduceAdd, ww] | refine l9.t (l8.lift (k := 1) rfl (k3 _ rfl) rfl rfl rfl) ?_)
 refine S.a9L fun J => ?_
 (repeat first | refine uA ?_ | (refine uK ?_ ?_; focus first | omega | (intros; simp_all <;> omega)) | simp (disch := omega) only [go_sem, Nat.reduceBEq, Nat.reduceAdd, ww])
 refine S.cond rfl (fun hc => by simp at hc) (fun hc => ?_)
 (repeat first | refine uA ?_ | (refine uK ?_ ?_; focus first | omega | (intros; simp_all <;> omega)) | simp (disch := omega) only [go_sem, Nat.reduceBEq, Nat.reduceAdd, ww] | refine l9.t (l8.lift (k := 1) rfl (k3 _ rfl) rfl rfl rfl) ?_)
 refine S.a9L fun J => ?_
 (repeat first | refine uA ?_ | (refine uK ?_ ?_; focus first | omega | (intros; simp_all <;> omega)) | simp (disch := omega) only [go_sem, Nat.reduceBEq, Nat.reduceAdd, ww])
 refine S.cond rfl (fun hc => by simp at hc) (fun hc => ?_)
 (repeat first | refine uI ?_ | (refine uK ?_ ?_; focus first | omega | (intros; simp_all <;> omega)) | simp (disch := omega) only [go_sem, Nat.reduceBEq, Nat.reduceAdd, ww])
 refine S.K3 [.gone, .gone, .box 31 [.rv 3, .v (.slice none 0 0), .v (.slice none 0 0), .v (.slice none 0 0), .v (.slice none 0 0), .v (.bool false), .v (.string ⟨#[]⟩), .v (.string ⟨#[]⟩)]] (by simp [Eng.E5, Eng.P9]) ?_
 (repeat first | refine uA ?_ | (refine uK ?_ ?_; focus first | omega | (intros; simp_all <;> omega)) | simp (disch := omega) only [go_sem, Nat.reduceBEq, Nat.reduceAdd, ww] | refine l9.t (l8.lift (k := 1) rfl (k2 _ rfl) rfl rfl rfl) ?_)
 refine S.a9L fun J => ?_
 (repeat first | refine uA ?_ | (refine uK ?_ ?_; focus first | omega | (intros; simp_all <;> omega)) | simp (disch := omega) only [go_sem, Nat.reduceBEq, Nat.reduceAdd, ww])
 refine S.cond rfl (fun hc => by simp at hc) (fun hc => ?_)
 (repeat first | refine uA ?_ | (refine uK ?_ ?_; focus first | omega | (intros; simp_all <;> omega)) | simp (disch := omega) only [go_sem, Nat.reduceBEq, Nat.reduceAdd, ww] | refine l9.t (l8.lift (k := 1) rfl (k2 _ rfl) rfl rfl rfl) ?_)
 refine S.a9L fun J => ?_
 (repeat first | refine uA ?_ | (refine uK ?_ ?_; focus first | omega | (intros; simp_all <;> omega)) | simp (disch := omega) only [go_sem, Nat.reduceBEq, Nat.reduceAdd, ww])
 refine S.cond rfl (fun hc => by simp at hc) (fun hc => ?_)
 (repeat first | refine uA ?_ | (refine uK ?_ ?_; focus first | omega | (intros; simp_all <;> omega)) | simp (disch := omega) only [go_sem, Nat.reduceBEq, Nat.reduceAdd, ww] | refine l9.t (l8.lift (k := 1) rfl (k4 _ rfl) rfl rfl rfl) ?_ | (refine uB o1 ?_ ?_; exact rfl))
 simp only [Wk.c, Wk.enc, ams, wls, pts, sls, gts, sb, List.replicate_succ, List.replicate_zero, c1J, c1N, Am.enc, lks]
 (refine S.done ?_; simp only [p9, l7, go_sem, Nat.reduceBEq, Nat.reduceAdd, Nat.reduceLeDiff, Int.reduceToNat, Int.reducePow]; (repeat (refine ⟨?_, ?_⟩; focus first | trivial | omega | simp)); exact j3.out rfl (Imp.agg (by (repeat' (first | exact j5.nil | exact Imp.refl rfl | exact Imp.frz rfl rfl rfl | exact Imp.F7 | refine j5.cons ?_ ?_)))) rfl)
theorem b6w : u7 Tryz.prog 69 [.v (.slice none 0 0)] I5.c := by
 have h := b7m
 intro O w vs hO hA
 refine h O w vs hO ?_
 simp only [FzL, Fz] at hA
 obtain ⟨y, ys, rfl, rfl, rfl⟩ := hA
 exact ⟨_, _, rfl, b5d, rfl⟩
theorem b4B : (∀ a ∈ I5.arms, J8 a = 0) /\ ∀ s ∈ I5.slots, okF s.frame = true := ⟨a8G a3Y, fun s hs => by cases hs⟩
theorem b8u : FZ 81 [] (.tup [I5.c, (K4 I5).c]) := by
 refine kW Tryz.func81 (by cbv) (by rfl) fun w' O hw => ?_
 have h1 := b6w
 have h2 := b6E I5 (a9X.mono (by decide)) a3Y
 generalize K4 I5 = s at *
 generalize I5 = w at *
 obtain ⟨arms, walls, parts, slots, gates, walk⟩ := w
 obtain ⟨tick, sarms, sparts, people, sgates⟩ := s
 simp only [j6]
 simp only [Wk.c, Wk.enc, Stt.c, Stt.enc, ams, wls, pts, sls, gts, F5, frs, vts, bls, sb, ints, a0J, c1N] at h1 h2 ⊢
 (repeat first | refine uA ?_ | (refine uK ?_ ?_; focus first | omega | (intros; simp_all <;> omega)) | simp (disch := omega) only [go_sem, Nat.reduceBEq, Nat.reduceAdd, ww] | (refine uB h1 ?_ ?_; exact rfl) | (refine uD h2 ?_ ?_ ?_; exact tz hw; exact rfl))
 (refine S.done ?_; simp only [p9, l7, go_sem, Nat.reduceBEq, Nat.reduceAdd, Nat.reduceLeDiff, Int.reduceToNat, Int.reducePow]; (repeat (refine ⟨?_, ?_⟩; focus first | trivial | omega | simp)); exact j3.out rfl (Imp.tup (by (repeat' (first | exact j5.nil | exact Imp.refl rfl | exact Imp.frz rfl rfl rfl | exact Imp.F7 | refine Imp.agg ?_ | refine j5.cons ?_ ?_)))) rfl)
def a2E : Stt := ⟨0, [], [], [], []⟩
theorem b2D {k : Nat} : Stb k a2E := ⟨⟨c1y _, fun x hx => (by cases hx)⟩, ⟨c1y _, fun x hx => (by cases hx)⟩, ⟨c1y _, fun x hx => (by cases hx)⟩, c1y _⟩
def V7 (u : Nat) : List UInt8 := if u < 128 then [UInt8.ofNat u] else UInt8.ofNat (u % 128 + 128) :: V7 (u / 128)
theorem a8o {u : Nat} (h : u < 128) : V7 u = [UInt8.ofNat u] := by unfold V7; rw [if_pos h]
theorem a6m {u : Nat} (h : ¬ u < 128) : V7 u = UInt8.ofNat (u % 128 + 128) :: V7 (u / 128) := by rw [V7, if_neg h]
def a6j (n : Int) : List UInt8 := V7 (IntKind.u64.wrap n).toNat
def a2t (b : Bool) : List UInt8 := if b then [1] else [0]
def a4O (l : List UInt8) : List UInt8 := V7 l.length ++ l
def U8 (a : Nm.Rt) : List UInt8 := a2t a.neg ++ (a4O a.num ++ a4O a.den)
def a4p (v : Vt) : List UInt8 := U8 v.x ++ U8 v.y
def frB (f : Fr) : List UInt8 := (U8 f.x ++ U8 f.y) ++ (a2t f.half ++ U8 f.t)
def J4 {α : Type} (f : α -> List UInt8) (l : List α) : List UInt8 := V7 l.length ++ l.flatMap f
def a5r (x : Ast) : List UInt8 := J4 U8 x.q ++ (J4 U8 x.v ++ (a2t x.power ++ a6j (IntKind.i64.wrap (x.holds + 1))))
def a2S (s : Stt) : List UInt8 := a6j s.tick ++ (J4 a5r s.arms ++ (J4 frB s.parts ++ (J4 a4p s.people ++ J4 a2t s.gates)))
def R64 (n : Int) : Prop := -9223372036854775808 <= n /\ n <= 9223372036854775807
theorem b0W (n : Int) : IntKind.u64.wrap n = n % 18446744073709551616 := by simp [IntKind.wrap, IntKind.signed, IntKind.bits]
def Aok (x : Ast) : Prop := R64 x.holds
def Sok (s : Stt) : Prop := R64 s.tick /\ ∀ x ∈ s.arms, Aok x
theorem b1O (u : Nat) : ∀ n, u < 128 ^ n -> 0 < n -> (V7 u).length <= n := by
 induction u using V7.induct with
 | case1 u h => intro n _ hn; rw [a8o h]; simp; omega
 | case2 u h ih =>
  intro n hu hn
  rw [a6m h]
  cases n with
  | zero => omega
  | succ n =>
   cases n with
   | zero => simp at hu; omega
   | succ n =>
    have := ih (n + 1) (by rw [c1Y] at hu; omega) (by omega)
    simpa using this
theorem b0m (u : Nat) (h : u < 18446744073709551616) : (V7 u).length <= 10 := b1O u 10 (c1K h (by decide)) (by decide)
theorem b6N (n : Int) : (a6j n).length <= 10 := b0m _ (by rw [b0W]; omega)
set_option maxRecDepth 10000
set_option maxHeartbeats 4000000
theorem a1V {n : Nat} (h : n < 18446744073709551616) : a6j (n : Int) = V7 n := by
 unfold a6j
 rw [b0W, show ((n : Int) % 18446744073709551616).toNat = n by omega]
theorem b4S (n : Int) : IntKind.u8.wrap n = n % 256 := by simp [IntKind.wrap, IntKind.signed, IntKind.bits]
theorem b9H (u : Nat) (h : u < 128) : IntKind.u8.wrap (u : Int) = ((UInt8.ofNat u).toNat : Int) := by
 rw [b4S, UInt8.toNat_ofNat']
 omega
theorem c1k (u : Nat) (h : u < 18446744073709551616) : IntKind.u8.wrap (Go.bits .or .u64 (Go.bits .and .u64 (u : Int) 127) 128) = ((UInt8.ofNat (u % 128 + 128)).toNat : Int) := by
 have h1 : Go.bits .and .u64 (u : Int) 127 = ((u % 128 : Nat) : Int) := by
  have := bits_and_u64_nat u 127 h (by omega)
  rw [show (127 : Nat) = 2 ^ 7 - 1 from rfl, Nat.and_two_pow_sub_one_eq_mod] at this
  exact this
 have h2 : Go.bits .or .u64 ((u % 128 : Nat) : Int) 128 = ((u % 128 + 128 : Nat) : Int) := by
  have := bits_or_u64_nat (u % 128) 128 (by omega) (by omega)
  have h3 : u % 128 ||| 128 = u % 128 + 128 := by
   have := Nat.two_pow_add_eq_or_of_lt (i := 7) (b := u % 128) (by omega) 1
   simp at this
   rw [Nat.or_comm, <- this]
   omega
  rw [h3] at this
  exact this
 rw [h1, h2, b4S, UInt8.toNat_ofNat']
 omega
theorem b6h {u : Nat} : ((u : Int).fdiv 128) = ((u / 128 : Nat) : Int) := by
 rw [Int.fdiv_eq_ediv_of_nonneg _ (by omega)]
 omega
theorem b4H (x : UInt8) : V5 [[C.v (.int .u8 (x.toNat : Int))]] = some [x] := P8 [x]
theorem a3h {α β : Type} (f : α -> List β) {l : List α} {i : Nat} (h : i < l.length) : (l.take (i + 1)).flatMap f = (l.take i).flatMap f ++ f l[i] := by
 rw [c2g h, List.flatMap_append]
 simp
theorem a4D {α β : Type} (f : α -> List β) {l : List α} {i : Nat} (h : i < l.length) : ((l.take i).flatMap f).length + (f l[i]).length <= (l.flatMap f).length := by
 have := a3h f h
 have h2 : l.flatMap f = (l.take (i + 1)).flatMap f ++ (l.drop (i + 1)).flatMap f := by rw [<- List.flatMap_append, List.take_append_drop]
 rw [h2, this]
 simp only [c1s]
 omega
theorem b9K {α β : Type} (f : α -> List β) {l : List α} {z : α} (h : z ∈ l) : (f z).length <= (l.flatMap f).length := by
 obtain ⟨i, hi, rfl⟩ := List.getElem_of_mem h
 have := a4D f hi
 omega
theorem a2B {α : Type} (f : α -> List UInt8) {l : List α} {z : α} (h : z ∈ l) {m : Nat} (hm : (J4 f l).length <= m) : (f z).length <= m := by
 have := b9K f h
 unfold J4 at hm
 rw [c1s] at hm
 omega
theorem a2C (n : Int) : u7 Tryz.prog 124 [ints n] (sb (a6j n)) := by
 refine kS Tryz.func124 (by cbv) (by rfl) fun w O => ?_
 simp only [j6, ints]
 have hu0 : 0 <= IntKind.u64.wrap n /\ IntKind.u64.wrap n < 18446744073709551616 := by rw [b0W]; omega
 have hint : a6j n = V7 (IntKind.u64.wrap n).toNat := rfl
 rw [hint]
 obtain ⟨u0, hu⟩ : ∃ u0 : Nat, IntKind.u64.wrap n = (u0 : Int) := ⟨(IntKind.u64.wrap n).toNat, by omega⟩
 rw [hu] at hu0 ⊢
 rw [c1u]
 have hl0 := b0m u0 (by omega)
 (repeat first | refine uA ?_ | (refine uK ?_ ?_; focus first | omega | trivial | (intros; simp_all <;> omega)) | simp (disch := omega) only [go_sem, Nat.reduceBEq, Nat.reduceAdd, Nat.reduceLeDiff, Int.reduceToNat, Int.reducePow, ww, hu])
 refine S.loop (X := Nat × List UInt8) (fun p => ⟨[(3, sb p.2), (4, .v (.int .u64 p.1))], []⟩)
  (fun p => V7 u0 = p.2 ++ V7 p.1 /\ p.1 < 18446744073709551616) (fun p => p.1) (u0, []) ⟨rfl, by simp only; omega⟩ (by (repeat first | refine uA ?_ | (refine ⟨?_, ?_⟩; focus first | rfl | trivial | (simp [slot]; done)) | rfl | trivial | simp)) ?_
 rintro ⟨u, done⟩ ⟨hxs, hlt⟩
 simp only [sb] at hxs hlt ⊢
 have hlen : done.length + (V7 u).length <= 10 := by
  have := congrArg List.length hxs
  simp at this
  omega
 (repeat first | refine uA ?_ | (refine uK ?_ ?_; focus first | omega | trivial | (intros; simp_all <;> omega)) | simp (disch := omega) only [go_sem, Nat.reduceBEq, Nat.reduceAdd, Nat.reduceLeDiff, Int.reduceToNat, Int.reducePow, ww])
 (refine uJ rfl (fun hc => ?_) fun hc => ?_)
 ·have hge : u < 128 := by omega
  rw [a8o hge] at hxs
  (repeat first | refine uA ?_ | (refine uK ?_ ?_; focus first | omega | trivial | (intros; simp_all <;> omega)) | simp (disch := omega) only [go_sem, Nat.reduceBEq, Nat.reduceAdd, Nat.reduceLeDiff, Int.reduceToNat, Int.reducePow, ww, b4H, a1T, u6, Z9, b9H u hge, c1M, List.length_nil])
  rw [hxs]
  exact S.done (j3.out rfl (Imp.refl rfl) rfl)
 ·have hge : ¬ u < 128 := by omega
  rw [a6m hge] at hxs
  have hg1 := a6m hge
  rw [hg1, c1M] at hlen
  (repeat first | refine uA ?_ | (refine uK ?_ ?_; focus first | omega | trivial | (intros; simp_all <;> omega)) | simp (disch := omega) only [go_sem, Nat.reduceBEq, Nat.reduceAdd, Nat.reduceLeDiff, Int.reduceToNat, Int.reducePow, ww, b4H, a1T, u6, Z9, c1k u hlt, b6h, c1M, List.length_nil])
  refine S.next (x := (u, done)) (u / 128, done ++ [UInt8.ofNat (u % 128 + 128)]) ⟨by rw [hxs]; simp, by simp only; omega⟩ (by simp only; omega) (by (repeat first | refine uA ?_ | (refine ⟨?_, ?_⟩; focus first | rfl | trivial | (simp [slot]; done)) | rfl | trivial | simp))
theorem a5k (b : Bool) : u7 Tryz.prog 203 [.v (.bool b)] (sb (a2t b)) := by
 refine kS Tryz.func203 (by cbv) (by rfl) fun w O => ?_
 simp only [j6]
 (repeat first | refine uA ?_ | (refine uK ?_ ?_; focus first | omega | trivial | (intros; simp_all <;> omega)) | simp (disch := omega) only [go_sem, Nat.reduceBEq, Nat.reduceAdd, Nat.reduceLeDiff, Int.reduceToNat, Int.reducePow, ww])
 refine S.cond rfl (fun hc => ?_) (fun hc => ?_)
 ·subst hc
  (repeat first | refine uA ?_ | (refine uK ?_ ?_; focus first | omega | trivial | (intros; simp_all <;> omega)) | simp (disch := omega) only [go_sem, Nat.reduceBEq, Nat.reduceAdd, Nat.reduceLeDiff, Int.reduceToNat, Int.reducePow, ww])
  exact S.done (j3.out rfl (Imp.refl rfl) rfl)
 ·subst hc
  (repeat first | refine uA ?_ | (refine uK ?_ ?_; focus first | omega | trivial | (intros; simp_all <;> omega)) | simp (disch := omega) only [go_sem, Nat.reduceBEq, Nat.reduceAdd, Nat.reduceLeDiff, Int.reduceToNat, Int.reducePow, ww])
  exact S.done (j3.out rfl (Imp.refl rfl) rfl)
theorem b2Y (s : List UInt8) (hl : (a4O s).length <= 140737488355328) : u7 Tryz.prog 108 [sb s] (sb (a4O s)) := by
 refine kS Tryz.func108 (by cbv) (by rfl) fun w O => ?_
 unfold a4O at hl ⊢
 rw [c1s] at hl
 have h1 := a2C s.length
 rw [a1V (by omega)] at h1
 simp only [j6]
 simp only [sb, ints] at *
 (repeat first | refine uA ?_ | (refine uK ?_ ?_; focus first | omega | trivial | (intros; simp_all <;> omega)) | simp (disch := omega) only [go_sem, Nat.reduceBEq, Nat.reduceAdd, Nat.reduceLeDiff, Int.reduceToNat, Int.reducePow, ww, u6, Z9, c1s] | (refine uB h1 ?_ ?_; exact rfl))
 exact S.done (j3.out rfl (Imp.refl rfl) rfl)
theorem a2F (a : Nm.Rt) (hl : (U8 a).length <= 140737488355328) : u7 Tryz.prog 104 [rc a] (sb (U8 a)) := by
 refine kS Tryz.func104 (by cbv) (by rfl) fun w O => ?_
 unfold U8 at hl ⊢
 simp only [c1s] at hl
 have h1 := a5k a.neg
 have h2 := b2Y a.num (by omega)
 have h3 := b2Y a.den (by omega)
 simp only [j6]
 simp only [rc, sb] at *
 (repeat first | refine uA ?_ | (refine uK ?_ ?_; focus first | omega | trivial | (intros; simp_all <;> omega)) | simp (disch := omega) only [go_sem, Nat.reduceBEq, Nat.reduceAdd, Nat.reduceLeDiff, Int.reduceToNat, Int.reducePow, ww, u6, Z9, c1s, c1T] | (refine uB h1 ?_ ?_; exact rfl) | (refine uB h2 ?_ ?_; exact rfl) | (refine uB h3 ?_ ?_; exact rfl))
 exact S.done (j3.out rfl (Imp.refl rfl) rfl)
theorem b1o (v : Vt) (hl : (a4p v).length <= 140737488355328) : u7 Tryz.prog 118 [v.c] (sb (a4p v)) := by
 refine kS Tryz.func118 (by cbv) (by rfl) fun w O => ?_
 unfold a4p at hl ⊢
 simp only [c1s] at hl
 have h1 := a2F v.x (by omega)
 have h2 := a2F v.y (by omega)
 generalize U8 v.x = r1 at *
 generalize U8 v.y = r2 at *
 simp only [j6]
 simp only [Vt.c, Vt.enc, rc, sb] at *
 (repeat first | refine uA ?_ | (refine uK ?_ ?_; focus first | omega | trivial | (intros; simp_all <;> omega)) | simp (disch := omega) only [go_sem, Nat.reduceBEq, Nat.reduceAdd, Nat.reduceLeDiff, Int.reduceToNat, Int.reducePow, ww, u6, Z9, c1s] | (refine uB h1 ?_ ?_; exact rfl) | (refine uB h2 ?_ ?_; exact rfl))
 exact S.done (j3.out rfl (Imp.refl rfl) rfl)
theorem b4d (f : Fr) (hl : (frB f).length <= 140737488355328) : u7 Tryz.prog 109 [f.c] (sb (frB f)) := by
 refine kS Tryz.func109 (by cbv) (by rfl) fun w O => ?_
 unfold frB at hl ⊢
 simp only [c1s] at hl
 have h1 := b1o ⟨f.x, f.y⟩ (show (U8 f.x ++ U8 f.y).length <= _ by rw [c1s]; omega)
 have h2 := a5k f.half
 have h3 := a2F f.t (by omega)
 unfold a4p at h1
 generalize U8 f.x = r1 at *
 generalize U8 f.y = r2 at *
 generalize U8 f.t = r3 at *
 simp only [j6]
 simp only [Fr.c, Fr.enc, Vt.c, Vt.enc, rc, sb] at *
 (repeat first | refine uA ?_ | (refine uK ?_ ?_; focus first | omega | trivial | (intros; simp_all <;> omega)) | simp (disch := omega) only [go_sem, Nat.reduceBEq, Nat.reduceAdd, Nat.reduceLeDiff, Int.reduceToNat, Int.reducePow, ww, u6, Z9, c1s, c1T] | (refine uB h1 ?_ ?_; exact rfl) | (refine uB h2 ?_ ?_; exact rfl) | (refine uB h3 ?_ ?_; exact rfl))
 exact S.done (j3.out rfl (Imp.refl rfl) rfl)
theorem a6N (g : Nat) (hcal : callable Tryz.prog g = true) (f : Nm.Rt -> List UInt8) (l : List Nm.Rt) (hl : (J4 f l).length <= 140737488355328) (hn : l.length <= 1099511627776) (hg : ∀ x ∈ l, u7 Tryz.prog g [rc x] (sb (f x))) :
  u7 Tryz.prog 125 [rts l, .v (.func (.func g) #[] #[])] (sb (J4 f l)) := by
 refine kS Tryz.func125 (by cbv) (by rfl) fun w O => ?_
 unfold J4 at hl ⊢
 rw [c1s] at hl
 have h1 := a2C l.length
 rw [a1V (by omega)] at h1
 simp only [j6, rts]
 simp only [sb, ints] at h1 hg ⊢
 generalize V7 l.length = d at *
 (repeat first | refine uA ?_ | (refine uK ?_ ?_; focus first | omega | trivial | (intros; simp_all <;> omega)) | simp (disch := omega) only [go_sem, Nat.reduceBEq, Nat.reduceAdd, Nat.reduceLeDiff, Int.reduceToNat, Int.reducePow, ww, c1q] | (refine uB h1 ?_ ?_; exact rfl))
 refine S.loop (X := Nat) (fun i => ⟨[(1, .v (.func (.func g) #[] #[])), (5, sb (d ++ (l.take i).flatMap f)), (11, rts l), (12, ints l.length), (13, ints i)], []⟩)
  (fun i => i <= l.length) (fun i => l.length - i) 0 (c1y _) (by simp only [List.take_zero, List.flatMap_nil, List.append_nil]; exact (by (repeat first | refine uA ?_ | (refine ⟨?_, ?_⟩; focus first | rfl | trivial | (simp [slot]; done)) | rfl | trivial | simp))) ?_
 intro i hi
 simp only [rts, sb, ints] at hi ⊢
 (repeat first | refine uA ?_ | (refine uK ?_ ?_; focus first | omega | trivial | (intros; simp_all <;> omega)) | simp (disch := omega) only [go_sem, Nat.reduceBEq, Nat.reduceAdd, Nat.reduceLeDiff, Int.reduceToNat, Int.reducePow, ww])
 (refine uJ rfl (fun hc => ?_) fun hc => ?_)
 ·have hi' : i < l.length := by omega
  have hgi := c1p hi'
  have hfm := a3h f hi'
  have hle := a4D f hi'
  generalize l[i] = x at hgi hfm hle
  have hs := hg x (c1t hgi)
  (try simp only [rc, rcs, sb] at hs)
  (repeat first | refine uA ?_ | (refine uK ?_ ?_; focus first | omega | trivial | (intros; simp_all <;> omega)) | simp (disch := omega) only [go_sem, Nat.reduceBEq, Nat.reduceAdd, Nat.reduceLeDiff, Int.reduceToNat, Int.reducePow, ww, hgi, c1r, c1q, rc, rcs, sb, c1u, hcal, u6, Z9, c1s, c1T] | (refine uB hs ?_ ?_; exact rfl))
  refine S.next (i + 1) (by omega) (by omega) (by rw [hfm]; exact (by (repeat first | refine uA ?_ | (refine ⟨?_, ?_⟩; focus first | rfl | trivial | (simp [slot]; done)) | rfl | trivial | simp)))
 ·have hi' : i = l.length := by omega
  subst hi'
  rw [c1L]
  (repeat first | refine uA ?_ | (refine uK ?_ ?_; focus first | omega | trivial | (intros; simp_all <;> omega)) | simp (disch := omega) only [go_sem, Nat.reduceBEq, Nat.reduceAdd, Nat.reduceLeDiff, Int.reduceToNat, Int.reducePow, ww])
  exact S.done (j3.out rfl (Imp.refl rfl) rfl)
theorem b2d (g : Nat) (hcal : callable Tryz.prog g = true) (f : Ast -> List UInt8) (l : List Ast) (hl : (J4 f l).length <= 140737488355328) (hn : l.length <= 1099511627776) (hg : ∀ x ∈ l, u7 Tryz.prog g [x.c] (sb (f x))) :
  u7 Tryz.prog 206 [F5 l, .v (.func (.func g) #[] #[])] (sb (J4 f l)) := by
 refine kS Tryz.func206 (by cbv) (by rfl) fun w O => ?_
 unfold J4 at hl ⊢
 rw [c1s] at hl
 have h1 := a2C l.length
 rw [a1V (by omega)] at h1
 simp only [j6, F5]
 simp only [sb, ints] at h1 hg ⊢
 generalize V7 l.length = d at *
 (repeat first | refine uA ?_ | (refine uK ?_ ?_; focus first | omega | trivial | (intros; simp_all <;> omega)) | simp (disch := omega) only [go_sem, Nat.reduceBEq, Nat.reduceAdd, Nat.reduceLeDiff, Int.reduceToNat, Int.reducePow, ww, c1q] | (refine uB h1 ?_ ?_; exact rfl))
 refine S.loop (X := Nat) (fun i => ⟨[(1, .v (.func (.func g) #[] #[])), (5, sb (d ++ (l.take i).flatMap f)), (11, F5 l), (12, ints l.length), (13, ints i)], []⟩)
  (fun i => i <= l.length) (fun i => l.length - i) 0 (c1y _) (by simp only [List.take_zero, List.flatMap_nil, List.append_nil]; exact (by (repeat first | refine uA ?_ | (refine ⟨?_, ?_⟩; focus first | rfl | trivial | (simp [slot]; done)) | rfl | trivial | simp))) ?_
 intro i hi
 simp only [F5, sb, ints] at hi ⊢
 (repeat first | refine uA ?_ | (refine uK ?_ ?_; focus first | omega | trivial | (intros; simp_all <;> omega)) | simp (disch := omega) only [go_sem, Nat.reduceBEq, Nat.reduceAdd, Nat.reduceLeDiff, Int.reduceToNat, Int.reducePow, ww])
 (refine uJ rfl (fun hc => ?_) fun hc => ?_)
 ·have hi' : i < l.length := by omega
  have hgi := c1p hi'
  have hfm := a3h f hi'
  have hle := a4D f hi'
  generalize l[i] = x at hgi hfm hle
  have hs := hg x (c1t hgi)
  (try simp only [Ast.c, Ast.enc, rts, sb, ints] at hs)
  (repeat first | refine uA ?_ | (refine uK ?_ ?_; focus first | omega | trivial | (intros; simp_all <;> omega)) | simp (disch := omega) only [go_sem, Nat.reduceBEq, Nat.reduceAdd, Nat.reduceLeDiff, Int.reduceToNat, Int.reducePow, ww, hgi, c1r, c1q, Ast.c, Ast.enc, rts, sb, ints, c1u, hcal, u6, Z9, c1s, c1T] | (refine uB hs ?_ ?_; exact rfl))
  refine S.next (i + 1) (by omega) (by omega) (by rw [hfm]; exact (by (repeat first | refine uA ?_ | (refine ⟨?_, ?_⟩; focus first | rfl | trivial | (simp [slot]; done)) | rfl | trivial | simp)))
 ·have hi' : i = l.length := by omega
  subst hi'
  rw [c1L]
  (repeat first | refine uA ?_ | (refine uK ?_ ?_; focus first | omega | trivial | (intros; simp_all <;> omega)) | simp (disch := omega) only [go_sem, Nat.reduceBEq, Nat.reduceAdd, Nat.reduceLeDiff, Int.reduceToNat, Int.reducePow, ww])
  exact S.done (j3.out rfl (Imp.refl rfl) rfl)
theorem b3L (g : Nat) (hcal : callable Tryz.prog g = true) (f : Fr -> List UInt8) (l : List Fr) (hl : (J4 f l).length <= 140737488355328) (hn : l.length <= 1099511627776) (hg : ∀ x ∈ l, u7 Tryz.prog g [x.c] (sb (f x))) :
  u7 Tryz.prog 207 [frs l, .v (.func (.func g) #[] #[])] (sb (J4 f l)) := by
 refine kS Tryz.func207 (by cbv) (by rfl) fun w O => ?_
 unfold J4 at hl ⊢
 rw [c1s] at hl
 have h1 := a2C l.length
 rw [a1V (by omega)] at h1
 simp only [j6, frs]
 simp only [sb, ints] at h1 hg ⊢
 generalize V7 l.length = d at *
 (repeat first | refine uA ?_ | (refine uK ?_ ?_; focus first | omega | trivial | (intros; simp_all <;> omega)) | simp (disch := omega) only [go_sem, Nat.reduceBEq, Nat.reduceAdd, Nat.reduceLeDiff, Int.reduceToNat, Int.reducePow, ww, c1q] | (refine uB h1 ?_ ?_; exact rfl))
 refine S.loop (X := Nat) (fun i => ⟨[(1, .v (.func (.func g) #[] #[])), (5, sb (d ++ (l.take i).flatMap f)), (11, frs l), (12, ints l.length), (13, ints i)], []⟩)
  (fun i => i <= l.length) (fun i => l.length - i) 0 (c1y _) (by simp only [List.take_zero, List.flatMap_nil, List.append_nil]; exact (by (repeat first | refine uA ?_ | (refine ⟨?_, ?_⟩; focus first | rfl | trivial | (simp [slot]; done)) | rfl | trivial | simp))) ?_
 intro i hi
 simp only [frs, sb, ints] at hi ⊢
 (repeat first | refine uA ?_ | (refine uK ?_ ?_; focus first | omega | trivial | (intros; simp_all <;> omega)) | simp (disch := omega) only [go_sem, Nat.reduceBEq, Nat.reduceAdd, Nat.reduceLeDiff, Int.reduceToNat, Int.reducePow, ww])
 (refine uJ rfl (fun hc => ?_) fun hc => ?_)
 ·have hi' : i < l.length := by omega
  have hgi := c1p hi'
  have hfm := a3h f hi'
  have hle := a4D f hi'
  generalize l[i] = x at hgi hfm hle
  have hs := hg x (c1t hgi)
  (try simp only [Fr.c, Fr.enc, sb] at hs)
  (repeat first | refine uA ?_ | (refine uK ?_ ?_; focus first | omega | trivial | (intros; simp_all <;> omega)) | simp (disch := omega) only [go_sem, Nat.reduceBEq, Nat.reduceAdd, Nat.reduceLeDiff, Int.reduceToNat, Int.reducePow, ww, hgi, c1r, c1q, Fr.c, Fr.enc, sb, c1u, hcal, u6, Z9, c1s, c1T] | (refine uB hs ?_ ?_; exact rfl))
  refine S.next (i + 1) (by omega) (by omega) (by rw [hfm]; exact (by (repeat first | refine uA ?_ | (refine ⟨?_, ?_⟩; focus first | rfl | trivial | (simp [slot]; done)) | rfl | trivial | simp)))
 ·have hi' : i = l.length := by omega
  subst hi'
  rw [c1L]
  (repeat first | refine uA ?_ | (refine uK ?_ ?_; focus first | omega | trivial | (intros; simp_all <;> omega)) | simp (disch := omega) only [go_sem, Nat.reduceBEq, Nat.reduceAdd, Nat.reduceLeDiff, Int.reduceToNat, Int.reducePow, ww])
  exact S.done (j3.out rfl (Imp.refl rfl) rfl)
theorem b1V (g : Nat) (hcal : callable Tryz.prog g = true) (f : Vt -> List UInt8) (l : List Vt) (hl : (J4 f l).length <= 140737488355328) (hn : l.length <= 1099511627776) (hg : ∀ x ∈ l, u7 Tryz.prog g [x.c] (sb (f x))) :
  u7 Tryz.prog 204 [vts l, .v (.func (.func g) #[] #[])] (sb (J4 f l)) := by
 refine kS Tryz.func204 (by cbv) (by rfl) fun w O => ?_
 unfold J4 at hl ⊢
 rw [c1s] at hl
 have h1 := a2C l.length
 rw [a1V (by omega)] at h1
 simp only [j6, vts]
 simp only [sb, ints] at h1 hg ⊢
 generalize V7 l.length = d at *
 (repeat first | refine uA ?_ | (refine uK ?_ ?_; focus first | omega | trivial | (intros; simp_all <;> omega)) | simp (disch := omega) only [go_sem, Nat.reduceBEq, Nat.reduceAdd, Nat.reduceLeDiff, Int.reduceToNat, Int.reducePow, ww, c1q] | (refine uB h1 ?_ ?_; exact rfl))
 refine S.loop (X := Nat) (fun i => ⟨[(1, .v (.func (.func g) #[] #[])), (5, sb (d ++ (l.take i).flatMap f)), (11, vts l), (12, ints l.length), (13, ints i)], []⟩)
  (fun i => i <= l.length) (fun i => l.length - i) 0 (c1y _) (by simp only [List.take_zero, List.flatMap_nil, List.append_nil]; exact (by (repeat first | refine uA ?_ | (refine ⟨?_, ?_⟩; focus first | rfl | trivial | (simp [slot]; done)) | rfl | trivial | simp))) ?_
 intro i hi
 simp only [vts, sb, ints] at hi ⊢
 (repeat first | refine uA ?_ | (refine uK ?_ ?_; focus first | omega | trivial | (intros; simp_all <;> omega)) | simp (disch := omega) only [go_sem, Nat.reduceBEq, Nat.reduceAdd, Nat.reduceLeDiff, Int.reduceToNat, Int.reducePow, ww])
 (refine uJ rfl (fun hc => ?_) fun hc => ?_)
 ·have hi' : i < l.length := by omega
  have hgi := c1p hi'
  have hfm := a3h f hi'
  have hle := a4D f hi'
  generalize l[i] = x at hgi hfm hle
  have hs := hg x (c1t hgi)
  (try simp only [Vt.c, Vt.enc, sb] at hs)
  (repeat first | refine uA ?_ | (refine uK ?_ ?_; focus first | omega | trivial | (intros; simp_all <;> omega)) | simp (disch := omega) only [go_sem, Nat.reduceBEq, Nat.reduceAdd, Nat.reduceLeDiff, Int.reduceToNat, Int.reducePow, ww, hgi, c1r, c1q, Vt.c, Vt.enc, sb, c1u, hcal, u6, Z9, c1s, c1T] | (refine uB hs ?_ ?_; exact rfl))
  refine S.next (i + 1) (by omega) (by omega) (by rw [hfm]; exact (by (repeat first | refine uA ?_ | (refine ⟨?_, ?_⟩; focus first | rfl | trivial | (simp [slot]; done)) | rfl | trivial | simp)))
 ·have hi' : i = l.length := by omega
  subst hi'
  rw [c1L]
  (repeat first | refine uA ?_ | (refine uK ?_ ?_; focus first | omega | trivial | (intros; simp_all <;> omega)) | simp (disch := omega) only [go_sem, Nat.reduceBEq, Nat.reduceAdd, Nat.reduceLeDiff, Int.reduceToNat, Int.reducePow, ww])
  exact S.done (j3.out rfl (Imp.refl rfl) rfl)
theorem b1h (g : Nat) (hcal : callable Tryz.prog g = true) (f : Bool -> List UInt8) (l : List Bool) (hl : (J4 f l).length <= 140737488355328) (hn : l.length <= 1099511627776) (hg : ∀ x ∈ l, u7 Tryz.prog g [.v (.bool x)] (sb (f x))) :
  u7 Tryz.prog 208 [bls l, .v (.func (.func g) #[] #[])] (sb (J4 f l)) := by
 refine kS Tryz.func208 (by cbv) (by rfl) fun w O => ?_
 unfold J4 at hl ⊢
 rw [c1s] at hl
 have h1 := a2C l.length
 rw [a1V (by omega)] at h1
 simp only [j6, bls]
 simp only [sb, ints] at h1 hg ⊢
 generalize V7 l.length = d at *
 (repeat first | refine uA ?_ | (refine uK ?_ ?_; focus first | omega | trivial | (intros; simp_all <;> omega)) | simp (disch := omega) only [go_sem, Nat.reduceBEq, Nat.reduceAdd, Nat.reduceLeDiff, Int.reduceToNat, Int.reducePow, ww, c1q] | (refine uB h1 ?_ ?_; exact rfl))
 refine S.loop (X := Nat) (fun i => ⟨[(1, .v (.func (.func g) #[] #[])), (5, sb (d ++ (l.take i).flatMap f)), (11, bls l), (12, ints l.length), (13, ints i)], []⟩)
  (fun i => i <= l.length) (fun i => l.length - i) 0 (c1y _) (by simp only [List.take_zero, List.flatMap_nil, List.append_nil]; exact (by (repeat first | refine uA ?_ | (refine ⟨?_, ?_⟩; focus first | rfl | trivial | (simp [slot]; done)) | rfl | trivial | simp))) ?_
 intro i hi
 simp only [bls, sb, ints] at hi ⊢
 (repeat first | refine uA ?_ | (refine uK ?_ ?_; focus first | omega | trivial | (intros; simp_all <;> omega)) | simp (disch := omega) only [go_sem, Nat.reduceBEq, Nat.reduceAdd, Nat.reduceLeDiff, Int.reduceToNat, Int.reducePow, ww])
 (refine uJ rfl (fun hc => ?_) fun hc => ?_)
 ·have hi' : i < l.length := by omega
  have hgi := c1p hi'
  have hfm := a3h f hi'
  have hle := a4D f hi'
  generalize l[i] = x at hgi hfm hle
  have hs := hg x (c1t hgi)
  (try simp only [sb] at hs)
  (repeat first | refine uA ?_ | (refine uK ?_ ?_; focus first | omega | trivial | (intros; simp_all <;> omega)) | simp (disch := omega) only [go_sem, Nat.reduceBEq, Nat.reduceAdd, Nat.reduceLeDiff, Int.reduceToNat, Int.reducePow, ww, hgi, c1r, c1q, sb, c1u, hcal, u6, Z9, c1s, c1T] | (refine uB hs ?_ ?_; exact rfl))
  refine S.next (i + 1) (by omega) (by omega) (by rw [hfm]; exact (by (repeat first | refine uA ?_ | (refine ⟨?_, ?_⟩; focus first | rfl | trivial | (simp [slot]; done)) | rfl | trivial | simp)))
 ·have hi' : i = l.length := by omega
  subst hi'
  rw [c1L]
  (repeat first | refine uA ?_ | (refine uK ?_ ?_; focus first | omega | trivial | (intros; simp_all <;> omega)) | simp (disch := omega) only [go_sem, Nat.reduceBEq, Nat.reduceAdd, Nat.reduceLeDiff, Int.reduceToNat, Int.reducePow, ww])
  exact S.done (j3.out rfl (Imp.refl rfl) rfl)
theorem b9u (x : Ast) (hl : (a5r x).length <= 140737488355328) (hq : Rbs 1073741824 x.q) (hv : Rbs 1073741824 x.v) : u7 Tryz.prog 205 [x.c] (sb (a5r x)) := by
 refine kS Tryz.func205 (by cbv) (by rfl) fun w O => ?_
 unfold a5r at hl ⊢
 simp only [c1s] at hl
 have n1 := hq.1
 have n2 := hv.1
 have h1 := a6N 104 (by kernel_rfl) U8 x.q (by omega) (by omega) (fun z hz => a2F z (a2B U8 hz (by omega)))
 have h2 := a6N 104 (by kernel_rfl) U8 x.v (by omega) (by omega) (fun z hz => a2F z (a2B U8 hz (by omega)))
 have h3 := a5k x.power
 have h4 := a2C (IntKind.i64.wrap (x.holds + 1))
 obtain ⟨q, v, power, holds⟩ := x
 generalize J4 U8 q = r1 at *
 generalize J4 U8 v = r2 at *
 generalize a2t power = r3 at *
 simp only [j6]
 simp only [Ast.c, Ast.enc, rts, sb, ints] at h1 h2 h3 h4 hl n1 n2 ⊢
 (repeat first | refine uA ?_ | (refine uK ?_ ?_; focus first | omega | trivial | (intros; simp_all <;> omega)) | simp (disch := omega) only [go_sem, Nat.reduceBEq, Nat.reduceAdd, Nat.reduceLeDiff, Int.reduceToNat, Int.reducePow, ww, u6, Z9, c1s, c1T] | (refine uB h1 ?_ ?_; exact rfl) | (refine uB h2 ?_ ?_; exact rfl) | (refine uB h3 ?_ ?_; exact rfl) | (refine uB h4 ?_ ?_; exact rfl))
 exact S.done (j3.out rfl (Imp.refl rfl) rfl)
structure Stw (s : Stt) : Prop where
 arms : s.arms.length <= 1073741824 /\ ∀ x ∈ s.arms, Asb 1073741824 x
 parts : s.parts.length <= 1073741824
 people : s.people.length <= 1073741824
 gates : s.gates.length <= 1073741824
theorem Stb.w {s : Stt} (h : Stb 1073741824 s) : Stw s := ⟨h.arms, h.parts.1, h.people.1, h.gates⟩
theorem b1q (s : Stt) (hs : Stw s) (hl : (a2S s).length <= 140737488355328) : u7 Tryz.prog 119 [s.c] (sb (a2S s)) := by
 refine kS Tryz.func119 (by cbv) (by rfl) fun w O => ?_
 unfold a2S at hl ⊢
 simp only [c1s] at hl
 have n1 := hs.arms.1
 have n2 := hs.parts
 have n3 := hs.people
 have n4 := hs.gates
 have h1 := a2C s.tick
 have h2 := b2d 205 (by kernel_rfl) a5r s.arms (by omega) (by omega) (fun z hz => b9u z (a2B a5r hz (by omega)) (hs.arms.2 z hz).1 (hs.arms.2 z hz).2)
 have h3 := b3L 109 (by kernel_rfl) frB s.parts (by omega) (by omega) (fun z hz => b4d z (a2B frB hz (by omega)))
 have h4 := b1V 118 (by kernel_rfl) a4p s.people (by omega) (by omega) (fun z hz => b1o z (a2B a4p hz (by omega)))
 have h5 := b1h 203 (by kernel_rfl) a2t s.gates (by omega) (by omega) (fun z _ => a5k z)
 obtain ⟨tick, arms, parts, people, gates⟩ := s
 generalize J4 a5r arms = r2 at *
 generalize J4 frB parts = r3 at *
 generalize J4 a4p people = r4 at *
 generalize J4 a2t gates = r5 at *
 simp only [j6]
 simp only [Stt.c, Stt.enc, F5, frs, vts, bls, sb, ints] at h1 h2 h3 h4 h5 hl ⊢
 (repeat first | refine uA ?_ | (refine uK ?_ ?_; focus first | omega | trivial | (intros; simp_all <;> omega)) | simp (disch := omega) only [go_sem, Nat.reduceBEq, Nat.reduceAdd, Nat.reduceLeDiff, Int.reduceToNat, Int.reducePow, ww, u6, Z9, c1s, c1T] | (refine uB h1 ?_ ?_; exact rfl) | (refine uB h2 ?_ ?_; exact rfl) | (refine uB h3 ?_ ?_; exact rfl) | (refine uB h4 ?_ ?_; exact rfl) | (refine uB h5 ?_ ?_; exact rfl))
 exact S.done (j3.out rfl (Imp.refl rfl) rfl)
theorem a6Z (s t : Stt) (hs : Stw s) (ht : Stw t) (hl : (a2S s).length <= 140737488355328) (hm : (a2S t).length <= 140737488355328) : u7 Tryz.prog 41 [s.c, t.c] (.v (.bool (decide (a2S s = a2S t)))) := by
 refine kS Tryz.func41 (by cbv) (by rfl) fun w O => ?_
 have h1 := b1q s hs hl
 have h2 := b1q t ht hm
 generalize a2S s = r1 at *
 generalize a2S t = r2 at *
 simp only [j6]
 simp only [Stt.c, Stt.enc, sb] at *
 (repeat first | refine uA ?_ | (refine uK ?_ ?_; focus first | omega | trivial | (intros; simp_all <;> omega)) | simp (disch := omega) only [go_sem, Nat.reduceBEq, Nat.reduceAdd, Nat.reduceLeDiff, Int.reduceToNat, Int.reducePow, ww, a5a] | (refine uB h1 ?_ ?_; exact rfl) | (refine uB h2 ?_ ?_; exact rfl))
 exact S.done (j3.out rfl (Imp.refl rfl) rfl)
end Go.Proofs.YtogfpjohjphngaaGreatDoor
