/- A part of the proof: lemmas only, with the conditions that each names. -/
import Derived.Test.YtogfpjohjphngaaGreatDoorProg
import Derived.KernelRfl
import Derived.Shelf.Strings.SlTrimAscii
import Derived.Test.YtogfpjohjphngaaGreatDoorPk4
set_option linter.all false
namespace Go.Proofs.YtogfpjohjphngaaGreatDoor
open Go Go.RowKit Eng
set_option maxRecDepth 100000
set_option maxHeartbeats 8000000
theorem b2F (q : Rat) : Nm.ofQ (C8 q) = ⟨false, Nm.enc q.num.natAbs, Nm.enc q.den⟩ := by
 unfold C8
 by_cases h : q.num < 0
 ·rw [if_pos h, a8a]
  simp [h]
 ·rw [if_neg h]
  unfold Nm.ofQ
  rw [decide_eq_false h]
theorem a3m (a : Nm.Rt) (ha : Rb 17179869184 a) : FZ 75 [rc a] (rq (C8 (Nm.j3 a))) := by
 unfold rq
 rw [b2F]
 exact b9Q a ha
theorem a1Q {k : Nat} {p : Rat} (h : Rb k (Nm.ofQ p)) : Rb k (Nm.ofQ (C8 p)) := by rw [b2F]; exact h
theorem b6w (a : Nm.Rt) (ha : Rb 68719476736 a) : FZ 211 [rc a] (.v (.bool (!F5 a))) := by
 refine kW Tryz.func211 (by cbv) (by rfl) fun w O hw => ?_
 have h := a0z a ha
 unfold F5
 generalize decide a.D6 = q at *
 simp only [j6]
 simp only [rc, sb] at *
 (repeat first | refine uA ?_ | (refine uK ?_ ?_; focus first | omega | (intros; simp_all <;> omega)) | simp (disch := omega) only [go_sem, Nat.reduceBEq, Nat.reduceAdd, ww] | (refine uD h ?_ ?_ ?_; exact tz hw; exact rfl))
 exact S.done (d9.out rfl (Imp.refl rfl) rfl)
theorem a6A (l : List Nm.Rt) (hl : Rbs 68719476736 l) : FZ 139 [rts l] (.v (.bool (l.all F5))) := by
 refine kW Tryz.func139 (by cbv) (by rfl) fun w O hw => ?_
 have h := a7m 211 (by kernel_rfl) (fun a => !F5 a) l (by have := hl.1; omega) (fun a ha => b6w a (hl.2 a ha))
 have e : l.all F5 = !l.any fun a => !F5 a := by rw [List.not_any_eq_all_not]; simp
 rw [e]
 generalize (l.any fun a => !F5 a) = q at *
 simp only [j6]
 simp only [rts] at *
 (repeat first | refine uA ?_ | (refine uK ?_ ?_; focus first | omega | (intros; simp_all <;> omega)) | simp (disch := omega) only [go_sem, Nat.reduceBEq, Nat.reduceAdd, ww] | (refine uD h ?_ ?_ ?_; exact tz hw; exact rfl))
 exact S.done (d9.out rfl (Imp.refl rfl) rfl)
theorem b6m (f : Fr) (hf : Fb 17179869184 f) : FZ 136 [f.c] (.v (.bool (a0a f))) := by
 refine kW Tryz.func136 (by cbv) (by rfl) fun w O hw => ?_
 obtain ⟨x, y, half, t⟩ := f
 obtain ⟨b1, b2, b3⟩ := hf
 simp only at b1 b2 b3
 have h1 := a6A _ (Rbs.three (by decide) (b1.mono (m := 68719476736) (by decide)) (b2.mono (m := 68719476736) (by decide)) (b3.mono (m := 68719476736) (by decide)))
 rw [a4j] at h1
 have h4 := K8 t b3
 unfold a0a a1R
 simp only
 generalize (F5 x && F5 y && F5 t) = q1 at *
 generalize r9 (Nm.j3 t) = n at *
 simp only [j6]
 simp only [Fr.c, Fr.enc, rts, rcs, rc, sb, ints, c1R, c2d] at *
 (repeat first | refine uA ?_ | (refine uK ?_ ?_; focus first | omega | (intros; simp_all <;> omega)) | simp (disch := omega) only [go_sem, Nat.reduceBEq, Nat.reduceAdd, ww] | (refine uD h4 ?_ ?_ ?_; exact tz hw; exact rfl) | (refine uE h1 ?_ ?_ ?_ ?_; exact tz hw; exact rfl; focus (repeat' first | exact j5.nil | exact Imp.refl rfl | exact Imp.frz rfl rfl rfl | (refine Imp.M5 rfl rfl ?_ ?_; (focus ((try simp only [c1C]); omega)); (focus first | rfl | assumption)) | refine j5.cons ?_ ?_); done))
 have e : (q1 && !(half && !decide (n = 0))) = (q1 && (!half || decide (n = 0))) := by cases q1 <;> cases half <;> simp
 rw [e]
 exact S.done (d9.out rfl (Imp.refl (by rfl)) rfl)
theorem b9i (f : Fr) (hf : Fb 17179869184 f) : FZ 135 [f.c] (.v (.bool (!a0a f))) := by
 refine kW Tryz.func135 (by cbv) (by rfl) fun w O hw => ?_
 have h := b6m f hf
 generalize a0a f = q at *
 simp only [j6]
 simp only [Fr.c, Fr.enc, sb] at *
 (repeat first | refine uA ?_ | (refine uK ?_ ?_; focus first | omega | (intros; simp_all <;> omega)) | simp (disch := omega) only [go_sem, Nat.reduceBEq, Nat.reduceAdd, ww] | (refine uD h ?_ ?_ ?_; exact tz hw; exact rfl))
 exact S.done (d9.out rfl (Imp.refl rfl) rfl)
theorem b8y (v : Vt) (hv : Vb 68719476736 v) : FZ 138 [v.c] (.v (.bool (!a2f v))) := by
 refine kW Tryz.func138 (by cbv) (by rfl) fun w O hw => ?_
 have h := a6A _ (Rbs.two (by decide) hv.1 hv.2)
 rw [a4N] at h
 unfold a2f
 generalize (F5 v.x && F5 v.y) = q at *
 simp only [j6]
 simp only [Vt.c, Vt.enc, rts, rcs, sb, c1R, c2d] at *
 (repeat first | refine uA ?_ | (refine uK ?_ ?_; focus first | omega | (intros; simp_all <;> omega)) | simp (disch := omega) only [go_sem, Nat.reduceBEq, Nat.reduceAdd, ww] | (refine uE h ?_ ?_ ?_ ?_; exact tz hw; exact rfl; focus (repeat' first | exact j5.nil | exact Imp.refl rfl | exact Imp.frz rfl rfl rfl | (refine Imp.M5 rfl rfl ?_ ?_; (focus ((try simp only [c1C]); omega)); (focus first | rfl | assumption)) | refine j5.cons ?_ ?_); done))
 exact S.done (d9.out rfl (Imp.refl rfl) rfl)
theorem b4T {a : Am} {q : List Nm.Rt} (h : a1n a q = 0) : q.length = a.links.length := by
 unfold a1n at h
 split at h
 ·rename_i h1; exact absurd h h1
 ·split at h
  ·cases h
  ·rename_i h2; exact Classical.not_not.1 h2
theorem c0S (a : Am) (x : Ast) (parts : Nat) (ha : Ab 1073741824 a) (hx : Asb 1073741824 x) (hp : parts <= 1073741824) : FZ 133 [a.c, x.c, .v (.int .i64 (parts : Int))] (ints (a1f a x parts)) := by
 refine kW Tryz.func133 (by cbv) (by rfl) fun w O hw => ?_
 have h1 := a6A x.q ⟨by have := hx.1.1; omega, fun r hr => (hx.1.2 r hr).mono (by decide)⟩
 have h2 := a6A x.v ⟨by have := hx.2.1; omega, fun r hr => (hx.2.2 r hr).mono (by decide)⟩
 have h3 := b5O a x.q ha hx.1
 have hln := b4T (a := a) (q := x.q)
 unfold a1f
 generalize a1n a x.q = e at *
 obtain ⟨q, v, power, holds⟩ := x
 simp only at h1 h2 h3 hln ⊢
 generalize q.all F5 = g1 at *
 generalize v.all F5 = g2 at *
 obtain ⟨hvn, hvb⟩ := hx.2
 obtain ⟨name, ⟨bx, by', half, t⟩, links⟩ := a
 obtain ⟨b0, ⟨b1, b2, b3⟩, hn, hb⟩ := ha
 simp only at b0 b1 b2 b3 hn hb hln hvn hvb ⊢
 simp only [j6]
 simp only [Am.c, Am.enc, Ast.c, Ast.enc, lks, rts, sb, ints] at *
 (repeat first | refine uA ?_ | (refine uK ?_ ?_; focus first | omega | (intros; simp_all <;> omega)) | simp (disch := omega) only [go_sem, Nat.reduceBEq, Nat.reduceAdd, ww] | (refine uD h1 ?_ ?_ ?_; exact tz hw; exact rfl) | (refine uD h2 ?_ ?_ ?_; exact tz hw; exact rfl))
 refine S.cond rfl (fun hc => ?_) (fun hc => ?_)
 ·rw [if_pos (by cases g1 <;> cases g2 <;> simp_all)]
  (repeat first | refine uA ?_ | (refine uK ?_ ?_; focus first | omega | (intros; simp_all <;> omega)) | simp (disch := omega) only [go_sem, Nat.reduceBEq, Nat.reduceAdd, ww])
  exact S.done (d9.out rfl (Imp.refl rfl) rfl)
 rw [if_neg (by cases g1 <;> cases g2 <;> simp_all)]
 (repeat first | refine uA ?_ | (refine uK ?_ ?_; focus first | omega | (intros; simp_all <;> omega)) | simp (disch := omega) only [go_sem, Nat.reduceBEq, Nat.reduceAdd, ww] | (refine uD h3 ?_ ?_ ?_; exact tz hw; exact rfl))
 refine S.cond rfl (fun hc => ?_) (fun hc => ?_)
 ·rw [if_pos (by simpa using hc)]
  (repeat first | refine uA ?_ | (refine uK ?_ ?_; focus first | omega | (intros; simp_all <;> omega)) | simp (disch := omega) only [go_sem, Nat.reduceBEq, Nat.reduceAdd, ww])
  exact S.done (d9.out rfl (Imp.refl rfl) rfl)
 rw [if_neg (by simpa using hc)]
 have hln := hln (by simpa using hc)
 (repeat first | refine uA ?_ | (refine uK ?_ ?_; focus first | omega | (intros; simp_all <;> omega)) | simp (disch := omega) only [go_sem, Nat.reduceBEq, Nat.reduceAdd, ww, c1y])
 refine S.cond rfl (fun hc => ?_) (fun hc => ?_)
 ·rw [if_pos (by simp only [c1X, Bool.not_eq_true', c1D, c1E] at hc; omega)]
  (repeat first | refine uA ?_ | (refine uK ?_ ?_; focus first | omega | (intros; simp_all <;> omega)) | simp (disch := omega) only [go_sem, Nat.reduceBEq, Nat.reduceAdd, ww])
  exact S.done (d9.out rfl (Imp.refl rfl) rfl)
 rw [if_neg (by simp only [c1L, Bool.not_eq_false', c1D, c1E] at hc; omega)]
 have hvl : v.length = links.length := by simp only [c1L, Bool.not_eq_false', c1D, c1E] at hc; omega
 (repeat first | refine uA ?_ | (refine uK ?_ ?_; focus first | omega | (intros; simp_all <;> omega)) | simp (disch := omega) only [go_sem, Nat.reduceBEq, Nat.reduceAdd, ww, c1y])
 refine S.loop (X := Nat) (fun i => ⟨[(4, .bp 1 0), (46, lks links), (47, ints links.length), (48, ints i)], [.gone, .box 90 [rts q, rts v, .v (.bool power), ints holds]]⟩) (fun i => i <= links.length /\ E5 V7 (links.zip v) = E5 V7 ((links.zip v).drop i)) (fun i => links.length - i) 0 ⟨c1H _, rfl⟩ (by (repeat first | refine uA ?_ | (refine ⟨?_, ?_⟩; focus first | rfl | simp [slot]) | rfl | simp)) ?_
 rintro i ⟨hi, hg⟩
 simp only [lks, ints, rts]
 (repeat first | refine uA ?_ | (refine uK ?_ ?_; focus first | omega | (intros; simp_all <;> omega)) | simp (disch := omega) only [go_sem, Nat.reduceBEq, Nat.reduceAdd, ww])
 (refine uJ rfl (fun hc => ?_) fun hc => ?_)
 ·have hi' : i < links.length := by omega
  have hgi := c1x hi'
  have hgv := c1x (show i < v.length by omega)
  generalize links[i] = l at hgi
  generalize v[i]'_ = r at hgv
  have hz := K5 hgi hgv
  have hst := a0i (f := V7) hz
  have hnx := a0m (f := V7) hz
  have bl := hb l (c1A hgi)
  have br := (hvb r (c1A hgv)).mono (m := 17179869184) (by decide)
  have o1 := a3m r br
  have o2 := N8 (Nm.ofQ (C8 (Nm.j3 r))) l.speed (a1Q (br.fit (by decide))) (bl.2.2.2.1.mono (by decide))
  rw [Nm.E9] at o2
  unfold V7 at hst hnx
  simp only at hst hnx
  generalize Nm.q8 (C8 (Nm.j3 r)) (Nm.j3 l.speed) = n1 at *
  unfold rq at o1
  generalize Nm.ofQ (C8 (Nm.j3 r)) = ar at *
  have hvi : (i : Int) < v.length := by omega
  simp only [rc, sb, ints] at o1 o2
  (repeat first | refine uA ?_ | (refine uK ?_ ?_; focus first | omega | (intros; simp_all <;> omega)) | simp (disch := omega) only [go_sem, Nat.reduceBEq, Nat.reduceAdd, ww, hgi, hgv, c1z, c1y, Lk.enc, rcs, vts, sb, c1B] | (refine uD o1 ?_ ?_ ?_; exact tz hw; exact rfl) | (refine uD o2 ?_ ?_ ?_; exact tz hw; exact rfl))
  refine S.cond rfl (fun hc2 => ?_) (fun hc2 => ?_)
  ·have hp : 0 < n1 := by simpa using hc2
   rw [if_pos hp] at hst
   rw [hg, show V7 = fun x : Lk × Nm.Rt => if 0 < Nm.q8 (C8 (Nm.j3 x.2)) (Nm.j3 x.1.speed) then 1 else 0 from rfl, hst (by decide)]
   (repeat first | refine uA ?_ | (refine uK ?_ ?_; focus first | omega | (intros; simp_all <;> omega)) | simp (disch := omega) only [go_sem, Nat.reduceBEq, Nat.reduceAdd, ww])
   exact S.done (d9.out rfl (Imp.refl rfl) rfl)
  ·have hp : ¬ 0 < n1 := by simpa using hc2
   rw [if_neg hp] at hnx
   (repeat first | refine uA ?_ | (refine uK ?_ ?_; focus first | omega | (intros; simp_all <;> omega)) | simp (disch := omega) only [go_sem, Nat.reduceBEq, Nat.reduceAdd, ww])
   refine S.next (i + 1) ⟨by omega, ?_⟩ (by omega) (by (repeat first | refine uA ?_ | (refine ⟨?_, ?_⟩; focus first | rfl | simp [slot]) | rfl | simp))
   rw [hg, show V7 = fun x : Lk × Nm.Rt => if 0 < Nm.q8 (C8 (Nm.j3 x.2)) (Nm.j3 x.1.speed) then 1 else 0 from rfl, hnx rfl]
 ·rw [hg, a0G (by rw [List.length_zip]; omega)]
  (repeat first | refine uA ?_ | (refine uK ?_ ?_; focus first | omega | (intros; simp_all <;> omega)) | simp (disch := omega) only [go_sem, Nat.reduceBEq, Nat.reduceAdd, ww])
  exact S.done (d9.out rfl (Imp.refl rfl) rfl)
set_option maxHeartbeats 16000000
theorem c0H (h : List Int) (n : Int) : (a0U (.int .i64 n) (hdE h)).getD (.bool false) = .bool (h.contains n) := by
 rw [b9h]; cases h.contains n <;> rfl
theorem b3j {α : Type} (p : α -> Bool) (l : List α) : l.all p = !l.any fun x => !p x := by rw [List.not_any_eq_all_not]; simp
theorem b0X (w : Wk) (s : Stt) (hb : Wb 1073741824 w) (hs : Stb 1073741824 s) : FZ 38 [w.c, s.c] (ints (I4 w s)) := by
 refine kW Tryz.func38 (by cbv) (by rfl) fun w' O hw => ?_
 have hwk := b6l w hb
 obtain ⟨⟨n1, b1⟩, ⟨n2, b2⟩, ⟨n3, b3⟩, n4⟩ := hs
 have hone := fun (a : Am) (x : Ast) (ha : a ∈ w.arms) (hx : x ∈ s.arms) => c0S a x w.parts.length (hb.arms.2 a ha) (b1 x hx) (by have := hb.parts.1; omega)
 have hfr := b3Z 135 (by kernel_rfl) (fun f => !a0a f) s.parts (by omega) (fun f hf => b9i f ⟨(b2 f hf).1.mono (by decide), (b2 f hf).2.1.mono (by decide), (b2 f hf).2.2.mono (by decide)⟩)
 have hvc := b1e 138 (by kernel_rfl) (fun v => !a2f v) s.people (by omega) (fun v hv => b8y v ((b3 v hv).mono (by decide)))
 have m1 := hb.arms.1
 have m2 := hb.parts.1
 have m3 := hb.gates.1
 unfold I4
 rw [b3j a0a, b3j a2f]
 generalize Y0 w = e0 at *
 generalize (s.parts.any fun f => !a0a f) = g1 at *
 generalize (s.people.any fun v => !a2f v) = g2 at *
 obtain ⟨arms, walls, parts, slots, gates, walk⟩ := w
 obtain ⟨tick, sarms, sparts, people, sgates⟩ := s
 simp only at *
 simp only [j6]
 simp only [Wk.c, Wk.enc, Stt.c, Stt.enc, ams, wls, pts, sls, gts, D8, frs, vts, bls, sb, ints] at hwk hfr hvc ⊢
 (repeat first | refine uA ?_ | (refine uK ?_ ?_; focus first | omega | (intros; simp_all <;> omega)) | simp (disch := omega) only [go_sem, Nat.reduceBEq, Nat.reduceAdd, ww] | (refine uD hwk ?_ ?_ ?_; exact tz hw; exact rfl))
 refine S.cond rfl (fun hc => ?_) (fun hc => ?_)
 ·rw [if_pos (by simpa using hc)]
  (repeat first | refine uA ?_ | (refine uK ?_ ?_; focus first | omega | (intros; simp_all <;> omega)) | simp (disch := omega) only [go_sem, Nat.reduceBEq, Nat.reduceAdd, ww])
  exact S.done (d9.out rfl (Imp.refl rfl) rfl)
 rw [if_neg (by simpa using hc)]
 (repeat first | refine uA ?_ | (refine uK ?_ ?_; focus first | omega | (intros; simp_all <;> omega)) | simp (disch := omega) only [go_sem, Nat.reduceBEq, Nat.reduceAdd, ww, c1y])
 refine S.cond rfl (fun hc => ?_) (fun hc => ?_)
 ·rw [if_pos (by simp only [c1D] at hc; omega)]
  (repeat first | refine uA ?_ | (refine uK ?_ ?_; focus first | omega | (intros; simp_all <;> omega)) | simp (disch := omega) only [go_sem, Nat.reduceBEq, Nat.reduceAdd, ww])
  exact S.done (d9.out rfl (Imp.refl rfl) rfl)
 rw [if_neg (by simp only [c1E] at hc; omega)]
 (repeat first | refine uA ?_ | (refine uK ?_ ?_; focus first | omega | (intros; simp_all <;> omega)) | simp (disch := omega) only [go_sem, Nat.reduceBEq, Nat.reduceAdd, ww, c1y])
 refine S.cond rfl (fun hc => ?_) (fun hc => ?_)
 ·rw [if_pos (by simp only [c1X, Bool.not_eq_true', c1D, c1E] at hc; omega)]
  (repeat first | refine uA ?_ | (refine uK ?_ ?_; focus first | omega | (intros; simp_all <;> omega)) | simp (disch := omega) only [go_sem, Nat.reduceBEq, Nat.reduceAdd, ww])
  exact S.done (d9.out rfl (Imp.refl rfl) rfl)
 have hls : sarms.length = arms.length := by simp only [c1L, Bool.not_eq_false', c1D, c1E] at hc; omega
 rw [if_neg (by simp only [c1L, Bool.not_eq_false', c1D, c1E] at hc; omega)]
 (repeat first | refine uA ?_ | (refine uK ?_ ?_; focus first | omega | (intros; simp_all <;> omega)) | simp (disch := omega) only [go_sem, Nat.reduceBEq, Nat.reduceAdd, ww, c1y])
 refine S.loop (X := Nat × List Int) (fun x => ⟨[(2, .bp 0 0), (3, .bp 1 0), (6, .mp 2), (56, D8 sarms), (57, ints sarms.length), (58, ints x.1)], [.box 31 [ams arms, wls walls, pts parts, sls slots, gts gates, .v (.bool walk.neg), sb walk.num, sb walk.den], .box 37 [ints tick, D8 sarms, frs sparts, vts people, bls sgates], .map false (hdE x.2)]⟩)
  (fun x => x.1 <= sarms.length /\ C9 (X7 parts.length) [] (arms.zip sarms) = C9 (X7 parts.length) x.2 ((arms.zip sarms).drop x.1)) (fun x => sarms.length - x.1) (0, []) ⟨c1H _, rfl⟩ (by (repeat first | refine uA ?_ | (refine ⟨?_, ?_⟩; focus first | rfl | simp [slot]) | rfl | simp)) ?_
 rintro ⟨i, h⟩ ⟨hi, hg⟩
 simp only [ams, wls, pts, sls, gts, D8, frs, vts, bls, sb, ints] at hi hg ⊢
 (repeat first | refine uA ?_ | (refine uK ?_ ?_; focus first | omega | (intros; simp_all <;> omega)) | simp (disch := omega) only [go_sem, Nat.reduceBEq, Nat.reduceAdd, ww])
 (refine uJ rfl (fun hc => ?_) fun hc => ?_)
 ·have hgx := c1x (show i < sarms.length by omega)
  have hga := c1x (show i < arms.length by omega)
  generalize sarms[i]'_ = x at hgx
  generalize arms[i]'_ = a at hga
  have hz := K5 hga hgx
  have hst := U1 (f := X7 parts.length) (s := h) hz
  have hnx := S9 (f := X7 parts.length) (s := h) hz
  have ho := hone a x (c1A hga) (c1A hgx)
  have hlk := c0H h x.holds
  have hpt := b9r h x.holds
  have hai : (i : Int) < arms.length := by omega
  have hv : X7 parts.length h (a, x) = if a1f a x parts.length ≠ 0 then (a1f a x parts.length, h) else if (decide (0 <= x.holds) && h.contains x.holds) = true then (10, h) else (0, a1V h x.holds) := rfl
  rw [hv] at hst hnx
  clear hv
  generalize a1f a x parts.length = e1 at *
  generalize h.contains x.holds = c1 at *
  simp only [Am.c, Am.enc, Ast.c, Ast.enc, lks, rts, sb, ints] at ho
  (repeat first | refine uA ?_ | (refine uK ?_ ?_; focus first | omega | (intros; simp_all <;> omega)) | simp (disch := omega) only [go_sem, Nat.reduceBEq, Nat.reduceAdd, ww, hga, hgx, c1z, c1y, Am.enc, Ast.enc, lks, rts, sb, ints, c1B] | (refine uD ho ?_ ?_ ?_; exact tz hw; exact rfl))
  refine S.cond rfl (fun hc2 => ?_) (fun hc2 => ?_)
  ·have h0 : e1 ≠ 0 := by simpa using hc2
   rw [if_pos h0] at hst
   rw [hg, hst h0, if_pos h0]
   (repeat first | refine uA ?_ | (refine uK ?_ ?_; focus first | omega | (intros; simp_all <;> omega)) | simp (disch := omega) only [go_sem, Nat.reduceBEq, Nat.reduceAdd, ww])
   exact S.done (d9.out rfl (Imp.refl rfl) rfl)
  have h0 : e1 = 0 := by simpa using hc2
  rw [if_neg (by simp [h0])] at hst hnx
  (repeat first | refine uA ?_ | (refine uK ?_ ?_; focus first | omega | (intros; simp_all <;> omega)) | simp (disch := omega) only [go_sem, Nat.reduceBEq, Nat.reduceAdd, ww, hlk])
  refine S.cond rfl (fun hc3 => ?_) (fun hc3 => ?_)
  ·rw [if_pos hc3] at hst
   rw [hg, hst (by simp), if_pos (by simp)]
   (repeat first | refine uA ?_ | (refine uK ?_ ?_; focus first | omega | (intros; simp_all <;> omega)) | simp (disch := omega) only [go_sem, Nat.reduceBEq, Nat.reduceAdd, ww])
   exact S.done (d9.out rfl (Imp.refl rfl) rfl)
  ·rw [if_neg (by rw [hc3]; decide)] at hnx
   (repeat first | refine uA ?_ | (refine uK ?_ ?_; focus first | omega | (intros; simp_all <;> omega)) | simp (disch := omega) only [go_sem, Nat.reduceBEq, Nat.reduceAdd, ww, hpt])
   refine S.next (x := (i, h)) (i + 1, a1V h x.holds) ⟨by simp only; omega, by simp only; rw [hg, hnx rfl]⟩ (by simp only; omega) (by (repeat first | refine uA ?_ | (refine ⟨?_, ?_⟩; focus first | rfl | simp [slot]) | rfl | simp))
 ·rw [hg, X8 (by rw [List.length_zip]; omega), if_neg (by simp)]
  (repeat first | refine uA ?_ | (refine uK ?_ ?_; focus first | omega | (intros; simp_all <;> omega)) | simp (disch := omega) only [go_sem, Nat.reduceBEq, Nat.reduceAdd, ww] | (refine uD hfr ?_ ?_ ?_; exact tz hw; exact rfl) | (refine uD hvc ?_ ?_ ?_; exact tz hw; exact rfl))
  refine S.cond rfl (fun hc => ?_) (fun hc => ?_)
  ·rw [if_neg (by cases g1 <;> cases g2 <;> simp_all)]
   (repeat first | refine uA ?_ | (refine uK ?_ ?_; focus first | omega | (intros; simp_all <;> omega)) | simp (disch := omega) only [go_sem, Nat.reduceBEq, Nat.reduceAdd, ww])
   exact S.done (d9.out rfl (Imp.refl rfl) rfl)
  ·rw [if_pos (by cases g1 <;> cases g2 <;> simp_all)]
   (repeat first | refine uA ?_ | (refine uK ?_ ?_; focus first | omega | (intros; simp_all <;> omega)) | simp (disch := omega) only [go_sem, Nat.reduceBEq, Nat.reduceAdd, ww])
   exact S.done (d9.out rfl (Imp.refl rfl) rfl)
theorem M6 : Rb 8 (Nm.ofQ 0) := ⟨Nm.F4 (by decide), Nm.F4 (by decide)⟩
theorem a9T : FZ 71 [.v (.int .i64 0)] (rq 0) := by
 have := a1y 0 (by decide) (by decide)
 rwa [show ((0 : Int) : Rat) = 0 from rfl] at this
theorem b2C : FZ 154 [] a0f.c := by
 refine kW Tryz.func154 (by cbv) (by rfl) fun w O hw => ?_
 have h1 := a9T
 have h2 := a4Y (Nm.ofQ 0) (M6.mono (by decide))
 rw [Nm.E9] at h2
 unfold tq rq at *
 unfold a0f
 generalize Nm.ofQ 0 = r at *
 simp only [j6]
 simp only [Fr.c, Fr.enc, rc, tc, sb] at *
 (repeat first | refine uA ?_ | (refine uK ?_ ?_; focus first | omega | (intros; simp_all <;> omega)) | simp (disch := omega) only [go_sem, Nat.reduceBEq, Nat.reduceAdd, ww] | (refine uD h1 ?_ ?_ ?_; exact tz hw; exact rfl) | (refine uD h2 ?_ ?_ ?_; exact tz hw; exact rfl))
 (refine S.done ?_; simp only [p8, l7, go_sem, Nat.reduceBEq, Nat.reduceAdd, Nat.reduceLeDiff, Int.reduceToNat, Int.reducePow]; (repeat (refine ⟨?_, ?_⟩; focus first | trivial | omega | simp)); exact d9.out rfl (Imp.refl rfl) rfl)
open Go Eng
def c0G : List Nat := [150]
def c1b (f : Nat) : Bool := c0G.contains f
set_option maxHeartbeats 8000000
theorem b5b {b v : Rat} (h : 0 < r9 b) (hv : r9 v = 0) : Nm.q8 (C8 v) b <= 0 := by
 have h1 := a5N b
 have h2 := a5N v
 have h3 : v = 0 := by
  rcases h2 with h2 | h2 | h2
  ·omega
  ·exact h2.2
  ·omega
 have h4 : 0 < b := by
  rcases h1 with h1 | h1 | h1
  ·omega
  ·omega
  ·exact h1.2
 have h5 : ¬ 0 < Nm.q8 (C8 v) b := fun h => by
  have := (O6 _ _).1 h
  rw [h3, show C8 0 = 0 from rfl] at this
  grind
 omega
theorem b6U (b v : Nm.Rt) (hb : Rb 1073741824 b) (hv : Rb 1073741824 v) (h : 0 < r9 (Nm.j3 b)) : FZ 235 [rc b, rc v] (rc (a1z b v)) := by
 refine kW Tryz.func235 (by cbv) (by rfl) fun w O hw => ?_
 have o1 := K8 b (hb.mono (by decide))
 have o2 := a3m v (hv.mono (by decide))
 have o3 := N8 (Nm.ofQ (C8 (Nm.j3 v))) b (a1Q ((hv.mono (m := 17179869184) (by decide)).fit (by decide))) (hb.mono (by decide))
 rw [Nm.E9] at o3
 have o4 := a9T
 have o5 := K8 v (hv.mono (by decide))
 have o6 := a5P v b (hv.mono (by decide)) (hb.mono (by decide))
 have o7 := a2c v b (hv.mono (by decide)) (hb.mono (by decide))
 have hz := b5b (v := Nm.j3 v) h
 have hs := a5N (Nm.j3 v)
 unfold a1z a3R
 generalize Nm.q8 (C8 (Nm.j3 v)) (Nm.j3 b) = c at *
 generalize r9 (Nm.j3 b) = s1 at *
 generalize r9 (Nm.j3 v) = s2 at *
 unfold rq at *
 generalize Nm.ofQ (C8 (Nm.j3 v)) = av at *
 generalize Nm.ofQ (Nm.j3 v - Nm.j3 b) = d at *
 generalize Nm.ofQ (Nm.j3 v + Nm.j3 b) = e at *
 generalize Nm.ofQ 0 = z at *
 simp only [j6]
 simp only [rc, sb, ints] at *
 (repeat first | refine uA ?_ | (refine uK ?_ ?_; focus first | omega | (intros; simp_all <;> omega)) | simp (disch := omega) only [go_sem, Nat.reduceBEq, Nat.reduceAdd, ww] | (refine uD o1 ?_ ?_ ?_; exact tz hw; exact rfl) | (refine uD o2 ?_ ?_ ?_; exact tz hw; exact rfl) | (refine uD o3 ?_ ?_ ?_; exact tz hw; exact rfl))
 refine S.cond rfl (fun hc => ?_) (fun hc => ?_)
 ·rw [if_pos (by simp only [c1X, c1D] at hc; omega)]
  (repeat first | refine uA ?_ | (refine uK ?_ ?_; focus first | omega | (intros; simp_all <;> omega)) | simp (disch := omega) only [go_sem, Nat.reduceBEq, Nat.reduceAdd, ww] | (refine uD o4 ?_ ?_ ?_; exact tz hw; exact rfl))
  (refine S.done ?_; simp only [p8, l7, go_sem, Nat.reduceBEq, Nat.reduceAdd, Nat.reduceLeDiff, Int.reduceToNat, Int.reducePow]; (repeat (refine ⟨?_, ?_⟩; focus first | trivial | omega | simp)); exact d9.out rfl (Imp.refl rfl) rfl)
 have hc1 : ¬ c <= 0 := by simp only [c1L, c1E] at hc; omega
 rw [if_neg hc1]
 (repeat first | refine uA ?_ | (refine uK ?_ ?_; focus first | omega | (intros; simp_all <;> omega)) | simp (disch := omega) only [go_sem, Nat.reduceBEq, Nat.reduceAdd, ww] | (refine uD o5 ?_ ?_ ?_; exact tz hw; exact rfl))
 refine S.cond rfl (fun hc => ?_) (fun hc => ?_)
 ·rw [if_neg (by simp only [c1D] at hc; omega)]
  (repeat first | refine uA ?_ | (refine uK ?_ ?_; focus first | omega | (intros; simp_all <;> omega)) | simp (disch := omega) only [go_sem, Nat.reduceBEq, Nat.reduceAdd, ww] | (refine uD o6 ?_ ?_ ?_; exact tz hw; exact rfl))
  (refine S.done ?_; simp only [p8, l7, go_sem, Nat.reduceBEq, Nat.reduceAdd, Nat.reduceLeDiff, Int.reduceToNat, Int.reducePow]; (repeat (refine ⟨?_, ?_⟩; focus first | trivial | omega | simp)); exact d9.out rfl (Imp.refl rfl) rfl)
 ·rw [if_pos (by simp only [c1E] at hc; omega)]
  (repeat first | refine uA ?_ | (refine uK ?_ ?_; focus first | omega | (intros; simp_all <;> omega)) | simp (disch := omega) only [go_sem, Nat.reduceBEq, Nat.reduceAdd, ww] | (refine uD o7 ?_ ?_ ?_; exact tz hw; exact rfl))
  (refine S.done ?_; simp only [p8, l7, go_sem, Nat.reduceBEq, Nat.reduceAdd, Nat.reduceLeDiff, Int.reduceToNat, Int.reducePow]; (repeat (refine ⟨?_, ?_⟩; focus first | trivial | omega | simp)); exact d9.out rfl (Imp.refl rfl) rfl)
theorem b8k (a : Am) (q v : List Nm.Rt) (hl : Ab 1073741824 a) (ha : J6 a = 0) (hq : q.length = a.links.length) (hv : v.length = a.links.length) : FZ 234 [a.c, rts q, rts v] (ints 0) := by
 refine kW Tryz.func234 (by cbv) (by rfl) fun w O hw => ?_
 have h := a7y a hl
 rw [ha] at h
 have hn := hl.2.2.1
 obtain ⟨name, ⟨x, y, half, t⟩, links⟩ := a
 simp only at hq hv hn
 simp only [j6]
 simp only [Am.c, Am.enc, lks, rts, sb, ints] at *
 (repeat first | refine uA ?_ | (refine uK ?_ ?_; focus first | omega | (intros; simp_all <;> omega)) | simp (disch := omega) only [go_sem, Nat.reduceBEq, Nat.reduceAdd, ww] | (refine uD h ?_ ?_ ?_; exact tz hw; exact rfl))
 refine S.cond rfl (fun hc => by simp at hc) (fun hc => ?_)
 (repeat first | refine uA ?_ | (refine uK ?_ ?_; focus first | omega | (intros; simp_all <;> omega)) | simp (disch := omega) only [go_sem, Nat.reduceBEq, Nat.reduceAdd, ww, c1y])
 refine S.cond rfl (fun hc => by simp only [c1X, Bool.not_eq_true', c1E] at hc; omega) (fun hc => ?_)
 (repeat first | refine uA ?_ | (refine uK ?_ ?_; focus first | omega | (intros; simp_all <;> omega)) | simp (disch := omega) only [go_sem, Nat.reduceBEq, Nat.reduceAdd, ww])
 exact S.done (d9.out rfl (Imp.refl rfl) rfl)
theorem b8G {a : Am} {x : Ast} {i : Nat} {l : Lk} {q v : Nm.Rt} (h1 : a.links[i]? = some l) (h2 : x.v[i]? = some v) (h3 : x.q[i]? = some q) : (a3b a x)[i]? = some (a1z l.brake v) /\ (a4k a x)[i]? = some (a3R q (a1z l.brake v)) := by
 have h4 : (a3b a x)[i]? = some (a1z l.brake v) := by
  unfold a3b
  rw [c2n, K5 h1 h2]; rfl
 refine ⟨h4, ?_⟩
 unfold a4k
 rw [c2n, K5 h3 h4]; rfl
theorem b7Y {a : Am} {x : Ast} (h1 : x.q.length = a.links.length) (h2 : x.v.length = a.links.length) : (a3b a x).length = a.links.length /\ (a4k a x).length = a.links.length := by
 unfold a4k a3b
 simp only [c1y, List.length_zip]; omega
theorem a6q {α : Type} {l m : List α} {i : Nat} {y : α} (f : α -> List C) (hl : l.length = m.length) (hy : l[i]? = some y) : ((l.take i ++ m.drop i).map f).set i (f y) = (l.take (i + 1) ++ m.drop (i + 1)).map f := by
 rw [<- List.map_set, b8x hl hy]
theorem b8B {α : Type} {l m : List α} {i : Nat} {y : α} (hl : l.length = m.length) (hy : l[i]? = some y) : (l.take (i + 1) ++ m.drop (i + 1))[i]? = some y := by
 obtain ⟨hi, rfl⟩ := c1F.1 hy
 rw [c1K (by rw [c1M]; omega), List.getElem?_take, if_pos (by omega), c1x hi]
theorem b8a {k : Nat} {b v : Nm.Rt} (hk : 8 <= k) (hb : Rb k b) (hv : Rb k v) : Rb (k + k + 1) (a1z b v) := by
 unfold a1z
 split
 ·exact M6.mono (by omega)
 split
 ·exact R5 (hv.fit (by omega)) (hb.fit (by omega))
 ·exact J9 (hv.fit (by omega)) (hb.fit (by omega))
theorem b9f (a : Am) (x : Ast) (hl : Ab 1073741824 a) (hx : Asb 1073741824 x) (ha : J6 a = 0) (hq : x.q.length = a.links.length) (hv : x.v.length = a.links.length) : FZ 216 [a.c, x.c] (.tup [(Ast.mk (a4k a x) (a3b a x) x.power x.holds).c, ints 0]) := by
 refine W9.of (eff := c1b) Tryz.func216 (by cbv) (by exact c1Q rfl) fun w O hw => ?_
 have h := b8k a x.q x.v hl ha hq hv
 have hbr := fun l hl => b3r ((a1N ha).2 l hl)
 have hbg := @b8G a x
 obtain ⟨hVl, hQl⟩ := b7Y hq hv
 have c1 := a3S (x.q.map rcs) (by rw [c1y]; exact hx.1.1)
 have c2 := a3S (x.v.map rcs) (by rw [c1y]; exact hx.2.1)
 generalize a3b a x = V at *
 generalize a4k a x = Q at *
 obtain ⟨hqn, hqb⟩ := hx.1
 obtain ⟨hvn, hvb⟩ := hx.2
 obtain ⟨name, ⟨bx, by', half, t⟩, links⟩ := a
 obtain ⟨q, v, power, holds⟩ := x
 obtain ⟨b0, ⟨b1, b2, b3⟩, hn, hb⟩ := hl
 simp only at hq hv hn hb hbr hqn hqb hvn hvb hVl hQl hbg h c1 c2 ⊢
 simp only [j6]
 simp only [Am.c, Am.enc, Ast.c, Ast.enc, lks, rts, sb, ints] at h c1 c2 ⊢
 (repeat first | refine uA ?_ | (refine uK ?_ ?_; focus first | omega | (intros; simp_all <;> omega)) | simp (disch := omega) only [go_sem, Nat.reduceBEq, Nat.reduceAdd, ww] | (refine uD h ?_ ?_ ?_; exact tz hw; exact rfl))
 refine S.cond rfl (fun hc => by simp at hc) (fun hc => ?_)
 (repeat first | refine uI ?_ | (refine uK ?_ ?_; focus first | omega | (intros; simp_all <;> omega)) | simp (disch := omega) only [go_sem, Nat.reduceBEq, Nat.reduceAdd, ww])
 refine S.U6 [.gone, .box 90 [.sl 3 (q.map rcs), .sl 3 (v.map rcs), .v (.bool power), .v (.int .i64 holds)]] (by simp [Eng.F3, Eng.Y5]) ?_
 (repeat first | refine uA ?_ | (refine uK ?_ ?_; focus first | omega | (intros; simp_all <;> omega)) | simp (disch := omega) only [go_sem, Nat.reduceBEq, Nat.reduceAdd, ww, F3, c1y] | refine l9.t (FNew.t c1 rfl) ?_ | refine l9.t (FNew.t c2 rfl) ?_)
 refine S.loop (X := Nat) (fun i => ⟨[(3, .bp 1 0), (4, .bp 2 0), (7, .bp 5 0), (32, lks links), (33, ints links.length), (34, ints i)], [.gone, .box 90 [.sl 3 (q.map rcs), .sl 3 (v.map rcs), .v (.bool power), .v (.int .i64 holds)], .box 90 [.v (.slice none 0 0), .v (.slice none 0 0), .v (.bool false), .v (.int .i64 0)], .row 29 3 ((Q.take i ++ q.drop i).map rcs), .row 29 3 ((V.take i ++ v.drop i).map rcs), .box 90 [.rv 3, .rv 4, .v (.bool power), .v (.int .i64 holds)]]⟩) (fun i => i <= links.length) (fun i => links.length - i) 0 (c1H _) (by (repeat first | refine uA ?_ | (refine ⟨?_, ?_⟩; focus first | rfl | simp [slot]) | rfl | simp)) ?_
 intro i hi
 simp only [lks, ints]
 (repeat first | refine uA ?_ | (refine uK ?_ ?_; focus first | omega | (intros; simp_all <;> omega)) | simp (disch := omega) only [go_sem, Nat.reduceBEq, Nat.reduceAdd, ww])
 (refine uJ rfl (fun hc => ?_) fun hc => ?_)
 ·have hi' : i < links.length := by omega
  have hgl := c1x hi'
  have hgq := c1x (show i < q.length by omega)
  have hgv := c1x (show i < v.length by omega)
  generalize links[i] = l at hgl
  generalize q[i]'_ = qi at hgq
  generalize v[i]'_ = vi at hgv
  obtain ⟨g1, g2⟩ := hbg hgl hgv hgq
  have bl := hb l (c1A hgl)
  have bv := hvb vi (c1A hgv)
  have bq := hqb qi (c1A hgq)
  have o1 := b6U l.brake vi bl.2.2.2.2.1 bv (hbr l (c1A hgl))
  have o2 := a2c qi (a1z l.brake vi) (bq.mono (by decide)) ((b8a (by decide) bl.2.2.2.2.1 bv).mono (by decide))
  have s1 := a6q rcs (by omega) g1 (m := v)
  have s2 := a6q rcs (by omega) g2 (m := q)
  have s3 := b8B (by omega) g1 (m := v)
  have m1 := a4F (l := V) (m := v) (i := i) (by omega) (by omega)
  have m2 := a4F (l := Q) (m := q) (i := i) (by omega) (by omega)
  have m3 := a4F (l := V) (m := v) (i := i + 1) (by omega) (by omega)
  unfold rq at o2
  unfold a3R at s2
  generalize Nm.ofQ (Nm.j3 qi + Nm.j3 (a1z l.brake vi)) = z at *
  generalize a1z l.brake vi = y at *
  generalize V.take i ++ v.drop i = V0 at *
  generalize hV1 : V.take (i + 1) ++ v.drop (i + 1) = V1 at *
  generalize hQ1 : Q.take (i + 1) ++ q.drop (i + 1) = Q1 at *
  generalize Q.take i ++ q.drop i = Q0 at *
  have e1 : ∃ u, V0[i]? = some u := ⟨_, c1x (show i < V0.length by omega)⟩
  have e2 : ∃ u, Q0[i]? = some u := ⟨_, c1x (show i < Q0.length by omega)⟩
  obtain ⟨u1, e1⟩ := e1
  obtain ⟨u2, e2⟩ := e2
  simp only [rc, rcs, sb] at o1 o2 s1 s2
  (repeat first | refine uA ?_ | (refine uK ?_ ?_; focus first | omega | (intros; simp_all <;> omega)) | simp (disch := omega) only [go_sem, Nat.reduceBEq, Nat.reduceAdd, ww, hgl, hgq, hgv, e1, e2, s1, s2, s3, m1, m2, m3, c1z, c1y, Lk.enc, rcs, vts, sb, c1B] | (refine uD o1 ?_ ?_ ?_; exact tz hw; exact rfl) | (refine uD o2 ?_ ?_ ?_; exact tz hw; exact rfl))
  refine S.next (i + 1) (by omega) (by omega) (by simp only [hV1, hQ1]; exact (by (repeat first | refine uA ?_ | (refine ⟨?_, ?_⟩; focus first | rfl | simp [slot]) | rfl | simp)))
 ·have hi' : i = links.length := by omega
  subst hi'
  rw [show Q.take links.length ++ q.drop links.length = Q by rw [<- hq]; exact mid_end (by omega), show V.take links.length ++ v.drop links.length = V by rw [<- hv]; exact mid_end (by omega)]
  (repeat first | refine uA ?_ | (refine uK ?_ ?_; focus first | omega | (intros; simp_all <;> omega)) | simp (disch := omega) only [go_sem, Nat.reduceBEq, Nat.reduceAdd, ww])
  (refine S.done ?_; simp only [p8, l7, go_sem, Nat.reduceBEq, Nat.reduceAdd, Nat.reduceLeDiff, Int.reduceToNat, Int.reducePow]; (repeat (refine ⟨?_, ?_⟩; focus first | trivial | omega | simp)); exact d9.out rfl (Imp.tup (by (repeat' (first | exact j5.nil | exact Imp.refl rfl | exact Imp.frz rfl rfl rfl | exact Imp.F9 | refine Imp.agg ?_ | refine j5.cons ?_ ?_)))) rfl)
def a6V : a1U := ⟨65, [.tmp 6], .seq (.reg [OA 3 (.box 76 (TT 0)), OA 6 (.mv (.const (.bool false)))]) (.seq (.seq (.reg [MM 10 2, OA 11 (.len false (TT 10)), FF 12 11 3, VV 13 12, OA 14 (.len false (TT 13)), OA 15 (.bin .neq (TT 11) (TT 14))])
 (.cond (TT 15) (.seq (.reg [OA 6 (.mv (.const (.bool false)))]) .ret) .skip)) (.seq (.seq (.reg [FF 16 11 3, VV 17 16, OA 18 (.len false (TT 17)), OA 19 (.mv (II 0))]) (.block 0 (.loop (.seq (.reg [OA 20 (.bin .lss (TT 19) (TT
 18))]) (.seq (.cond (TT 20) .skip (.exit 0)) (.seq (.block 1 (.seq (.reg [MM 21 19, OA 22 (.K3 16 (TT 17) (TT 19)), LL 23 16 22, OA 8 (.alloc 158 [.bool false, .string ⟨#[]⟩, .string ⟨#[]⟩, .bool false, .string ⟨#[]⟩, .string
 ⟨#[]⟩, .bool false, .string ⟨#[]⟩, .string ⟨#[]⟩, .bool false, .string ⟨#[]⟩, .string ⟨#[]⟩, .bool false, .string ⟨#[]⟩, .string ⟨#[]⟩, .slice none 0 0]), MM 7 21, OB (.store 16 (TT 8) (TT 23))]) (.seq (.U6 [.q, .q, .q, .q,
 .q, .q, .q, .q, .q, .a, .e (some 9) true] [MM 24 1, MM 25 7, OA 26 (.K3 3 (TT 24) (TT 25)), LL 27 3 26, MM 28 2, MM 29 7, OA 30 (.K3 3 (TT 28) (TT 29)), LL 31 3 30, OA 32 (.call 16 [TT 27, TT 31]), OA 9 (.alloc 29 [.bool
 false, .string ⟨#[]⟩, .string ⟨#[]⟩]), OB (.store 3 (TT 9) (TT 32))]) (.seq (.U6 [.q, .q, .q, .q, .q, .q, .q, .q, .q, .q, .q, .q, .q, .q, .q, .q, .q, .q, .q, .q, .q, .q, .q, .q, .q, .q, .q, .q, .q, .q, .q] [MM 33 2, MM 34 7,
 OA 35 (.K3 3 (TT 33) (TT 34)), LL 36 3 35, OA 37 (.call 62 [TT 36]), OA 38 (.un .not (TT 37)), MM 39 38, MG 40 2 39 false, MG 41 7 39 false, OC 42 (.K3 3 (TT 40) (TT 41)) 39 false, LG 43 3 42 39 false, OC 44 (.call 75 [TT
 43]) 39 false, FG 45 9 8 39 false, LG 46 3 45 39 false, OC 47 (.call 52 [TT 44, TT 46]) 39 false, OC 48 (.bin .gtr (TT 47) (II 0)) 39 false, OA 49 (.pick (TT 39) (.const (.bool true)) (TT 48)), MM 50 49, LG 51 3 9 50 false, FG
 52 3 8 50 false, LG 53 3 52 50 false, OC 54 (.call 52 [TT 51, TT 53]) 50 false, OC 55 (.bin .lss (TT 54) (II 0)) 50 false, OA 56 (.pick (TT 50) (.const (.bool true)) (TT 55)), MM 57 56, LG 58 3 9 57 false, FG 59 6 8 57 false, LG
 60 3 59 57 false, OC 61 (.call 52 [TT 58, TT 60]) 57 false, OC 62 (.bin .gtr (TT 61) (II 0)) 57 false, OA 63 (.pick (TT 57) (.const (.bool true)) (TT 62))]) (.cond (TT 63) (.seq (.reg [OA 6 (.mv (.const (.bool false)))]) .ret)
 .skip))))) (.reg [OA 64 (.bin .add (TT 19) (II 1)), MM 19 64]))))))) (.seq (.reg [OA 6 (.mv (.const (.bool true)))]) .ret)))⟩
theorem b1Z : a0r eff Tryz.prog Tryz.f215 = some a6V := by kernel_rfl
theorem b1W : Tryz.prog.funcs[215]? = some Tryz.f215 := Tryz.func215
theorem b2J {α β γ : Type} {f : α × β × γ -> Bool} {g : γ -> Bool} : ∀ (l : List α) (q : List β) (u : List γ), q.length = l.length -> u.length = l.length -> (u.all g && (l.zip (q.zip u)).all f) = (l.zip (q.zip u)).all fun x => g x.2.2 && f x
 | [], [], [], _, _ => rfl
 | a :: l, b :: q, c :: u, h1, h2 => by
  have ih := b2J (f := f) (g := g) l q u (by simpa using h1) (by simpa using h2)
  simp only [List.zip_cons_cons, List.all_cons, <- ih]
  cases g c <;> cases u.all g <;> simp
theorem b1r {α : Type} {f : α -> Bool} {l : List α} {i : Nat} {x : α} (h : l[i]? = some x) : (l.drop i).all f = (f x && (l.drop (i + 1)).all f) := by
 rw [drop_at h, List.all_cons]
theorem b6p (p q : Rat) : Nm.q8 p q < 0 <-> 0 < Nm.q8 q p := by rw [a1k, O6]
def b1l (x : Lk × Nm.Rt × Nm.Rt) : Bool := F5 x.2.2 && b7q x
theorem c0x (a : Am) (q u : List Nm.Rt) (hl : Ab 1073741824 a) (hq : Rbs 1073741824 q) (hu : Rbs 1073741824 u) (hql : q.length = a.links.length) : FZ 215 [a.c, rts q, rts u] (.v (.bool (a7e a q u))) := by
  refine kW b1W b1Z (by rfl) fun w O hw => ?_
  obtain ⟨hqn, hqb⟩ := hq
  obtain ⟨hun, hub⟩ := hu
  unfold a7e
  obtain ⟨name, ⟨bx, by', half, t⟩, links⟩ := a
  obtain ⟨b0, ⟨b1, b2, b3⟩, hn, hb⟩ := hl
  simp only at b0 b1 b2 b3 hn hb hql ⊢
  simp only [a6V, j6, TT, II, OA, OB, OC, MM, LL, VV, FF, MG, LG, VG, FG]
  simp only [Am.c, Am.enc, lks, rts, sb, ints]
  (repeat first | refine uA ?_ | (refine uK ?_ ?_; focus first | omega | (intros; simp_all <;> omega)) | simp (disch := omega) only [go_sem, Nat.reduceBEq, Nat.reduceAdd, ww, c1y])
  refine S.cond rfl (fun hc => ?_) (fun hc => ?_)
  · rw [show decide (u.length = links.length) = false from decide_eq_false (by simp only [Bool.not_eq_true', c1E] at hc; omega), Bool.false_and]
    (repeat first | refine uA ?_ | (refine uK ?_ ?_; focus first | omega | (intros; simp_all <;> omega)) | simp (disch := omega) only [go_sem, Nat.reduceBEq, Nat.reduceAdd, ww])
    exact S.done (d9.out rfl (Imp.refl rfl) rfl)
  have hul : u.length = links.length := by simp only [Bool.not_eq_false', c1D] at hc; omega
  rw [decide_eq_true hul, Bool.true_and, b2J links q u hql hul, show (fun x : Lk × Nm.Rt × Nm.Rt => F5 x.2.2 && b7q x) = b1l from rfl]
  (repeat first | refine uA ?_ | (refine uK ?_ ?_; focus first | omega | (intros; simp_all <;> omega)) | simp (disch := omega) only [go_sem, Nat.reduceBEq, Nat.reduceAdd, ww, c1y])
  refine S.loop (X := Nat) (fun i => ⟨[(1, rts q), (2, rts u), (17, lks links), (18, ints links.length), (19, ints i)], []⟩) (fun i => i <= links.length /\ (links.zip (q.zip u)).all b1l = ((links.zip (q.zip u)).drop i).all b1l) (fun i => links.length - i) 0 ⟨c1H _, rfl⟩ (by (repeat first | refine uA ?_ | (refine ⟨?_, ?_⟩; focus first | rfl | simp [slot]) | rfl | simp)) ?_
  rintro i ⟨hi, hg⟩
  simp only [rts, lks, ints]
  (repeat first | refine uA ?_ | (refine uK ?_ ?_; focus first | omega | (intros; simp_all <;> omega)) | simp (disch := omega) only [go_sem, Nat.reduceBEq, Nat.reduceAdd, ww])
  (refine uJ rfl (fun hc => ?_) fun hc => ?_)
  · have hi' : i < links.length := by omega
    have hgl := c1x hi'
    have hgq := c1x (show i < q.length by omega)
    have hgu := c1x (show i < u.length by omega)
    generalize links[i] = l at hgl
    generalize q[i]'_ = qi at hgq
    generalize u[i]'_ = ui at hgu
    have hd := b1r (f := b1l) (K5 hgl (K5 hgq hgu))
    have bl := hb l (c1A hgl)
    have bq := (hqb qi (c1A hgq)).mono (m := 17179869184) (by decide)
    have bu := (hub ui (c1A hgu)).mono (m := 17179869184) (by decide)
    have bz := (R5 ((hqb qi (c1A hgq)).fit (by decide)) ((hub ui (c1A hgu)).fit (by decide))).mono (m := 17179869184) (by decide)
    have o1 := a2c qi ui bq bu
    have o2 := a0z ui (bu.mono (by decide))
    have o3 := a3m ui bu
    have o4 := N8 (Nm.ofQ (C8 (Nm.j3 ui))) l.speed (a1Q (bu.fit (by decide))) (bl.2.2.2.1.mono (by decide))
    have o5 := N8 (Nm.ofQ (Nm.j3 qi + Nm.j3 ui)) l.low bz (bl.2.1.mono (by decide))
    have o6 := N8 (Nm.ofQ (Nm.j3 qi + Nm.j3 ui)) l.high bz (bl.2.2.1.mono (by decide))
    have hsw := b6p (Nm.j3 qi + Nm.j3 ui) (Nm.j3 l.low)
    rw [Nm.E9] at o4 o5 o6
    have hv : b1l (l, qi, ui) = (decide ui.D6 && !(decide (0 < Nm.q8 (C8 (Nm.j3 ui)) (Nm.j3 l.speed)) || decide (0 < Nm.q8 (Nm.j3 l.low) (Nm.j3 qi + Nm.j3 ui)) || decide (0 < Nm.q8 (Nm.j3 qi + Nm.j3 ui) (Nm.j3 l.high)))) := rfl
    rw [hv] at hd
    clear hv
    generalize decide ui.D6 = g at *
    generalize Nm.q8 (C8 (Nm.j3 ui)) (Nm.j3 l.speed) = c1 at *
    generalize Nm.q8 (Nm.j3 l.low) (Nm.j3 qi + Nm.j3 ui) = c2 at *
    generalize Nm.q8 (Nm.j3 qi + Nm.j3 ui) (Nm.j3 l.low) = c3 at *
    generalize Nm.q8 (Nm.j3 qi + Nm.j3 ui) (Nm.j3 l.high) = c4 at *
    unfold rq at o1 o3
    generalize Nm.ofQ (Nm.j3 qi + Nm.j3 ui) = z at *
    generalize Nm.ofQ (C8 (Nm.j3 ui)) = au at *
    have hqi : (i : Int) < q.length := by omega
    have hui : (i : Int) < u.length := by omega
    simp only [rc, sb, ints] at o1 o2 o3 o4 o5 o6
    (repeat first | refine uG o1 ?_ | refine uG o2 ?_ | refine uG o3 ?_ | refine uG o4 ?_ | refine uG o5 ?_ | refine uG o6 ?_ | refine uA ?_ | (refine uK ?_ ?_; focus first | omega | (intros; simp_all <;> omega)) | simp (disch := omega) only [go_sem, Nat.reduceBEq, Nat.reduceAdd, ww, hgl, hgq, hgu, c1z, c1y, Lk.enc, rcs, vts, sb, c1B] | (refine uD o1 ?_ ?_ ?_; exact tz hw; exact rfl) | (refine uD o2 ?_ ?_ ?_; exact tz hw; exact rfl) | (refine uD o3 ?_ ?_ ?_; exact tz hw; exact rfl) | (refine uD o4 ?_ ?_ ?_; exact tz hw; exact rfl) | (refine uD o5 ?_ ?_ ?_; exact tz hw; exact rfl) | (refine uD o6 ?_ ?_ ?_; exact tz hw; exact rfl))
    refine S.cond rfl (fun hc2 => ?_) (fun hc2 => ?_)
    · rw [hg, hd, show (g && !(decide (0 < c1) || decide (0 < c2) || decide (0 < c4))) = false by
        cases g
        · rfl
        · simp only [Bool.not_true, Bool.false_or, c1X, c1D] at hc2
          rw [show (decide (0 < c1) || decide (0 < c2) || decide (0 < c4)) = true by simp only [c1X, c1D]; omega]
          rfl, Bool.false_and]
      (repeat first | refine uA ?_ | (refine uK ?_ ?_; focus first | omega | (intros; simp_all <;> omega)) | simp (disch := omega) only [go_sem, Nat.reduceBEq, Nat.reduceAdd, ww])
      exact S.done (d9.out rfl (Imp.refl rfl) rfl)
    · (repeat first | refine uA ?_ | (refine uK ?_ ?_; focus first | omega | (intros; simp_all <;> omega)) | simp (disch := omega) only [go_sem, Nat.reduceBEq, Nat.reduceAdd, ww])
      refine S.next (i + 1) ⟨by omega, ?_⟩ (by omega) (by (repeat first | refine uA ?_ | (refine ⟨?_, ?_⟩; focus first | rfl | simp [slot]) | rfl | simp))
      rw [hg, hd, show (g && !(decide (0 < c1) || decide (0 < c2) || decide (0 < c4))) = true by
        cases g
        · simp at hc2
        · simp only [Bool.not_true, Bool.false_or, c1L, c1E] at hc2
          rw [show (decide (0 < c1) || decide (0 < c2) || decide (0 < c4)) = false by simp only [c1L, c1E]; omega]
          rfl, Bool.true_and]
  · rw [hg, List.drop_eq_nil_of_le (by simp only [List.length_zip]; omega), List.all_nil]
    (repeat first | refine uA ?_ | (refine uK ?_ ?_; focus first | omega | (intros; simp_all <;> omega)) | simp (disch := omega) only [go_sem, Nat.reduceBEq, Nat.reduceAdd, ww])
    exact S.done (d9.out rfl (Imp.refl rfl) rfl)
theorem b9E {x : Ast} {u : List Nm.Rt} {i : Nat} {q v : Nm.Rt} (h1 : x.q[i]? = some q) (h2 : u[i]? = some v) : (mvQ x u)[i]? = some (a3R q v) := by
 unfold mvQ
 rw [c2n, K5 h1 h2]; rfl
theorem take_at {α : Type} {l : List α} {i : Nat} {x : α} (h : l[i]? = some x) : l.take (i + 1) = l.take i ++ [x] := by
 obtain ⟨hi, rfl⟩ := c1F.1 h
 exact c2o hi
theorem b9Y (a : Am) (x : Ast) (u : List Nm.Rt) (p : Bool) (hl : Ab 1073741824 a) (hx : Asb 1073741824 x) (hu : Rbs 1073741824 u) (ha : J6 a = 0) (hq : x.q.length = a.links.length) (hv : x.v.length = a.links.length) : FZ 159 [a.c, x.c, rts u, .v (.bool p)] (.tup [(a1W a x u p).c, ints 0]) := by
 refine kW Tryz.func159 (by cbv) (by rfl) fun w O hw => ?_
 have h1 := b9f a x hl hx ha hq hv
 have h2 := c0x a x.q u hl hx.1 hu hq
 have h3 : a7e a x.q u = true -> u.length = a.links.length := fun h => by unfold a7e at h; rw [c1J] at h; exact of_decide_eq_true h.1
 have h4 := @b9E x u
 have h5 : (mvQ x u).length = min x.q.length u.length := by unfold mvQ; rw [c1y, List.length_zip]
 have c1 := (a3S (u.map rcs) (by rw [c1y]; exact hu.1)).spec
 obtain ⟨hqn, hqb⟩ := hx.1
 obtain ⟨hun, hub⟩ := hu
 unfold a1W mvA b6y
 generalize a4k a x = BQ at *
 generalize a3b a x = BV at *
 generalize mvQ x u = M at *
 generalize a7e a x.q u = m at *
 obtain ⟨name, ⟨bx, by', half, t⟩, links⟩ := a
 obtain ⟨q, v, power, holds⟩ := x
 simp only at h1 h2 h3 h4 h5 hq hv hqn hqb ⊢
 have hn := hl.2.2.1
 simp only at hn
 simp only [j6]
 simp only [Am.c, Am.enc, Ast.c, Ast.enc, lks, rts, sb, ints] at h1 h2 c1 ⊢
 by_cases hm : (p && m) = true
 ·rw [if_pos hm]
  rw [c1J] at hm
  obtain ⟨rfl, rfl⟩ := hm
  have h3 := h3 rfl
  (repeat first | refine uG h2 ?_ | refine uA ?_ | (refine uK ?_ ?_; focus first | omega | (intros; simp_all <;> omega)) | simp (disch := omega) only [go_sem, Nat.reduceBEq, Nat.reduceAdd, ww] | (refine uD h2 ?_ ?_ ?_; exact tz hw; exact rfl))
  refine S.cond rfl (fun hc => by simp at hc) (fun hc => ?_)
  (repeat first | refine uF c1 ?_ | refine uA ?_ | (refine uK ?_ ?_; focus first | omega | (intros; simp_all <;> omega)) | simp (disch := omega) only [go_sem, Nat.reduceBEq, Nat.reduceAdd, ww, c1y] | (refine uB c1 ?_ ?_; exact rfl))
  refine S.loop (X := Nat) (fun i => ⟨[(2, rts u), (8, .bp 2 0), (12, .bp 3 0), (43, rts q), (44, ints q.length), (45, ints i)], [.gone, .gone, .box 90 [.v (.slice none 0 0), .v (.slice none 0 0), .v (.bool false), .v (.int .i64 0)], .box 90 [.rv 4, rts u, .v (.bool true), ints holds], .row 29 3 ((M.take i).map rcs)]⟩) (fun i => i <= q.length) (fun i => q.length - i) 0 (c1H _) (Ent.trans (Ent.a3n 3 0 29 3 rfl rfl rfl) (by (repeat first | refine uA ?_ | (refine ⟨?_, ?_⟩; focus first | rfl | simp [slot]) | rfl | simp))) ?_
  intro i hi
  simp only [rts, ints]
  (repeat first | refine uA ?_ | (refine uK ?_ ?_; focus first | omega | (intros; simp_all <;> omega)) | simp (disch := omega) only [go_sem, Nat.reduceBEq, Nat.reduceAdd, ww])
  (refine uJ rfl (fun hc => ?_) fun hc => ?_)
  ·have hgq := c1x (show i < q.length by omega)
   have hgu := c1x (show i < u.length by omega)
   generalize q[i]'_ = qi at hgq
   generalize u[i]'_ = ui at hgu
   have hap := take_at (h4 hgq hgu)
   have htl : (M.take i).length = i := by rw [c1M]; omega
   have o1 := a2c qi ui ((hqb qi (c1A hgq)).mono (by decide)) ((hub ui (c1A hgu)).mono (by decide))
   unfold rq at o1
   unfold a3R at hap
   generalize Nm.ofQ (Nm.j3 qi + Nm.j3 ui) = z at *
   have hui : (i : Int) < u.length := by omega
   simp only [rc, sb] at o1
   (repeat first | refine uG o1 ?_ | refine uA ?_ | (refine uK ?_ ?_; focus first | omega | (intros; simp_all <;> omega)) | simp (disch := omega) only [go_sem, Nat.reduceBEq, Nat.reduceAdd, ww, hgq, hgu, c1z, c1y, rcs, sb, htl, c1B] | (refine uD o1 ?_ ?_ ?_; exact tz hw; exact rfl))
   refine S.next (i + 1) (by omega) (by omega) (by simp only [hap, c2p, c1R, c2d, rcs, sb]; exact (by (repeat first | refine uA ?_ | (refine ⟨?_, ?_⟩; focus first | rfl | simp [slot]) | rfl | simp)))
  ·have hi' : i = q.length := by omega
   subst hi'
   rw [c1W (by omega)]
   (repeat first | refine uA ?_ | (refine uK ?_ ?_; focus first | omega | (intros; simp_all <;> omega)) | simp (disch := omega) only [go_sem, Nat.reduceBEq, Nat.reduceAdd, ww])
   (refine S.done ?_; simp only [p8, l7, go_sem, Nat.reduceBEq, Nat.reduceAdd, Nat.reduceLeDiff, Int.reduceToNat, Int.reducePow]; (repeat (refine ⟨?_, ?_⟩; focus first | trivial | omega | simp)); exact d9.out rfl (Imp.tup (by (repeat' (first | exact j5.nil | exact Imp.refl rfl | exact Imp.frz rfl rfl rfl | exact Imp.F9 | refine Imp.agg ?_ | refine j5.cons ?_ ?_)))) rfl)
 ·rw [if_neg hm]
  cases p
  ·(repeat first | refine uG h2 ?_ | refine uA ?_ | (refine uK ?_ ?_; focus first | omega | (intros; simp_all <;> omega)) | simp (disch := omega) only [go_sem, Nat.reduceBEq, Nat.reduceAdd, ww] | (refine uD h2 ?_ ?_ ?_; exact tz hw; exact rfl))
   refine S.cond rfl (fun hc => ?_) (fun hc => by simp at hc)
   (repeat first | refine uG h1 ?_ | refine uI ?_ | (refine uK ?_ ?_; focus first | omega | (intros; simp_all <;> omega)) | simp (disch := omega) only [go_sem, Nat.reduceBEq, Nat.reduceAdd, ww] | (refine uD h1 ?_ ?_ ?_; exact tz hw; exact rfl))
   refine S.U6 [.gone, .box 90 [.sl 3 (q.map rcs), .sl 3 (v.map rcs), .v (.bool power), .v (.int .i64 holds)]] (by simp [Eng.F3, Eng.Y5]) ?_
   (repeat first | refine uA ?_ | (refine uK ?_ ?_; focus first | omega | (intros; simp_all <;> omega)) | simp (disch := omega) only [go_sem, Nat.reduceBEq, Nat.reduceAdd, ww])
   (refine S.done ?_; simp only [p8, l7, go_sem, Nat.reduceBEq, Nat.reduceAdd, Nat.reduceLeDiff, Int.reduceToNat, Int.reducePow]; (repeat (refine ⟨?_, ?_⟩; focus first | trivial | omega | simp)); exact d9.out rfl (Imp.tup (by (repeat' (first | exact j5.nil | exact Imp.refl rfl | exact Imp.frz rfl rfl rfl | exact Imp.F9 | refine Imp.agg ?_ | refine j5.cons ?_ ?_)))) rfl)
  ·have hm : m = false := by simpa using hm
   subst hm
   (repeat first | refine uG h2 ?_ | refine uA ?_ | (refine uK ?_ ?_; focus first | omega | (intros; simp_all <;> omega)) | simp (disch := omega) only [go_sem, Nat.reduceBEq, Nat.reduceAdd, ww] | (refine uD h2 ?_ ?_ ?_; exact tz hw; exact rfl))
   refine S.cond rfl (fun hc => ?_) (fun hc => by simp at hc)
   (repeat first | refine uG h1 ?_ | refine uI ?_ | (refine uK ?_ ?_; focus first | omega | (intros; simp_all <;> omega)) | simp (disch := omega) only [go_sem, Nat.reduceBEq, Nat.reduceAdd, ww] | (refine uD h1 ?_ ?_ ?_; exact tz hw; exact rfl))
   refine S.U6 [.gone, .box 90 [.sl 3 (q.map rcs), .sl 3 (v.map rcs), .v (.bool power), .v (.int .i64 holds)]] (by simp [Eng.F3, Eng.Y5]) ?_
   (repeat first | refine uA ?_ | (refine uK ?_ ?_; focus first | omega | (intros; simp_all <;> omega)) | simp (disch := omega) only [go_sem, Nat.reduceBEq, Nat.reduceAdd, ww])
   (refine S.done ?_; simp only [p8, l7, go_sem, Nat.reduceBEq, Nat.reduceAdd, Nat.reduceLeDiff, Int.reduceToNat, Int.reducePow]; (repeat (refine ⟨?_, ?_⟩; focus first | trivial | omega | simp)); exact d9.out rfl (Imp.tup (by (repeat' (first | exact j5.nil | exact Imp.refl rfl | exact Imp.frz rfl rfl rfl | exact Imp.F9 | refine Imp.agg ?_ | refine j5.cons ?_ ?_)))) rfl)
theorem a8y (f g : Fr) (h1 : Rb 4294967296 f.x) (h2 : Rb 4294967296 f.y) (h3 : Rb 268435456 f.t) (h4 : Rb 268435456 g.x) (h5 : Rb 268435456 g.y) (h6 : Rb 268435456 g.t) : FZ 217 [f.c, g.c] (O0 f g).c := by
 refine kW Tryz.func217 (by cbv) (by rfl) fun w O hw => ?_
 have k1 := b4a f ⟨g.x, g.y⟩ h1 h2 h3 h4 h5
 have k2 := b8f f.half f.t g.half g.t (h3.mono (by decide)) (h6.mono (by decide))
 unfold O0 vq tq at *
 generalize Nm.ofQ (X3 f ⟨g.x, g.y⟩) = r1 at *
 generalize Nm.ofQ (X0 f ⟨g.x, g.y⟩) = r2 at *
 generalize a2b f.half (x9 f.half f.t) g.half (x9 g.half g.t) = r3 at *
 obtain ⟨r3, r4⟩ := r3
 simp only at *
 generalize Nm.ofQ r4 = r5 at *
 obtain ⟨fx, fy, fh, ft⟩ := f
 obtain ⟨gx, gy, gh, gt⟩ := g
 simp only [j6]
 simp only [Fr.c, Fr.enc, Vt.c, Vt.enc, vc, tc, sb] at *
 (repeat first | refine uA ?_ | (refine uK ?_ ?_; focus first | omega | (intros; simp_all <;> omega)) | simp (disch := omega) only [go_sem, Nat.reduceBEq, Nat.reduceAdd, ww] | (refine uD k1 ?_ ?_ ?_; exact tz hw; exact rfl) | (refine uD k2 ?_ ?_ ?_; exact tz hw; exact rfl))
 (refine S.done ?_; simp only [p8, l7, go_sem, Nat.reduceBEq, Nat.reduceAdd, Nat.reduceLeDiff, Int.reduceToNat, Int.reducePow]; (repeat (refine ⟨?_, ?_⟩; focus first | trivial | omega | simp)); exact d9.out rfl (Imp.refl rfl) rfl)
theorem b3c (f : Fr) (hf : Fb 1048576 f) : FZ 218 [f.c] (a0V f).c := by
 refine kW Tryz.func218 (by cbv) (by rfl) fun w O hw => ?_
 obtain ⟨h1, h2, h3⟩ := hf
 have k1 := b8r f.half f.t (h3.mono (by decide))
 have k2 := b2C
 have k3 := a5S (Nm.ofQ 0) (Nm.ofQ 0) f.x f.y (M6.mono (by decide)) (M6.mono (by decide)) (h1.mono (by decide)) (h2.mono (by decide))
 rw [Nm.E9] at k3
 have s1 := J9 M6 (h1.fit (by decide))
 have s2 := J9 M6 (h2.fit (by decide))
 have s3 := a6F (U9 (h := f.half) h3 (by decide))
 have k4 := b3k (Nm.ofQ (0 - Nm.j3 f.x)) (Nm.ofQ (0 - Nm.j3 f.y)) (Nm.ofQ (- x9 f.half f.t)) f.half (s1.mono (by decide)) (s2.mono (by decide)) (s3.mono (by decide))
 unfold a0V
 unfold a0f at k2
 unfold vq tq at *
 generalize Nm.ofQ (Nm.j3 (Nm.ofQ (0 - Nm.j3 f.x)) * R8 f.half (x9 f.half (Nm.ofQ (- x9 f.half f.t))) - Nm.j3 (Nm.ofQ (0 - Nm.j3 f.y)) * R7 (x9 f.half (Nm.ofQ (- x9 f.half f.t)))) = r1 at *
 generalize Nm.ofQ (Nm.j3 (Nm.ofQ (0 - Nm.j3 f.x)) * R7 (x9 f.half (Nm.ofQ (- x9 f.half f.t))) + Nm.j3 (Nm.ofQ (0 - Nm.j3 f.y)) * R8 f.half (x9 f.half (Nm.ofQ (- x9 f.half f.t)))) = r2 at *
 generalize Nm.ofQ (0 - Nm.j3 f.x) = r3 at *
 generalize Nm.ofQ (0 - Nm.j3 f.y) = r4 at *
 generalize Nm.ofQ (- x9 f.half f.t) = r5 at *
 generalize Nm.ofQ 0 = z at *
 obtain ⟨fx, fy, fh, ft⟩ := f
 simp only [j6]
 simp only [Fr.c, Fr.enc, vc, tc, sb] at *
 (repeat first | refine uA ?_ | (refine uK ?_ ?_; focus first | omega | (intros; simp_all <;> omega)) | simp (disch := omega) only [go_sem, Nat.reduceBEq, Nat.reduceAdd, ww] | (refine uD k1 ?_ ?_ ?_; exact tz hw; exact rfl) | (refine uD k2 ?_ ?_ ?_; exact tz hw; exact rfl) | (refine uD k3 ?_ ?_ ?_; exact tz hw; exact rfl) | (refine uD k4 ?_ ?_ ?_; exact tz hw; exact rfl))
 (refine S.done ?_; simp only [p8, l7, go_sem, Nat.reduceBEq, Nat.reduceAdd, Nat.reduceLeDiff, Int.reduceToNat, Int.reducePow]; (repeat (refine ⟨?_, ?_⟩; focus first | trivial | omega | simp)); exact d9.out rfl (Imp.refl rfl) rfl)
theorem a8N {f : Fr} {c : Vt} {x t k : Nat} (hx : Rb x f.x) (hy : Rb x f.y) (ht : Rb t f.t) (hc1 : Rb k c.x) (hc2 : Rb k c.y) (h1 : 1 <= x) (h2 : 1 <= t) (h3 : 1 <= k) : Rb (x + 2 * (k + 4 * t + 18) + 2) (Nm.ofQ (X3 f c)) /\ Rb (x + 2 * (k + 4 * t + 18) + 2) (Nm.ofQ (X0 f c)) := by
 have g1 := a8m f.half (U9 (h := f.half) ht h2)
 have g2 := a7V (U9 (h := f.half) ht h2)
 have g3 := hc1.fit h3
 have g4 := hc2.fit h3
 unfold X3 X0
 exact ⟨(R5 (hx.fit h1) (J9 (I7 g3 g1) (I7 g4 g2))).mono (by omega), (R5 (hy.fit h1) (R5 (I7 g3 g2) (I7 g4 g1))).mono (by omega)⟩
theorem b6P {h1 h2 : Bool} {p q : Rat} {a b : Nat} (hp : Rb a (Nm.ofQ p)) (hq : Rb b (Nm.ofQ q)) : Rb (2 * (a + b) + 16) (Nm.ofQ (a2b h1 p h2 q).2) := by
 have kb : Rb 8 (Nm.ofQ (-1)) := ⟨Nm.F4 (by decide), Nm.F4 (by decide)⟩
 have kz : Rb (2 * (a + b) + 16) (Nm.ofQ 0) := M6.mono (by omega)
 unfold a2b
 split
 ·exact kz
 split
 ·split
  ·exact kz
  ·rename_i h; exact (a3t h kb hq).mono (by omega)
 split
 ·split
  ·exact kz
  ·rename_i h; exact (a3t h kb hp).mono (by omega)
 split
 ·exact kz
 ·rename_i h; exact (a3t h (R5 hp hq) (J9 Y2 (I7 hp hq))).mono (by omega)
theorem a7t {f g : Fr} {x t k u : Nat} (hx : Rb x f.x) (hy : Rb x f.y) (ht : Rb t f.t) (hc1 : Rb k g.x) (hc2 : Rb k g.y) (hu : Rb u g.t) (h1 : 1 <= x) (h2 : 1 <= t) (h3 : 1 <= k) (h4 : 1 <= u) :
  Rb (x + 2 * (k + 4 * t + 18) + 2) (O0 f g).x /\ Rb (x + 2 * (k + 4 * t + 18) + 2) (O0 f g).y /\ Rb (2 * (t + u) + 16) (O0 f g).t := by
 obtain ⟨a, b⟩ := a8N (c := ⟨g.x, g.y⟩) hx hy ht hc1 hc2 h1 h2 h3
 exact ⟨a, b, b6P (U9 ht h2) (U9 hu h4)⟩
def tB : Nat -> Nat
 | 0 => 8
 | n + 1 => 2 * (2 * (tB n + 2097664) + 16 + 8) + 16
def xB : Nat -> Nat
 | 0 => 8
 | n + 1 => xB n + 2 * (8 + 4 * tB n + 18) + 2 + 2 * (8 + 4 * (2 * (tB n + 2097664) + 16) + 18) + 2
theorem a5U {i : Nat} (h : i <= 3) : 8 <= tB i /\ 8 <= xB i /\ tB i <= 176205632 /\ xB i <= 1308956300 := by
 have : i = 0 \/ i = 1 \/ i = 2 \/ i = 3 := by omega
 rcases this with rfl | rfl | rfl | rfl <;> decide
theorem b_lt {i : Nat} (h : i < 3) : 2 * (tB i + 2097664) + 16 <= 88102800 /\ xB i + 2 * (8 + 4 * tB i + 18) + 2 <= 604133846 := by
 have : i = 0 \/ i = 1 \/ i = 2 := by omega
 rcases this with rfl | rfl | rfl <;> decide
def Fx (i : Nat) (f : Fr) : Prop := Rb (xB i) f.x /\ Rb (xB i) f.y /\ Rb (tB i) f.t
theorem a6y {e : Fr} {i : Nat} {q : Nm.Rt} (he : Fx i e) (hi : i < 3) (hq : Rb 2097664 q) : Rb (xB i + 2 * (8 + 4 * tB i + 18) + 2) (O0 e (a0C q)).x /\ Rb (xB i + 2 * (8 + 4 * tB i + 18) + 2) (O0 e (a0C q)).y /\ Rb (2 * (tB i + 2097664) + 16) (O0 e (a0C q)).t := by
 have hb := a5U (show i <= 3 by omega)
 exact a7t he.1 he.2.1 he.2.2 M6 M6 (hq.fit (by decide)) (by omega) (by omega) (by omega) (by decide)
theorem b4P {e : Fr} {i : Nat} {q : Nm.Rt} {l : Lk} (he : Fx i e) (hi : i < 3) (hq : Rb 2097664 q) (hl : Rb 8 l.length) : Fx (i + 1) (O0 (O0 e (a0C q)) (a5i l)) := by
 obtain ⟨h1, h2, h3⟩ := a6y he hi hq
 exact a7t h1 h2 h3 hl M6 M6 (by omega) (by omega) (by omega) (by decide)
theorem a5I {a : Am} (h : J6 a = 0) : Fx 0 a.base /\ ∀ l ∈ a.links, Rb 8 l.length := by
 have hl := (a1N h).2
 unfold J6 at h
 split at h
 ·cases h
 split at h
 ·cases h
 split at h
 ·cases h
 rename_i h1
 have hs : (j4 a.base.x && j4 a.base.y && j4 a.base.t) = true := by
  cases hb : (j4 a.base.x && j4 a.base.y && j4 a.base.t) with
  | true => rfl
  | false => exact absurd (.inr (.inl hb)) h1
 simp only [c1J] at hs
 refine ⟨⟨(a2i hs.1.1).mono (by decide), (a2i hs.1.2).mono (by decide), (a2i hs.2).mono (by decide)⟩, fun l hm => ?_⟩
 have := hl l hm
 unfold V3 at this
 split at this
 ·cases this
 rename_i h2
 have hs2 : (j4 l.length && j4 l.low && j4 l.high && j4 l.speed && j4 l.brake) = true := by
  cases hb : (j4 l.length && j4 l.low && j4 l.high && j4 l.speed && j4 l.brake) with
  | true => rfl
  | false => exact absurd (.inl hb) h2
 simp only [c1J] at hs2
 exact (a2i hs2.1.1.1.1).mono (by decide)
theorem a7v : ∀ (z : List (Lk × Nm.Rt)) (e : Fr) (i : Nat), Fx i e -> i + z.length <= 3 -> (∀ y ∈ z, Rb 8 y.1.length /\ Rb 2097664 y.2) -> Fx (i + z.length) (H7 e z)
 | [], e, i, he, _, _ => he
 | (l, q) :: r, e, i, he, hi, hz => by
  simp only [c1T] at hi
  have h1 := b4P (l := l) he (by omega) (hz (l, q) (by simp)).2 (hz (l, q) (by simp)).1
  have h2 := a7v r _ (i + 1) h1 (by omega) fun y hy => hz y (by simp [hy])
  simp only [H7, c1T]
  rwa [show i + 1 + r.length = i + (r.length + 1) by omega] at h2
theorem b1E (a : Am) (q : List Nm.Rt) (hl : Ab 1073741824 a) (ha : J6 a = 0) (hql : q.length = a.links.length) (hq : ∀ r ∈ q, Rb 2097664 r) : FZ 220 [a.c, rts q] (.tup [frs (a0y a.base (a.links.zip q)), ints 0]) := by
 refine kW Tryz.func220 (by cbv) (by rfl) fun w O hw => ?_
 have h := b5C a q.length hl
 rw [b9o ha (by omega)] at h
 have hz := a9T
 have ht := a4Y (Nm.ofQ 0) (M6.mono (by decide))
 rw [Nm.E9] at ht
 obtain ⟨fb, lb⟩ := a5I ha
 have hn3 := (T9 ha).2
 have hn := hl.2.2.1
 obtain ⟨name, base, links⟩ := a
 simp only at hql fb lb hn3 hn ⊢
 have t1 := fun (e : Fr) (i : Nat) (l : Lk) (r : Nm.Rt) (he : Fx i e) (hi : i < 3) (hr : Rb 2097664 r) => a8y e (a0C r) (he.1.mono (by have := a5U (show i <= 3 by omega); omega)) (he.2.1.mono (by have := a5U (show i <= 3 by omega); omega)) (he.2.2.mono (by have := a5U (show i <= 3 by omega); omega)) (M6.mono (by decide)) (M6.mono (by decide)) ((hr.fit (by decide)).mono (by decide))
 have t2 := fun (e : Fr) (i : Nat) (l : Lk) (r : Nm.Rt) (he : Fx i e) (hi : i < 3) (hr : Rb 2097664 r) (hl : Rb 8 l.length) => a8y (O0 e (a0C r)) (a5i l) ((a6y he hi hr).1.mono (by have := b_lt hi; omega)) ((a6y he hi hr).2.1.mono (by have := b_lt hi; omega)) ((a6y he hi hr).2.2.mono (by have := b_lt hi; omega)) (hl.mono (by decide)) (M6.mono (by decide)) (M6.mono (by decide))
 simp only [j6]
 unfold rq at hz
 unfold tq at ht
 have hj : ∀ r, a0C r = ⟨Nm.ofQ 0, Nm.ofQ 0, false, Nm.ofQ (Nm.j3 r)⟩ := fun _ => rfl
 have hlg : ∀ l : Lk, a5i l = ⟨l.length, Nm.ofQ 0, false, Nm.ofQ 0⟩ := fun _ => rfl
 generalize Nm.ofQ 0 = z at *
 simp only [Am.c, Am.enc, lks, rts, rc, tc, sb, ints] at h hz ht ⊢
 (repeat first | refine uA ?_ | (refine uK ?_ ?_; focus first | omega | (intros; simp_all <;> omega)) | simp (disch := omega) only [go_sem, Nat.reduceBEq, Nat.reduceAdd, ww, c1y] | (refine uD h ?_ ?_ ?_; exact tz hw; exact rfl))
 refine S.cond rfl (fun hc => by simp at hc) (fun hc => ?_)
 (repeat first | refine uA ?_ | (refine uK ?_ ?_; focus first | omega | (intros; simp_all <;> omega)) | simp (disch := omega) only [go_sem, Nat.reduceBEq, Nat.reduceAdd, ww, c1y] | (refine uD hz ?_ ?_ ?_; exact tz hw; exact rfl) | (refine uD ht ?_ ?_ ?_; exact tz hw; exact rfl))
 refine S.loop (X := Nat × Fr × List Fr) (fun x => ⟨[(1, rts q), (7, .bp 1 0), (8, .bp 2 0), (9, .bp 3 0), (10, .rv 4), (29, lks links), (30, ints links.length), (31, ints x.1)], [.gone, .box 55 x.2.1.enc, .box 51 [.v (.bool z.neg), sb z.num, sb z.den, .v (.bool z.neg), sb z.num, sb z.den], .box 53 [.v (.bool false), .v (.bool z.neg), sb z.num, sb z.den], .row 55 10 (x.2.2.map Fr.enc)]⟩)
  (fun x => x.1 <= links.length /\ x.2.2.length = x.1 /\ a0y base (links.zip q) = x.2.2 ++ a0y x.2.1 ((links.zip q).drop x.1) /\ Fx x.1 x.2.1) (fun x => links.length - x.1) (0, base, []) ⟨c1H _, rfl, rfl, fb⟩ (Ent.trans (Ent.pack 10 55 10 rfl) (by simp only [Fr.enc, sb]; exact (by (repeat first | refine uA ?_ | (refine ⟨?_, ?_⟩; focus first | rfl | simp [slot]) | rfl | simp)))) ?_
 rintro ⟨i, e, outs⟩ ⟨hi, ho, hg, hF⟩
 simp only at hi ho hg hF
 simp only [rts, lks, sb, ints, Fr.enc]
 (repeat first | refine uA ?_ | (refine uK ?_ ?_; focus first | omega | (intros; simp_all <;> omega)) | simp (disch := omega) only [go_sem, Nat.reduceBEq, Nat.reduceAdd, ww])
 (refine uJ rfl (fun hc => ?_) fun hc => ?_)
 ·have hi' : i < links.length := by omega
  have hgl := c1x hi'
  have hgq := c1x (show i < q.length by omega)
  generalize links[i] = l at hgl
  generalize q[i]'_ = r at hgq
  have hr := hq r (c1A hgq)
  have hb := lb l (c1A hgl)
  have k1 := t1 e i l r hF (by omega) hr
  have k2 := t2 e i l r hF (by omega) hr hb
  have k3 := a4Y r (hr.mono (by decide))
  have hF' := b4P (l := l) hF (by omega) hr hb
  rw [drop_at (K5 hgl hgq), a0y] at hg
  unfold tq at k3
  generalize O0 (O0 e (a0C r)) (a5i l) = e2 at *
  generalize O0 e (a0C r) = f at *
  rw [hj] at k1
  rw [hlg] at k2
  generalize Nm.ofQ (Nm.j3 r) = y at *
  have hqi : (i : Int) < q.length := by omega
  simp only [Fr.c, Fr.enc, rc, tc, sb] at k1 k2 k3
  (repeat first | refine uA ?_ | (refine uK ?_ ?_; focus first | omega | (intros; simp_all <;> omega)) | simp (disch := omega) only [go_sem, Nat.reduceBEq, Nat.reduceAdd, ww, hgl, hgq, c1z, c1y, Lk.enc, rcs, vts, sb, ho, c1B] | (refine uD hz ?_ ?_ ?_; exact tz hw; exact rfl) | (refine uD k1 ?_ ?_ ?_; exact tz hw; exact rfl) | (refine uD k2 ?_ ?_ ?_; exact tz hw; exact rfl) | (refine uD k3 ?_ ?_ ?_; exact tz hw; exact rfl))
  refine S.next (x := (i, e, outs)) (i + 1, e2, outs ++ [f]) ⟨by simp only; omega, by simp only [c1C, ho]; rfl, by simp only; rw [hg, c2b]; rfl, hF'⟩ (by simp only; omega) (by simp only [c2p, c1R, c2d, Fr.enc, sb]; exact (by (repeat first | refine uA ?_ | (refine ⟨?_, ?_⟩; focus first | rfl | simp [slot]) | rfl | simp)))
 ·rw [List.drop_eq_nil_of_le (by rw [List.length_zip]; omega), a0y] at hg
  rw [hg]
  (repeat first | refine uA ?_ | (refine uK ?_ ?_; focus first | omega | (intros; simp_all <;> omega)) | simp (disch := omega) only [go_sem, Nat.reduceBEq, Nat.reduceAdd, ww, c1y])
  simp only [frs, c2p, c1R, c2d, Fr.enc, sb]
  (refine S.done ?_; simp only [p8, l7, go_sem, Nat.reduceBEq, Nat.reduceAdd, Nat.reduceLeDiff, Int.reduceToNat, Int.reducePow]; (repeat (refine ⟨?_, ?_⟩; focus first | trivial | omega | simp)); exact d9.out rfl (Imp.tup (by (repeat' (first | exact j5.nil | exact Imp.refl rfl | exact Imp.frz rfl rfl rfl | exact Imp.F9 | refine Imp.agg ?_ | refine j5.cons ?_ ?_)))) rfl)
theorem b3u (a : Am) (q : List Nm.Rt) (hl : Ab 1073741824 a) (ha : J6 a = 0) (hql : q.length = a.links.length) (hq : ∀ r ∈ q, Rb 2097664 r) : FZ 165 [a.c, rts q] (.tup [(H7 a.base (a.links.zip q)).c, ints 0]) := by
 refine kW Tryz.func165 (by cbv) (by rfl) fun w O hw => ?_
 have h := b1E a q hl ha hql hq
 obtain ⟨h1, h2⟩ := a4s (a.links.zip q) a.base
 have hn : (a.links.zip q).length <= 1073741824 := by rw [List.length_zip]; have := hl.2.2.1; omega
 generalize a0y a.base (a.links.zip q) = L at *
 generalize H7 a.base (a.links.zip q) = T at *
 generalize (a.links.zip q).length = n at *
 obtain ⟨name, base, links⟩ := a
 simp only [j6]
 simp only [Am.c, Am.enc, lks, rts, frs, Fr.c, Fr.enc, sb, ints] at h ⊢
 have e1 : ((L.length : Int) - 1) = (n : Int) := by omega
 have e2 : (n : Int) < L.length := by omega
 (repeat first | refine uA ?_ | (refine uK ?_ ?_; focus first | omega | (intros; simp_all <;> omega)) | simp (disch := omega) only [go_sem, Nat.reduceBEq, Nat.reduceAdd, ww] | (refine uD h ?_ ?_ ?_; exact tz hw; exact rfl))
 refine S.cond rfl (fun hc => by simp at hc) (fun hc => ?_)
 (repeat first | refine uA ?_ | (refine uK ?_ ?_; focus first | omega | (intros; simp_all <;> omega)) | simp (disch := omega) only [go_sem, Nat.reduceBEq, Nat.reduceAdd, ww, c1y, e1, h1, c1z, Fr.enc, sb, c1B])
 (refine S.done ?_; simp only [p8, l7, go_sem, Nat.reduceBEq, Nat.reduceAdd, Nat.reduceLeDiff, Int.reduceToNat, Int.reducePow]; (repeat (refine ⟨?_, ?_⟩; focus first | trivial | omega | simp)); exact d9.out rfl (Imp.tup (by (repeat' (first | exact j5.nil | exact Imp.refl rfl | exact Imp.frz rfl rfl rfl | exact Imp.F9 | refine Imp.agg ?_ | refine j5.cons ?_ ?_)))) rfl)
theorem b5n {f : Fr} (h : Fb 1048576 f) : Rb 268435456 (a0V f).x /\ Rb 268435456 (a0V f).y /\ Rb 268435456 (a0V f).t := by
 obtain ⟨c1, c2, c3⟩ := h
 have s1 := (J9 M6 (c1.fit (by decide)))
 have s2 := (J9 M6 (c2.fit (by decide)))
 have s3 := a6F (U9 (h := f.half) c3 (by decide))
 have g1 := a8m f.half (U9 (h := f.half) s3 (by decide))
 have g2 := a7V (U9 (h := f.half) s3 (by decide))
 have s4 := s1.fit (by decide)
 have s5 := s2.fit (by decide)
 unfold a0V
 exact ⟨(J9 (I7 s4 g1) (I7 s5 g2)).mono (by decide), (R5 (I7 s4 g2) (I7 s5 g1)).mono (by decide), s3.mono (by decide)⟩
theorem a9g {w : Wk} {n : Nat} {q : List Nm.Rt} {a : Am} {p : Nat} {pt : Pt} (hwb : Wb 1048576 w) (ga : w.arms[n]? = some a) (gp : w.parts[p]? = some pt) (ha : J6 a = 0) (hql : q.length = a.links.length) (hq : ∀ r ∈ q, Rb 2097664 r) : FZ 217 [(H7 a.base (a.links.zip q)).c, (a0V pt.grasp).c] (O0 (H7 a.base (a.links.zip q)) (a0V pt.grasp)).c := by
 have hb := hwb.parts.2 pt (c1A gp)
 obtain ⟨fb, lb⟩ := a5I ha
 have ht := a7v (a.links.zip q) a.base 0 fb (by have := (T9 ha).2; rw [List.length_zip]; omega) fun y hy => ⟨lb _ (List.of_mem_zip hy).1, hq _ (List.of_mem_zip hy).2⟩
 have hc := a5U (show 0 + (a.links.zip q).length <= 3 by have := (T9 ha).2; rw [List.length_zip]; omega)
 have hk := b5n hb.2.2
 exact a8y (H7 a.base (a.links.zip q)) (a0V pt.grasp) (ht.1.mono (by omega)) (ht.2.1.mono (by omega)) (ht.2.2.mono (by omega)) hk.1 hk.2.1 hk.2.2
theorem a9r (w : Wk) (n : Nat) (x : Ast) (a : Am) (p : Nat) (pt : Pt) (hwb : Wb 1048576 w) (ga : w.arms[n]? = some a) (gp : w.parts[p]? = some pt) (hx : x.holds = p) (ha : J6 a = 0) (hql : x.q.length = a.links.length) (hq : ∀ r ∈ x.q, Rb 2097664 r) :
  FZ 160 [w.c, .v (.int .i64 (n : Int)), x.c] (.tup [(a0q a x.q pt.grasp).c, ints 0]) := by
 refine kW Tryz.func160 (by cbv) (by rfl) fun w' O hw => ?_
 obtain ⟨n1, b1⟩ := hwb.arms
 obtain ⟨n2, b2⟩ := hwb.parts
 have h1 := b3u a x.q ((b1 a (c1A ga)).mono (by decide)) ha hql hq
 have h2 := b3c pt.grasp (b2 pt (c1A gp)).2.2
 have h3 := a9g hwb ga gp ha hql hq
 unfold a0q
 have na := (c1F.1 ga).1
 have np := (c1F.1 gp).1
 generalize H7 a.base (a.links.zip x.q) = T at *
 generalize O0 T (a0V pt.grasp) = R at *
 generalize a0V pt.grasp = B at *
 obtain ⟨q, v, power, holds⟩ := x
 obtain ⟨arms, walls, parts, slots, gates, walk⟩ := w
 simp only at ga gp na np hx h1 ⊢
 subst hx
 have na' : (n : Int) < arms.length := by omega
 have np' : (p : Int) < parts.length := by omega
 simp only [j6]
 simp only [Wk.c, Wk.enc, Am.c, Am.enc, Ast.c, Ast.enc, Fr.c, Fr.enc, ams, wls, pts, sls, gts, lks, rts, sb, ints] at h1 h2 h3 ⊢
 (repeat first | refine uA ?_ | (refine uK ?_ ?_; focus first | omega | (intros; simp_all <;> omega)) | simp (disch := omega) only [go_sem, Nat.reduceBEq, Nat.reduceAdd, ww, ga, c1z, c1y, Am.enc, lks, sb, c1B] | (refine uD h1 ?_ ?_ ?_; exact tz hw; exact rfl))
 refine S.cond rfl (fun hc => by simp at hc) (fun hc => ?_)
 (repeat first | refine uA ?_ | (refine uK ?_ ?_; focus first | omega | (intros; simp_all <;> omega)) | simp (disch := omega) only [go_sem, Nat.reduceBEq, Nat.reduceAdd, ww, gp, c1z, c1y, Pt.enc, vts, sb, c1B] | (refine uD h2 ?_ ?_ ?_; exact tz hw; exact rfl) | (refine uD h3 ?_ ?_ ?_; exact tz hw; exact rfl))
 (refine S.done ?_; simp only [p8, l7, go_sem, Nat.reduceBEq, Nat.reduceAdd, Nat.reduceLeDiff, Int.reduceToNat, Int.reducePow]; (repeat (refine ⟨?_, ?_⟩; focus first | trivial | omega | simp)); exact d9.out rfl (Imp.tup (by (repeat' (first | exact j5.nil | exact Imp.refl rfl | exact Imp.frz rfl rfl rfl | exact Imp.F9 | refine Imp.agg ?_ | refine j5.cons ?_ ?_)))) rfl)
set_option maxHeartbeats 16000000
def a0Y : List C := [.v (.int .i64 0), .v (.slice none 0 0), .v (.slice none 0 0), .v (.slice none 0 0), .v (.slice none 0 0)]
def b9O (v : Vt) (z : Gt) : Prop := Nm.q8 (Nm.j3 v.x) (Nm.j3 z.low.x) < 0 \/ 0 < Nm.q8 (Nm.j3 v.x) (Nm.j3 z.high.x) \/ Nm.q8 (Nm.j3 v.y) (Nm.j3 z.low.y) < 0 \/ 0 < Nm.q8 (Nm.j3 v.y) (Nm.j3 z.high.y)
instance (v : Vt) (z : Gt) : Decidable (b9O v z) := by unfold b9O; infer_instance
def c0F : List Nat := [63, 68, 149]
def c0l (f : Nat) : Bool := c0F.contains f
theorem a8D {E : Ctx} (hP : E.P = Tryz.prog) (s : Stt) (hs : Stb 1073741824 s) :
  l8 E [] 42 [s.c] (.agg [ints s.tick, .rv 5, .rv 2, .rv 3, bls s.gates]) [.gone, .gone, .row 55 10 (s.parts.map Fr.enc), .row 51 6 (s.people.map Vt.enc), .gone, .row 90 4 (s.arms.map Ast.enc)] [] := by
 obtain ⟨P, eff', N, w0, own0, av0, nu0, pk0⟩ := E
 simp only at hP
 subst hP
 refine l8.of (eff := c0l) Tryz.func42 (by cbv) (by exact c1Q rfl) fun w own av ν hν => ?_
 have hν0 : ν.length <= 0 := by rw [hν]; exact c1I _
 obtain ⟨⟨n1, b1⟩, ⟨n2, b2⟩, ⟨n3, b3⟩, n4⟩ := hs
 obtain ⟨tick, arms, parts, people, gates⟩ := s
 simp only at n1 b1 n2 n3 n4 ⊢
 have c1 := a7Y (parts.map Fr.enc) (by rw [c1y]; exact n2)
 have c2 := b1b (people.map Vt.enc) (by rw [c1y]; exact n3)
 have c3 := (a9A (gates.map fun b => [.v (.bool b)]) (by rw [c1y]; exact n4)).spec
 simp only [j6]
 simp only [Stt.c, Stt.enc, D8, frs, vts, bls, ints]
 (repeat first | refine uI ?_ | (refine uK ?_ ?_; focus first | omega | (intros; simp_all <;> omega)) | simp (disch := omega) only [go_sem, Nat.reduceBEq, Nat.reduceAdd, ww])
 refine S.U6 [.box 37 [.v (.int .i64 tick), .sl 4 (arms.map Ast.enc), .sl 10 (parts.map Fr.enc), .sl 6 (people.map Vt.enc), .sl 1 (gates.map fun b => [.v (.bool b)])]] (by simp [Eng.F3, Eng.Y5]) ?_
 (repeat first | refine uA ?_ | (refine uK ?_ ?_; focus first | omega | (intros; simp_all <;> omega)) | simp (disch := omega) only [go_sem, Nat.reduceBEq, Nat.reduceAdd, ww, F3, c1y] | refine l9.t (FNew.t c1 rfl) ?_ | refine l9.t (FNew.t c2 rfl) ?_ | (refine uB c3 ?_ ?_; exact rfl))
 refine S.loop (X := Nat) (fun i => ⟨[(2, .bp 1 0), (3, .bp 4 0), (19, D8 arms), (20, ints arms.length), (21, ints i)], [.gone, .box 37 [.v (.int .i64 0), .v (.slice none 0 0), .v (.slice none 0 0), .v (.slice none 0 0), .v (.slice none 0 0)], .row 55 10 (parts.map Fr.enc), .row 51 6 (people.map Vt.enc), .box 37 [ints tick, .rv 5, .rv 2, .rv 3, bls gates], .row 90 4 ((arms.take i).map Ast.enc)]⟩) (fun i => i <= arms.length) (fun i => arms.length - i) 0 (c1H _)
  (Ent.trans (Ent.a3n 4 1 90 4 rfl rfl rfl) (by (repeat first | refine uA ?_ | (refine ⟨?_, ?_⟩; focus first | rfl | simp [slot]) | rfl | simp | exact c1G hν0 (by simp)))) ?_
 intro i hi
 simp only [D8, bls, ints]
 (repeat first | refine uA ?_ | (refine uK ?_ ?_; focus first | omega | (intros; simp_all <;> omega)) | simp (disch := omega) only [go_sem, Nat.reduceBEq, Nat.reduceAdd, ww])
 (refine uJ rfl (fun hc => ?_) fun hc => ?_)
 ·have hi' : i < arms.length := by omega
  have hgi := c1x hi'
  have hap : arms.take (i + 1) = arms.take i ++ [arms[i]] := c2o hi'
  generalize arms[i] = x at hgi hap
  obtain ⟨⟨q1, _⟩, ⟨q2, _⟩⟩ := b1 x (c1A hgi)
  have e1 := (a3S (x.q.map rcs) (by rw [c1y]; exact q1)).spec
  have e2 := (a3S (x.v.map rcs) (by rw [c1y]; exact q2)).spec
  have htl : (arms.take i).length = i := by rw [c1M]; omega
  (repeat first | refine uA ?_ | (refine uK ?_ ?_; focus first | omega | (intros; simp_all <;> omega)) | simp (disch := omega) only [go_sem, Nat.reduceBEq, Nat.reduceAdd, ww, hgi, c1z, c1y, Ast.enc, rts, ints, htl] | (refine uB e1 ?_ ?_; exact rfl) | (refine uB e2 ?_ ?_; exact rfl))
  refine S.next (i + 1) (by omega) (by omega) (by simp only [hap, c2p, c1R, c2d, Ast.enc, rts, ints]; exact (by (repeat first | refine uA ?_ | (refine ⟨?_, ?_⟩; focus first | rfl | simp [slot]) | rfl | simp | exact c1G hν0 (by simp))))
 ·have hi' : i = arms.length := by omega
  subst hi'
  rw [c1U]
  (repeat first | refine uA ?_ | (refine uK ?_ ?_; focus first | omega | (intros; simp_all <;> omega)) | simp (disch := omega) only [go_sem, Nat.reduceBEq, Nat.reduceAdd, ww])
  (refine S.done ?_; simp only [p8, l7, go_sem, Nat.reduceBEq, Nat.reduceAdd, Nat.reduceLeDiff, Int.reduceToNat, Int.reducePow]; (repeat (refine ⟨?_, ?_⟩; focus first | trivial | omega | simp)); exact d9.O1 (Imp.agg (by (repeat' (first | exact j5.nil | exact Imp.refl rfl | exact Imp.frz rfl rfl rfl | exact Imp.F9 | refine j5.cons ?_ ?_)))) (by (repeat first | refine uA ?_ | (refine ⟨?_, ?_⟩; focus first | rfl | simp [slot]) | rfl | simp)) (c1G hν0 (by simp)))
def wss (u : List (List Nm.Rt)) : C := .sl 1 (u.map fun l => [rts l])
def Wsb (k : Nat) (u : List (List Nm.Rt)) : Prop := u.length <= k /\ ∀ l ∈ u, Rbs k l
theorem b8q (a b k : Rat) : 0 < Nm.q8 (a0w a b) k <-> 0 < Nm.q8 a k \/ 0 < Nm.q8 b k := by
 unfold a0w
 have h := a1k a b
 rw [O6, O6]
 split
 ·rw [O6]
  have : ¬ a < b := fun h2 => by have := h.2 h2; omega
  grind
 ·rw [O6]
  have : a < b := h.1 (by omega)
  grind
theorem b1m {k m n : Nat} {a b : Nm.Rt} (ha : Rb k a) (hb : Rb m b) (h1 : 1 <= k) (h2 : 1 <= m) (hn : k + m + 1 <= n) : Rb n (a3R a b) := (R5 (ha.fit h1) (hb.fit h2)).mono hn
theorem b3T {l : Lk} (h : V3 l = 0) : Rb 8 l.brake := by
 unfold V3 at h
 split at h
 ·cases h
 rename_i h2
 have hs2 : (j4 l.length && j4 l.low && j4 l.high && j4 l.speed && j4 l.brake) = true := by
  cases hb : (j4 l.length && j4 l.low && j4 l.high && j4 l.speed && j4 l.brake) with
  | true => rfl
  | false => exact absurd (.inl hb) h2
 simp only [c1J] at hs2
 exact (a2i hs2.2).mono (by decide)
theorem b6R {α β γ : Type} {f : α × β -> γ} {l : List α} {m : List β} {z : γ} (h : z ∈ (l.zip m).map f) : ∃ a ∈ l, ∃ b ∈ m, z = f (a, b) := by
 obtain ⟨⟨a, b⟩, hm, rfl⟩ := List.mem_map.1 h
 exact ⟨a, (List.of_mem_zip hm).1, b, (List.of_mem_zip hm).2, rfl⟩
theorem b9H {a : Am} {x : Ast} {u : List Nm.Rt} {p : Bool} (ha : J6 a = 0) (hx : Asb 1048576 x) (hu : ∀ r ∈ u, Rb 1048576 r) : (∀ r ∈ (a1W a x u p).q, Rb 2097664 r) /\ ∀ r ∈ (a1W a x u p).v, Rb 2097664 r := by
 have hv : ∀ r ∈ a3b a x, Rb 1048585 r := fun r hr => by
  obtain ⟨l, hl, v, hv, rfl⟩ := b6R hr
  have h1 := hx.2.2 v hv
  have h2 := b3T ((a1N ha).2 l hl)
  unfold a1z
  split
  ·exact M6.mono (by decide)
  split
  ·exact b1m h1 h2 (by decide) (by decide) (by decide)
  ·exact (J9 (h1.fit (by decide)) (h2.fit (by decide))).mono (by decide)
 unfold a1W
 split
 ·refine ⟨fun r hr => ?_, fun r hr => (hu r hr).mono (by decide)⟩
  obtain ⟨q, hq, v, hv, rfl⟩ := b6R (show r ∈ mvQ x u from hr)
  exact b1m (hx.1.2 q hq) (hu v hv) (by decide) (by decide) (by decide)
 ·refine ⟨fun r hr => ?_, fun r hr => (hv r hr).mono (by decide)⟩
  obtain ⟨q, hq, v, hv', rfl⟩ := b6R (show r ∈ a4k a x from hr)
  exact b1m (hx.1.2 q hq) (hv v hv') (by decide) (by decide) (by decide)
theorem b6G (w : Wk) (P : List Fr) (z : Am × Ast) : (a8C w P z).length = P.length := by
 unfold a8C
 split
 ·rfl
 ·split
  ·simp
  ·rfl
theorem b1s (w : Wk) : ∀ (l : List (Am × Ast)) (P : List Fr), (l.foldl (a8C w) P).length = P.length
 | [], _ => rfl
 | z :: l, P => by rw [List.foldl_cons, b1s w l, b6G]
theorem fold_at {α β : Type} {f : β -> α -> β} {l : List α} {i : Nat} {x : α} (h : l[i]? = some x) (b : β) : (l.take (i + 1)).foldl f b = f ((l.take i).foldl f b) x := by
 rw [take_at h, List.foldl_append]; rfl
set_option maxRecDepth 10000
set_option maxHeartbeats 8000000
instance : DecidableEq Nm.Rt := fun ⟨a, b, c⟩ ⟨d, e, f⟩ => decidable_of_iff (a = d /\ b = e /\ c = f) ⟨fun ⟨h1, h2, h3⟩ => by rw [h1, h2, h3], fun h => by injection h with h1 h2 h3; exact ⟨h1, h2, h3⟩⟩
instance : DecidableEq Vt := fun ⟨a, b⟩ ⟨d, e⟩ => decidable_of_iff (a = d /\ b = e) ⟨fun ⟨h1, h2⟩ => by rw [h1, h2], fun h => by injection h with h1 h2; exact ⟨h1, h2⟩⟩
instance : DecidableEq Fr := fun ⟨a, b, c, g⟩ ⟨d, e, f, h⟩ => decidable_of_iff (a = d /\ b = e /\ c = f /\ g = h) ⟨fun ⟨h1, h2, h3, h4⟩ => by rw [h1, h2, h3, h4], fun h => by injection h with h1 h2 h3 h4; exact ⟨h1, h2, h3, h4⟩⟩
instance : DecidableEq Ast := fun ⟨a, b, c, g⟩ ⟨d, e, f, h⟩ => decidable_of_iff (a = d /\ b = e /\ c = f /\ g = h) ⟨fun ⟨h1, h2, h3, h4⟩ => by rw [h1, h2, h3, h4], fun h => by injection h with h1 h2 h3 h4; exact ⟨h1, h2, h3, h4⟩⟩
instance : DecidableEq Stt := fun ⟨a, b, c, g, i⟩ ⟨d, e, f, h, j⟩ => decidable_of_iff (a = d /\ b = e /\ c = f /\ g = h /\ i = j) ⟨fun ⟨h1, h2, h3, h4, h5⟩ => by rw [h1, h2, h3, h4, h5], fun h => by injection h with h1 h2 h3 h4 h5; exact ⟨h1, h2, h3, h4, h5⟩⟩
theorem b9b (a b : List Nm.Rt) (hn : a.length <= 1000000000000) (hb : b.length <= 1000000000000) : u6 Tryz.prog 144 [rts a, rts b] (.v (.bool (decide (a = b)))) := by
  refine kS Tryz.func144 (by cbv) (by rfl) fun w O => ?_
  simp only [j6, ints, rts]
  (repeat first | refine uA ?_ | (refine uK ?_ ?_; focus first | omega | (intros; simp_all <;> omega)) | simp (disch := omega) only [go_sem, Nat.reduceBEq, Nat.reduceAdd, ww, c1y])
  (refine uJ rfl (fun hc => ?_) fun hc => ?_)
  · have hne : ¬ a = b := fun e => hc (by rw [e])
    rw [decide_eq_false hne]
    (repeat first | refine uA ?_ | (refine uK ?_ ?_; focus first | omega | (intros; simp_all <;> omega)) | simp (disch := omega) only [go_sem, Nat.reduceBEq, Nat.reduceAdd, ww])
    exact S.done (d9.out rfl (Imp.refl rfl) rfl)
  have hlen : a.length = b.length := by omega
  (repeat first | refine uA ?_ | (refine uK ?_ ?_; focus first | omega | (intros; simp_all <;> omega)) | simp (disch := omega) only [go_sem, Nat.reduceBEq, Nat.reduceAdd, ww, c1y])
  refine S.loop (X := Nat) (fun i => ⟨[(0, rts a), (1, rts b), (12, ints a.length), (13, ints i)], []⟩)
    (fun i => i <= a.length /\ a.take i = b.take i) (fun i => a.length - i) 0 ⟨c1H _, by simp⟩ (by (repeat first | refine uA ?_ | (refine ⟨?_, ?_⟩; focus first | rfl | simp [slot]) | rfl | simp)) ?_
  rintro i ⟨hi, he⟩
  simp only [ints, rts] at hi ⊢
  (repeat first | refine uA ?_ | (refine uK ?_ ?_; focus first | omega | (intros; simp_all <;> omega)) | simp (disch := omega) only [go_sem, Nat.reduceBEq, Nat.reduceAdd, ww])
  (refine uJ rfl (fun hc => ?_) fun hc => ?_)
  · have hgi := c1x (show i < a.length by omega)
    have hgj := c1x (show i < b.length by omega)
    have hti := c2o (show i < a.length by omega)
    have htj := c2o (show i < b.length by omega)
    generalize a[i]'_ = z at hgi hti
    generalize b[i]'_ = y at hgj htj
    by_cases hzy : z = y
    · subst hzy
      (repeat first | refine uA ?_ | (refine uK ?_ ?_; focus first | omega | (intros; simp_all <;> omega)) | simp (disch := omega) only [go_sem, Nat.reduceBEq, Nat.reduceAdd, ww, hgi, hgj, c1z, c1y, rcs, sb, c1B, a5b, beq_self_eq_true, decide_true])
      refine S.cond rfl (fun hc2 => by simp at hc2) (fun hc2 => ?_)
      (repeat first | refine uA ?_ | (refine uK ?_ ?_; focus first | omega | (intros; simp_all <;> omega)) | simp (disch := omega) only [go_sem, Nat.reduceBEq, Nat.reduceAdd, ww])
      refine S.next (i + 1) ⟨by omega, by rw [hti, htj, he]⟩ (by omega) (by (repeat first | refine uA ?_ | (refine ⟨?_, ?_⟩; focus first | rfl | simp [slot]) | rfl | simp))
    · have hne : ¬ a = b := fun e => by
        subst e
        rw [hgi] at hgj
        injection hgj with hgj
        exact hzy hgj
      obtain ⟨z1, z2, z3⟩ := z
      obtain ⟨y1, y2, y3⟩ := y
      (repeat first | refine uA ?_ | (refine uK ?_ ?_; focus first | omega | (intros; simp_all <;> omega)) | simp (disch := omega) only [go_sem, Nat.reduceBEq, Nat.reduceAdd, ww, hgi, hgj, c1z, c1y, rcs, sb, c1B, a5b])
      refine S.cond rfl (fun hc2 => ?_) (fun hc2 => by simp at hc2 hzy; simp_all)
      rw [decide_eq_false hne]
      (repeat first | refine uA ?_ | (refine uK ?_ ?_; focus first | omega | (intros; simp_all <;> omega)) | simp (disch := omega) only [go_sem, Nat.reduceBEq, Nat.reduceAdd, ww])
      exact S.done (d9.out rfl (Imp.refl rfl) rfl)
  have hi' : i = a.length := by omega
  subst hi'
  have hab : a = b := by
    rw [c1U] at he
    rw [hlen, c1U] at he
    exact he
  rw [decide_eq_true hab]
  (repeat first | refine uA ?_ | (refine uK ?_ ?_; focus first | omega | (intros; simp_all <;> omega)) | simp (disch := omega) only [go_sem, Nat.reduceBEq, Nat.reduceAdd, ww])
  exact S.done (d9.out rfl (Imp.refl rfl) rfl)
def R4 (x : Ast) : Bool := x.v.any fun v => !decide (r9 (Nm.j3 v) = 0)
theorem b5w (a : Nm.Rt) (ha : Rb 17179869184 a) : FZ 151 [rc a] (.v (.bool (!decide (r9 (Nm.j3 a) = 0)))) := by
 refine kW Tryz.func151 (by cbv) (by rfl) fun w O hw => ?_
 have h := K8 a ha
 generalize r9 (Nm.j3 a) = n at *
 simp only [j6]
 simp only [rc, sb, ints] at *
 (repeat first | refine uA ?_ | (refine uK ?_ ?_; focus first | omega | (intros; simp_all <;> omega)) | simp (disch := omega) only [go_sem, Nat.reduceBEq, Nat.reduceAdd, ww] | (refine uD h ?_ ?_ ?_; exact tz hw; exact rfl))
 exact S.done (d9.out rfl (Imp.refl rfl) rfl)
theorem b6S (x : Ast) (hx : Asb 1073741824 x) : FZ 43 [x.c] (.v (.bool (R4 x))) := by
 refine kW Tryz.func43 (by cbv) (by rfl) fun w O hw => ?_
 have h := a7m 151 (by kernel_rfl) (fun v => !decide (r9 (Nm.j3 v) = 0)) x.v (by have := hx.2.1; omega) (fun v hv => b5w v ((hx.2.2 v hv).mono (by decide)))
 unfold R4
 generalize (x.v.any fun v => !decide (r9 (Nm.j3 v) = 0)) = q at *
 obtain ⟨xq, xv, xp, xh⟩ := x
 simp only [j6]
 simp only [Ast.c, Ast.enc, rts, sb, ints] at *
 (repeat first | refine uA ?_ | (refine uK ?_ ?_; focus first | omega | (intros; simp_all <;> omega)) | simp (disch := omega) only [go_sem, Nat.reduceBEq, Nat.reduceAdd, ww] | (refine uD h ?_ ?_ ?_; exact tz hw; exact rfl))
 exact S.done (d9.out rfl (Imp.refl rfl) rfl)
set_option maxHeartbeats 4000000
def azL : List UInt8 := [97, 98, 99, 100, 101, 102, 103, 104, 105, 106, 107, 108, 109, 110, 111, 112, 113, 114, 115, 116, 117, 118, 119, 120, 121, 122]
theorem c0d : ∀ n : Fin 256, azL.contains (UInt8.ofNat n) = H8 (UInt8.ofNat n) := by decide +kernel
theorem b4w (b : UInt8) : azL.contains b = H8 b := by
 have h := c0d ⟨b.toNat, b.toNat_lt⟩
 simpa using h
theorem b4p {p : UInt8 -> Bool} {x : UInt8} : ∀ {l : List UInt8}, x ∈ l.takeWhile p -> p x = true
 | [], h => by simp at h
 | y :: l, h => by
  rw [List.takeWhile_cons] at h
  split at h
  ·rcases List.mem_cons.1 h with rfl | h
   ·assumption
   ·exact b4p h
  ·cases h
theorem b0q {p : UInt8 -> Bool} : ∀ {l : List UInt8}, l.dropWhile p = [] <-> l.all p = true
 | [] => by simp
 | x :: l => by
  rw [List.dropWhile_cons, List.all_cons]
  cases h : p x
  ·simp
  ·simpa using b0q (p := p) (l := l)
theorem b6r (l : List UInt8) : Lib.trimS l azL = [] <-> l.all H8 = true := by
 have hf : (fun b => azL.contains b) = H8 := funext b4w
 unfold Lib.trimS Lib.trimLeftS Lib.trimRightS
 rw [hf, b0q]
 constructor
 ·intro h
  rw [List.all_eq_true] at h ⊢
  intro x hx
  cases hl : H8 x with
  | true => rfl
  | false =>
   have : x ∈ (l.reverse.dropWhile H8).reverse := by
    rw [List.mem_reverse]
    have hx' : x ∈ l.reverse := List.mem_reverse.2 hx
    rw [<- List.takeWhile_append_dropWhile (p := H8) (l := l.reverse)] at hx'
    rcases List.mem_append.1 hx' with h1 | h1
    ·have := b4p h1
     rw [hl] at this; cases this
    ·exact h1
   have := h x this
   rw [hl] at this; cases this
 ·intro h
  rw [List.all_eq_true] at h ⊢
  intro x hx
  exact h x (List.mem_reverse.1 ((List.dropWhile_sublist _).mem (List.mem_reverse.1 hx)))
theorem b8u (s : List UInt8) (hs : s.length <= 1099511627776) : u6 Tryz.prog 82 [sb s, .v (.string ⟨#[97, 98, 99, 100, 101, 102, 103, 104, 105, 106, 107, 108, 109, 110, 111, 112, 113, 114, 115, 116, 117, 118, 119, 120, 121, 122]⟩)] (sb (Lib.trimS s azL)) := by
 intro O w vs hO hA
 simp only [FzL, sb, Fz] at hA
 obtain ⟨y, ys, rfl, rfl, z, zs, rfl, rfl, rfl⟩ := hA
 refine (Any.strings_Trim_laid Tryz.b9m (by kernel_rfl) (bs s) ⟨#[97, 98, 99, 100, 101, 102, 103, 104, 105, 106, 107, 108, 109, 110, 111, 112, 113, 114, 115, 116, 117, 118, 119, 120, 121, 122]⟩ w (by rw [w9]; omega) (by decide) (ascii_of_all (by decide))).mono ?_
 rintro e w' ⟨rfl, hb⟩
 exact ⟨_, rfl, hb, by simp only [sb, Fz, O8]; rfl⟩
theorem b7X (s : List UInt8) (hs : s.length <= 1099511627776) : u6 Tryz.prog 20 [sb s] (.v (.bool (a0u s))) := by
 refine kS Tryz.func20 (by cbv) (by rfl) fun w O => ?_
 have h := b8u s hs
 have e : a0u s = ((!decide (s = []) && decide ((s.length : Int) <= 12)) && decide (Lib.trimS s azL = [])) := by
  have h1 : decide (Lib.trimS s azL = []) = s.all H8 := by
   have := b6r s
   cases h : s.all H8
   ·exact decide_eq_false (fun h2 => by rw [this.1 h2] at h; cases h)
   ·exact decide_eq_true (this.2 h)
  have h2 : (s.all fun b => decide (97 <= b.toNat) && decide (b.toNat <= 122)) = s.all H8 := rfl
  have h3 : decide (1 <= s.length) = !decide (s = []) := by cases s <;> simp
  have h4 : decide (s.length <= 12) = decide ((s.length : Int) <= 12) := by apply decide_eq_decide.2; omega
  unfold a0u
  rw [h1, h2, h3, h4]
  cases s.all H8 <;> cases (decide (s = [])) <;> cases (decide ((s.length : Int) <= 12)) <;> rfl
 rw [e]
 generalize Lib.trimS s azL = t at *
 simp only [j6]
 simp only [sb] at *
 (repeat first | refine uA ?_ | (refine uK ?_ ?_; focus first | omega | (intros; simp_all <;> omega)) | simp (disch := omega) only [go_sem, Nat.reduceBEq, Nat.reduceAdd, ww, w9, a0d, decide_not] | (refine uB h ?_ ?_; exact rfl))
 exact S.done (d9.out rfl (Imp.refl rfl) rfl)
theorem a3L {α : Type} {f : α -> Bool} {l : List α} {i : Nat} {x : α} (h : l[i]? = some x) : (l.drop i).all f = (f x && (l.drop (i + 1)).all f) := by
 obtain ⟨h1, h2⟩ := c1F.1 h
 rw [List.drop_eq_getElem_cons h1, List.all_cons, h2]
theorem a4T {α : Type} {f : α -> Bool} {l : List α} {i : Nat} (h : l.length <= i) : (l.drop i).all f = true := by rw [List.drop_eq_nil_of_le h]; rfl
theorem X5 {a : Nm.Rt} : j4 a = (decide a.D6 && j4 a) := by
 unfold j4
 cases decide a.D6 <;> simp
theorem a3M (l : List Nm.Rt) (hl : Rbs 17179869184 l) : FZ 85 [rts l] (.v (.bool (l.all j4))) := by
 refine kW Tryz.func85 (by cbv) (by rfl) fun w O hw => ?_
 obtain ⟨hn, hb⟩ := hl
 simp only [j6, rts]
 (repeat first | refine uA ?_ | (refine uK ?_ ?_; focus first | omega | (intros; simp_all <;> omega)) | simp (disch := omega) only [go_sem, Nat.reduceBEq, Nat.reduceAdd, ww, c1y])
 refine S.loop (X := Nat) (fun i => ⟨[(5, rts l), (6, ints l.length), (7, ints i)], []⟩) (fun i => i <= l.length /\ l.all j4 = (l.drop i).all j4) (fun i => l.length - i) 0 ⟨c1H _, rfl⟩ (by (repeat first | refine uA ?_ | (refine ⟨?_, ?_⟩; focus first | rfl | simp [slot]) | rfl | simp)) ?_
 rintro i ⟨hi, hg⟩
 simp only [rts, ints] at hi ⊢
 (repeat first | refine uA ?_ | (refine uK ?_ ?_; focus first | omega | (intros; simp_all <;> omega)) | simp (disch := omega) only [go_sem, Nat.reduceBEq, Nat.reduceAdd, ww])
 (refine uJ rfl (fun hc => ?_) fun hc => ?_)
 ·have hgi := c1x (show i < l.length by omega)
  generalize l[i]'(_) = x at hgi
  have hx := hb x (c1A hgi)
  have hs := a3L (f := j4) hgi
  have o1 := a0z x (hx.mono (by decide))
  have o2 := a2u x hx
  rw [X5] at hs
  generalize decide x.D6 = q1 at *
  generalize j4 x = q2 at *
  simp only [rc, sb] at o1 o2
  (repeat first | refine uA ?_ | (refine uK ?_ ?_; focus first | omega | (intros; simp_all <;> omega)) | simp (disch := omega) only [go_sem, Nat.reduceBEq, Nat.reduceAdd, ww, hgi, c1z, c1y, rcs, sb, c1B] | (refine uD o1 ?_ ?_ ?_; exact tz hw; exact rfl) | (refine uD o2 ?_ ?_ ?_; exact tz hw; exact rfl))
  refine S.cond rfl (fun hc2 => ?_) (fun hc2 => ?_)
  ·rw [hg, hs, show (q1 && q2) = false by cases q1 <;> cases q2 <;> simp_all, Bool.false_and]
   (repeat first | refine uA ?_ | (refine uK ?_ ?_; focus first | omega | (intros; simp_all <;> omega)) | simp (disch := omega) only [go_sem, Nat.reduceBEq, Nat.reduceAdd, ww])
   exact S.done (d9.out rfl (Imp.refl rfl) rfl)
  ·(repeat first | refine uA ?_ | (refine uK ?_ ?_; focus first | omega | (intros; simp_all <;> omega)) | simp (disch := omega) only [go_sem, Nat.reduceBEq, Nat.reduceAdd, ww])
   refine S.next (i + 1) ⟨by omega, by rw [hg, hs, show (q1 && q2) = true by cases q1 <;> cases q2 <;> simp_all, Bool.true_and]⟩ (by omega) (by (repeat first | refine uA ?_ | (refine ⟨?_, ?_⟩; focus first | rfl | simp [slot]) | rfl | simp))
 ·rw [hg, a4T (by omega)]
  (repeat first | refine uA ?_ | (refine uK ?_ ?_; focus first | omega | (intros; simp_all <;> omega)) | simp (disch := omega) only [go_sem, Nat.reduceBEq, Nat.reduceAdd, ww])
  exact S.done (d9.out rfl (Imp.refl rfl) rfl)
theorem a6x (l : List Nm.Rt) (hl : Rbs 17179869184 l) : FZ 140 [rts l] (.v (.bool (l.all F5))) := by
 refine kW Tryz.func140 (by cbv) (by rfl) fun w O hw => ?_
 obtain ⟨hn, hb⟩ := hl
 simp only [j6, rts]
 (repeat first | refine uA ?_ | (refine uK ?_ ?_; focus first | omega | (intros; simp_all <;> omega)) | simp (disch := omega) only [go_sem, Nat.reduceBEq, Nat.reduceAdd, ww, c1y])
 refine S.loop (X := Nat) (fun i => ⟨[(5, rts l), (6, ints l.length), (7, ints i)], []⟩) (fun i => i <= l.length /\ l.all F5 = (l.drop i).all F5) (fun i => l.length - i) 0 ⟨c1H _, rfl⟩ (by (repeat first | refine uA ?_ | (refine ⟨?_, ?_⟩; focus first | rfl | simp [slot]) | rfl | simp)) ?_
 rintro i ⟨hi, hg⟩
 simp only [rts, ints] at hi ⊢
 (repeat first | refine uA ?_ | (refine uK ?_ ?_; focus first | omega | (intros; simp_all <;> omega)) | simp (disch := omega) only [go_sem, Nat.reduceBEq, Nat.reduceAdd, ww])
 (refine uJ rfl (fun hc => ?_) fun hc => ?_)
 ·have hgi := c1x (show i < l.length by omega)
  generalize l[i]'(_) = x at hgi
  have hx := hb x (c1A hgi)
  have hs := a3L (f := F5) hgi
  have o1 := a0z x (hx.mono (by decide))
  rw [show decide x.D6 = F5 x from rfl] at o1
  generalize F5 x = q1 at *
  simp only [rc, sb] at o1
  (repeat first | refine uA ?_ | (refine uK ?_ ?_; focus first | omega | (intros; simp_all <;> omega)) | simp (disch := omega) only [go_sem, Nat.reduceBEq, Nat.reduceAdd, ww, hgi, c1z, c1y, rcs, sb, c1B] | (refine uD o1 ?_ ?_ ?_; exact tz hw; exact rfl))
  refine S.cond rfl (fun hc2 => ?_) (fun hc2 => ?_)
  ·rw [hg, hs, show q1 = false by simpa using hc2, Bool.false_and]
   (repeat first | refine uA ?_ | (refine uK ?_ ?_; focus first | omega | (intros; simp_all <;> omega)) | simp (disch := omega) only [go_sem, Nat.reduceBEq, Nat.reduceAdd, ww])
   exact S.done (d9.out rfl (Imp.refl rfl) rfl)
  ·(repeat first | refine uA ?_ | (refine uK ?_ ?_; focus first | omega | (intros; simp_all <;> omega)) | simp (disch := omega) only [go_sem, Nat.reduceBEq, Nat.reduceAdd, ww])
   refine S.next (i + 1) ⟨by omega, by rw [hg, hs, show q1 = true by simpa using hc2, Bool.true_and]⟩ (by omega) (by (repeat first | refine uA ?_ | (refine ⟨?_, ?_⟩; focus first | rfl | simp [slot]) | rfl | simp))
 ·rw [hg, a4T (by omega)]
  (repeat first | refine uA ?_ | (refine uK ?_ ?_; focus first | omega | (intros; simp_all <;> omega)) | simp (disch := omega) only [go_sem, Nat.reduceBEq, Nat.reduceAdd, ww])
  exact S.done (d9.out rfl (Imp.refl rfl) rfl)
theorem okF_eq (f : Fr) : okF f = ([f.x, f.y, f.t].all j4 && !a1R f.half f.t) := by
 rw [a4j, X5 (a := f.x), X5 (a := f.y), X5 (a := f.t)]
 unfold okF okV
 simp only
 generalize a1R f.half f.t = z
 cases decide f.x.D6 <;> cases decide f.y.D6 <;> cases decide f.t.D6 <;> cases j4 f.x <;> cases j4 f.y <;> cases j4 f.t <;> cases z <;> rfl
theorem b0A (v : Vt) : okV v = [v.x, v.y].all j4 := by
 rw [a4N, X5 (a := v.x), X5 (a := v.y)]
 unfold okV
 cases decide v.x.D6 <;> cases decide v.y.D6 <;> cases j4 v.x <;> cases j4 v.y <;> rfl
theorem b1o (f : Fr) (hf : Fb 17179869184 f) : FZ 22 [f.c] (.v (.bool (okF f))) := by
 refine kW Tryz.func22 (by cbv) (by rfl) fun w O hw => ?_
 rw [okF_eq]
 obtain ⟨x, y, half, t⟩ := f
 obtain ⟨b1, b2, b3⟩ := hf
 simp only at b1 b2 b3
 have h1 := a3M _ (Rbs.three (by decide) b1 b2 b3)
 have h4 := K8 t b3
 unfold a1R
 simp only
 generalize [x, y, t].all j4 = q1 at *
 generalize r9 (Nm.j3 t) = n at *
 simp only [j6]
 simp only [Fr.c, Fr.enc, rts, rcs, rc, sb, ints, c1R, c2d] at *
 (repeat first | refine uA ?_ | (refine uK ?_ ?_; focus first | omega | (intros; simp_all <;> omega)) | simp (disch := omega) only [go_sem, Nat.reduceBEq, Nat.reduceAdd, ww] | (refine uD h4 ?_ ?_ ?_; exact tz hw; exact rfl) | (refine uE h1 ?_ ?_ ?_ ?_; exact tz hw; exact rfl; focus (repeat' first | exact j5.nil | exact Imp.refl rfl | exact Imp.frz rfl rfl rfl | (refine Imp.M5 rfl rfl ?_ ?_; (focus ((try simp only [c1C]); omega)); (focus first | rfl | assumption)) | refine j5.cons ?_ ?_); done))
 exact S.done (d9.out rfl (Imp.refl (by rfl)) rfl)
theorem b0N (l : List Vt) (hl : Vbs 1073741824 l) : FZ 100 [vts l] (ints (L8 l)) := by
 refine kW Tryz.func100 (by cbv) (by rfl) fun w O hw => ?_
 have h1 := a4v l hl
 obtain ⟨hn, hb⟩ := hl
 unfold L8
 generalize U7 l 8 = e at *
 simp only [j6]
 simp only [vts, ints] at *
 (repeat first | refine uA ?_ | (refine uK ?_ ?_; focus first | omega | (intros; simp_all <;> omega)) | simp (disch := omega) only [go_sem, Nat.reduceBEq, Nat.reduceAdd, ww] | (refine uD h1 ?_ ?_ ?_; exact tz hw; exact rfl))
 refine S.cond rfl (fun hc => ?_) (fun hc => ?_)
 ·rw [if_pos (by simpa using hc)]
  (repeat first | refine uA ?_ | (refine uK ?_ ?_; focus first | omega | (intros; simp_all <;> omega)) | simp (disch := omega) only [go_sem, Nat.reduceBEq, Nat.reduceAdd, ww])
  exact S.done (d9.out rfl (Imp.refl rfl) rfl)
 rw [if_neg (by simpa using hc)]
 (repeat first | refine uA ?_ | (refine uK ?_ ?_; focus first | omega | (intros; simp_all <;> omega)) | simp (disch := omega) only [go_sem, Nat.reduceBEq, Nat.reduceAdd, ww, c1y])
 refine S.loop (X := Nat) (fun i => ⟨[(11, vts l), (12, ints l.length), (13, ints i)], []⟩) (fun i => i <= l.length /\ l.all okV = (l.drop i).all okV) (fun i => l.length - i) 0 ⟨c1H _, rfl⟩ (by (repeat first | refine uA ?_ | (refine ⟨?_, ?_⟩; focus first | rfl | simp [slot]) | rfl | simp)) ?_
 rintro i ⟨hi, hg⟩
 simp only [vts, ints] at hi ⊢
 (repeat first | refine uA ?_ | (refine uK ?_ ?_; focus first | omega | (intros; simp_all <;> omega)) | simp (disch := omega) only [go_sem, Nat.reduceBEq, Nat.reduceAdd, ww])
 (refine uJ rfl (fun hc => ?_) fun hc => ?_)
 ·have hgi := c1x (show i < l.length by omega)
  generalize l[i]'(_) = v at hgi
  have hv := hb v (c1A hgi)
  have hs := a3L (f := okV) hgi
  rw [b0A] at hs
  have o1 := a3M _ (Rbs.two (by decide) (hv.1.mono (m := 17179869184) (by decide)) (hv.2.mono (m := 17179869184) (by decide)))
  generalize [v.x, v.y].all j4 = q at *
  simp only [rts, rcs, sb, c1R, c2d] at o1
  (repeat first | refine uA ?_ | (refine uK ?_ ?_; focus first | omega | (intros; simp_all <;> omega)) | simp (disch := omega) only [go_sem, Nat.reduceBEq, Nat.reduceAdd, ww, hgi, c1z, c1y, Vt.enc, sb, c1B] | (refine uE o1 ?_ ?_ ?_ ?_; exact tz hw; exact rfl; focus (repeat' first | exact j5.nil | exact Imp.refl rfl | exact Imp.frz rfl rfl rfl | (refine Imp.M5 rfl rfl ?_ ?_; (focus ((try simp only [c1C, hgi, c1z, c1y, Vt.enc, sb, c1B]); omega)); (focus first | rfl | assumption)) | refine j5.cons ?_ ?_); done))
  refine S.cond rfl (fun hc2 => ?_) (fun hc2 => ?_)
  ·rw [hg, hs, show q = false by simpa using hc2, Bool.false_and, if_neg (by decide)]
   (repeat first | refine uA ?_ | (refine uK ?_ ?_; focus first | omega | (intros; simp_all <;> omega)) | simp (disch := omega) only [go_sem, Nat.reduceBEq, Nat.reduceAdd, ww])
   exact S.done (d9.out rfl (Imp.refl rfl) rfl)
  ·(repeat first | refine uA ?_ | (refine uK ?_ ?_; focus first | omega | (intros; simp_all <;> omega)) | simp (disch := omega) only [go_sem, Nat.reduceBEq, Nat.reduceAdd, ww])
   refine S.next (i + 1) ⟨by omega, by rw [hg, hs, show q = true by simpa using hc2, Bool.true_and]⟩ (by omega) (by (repeat first | refine uA ?_ | (refine ⟨?_, ?_⟩; focus first | rfl | simp [slot]) | rfl | simp))
 ·rw [hg, a4T (by omega), if_pos rfl]
  (repeat first | refine uA ?_ | (refine uK ?_ ?_; focus first | omega | (intros; simp_all <;> omega)) | simp (disch := omega) only [go_sem, Nat.reduceBEq, Nat.reduceAdd, ww])
  exact S.done (d9.out rfl (Imp.refl rfl) rfl)
end Go.Proofs.YtogfpjohjphngaaGreatDoor
namespace Go.Proofs.YtogfpjohjphngaaGreatDoor.Eng
open Go Go.RowKit
theorem l8.b3K {E : Ctx} {rs rs' : List Res} {pk : List Nat} (ex : List Res) {f : Nat} {args : List C} {s : C} (h : l8 E rs f args s rs' pk) (hl : rs'.length = rs.length) (hb : rs.all (Res.bdr rs.length) = true) (ha : C.bdL rs.length args = true) : l8 E (rs ++ ex) f args s (rs' ++ ex.map (Res.y7 pk)) pk := by
 intro av ν w vs hR hav hF hD
 have hlen := hR.len
 have hl1 : (ν.take rs.length).length = rs.length := by rw [c1M, hlen, c1C]; omega
 generalize hν1 : ν.take rs.length = ν1 at hl1
 have hown := fun b => a2V hlen b
 rw [hν1] at hown
 have hx : ∀ b k r x, ex[k]? = some r -> ν[rs.length + k]? = some x -> fp r x b -> ¬ owned rs ν1 b := by
  rintro b k r x h1 h2 h3 ⟨l, q, y, g1, g2, g3⟩
  have hlt := (c1F.1 g1).1
  rw [<- hν1] at g2
  exact hR.dis l (rs.length + k) q r y x b (by omega) (by rw [c1K hlt]; exact g1) (by rw [c1P (by omega), show rs.length + k - rs.length = k by omega]; exact h1) (V4 g2) h2 g3 h3
 let av' : Nat -> Prop := fun b => OO av (rs ++ ex) ν b /\ ¬ owned rs ν1 b
 have hOO : ∀ b, OO av' rs ν1 b -> OO av (rs ++ ex) ν b := fun b hb => by
  rcases hb with hb | hb
  ·exact hb.1
  ·exact .inr ((hown b).2 (.inl hb))
 have hRG : RG av' E.own0 E.w0.heap.size ν1 rs w := by
  refine ⟨hl1, fun k r hk => ?_, fun l m q q' y y' b hne h1 h2 h3 h4 => ?_, fun b hb => ?_, fun b hb => ?_, hR.n0⟩
  ·have hlt := (c1F.1 hk).1
   obtain ⟨x, hx, hok⟩ := hR.res k r (by rw [c1K hlt]; exact hk)
   refine ⟨x, by rw [<- hν1]; exact I5 hlt hx, ?_⟩
   rw [<- hν1]
   rw [List.all_eq_true] at hb
   exact b5c (hb r (c1A hk)) (by rw [hν1]; exact hOO) hok
  ·have g1 := (c1F.1 h1).1
   have g2 := (c1F.1 h2).1
   rw [<- hν1] at h3 h4
   exact hR.dis l m q q' y y' b hne (by rw [c1K g1]; exact h1) (by rw [c1K g2]; exact h2) (V4 h3) (V4 h4)
  ·obtain ⟨g1, g2, g3⟩ := hR.low b ((hown b).2 (.inl hb))
   exact ⟨g1, fun h => h.2 hb, g3⟩
  ·rcases hb.1 with h1 | h1
   ·exact hR.av b h1
   ·exact (hR.low b h1).1
 have hnav : ∀ b, av b -> ¬ owned rs ν1 b := fun b hb ho => (hR.low b ((hown b).2 (.inl ho))).2.1 hb
 have hD' : l6 ν1 w (OO av' rs ν1) args vs := by
  have := l6.keep (Keeps.sub hOO) (l6.takeν rs.length ha hD)
  rwa [hν1] at this
 refine (h av' ν1 w vs hRG (fun b hb => ⟨.inl (hav b hb), hnav b (hav b hb)⟩) hF hD').mono ?_
 rintro e w' ⟨y, ν', rfl, h1, h2, h3⟩
 have hl' : ν'.length = rs.length := by rw [h1.len, hl]
 let ν2 : List Value := ν' ++ ν.drop rs.length
 have hdl : (ν.drop rs.length).length = ex.length := by rw [c2l, hlen, c1C]; omega
 have hlen' : ν2.length = (rs' ++ ex.map (Res.y7 pk)).length := by rw [c1C, c1C, hl', hdl, hl, c1y]
 have tk : ν2.take rs'.length = ν' := by rw [hl, <- hl']; simp [ν2]
 have tl : ∀ k, ν2[rs.length + k]? = ν[rs.length + k]? := fun k => by
  show (ν' ++ ν.drop rs.length)[rs.length + k]? = _
  rw [c1P (by omega), hl', show rs.length + k - rs.length = k by omega, c2m]
 have hown' := fun b => a2V hlen' b
 rw [tk, hl] at hown'
 have hnu : U5 [] ν' ν2 := fun k x _ hx => by show (ν' ++ _)[k]? = _; rw [c1K (c1F.1 hx).1]; exact hx
 have hnu2 : U5 pk ν ν2 := fun k x hk hx => by
  rcases c1V k rs.length with h0 | h0
  ·show (ν' ++ _)[k]? = _
   rw [c1K (by omega)]
   exact h2.nu k x hk (by rw [<- hν1]; exact I5 h0 hx)
  ·have := tl (k - rs.length)
   rw [show rs.length + (k - rs.length) = k by omega] at this
   rw [this]; exact hx
 have hxo : ∀ b k r x, ex[k]? = some r -> ν[rs.length + k]? = some x -> fp r x b -> owned (rs ++ ex) ν b := fun b k r x g1 g2 g3 => (hown b).2 (.inr ⟨k, r, x, g1, g2, g3⟩)
 have hex : ∀ b, (∃ k r x, (ex.map (Res.y7 pk))[k]? = some r /\ ν2[rs.length + k]? = some x /\ fp r x b) -> ∃ k r x, ex[k]? = some r /\ ν[rs.length + k]? = some x /\ fp r x b := by
  rintro b ⟨k, r, x, g1, g2, g3⟩
  rw [c2n] at g1
  cases hk : ex[k]? with
  | none => rw [hk] at g1; cases g1
  | some r0 =>
   rw [hk] at g1
   simp only [c1z, Option.some.injEq] at g1
   subst g1
   rw [a0H] at g3
   exact ⟨k, r0, x, hk, by rw [<- tl]; exact g2, g3⟩
 have hOO' : ∀ b, OO av (rs' ++ ex.map (Res.y7 pk)) ν2 b -> OO av' rs' ν' b := fun b hb => by
  rcases hb with hb | hb
  ·exact .inl ⟨.inl hb, hnav b hb⟩
  ·rcases (hown' b).1 hb with hb | hb
   ·exact .inr hb
   ·obtain ⟨k, r, x, g1, g2, g3⟩ := hex b hb
    exact .inl ⟨.inr (hxo b k r x g1 g2 g3), hx b k r x g1 g2 g3⟩
 have hM : Mv (rs ++ ex) ν w pk (rs' ++ ex.map (Res.y7 pk)) ν2 w' := by
  refine ⟨h2.os, h2.tape, h2.output, h2.size, fun b hb hn => h2.block b hb fun ho => hn ((hown b).2 (.inl ho)), fun b hb => ?_, hnu2⟩
  rcases (hown' b).1 hb with hb | hb
  ·rcases h2.own b hb with g | g
   ·exact .inl ((hown b).2 (.inl g))
   ·exact .inr g
  ·obtain ⟨k, r, x, g1, g2, g3⟩ := hex b hb
   exact .inl (hxo b k r x g1 g2 g3)
 have old : ∀ {l q z}, l < rs'.length -> (rs' ++ ex.map (Res.y7 pk))[l]? = some q -> ν2[l]? = some z -> rs'[l]? = some q /\ ν'[l]? = some z := fun hlt a1 a2 => by
  rw [c1K hlt] at a1
  exact ⟨a1, by rw [<- tk]; exact I5 hlt a2⟩
 have new : ∀ {l q z b}, rs'.length <= l -> (rs' ++ ex.map (Res.y7 pk))[l]? = some q -> ν2[l]? = some z -> fp q z b -> ∃ q0, ex[l - rs'.length]? = some q0 /\ ν[rs.length + (l - rs'.length)]? = some z /\ fp q0 z b := fun {l q z b} hge a1 a2 a3 => by
  rw [c1P hge, c2n] at a1
  cases hk : ex[l - rs'.length]? with
  | none => rw [hk] at a1; cases a1
  | some q0 =>
   rw [hk] at a1
   simp only [c1z, Option.some.injEq] at a1
   subst a1
   rw [a0H] at a3
   refine ⟨q0, rfl, ?_, a3⟩
   rw [<- tl, show rs.length + (l - rs'.length) = l by omega]; exact a2
 refine ⟨y, ν2, rfl, ⟨hlen', fun k r hk => ?_, fun l m q q' z z' b hne g1 g2 g3 g4 g5 g6 => ?_, fun b hb => ?_, fun b hb => c1S (hR.av b hb) h2.size, c1G hR.n0 h2.size⟩, hM, Den.keep (Keeps.sub hOO') (Den.nu hnu (fun k hk => by cases hk) h3)⟩
 ·rcases c1V k rs'.length with hlt | hge
  ·rw [c1K hlt] at hk
   obtain ⟨x, hx', hok⟩ := h1.res k r hk
   exact ⟨x, hnu k x (fun hk => by cases hk) hx', b7N hnu hOO' hok⟩
  ·rw [c1P hge, c2n] at hk
   cases hk0 : ex[k - rs'.length]? with
   | none => rw [hk0] at hk; cases hk
   | some r0 =>
    rw [hk0] at hk
    simp only [c1z, Option.some.injEq] at hk
    subst hk
    have hk' : (rs ++ ex)[k]? = some r0 := by rw [c1P (by omega), <- hl]; exact hk0
    obtain ⟨x, hx', hok⟩ := hR.res k r0 hk'
    have hx2 : ν[rs.length + (k - rs'.length)]? = some x := by rw [show rs.length + (k - rs'.length) = k by omega]; exact hx'
    refine ⟨x, by have := tl (k - rs'.length); rw [show rs.length + (k - rs'.length) = k by omega] at this; rw [this]; exact hx', ?_⟩
    exact hok.mv (O' := OO av (rs' ++ ex.map (Res.y7 pk)) ν2) (hM.keeps (av := av)) hM.nu (fun b hf => h2.block b (hR.lt hk' hx' hf) (hx b (k - rs'.length) r0 x hk0 hx2 hf))
 ·rcases c1V l rs'.length with hl2 | hl2 <;> rcases c1V m rs'.length with hm2 | hm2
  ·obtain ⟨a1, a2⟩ := old hl2 g1 g3
   obtain ⟨a3, a4⟩ := old hm2 g2 g4
   exact h1.dis l m q q' z z' b hne a1 a3 a2 a4 g5 g6
  ·obtain ⟨a1, a2⟩ := old hl2 g1 g3
   obtain ⟨q0, a3, a4, a5⟩ := new hm2 g2 g4 g6
   rcases h2.own b ⟨l, q, z, a1, a2, g5⟩ with ho | ho
   ·exact hx b _ q0 z' a3 a4 a5 ho
   ·have := (hR.low b (hxo b _ q0 z' a3 a4 a5)).1; omega
  ·obtain ⟨q0, a1, a2, a5⟩ := new hl2 g1 g3 g5
   obtain ⟨a3, a4⟩ := old hm2 g2 g4
   rcases h2.own b ⟨m, q', z', a3, a4, g6⟩ with ho | ho
   ·exact hx b _ q0 z a1 a2 a5 ho
   ·have := (hR.low b (hxo b _ q0 z a1 a2 a5)).1; omega
  ·obtain ⟨q0, a1, a2, a5⟩ := new hl2 g1 g3 g5
   obtain ⟨q1, a3, a4, a6⟩ := new hm2 g2 g4 g6
   rw [show rs.length + (l - rs'.length) = l by omega] at a2
   rw [show rs.length + (m - rs'.length) = m by omega] at a4
   exact hR.dis l m q0 q1 z z' b hne (by rw [c1P (by omega), <- hl]; exact a1) (by rw [c1P (by omega), <- hl]; exact a3) a2 a4 a5 a6
 ·rcases (hown' b).1 hb with hb | hb
  ·obtain ⟨a1, a2, a3⟩ := h1.low b hb
   exact ⟨a1, fun ha => a2 ⟨.inl ha, hnav b ha⟩, a3⟩
  ·obtain ⟨k, r, x, g1, g2, g3⟩ := hex b hb
   obtain ⟨a1, a2, a3⟩ := hR.low b (hxo b k r x g1 g2 g3)
   exact ⟨c1S a1 h2.size, a2, a3⟩
theorem l8.quiet {P : Program} {f : Nat} {args : List C} {s s' : C} {rs' : List Res} (h : ∀ E : Ctx, E.P = P -> l8 E [] f args s rs' []) (hi : Imp rs' [] s s') (hc : s'.cl = true) : u6 P f args s' := by
 intro O w vs hO hA
 have ho0 : ∀ b, ¬ owned [] [] b := fun b ⟨k, r, x, hk, _⟩ => by simp at hk
 have hRG : RG O (fun _ => False) w.heap.size [] [] w := ⟨rfl, fun k r hk => by simp at hk, fun k l r r' x x' b _ hk => by simp at hk, fun b hb => (ho0 b hb).elim, hO, c1I _⟩
 have hsub : ∀ b, OO O [] [] b -> O b := fun b hb => hb.elim id fun h => (ho0 b h).elim
 refine (h ⟨P, fun _ => false, 0, w, fun _ => False, O, [], []⟩ rfl O [] w vs hRG (fun b hb => hb) ⟨rfl, rfl, rfl, c1I _, fun _ _ _ => rfl⟩ ((FzL.keep (Keeps.sub hsub) hA).den [])).mono ?_
 rintro e w' ⟨y, ν', rfl, h1, h2, h3⟩
 have hC : Cut O rs' [] ν' := Cut.of h1 (by simp [R3])
 have h4 := hi O (fun _ => False) w.heap.size ν' w' y h1 hC h3
 exact ⟨y, rfl, ⟨h2.os, h2.tape, h2.output, h2.size, fun b hb => h2.block b hb (ho0 b)⟩, Fz.keep (Keeps.sub fun b hb => .inl hb) (Den.fz hc h4)⟩
end Go.Proofs.YtogfpjohjphngaaGreatDoor.Eng
namespace Go.Proofs.YtogfpjohjphngaaGreatDoor
open Go Go.RowKit Eng
set_option maxRecDepth 10000
set_option maxHeartbeats 16000000
def nmR (n : Nms) : List (List C) := n.map fun s => [sb s]
theorem b9C (n : Nms) (s : List UInt8) (hn : n.length <= 1099511627776) : u6 Tryz.prog 202 [.sl 1 (nmR n), sb s] (ints (a1r (fun x => decide (s = x)) n)) := by
 refine kS Tryz.func202 (by cbv) (by rfl) fun w O => ?_
 simp only [j6, nmR, sb]
 (repeat first | refine uA ?_ | (refine uK ?_ ?_; focus first | omega | (intros; simp_all <;> omega)) | simp (disch := omega) only [go_sem, Nat.reduceBEq, Nat.reduceAdd, ww, c1y])
 refine S.loop (X := Nat) (fun i => ⟨[(0, .sl 1 (nmR n)), (1, sb s), (7, ints n.length), (8, ints i)], []⟩) (fun i => i <= n.length /\ ∀ j, j < i -> ∀ x, n[j]? = some x -> decide (s = x) = false) (fun i => n.length - i) 0 ⟨c1H _, fun _ h => absurd h (Nat.not_lt_zero _)⟩ (by simp only [nmR, sb]; exact (by (repeat first | refine uA ?_ | (refine ⟨?_, ?_⟩; focus first | rfl | simp [slot]) | rfl | simp))) ?_
 rintro i ⟨hi, hm⟩
 simp only [nmR, sb, ints]
 (repeat first | refine uA ?_ | (refine uK ?_ ?_; focus first | omega | (intros; simp_all <;> omega)) | simp (disch := omega) only [go_sem, Nat.reduceBEq, Nat.reduceAdd, ww])
 (refine uJ rfl (fun hc => ?_) fun hc => ?_)
 ·have hgi := c1x (show i < n.length by omega)
  generalize n[i]'(_) = x at hgi
  (repeat first | refine uA ?_ | (refine uK ?_ ?_; focus first | omega | (intros; simp_all <;> omega)) | simp (disch := omega) only [go_sem, Nat.reduceBEq, Nat.reduceAdd, ww, hgi, c1z, c1y, c1B, a5b])
  refine S.cond rfl (fun hc2 => ?_) (fun hc2 => ?_)
  ·rw [a3C (p := fun x => decide (s = x)) hgi hc2 hm]
   (repeat first | refine uA ?_ | (refine uK ?_ ?_; focus first | omega | (intros; simp_all <;> omega)) | simp (disch := omega) only [go_sem, Nat.reduceBEq, Nat.reduceAdd, ww])
   exact S.done (d9.out rfl (Imp.refl rfl) rfl)
  ·(repeat first | refine uA ?_ | (refine uK ?_ ?_; focus first | omega | (intros; simp_all <;> omega)) | simp (disch := omega) only [go_sem, Nat.reduceBEq, Nat.reduceAdd, ww])
   refine S.next (i + 1) ⟨by omega, fun j hj y hy => ?_⟩ (by omega) (by (repeat first | refine uA ?_ | (refine ⟨?_, ?_⟩; focus first | rfl | simp [slot]) | rfl | simp))
   rcases c1V j i with h1 | h1
   ·exact hm j h1 y hy
   ·have : j = i := by omega
    subst this
    rw [hgi] at hy
    cases hy
    exact hc2
 ·have hi' : i = n.length := by omega
  subst hi'
  rw [a2M hm]
  (repeat first | refine uA ?_ | (refine uK ?_ ?_; focus first | omega | (intros; simp_all <;> omega)) | simp (disch := omega) only [go_sem, Nat.reduceBEq, Nat.reduceAdd, ww])
  exact S.done (d9.out rfl (Imp.refl rfl) rfl)
theorem b8X (n : Nms) (s : List UInt8) : n.any (fun x => decide (s = x)) = n.contains s := by
 rw [Bool.eq_iff_iff, List.any_eq_true, List.contains_iff_mem]
 exact ⟨fun ⟨x, h1, h2⟩ => by rw [of_decide_eq_true h2]; exact h1, fun h => ⟨s, h, by simp⟩⟩
theorem b9u (n : Nms) (s : List UInt8) (hn : n.length <= 1099511627776) : u6 Tryz.prog 99 [.sl 1 (nmR n), sb s] (.v (.bool (n.contains s))) := by
 refine kS Tryz.func99 (by cbv) (by rfl) fun w O => ?_
 have h := b9C n s hn
 rw [<- b8X, <- a3u]
 generalize a1r (fun x => decide (s = x)) n = k at *
 simp only [j6]
 simp only [sb, ints] at *
 (repeat first | refine uA ?_ | (refine uK ?_ ?_; focus first | omega | (intros; simp_all <;> omega)) | simp (disch := omega) only [go_sem, Nat.reduceBEq, Nat.reduceAdd, ww] | (refine uB h ?_ ?_; exact rfl))
 exact S.done (d9.out rfl (Imp.refl rfl) rfl)
def rsR (w : Wk) (n : Nms) : List Res := [.box 31 w.enc, .box 153 [.rv 2], .row 9 1 (nmR n)]
theorem b8p {E : Ctx} (hP : E.P = Tryz.prog) (w : Wk) (n : Nms) (s : List UInt8) (hs : s.length <= 1099511627776) (hn : n.length <= 1000000) :
  l8 E (rsR w n) 98 [sb s, .bp 1 0] (ints (J7 n s).1) (rsR w (J7 n s).2) [2] := by
 obtain ⟨P, eff', N, w0, own0, av0, nu0, pk0⟩ := E
 simp only at hP
 subst hP
 refine l8.of (eff := eff) Tryz.func98 (by cbv) (by exact c1Q rfl) fun w' own av ν hν => ?_
 have hν0 : ν.length <= 3 := by rw [hν]; exact c1I _
 have h1 := b7X s hs
 have h2 := b9u n s (by omega)
 have hap : nmR (n ++ [s]) = nmR n ++ [[sb s]] := by simp [nmR]
 unfold J7
 generalize a0u s = q at *
 generalize n.contains s = c at *
 have hl : (nmR n).length = n.length := by simp [nmR]
 obtain ⟨arms, walls, parts, slots, gates, walk⟩ := w
 simp only [j6]
 simp only [rsR, Wk.enc, ams, wls, pts, sls, gts, sb, ints] at h1 h2 hap ⊢
 (repeat first | refine uA ?_ | (refine uK ?_ ?_; focus first | omega | (intros; simp_all <;> omega)) | simp (disch := omega) only [go_sem, Nat.reduceBEq, Nat.reduceAdd, ww] | (refine uB h1 ?_ ?_; exact rfl))
 refine S.cond rfl (fun hc => ?_) (fun hc => ?_)
 ·rw [if_pos (by simpa using hc)]
  (repeat first | refine uA ?_ | (refine uK ?_ ?_; focus first | omega | (intros; simp_all <;> omega)) | simp (disch := omega) only [go_sem, Nat.reduceBEq, Nat.reduceAdd, ww])
  (refine S.done ?_; simp only [p8, l7, go_sem, Nat.reduceBEq, Nat.reduceAdd, Nat.reduceLeDiff, Int.reduceToNat, Int.reducePow]; (repeat (refine ⟨?_, ?_⟩; focus first | trivial | omega | simp)); exact d9.O1 (Imp.refl rfl) (by (repeat first | refine uA ?_ | (refine ⟨?_, ?_⟩; focus first | rfl | simp [slot]) | rfl | simp)) (c1G hν0 (by simp)))
 rw [if_neg (by simpa using hc)]
 (repeat first | refine uA ?_ | (refine uK ?_ ?_; focus first | omega | (intros; simp_all <;> omega)) | simp (disch := omega) only [go_sem, Nat.reduceBEq, Nat.reduceAdd, ww] | (refine uC h2 ?_ ?_ ?_; exact rfl; focus (repeat' first | exact j5.nil | exact Imp.refl rfl | exact Imp.frz rfl rfl rfl | (refine Imp.M5 rfl rfl ?_ ?_; (focus ((try simp only [c1C]); omega)); (focus first | rfl | assumption)) | refine j5.cons ?_ ?_); done))
 refine S.cond rfl (fun hc => ?_) (fun hc => ?_)
 ·rw [if_pos hc]
  (repeat first | refine uA ?_ | (refine uK ?_ ?_; focus first | omega | (intros; simp_all <;> omega)) | simp (disch := omega) only [go_sem, Nat.reduceBEq, Nat.reduceAdd, ww])
  (refine S.done ?_; simp only [p8, l7, go_sem, Nat.reduceBEq, Nat.reduceAdd, Nat.reduceLeDiff, Int.reduceToNat, Int.reducePow]; (repeat (refine ⟨?_, ?_⟩; focus first | trivial | omega | simp)); exact d9.O1 (Imp.refl rfl) (by (repeat first | refine uA ?_ | (refine ⟨?_, ?_⟩; focus first | rfl | simp [slot]) | rfl | simp)) (c1G hν0 (by simp)))
 ·rw [if_neg (by rw [hc]; decide)]
  simp only [hap]
  (repeat first | refine uA ?_ | (refine uK ?_ ?_; focus first | omega | (intros; simp_all <;> omega)) | simp (disch := omega) only [go_sem, Nat.reduceBEq, Nat.reduceAdd, ww, hl])
  (refine S.done ?_; simp only [p8, l7, go_sem, Nat.reduceBEq, Nat.reduceAdd, Nat.reduceLeDiff, Int.reduceToNat, Int.reducePow]; (repeat (refine ⟨?_, ?_⟩; focus first | trivial | omega | simp)); exact d9.O1 (Imp.refl rfl) (by (repeat first | refine uA ?_ | (refine ⟨?_, ?_⟩; focus first | rfl | simp [slot]) | rfl | simp)) (c1G hν0 (by simp)))
theorem a5u (n : Nms) (s : List UInt8) : (J7 n s).2.length <= n.length + 1 := by
 unfold J7
 split
 ·simp
 ·split
  ·simp
  ·simp
theorem b2R (p q : Rat) : decide (Nm.q8 p q = 1) = !decide (Nm.q8 p q <= 0) := by
 have h : -1 <= Nm.q8 p q /\ Nm.q8 p q <= 1 := by
  unfold Nm.q8
  repeat' split
  all_goals first
   | omega
   | (have := a7u (p.num.natAbs * q.den) (q.num.natAbs * p.den); omega)
 by_cases h1 : Nm.q8 p q <= 0
 ·rw [decide_eq_true h1, decide_eq_false (by omega)]; rfl
 ·rw [decide_eq_false h1, decide_eq_true (by omega)]; rfl
theorem b0v (q : Rat) : -1 <= r9 q /\ r9 q <= 1 := by unfold r9; split; omega; split <;> omega
theorem sign_one (q : Rat) : decide (r9 q < 1) = !decide (0 < r9 q) := by
 rw [<- decide_not]; apply decide_eq_decide.2; omega
theorem b5I (q : Rat) : decide (r9 q = -1) = !decide (0 <= r9 q) := by
 have := b0v q
 rw [<- decide_not]; apply decide_eq_decide.2; omega
open Go Eng
set_option maxRecDepth 100000
def J8 (w : Wk) (s : Stt) (n : Int) : Int := if I4 w s ≠ 0 then I4 w s else if n < 0 \/ (w.arms.length : Int) <= n then 1 else match s.arms[n.toNat]? with
 | some x => if R4 x = true then 7 else 0
 | none => 0
def Q6 (x : Ast) (k : Int) : Ast := ⟨x.q, x.v, x.power, k⟩
def a5z (w : Wk) (s : Stt) (n : Int) : Int := if J8 w s n ≠ 0 then J8 w s n else match s.arms[n.toNat]? with
 | some x => if x.holds < 0 then 7 else 0
 | none => 0
def b1i (s : Stt) (n : Nat) (x : Ast) : Stt := ⟨s.tick, s.arms.set n (Q6 x (-1)), s.parts, s.people, s.gates⟩
def dX (t f g : Fr) : Rat := Nm.j3 t.x - X3 f ⟨g.x, g.y⟩
def dY (t f g : Fr) : Rat := Nm.j3 t.y - X0 f ⟨g.x, g.y⟩
def a2Y (t f g : Fr) : Prop := 0 < Nm.q8 (C8 (dX t f g)) (1 / 8) \/ 0 < Nm.q8 (C8 (dY t f g)) (1 / 8)
instance (t f g : Fr) : Decidable (a2Y t f g) := by unfold a2Y; infer_instance
def a6E (s : Stt) (n p : Nat) (a : Am) (x : Ast) (pt : Pt) : Stt := ⟨s.tick, s.arms.set n (Q6 x p), s.parts.set p (a0q a x.q pt.grasp), s.people, s.gates⟩
def a0t (w : Wk) (s : Stt) (n p : Int) : Int := if J8 w s n ≠ 0 then J8 w s n else if p < 0 \/ (w.parts.length : Int) <= p then 1 else match w.arms[n.toNat]?, s.arms[n.toNat]?, w.parts[p.toNat]?, s.parts[p.toNat]? with
 | some a, some x, some pt, some f => if 0 <= x.holds \/ (s.arms.any fun y => decide (y.holds = p)) = true then 7 else if a2Y (H7 a.base (a.links.zip x.q)) f pt.grasp then 17 else 0
 | _, _, _, _ => 0
theorem abs_neg (q : Rat) : C8 (-q) = C8 q := by
 have h1 := @Rat.num_nonneg q
 have h2 := @Rat.num_nonneg (-q)
 unfold C8
 by_cases a : q.num < 0 <;> by_cases b : (-q).num < 0
 ·rw [Rat.neg_num] at b; omega
 ·rw [if_neg b, if_pos a]
 ·rw [if_pos b, if_neg a]; grind
 ·rw [if_neg b, if_neg a]
  rw [Rat.neg_num] at b
  have : q.num = 0 := by omega
  have := Rat.num_eq_zero.1 this
  rw [this]; rfl
theorem b8H (p q : Rat) : 0 < Nm.q8 (8 * a0w (C8 (-p)) (C8 (-q))) 1 <-> 0 < Nm.q8 (C8 p) (1 / 8) \/ 0 < Nm.q8 (C8 q) (1 / 8) := by
 rw [abs_neg, abs_neg, O6, O6, O6]
 have h := a1k (C8 p) (C8 q)
 unfold a0w
 split
 ·have : ¬ C8 p < C8 q := fun h2 => by have := h.2 h2; omega
  grind
 ·have : C8 p < C8 q := h.1 (by omega)
  grind
theorem b7m : FZ 170 [ints 1, ints 8] (.tup [rq (1 / 8), ints 0]) := by
 refine kW Tryz.func170 (by cbv) (by rfl) fun w O hw => ?_
 have h1 := a1y 1 (by decide) (by decide)
 have h2 := a1y 8 (by decide) (by decide)
 have h3 := a9W (1 : Int) (8 : Int) (by exact ⟨c1G (Nm.F4 (k := 8) (by decide)) (by decide), c1G (Nm.F4 (k := 8) (by decide)) (by decide)⟩) (by exact ⟨c1G (Nm.F4 (k := 8) (by decide)) (by decide), c1G (Nm.F4 (k := 8) (by decide)) (by decide)⟩)
 rw [show a0N ((1 : Int) : Rat) ((8 : Int) : Rat) = Nm.ofQ (1 / 8) from rfl, show a1A ((8 : Int) : Rat) = 0 from rfl] at h3
 unfold rq at *
 generalize Nm.ofQ ((1 : Int) : Rat) = r1 at *
 generalize Nm.ofQ ((8 : Int) : Rat) = r2 at *
 generalize Nm.ofQ (1 / 8) = r3 at *
 simp only [j6]
 simp only [rc, sb, ints] at *
 (repeat first | refine uG h1 ?_ | refine uG h2 ?_ | refine uG h3 ?_ | refine uA ?_ | (refine uK ?_ ?_; focus first | omega | (intros; simp_all <;> omega)) | simp (disch := omega) only [go_sem, Nat.reduceBEq, Nat.reduceAdd, ww] | (refine uD h1 ?_ ?_ ?_; exact tz hw; exact rfl) | (refine uD h2 ?_ ?_ ?_; exact tz hw; exact rfl) | (refine uD h3 ?_ ?_ ?_; exact tz hw; exact rfl))
 (refine S.done ?_; simp only [p8, l7, go_sem, Nat.reduceBEq, Nat.reduceAdd, Nat.reduceLeDiff, Int.reduceToNat, Int.reducePow]; (repeat (refine ⟨?_, ?_⟩; focus first | trivial | omega | simp)); exact d9.out rfl (Imp.tup (by (repeat' (first | exact j5.nil | exact Imp.refl rfl | exact Imp.frz rfl rfl rfl | exact Imp.F9 | refine Imp.agg ?_ | refine j5.cons ?_ ?_)))) rfl)
theorem b3b (w : Wk) (s : Stt) (n : Int) (hwb : Wb 1073741824 w) (hs : Stb 1073741824 s) : FZ 168 [w.c, s.c, ints n] (ints (J8 w s n)) := by
 refine kW Tryz.func168 (by cbv) (by rfl) fun w' O hw => ?_
 have hck := b0X w s hwb hs
 have n5 := hwb.arms.1
 have hmv := fun x hx => b6S x (hs.arms.2 x hx)
 have hal : I4 w s = 0 -> s.arms.length = w.arms.length := fun h => (a0I h).arms
 unfold J8
 generalize I4 w s = e at *
 obtain ⟨arms, walls, parts, slots, gates, walk⟩ := w
 obtain ⟨tick, sarms, sparts, people, sgates⟩ := s
 simp only at n5 hmv hal ⊢
 simp only [j6]
 simp only [Wk.c, Wk.enc, Stt.c, Stt.enc, ams, wls, pts, sls, gts, D8, frs, vts, bls, sb, ints] at hck ⊢
 (repeat first | refine uG hck ?_ | refine uA ?_ | (refine uK ?_ ?_; focus first | omega | (intros; simp_all <;> omega)) | simp (disch := omega) only [go_sem, Nat.reduceBEq, Nat.reduceAdd, ww] | (refine uD hck ?_ ?_ ?_; exact tz hw; exact rfl))
 by_cases h0 : e = 0
 ·subst h0
  have hal := hal rfl
  rw [if_neg (by decide)]
  refine S.cond rfl (fun hc => by simp at hc) (fun hc => ?_)
  (repeat first | refine uA ?_ | (refine uK ?_ ?_; focus first | omega | (intros; simp_all <;> omega)) | simp (disch := omega) only [go_sem, Nat.reduceBEq, Nat.reduceAdd, ww, c1y])
  by_cases hg : n < 0 \/ (arms.length : Int) <= n
  ·rw [if_pos hg]
   refine S.cond rfl (fun hc => ?_) (fun hc => by simp only [c1L, c1E] at hc; omega)
   (repeat first | refine uA ?_ | (refine uK ?_ ?_; focus first | omega | (intros; simp_all <;> omega)) | simp (disch := omega) only [go_sem, Nat.reduceBEq, Nat.reduceAdd, ww])
   exact S.done (d9.out rfl (Imp.refl rfl) rfl)
  rw [if_neg hg]
  refine S.cond rfl (fun hc => by simp only [c1X, c1D] at hc; omega) (fun hc => ?_)
  clear hc
  obtain ⟨n, rfl⟩ : ∃ k : Nat, n = k := ⟨n.toNat, by omega⟩
  have hgx := c1x (show n < sarms.length by omega)
  generalize sarms[n]'_ = x at hgx
  have t1 := hmv x (c1A hgx)
  have hni : (n : Int) < sarms.length := by omega
  rw [c1B, hgx]
  simp only
  generalize R4 x = m at *
  simp only [Ast.c, Ast.enc, rts, sb, ints] at t1
  (repeat first | refine uG t1 ?_ | refine uA ?_ | (refine uK ?_ ?_; focus first | omega | (intros; simp_all <;> omega)) | simp (disch := omega) only [go_sem, Nat.reduceBEq, Nat.reduceAdd, ww, hgx, c1z, c1y, Ast.enc, rts, sb, ints, c1B] | (refine uD t1 ?_ ?_ ?_; exact tz hw; exact rfl))
  refine S.cond rfl (fun hc => ?_) (fun hc => ?_)
  ·rw [if_pos hc]
   (repeat first | refine uA ?_ | (refine uK ?_ ?_; focus first | omega | (intros; simp_all <;> omega)) | simp (disch := omega) only [go_sem, Nat.reduceBEq, Nat.reduceAdd, ww])
   exact S.done (d9.out rfl (Imp.refl rfl) rfl)
  ·rw [if_neg (by rw [hc]; decide)]
   (repeat first | refine uA ?_ | (refine uK ?_ ?_; focus first | omega | (intros; simp_all <;> omega)) | simp (disch := omega) only [go_sem, Nat.reduceBEq, Nat.reduceAdd, ww])
   exact S.done (d9.out rfl (Imp.refl rfl) rfl)
 ·rw [if_pos h0]
  refine S.cond rfl (fun hc => ?_) (fun hc => by simp at hc; exact absurd hc h0)
  (repeat first | refine uA ?_ | (refine uK ?_ ?_; focus first | omega | (intros; simp_all <;> omega)) | simp (disch := omega) only [go_sem, Nat.reduceBEq, Nat.reduceAdd, ww])
  exact S.done (d9.out rfl (Imp.refl rfl) rfl)
theorem a3V {w : Wk} {s : Stt} {n : Int} (h : J8 w s n = 0) : I4 w s = 0 /\ ∃ (k : Nat) (a : Am) (x : Ast), n = k /\ w.arms[k]? = some a /\ s.arms[k]? = some x /\ R4 x = false := by
 unfold J8 at h
 split at h
 ·rename_i h1; exact absurd h h1
 rename_i h1
 have h0 := Classical.not_not.1 h1
 split at h
 ·cases h
 rename_i h2
 have hal := (a0I h0).arms
 obtain ⟨k, rfl⟩ : ∃ k : Nat, n = k := ⟨n.toNat, by omega⟩
 have ga := c1x (show k < w.arms.length by omega)
 have gx := c1x (show k < s.arms.length by omega)
 rw [c1B, gx] at h
 simp only at h
 refine ⟨h0, k, _, _, rfl, ga, gx, ?_⟩
 split at h
 ·cases h
 ·simpa using (by assumption : ¬ R4 _ = true)
theorem b9V (w : Wk) (s : Stt) (n : Int) (hwb : Wb 1073741824 w) (hs : Stb 1073741824 s) : FZ 66 [w.c, s.c, ints n] (if a5z w s n = 0 then .tup [(b1i s n.toNat ((s.arms[n.toNat]?).getD ⟨[], [], false, 0⟩)).c, ints 0] else .tup [.agg a0Y, ints (a5z w s n)]) := by
 refine kW Tryz.func66 (by cbv) (by rfl) fun w' O hw => ?_
 have hck := b3b w s n hwb hs
 have hcp := fun (E : Ctx) (hP : E.P = Tryz.prog) => a8D hP s hs
 have n1 := hs.arms.1
 by_cases h0 : J8 w s n = 0
 ·obtain ⟨hst, k, a, x, rfl, ga, gx, hm⟩ := a3V h0
  have hP : a5z w s k = if x.holds < 0 then 7 else 0 := by
   unfold a5z
   rw [if_neg (by simpa using h0), c1B, gx]
  rw [hP]
  rw [h0] at hck
  rw [c1B, gx]
  simp only [Option.getD_some]
  have hkl := (c1F.1 gx).1
  have hset : (s.arms.map Ast.enc).set k [rts x.q, rts x.v, .v (.bool x.power), .v (.int .i64 (-1))] = (s.arms.set k (Q6 x (-1))).map Ast.enc := by rw [List.map_set]; rfl
  unfold b1i
  obtain ⟨arms, walls, parts, slots, gates, walk⟩ := w
  obtain ⟨tick, sarms, sparts, people, sgates⟩ := s
  simp only at ga gx hkl hset n1 ⊢
  have hki : (k : Int) < sarms.length := by omega
  simp only [j6]
  simp only [Wk.c, Wk.enc, Stt.c, Stt.enc, ams, wls, pts, sls, gts, D8, frs, vts, bls, rts, sb, ints, a0Y] at hck hcp hset ⊢
  (repeat first | refine uG hck ?_ | refine uA ?_ | (refine uK ?_ ?_; focus first | omega | (intros; simp_all <;> omega)) | simp (disch := omega) only [go_sem, Nat.reduceBEq, Nat.reduceAdd, ww] | (refine uD hck ?_ ?_ ?_; exact tz hw; exact rfl))
  refine S.cond rfl (fun hc => by simp at hc) (fun hc => ?_)
  (repeat first | refine uA ?_ | (refine uK ?_ ?_; focus first | omega | (intros; simp_all <;> omega)) | simp (disch := omega) only [go_sem, Nat.reduceBEq, Nat.reduceAdd, ww, gx, c1z, c1y, Ast.enc, rts, ints, c1B])
  by_cases hh : x.holds < 0
  ·rw [if_pos hh, if_neg (by decide)]
   refine S.cond rfl (fun hc => ?_) (fun hc => by simp only [c1E] at hc; omega)
   (repeat first | refine uA ?_ | (refine uK ?_ ?_; focus first | omega | (intros; simp_all <;> omega)) | simp (disch := omega) only [go_sem, Nat.reduceBEq, Nat.reduceAdd, ww])
   (refine S.done ?_; simp only [p8, l7, go_sem, Nat.reduceBEq, Nat.reduceAdd, Nat.reduceLeDiff, Int.reduceToNat, Int.reducePow]; (repeat (refine ⟨?_, ?_⟩; focus first | trivial | omega | simp)); exact d9.out rfl (Imp.tup (by (repeat' (first | exact j5.nil | exact Imp.refl rfl | exact Imp.frz rfl rfl rfl | exact Imp.F9 | refine Imp.agg ?_ | refine j5.cons ?_ ?_)))) rfl)
  ·rw [if_neg hh, if_pos rfl]
   refine S.cond rfl (fun hc => by simp only [c1D] at hc; omega) (fun hc => ?_)
   (repeat first | refine uA ?_ | (refine uK ?_ ?_; focus first | omega | (intros; simp_all <;> omega)) | simp (disch := omega) only [go_sem, Nat.reduceBEq, Nat.reduceAdd, ww, C.sh, C.shL, c1T, List.length_nil, gx, hset, c1z, c1y, Ast.enc, rts, ints, c1B] | refine l9.t (l8.pre (hcp _ rfl) rfl rfl rfl) ?_)
   (refine S.done ?_; simp only [p8, l7, go_sem, Nat.reduceBEq, Nat.reduceAdd, Nat.reduceLeDiff, Int.reduceToNat, Int.reducePow]; (repeat (refine ⟨?_, ?_⟩; focus first | trivial | omega | simp)); exact d9.out rfl (Imp.tup (by (repeat' (first | exact j5.nil | exact Imp.refl rfl | exact Imp.frz rfl rfl rfl | exact Imp.F9 | refine Imp.agg ?_ | refine j5.cons ?_ ?_)))) rfl)
 ·have hP : a5z w s n = J8 w s n := by unfold a5z; rw [if_pos h0]
  rw [hP, if_neg h0]
  generalize J8 w s n = e at *
  obtain ⟨arms, walls, parts, slots, gates, walk⟩ := w
  obtain ⟨tick, sarms, sparts, people, sgates⟩ := s
  simp only [j6]
  simp only [Wk.c, Wk.enc, Stt.c, Stt.enc, ams, wls, pts, sls, gts, D8, frs, vts, bls, sb, ints, a0Y] at hck ⊢
  (repeat first | refine uG hck ?_ | refine uA ?_ | (refine uK ?_ ?_; focus first | omega | (intros; simp_all <;> omega)) | simp (disch := omega) only [go_sem, Nat.reduceBEq, Nat.reduceAdd, ww] | (refine uD hck ?_ ?_ ?_; exact tz hw; exact rfl))
  refine S.cond rfl (fun hc => ?_) (fun hc => by simp at hc; exact absurd hc h0)
  (repeat first | refine uA ?_ | (refine uK ?_ ?_; focus first | omega | (intros; simp_all <;> omega)) | simp (disch := omega) only [go_sem, Nat.reduceBEq, Nat.reduceAdd, ww])
  (refine S.done ?_; simp only [p8, l7, go_sem, Nat.reduceBEq, Nat.reduceAdd, Nat.reduceLeDiff, Int.reduceToNat, Int.reducePow]; (repeat (refine ⟨?_, ?_⟩; focus first | trivial | omega | simp)); exact d9.out rfl (Imp.tup (by (repeat' (first | exact j5.nil | exact Imp.refl rfl | exact Imp.frz rfl rfl rfl | exact Imp.F9 | refine Imp.agg ?_ | refine j5.cons ?_ ?_)))) rfl)
set_option maxRecDepth 10000
set_option maxHeartbeats 8000000
theorem b4n (g : Nat) (hcal : callable Tryz.prog g = true) (k : Int) (l : List Ast) (hn : l.length <= 1099511627776) (hg : ∀ x : Ast, u6 Tryz.prog g [x.c, .ep [ints k]] (.v (.bool (decide (x.holds = k))))) :
  u6 Tryz.prog 155 [D8 l, .clo g [.ep [ints k]]] (ints (a1r (fun x => decide (x.holds = k)) l)) := by
 refine kS Tryz.func155 (by cbv) (by rfl) fun w O => ?_
 simp only [j6, D8, ints]
 (repeat first | refine uA ?_ | (refine uK ?_ ?_; focus first | omega | (intros; simp_all <;> omega)) | simp (disch := omega) only [go_sem, Nat.reduceBEq, Nat.reduceAdd, ww, c1y])
 refine S.loop (X := Nat) (fun i => ⟨[(0, D8 l), (1, .clo g [.ep [ints k]]), (7, ints l.length), (8, ints i)], []⟩) (fun i => i <= l.length /\ ∀ j, j < i -> ∀ x, l[j]? = some x -> decide (x.holds = k) = false) (fun i => l.length - i) 0 ⟨c1H _, fun _ h => absurd h (Nat.not_lt_zero _)⟩ (by (repeat first | refine uA ?_ | (refine ⟨?_, ?_⟩; focus first | rfl | simp [slot]) | rfl | simp)) ?_
 rintro i ⟨hi, hm⟩
 simp only [D8, ints]
 (repeat first | refine uA ?_ | (refine uK ?_ ?_; focus first | omega | (intros; simp_all <;> omega)) | simp (disch := omega) only [go_sem, Nat.reduceBEq, Nat.reduceAdd, ww])
 (refine uJ rfl (fun hc => ?_) fun hc => ?_)
 ·have hi' : i < l.length := by omega
  have hgi := c1x hi'
  generalize l[i] = x at hgi
  have hs := hg x
  simp only [Ast.c, Ast.enc, rts, sb, ints] at hs
  (repeat first | refine uA ?_ | (refine uK ?_ ?_; focus first | omega | (intros; simp_all <;> omega)) | simp (disch := omega) only [go_sem, Nat.reduceBEq, Nat.reduceAdd, ww, hgi, c1z, c1y, Ast.enc, rts, sb, ints, c1B, hcal] | (refine uB hs ?_ ?_; exact rfl))
  refine S.cond rfl (fun hc2 => ?_) (fun hc2 => ?_)
  ·rw [a3C (p := fun x : Ast => decide (x.holds = k)) hgi hc2 hm]
   (repeat first | refine uA ?_ | (refine uK ?_ ?_; focus first | omega | (intros; simp_all <;> omega)) | simp (disch := omega) only [go_sem, Nat.reduceBEq, Nat.reduceAdd, ww])
   exact S.done (d9.out rfl (Imp.refl rfl) rfl)
  ·(repeat first | refine uA ?_ | (refine uK ?_ ?_; focus first | omega | (intros; simp_all <;> omega)) | simp (disch := omega) only [go_sem, Nat.reduceBEq, Nat.reduceAdd, ww])
   refine S.next (i + 1) ⟨by omega, fun j hj y hy => ?_⟩ (by omega) (by (repeat first | refine uA ?_ | (refine ⟨?_, ?_⟩; focus first | rfl | simp [slot]) | rfl | simp))
   rcases c1V j i with h1 | h1
   ·exact hm j h1 y hy
   ·have : j = i := by omega
    subst this
    rw [hgi] at hy
    cases hy
    exact hc2
 ·have hi' : i = l.length := by omega
  subst hi'
  rw [a2M hm]
  (repeat first | refine uA ?_ | (refine uK ?_ ?_; focus first | omega | (intros; simp_all <;> omega)) | simp (disch := omega) only [go_sem, Nat.reduceBEq, Nat.reduceAdd, ww])
  exact S.done (d9.out rfl (Imp.refl rfl) rfl)
theorem b5y (g : Nat) (hcal : callable Tryz.prog g = true) (k : Int) (l : List Ast) (hn : l.length <= 1099511627776) (hg : ∀ x : Ast, u6 Tryz.prog g [x.c, .ep [ints k]] (.v (.bool (decide (x.holds = k))))) :
  u6 Tryz.prog 50 [D8 l, .clo g [.ep [ints k]]] (.v (.bool (l.any fun x => decide (x.holds = k)))) := by
 refine kS Tryz.func50 (by cbv) (by rfl) fun w O => ?_
 have h := b4n g hcal k l hn hg
 rw [<- a3u]
 generalize a1r (fun x : Ast => decide (x.holds = k)) l = n at *
 simp only [j6]
 simp only [D8, ints] at *
 (repeat first | refine uA ?_ | (refine uK ?_ ?_; focus first | omega | (intros; simp_all <;> omega)) | simp (disch := omega) only [go_sem, Nat.reduceBEq, Nat.reduceAdd, ww] | (refine uB h ?_ ?_; exact rfl))
 exact S.done (d9.out rfl (Imp.refl rfl) rfl)
set_option maxRecDepth 100000
set_option maxHeartbeats 32000000
def a7T (w : Wk) (s : Stt) (n p : Int) : C := if a0t w s n p = 0 then .tup [(a6E s n.toNat p.toNat (w.arms.getD n.toNat ⟨[], a0f, []⟩) (s.arms.getD n.toNat ⟨[], [], false, 0⟩) (w.parts.getD p.toNat ⟨[], [], a0f⟩)).c, ints 0] else .tup [.agg a0Y, ints (a0t w s n p)]
theorem a1m {α : Type} {l : List α} {i : Nat} {x d : α} (h : l[i]? = some x) : l.getD i d = x := by rw [c1O, h]; rfl
theorem a8P {w : Wk} {s : Stt} {k : Nat} {p : Int} {a : Am} {x : Ast} (h0 : J8 w s k = 0) (ga : w.arms[k]? = some a) (gx : s.arms[k]? = some x) : a0t w s k p = if p < 0 \/ (w.parts.length : Int) <= p then 1 else match w.parts[p.toNat]?, s.parts[p.toNat]? with
  | some pt, some f => if 0 <= x.holds \/ (s.arms.any fun y => decide (y.holds = p)) = true then 7 else if a2Y (H7 a.base (a.links.zip x.q)) f pt.grasp then 17 else 0
  | _, _ => 0 := by
 unfold a0t
 rw [if_neg (by simpa using h0), c1B, ga, gx]
 split
 ·rfl
 ·generalize w.parts[p.toNat]? = A1
  generalize s.parts[p.toNat]? = A2
  cases A1 <;> cases A2 <;> rfl
theorem b8O (x : Ast) (k : Int) : u6 Tryz.prog 169 [x.c, .ep [ints k]] (.v (.bool (decide (x.holds = k)))) := by
 refine kS Tryz.func169 (by cbv) (by rfl) fun w O => ?_
 simp only [j6, Ast.c, Ast.enc, rts, ints]
 (repeat first | refine uA ?_ | (refine uK ?_ ?_; focus first | omega | (intros; simp_all <;> omega)) | simp (disch := omega) only [go_sem, Nat.reduceBEq, Nat.reduceAdd, ww])
 exact S.done (d9.out rfl (Imp.refl rfl) rfl)
theorem b9P (w : Wk) (s : Stt) (n p : Int) (hwb : Wb 1048576 w) (hs : Stb 1048576 s) : FZ 64 [w.c, s.c, ints n, ints p] (a7T w s n p) := by
 refine kW Tryz.func64 (kcF rfl (by cbv) (by repeat first | apply kcS | apply kcC | apply kcB | apply kcL | cbv)) (by rfl) fun w' O hw => ?_
 have hck := b3b w s n (hwb.mono (by decide)) (hs.mono (by decide))
 have hcp := fun (E : Ctx) (hP : E.P = Tryz.prog) => a8D hP s (hs.mono (by decide))
 have hcal : callable Tryz.prog 169 = true := by kernel_rfl
 have n1 := hs.arms.1
 have n2 := hs.parts.1
 have n5 := hwb.arms.1
 have n6 := hwb.parts.1
 unfold a7T
 by_cases h0 : J8 w s n = 0
 ·obtain ⟨hst, k, a, x, rfl, ga, gx, hm⟩ := a3V h0
  have hok := a0I hst
  have ho := a6f (hok.one _ (c1A (K5 ga gx)))
  simp only at ho
  have bx := hs.arms.2 x (c1A gx)
  have hqb : ∀ r ∈ x.q, Rb 2097664 r := fun r hr => (bx.1.2 r hr).mono (by decide)
  have ba := (hwb.arms.2 a (c1A ga)).mono (m := 1073741824) (by decide)
  have htip := b3u a x.q ba ho.arm ho.q hqb
  have hpl := hok.parts
  have kl := (c1F.1 ga).1
  have kl2 := (c1F.1 gx).1
  have hhas := b5y 169 hcal p s.arms (c1G n1 (by decide)) fun x => b8O x p
  have hE : a0t w s k p = if p < 0 \/ (w.parts.length : Int) <= p then 1 else match w.parts[p.toNat]?, s.parts[p.toNat]? with
   | some pt, some f => if 0 <= x.holds \/ (s.arms.any fun y => decide (y.holds = p)) = true then 7 else if a2Y (H7 a.base (a.links.zip x.q)) f pt.grasp then 17 else 0
   | _, _ => 0 := a8P h0 ga gx
  rw [h0] at hck
  rw [c1B, a1m ga, a1m gx]
  generalize hany : (s.arms.any fun y => decide (y.holds = p)) = any at *
  by_cases hp : p < 0 \/ (w.parts.length : Int) <= p
  ·rw [if_pos hp] at hE
   rw [hE, if_neg (by decide)]
   obtain ⟨arms, walls, parts, slots, gates, walk⟩ := w
   obtain ⟨tick, sarms, sparts, people, sgates⟩ := s
   simp only at hp n6
   simp only [j6]
   simp only [Wk.c, Wk.enc, Stt.c, Stt.enc, ams, wls, pts, sls, gts, D8, frs, vts, bls, rts, sb, ints, a0Y] at hck ⊢
   (repeat first | refine uG hck ?_ | refine uA ?_ | (refine uK ?_ ?_; focus first | omega | (intros; simp_all <;> omega)) | simp (disch := omega) only [go_sem, Nat.reduceBEq, Nat.reduceAdd, ww] | (refine uD hck ?_ ?_ ?_; exact tz hw; exact rfl))
   refine S.cond rfl (fun hc => by simp at hc) (fun hc => ?_)
   (repeat first | refine uA ?_ | (refine uK ?_ ?_; focus first | omega | (intros; simp_all <;> omega)) | simp (disch := omega) only [go_sem, Nat.reduceBEq, Nat.reduceAdd, ww, c1y])
   refine S.cond rfl (fun hc => ?_) (fun hc => by simp only [c1L, c1E] at hc; omega)
   (repeat first | refine uA ?_ | (refine uK ?_ ?_; focus first | omega | (intros; simp_all <;> omega)) | simp (disch := omega) only [go_sem, Nat.reduceBEq, Nat.reduceAdd, ww])
   (refine S.done ?_; simp only [p8, l7, go_sem, Nat.reduceBEq, Nat.reduceAdd, Nat.reduceLeDiff, Int.reduceToNat, Int.reducePow]; (repeat (refine ⟨?_, ?_⟩; focus first | trivial | omega | simp)); exact d9.out rfl (Imp.tup (by (repeat' (first | exact j5.nil | exact Imp.refl rfl | exact Imp.frz rfl rfl rfl | exact Imp.F9 | refine Imp.agg ?_ | refine j5.cons ?_ ?_)))) rfl)
  ·obtain ⟨q, rfl⟩ : ∃ q : Nat, p = q := ⟨p.toNat, by omega⟩
   rw [if_neg hp, c1B] at hE
   have gp := c1x (show q < w.parts.length by omega)
   have gf := c1x (show q < s.parts.length by omega)
   generalize w.parts[q]'_ = pt at gp
   generalize s.parts[q]'_ = f at gf
   rw [gp, gf] at hE
   simp only at hE
   have hcar := a9r w k (Q6 x q) a q pt hwb ga gp rfl ho.arm ho.q hqb
   obtain ⟨fb, lb⟩ := a5I ho.arm
   have htb := a7v (a.links.zip x.q) a.base 0 fb (by have := (T9 ho.arm).2; rw [List.length_zip]; omega) fun y hy => ⟨lb _ (List.of_mem_zip hy).1, hqb _ (List.of_mem_zip hy).2⟩
   have hbb := a5U (show 0 + (a.links.zip x.q).length <= 3 by have := (T9 ho.arm).2; rw [List.length_zip]; omega)
   have bf := hs.parts.2 f (c1A gf)
   have bg := (hwb.parts.2 pt (c1A gp)).2.2
   have o1 := b4a f ⟨pt.grasp.x, pt.grasp.y⟩ (bf.1.mono (by decide)) (bf.2.1.mono (by decide)) (bf.2.2.mono (by decide)) (bg.1.mono (by decide)) (bg.2.1.mono (by decide))
   obtain ⟨rp1, rp2⟩ := a8N (c := ⟨pt.grasp.x, pt.grasp.y⟩) bf.1 bf.2.1 bf.2.2 bg.1 bg.2.1 (by decide) (by decide) (by decide)
   have rt1 : Rb 4294967296 (H7 a.base (a.links.zip x.q)).x := htb.1.mono (by omega)
   have rt2 : Rb 4294967296 (H7 a.base (a.links.zip x.q)).y := htb.2.1.mono (by omega)
   rw [c1B, a1m gp]
   have o2 := a5S (H7 a.base (a.links.zip x.q)).x (H7 a.base (a.links.zip x.q)).y (Nm.ofQ (X3 f ⟨pt.grasp.x, pt.grasp.y⟩)) (Nm.ofQ (X0 f ⟨pt.grasp.x, pt.grasp.y⟩)) (rt1.mono (by decide)) (rt2.mono (by decide)) (rp1.mono (by decide)) (rp2.mono (by decide))
   rw [Nm.E9, Nm.E9] at o2
   have rd1 := (J9 (rt1.fit (by decide)) rp1).mono (m := 17179869184) (by decide)
   have rd2 := (J9 (rt2.fit (by decide)) rp2).mono (m := 17179869184) (by decide)
   have o3 := a3m _ rd1
   have o4 := a3m _ rd2
   have b8 : Rb 8 (Nm.ofQ (1 / 8)) := ⟨by decide +kernel, by decide +kernel⟩
   have o5 := N8 (Nm.ofQ (C8 (Nm.j3 (Nm.ofQ (Nm.j3 (H7 a.base (a.links.zip x.q)).x - X3 f ⟨pt.grasp.x, pt.grasp.y⟩))))) (Nm.ofQ (1 / 8)) (a1Q (rd1.fit (by decide))) (b8.mono (by decide))
   have o6 := N8 (Nm.ofQ (C8 (Nm.j3 (Nm.ofQ (Nm.j3 (H7 a.base (a.links.zip x.q)).y - X0 f ⟨pt.grasp.x, pt.grasp.y⟩))))) (Nm.ofQ (1 / 8)) (a1Q (rd2.fit (by decide))) (b8.mono (by decide))
   simp only [Nm.E9] at o3 o4 o5 o6
   have o7 := b7m
   have hfar : a2Y (H7 a.base (a.links.zip x.q)) f pt.grasp <-> 0 < Nm.q8 (C8 (Nm.j3 (H7 a.base (a.links.zip x.q)).x - X3 f ⟨pt.grasp.x, pt.grasp.y⟩)) (1 / 8) \/ 0 < Nm.q8 (C8 (Nm.j3 (H7 a.base (a.links.zip x.q)).y - X0 f ⟨pt.grasp.x, pt.grasp.y⟩)) (1 / 8) := Iff.rfl
   have hsx : (s.arms.map Ast.enc).set k [rts x.q, rts x.v, .v (.bool x.power), .v (.int .i64 (q : Int))] = (s.arms.set k (Q6 x q)).map Ast.enc := by rw [List.map_set]; rfl
   have hgs : (s.arms.set k (Q6 x q))[k]? = some ⟨x.q, x.v, x.power, q⟩ := by rw [List.getElem?_set_self kl2]; rfl
   have hsf : (s.parts.map Fr.enc).set q (a0q a x.q pt.grasp).enc = (s.parts.set q (a0q a x.q pt.grasp)).map Fr.enc := by rw [List.map_set]
   have hgl : (s.arms.set k (Q6 x q)).length = s.arms.length := c2g
   have hhx : Q6 x q = ⟨x.q, x.v, x.power, q⟩ := rfl
   unfold a6E
   generalize a0t w s k q = E at *
   generalize H7 a.base (a.links.zip x.q) = T at *
   have hTs : ∀ g h, a2Y T g h \/ ¬ a2Y T g h := fun g h => Classical.em _
   generalize Nm.q8 (C8 (Nm.j3 T.x - X3 f ⟨pt.grasp.x, pt.grasp.y⟩)) (1 / 8) = c1 at *
   generalize Nm.q8 (C8 (Nm.j3 T.y - X0 f ⟨pt.grasp.x, pt.grasp.y⟩)) (1 / 8) = c2 at *
   unfold vq rq at *
   generalize Nm.ofQ (C8 (Nm.j3 T.x - X3 f ⟨pt.grasp.x, pt.grasp.y⟩)) = z1 at *
   generalize Nm.ofQ (C8 (Nm.j3 T.y - X0 f ⟨pt.grasp.x, pt.grasp.y⟩)) = z2 at *
   generalize Nm.ofQ (Nm.j3 T.x - X3 f ⟨pt.grasp.x, pt.grasp.y⟩) = z3 at *
   generalize Nm.ofQ (Nm.j3 T.y - X0 f ⟨pt.grasp.x, pt.grasp.y⟩) = z4 at *
   generalize Nm.ofQ (X3 f ⟨pt.grasp.x, pt.grasp.y⟩) = z5 at *
   generalize Nm.ofQ (X0 f ⟨pt.grasp.x, pt.grasp.y⟩) = z6 at *
   generalize Nm.ofQ (1 / 8) = z7 at *
   rw [hhx] at hcar
   simp only at hcar
   generalize a0q a x.q pt.grasp = R at *
   generalize s.arms.set k (Q6 x q) = SA at *
   generalize hSP : s.parts.set q R = SP at *
   obtain ⟨arms, walls, parts, slots, gates, walk⟩ := w
   obtain ⟨tick, sarms, sparts, people, sgates⟩ := s
   simp only at ga gx gp gf kl kl2 n1 n2 n5 n6 hpl hsx hsf hgl hhas hp ⊢
   have hki : (k : Int) < arms.length := by omega
   have hkj : (k : Int) < sarms.length := by omega
   have hqi : (q : Int) < parts.length := by omega
   have hqj : (q : Int) < sparts.length := by omega
   simp only [j6]
   simp only [Wk.c, Wk.enc, Stt.c, Stt.enc, Am.c, Am.enc, Ast.c, Ast.enc, Fr.c, Fr.enc, Vt.c, Vt.enc, vc, rc, lks, ams, wls, pts, sls, gts, D8, frs, vts, bls, rts, sb, ints, a0Y] at hck hcp hhas htip hcar o1 o2 o3 o4 o5 o6 o7 hsx hsf ⊢
   (repeat first | refine uG hck ?_ | refine uA ?_ | (refine uK ?_ ?_; focus first | omega | (intros; simp_all <;> omega)) | simp (disch := omega) only [go_sem, Nat.reduceBEq, Nat.reduceAdd, ww] | (refine uD hck ?_ ?_ ?_; exact tz hw; exact rfl))
   refine S.cond rfl (fun hc => by simp at hc) (fun hc => ?_)
   (repeat first | refine uA ?_ | (refine uK ?_ ?_; focus first | omega | (intros; simp_all <;> omega)) | simp (disch := omega) only [go_sem, Nat.reduceBEq, Nat.reduceAdd, ww, c1y])
   refine S.cond rfl (fun hc => by simp only [c1X, c1D] at hc; omega) (fun hc => ?_)
   (repeat first | refine uF hhas ?_ | refine uA ?_ | (refine uK ?_ ?_; focus first | omega | (intros; simp_all <;> omega)) | simp (disch := omega) only [go_sem, Nat.reduceBEq, Nat.reduceAdd, ww, gx, c1z, c1y, Ast.enc, rts, ints, hcal, c1B] | (refine uC hhas ?_ ?_ ?_; exact rfl; focus (repeat' first | exact j5.nil | exact Imp.refl rfl | exact Imp.F9 | exact Imp.fbx rfl rfl (j5.refl rfl) rfl rfl | refine Imp.clo ?_ | exact Imp.frz rfl rfl rfl | (refine Imp.M5 rfl rfl ?_ ?_; (focus ((try simp only [c1C, gx, c1z, c1y, Ast.enc, rts, ints, hcal, c1B]); omega)); (focus first | rfl | assumption)) | refine Imp.agg ?_ | refine j5.cons ?_ ?_); done))
   by_cases hh : 0 <= x.holds \/ any = true
   ·rw [if_pos hh] at hE
    subst hE
    rw [if_neg (by decide)]
    refine S.cond rfl (fun hc => ?_) (fun hc => by simp only [c1L, c1E] at hc; rcases hh with hh | hh; exact absurd hh hc.1; rw [hc.2] at hh; cases hh)
    (repeat first | refine uA ?_ | (refine uK ?_ ?_; focus first | omega | (intros; simp_all <;> omega)) | simp (disch := omega) only [go_sem, Nat.reduceBEq, Nat.reduceAdd, ww])
    (refine S.done ?_; simp only [p8, l7, go_sem, Nat.reduceBEq, Nat.reduceAdd, Nat.reduceLeDiff, Int.reduceToNat, Int.reducePow]; (repeat (refine ⟨?_, ?_⟩; focus first | trivial | omega | simp)); exact d9.out rfl (Imp.tup (by (repeat' (first | exact j5.nil | exact Imp.refl rfl | exact Imp.frz rfl rfl rfl | exact Imp.F9 | refine Imp.agg ?_ | refine j5.cons ?_ ?_)))) rfl)
   rw [if_neg hh] at hE
   refine S.cond rfl (fun hc => by simp only [c1X, c1D] at hc; exact absurd hc hh) (fun hc => ?_)
   (repeat first | refine uG htip ?_ | refine uA ?_ | (refine uK ?_ ?_; focus first | omega | (intros; simp_all <;> omega)) | simp (disch := omega) only [go_sem, Nat.reduceBEq, Nat.reduceAdd, ww, ga, gx, c1z, c1y, Am.enc, Ast.enc, lks, rts, sb, ints, c1B] | (refine uD htip ?_ ?_ ?_; exact tz hw; exact rfl))
   refine S.cond rfl (fun hc => by simp at hc) (fun hc => ?_)
   (repeat first | refine uG o1 ?_ | refine uG o2 ?_ | refine uG o3 ?_ | refine uG o4 ?_ | refine uG o5 ?_ | refine uG o6 ?_ | refine uG o7 ?_ | refine uA ?_ | (refine uK ?_ ?_; focus first | omega | (intros; simp_all <;> omega)) | simp (disch := omega) only [go_sem, Nat.reduceBEq, Nat.reduceAdd, ww, gp, gf, c1z, c1y, Pt.enc, Fr.enc, vts, sb, c1B] | (refine uD o1 ?_ ?_ ?_; exact tz hw; exact rfl) | (refine uD o2 ?_ ?_ ?_; exact tz hw; exact rfl) | (refine uD o3 ?_ ?_ ?_; exact tz hw; exact rfl) | (refine uD o4 ?_ ?_ ?_; exact tz hw; exact rfl) | (refine uD o5 ?_ ?_ ?_; exact tz hw; exact rfl) | (refine uD o6 ?_ ?_ ?_; exact tz hw; exact rfl) | (refine uD o7 ?_ ?_ ?_; exact tz hw; exact rfl))
   by_cases hf : a2Y T f pt.grasp
   ·rw [if_pos hf] at hE
    subst hE
    rw [if_neg (by decide)]
    rw [hfar] at hf
    refine S.cond rfl (fun hc => ?_) (fun hc => by simp only [c1L, c1E] at hc; omega)
    (repeat first | refine uA ?_ | (refine uK ?_ ?_; focus first | omega | (intros; simp_all <;> omega)) | simp (disch := omega) only [go_sem, Nat.reduceBEq, Nat.reduceAdd, ww])
    (refine S.done ?_; simp only [p8, l7, go_sem, Nat.reduceBEq, Nat.reduceAdd, Nat.reduceLeDiff, Int.reduceToNat, Int.reducePow]; (repeat (refine ⟨?_, ?_⟩; focus first | trivial | omega | simp)); exact d9.out rfl (Imp.tup (by (repeat' (first | exact j5.nil | exact Imp.refl rfl | exact Imp.frz rfl rfl rfl | exact Imp.F9 | refine Imp.agg ?_ | refine j5.cons ?_ ?_)))) rfl)
   rw [if_neg hf] at hE
   rw [hfar] at hf
   subst hE
   rw [if_pos rfl]
   refine S.cond rfl (fun hc => by simp only [c1X, c1D] at hc; omega) (fun hc => ?_)
   (repeat first | refine uG hcar ?_ | refine uA ?_ | (refine uK ?_ ?_; focus first | omega | (intros; simp_all <;> omega)) | simp (disch := omega) only [go_sem, Nat.reduceBEq, Nat.reduceAdd, ww, C.sh, C.shL, c1T, List.length_nil, gx, gf, hsx, hgs, hsf, hgl, c1z, c1y, Ast.enc, Fr.enc, rts, sb, ints, c1B] | refine l9.t (l8.pre (hcp _ rfl) rfl rfl rfl) ?_ | (refine uD hcar ?_ ?_ ?_; exact tz hw; exact rfl))
   refine S.cond rfl (fun hc => by simp at hc) (fun hc => ?_)
   (repeat first | refine uA ?_ | (refine uK ?_ ?_; focus first | omega | (intros; simp_all <;> omega)) | simp (disch := omega) only [go_sem, Nat.reduceBEq, Nat.reduceAdd, ww])
   (refine S.done ?_; simp only [p8, l7, go_sem, Nat.reduceBEq, Nat.reduceAdd, Nat.reduceLeDiff, Int.reduceToNat, Int.reducePow]; (repeat (refine ⟨?_, ?_⟩; focus first | trivial | omega | simp)); exact d9.out rfl (Imp.tup (by (repeat' (first | exact j5.nil | exact Imp.refl rfl | exact Imp.frz rfl rfl rfl | exact Imp.F9 | refine Imp.agg ?_ | refine j5.cons ?_ ?_)))) rfl)
 ·have hE : a0t w s n p = J8 w s n := by unfold a0t; rw [if_pos h0]
  rw [hE, if_neg h0]
  generalize J8 w s n = e at *
  obtain ⟨arms, walls, parts, slots, gates, walk⟩ := w
  obtain ⟨tick, sarms, sparts, people, sgates⟩ := s
  simp only [j6]
  simp only [Wk.c, Wk.enc, Stt.c, Stt.enc, ams, wls, pts, sls, gts, D8, frs, vts, bls, rts, sb, ints, a0Y] at hck ⊢
  (repeat first | refine uG hck ?_ | refine uA ?_ | (refine uK ?_ ?_; focus first | omega | (intros; simp_all <;> omega)) | simp (disch := omega) only [go_sem, Nat.reduceBEq, Nat.reduceAdd, ww] | (refine uD hck ?_ ?_ ?_; exact tz hw; exact rfl))
  refine S.cond rfl (fun hc => ?_) (fun hc => by simp at hc; exact absurd hc h0)
  (repeat first | refine uA ?_ | (refine uK ?_ ?_; focus first | omega | (intros; simp_all <;> omega)) | simp (disch := omega) only [go_sem, Nat.reduceBEq, Nat.reduceAdd, ww])
  (refine S.done ?_; simp only [p8, l7, go_sem, Nat.reduceBEq, Nat.reduceAdd, Nat.reduceLeDiff, Int.reduceToNat, Int.reducePow]; (repeat (refine ⟨?_, ?_⟩; focus first | trivial | omega | simp)); exact d9.out rfl (Imp.tup (by (repeat' (first | exact j5.nil | exact Imp.refl rfl | exact Imp.frz rfl rfl rfl | exact Imp.F9 | refine Imp.agg ?_ | refine j5.cons ?_ ?_)))) rfl)
def a7D (w : Wk) (s : Stt) (u : List (List Nm.Rt)) (p : List Bool) (v : List Vt) : C := if a3i w s u p v = 0 then .tup [(a9N w s u p v).c, ints 0] else .tup [.agg a0Y, ints (a3i w s u p v)]
theorem b9q (w : Wk) (s : Stt) (u : List (List Nm.Rt)) (p : List Bool) (v : List Vt) (hwb : Wb 1048576 w) (hs : Stb 1048576 s) (hu : Wsb 1048576 u) (hp : p.length <= 1048576) (hv : Vbs 1048576 v) :
    FZ 56 [w.c, s.c, wss u, bls p, vts v] (a7D w s u p v) := by
  refine kW Tryz.func56 (kcF rfl (by cbv) (by repeat first | apply kcS | apply kcC | apply kcB | apply kcL | cbv)) (by rfl) fun w' O hw => ?_
  have hck := b0X w s (hwb.mono (by decide)) (hs.mono (by decide))
  have hcp := fun (E : Ctx) (hP : E.P = Tryz.prog) => a8D hP s (hs.mono (by decide))
  have n1 := hs.arms.1
  have n2 := hs.parts.1
  have n3 := hs.people.1
  have n4 := hs.gates
  have n5 := hwb.arms.1
  have n6 := hu.1
  have n7 := hv.1
  by_cases h0 : I4 w s = 0
  · have hok := a0I h0
    have hE : a3i w s u p v = if u.length ≠ w.arms.length \/ p.length ≠ w.arms.length \/ v.length ≠ s.people.length then 1 else if v.all (a5c w.walk) = false then 1 else if s.tick = 2000 then 7 else 0 := by
      unfold a3i; rw [if_neg (by simpa using h0)]
    have hcar := fun (n : Nat) (x : Ast) (a : Am) (q : Nat) (pt : Pt) => a9r w n x a q pt hwb
    have hone := fun (z : Am × Ast) hz => a6f (hok.one z hz)
    have hbs := hs.arms.2
    have hba := hwb.arms.2
    have hbu := hu.2
    have hbv := hv.2
    have hbp := hs.people.2
    have hkw := hwb.walk
    have hal := b7g (u := u) (p := p) hok.arms
    have hag := @b6Y w s u p
    have hpl := b1s w
    have hput : ∀ P z, a8C w P z = if z.2.holds < 0 then P else match w.parts[z.2.holds.toNat]? with | some pt => P.set z.2.holds.toNat (a0q z.1 z.2.q pt.grasp) | none => P := fun _ _ => rfl
    have e1 := hok.arms
    have e2 := hok.parts
    have e3 := hok.tick
    rw [h0] at hck
    unfold a7D a9N
    generalize a5Q w s u p = A at *
    generalize a8C w = pP at *
    generalize a3i w s u p v = se at *
    clear hok h0
    obtain ⟨arms, walls, parts, slots, gates, walk⟩ := w
    obtain ⟨tick, sarms, sparts, people, sgates⟩ := s
    simp only at n1 n2 n3 n4 n5 hE hbs hba hbp hkw hal hag hput e1 e2 e3 hone ⊢
    simp only [j6]
    simp only [Wk.c, Wk.enc, Stt.c, Stt.enc, a0Y, ams, wls, pts, sls, gts, D8, frs, vts, bls, wss, rts, sb, ints] at hck hcp hcar ⊢
    (repeat first | refine uA ?_ | (refine uK ?_ ?_; focus first | omega | (intros; simp_all <;> omega)) | simp (disch := omega) only [go_sem, Nat.reduceBEq, Nat.reduceAdd, ww] | (refine uD hck ?_ ?_ ?_; exact tz hw; exact rfl))
    refine S.cond rfl (fun hc => by simp at hc) (fun hc => ?_)
    (repeat first | refine uA ?_ | (refine uK ?_ ?_; focus first | omega | (intros; simp_all <;> omega)) | simp (disch := omega) only [go_sem, Nat.reduceBEq, Nat.reduceAdd, ww, c1y])
    refine S.cond rfl (fun hc => ?_) (fun hc => ?_)
    · have hl : u.length ≠ arms.length \/ p.length ≠ arms.length \/ v.length ≠ people.length := by simp only [c1X, Bool.not_eq_true', c1E] at hc; omega
      rw [if_pos hl] at hE
      subst hE
      rw [if_neg (by decide)]
      (repeat first | refine uA ?_ | (refine uK ?_ ?_; focus first | omega | (intros; simp_all <;> omega)) | simp (disch := omega) only [go_sem, Nat.reduceBEq, Nat.reduceAdd, ww])
      (refine S.done ?_; simp only [p8, l7, go_sem, Nat.reduceBEq, Nat.reduceAdd, Nat.reduceLeDiff, Int.reduceToNat, Int.reducePow]; (repeat (refine ⟨?_, ?_⟩; focus first | trivial | omega | simp)); exact d9.out rfl (Imp.tup (by (repeat' (first | exact j5.nil | exact Imp.refl rfl | exact Imp.frz rfl rfl rfl | exact Imp.F9 | refine Imp.agg ?_ | refine j5.cons ?_ ?_)))) rfl)
    have hl : ¬ (u.length ≠ arms.length \/ p.length ≠ arms.length \/ v.length ≠ people.length) := by simp only [c1L, Bool.not_eq_false', c1D] at hc; omega
    rw [if_neg hl] at hE
    have hl1 : u.length = arms.length := by omega
    have hl2 : p.length = arms.length := by omega
    have hl3 : v.length = people.length := by omega
    clear hl
    have hal := hal hl1 hl2
    (repeat first | refine uA ?_ | (refine uK ?_ ?_; focus first | omega | (intros; simp_all <;> omega)) | simp (disch := omega) only [go_sem, Nat.reduceBEq, Nat.reduceAdd, ww, c1y])
    refine S.loop (X := Nat) (fun i => ⟨[(2, wss u), (3, bls p), (4, vts v), (5, .bp 0 0), (6, .bp 1 0), (10, .bp 2 0), (52, vts v), (53, ints v.length), (54, ints i)], [.box 31 [ams arms, wls walls, pts parts, sls slots, gts gates, .v (.bool walk.neg), sb walk.num, sb walk.den], .box 37 [ints tick, D8 sarms, frs sparts, vts people, bls sgates], .box 37 [.v (.int .i64 0), .v (.slice none 0 0), .v (.slice none 0 0), .v (.slice none 0 0), .v (.slice none 0 0)]]⟩) (fun i => i <= v.length /\ v.all (a5c walk) = (v.drop i).all (a5c walk)) (fun i => v.length - i) 0 ⟨c1H _, rfl⟩ (by (repeat first | refine uA ?_ | (refine ⟨?_, ?_⟩; focus first | rfl | simp [slot]) | rfl | simp)) ?_
    rintro i ⟨hi, hg⟩
    simp only [ams, wls, pts, sls, gts, D8, frs, vts, bls, wss, rts, sb, ints] at hi ⊢
    (repeat first | refine uA ?_ | (refine uK ?_ ?_; focus first | omega | (intros; simp_all <;> omega)) | simp (disch := omega) only [go_sem, Nat.reduceBEq, Nat.reduceAdd, ww])
    (refine uJ rfl (fun hc => ?_) fun hc => ?_)
    · have hgv := c1x (show i < v.length by omega)
      generalize v[i]'_ = y at hgv
      have hd := b1r (f := a5c walk) hgv
      obtain ⟨by1, by2⟩ := hbv y (c1A hgv)
      have o1 := a0z y.x (by1.mono (by decide))
      have o2 := a0z y.y (by2.mono (by decide))
      have o3 := a3m y.x (by1.mono (by decide))
      have o4 := a3m y.y (by2.mono (by decide))
      have o5 := N8 (Nm.ofQ (C8 (Nm.j3 y.x))) walk (a1Q ((by1.mono (m := 17179869184) (by decide)).fit (by decide))) (hkw.mono (by decide))
      have o6 := N8 (Nm.ofQ (C8 (Nm.j3 y.y))) walk (a1Q ((by2.mono (m := 17179869184) (by decide)).fit (by decide))) (hkw.mono (by decide))
      rw [Nm.E9] at o5 o6
      have hm := b8q (C8 (Nm.j3 y.x)) (C8 (Nm.j3 y.y)) (Nm.j3 walk)
      have hv : a5c walk y = (decide y.x.D6 && decide y.y.D6 && !decide (0 < Nm.q8 (a0w (C8 (Nm.j3 y.x)) (C8 (Nm.j3 y.y))) (Nm.j3 walk))) := rfl
      rw [hv] at hd
      clear hv
      generalize Nm.q8 (a0w (C8 (Nm.j3 y.x)) (C8 (Nm.j3 y.y))) (Nm.j3 walk) = c0 at *
      generalize decide y.x.D6 = g1 at *
      generalize decide y.y.D6 = g2 at *
      generalize Nm.q8 (C8 (Nm.j3 y.x)) (Nm.j3 walk) = c1 at *
      generalize Nm.q8 (C8 (Nm.j3 y.y)) (Nm.j3 walk) = c2 at *
      unfold rq at o3 o4
      generalize Nm.ofQ (C8 (Nm.j3 y.x)) = a1 at *
      generalize Nm.ofQ (C8 (Nm.j3 y.y)) = a2 at *
      simp only [rc, sb, ints] at o1 o2 o3 o4 o5 o6
      (repeat first | refine uA ?_ | (refine uK ?_ ?_; focus first | omega | (intros; simp_all <;> omega)) | simp (disch := omega) only [go_sem, Nat.reduceBEq, Nat.reduceAdd, ww, hgv, c1z, c1y, Vt.enc, sb, c1B] | (refine uD o1 ?_ ?_ ?_; exact tz hw; exact rfl) | (refine uD o2 ?_ ?_ ?_; exact tz hw; exact rfl) | (refine uD o3 ?_ ?_ ?_; exact tz hw; exact rfl) | (refine uD o4 ?_ ?_ ?_; exact tz hw; exact rfl) | (refine uD o5 ?_ ?_ ?_; exact tz hw; exact rfl) | (refine uD o6 ?_ ?_ ?_; exact tz hw; exact rfl))
      refine S.cond rfl (fun hc2 => ?_) (fun hc2 => ?_)
      · have hf : v.all (a5c walk) = false := by
          rw [hg, hd]
          cases g1
          · rfl
          cases g2
          · rfl
          simp only [Bool.not_true, Bool.false_or, c1X, c1D] at hc2
          rw [decide_eq_true (show 0 < c0 from hm.2 hc2)]; rfl
        rw [if_pos hf] at hE
        subst hE
        rw [if_neg (by decide)]
        (repeat first | refine uA ?_ | (refine uK ?_ ?_; focus first | omega | (intros; simp_all <;> omega)) | simp (disch := omega) only [go_sem, Nat.reduceBEq, Nat.reduceAdd, ww])
        (refine S.done ?_; simp only [p8, l7, go_sem, Nat.reduceBEq, Nat.reduceAdd, Nat.reduceLeDiff, Int.reduceToNat, Int.reducePow]; (repeat (refine ⟨?_, ?_⟩; focus first | trivial | omega | simp)); exact d9.out rfl (Imp.tup (by (repeat' (first | exact j5.nil | exact Imp.refl rfl | exact Imp.frz rfl rfl rfl | exact Imp.F9 | refine Imp.agg ?_ | refine j5.cons ?_ ?_)))) rfl)
      · (repeat first | refine uA ?_ | (refine uK ?_ ?_; focus first | omega | (intros; simp_all <;> omega)) | simp (disch := omega) only [go_sem, Nat.reduceBEq, Nat.reduceAdd, ww])
        refine S.next (i + 1) ⟨by omega, ?_⟩ (by omega) (by (repeat first | refine uA ?_ | (refine ⟨?_, ?_⟩; focus first | rfl | simp [slot]) | rfl | simp))
        rw [hg, hd]
        cases g1
        · simp at hc2
        cases g2
        · simp at hc2
        simp only [Bool.not_true, Bool.false_or, c1L, c1E] at hc2
        rw [decide_eq_false (show ¬ 0 < c0 from fun h => by have := hm.1 h; omega)]; rfl
    rw [List.drop_eq_nil_of_le (by omega), List.all_nil] at hg
    rw [hg, if_neg (by decide)] at hE
    (repeat first | refine uA ?_ | (refine uK ?_ ?_; focus first | omega | (intros; simp_all <;> omega)) | simp (disch := omega) only [go_sem, Nat.reduceBEq, Nat.reduceAdd, ww])
    refine S.cond rfl (fun hc => ?_) (fun hc => ?_)
    · rw [if_pos (by simpa using hc)] at hE
      subst hE
      rw [if_neg (by decide)]
      (repeat first | refine uA ?_ | (refine uK ?_ ?_; focus first | omega | (intros; simp_all <;> omega)) | simp (disch := omega) only [go_sem, Nat.reduceBEq, Nat.reduceAdd, ww])
      (refine S.done ?_; simp only [p8, l7, go_sem, Nat.reduceBEq, Nat.reduceAdd, Nat.reduceLeDiff, Int.reduceToNat, Int.reducePow]; (repeat (refine ⟨?_, ?_⟩; focus first | trivial | omega | simp)); exact d9.out rfl (Imp.tup (by (repeat' (first | exact j5.nil | exact Imp.refl rfl | exact Imp.frz rfl rfl rfl | exact Imp.F9 | refine Imp.agg ?_ | refine j5.cons ?_ ?_)))) rfl)
    rw [if_neg (by simpa using hc)] at hE
    subst hE
    rw [if_pos rfl]
    have htk : IntKind.i64.wrap (tick + 1) = tick + 1 := wrap_i64 (by omega)
    (repeat first | refine uA ?_ | (refine uK ?_ ?_; focus first | omega | (intros; simp_all <;> omega)) | simp (disch := omega) only [go_sem, Nat.reduceBEq, Nat.reduceAdd, ww, C.sh, C.shL, c1T, List.length_nil, c1y, htk] | refine l9.t (l8.pre (hcp _ rfl) rfl rfl rfl) ?_)
    refine S.loop (X := Nat) (fun i => ⟨[(2, wss u), (3, bls p), (4, vts v), (5, .bp 0 0), (6, .bp 1 0), (10, .bp 2 0), (15, .bp 9 0), (99, ams arms), (100, ints arms.length), (101, ints i)], [.box 31 [ams arms, wls walls, pts parts, sls slots, gts gates, .v (.bool walk.neg), sb walk.num, sb walk.den], .box 37 [ints tick, D8 sarms, frs sparts, vts people, bls sgates], .box 37 [.v (.int .i64 0), .v (.slice none 0 0), .v (.slice none 0 0), .v (.slice none 0 0), .v (.slice none 0 0)], .gone, .gone, .row 55 10 ((((arms.zip A).take i).foldl pP sparts).map Fr.enc), .row 51 6 (people.map Vt.enc), .gone, .row 90 4 ((A.take i ++ sarms.drop i).map Ast.enc), .box 37 [ints (tick + 1), .rv 8, .rv 5, .rv 6, bls sgates]]⟩) (fun i => i <= arms.length) (fun i => arms.length - i) 0 (c1H _) (by (repeat first | refine uA ?_ | (refine ⟨?_, ?_⟩; focus first | rfl | simp [slot]) | rfl | simp)) ?_
    intro i hi
    simp only [ams, wls, pts, sls, gts, D8, frs, vts, bls, wss, rts, sb, ints] at hi ⊢
    (repeat first | refine uA ?_ | (refine uK ?_ ?_; focus first | omega | (intros; simp_all <;> omega)) | simp (disch := omega) only [go_sem, Nat.reduceBEq, Nat.reduceAdd, ww])
    (refine uJ rfl (fun hc => ?_) fun hc => ?_)
    · have hga := c1x (show i < arms.length by omega)
      have hgx := c1x (show i < sarms.length by omega)
      have hgu := c1x (show i < u.length by omega)
      have hgp := c1x (show i < p.length by omega)
      generalize arms[i]'_ = a at hga
      generalize sarms[i]'_ = x at hgx
      generalize u[i]'_ = ui at hgu
      generalize p[i]'_ = b at hgp
      have hgA := hag hga hgx hgu hgp
      have hz := c1A (K5 hga hgx)
      obtain ⟨k1, k2, k3, k4⟩ := hone _ hz
      simp only at k1 k2 k3 k4
      have bx := hbs x (c1A hgx)
      have bu := hbu ui (c1A hgu)
      have ba := hba a (c1A hga)
      have o1 := b9Y a x ui b (ba.mono (by decide)) ⟨⟨c1G bx.1.1 (by decide), fun r hr => (bx.1.2 r hr).mono (by decide)⟩, c1G bx.2.1 (by decide), fun r hr => (bx.2.2 r hr).mono (by decide)⟩ ⟨c1G bu.1 (by decide), fun r hr => (bu.2 r hr).mono (by decide)⟩ k1 k2 k3
      have hfa := fold_at (f := pP) (K5 hga hgA) sparts
      rw [hput] at hfa
      have hh := holds_one a x ui b
      have hql := (b8D (u := ui) (p := b) ⟨k1, k2, k3, k4⟩).1
      have hqb := (b9H (u := ui) (p := b) k1 bx bu.2).1
      have hcar := fun q pt => hcar i (a1W a x ui b) a q pt hga
      have hPl := hpl ((arms.zip A).take i) sparts
      have s1 := a6q Ast.enc (by omega) hgA (m := sarms)
      have m1 := a4F (l := A) (m := sarms) (i := i) (by omega) (by omega)
      generalize hA1 : A.take (i + 1) ++ sarms.drop (i + 1) = A1 at *
      generalize A.take i ++ sarms.drop i = A0 at *
      generalize hP1 : ((arms.zip A).take (i + 1)).foldl pP sparts = P1 at *
      generalize ((arms.zip A).take i).foldl pP sparts = P0 at *
      obtain ⟨z0, hz0⟩ : ∃ z0, A0[i]? = some z0 := ⟨_, c1x (show i < A0.length by omega)⟩
      generalize hy : a1W a x ui b = y at *
      have hxi : (i : Int) < sarms.length := by omega
      have hui : (i : Int) < u.length := by omega
      have hpi : (i : Int) < p.length := by omega
      simp only [Am.c, Am.enc, Ast.c, Ast.enc, lks, rts, sb, ints] at o1 s1 hcar
      (repeat first | refine uA ?_ | (refine uK ?_ ?_; focus first | omega | (intros; simp_all <;> omega)) | simp (disch := omega) only [go_sem, Nat.reduceBEq, Nat.reduceAdd, ww, hga, hgx, hgu, hgp, hz0, m1, s1, c1z, c1y, Am.enc, Ast.enc, lks, rts, sb, ints, c1B] | (refine uD o1 ?_ ?_ ?_; exact tz hw; exact rfl))
      refine S.cond rfl (fun hc2 => by simp at hc2) (fun hc2 => ?_)
      (repeat first | refine uA ?_ | (refine uK ?_ ?_; focus first | omega | (intros; simp_all <;> omega)) | simp (disch := omega) only [go_sem, Nat.reduceBEq, Nat.reduceAdd, ww, hz0, m1, s1, c1z, c1y, Ast.enc, rts, ints, c1B])
      refine S.cond rfl (fun hc3 => ?_) (fun hc3 => ?_)
      · have hp0 : 0 <= y.holds := by simpa using hc3
        obtain ⟨q, hq⟩ : ∃ q : Nat, y.holds = q := ⟨y.holds.toNat, by omega⟩
        have hqp : q < parts.length := by omega
        have hgq := c1x hqp
        generalize parts[q] = pt at hgq
        have o2 := hcar q pt hgq hq k1 hql hqb
        rw [if_neg (by simp only; omega)] at hfa
        simp only [hq, c1B, hgq] at hfa
        have s2 : (P0.map Fr.enc).set q (a0q a y.q pt.grasp).enc = P1.map Fr.enc := by rw [<- List.map_set, <- hfa]
        obtain ⟨z1, hz1⟩ : ∃ z1, P0[q]? = some z1 := ⟨_, c1x (show q < P0.length by omega)⟩
        have hq2 : (q : Int) < P0.length := by omega
        generalize a0q a y.q pt.grasp = R at *
        simp only [Fr.c, Fr.enc, hq, sb] at o2 s2
        simp only [hq]
        (repeat first | refine uA ?_ | (refine uK ?_ ?_; focus first | omega | (intros; simp_all <;> omega)) | simp (disch := omega) only [go_sem, Nat.reduceBEq, Nat.reduceAdd, ww, hz1, s2, hPl, Fr.enc, sb, c1z, c1y, c1B] | (refine uD o2 ?_ ?_ ?_; exact tz hw; exact rfl))
        refine S.cond rfl (fun hc2 => by simp at hc2) (fun hc2 => ?_)
        (repeat first | refine uA ?_ | (refine uK ?_ ?_; focus first | omega | (intros; simp_all <;> omega)) | simp (disch := omega) only [go_sem, Nat.reduceBEq, Nat.reduceAdd, ww])
        refine S.next (i + 1) (by omega) (by omega) (by simp only [hA1, hP1]; exact (by (repeat first | refine uA ?_ | (refine ⟨?_, ?_⟩; focus first | rfl | simp [slot]) | rfl | simp)))
      · have hp0 : y.holds < 0 := by simp only [c1E] at hc3; omega
        rw [if_pos (by simpa using hp0)] at hfa
        subst hfa
        (repeat first | refine uA ?_ | (refine uK ?_ ?_; focus first | omega | (intros; simp_all <;> omega)) | simp (disch := omega) only [go_sem, Nat.reduceBEq, Nat.reduceAdd, ww])
        refine S.next (i + 1) (by omega) (by omega) (by simp only [hA1, hP1]; exact (by (repeat first | refine uA ?_ | (refine ⟨?_, ?_⟩; focus first | rfl | simp [slot]) | rfl | simp)))
    have hi' : i = arms.length := by omega
    subst hi'
    rw [show (arms.zip A).take arms.length = arms.zip A from c1W (by rw [List.length_zip]; omega), show A.take arms.length ++ sarms.drop arms.length = A by rw [<- e1]; exact mid_end (by omega)]
    have hMl : ((people.zip v).map a8x).length = people.length := by rw [c1y, List.length_zip]; omega
    have hMg : ∀ (i : Nat) (a b : Vt), people[i]? = some a -> v[i]? = some b -> ((people.zip v).map a8x)[i]? = some (a8x (a, b)) := fun i a b h1 h2 => by rw [c2n, K5 h1 h2]; rfl
    generalize (arms.zip A).foldl pP sparts = PP at *
    generalize (people.zip v).map a8x = M at *
    (repeat first | refine uA ?_ | (refine uK ?_ ?_; focus first | omega | (intros; simp_all <;> omega)) | simp (disch := omega) only [go_sem, Nat.reduceBEq, Nat.reduceAdd, ww, c1y])
    refine S.loop (X := Nat) (fun i => ⟨[(6, .bp 1 0), (10, .bp 2 0), (15, .bp 9 0), (153, vts v), (154, ints v.length), (155, ints i)], [.gone, .box 37 [ints tick, D8 sarms, frs sparts, vts people, bls sgates], .box 37 [.v (.int .i64 0), .v (.slice none 0 0), .v (.slice none 0 0), .v (.slice none 0 0), .v (.slice none 0 0)], .gone, .gone, .row 55 10 (PP.map Fr.enc), .row 51 6 ((M.take i ++ people.drop i).map Vt.enc), .gone, .row 90 4 (A.map Ast.enc), .box 37 [ints (tick + 1), .rv 8, .rv 5, .rv 6, bls sgates]]⟩) (fun i => i <= v.length) (fun i => v.length - i) 0 (c1H _) (by (repeat first | refine uA ?_ | (refine ⟨?_, ?_⟩; focus first | rfl | simp [slot]) | rfl | simp)) ?_
    intro i hi
    simp only [ams, wls, pts, sls, gts, D8, frs, vts, bls, wss, rts, sb, ints] at hi ⊢
    (repeat first | refine uA ?_ | (refine uK ?_ ?_; focus first | omega | (intros; simp_all <;> omega)) | simp (disch := omega) only [go_sem, Nat.reduceBEq, Nat.reduceAdd, ww])
    (refine uJ rfl (fun hc => ?_) fun hc => ?_)
    · have hgv := c1x (show i < v.length by omega)
      have hgw := c1x (show i < people.length by omega)
      generalize v[i]'_ = b at hgv
      generalize people[i]'_ = a at hgw
      have hgM := hMg i a b hgw hgv
      obtain ⟨ba1, ba2⟩ := hbp a (c1A hgw)
      obtain ⟨bb1, bb2⟩ := hbv b (c1A hgv)
      have o1 := b4E a.x a.y b.x b.y (ba1.mono (by decide)) (ba2.mono (by decide)) (bb1.mono (by decide)) (bb2.mono (by decide))
      have s1 := a6q Vt.enc (by omega) hgM (m := people)
      have m1 := a4F (l := M) (m := people) (i := i) (by omega) (by omega)
      have hV : a8x (a, b) = ⟨Nm.ofQ (Nm.j3 a.x + Nm.j3 b.x), Nm.ofQ (Nm.j3 a.y + Nm.j3 b.y)⟩ := rfl
      rw [hV] at s1
      unfold vq at o1
      generalize Nm.ofQ (Nm.j3 a.x + Nm.j3 b.x) = r1 at *
      generalize Nm.ofQ (Nm.j3 a.y + Nm.j3 b.y) = r2 at *
      generalize hM1 : M.take (i + 1) ++ people.drop (i + 1) = M1 at *
      generalize M.take i ++ people.drop i = M0 at *
      obtain ⟨z0, hz0⟩ : ∃ z0, M0[i]? = some z0 := ⟨_, c1x (show i < M0.length by omega)⟩
      have hwi : (i : Int) < people.length := by omega
      simp only [vc, Vt.enc, sb] at o1 s1
      (repeat first | refine uA ?_ | (refine uK ?_ ?_; focus first | omega | (intros; simp_all <;> omega)) | simp (disch := omega) only [go_sem, Nat.reduceBEq, Nat.reduceAdd, ww, hgv, hgw, hz0, m1, s1, c1z, c1y, Vt.enc, sb, c1B] | (refine uD o1 ?_ ?_ ?_; exact tz hw; exact rfl))
      refine S.next (i + 1) (by omega) (by omega) (by simp only [hM1]; exact (by (repeat first | refine uA ?_ | (refine ⟨?_, ?_⟩; focus first | rfl | simp [slot]) | rfl | simp)))
    have hi' : i = v.length := by omega
    subst hi'
    rw [show M.take v.length ++ people.drop v.length = M by rw [hl3]; exact mid_end (by omega)]
    (repeat first | refine uA ?_ | (refine uK ?_ ?_; focus first | omega | (intros; simp_all <;> omega)) | simp (disch := omega) only [go_sem, Nat.reduceBEq, Nat.reduceAdd, ww])
    (refine S.done ?_; simp only [p8, l7, go_sem, Nat.reduceBEq, Nat.reduceAdd, Nat.reduceLeDiff, Int.reduceToNat, Int.reducePow]; (repeat (refine ⟨?_, ?_⟩; focus first | trivial | omega | simp)); exact d9.out rfl (Imp.tup (by (repeat' (first | exact j5.nil | exact Imp.refl rfl | exact Imp.frz rfl rfl rfl | exact Imp.F9 | refine Imp.agg ?_ | refine j5.cons ?_ ?_)))) rfl)
  · have hE : a3i w s u p v = I4 w s := by unfold a3i; rw [if_pos h0]
    unfold a7D
    rw [hE, if_neg h0]
    generalize I4 w s = e at *
    obtain ⟨arms, walls, parts, slots, gates, walk⟩ := w
    obtain ⟨tick, sarms, sparts, people, sgates⟩ := s
    simp only [j6]
    simp only [Wk.c, Wk.enc, Stt.c, Stt.enc, a0Y, ams, wls, pts, sls, gts, D8, frs, vts, bls, wss, rts, sb, ints] at hck ⊢
    (repeat first | refine uA ?_ | (refine uK ?_ ?_; focus first | omega | (intros; simp_all <;> omega)) | simp (disch := omega) only [go_sem, Nat.reduceBEq, Nat.reduceAdd, ww] | (refine uD hck ?_ ?_ ?_; exact tz hw; exact rfl))
    refine S.cond rfl (fun hc => ?_) (fun hc => by simp at hc; exact absurd hc h0)
    (repeat first | refine uA ?_ | (refine uK ?_ ?_; focus first | omega | (intros; simp_all <;> omega)) | simp (disch := omega) only [go_sem, Nat.reduceBEq, Nat.reduceAdd, ww])
    (refine S.done ?_; simp only [p8, l7, go_sem, Nat.reduceBEq, Nat.reduceAdd, Nat.reduceLeDiff, Int.reduceToNat, Int.reducePow]; (repeat (refine ⟨?_, ?_⟩; focus first | trivial | omega | simp)); exact d9.out rfl (Imp.tup (by (repeat' (first | exact j5.nil | exact Imp.refl rfl | exact Imp.frz rfl rfl rfl | exact Imp.F9 | refine Imp.agg ?_ | refine j5.cons ?_ ?_)))) rfl)
set_option maxHeartbeats 8000000
theorem b8z (w : Wk) (n : Nat) (x : Ast) (a : Am) (p : Nat) (pt : Pt) (hwb : Wb 1048576 w) (ga : w.arms[n]? = some a) (gp : w.parts[p]? = some pt) (hx : x.holds = p) (ha : J6 a = 0) (hql : x.q.length = a.links.length) (hq : ∀ r ∈ x.q, Rb 2097664 r) :
  FZ 166 [w.c, .v (.int .i64 (n : Int)), x.c] (a0q a x.q pt.grasp).c := by
 refine kW Tryz.func166 (by cbv) (by rfl) fun w' O hw => ?_
 obtain ⟨n1, b1⟩ := hwb.arms
 obtain ⟨n2, b2⟩ := hwb.parts
 have h1 := b1E a x.q ((b1 a (c1A ga)).mono (by decide)) ha hql hq
 have h2 := b3c pt.grasp (b2 pt (c1A gp)).2.2
 have h3 := a9g hwb ga gp ha hql hq
 obtain ⟨g1, g2⟩ := a4s (a.links.zip x.q) a.base
 have hn : (a.links.zip x.q).length <= 3 := by rw [List.length_zip]; have := (T9 ha).2; omega
 unfold a0q
 have na := (c1F.1 ga).1
 have np := (c1F.1 gp).1
 generalize a0y a.base (a.links.zip x.q) = L at *
 generalize H7 a.base (a.links.zip x.q) = T at *
 generalize (a.links.zip x.q).length = k at *
 generalize O0 T (a0V pt.grasp) = R at *
 generalize a0V pt.grasp = B at *
 obtain ⟨q, v, power, holds⟩ := x
 obtain ⟨arms, walls, parts, slots, gates, walk⟩ := w
 simp only at ga gp na np hx h1 ⊢
 subst hx
 have na' : (n : Int) < arms.length := by omega
 have np' : (p : Int) < parts.length := by omega
 have e1 : ((L.length : Int) - 1) = (k : Int) := by omega
 have e2 : (k : Int) < L.length := by omega
 have e3 : decide ((L.length : Int) = 0) = false := decide_eq_false (by omega)
 simp only [j6]
 simp only [Wk.c, Wk.enc, Am.c, Am.enc, Ast.c, Ast.enc, Fr.c, Fr.enc, ams, wls, pts, sls, gts, lks, rts, frs, sb, ints] at h1 h2 h3 ⊢
 (repeat first | refine uG h1 ?_ | refine uA ?_ | (refine uK ?_ ?_; focus first | omega | (intros; simp_all <;> omega)) | simp (disch := omega) only [go_sem, Nat.reduceBEq, Nat.reduceAdd, ww, ga, c1z, c1y, Am.enc, lks, sb, c1B] | (refine uD h1 ?_ ?_ ?_; exact tz hw; exact rfl))
 refine S.cond rfl (fun hc => by simp only [c1D] at hc; omega) (fun hc => ?_)
 (repeat first | refine uG h2 ?_ | refine uG h3 ?_ | refine uA ?_ | (refine uK ?_ ?_; focus first | omega | (intros; simp_all <;> omega)) | simp (disch := omega) only [go_sem, Nat.reduceBEq, Nat.reduceAdd, ww, gp, g1, e1, c1z, c1y, Pt.enc, Fr.enc, vts, sb, c1B] | (refine uD h2 ?_ ?_ ?_; exact tz hw; exact rfl) | (refine uD h3 ?_ ?_ ?_; exact tz hw; exact rfl))
 (refine S.done ?_; simp only [p8, l7, go_sem, Nat.reduceBEq, Nat.reduceAdd, Nat.reduceLeDiff, Int.reduceToNat, Int.reducePow]; (repeat (refine ⟨?_, ?_⟩; focus first | trivial | omega | simp)); exact d9.out rfl (Imp.refl rfl) rfl)
set_option maxHeartbeats 16000000
theorem c0j (a b c d e v : Int) : (if E5 id [a, b, c, d, e] ≠ 0 then E5 id [a, b, c, d, e] else v) = if a ≠ 0 then a else if b ≠ 0 then b else if c ≠ 0 then c else if d ≠ 0 then d else if e ≠ 0 then e else v := by
 simp only [E5, id]
 by_cases ha : a = 0 <;> by_cases hb : b = 0 <;> by_cases hc : c = 0 <;> by_cases hd : d = 0 <;> by_cases he : e = 0 <;> simp [ha, hb, hc, hd, he]
theorem b2P {k : Nat} {a : Nm.Rt} (h : 1 <= k) (h1 : Rb k a) : Rbs k [a] := ⟨h, fun x hx => by simp at hx; subst hx; exact h1⟩
theorem b6a {k : Nat} {a b c d : Nm.Rt} (h : 4 <= k) (h1 : Rb k a) (h2 : Rb k b) (h3 : Rb k c) (h4 : Rb k d) : Rbs k [a, b, c, d] := ⟨h, fun x hx => by simp at hx; rcases hx with rfl | rfl | rfl | rfl <;> assumption⟩
theorem walk_eq (a : Nm.Rt) : a9O a = if ([a].all j4 = false \/ r9 (Nm.j3 a) = -1) then 1 else 0 := by
 have h1 : (decide a.D6 && j4 a) = [a].all j4 := by rw [<- X5]; simp
 have h2 := b5I (Nm.j3 a)
 unfold a9O
 rw [h1]
 generalize [a].all j4 = q
 have := b0v (Nm.j3 a)
 cases q
 ·simp
 ·by_cases h : 0 <= r9 (Nm.j3 a)
  ·rw [if_pos (by simpa using h), if_neg (by simp; omega)]
  ·rw [if_neg (by simpa using h), if_pos (by right; omega)]
theorem b8t (s : Sl) : (okF s.frame && decide s.within.D6 && j4 s.within && decide (0 < r9 (Nm.j3 s.within))) = !(!okF s.frame || !([s.within].all j4) || decide (r9 (Nm.j3 s.within) < 1)) := by
 have h1 : (okF s.frame && decide s.within.D6 && j4 s.within) = (okF s.frame && [s.within].all j4) := by
  rw [Bool.and_assoc, <- X5]; simp
 rw [h1, sign_one]
 cases okF s.frame <;> cases [s.within].all j4 <;> cases decide (0 < r9 (Nm.j3 s.within)) <;> rfl
theorem b8N (g : Gt) : (okV g.low && okV g.high && decide (Nm.q8 (Nm.j3 g.low.x) (Nm.j3 g.high.x) <= 0) && decide (Nm.q8 (Nm.j3 g.low.y) (Nm.j3 g.high.y) <= 0)) = !(!([g.low.x, g.low.y, g.high.x, g.high.y].all j4) || decide (Nm.q8 (Nm.j3 g.low.x) (Nm.j3 g.high.x) = 1) || decide (Nm.q8 (Nm.j3 g.low.y) (Nm.j3 g.high.y) = 1)) := by
 have h1 : (okV g.low && okV g.high) = [g.low.x, g.low.y, g.high.x, g.high.y].all j4 := by
  rw [b0A, b0A]; simp [Bool.and_assoc]
 rw [h1, b2R, b2R]
 cases [g.low.x, g.low.y, g.high.x, g.high.y].all j4 <;> cases decide (Nm.q8 (Nm.j3 g.low.x) (Nm.j3 g.high.x) <= 0) <;> cases decide (Nm.q8 (Nm.j3 g.low.y) (Nm.j3 g.high.y) <= 0) <;> rfl
theorem b7W (n : Nms) (a : Am) : a0k n a = if J6 a ≠ 0 then (J6 a, n) else J7 n a.name := rfl
theorem b7d (n : Nms) (p : Pt) : Z5 n p = if (J7 n p.name).1 ≠ 0 then J7 n p.name else if L8 p.shape ≠ 0 then (L8 p.shape, (J7 n p.name).2) else (if okF p.grasp then 0 else 1, (J7 n p.name).2) := rfl
theorem b6A (n : Nms) (s : Sl) : Z8 n s = if (J7 n s.name).1 ≠ 0 then J7 n s.name else (if okF s.frame && decide s.within.D6 && j4 s.within && decide (0 < r9 (Nm.j3 s.within)) then 0 else 1, (J7 n s.name).2) := rfl
theorem b7v (n : Nms) (g : Gt) : Z9 n g = if (J7 n g.name).1 ≠ 0 then J7 n g.name else (if okV g.low && okV g.high && decide (Nm.q8 (Nm.j3 g.low.x) (Nm.j3 g.high.x) <= 0) && decide (Nm.q8 (Nm.j3 g.low.y) (Nm.j3 g.high.y) <= 0) then 0 else 1, (J7 n g.name).2) := rfl
theorem b6u (w : Wk) (hb : Wb 1073741824 w) : FZ 24 [w.c] (ints (Y0 w)) := by
 refine kW Tryz.func24 (by cbv) (by rfl) fun w' O hw => ?_
 have hcal : callable Tryz.prog 98 = true := by kernel_rfl
 obtain ⟨⟨n1, b1⟩, ⟨n2, b2⟩, ⟨n3, b3⟩, ⟨n4, b4⟩, ⟨n5, b5⟩, b6⟩ := hb
 have hnm := fun (E : Ctx) (hP : E.P = Tryz.prog) (n : Nms) (s : List UInt8) (hs : s.length <= 1099511627776) (hn : n.length <= 1000000) => b8p hP w n s hs hn
 have h6 := a3M _ (b2P (by decide) (b6.mono (m := 17179869184) (by decide)))
 have h7 := K8 w.walk (b6.mono (by decide))
 unfold Y0 a4I
 generalize hr1 : C9 a0k [] w.arms = r1
 obtain ⟨e1, m1⟩ := r1
 simp only
 generalize hr3 : C9 Z5 m1 w.parts = r3
 obtain ⟨e3, m3⟩ := r3
 simp only
 generalize hr4 : C9 Z8 m3 w.slots = r4
 obtain ⟨e4, m4⟩ := r4
 simp only
 generalize hr5 : C9 Z9 m4 w.gates = r5
 obtain ⟨e5, m5⟩ := r5
 simp only
 generalize hr2 : E5 L8 w.walls = e2
 rw [c0j, walk_eq]
 generalize [w.walk].all j4 = q6 at *
 generalize r9 (Nm.j3 w.walk) = s7 at *
 obtain ⟨arms, walls, parts, slots, gates, walk⟩ := w
 simp only at n1 n2 n3 n4 n5 b1 b2 b3 b4 b5 hr1 hr2 hr3 hr4 hr5 ⊢
 simp only [j6]
 simp only [Wk.c, Wk.enc, rsR, ams, wls, pts, sls, gts, rts, rcs, rc, sb, ints, c1R, c2d] at hnm h6 h7 ⊢
 (repeat first | refine uA ?_ | (refine uK ?_ ?_; focus first | omega | (intros; simp_all <;> omega)) | simp (disch := omega) only [go_sem, Nat.reduceBEq, Nat.reduceAdd, ww, c1y])
 refine S.cond rfl (fun hc => ?_) (fun hc => ?_)
 ·rw [if_pos (by simp only [c1X, c1D] at hc; omega)]
  (repeat first | refine uA ?_ | (refine uK ?_ ?_; focus first | omega | (intros; simp_all <;> omega)) | simp (disch := omega) only [go_sem, Nat.reduceBEq, Nat.reduceAdd, ww])
  exact S.done (d9.out rfl (Imp.refl rfl) rfl)
 rw [if_neg (by simp only [c1L, c1E] at hc; omega)]
 simp only [c1L, c1E] at hc
 (repeat first | refine uA ?_ | (refine uK ?_ ?_; focus first | omega | (intros; simp_all <;> omega)) | simp (disch := omega) only [go_sem, Nat.reduceBEq, Nat.reduceAdd, ww, c1y])
 refine S.cond rfl (fun hc => ?_) (fun hc => ?_)
 ·rw [if_pos (by simp only [c1D] at hc; omega)]
  (repeat first | refine uA ?_ | (refine uK ?_ ?_; focus first | omega | (intros; simp_all <;> omega)) | simp (disch := omega) only [go_sem, Nat.reduceBEq, Nat.reduceAdd, ww])
  exact S.done (d9.out rfl (Imp.refl rfl) rfl)
 rw [if_neg (by simp only [c1E] at hc; omega)]
 (repeat first | refine uA ?_ | (refine uK ?_ ?_; focus first | omega | (intros; simp_all <;> omega)) | simp (disch := omega) only [go_sem, Nat.reduceBEq, Nat.reduceAdd, ww, c1y])
 refine S.loop (X := Nat × Nms) (fun x => ⟨[(1, .bp 0 0), (4, .clo 98 [.bp 1 0]), (58, ams arms), (59, ints arms.length), (60, ints x.1)], [.box 31 [ams arms, wls walls, pts parts, sls slots, gts gates, .v (.bool walk.neg), sb walk.num, sb walk.den], .box 153 [.rv 2], .row 9 1 (nmR x.2)]⟩)
  (fun x => x.1 <= arms.length /\ x.2.length <= x.1 /\ (e1, m1) = C9 a0k x.2 (arms.drop x.1)) (fun x => arms.length - x.1) (0, []) ⟨c1H _, c1I _, hr1.symm⟩ (Ent.trans (Ent.a3n 1 0 9 1 rfl rfl rfl) (by (repeat first | refine uA ?_ | (refine ⟨?_, ?_⟩; focus first | rfl | simp [slot]) | rfl | simp))) ?_
 rintro ⟨i, m⟩ ⟨hi, hml, hg⟩
 simp only [ams, wls, pts, sls, gts, sb, ints] at hi hml hg ⊢
 (repeat first | refine uA ?_ | (refine uK ?_ ?_; focus first | omega | (intros; simp_all <;> omega)) | simp (disch := omega) only [go_sem, Nat.reduceBEq, Nat.reduceAdd, ww])
 (refine uJ rfl (fun hc => ?_) fun hc => ?_)
 ·have hgi := c1x (show i < arms.length by omega)
  generalize arms[i]'(_) = x at hgi
  have hx := b1 x (c1A hgi)
  have hst := U1 (f := a0k) (s := m) hgi
  have hnx := S9 (f := a0k) (s := m) hgi
  have o1 := a7y x hx
  have o2 := fun (E : Ctx) (hP : E.P = Tryz.prog) => hnm E hP m x.name (by have := hx.1; omega) (by omega)
  have hal := a5u m x.name
  rw [b7W] at hst hnx
  generalize J6 x = a1 at *
  generalize J7 m x.name = r at *
  obtain ⟨a2, m'⟩ := r
  simp only [Am.c, Am.enc, lks, sb] at o1 o2 hal hst hnx
  (repeat first | refine uG o1 ?_ | refine uA ?_ | (refine uK ?_ ?_; focus first | omega | (intros; simp_all <;> omega)) | simp (disch := omega) only [go_sem, Nat.reduceBEq, Nat.reduceAdd, ww, hgi, c1z, c1y, Am.enc, lks, sb, c1B] | (refine uD o1 ?_ ?_ ?_; exact tz hw; exact rfl))
  refine S.cond rfl (fun hc2 => ?_) (fun hc2 => ?_)
  ·have h0 : a1 ≠ 0 := by simpa using hc2
   rw [if_pos h0] at hst
   rw [hst h0] at hg
   injection hg with g1 g2
   rw [if_pos (by rw [g1]; exact h0), g1]
   (repeat first | refine uA ?_ | (refine uK ?_ ?_; focus first | omega | (intros; simp_all <;> omega)) | simp (disch := omega) only [go_sem, Nat.reduceBEq, Nat.reduceAdd, ww])
   exact S.done (d9.out rfl (Imp.refl rfl) rfl)
  have h0 : ¬ a1 ≠ 0 := by simpa using hc2
  rw [if_neg h0] at hst hnx
  simp only at hst hnx
  (repeat first | refine uA ?_ | (refine uK ?_ ?_; focus first | omega | (intros; simp_all <;> omega)) | simp (disch := omega) only [go_sem, Nat.reduceBEq, Nat.reduceAdd, ww, hcal, c1R, c2d] | refine l9.t (l8.b3K _ (o2 _ rfl) rfl rfl rfl) ?_)
  refine S.cond rfl (fun hc3 => ?_) (fun hc3 => ?_)
  ·have h1 : a2 ≠ 0 := by simpa using hc3
   rw [hst h1] at hg
   injection hg with g1 g2
   rw [if_pos (by rw [g1]; exact h1), g1]
   (repeat first | refine uA ?_ | (refine uK ?_ ?_; focus first | omega | (intros; simp_all <;> omega)) | simp (disch := omega) only [go_sem, Nat.reduceBEq, Nat.reduceAdd, ww])
   exact S.done (d9.out rfl (Imp.refl rfl) rfl)
  ·have h1 : a2 = 0 := by simpa using hc3
   (repeat first | refine uA ?_ | (refine uK ?_ ?_; focus first | omega | (intros; simp_all <;> omega)) | simp (disch := omega) only [go_sem, Nat.reduceBEq, Nat.reduceAdd, ww])
   refine S.next (x := (i, m)) (i + 1, m') ⟨by simp only; omega, by simp only; omega, by simp only; rw [hg]; exact hnx h1⟩ (by simp only; omega) (by (repeat first | refine uA ?_ | (refine ⟨?_, ?_⟩; focus first | rfl | simp [slot]) | rfl | simp))
 rw [X8 (by omega)] at hg
 injection hg with g1 g2
 subst g1 g2
 rw [if_neg (show ¬ (0 : Int) ≠ 0 by simp)]
 have hm1 : m1.length <= 4 := by omega
 clear hr1 b1 hml hi
 (repeat first | refine uA ?_ | (refine uK ?_ ?_; focus first | omega | (intros; simp_all <;> omega)) | simp (disch := omega) only [go_sem, Nat.reduceBEq, Nat.reduceAdd, ww, c1y])
 refine S.loop (X := Nat) (fun i => ⟨[(1, .bp 0 0), (4, .clo 98 [.bp 1 0]), (78, wls walls), (79, ints walls.length), (80, ints i)], [.box 31 [ams arms, wls walls, pts parts, sls slots, gts gates, .v (.bool walk.neg), sb walk.num, sb walk.den], .box 153 [.rv 2], .row 9 1 (nmR m1)]⟩)
  (fun i => i <= walls.length /\ e2 = E5 L8 (walls.drop i)) (fun i => walls.length - i) 0 ⟨c1H _, hr2.symm⟩ (by (repeat first | refine uA ?_ | (refine ⟨?_, ?_⟩; focus first | rfl | simp [slot]) | rfl | simp)) ?_
 rintro j ⟨hj, hg⟩
 simp only [ams, wls, pts, sls, gts, sb, ints] at hj hg ⊢
 (repeat first | refine uA ?_ | (refine uK ?_ ?_; focus first | omega | (intros; simp_all <;> omega)) | simp (disch := omega) only [go_sem, Nat.reduceBEq, Nat.reduceAdd, ww])
 (refine uJ rfl (fun hc => ?_) fun hc => ?_)
 ·have hgi := c1x (show j < walls.length by omega)
  generalize walls[j]'(_) = x at hgi
  have hx := b2 x (c1A hgi)
  have hst := a0i (f := L8) hgi
  have hnx := a0m (f := L8) hgi
  have o1 := b0N x hx
  generalize L8 x = a1 at *
  simp only [vts] at o1
  (repeat first | refine uG o1 ?_ | refine uA ?_ | (refine uK ?_ ?_; focus first | omega | (intros; simp_all <;> omega)) | simp (disch := omega) only [go_sem, Nat.reduceBEq, Nat.reduceAdd, ww, hgi, c1z, c1y, vts, c1B] | (refine uD o1 ?_ ?_ ?_; exact tz hw; exact rfl))
  refine S.cond rfl (fun hc2 => ?_) (fun hc2 => ?_)
  ·have h0 : a1 ≠ 0 := by simpa using hc2
   rw [hst h0] at hg
   rw [if_pos (by rw [hg]; exact h0), hg]
   (repeat first | refine uA ?_ | (refine uK ?_ ?_; focus first | omega | (intros; simp_all <;> omega)) | simp (disch := omega) only [go_sem, Nat.reduceBEq, Nat.reduceAdd, ww])
   exact S.done (d9.out rfl (Imp.refl rfl) rfl)
  ·have h0 : a1 = 0 := by simpa using hc2
   (repeat first | refine uA ?_ | (refine uK ?_ ?_; focus first | omega | (intros; simp_all <;> omega)) | simp (disch := omega) only [go_sem, Nat.reduceBEq, Nat.reduceAdd, ww])
   refine S.next (j + 1) ⟨by omega, by rw [hg]; exact hnx h0⟩ (by omega) (by (repeat first | refine uA ?_ | (refine ⟨?_, ?_⟩; focus first | rfl | simp [slot]) | rfl | simp))
 rw [a0G (by omega)] at hg
 subst hg
 rw [if_neg (show ¬ (0 : Int) ≠ 0 by simp)]
 clear hr2 b2 hj
 (repeat first | refine uA ?_ | (refine uK ?_ ?_; focus first | omega | (intros; simp_all <;> omega)) | simp (disch := omega) only [go_sem, Nat.reduceBEq, Nat.reduceAdd, ww, c1y])
 refine S.loop (X := Nat × Nms) (fun x => ⟨[(1, .bp 0 0), (4, .clo 98 [.bp 1 0]), (91, pts parts), (92, ints parts.length), (93, ints x.1)], [.box 31 [ams arms, wls walls, pts parts, sls slots, gts gates, .v (.bool walk.neg), sb walk.num, sb walk.den], .box 153 [.rv 2], .row 9 1 (nmR x.2)]⟩)
  (fun x => x.1 <= parts.length /\ x.2.length <= 4 + x.1 /\ (e3, m3) = C9 Z5 x.2 (parts.drop x.1)) (fun x => parts.length - x.1) (0, m1) ⟨c1H _, hm1, hr3.symm⟩ (by (repeat first | refine uA ?_ | (refine ⟨?_, ?_⟩; focus first | rfl | simp [slot]) | rfl | simp)) ?_
 rintro ⟨k, m⟩ ⟨hk, hml, hg⟩
 simp only [ams, wls, pts, sls, gts, sb, ints] at hk hml hg ⊢
 (repeat first | refine uA ?_ | (refine uK ?_ ?_; focus first | omega | (intros; simp_all <;> omega)) | simp (disch := omega) only [go_sem, Nat.reduceBEq, Nat.reduceAdd, ww])
 (refine uJ rfl (fun hc => ?_) fun hc => ?_)
 ·have hgi := c1x (show k < parts.length by omega)
  generalize parts[k]'(_) = x at hgi
  have hx := b3 x (c1A hgi)
  have hst := U1 (f := Z5) (s := m) hgi
  have hnx := S9 (f := Z5) (s := m) hgi
  have o1 := b0N x.shape hx.2.1
  have o3 := b1o x.grasp ⟨hx.2.2.1.mono (by decide), hx.2.2.2.1.mono (by decide), hx.2.2.2.2.mono (by decide)⟩
  have o2 := fun (E : Ctx) (hP : E.P = Tryz.prog) => hnm E hP m x.name (by have := hx.1; omega) (by omega)
  have hal := a5u m x.name
  rw [b7d] at hst hnx
  generalize L8 x.shape = a1 at *
  generalize okF x.grasp = q at *
  generalize J7 m x.name = r at *
  obtain ⟨a2, m'⟩ := r
  obtain ⟨xn, xs, ⟨gx, gy, gh, gt⟩⟩ := x
  simp only [Fr.c, Fr.enc, vts, sb] at o1 o2 o3 hal hst hnx
  (repeat first | refine uA ?_ | (refine uK ?_ ?_; focus first | omega | (intros; simp_all <;> omega)) | simp (disch := omega) only [go_sem, Nat.reduceBEq, Nat.reduceAdd, ww, hgi, c1z, c1y, Pt.enc, vts, sb, c1B, hcal, c1R, c2d] | refine l9.t (l8.b3K _ (o2 _ rfl) rfl rfl rfl) ?_)
  refine S.cond rfl (fun hc2 => ?_) (fun hc2 => ?_)
  ·have h0 : a2 ≠ 0 := by simpa using hc2
   rw [if_pos h0] at hst
   rw [hst h0] at hg
   injection hg with g1 g2
   rw [if_pos (by rw [g1]; exact h0), g1]
   (repeat first | refine uA ?_ | (refine uK ?_ ?_; focus first | omega | (intros; simp_all <;> omega)) | simp (disch := omega) only [go_sem, Nat.reduceBEq, Nat.reduceAdd, ww])
   exact S.done (d9.out rfl (Imp.refl rfl) rfl)
  have h0 : ¬ a2 ≠ 0 := by simpa using hc2
  rw [if_neg h0] at hst hnx
  (repeat first | refine uG o1 ?_ | refine uA ?_ | (refine uK ?_ ?_; focus first | omega | (intros; simp_all <;> omega)) | simp (disch := omega) only [go_sem, Nat.reduceBEq, Nat.reduceAdd, ww] | (refine uD o1 ?_ ?_ ?_; exact tz hw; exact rfl))
  refine S.cond rfl (fun hc3 => ?_) (fun hc3 => ?_)
  ·have h1 : a1 ≠ 0 := by simpa using hc3
   rw [if_pos h1] at hst
   rw [hst h1] at hg
   injection hg with g1 g2
   rw [if_pos (by rw [g1]; exact h1), g1]
   (repeat first | refine uA ?_ | (refine uK ?_ ?_; focus first | omega | (intros; simp_all <;> omega)) | simp (disch := omega) only [go_sem, Nat.reduceBEq, Nat.reduceAdd, ww])
   exact S.done (d9.out rfl (Imp.refl rfl) rfl)
  have h1 : ¬ a1 ≠ 0 := by simpa using hc3
  rw [if_neg h1] at hst hnx
  (repeat first | refine uG o3 ?_ | refine uA ?_ | (refine uK ?_ ?_; focus first | omega | (intros; simp_all <;> omega)) | simp (disch := omega) only [go_sem, Nat.reduceBEq, Nat.reduceAdd, ww] | (refine uD o3 ?_ ?_ ?_; exact tz hw; exact rfl))
  refine S.cond rfl (fun hc4 => ?_) (fun hc4 => ?_)
  ·have h2 : ¬ q = true := by simpa using hc4
   rw [if_neg h2] at hst
   rw [hst (show (1 : Int) ≠ 0 by decide)] at hg
   injection hg with g1 g2
   rw [if_pos (by rw [g1]; decide), g1]
   (repeat first | refine uA ?_ | (refine uK ?_ ?_; focus first | omega | (intros; simp_all <;> omega)) | simp (disch := omega) only [go_sem, Nat.reduceBEq, Nat.reduceAdd, ww])
   exact S.done (d9.out rfl (Imp.refl rfl) rfl)
  ·have h2 : q = true := by simpa using hc4
   rw [if_pos h2] at hnx
   (repeat first | refine uA ?_ | (refine uK ?_ ?_; focus first | omega | (intros; simp_all <;> omega)) | simp (disch := omega) only [go_sem, Nat.reduceBEq, Nat.reduceAdd, ww])
   refine S.next (x := (k, m)) (k + 1, m') ⟨by simp only; omega, by simp only; omega, by simp only; rw [hg]; exact hnx rfl⟩ (by simp only; omega) (by (repeat first | refine uA ?_ | (refine ⟨?_, ?_⟩; focus first | rfl | simp [slot]) | rfl | simp))
 rw [X8 (by omega)] at hg
 injection hg with g1 g2
 subst g1 g2
 rw [if_neg (show ¬ (0 : Int) ≠ 0 by simp)]
 have hm3 : m3.length <= 10 := by omega
 clear hr3 b3 hml hk hm1
 (repeat first | refine uA ?_ | (refine uK ?_ ?_; focus first | omega | (intros; simp_all <;> omega)) | simp (disch := omega) only [go_sem, Nat.reduceBEq, Nat.reduceAdd, ww, c1y])
 refine S.loop (X := Nat × Nms) (fun x => ⟨[(1, .bp 0 0), (4, .clo 98 [.bp 1 0]), (116, sls slots), (117, ints slots.length), (118, ints x.1)], [.box 31 [ams arms, wls walls, pts parts, sls slots, gts gates, .v (.bool walk.neg), sb walk.num, sb walk.den], .box 153 [.rv 2], .row 9 1 (nmR x.2)]⟩)
  (fun x => x.1 <= slots.length /\ x.2.length <= 10 + x.1 /\ (e4, m4) = C9 Z8 x.2 (slots.drop x.1)) (fun x => slots.length - x.1) (0, m3) ⟨c1H _, hm3, hr4.symm⟩ (by (repeat first | refine uA ?_ | (refine ⟨?_, ?_⟩; focus first | rfl | simp [slot]) | rfl | simp)) ?_
 rintro ⟨k, m⟩ ⟨hk, hml, hg⟩
 simp only [ams, wls, pts, sls, gts, sb, ints] at hk hml hg ⊢
 (repeat first | refine uA ?_ | (refine uK ?_ ?_; focus first | omega | (intros; simp_all <;> omega)) | simp (disch := omega) only [go_sem, Nat.reduceBEq, Nat.reduceAdd, ww])
 (refine uJ rfl (fun hc => ?_) fun hc => ?_)
 ·have hgi := c1x (show k < slots.length by omega)
  generalize slots[k]'(_) = x at hgi
  have hx := b4 x (c1A hgi)
  have hst := U1 (f := Z8) (s := m) hgi
  have hnx := S9 (f := Z8) (s := m) hgi
  have o1 := b1o x.frame ⟨hx.2.1.1.mono (by decide), hx.2.1.2.1.mono (by decide), hx.2.1.2.2.mono (by decide)⟩
  have o3 := a3M _ (b2P (by decide) (hx.2.2.mono (m := 17179869184) (by decide)))
  have o4 := K8 x.within (hx.2.2.mono (by decide))
  have o2 := fun (E : Ctx) (hP : E.P = Tryz.prog) => hnm E hP m x.name (by have := hx.1; omega) (by omega)
  have hal := a5u m x.name
  rw [b6A] at hst hnx
  rw [b8t] at hst hnx
  generalize okF x.frame = q1 at *
  generalize [x.within].all j4 = q2 at *
  generalize r9 (Nm.j3 x.within) = s3 at *
  generalize J7 m x.name = r at *
  obtain ⟨a2, m'⟩ := r
  obtain ⟨xn, ⟨gx, gy, gh, gt⟩, wi⟩ := x
  simp only [Fr.c, Fr.enc, rts, rcs, rc, sb, ints, c1R, c2d] at o1 o2 o3 o4 hal hst hnx
  (repeat first | refine uA ?_ | (refine uK ?_ ?_; focus first | omega | (intros; simp_all <;> omega)) | simp (disch := omega) only [go_sem, Nat.reduceBEq, Nat.reduceAdd, ww, hgi, c1z, c1y, Sl.enc, sb, c1B, hcal, c1R, c2d] | refine l9.t (l8.b3K _ (o2 _ rfl) rfl rfl rfl) ?_)
  refine S.cond rfl (fun hc2 => ?_) (fun hc2 => ?_)
  ·have h0 : a2 ≠ 0 := by simpa using hc2
   rw [if_pos h0] at hst
   rw [hst h0] at hg
   injection hg with g1 g2
   rw [if_pos (by rw [g1]; exact h0), g1]
   (repeat first | refine uA ?_ | (refine uK ?_ ?_; focus first | omega | (intros; simp_all <;> omega)) | simp (disch := omega) only [go_sem, Nat.reduceBEq, Nat.reduceAdd, ww])
   exact S.done (d9.out rfl (Imp.refl rfl) rfl)
  have h0 : ¬ a2 ≠ 0 := by simpa using hc2
  rw [if_neg h0] at hst hnx
  cases q1
  ·(repeat first | refine uG o1 ?_ | refine uG o4 ?_ | refine uG o3 ?_ | refine uA ?_ | (refine uK ?_ ?_; focus first | omega | (intros; simp_all <;> omega)) | simp (disch := omega) only [go_sem, Nat.reduceBEq, Nat.reduceAdd, ww] | (refine uD o1 ?_ ?_ ?_; exact tz hw; exact rfl) | (refine uD o4 ?_ ?_ ?_; exact tz hw; exact rfl) | (refine uE o3 ?_ ?_ ?_ ?_; exact tz hw; exact rfl; focus (repeat' first | exact j5.nil | exact Imp.refl rfl | exact Imp.frz rfl rfl rfl | (refine Imp.M5 rfl rfl ?_ ?_; (focus ((try simp only [c1C]); omega)); (focus first | rfl | assumption)) | refine j5.cons ?_ ?_); done))
   refine S.cond rfl (fun hc3 => ?_) (fun hc3 => by simp at hc3)
   rw [if_neg (by simp)] at hst
   rw [hst (show (1 : Int) ≠ 0 by decide)] at hg
   injection hg with g1 g2
   rw [if_pos (by rw [g1]; decide), g1]
   (repeat first | refine uA ?_ | (refine uK ?_ ?_; focus first | omega | (intros; simp_all <;> omega)) | simp (disch := omega) only [go_sem, Nat.reduceBEq, Nat.reduceAdd, ww])
   exact S.done (d9.out rfl (Imp.refl rfl) rfl)
  (repeat first | refine uG o1 ?_ | refine uG o4 ?_ | refine uG o3 ?_ | refine uA ?_ | (refine uK ?_ ?_; focus first | omega | (intros; simp_all <;> omega)) | simp (disch := omega) only [go_sem, Nat.reduceBEq, Nat.reduceAdd, ww] | (refine uD o1 ?_ ?_ ?_; exact tz hw; exact rfl) | (refine uD o4 ?_ ?_ ?_; exact tz hw; exact rfl) | (refine uE o3 ?_ ?_ ?_ ?_; exact tz hw; exact rfl; focus (repeat' first | exact j5.nil | exact Imp.refl rfl | exact Imp.frz rfl rfl rfl | (refine Imp.M5 rfl rfl ?_ ?_; (focus ((try simp only [c1C]); omega)); (focus first | rfl | assumption)) | refine j5.cons ?_ ?_); done))
  refine S.cond rfl (fun hc3 => ?_) (fun hc3 => ?_)
  ·rw [if_neg (by simp; simp at hc3; rcases hc3 with h | h <;> simp [h])] at hst
   rw [hst (show (1 : Int) ≠ 0 by decide)] at hg
   injection hg with g1 g2
   rw [if_pos (by rw [g1]; decide), g1]
   (repeat first | refine uA ?_ | (refine uK ?_ ?_; focus first | omega | (intros; simp_all <;> omega)) | simp (disch := omega) only [go_sem, Nat.reduceBEq, Nat.reduceAdd, ww])
   exact S.done (d9.out rfl (Imp.refl rfl) rfl)
  ·rw [if_pos (by simpa using hc3)] at hnx
   (repeat first | refine uA ?_ | (refine uK ?_ ?_; focus first | omega | (intros; simp_all <;> omega)) | simp (disch := omega) only [go_sem, Nat.reduceBEq, Nat.reduceAdd, ww])
   refine S.next (x := (k, m)) (k + 1, m') ⟨by simp only; omega, by simp only; omega, by simp only; rw [hg]; exact hnx rfl⟩ (by simp only; omega) (by (repeat first | refine uA ?_ | (refine ⟨?_, ?_⟩; focus first | rfl | simp [slot]) | rfl | simp))
 rw [X8 (by omega)] at hg
 injection hg with g1 g2
 subst g1 g2
 rw [if_neg (show ¬ (0 : Int) ≠ 0 by simp)]
 have hm4 : m4.length <= 18 := by omega
 clear hr4 b4 hml hk hm3
 (repeat first | refine uA ?_ | (refine uK ?_ ?_; focus first | omega | (intros; simp_all <;> omega)) | simp (disch := omega) only [go_sem, Nat.reduceBEq, Nat.reduceAdd, ww, c1y])
 refine S.loop (X := Nat × Nms) (fun x => ⟨[(1, .bp 0 0), (4, .clo 98 [.bp 1 0]), (148, gts gates), (149, ints gates.length), (150, ints x.1)], [.box 31 [ams arms, wls walls, pts parts, sls slots, gts gates, .v (.bool walk.neg), sb walk.num, sb walk.den], .box 153 [.rv 2], .row 9 1 (nmR x.2)]⟩)
  (fun x => x.1 <= gates.length /\ x.2.length <= 18 + x.1 /\ (e5, m5) = C9 Z9 x.2 (gates.drop x.1)) (fun x => gates.length - x.1) (0, m4) ⟨c1H _, hm4, hr5.symm⟩ (by (repeat first | refine uA ?_ | (refine ⟨?_, ?_⟩; focus first | rfl | simp [slot]) | rfl | simp)) ?_
 rintro ⟨k, m⟩ ⟨hk, hml, hg⟩
 simp only [ams, wls, pts, sls, gts, sb, ints] at hk hml hg ⊢
 (repeat first | refine uA ?_ | (refine uK ?_ ?_; focus first | omega | (intros; simp_all <;> omega)) | simp (disch := omega) only [go_sem, Nat.reduceBEq, Nat.reduceAdd, ww])
 (refine uJ rfl (fun hc => ?_) fun hc => ?_)
 ·have hgi := c1x (show k < gates.length by omega)
  generalize gates[k]'(_) = x at hgi
  obtain ⟨hx0, ⟨hx1, hx2⟩, hx3, hx4⟩ := b5 x (c1A hgi)
  have hst := U1 (f := Z9) (s := m) hgi
  have hnx := S9 (f := Z9) (s := m) hgi
  have o3 := a3M _ (b6a (by decide) (hx1.mono (m := 17179869184) (by decide)) (hx2.mono (m := 17179869184) (by decide)) (hx3.mono (m := 17179869184) (by decide)) (hx4.mono (m := 17179869184) (by decide)))
  have o4 := N8 x.low.x x.high.x (hx1.mono (by decide)) (hx3.mono (by decide))
  have o5 := N8 x.low.y x.high.y (hx2.mono (by decide)) (hx4.mono (by decide))
  have o2 := fun (E : Ctx) (hP : E.P = Tryz.prog) => hnm E hP m x.name (by omega) (by omega)
  have hal := a5u m x.name
  rw [b7v] at hst hnx
  rw [b8N] at hst hnx
  generalize [x.low.x, x.low.y, x.high.x, x.high.y].all j4 = q2 at *
  generalize Nm.q8 (Nm.j3 x.low.x) (Nm.j3 x.high.x) = s3 at *
  generalize Nm.q8 (Nm.j3 x.low.y) (Nm.j3 x.high.y) = s4 at *
  generalize J7 m x.name = r at *
  obtain ⟨a2, m'⟩ := r
  obtain ⟨xn, ⟨lx, ly⟩, ⟨ux, uy⟩⟩ := x
  simp only [rts, rcs, rc, sb, ints, c1R, c2d] at o2 o3 o4 o5 hal hst hnx
  (repeat first | refine uA ?_ | (refine uK ?_ ?_; focus first | omega | (intros; simp_all <;> omega)) | simp (disch := omega) only [go_sem, Nat.reduceBEq, Nat.reduceAdd, ww, hgi, c1z, c1y, Gt.enc, sb, c1B, hcal, c1R, c2d] | refine l9.t (l8.b3K _ (o2 _ rfl) rfl rfl rfl) ?_)
  refine S.cond rfl (fun hc2 => ?_) (fun hc2 => ?_)
  ·have h0 : a2 ≠ 0 := by simpa using hc2
   rw [if_pos h0] at hst
   rw [hst h0] at hg
   injection hg with g1 g2
   rw [if_pos (by rw [g1]; exact h0), g1]
   (repeat first | refine uA ?_ | (refine uK ?_ ?_; focus first | omega | (intros; simp_all <;> omega)) | simp (disch := omega) only [go_sem, Nat.reduceBEq, Nat.reduceAdd, ww])
   exact S.done (d9.out rfl (Imp.refl rfl) rfl)
  have h0 : ¬ a2 ≠ 0 := by simpa using hc2
  rw [if_neg h0] at hst hnx
  (repeat first | refine uI ?_ | (refine uK ?_ ?_; focus first | omega | (intros; simp_all <;> omega)) | simp (disch := omega) only [go_sem, Nat.reduceBEq, Nat.reduceAdd, ww])
  refine S.U6 [.gone, .gone, .gone, .box 116 [.v (.string (bs xn)), .v (.bool lx.neg), .v (.string (bs lx.num)), .v (.string (bs lx.den)), .v (.bool ly.neg), .v (.string (bs ly.num)), .v (.string (bs ly.den)), .v (.bool ux.neg), .v (.string (bs ux.num)), .v (.string (bs ux.den)), .v (.bool uy.neg), .v (.string (bs uy.num)), .v (.string (bs uy.den))]] (by simp [Eng.F3, Eng.Y5]) ?_
  (repeat first | refine uG o4 ?_ | refine uG o5 ?_ | refine uG o3 ?_ | refine uA ?_ | (refine uK ?_ ?_; focus first | omega | (intros; simp_all <;> omega)) | simp (disch := omega) only [go_sem, Nat.reduceBEq, Nat.reduceAdd, ww, F3] | (refine uD o4 ?_ ?_ ?_; exact tz hw; exact rfl) | (refine uD o5 ?_ ?_ ?_; exact tz hw; exact rfl) | (refine uE o3 ?_ ?_ ?_ ?_; exact tz hw; exact rfl; focus (repeat' first | exact j5.nil | exact Imp.refl rfl | exact Imp.frz rfl rfl rfl | (refine Imp.M5 rfl rfl ?_ ?_; (focus ((try simp only [c1C, F3]); omega)); (focus first | rfl | assumption)) | refine j5.cons ?_ ?_); done))
  refine S.cond rfl (fun hc3 => ?_) (fun hc3 => ?_)
  ·rw [if_neg (by rw [hc3]; decide)] at hst
   rw [hst (show (1 : Int) ≠ 0 by decide)] at hg
   injection hg with g1 g2
   rw [if_pos (by rw [g1]; decide), g1]
   (repeat first | refine uA ?_ | (refine uK ?_ ?_; focus first | omega | (intros; simp_all <;> omega)) | simp (disch := omega) only [go_sem, Nat.reduceBEq, Nat.reduceAdd, ww])
   exact S.done (d9.out rfl (Imp.refl rfl) rfl)
  ·rw [if_pos (by rw [hc3]; rfl)] at hnx
   (repeat first | refine uA ?_ | (refine uK ?_ ?_; focus first | omega | (intros; simp_all <;> omega)) | simp (disch := omega) only [go_sem, Nat.reduceBEq, Nat.reduceAdd, ww])
   refine S.next (x := (k, m)) (k + 1, m') ⟨by simp only; omega, by simp only; omega, by simp only; rw [hg]; exact hnx rfl⟩ (by simp only; omega) (by (repeat first | refine uA ?_ | (refine ⟨?_, ?_⟩; focus first | rfl | simp [slot]) | rfl | simp))
 rw [X8 (by omega)] at hg
 injection hg with g1 g2
 subst g1
 rw [if_neg (show ¬ (0 : Int) ≠ 0 by simp)]
 (repeat first | refine uG h7 ?_ | refine uG h6 ?_ | refine uA ?_ | (refine uK ?_ ?_; focus first | omega | (intros; simp_all <;> omega)) | simp (disch := omega) only [go_sem, Nat.reduceBEq, Nat.reduceAdd, ww] | (refine uD h7 ?_ ?_ ?_; exact tz hw; exact rfl) | (refine uE h6 ?_ ?_ ?_ ?_; exact tz hw; exact rfl; focus (repeat' first | exact j5.nil | exact Imp.refl rfl | exact Imp.frz rfl rfl rfl | (refine Imp.M5 rfl rfl ?_ ?_; (focus ((try simp only [c1C]); omega)); (focus first | rfl | assumption)) | refine j5.cons ?_ ?_); done))
 refine S.cond rfl (fun hc => ?_) (fun hc => ?_)
 ·rw [if_pos (by simpa using hc)]
  (repeat first | refine uA ?_ | (refine uK ?_ ?_; focus first | omega | (intros; simp_all <;> omega)) | simp (disch := omega) only [go_sem, Nat.reduceBEq, Nat.reduceAdd, ww])
  exact S.done (d9.out rfl (Imp.refl rfl) rfl)
 ·rw [if_neg (by simpa using hc)]
  (repeat first | refine uA ?_ | (refine uK ?_ ?_; focus first | omega | (intros; simp_all <;> omega)) | simp (disch := omega) only [go_sem, Nat.reduceBEq, Nat.reduceAdd, ww])
  exact S.done (d9.out rfl (Imp.refl rfl) rfl)
theorem b5q (v s : Rat) : 0 < Nm.q8 (C8 v) s <-> (0 < Nm.q8 v s \/ 0 < Nm.q8 (-v) s) := by
 rw [O6, O6, O6]
 have hn : v.num < 0 <-> v < 0 := by
  have := @Rat.num_nonneg v
  rw [<- Rat.not_le, <- this]; omega
 unfold C8
 by_cases h : v < 0
 ·rw [if_pos (hn.2 h)]
  constructor
  ·exact .inr
  ·rintro (h1 | h1)
   ·grind
   ·exact h1
 ·rw [if_neg (fun h2 => h (hn.1 h2))]
  constructor
  ·exact .inl
  ·rintro (h1 | h1)
   ·exact h1
   ·grind
theorem b4o (h : List Int) (n k : Int) : (a1V h n).contains k = (h.contains k || decide (n = k)) := by
 rw [Bool.eq_iff_iff]
 unfold a1V
 split
 ·rename_i h1
  simp only [List.contains_iff_mem, c1X, c1D] at h1 ⊢
  exact ⟨.inl, fun h2 => h2.elim id fun h3 => h3 ▸ h1⟩
 ·simp only [List.contains_iff_mem, List.mem_append, List.mem_singleton, c1X, c1D]
  exact ⟨fun h2 => h2.imp id Eq.symm, fun h2 => h2.imp id Eq.symm⟩
theorem b2A {α : Type} {f : α -> Bool} {l : List α} {i : Nat} {x : α} (h : l[i]? = some x) : (l.take (i + 1)).any f = ((l.take i).any f || f x) := by
 rw [List.take_succ, h]; simp
theorem b6D (f : Fr) : a0a f = !(!([f.x, f.y, f.t].all F5) || (f.half && !decide (r9 (Nm.j3 f.t) = 0))) := by
 rw [a4j]
 unfold a0a a1R
 cases F5 f.x <;> cases F5 f.y <;> cases F5 f.t <;> cases f.half <;> cases decide (r9 (Nm.j3 f.t) = 0) <;> rfl
theorem b1G (w : Wk) (s : Stt) (hb : Wb 1073741824 w) (hs : Stb 1073741824 s) : FZ 39 [w.c, s.c] (ints (I4 w s)) := by
 refine kW Tryz.func39 (by cbv) (by rfl) fun w' O hw => ?_
 have hwk := b6u w hb
 obtain ⟨⟨n1, b1⟩, ⟨n2, b2⟩, ⟨n3, b3⟩, n4⟩ := hs
 obtain ⟨m1, a1⟩ := hb.arms
 have m2 := hb.parts.1
 have m3 := hb.gates.1
 unfold I4
 generalize Y0 w = e0 at *
 generalize hr : C9 (X7 w.parts.length) [] (w.arms.zip s.arms) = r
 obtain ⟨e1, hfin⟩ := r
 generalize hg1 : s.parts.all a0a = pA
 generalize hg2 : s.people.all a2f = pB
 obtain ⟨arms, walls, parts, slots, gates, walk⟩ := w
 obtain ⟨tick, sarms, sparts, people, sgates⟩ := s
 simp only at *
 simp only [j6]
 simp only [Wk.c, Wk.enc, Stt.c, Stt.enc, ams, wls, pts, sls, gts, D8, frs, vts, bls, sb, ints] at hwk ⊢
 (repeat first | refine uA ?_ | (refine uK ?_ ?_; focus first | omega | (intros; simp_all <;> omega)) | simp (disch := omega) only [go_sem, Nat.reduceBEq, Nat.reduceAdd, ww] | (refine uD hwk ?_ ?_ ?_; exact tz hw; exact rfl))
 refine S.cond rfl (fun hc => ?_) (fun hc => ?_)
 ·rw [if_pos (by simpa using hc)]
  (repeat first | refine uA ?_ | (refine uK ?_ ?_; focus first | omega | (intros; simp_all <;> omega)) | simp (disch := omega) only [go_sem, Nat.reduceBEq, Nat.reduceAdd, ww])
  exact S.done (d9.out rfl (Imp.refl rfl) rfl)
 rw [if_neg (by simpa using hc)]
 (repeat first | refine uA ?_ | (refine uK ?_ ?_; focus first | omega | (intros; simp_all <;> omega)) | simp (disch := omega) only [go_sem, Nat.reduceBEq, Nat.reduceAdd, ww, c1y])
 refine S.cond rfl (fun hc => ?_) (fun hc => ?_)
 ·rw [if_pos (by simp only [c1D] at hc; omega)]
  (repeat first | refine uA ?_ | (refine uK ?_ ?_; focus first | omega | (intros; simp_all <;> omega)) | simp (disch := omega) only [go_sem, Nat.reduceBEq, Nat.reduceAdd, ww])
  exact S.done (d9.out rfl (Imp.refl rfl) rfl)
 rw [if_neg (by simp only [c1E] at hc; omega)]
 (repeat first | refine uA ?_ | (refine uK ?_ ?_; focus first | omega | (intros; simp_all <;> omega)) | simp (disch := omega) only [go_sem, Nat.reduceBEq, Nat.reduceAdd, ww, c1y])
 refine S.cond rfl (fun hc => ?_) (fun hc => ?_)
 ·rw [if_pos (by simp only [c1X, Bool.not_eq_true', c1D, c1E] at hc; omega)]
  (repeat first | refine uA ?_ | (refine uK ?_ ?_; focus first | omega | (intros; simp_all <;> omega)) | simp (disch := omega) only [go_sem, Nat.reduceBEq, Nat.reduceAdd, ww])
  exact S.done (d9.out rfl (Imp.refl rfl) rfl)
 have hls : sarms.length = arms.length := by simp only [c1L, Bool.not_eq_false', c1D, c1E] at hc; omega
 rw [if_neg (by simp only [c1L, Bool.not_eq_false', c1D, c1E] at hc; omega)]
 clear hc
 (repeat first | refine uA ?_ | (refine uK ?_ ?_; focus first | omega | (intros; simp_all <;> omega)) | simp (disch := omega) only [go_sem, Nat.reduceBEq, Nat.reduceAdd, ww, c1y])
 refine S.loop (X := Nat × List Int) (fun x => ⟨[(2, .bp 0 0), (3, .bp 1 0), (63, D8 sarms), (64, ints sarms.length), (65, ints x.1)], [.box 31 [ams arms, wls walls, pts parts, sls slots, gts gates, .v (.bool walk.neg), sb walk.num, sb walk.den], .box 37 [ints tick, D8 sarms, frs sparts, vts people, bls sgates]]⟩)
  (fun x => x.1 <= sarms.length /\ (∀ k, x.2.contains k = (sarms.take x.1).any fun y => decide (y.holds = k)) /\ (e1, hfin) = C9 (X7 parts.length) x.2 ((arms.zip sarms).drop x.1)) (fun x => sarms.length - x.1) (0, []) ⟨c1H _, fun k => rfl, hr.symm⟩ (by (repeat first | refine uA ?_ | (refine ⟨?_, ?_⟩; focus first | rfl | simp [slot]) | rfl | simp)) ?_
 rintro ⟨i, h⟩ ⟨hi, hk, hg⟩
 simp only [ams, wls, pts, sls, gts, D8, frs, vts, bls, sb, ints] at hi hk hg ⊢
 (repeat first | refine uA ?_ | (refine uK ?_ ?_; focus first | omega | (intros; simp_all <;> omega)) | simp (disch := omega) only [go_sem, Nat.reduceBEq, Nat.reduceAdd, ww])
 (refine uJ rfl (fun hc => ?_) fun hc => ?_)
 ·have hgx := c1x (show i < sarms.length by omega)
  have hga := c1x (show i < arms.length by omega)
  generalize sarms[i]'_ = x at hgx
  generalize arms[i]'_ = a at hga
  have hz := K5 hga hgx
  have hst := U1 (f := X7 parts.length) (s := h) hz
  have hnx := S9 (f := X7 parts.length) (s := h) hz
  have hv : X7 parts.length h (a, x) = if a1f a x parts.length ≠ 0 then (a1f a x parts.length, h) else if (decide (0 <= x.holds) && h.contains x.holds) = true then (10, h) else (0, a1V h x.holds) := rfl
  rw [hv] at hst hnx
  clear hv
  have hxb := b1 x (c1A hgx)
  have hab := a1 a (c1A hga)
  have o1 := a6x x.q ⟨by have := hxb.1.1; omega, fun r hr => (hxb.1.2 r hr).mono (by decide)⟩
  have o2 := a6x x.v ⟨by have := hxb.2.1; omega, fun r hr => (hxb.2.2 r hr).mono (by decide)⟩
  have o3 := b5O a x.q hab hxb.1
  have hone : a1f a x parts.length = if (x.q.all F5 && x.v.all F5) = false then 3 else if a1n a x.q ≠ 0 then a1n a x.q else if x.v.length ≠ a.links.length \/ x.holds < -1 \/ (parts.length : Int) <= x.holds then 1 else E5 V7 (a.links.zip x.v) := rfl
  have hkh := hk x.holds
  have hkn : ∀ k, (a1V h x.holds).contains k = (sarms.take (i + 1)).any fun y => decide (y.holds = k) := fun k => by rw [b4o, hk, b2A hgx]
  generalize h.contains x.holds = c1 at *
  generalize a1V h x.holds = h' at *
  generalize a1f a x parts.length = o at *
  generalize hq1 : x.q.all F5 = q1 at *
  generalize hq2 : x.v.all F5 = q2 at *
  generalize a1n a x.q = fe at *
  obtain ⟨hvn, hvb⟩ := hxb.2
  obtain ⟨_, _, hln, hlb⟩ := hab
  obtain ⟨an, ⟨bx, by', bh, bt⟩, links⟩ := a
  obtain ⟨xq, xv, xp, xh⟩ := x
  have hai : (i : Int) < arms.length := by omega
  simp only [Am.c, Am.enc, lks, rts, sb, ints] at o1 o2 o3 hone hkh hkn hvn hvb hln hlb hst hnx
  clear hq1 hq2 hk
  (repeat first | refine uA ?_ | (refine uK ?_ ?_; focus first | omega | (intros; simp_all <;> omega)) | simp (disch := omega) only [go_sem, Nat.reduceBEq, Nat.reduceAdd, ww, hga, hgx, c1z, c1y, Am.enc, Ast.enc, lks, rts, sb, ints, c1B] | (refine uD o1 ?_ ?_ ?_; exact tz hw; exact rfl) | (refine uD o2 ?_ ?_ ?_; exact tz hw; exact rfl))
  refine S.cond rfl (fun hc2 => ?_) (fun hc2 => ?_)
  ·rw [if_pos (by cases q1 <;> cases q2 <;> simp_all)] at hone
   subst hone
   rw [if_pos (by decide)] at hst
   rw [hst (show (3 : Int) ≠ 0 by decide)] at hg
   injection hg with g1 g2
   rw [if_pos (by rw [g1]; decide), g1]
   (repeat first | refine uA ?_ | (refine uK ?_ ?_; focus first | omega | (intros; simp_all <;> omega)) | simp (disch := omega) only [go_sem, Nat.reduceBEq, Nat.reduceAdd, ww])
   exact S.done (d9.out rfl (Imp.refl rfl) rfl)
  rw [if_neg (by cases q1 <;> cases q2 <;> simp_all)] at hone
  (repeat first | refine uA ?_ | (refine uK ?_ ?_; focus first | omega | (intros; simp_all <;> omega)) | simp (disch := omega) only [go_sem, Nat.reduceBEq, Nat.reduceAdd, ww, hga, c1z, c1y, Am.enc, lks, sb, c1B] | (refine uD o3 ?_ ?_ ?_; exact tz hw; exact rfl))
  refine S.cond rfl (fun hc3 => ?_) (fun hc3 => ?_)
  ·have h0 : fe ≠ 0 := by simpa using hc3
   rw [if_pos h0] at hone
   subst hone
   rw [if_pos h0] at hst
   rw [hst h0] at hg
   injection hg with g1 g2
   rw [if_pos (by rw [g1]; exact h0), g1]
   (repeat first | refine uA ?_ | (refine uK ?_ ?_; focus first | omega | (intros; simp_all <;> omega)) | simp (disch := omega) only [go_sem, Nat.reduceBEq, Nat.reduceAdd, ww])
   exact S.done (d9.out rfl (Imp.refl rfl) rfl)
  rw [if_neg (by simpa using hc3)] at hone
  (repeat first | refine uA ?_ | (refine uK ?_ ?_; focus first | omega | (intros; simp_all <;> omega)) | simp (disch := omega) only [go_sem, Nat.reduceBEq, Nat.reduceAdd, ww, c1y])
  refine S.cond rfl (fun hc4 => ?_) (fun hc4 => ?_)
  ·rw [if_pos (by simp only [c1X, Bool.not_eq_true', c1D, c1E] at hc4; omega)] at hone
   subst hone
   rw [if_pos (by decide)] at hst
   rw [hst (show (1 : Int) ≠ 0 by decide)] at hg
   injection hg with g1 g2
   rw [if_pos (by rw [g1]; decide), g1]
   (repeat first | refine uA ?_ | (refine uK ?_ ?_; focus first | omega | (intros; simp_all <;> omega)) | simp (disch := omega) only [go_sem, Nat.reduceBEq, Nat.reduceAdd, ww])
   exact S.done (d9.out rfl (Imp.refl rfl) rfl)
  rw [if_neg (by simp only [c1L, Bool.not_eq_false', c1D, c1E] at hc4; omega)] at hone
  have hvl : xv.length = links.length := by simp only [c1L, Bool.not_eq_false', c1D, c1E] at hc4; omega
  clear hc3 hc4 hc2 o1 o2 o3
  (repeat first | refine uA ?_ | (refine uK ?_ ?_; focus first | omega | (intros; simp_all <;> omega)) | simp (disch := omega) only [go_sem, Nat.reduceBEq, Nat.reduceAdd, ww, c1y])
  refine S.loop (X := Nat) (fun j => ⟨[(2, .bp 0 0), (3, .bp 1 0), (63, D8 sarms), (64, ints sarms.length), (65, ints i), (6, ints i), (7, .bp 2 0), (8, lks links), (117, rts xv), (118, ints xv.length), (119, ints j)], [.box 31 [ams arms, wls walls, pts parts, sls slots, gts gates, .v (.bool walk.neg), sb walk.num, sb walk.den], .box 37 [ints tick, D8 sarms, frs sparts, vts people, bls sgates], .box 90 [rts xq, rts xv, .v (.bool xp), ints xh]]⟩)
   (fun j => j <= xv.length /\ o = E5 V7 ((links.zip xv).drop j)) (fun j => xv.length - j) 0 ⟨c1H _, hone⟩ (by (repeat first | refine uA ?_ | (refine ⟨?_, ?_⟩; focus first | rfl | simp [slot]) | rfl | simp)) ?_
  rintro j ⟨hj, hsp⟩
  simp only [ams, wls, pts, sls, gts, D8, frs, vts, bls, lks, rts, sb, ints] at hj hsp ⊢
  (repeat first | refine uA ?_ | (refine uK ?_ ?_; focus first | omega | (intros; simp_all <;> omega)) | simp (disch := omega) only [go_sem, Nat.reduceBEq, Nat.reduceAdd, ww])
  (refine uJ rfl (fun hc => ?_) fun hc => ?_)
  ·have hgv := c1x (show j < xv.length by omega)
   have hgl := c1x (show j < links.length by omega)
   generalize xv[j]'_ = v at hgv
   generalize links[j]'_ = l at hgl
   have hz2 := K5 hgl hgv
   have s1 := a0i (f := V7) hz2
   have s2 := a0m (f := V7) hz2
   have vb := hvb v (c1A hgv)
   have lb := (hlb l (c1A hgl)).2.2.2.1
   have p1 := N8 v l.speed (vb.mono (by decide)) (lb.mono (by decide))
   have p2 := b1w v (vb.mono (by decide))
   have p3 := N8 (Nm.ofQ (- Nm.j3 v)) l.speed ((b4s vb (by decide)).mono (by decide)) (lb.mono (by decide))
   rw [Nm.E9] at p3
   have hsv : V7 (l, v) = if (0 < Nm.q8 (Nm.j3 v) (Nm.j3 l.speed) \/ 0 < Nm.q8 (- Nm.j3 v) (Nm.j3 l.speed)) then 1 else 0 := by
    unfold V7
    simp only [b5q]
   rw [hsv] at s1 s2
   unfold rq at p2
   generalize Nm.q8 (Nm.j3 v) (Nm.j3 l.speed) = c2 at *
   generalize Nm.q8 (- Nm.j3 v) (Nm.j3 l.speed) = c3 at *
   generalize Nm.ofQ (- Nm.j3 v) = nv at *
   have hjl : (j : Int) < links.length := by omega
   simp only [rc, sb, ints] at p1 p2 p3
   (repeat first | refine uA ?_ | (refine uK ?_ ?_; focus first | omega | (intros; simp_all <;> omega)) | simp (disch := omega) only [go_sem, Nat.reduceBEq, Nat.reduceAdd, ww, hgv, hgl, c1z, c1y, rcs, Lk.enc, vts, sb, c1B] | (refine uD p1 ?_ ?_ ?_; exact tz hw; exact rfl) | (refine uD p2 ?_ ?_ ?_; exact tz hw; exact rfl) | (refine uD p3 ?_ ?_ ?_; exact tz hw; exact rfl))
   refine S.cond rfl (fun hc5 => ?_) (fun hc5 => ?_)
   ·rw [if_pos (by simp only [c1X, c1D] at hc5; omega)] at s1
    rw [s1 (by decide)] at hsp
    subst hsp
    rw [if_pos (by decide)] at hst
    rw [hst (show (1 : Int) ≠ 0 by decide)] at hg
    injection hg with g1 g2
    rw [if_pos (by rw [g1]; decide), g1]
    (repeat first | refine uA ?_ | (refine uK ?_ ?_; focus first | omega | (intros; simp_all <;> omega)) | simp (disch := omega) only [go_sem, Nat.reduceBEq, Nat.reduceAdd, ww])
    exact S.done (d9.out rfl (Imp.refl rfl) rfl)
   ·rw [if_neg (by simp only [c1L, c1E] at hc5; omega)] at s2
    (repeat first | refine uA ?_ | (refine uK ?_ ?_; focus first | omega | (intros; simp_all <;> omega)) | simp (disch := omega) only [go_sem, Nat.reduceBEq, Nat.reduceAdd, ww])
    refine S.next (j + 1) ⟨by omega, by rw [hsp]; exact s2 rfl⟩ (by omega) (by (repeat first | refine uA ?_ | (refine ⟨?_, ?_⟩; focus first | rfl | simp [slot]) | rfl | simp))
  rw [a0G (by rw [List.length_zip]; omega)] at hsp
  subst hsp
  rw [if_neg (by decide)] at hst hnx
  clear hj hone
  have htl : (sarms.take i).length = i := by rw [c1M]; omega
  (repeat first | refine uA ?_ | (refine uK ?_ ?_; focus first | omega | (intros; simp_all <;> omega)) | simp (disch := omega) only [go_sem, Nat.reduceBEq, Nat.reduceAdd, ww, c1y, htl, c1B])
  refine S.loop (X := Nat) (fun j => ⟨[(2, .bp 0 0), (3, .bp 1 0), (63, D8 sarms), (64, ints sarms.length), (65, ints i), (6, ints i), (7, .bp 2 0), (147, D8 (sarms.take i)), (148, ints i), (149, ints j)], [.box 31 [ams arms, wls walls, pts parts, sls slots, gts gates, .v (.bool walk.neg), sb walk.num, sb walk.den], .box 37 [ints tick, D8 sarms, frs sparts, vts people, bls sgates], .box 90 [rts xq, rts xv, .v (.bool xp), ints xh]]⟩)
   (fun j => j <= i /\ (0 <= xh -> ((sarms.take i).take j).any (fun y => decide (y.holds = xh)) = false)) (fun j => i - j) 0 ⟨c1H _, fun _ => rfl⟩ (by (repeat first | refine uA ?_ | (refine ⟨?_, ?_⟩; focus first | rfl | simp [slot]) | rfl | simp)) ?_
  rintro j ⟨hj, hno⟩
  simp only [ams, wls, pts, sls, gts, D8, frs, vts, bls, rts, sb, ints] at hj hno ⊢
  (repeat first | refine uA ?_ | (refine uK ?_ ?_; focus first | omega | (intros; simp_all <;> omega)) | simp (disch := omega) only [go_sem, Nat.reduceBEq, Nat.reduceAdd, ww])
  (refine uJ rfl (fun hc => ?_) fun hc => ?_)
  ·have hgy := c1x (show j < (sarms.take i).length by omega)
   generalize (sarms.take i)[j]'_ = y at hgy
   have hae := b2A (f := fun y : Ast => decide (y.holds = xh)) hgy
   have hah := c1A hgy
   generalize sarms.take i = L at *
   obtain ⟨yq, yv, yp, yh⟩ := y
   simp only at hae
   (repeat first | refine uA ?_ | (refine uK ?_ ?_; focus first | omega | (intros; simp_all <;> omega)) | simp (disch := omega) only [go_sem, Nat.reduceBEq, Nat.reduceAdd, ww, hgy, c1z, c1y, Ast.enc, rts, sb, ints, c1B, htl])
   refine S.cond rfl (fun hc5 => ?_) (fun hc5 => ?_)
   ·have hx0 : 0 <= xh /\ xh = yh := by simpa using hc5
    have hc1 : c1 = true := by
     rw [hkh, List.any_eq_true]
     exact ⟨_, hah, by simp [hx0.2]⟩
    rw [if_pos (by rw [hc1]; simp [hx0.1])] at hst
    rw [hst (show (10 : Int) ≠ 0 by decide)] at hg
    injection hg with g1 g2
    rw [if_pos (by rw [g1]; decide), g1]
    (repeat first | refine uA ?_ | (refine uK ?_ ?_; focus first | omega | (intros; simp_all <;> omega)) | simp (disch := omega) only [go_sem, Nat.reduceBEq, Nat.reduceAdd, ww])
    exact S.done (d9.out rfl (Imp.refl rfl) rfl)
   ·(repeat first | refine uA ?_ | (refine uK ?_ ?_; focus first | omega | (intros; simp_all <;> omega)) | simp (disch := omega) only [go_sem, Nat.reduceBEq, Nat.reduceAdd, ww])
    refine S.next (j + 1) ⟨by omega, fun h0 => ?_⟩ (by omega) (by (repeat first | refine uA ?_ | (refine ⟨?_, ?_⟩; focus first | rfl | simp [slot]) | rfl | simp))
    rw [hae, hno h0, Bool.false_or]
    have : ¬ (0 <= xh /\ xh = yh) := by simpa using hc5
    exact decide_eq_false (fun e => this ⟨h0, e.symm⟩)
  have hj' : j = i := by omega
  subst hj'
  rw [if_neg (by
   intro hc6
   rw [c1J, c1D] at hc6
   have := hno hc6.1
   rw [c1W (by omega)] at this
   rw [hkh, this] at hc6
   exact absurd hc6.2 (by decide))] at hnx
  (repeat first | refine uA ?_ | (refine uK ?_ ?_; focus first | omega | (intros; simp_all <;> omega)) | simp (disch := omega) only [go_sem, Nat.reduceBEq, Nat.reduceAdd, ww])
  refine S.next (x := (j, h)) (j + 1, h') ⟨by simp only; omega, hkn, by simp only; rw [hg]; exact hnx rfl⟩ (by simp only; omega) (by (repeat first | refine uA ?_ | (refine ⟨?_, ?_⟩; focus first | rfl | simp [slot]) | rfl | simp))
 rw [X8 (by rw [List.length_zip]; omega)] at hg
 injection hg with g1 g2
 subst g1
 rw [if_neg (show ¬ (0 : Int) ≠ 0 by simp)]
 clear hr b1 a1 hk hi
 (repeat first | refine uA ?_ | (refine uK ?_ ?_; focus first | omega | (intros; simp_all <;> omega)) | simp (disch := omega) only [go_sem, Nat.reduceBEq, Nat.reduceAdd, ww, c1y])
 refine S.loop (X := Nat) (fun i => ⟨[(2, .bp 0 0), (3, .bp 1 0), (166, frs sparts), (167, ints sparts.length), (168, ints i)], [.box 31 [ams arms, wls walls, pts parts, sls slots, gts gates, .v (.bool walk.neg), sb walk.num, sb walk.den], .box 37 [ints tick, D8 sarms, frs sparts, vts people, bls sgates]]⟩)
  (fun i => i <= sparts.length /\ pA = (sparts.drop i).all a0a) (fun i => sparts.length - i) 0 ⟨c1H _, hg1.symm⟩ (by (repeat first | refine uA ?_ | (refine ⟨?_, ?_⟩; focus first | rfl | simp [slot]) | rfl | simp)) ?_
 rintro i' ⟨hi, hg⟩
 simp only [ams, wls, pts, sls, gts, D8, frs, vts, bls, sb, ints] at hi ⊢
 (repeat first | refine uA ?_ | (refine uK ?_ ?_; focus first | omega | (intros; simp_all <;> omega)) | simp (disch := omega) only [go_sem, Nat.reduceBEq, Nat.reduceAdd, ww])
 (refine uJ rfl (fun hc => ?_) fun hc => ?_)
 ·have hgi := c1x (show i' < sparts.length by omega)
  generalize sparts[i']'(_) = f at hgi
  obtain ⟨f1, f2, f3⟩ := b2 f (c1A hgi)
  have hs := a3L (f := a0a) hgi
  rw [b6D] at hs
  have o1 := a6x _ (Rbs.three (by decide) (f1.mono (m := 17179869184) (by decide)) (f2.mono (m := 17179869184) (by decide)) (f3.mono (m := 17179869184) (by decide)))
  have o2 := K8 f.t (f3.mono (by decide))
  generalize [f.x, f.y, f.t].all F5 = q1 at *
  generalize r9 (Nm.j3 f.t) = s1 at *
  obtain ⟨fx, fy, fh, ft⟩ := f
  simp only [rts, rcs, rc, sb, ints, c1R, c2d] at o1 o2 hs
  (repeat first | refine uA ?_ | (refine uK ?_ ?_; focus first | omega | (intros; simp_all <;> omega)) | simp (disch := omega) only [go_sem, Nat.reduceBEq, Nat.reduceAdd, ww, hgi, c1z, c1y, Fr.enc, sb, c1B] | (refine uD o2 ?_ ?_ ?_; exact tz hw; exact rfl) | (refine uE o1 ?_ ?_ ?_ ?_; exact tz hw; exact rfl; focus (repeat' first | exact j5.nil | exact Imp.refl rfl | exact Imp.frz rfl rfl rfl | (refine Imp.M5 rfl rfl ?_ ?_; (focus ((try simp only [c1C, hgi, c1z, c1y, Fr.enc, sb, c1B]); omega)); (focus first | rfl | assumption)) | refine j5.cons ?_ ?_); done))
  refine S.cond rfl (fun hc2 => ?_) (fun hc2 => ?_)
  ·rw [hc2] at hs
   rw [hg, hs, Bool.not_true, Bool.false_and, Bool.false_and, if_neg (by decide)]
   (repeat first | refine uA ?_ | (refine uK ?_ ?_; focus first | omega | (intros; simp_all <;> omega)) | simp (disch := omega) only [go_sem, Nat.reduceBEq, Nat.reduceAdd, ww])
   exact S.done (d9.out rfl (Imp.refl rfl) rfl)
  ·rw [hc2] at hs
   (repeat first | refine uA ?_ | (refine uK ?_ ?_; focus first | omega | (intros; simp_all <;> omega)) | simp (disch := omega) only [go_sem, Nat.reduceBEq, Nat.reduceAdd, ww])
   refine S.next (i' + 1) ⟨by omega, by rw [hg, hs]; rfl⟩ (by omega) (by (repeat first | refine uA ?_ | (refine ⟨?_, ?_⟩; focus first | rfl | simp [slot]) | rfl | simp))
 rw [a4T (by omega)] at hg
 subst hg
 rw [Bool.true_and]
 clear hg1 b2 hi
 (repeat first | refine uA ?_ | (refine uK ?_ ?_; focus first | omega | (intros; simp_all <;> omega)) | simp (disch := omega) only [go_sem, Nat.reduceBEq, Nat.reduceAdd, ww, c1y])
 refine S.loop (X := Nat) (fun i => ⟨[(198, vts people), (199, ints people.length), (200, ints i)], [.box 31 [ams arms, wls walls, pts parts, sls slots, gts gates, .v (.bool walk.neg), sb walk.num, sb walk.den], .box 37 [ints tick, D8 sarms, frs sparts, vts people, bls sgates]]⟩)
  (fun i => i <= people.length /\ pB = (people.drop i).all a2f) (fun i => people.length - i) 0 ⟨c1H _, hg2.symm⟩ (by (repeat first | refine uA ?_ | (refine ⟨?_, ?_⟩; focus first | rfl | simp [slot]) | rfl | simp)) ?_
 rintro i2 ⟨hi, hg⟩
 simp only [ams, wls, pts, sls, gts, D8, frs, vts, bls, sb, ints] at hi ⊢
 (repeat first | refine uA ?_ | (refine uK ?_ ?_; focus first | omega | (intros; simp_all <;> omega)) | simp (disch := omega) only [go_sem, Nat.reduceBEq, Nat.reduceAdd, ww])
 (refine uJ rfl (fun hc => ?_) fun hc => ?_)
 ·have hgi := c1x (show i2 < people.length by omega)
  generalize people[i2]'(_) = f at hgi
  obtain ⟨f1, f2⟩ := b3 f (c1A hgi)
  have hs := a3L (f := a2f) hgi
  rw [show a2f f = [f.x, f.y].all F5 by rw [a4N]; rfl] at hs
  have o1 := a6x _ (Rbs.two (by decide) (f1.mono (m := 17179869184) (by decide)) (f2.mono (m := 17179869184) (by decide)))
  generalize [f.x, f.y].all F5 = q1 at *
  obtain ⟨fx, fy⟩ := f
  simp only [rts, rcs, rc, sb, ints, c1R, c2d] at o1 hs
  (repeat first | refine uA ?_ | (refine uK ?_ ?_; focus first | omega | (intros; simp_all <;> omega)) | simp (disch := omega) only [go_sem, Nat.reduceBEq, Nat.reduceAdd, ww, hgi, c1z, c1y, Vt.enc, sb, c1B] | (refine uE o1 ?_ ?_ ?_ ?_; exact tz hw; exact rfl; focus (repeat' first | exact j5.nil | exact Imp.refl rfl | exact Imp.frz rfl rfl rfl | (refine Imp.M5 rfl rfl ?_ ?_; (focus ((try simp only [c1C, hgi, c1z, c1y, Vt.enc, sb, c1B]); omega)); (focus first | rfl | assumption)) | refine j5.cons ?_ ?_); done))
  refine S.cond rfl (fun hc2 => ?_) (fun hc2 => ?_)
  ·have h0 : q1 = false := by simpa using hc2
   rw [hg, hs, h0, Bool.false_and, if_neg (by decide)]
   (repeat first | refine uA ?_ | (refine uK ?_ ?_; focus first | omega | (intros; simp_all <;> omega)) | simp (disch := omega) only [go_sem, Nat.reduceBEq, Nat.reduceAdd, ww])
   exact S.done (d9.out rfl (Imp.refl rfl) rfl)
  ·have h0 : q1 = true := by simpa using hc2
   (repeat first | refine uA ?_ | (refine uK ?_ ?_; focus first | omega | (intros; simp_all <;> omega)) | simp (disch := omega) only [go_sem, Nat.reduceBEq, Nat.reduceAdd, ww])
   refine S.next (i2 + 1) ⟨by omega, by rw [hg, hs, h0, Bool.true_and]⟩ (by omega) (by (repeat first | refine uA ?_ | (refine ⟨?_, ?_⟩; focus first | rfl | simp [slot]) | rfl | simp))
 rw [a4T (by omega)] at hg
 subst hg
 rw [if_pos rfl]
 (repeat first | refine uA ?_ | (refine uK ?_ ?_; focus first | omega | (intros; simp_all <;> omega)) | simp (disch := omega) only [go_sem, Nat.reduceBEq, Nat.reduceAdd, ww])
 exact S.done (d9.out rfl (Imp.refl rfl) rfl)
set_option maxHeartbeats 32000000
theorem b0G (es : List (List C)) (hn : es.length <= 1073741824) : FNew Tryz.prog 68 [.sl 4 es] 90 4 es := by
 refine FNew.of (eff := eff) Tryz.func68 (by cbv) (by exact c1Q rfl) fun w O => ?_
 simp only [j6]
 (repeat first | refine uA ?_ | (refine uK ?_ ?_; focus first | omega | (intros; simp_all <;> omega)) | simp (disch := omega) only [go_sem, Nat.reduceBEq, Nat.reduceAdd, ww])
 refine S.split 4 (Sx := fun y => ∃ b, y = .bool b /\ (es ≠ [] -> b = false)) rfl fun y hy => ?_
 obtain ⟨b, rfl, hb⟩ := hy
 refine S.cond rfl (fun hc => ?_) (fun hc => ?_)
 ·have he : es = [] := Classical.byContradiction fun h => by rw [hb h] at hc; cases hc
  subst he
  (repeat first | refine uA ?_ | (refine uK ?_ ?_; focus first | omega | (intros; simp_all <;> omega)) | simp (disch := omega) only [go_sem, Nat.reduceBEq, Nat.reduceAdd, ww])
  refine S.weaken (Ent.pack 2 90 4 rfl) ?_
  exact S.done (d9.new rfl rfl rfl)
 ·(repeat first | refine uA ?_ | (refine uK ?_ ?_; focus first | omega | (intros; simp_all <;> omega)) | simp (disch := omega) only [go_sem, Nat.reduceBEq, Nat.reduceAdd, ww])
  exact S.done (d9.new rfl rfl rfl)
theorem b5Z {E : Ctx} (hP : E.P = Tryz.prog) (s : Stt) (hs : Stb 1073741824 s) :
  l8 E [] 162 [s.c] (.agg [ints s.tick, .rv 2, .rv 3, .rv 4, bls s.gates]) [.gone, .gone, .row 90 4 (s.arms.map Ast.enc), .row 55 10 (s.parts.map Fr.enc), .row 51 6 (s.people.map Vt.enc)] [] := by
 obtain ⟨P, eff', N, w0, own0, av0, nu0, pk0⟩ := E
 simp only at hP
 subst hP
 refine l8.of (eff := c0l) Tryz.func162 (by cbv) (by exact c1Q rfl) fun w own av ν hν => ?_
 have hν0 : ν.length <= 0 := by rw [hν]; exact c1I _
 obtain ⟨⟨n1, b1⟩, ⟨n2, b2⟩, ⟨n3, b3⟩, n4⟩ := hs
 obtain ⟨tick, arms, parts, people, gates⟩ := s
 simp only at n1 n2 n3 n4 ⊢
 have c0 := b0G (arms.map Ast.enc) (by rw [c1y]; exact n1)
 have c1 := a7Y (parts.map Fr.enc) (by rw [c1y]; exact n2)
 have c2 := b1b (people.map Vt.enc) (by rw [c1y]; exact n3)
 have c3 := (a9A (gates.map fun b => [.v (.bool b)]) (by rw [c1y]; exact n4)).spec
 simp only [j6]
 simp only [Stt.c, Stt.enc, D8, frs, vts, bls, ints]
 (repeat first | refine uI ?_ | (refine uK ?_ ?_; focus first | omega | (intros; simp_all <;> omega)) | simp (disch := omega) only [go_sem, Nat.reduceBEq, Nat.reduceAdd, ww])
 refine S.U6 [.box 37 [.v (.int .i64 tick), .sl 4 (arms.map Ast.enc), .sl 10 (parts.map Fr.enc), .sl 6 (people.map Vt.enc), .sl 1 (gates.map fun b => [.v (.bool b)])]] (by simp [Eng.F3, Eng.Y5]) ?_
 (repeat first | refine uA ?_ | (refine uK ?_ ?_; focus first | omega | (intros; simp_all <;> omega)) | simp (disch := omega) only [go_sem, Nat.reduceBEq, Nat.reduceAdd, ww, F3, KMd, c1y] | refine l9.t (FNew.t c0 rfl) ?_ | refine l9.t (FNew.t c1 rfl) ?_ | refine l9.t (FNew.t c2 rfl) ?_ | (refine uB c3 ?_ ?_; exact rfl))
 (refine S.done ?_; simp only [p8, l7, go_sem, Nat.reduceBEq, Nat.reduceAdd, Nat.reduceLeDiff, Int.reduceToNat, Int.reducePow]; (repeat (refine ⟨?_, ?_⟩; focus first | trivial | omega | simp)); exact d9.O1 (Imp.agg (by (repeat' (first | exact j5.nil | exact Imp.refl rfl | exact Imp.frz rfl rfl rfl | exact Imp.F9 | refine j5.cons ?_ ?_)))) (by (repeat first | refine uA ?_ | (refine ⟨?_, ?_⟩; focus first | rfl | simp [slot]) | rfl | simp)) (c1G hν0 (by simp)))
theorem b7f {α : Type} {f : α -> Bool} {l : List α} {i : Nat} {x : α} (h : l[i]? = some x) : (l.drop i).any f = (f x || (l.drop (i + 1)).any f) := by
 rw [drop_at h, List.any_cons]
theorem b0p (x : Ast) (hx : Asb 1073741824 x) : FZ 171 [x.c] (.v (.bool (R4 x))) := by
 refine kW Tryz.func171 (by cbv) (by rfl) fun w O hw => ?_
 obtain ⟨hvn, hvb⟩ := hx.2
 unfold R4
 obtain ⟨q, v, power, holds⟩ := x
 simp only at hvn hvb ⊢
 simp only [j6]
 simp only [Ast.c, Ast.enc, rts, sb, ints]
 (repeat first | refine uA ?_ | (refine uK ?_ ?_; focus first | omega | (intros; simp_all <;> omega)) | simp (disch := omega) only [go_sem, Nat.reduceBEq, Nat.reduceAdd, ww, c1y])
 refine S.loop (X := Nat) (fun i => ⟨[(6, rts v), (7, ints v.length), (8, ints i)], []⟩) (fun i => i <= v.length /\ (v.any fun v => !decide (r9 (Nm.j3 v) = 0)) = (v.drop i).any fun v => !decide (r9 (Nm.j3 v) = 0)) (fun i => v.length - i) 0 ⟨c1H _, rfl⟩ (by (repeat first | refine uA ?_ | (refine ⟨?_, ?_⟩; focus first | rfl | simp [slot]) | rfl | simp)) ?_
 rintro i ⟨hi, hg⟩
 simp only [rts, ints]
 (repeat first | refine uA ?_ | (refine uK ?_ ?_; focus first | omega | (intros; simp_all <;> omega)) | simp (disch := omega) only [go_sem, Nat.reduceBEq, Nat.reduceAdd, ww])
 (refine uJ rfl (fun hc => ?_) fun hc => ?_)
 ·have hgv := c1x (show i < v.length by omega)
  generalize v[i]'_ = y at hgv
  have hd := b7f (f := fun v => !decide (r9 (Nm.j3 v) = 0)) hgv
  have o1 := K8 y ((hvb y (c1A hgv)).mono (by decide))
  try simp only at hd
  generalize r9 (Nm.j3 y) = c at *
  simp only [rc, sb, ints] at o1
  (repeat first | refine uG o1 ?_ | refine uA ?_ | (refine uK ?_ ?_; focus first | omega | (intros; simp_all <;> omega)) | simp (disch := omega) only [go_sem, Nat.reduceBEq, Nat.reduceAdd, ww, hgv, c1z, c1y, rcs, sb, c1B] | (refine uD o1 ?_ ?_ ?_; exact tz hw; exact rfl))
  refine S.cond rfl (fun hc2 => ?_) (fun hc2 => ?_)
  ·rw [hg, hd, hc2, Bool.true_or]
   (repeat first | refine uA ?_ | (refine uK ?_ ?_; focus first | omega | (intros; simp_all <;> omega)) | simp (disch := omega) only [go_sem, Nat.reduceBEq, Nat.reduceAdd, ww])
   exact S.done (d9.out rfl (Imp.refl rfl) rfl)
  ·rw [hc2, Bool.false_or] at hd
   (repeat first | refine uA ?_ | (refine uK ?_ ?_; focus first | omega | (intros; simp_all <;> omega)) | simp (disch := omega) only [go_sem, Nat.reduceBEq, Nat.reduceAdd, ww])
   exact S.next (i + 1) ⟨by omega, by rw [hg, hd]⟩ (by omega) (by (repeat first | refine uA ?_ | (refine ⟨?_, ?_⟩; focus first | rfl | simp [slot]) | rfl | simp))
 ·rw [hg, List.drop_eq_nil_of_le (by omega), List.any_nil]
  (repeat first | refine uA ?_ | (refine uK ?_ ?_; focus first | omega | (intros; simp_all <;> omega)) | simp (disch := omega) only [go_sem, Nat.reduceBEq, Nat.reduceAdd, ww])
  exact S.done (d9.out rfl (Imp.refl rfl) rfl)
theorem b8T (w : Wk) (s : Stt) (n p : Int) (hwb : Wb 1048576 w) (hs : Stb 1048576 s) : FZ 65 [w.c, s.c, ints n, ints p] (a7T w s n p) := by
  refine kW Tryz.func65 (kcF rfl (by cbv) (by repeat first | apply kcS | apply kcC | apply kcB | apply kcL | cbv)) (by rfl) fun w' O hw => ?_
  have hck := b1G w s (hwb.mono (by decide)) (hs.mono (by decide))
  have hcp := fun (E : Ctx) (hP : E.P = Tryz.prog) => b5Z hP s (hs.mono (by decide))
  have n1 := hs.arms.1
  have n2 := hs.parts.1
  have n5 := hwb.arms.1
  have n6 := hwb.parts.1
  unfold a7T
  by_cases h0 : J8 w s n = 0
  · obtain ⟨hst, k, a, x, rfl, ga, gx, hm⟩ := a3V h0
    have hok := a0I hst
    have ho := a6f (hok.one _ (c1A (K5 ga gx)))
    simp only at ho
    have bx := hs.arms.2 x (c1A gx)
    have hqb : ∀ r ∈ x.q, Rb 2097664 r := fun r hr => (bx.1.2 r hr).mono (by decide)
    have ba := (hwb.arms.2 a (c1A ga)).mono (m := 1073741824) (by decide)
    have htip := b3u a x.q ba ho.arm ho.q hqb
    have hpl := hok.parts
    have kl := (c1F.1 ga).1
    have kl2 := (c1F.1 gx).1
    have hmv := b0p x ((hs.mono (m := 1073741824) (by decide)).arms.2 x (c1A gx))
    rw [hm] at hmv
    have hE : a0t w s k p = if p < 0 \/ (w.parts.length : Int) <= p then 1 else match w.parts[p.toNat]?, s.parts[p.toNat]? with
      | some pt, some f => if 0 <= x.holds \/ (s.arms.any fun y => decide (y.holds = p)) = true then 7 else if a2Y (H7 a.base (a.links.zip x.q)) f pt.grasp then 17 else 0
      | _, _ => 0 := a8P h0 ga gx
    rw [hst] at hck
    rw [c1B, a1m ga, a1m gx]
    by_cases hp : p < 0 \/ (w.parts.length : Int) <= p
    · rw [if_pos hp] at hE
      rw [hE, if_neg (by decide)]
      obtain ⟨arms, walls, parts, slots, gates, walk⟩ := w
      obtain ⟨tick, sarms, sparts, people, sgates⟩ := s
      simp only at hp n6 ga gx kl kl2 n1 n5
      have hki : (k : Int) < sarms.length := by omega
      have hk0 : decide ((k : Int) < 0) = false := decide_eq_false (by omega)
      have hk1 : decide ((arms.length : Int) <= (k : Int)) = false := decide_eq_false (by omega)
      simp only [j6]
      simp only [Wk.c, Wk.enc, Stt.c, Stt.enc, Ast.c, Ast.enc, ams, wls, pts, sls, gts, D8, frs, vts, bls, rts, sb, ints, a0Y] at hck hmv ⊢
      (repeat first | refine uG hck ?_ | refine uA ?_ | (refine uK ?_ ?_; focus first | omega | (intros; simp_all <;> omega)) | simp (disch := omega) only [go_sem, Nat.reduceBEq, Nat.reduceAdd, ww] | (refine uD hck ?_ ?_ ?_; exact tz hw; exact rfl))
      refine S.cond rfl (fun hc => by simp at hc) (fun hc => ?_)
      (repeat first | refine uA ?_ | (refine uK ?_ ?_; focus first | omega | (intros; simp_all <;> omega)) | simp (disch := omega) only [go_sem, Nat.reduceBEq, Nat.reduceAdd, ww, c1y, hk0, hk1])
      refine S.cond rfl (fun hc => by simp at hc) (fun hc => ?_)
      (repeat first | refine uG hmv ?_ | refine uA ?_ | (refine uK ?_ ?_; focus first | omega | (intros; simp_all <;> omega)) | simp (disch := omega) only [go_sem, Nat.reduceBEq, Nat.reduceAdd, ww, gx, c1z, c1y, Ast.enc, rts, ints, c1B] | (refine uD hmv ?_ ?_ ?_; exact tz hw; exact rfl))
      refine S.cond rfl (fun hc => by simp at hc) (fun hc => ?_)
      (repeat first | refine uA ?_ | (refine uK ?_ ?_; focus first | omega | (intros; simp_all <;> omega)) | simp (disch := omega) only [go_sem, Nat.reduceBEq, Nat.reduceAdd, ww, c1y])
      refine S.cond rfl (fun hc => ?_) (fun hc => by simp only [c1L, c1E] at hc; omega)
      (repeat first | refine uA ?_ | (refine uK ?_ ?_; focus first | omega | (intros; simp_all <;> omega)) | simp (disch := omega) only [go_sem, Nat.reduceBEq, Nat.reduceAdd, ww])
      (refine S.done ?_; simp only [p8, l7, go_sem, Nat.reduceBEq, Nat.reduceAdd, Nat.reduceLeDiff, Int.reduceToNat, Int.reducePow]; (repeat (refine ⟨?_, ?_⟩; focus first | trivial | omega | simp)); exact d9.out rfl (Imp.tup (by (repeat' (first | exact j5.nil | exact Imp.refl rfl | exact Imp.frz rfl rfl rfl | exact Imp.F9 | refine Imp.agg ?_ | refine j5.cons ?_ ?_)))) rfl)
    · obtain ⟨q, rfl⟩ : ∃ q : Nat, p = q := ⟨p.toNat, by omega⟩
      rw [if_neg hp, c1B] at hE
      have gp := c1x (show q < w.parts.length by omega)
      have gf := c1x (show q < s.parts.length by omega)
      generalize w.parts[q]'_ = pt at gp
      generalize s.parts[q]'_ = f at gf
      rw [gp, gf] at hE
      simp only at hE
      have hcar := b8z w k (Q6 x q) a q pt hwb ga gp rfl ho.arm ho.q hqb
      obtain ⟨fb, lb⟩ := a5I ho.arm
      have htb := a7v (a.links.zip x.q) a.base 0 fb (by have := (T9 ho.arm).2; rw [List.length_zip]; omega) fun y hy => ⟨lb _ (List.of_mem_zip hy).1, hqb _ (List.of_mem_zip hy).2⟩
      have hbb := a5U (show 0 + (a.links.zip x.q).length <= 3 by have := (T9 ho.arm).2; rw [List.length_zip]; omega)
      have bf := hs.parts.2 f (c1A gf)
      have bg := (hwb.parts.2 pt (c1A gp)).2.2
      have o1 := b4a f ⟨pt.grasp.x, pt.grasp.y⟩ (bf.1.mono (by decide)) (bf.2.1.mono (by decide)) (bf.2.2.mono (by decide)) (bg.1.mono (by decide)) (bg.2.1.mono (by decide))
      obtain ⟨rp1, rp2⟩ := a8N (c := ⟨pt.grasp.x, pt.grasp.y⟩) bf.1 bf.2.1 bf.2.2 bg.1 bg.2.1 (by decide) (by decide) (by decide)
      have rt1 : Rb 4294967296 (H7 a.base (a.links.zip x.q)).x := htb.1.mono (by omega)
      have rt2 : Rb 4294967296 (H7 a.base (a.links.zip x.q)).y := htb.2.1.mono (by omega)
      rw [c1B, a1m gp]
      have o2 := a5S (Nm.ofQ (X3 f ⟨pt.grasp.x, pt.grasp.y⟩)) (Nm.ofQ (X0 f ⟨pt.grasp.x, pt.grasp.y⟩)) (H7 a.base (a.links.zip x.q)).x (H7 a.base (a.links.zip x.q)).y (rp1.mono (by decide)) (rp2.mono (by decide)) (rt1.mono (by decide)) (rt2.mono (by decide))
      rw [Nm.E9, Nm.E9] at o2
      have rd1 := (J9 rp1 (rt1.fit (by decide))).mono (m := 17179869184) (by decide)
      have rd2 := (J9 rp2 (rt2.fit (by decide))).mono (m := 17179869184) (by decide)
      have rd3 := (J9 rp1 (rt1.fit (by decide))).mono (m := 8589934592) (by decide)
      have rd4 := (J9 rp2 (rt2.fit (by decide))).mono (m := 8589934592) (by decide)
      have o3 := a3m _ rd1
      have o4 := a3m _ rd2
      simp only [Nm.E9] at o3 o4
      have ra1 := a1Q rd3
      have ra2 := a1Q rd4
      have o5 := c0m _ _ (ra1.mono (m := 17179869184) (by decide)) (ra2.mono (m := 17179869184) (by decide))
      simp only [Nm.E9] at o5
      have rm : Rb 8589934592 (Nm.ofQ (a0w (C8 (X3 f ⟨pt.grasp.x, pt.grasp.y⟩ - Nm.j3 (H7 a.base (a.links.zip x.q)).x)) (C8 (X0 f ⟨pt.grasp.x, pt.grasp.y⟩ - Nm.j3 (H7 a.base (a.links.zip x.q)).y)))) := by unfold a0w; split; exact ra1; exact ra2
      have b8 : Rb 8 (Nm.ofQ 8) := ⟨by decide +kernel, by decide +kernel⟩
      have o6 := a1y 8 (by decide) (by decide)
      rw [show ((8 : Int) : Rat) = 8 from rfl] at o6
      have o7 := a4D (Nm.ofQ 8) _ (b8.mono (by decide)) (rm.mono (by decide))
      have o8 := a1y 1 (by decide) (by decide)
      rw [show ((1 : Int) : Rat) = 1 from rfl] at o8
      simp only [Nm.E9] at o7
      have o9 := N8 _ (Nm.ofQ 1) ((I7 b8 rm).mono (m := 17179869184) (by decide)) (Y2.mono (by decide))
      simp only [Nm.E9] at o9
      have hfar : a2Y (H7 a.base (a.links.zip x.q)) f pt.grasp <-> 0 < Nm.q8 (8 * a0w (C8 (X3 f ⟨pt.grasp.x, pt.grasp.y⟩ - Nm.j3 (H7 a.base (a.links.zip x.q)).x)) (C8 (X0 f ⟨pt.grasp.x, pt.grasp.y⟩ - Nm.j3 (H7 a.base (a.links.zip x.q)).y))) 1 := by
        have := b8H (dX (H7 a.base (a.links.zip x.q)) f pt.grasp) (dY (H7 a.base (a.links.zip x.q)) f pt.grasp)
        rw [show X3 f ⟨pt.grasp.x, pt.grasp.y⟩ - Nm.j3 (H7 a.base (a.links.zip x.q)).x = -dX (H7 a.base (a.links.zip x.q)) f pt.grasp by unfold dX; grind, show X0 f ⟨pt.grasp.x, pt.grasp.y⟩ - Nm.j3 (H7 a.base (a.links.zip x.q)).y = -dY (H7 a.base (a.links.zip x.q)) f pt.grasp by unfold dY; grind, this]
        exact Iff.rfl
      have hsx : (s.arms.map Ast.enc).set k [rts x.q, rts x.v, .v (.bool x.power), .v (.int .i64 (q : Int))] = (s.arms.set k (Q6 x q)).map Ast.enc := by rw [List.map_set]; rfl
      have hgs : (s.arms.set k (Q6 x q))[k]? = some ⟨x.q, x.v, x.power, q⟩ := by rw [List.getElem?_set_self kl2]; rfl
      have hsf : (s.parts.map Fr.enc).set q (a0q a x.q pt.grasp).enc = (s.parts.set q (a0q a x.q pt.grasp)).map Fr.enc := by rw [List.map_set]
      have hgl : (s.arms.set k (Q6 x q)).length = s.arms.length := c2g
      have hhx : Q6 x q = ⟨x.q, x.v, x.power, q⟩ := rfl
      unfold a6E
      generalize a0t w s k q = E at *
      generalize H7 a.base (a.links.zip x.q) = T at *
      generalize Nm.q8 (8 * a0w (C8 (X3 f ⟨pt.grasp.x, pt.grasp.y⟩ - Nm.j3 T.x)) (C8 (X0 f ⟨pt.grasp.x, pt.grasp.y⟩ - Nm.j3 T.y))) 1 = c1 at *
      unfold vq rq at *
      generalize Nm.ofQ (8 * a0w (C8 (X3 f ⟨pt.grasp.x, pt.grasp.y⟩ - Nm.j3 T.x)) (C8 (X0 f ⟨pt.grasp.x, pt.grasp.y⟩ - Nm.j3 T.y))) = z1 at *
      generalize Nm.ofQ (a0w (C8 (X3 f ⟨pt.grasp.x, pt.grasp.y⟩ - Nm.j3 T.x)) (C8 (X0 f ⟨pt.grasp.x, pt.grasp.y⟩ - Nm.j3 T.y))) = z2 at *
      generalize Nm.ofQ (C8 (X3 f ⟨pt.grasp.x, pt.grasp.y⟩ - Nm.j3 T.x)) = z3 at *
      generalize Nm.ofQ (C8 (X0 f ⟨pt.grasp.x, pt.grasp.y⟩ - Nm.j3 T.y)) = z4 at *
      generalize Nm.ofQ (X3 f ⟨pt.grasp.x, pt.grasp.y⟩ - Nm.j3 T.x) = z5 at *
      generalize Nm.ofQ (X0 f ⟨pt.grasp.x, pt.grasp.y⟩ - Nm.j3 T.y) = z6 at *
      generalize Nm.ofQ (X3 f ⟨pt.grasp.x, pt.grasp.y⟩) = z7 at *
      generalize Nm.ofQ (X0 f ⟨pt.grasp.x, pt.grasp.y⟩) = z8 at *
      generalize Nm.ofQ 8 = z9 at *
      generalize Nm.ofQ 1 = z0 at *
      rw [hhx] at hcar
      simp only at hcar
      generalize a0q a x.q pt.grasp = R at *
      generalize s.arms.set k (Q6 x q) = SA at *
      generalize hSP : s.parts.set q R = SP at *
      obtain ⟨arms, walls, parts, slots, gates, walk⟩ := w
      obtain ⟨tick, sarms, sparts, people, sgates⟩ := s
      simp only at ga gx gp gf kl kl2 n1 n2 n5 n6 hpl hsx hsf hgl hE hp ⊢
      have hki : (k : Int) < arms.length := by omega
      have hkj : (k : Int) < sarms.length := by omega
      have hk0 : decide ((k : Int) < 0) = false := decide_eq_false (by omega)
      have hk1 : decide ((arms.length : Int) <= (k : Int)) = false := decide_eq_false (by omega)
      have hqi : (q : Int) < parts.length := by omega
      have hqj : (q : Int) < sparts.length := by omega
      simp only [j6]
      simp only [Wk.c, Wk.enc, Stt.c, Stt.enc, Am.c, Am.enc, Ast.c, Ast.enc, Fr.c, Fr.enc, Vt.c, Vt.enc, vc, rc, lks, ams, wls, pts, sls, gts, D8, frs, vts, bls, rts, sb, ints, a0Y] at hck hmv hcp htip hcar o1 o2 o3 o4 o5 o6 o7 o8 o9 hsx hsf ⊢
      (repeat first | refine uG hck ?_ | refine uA ?_ | (refine uK ?_ ?_; focus first | omega | (intros; simp_all <;> omega)) | simp (disch := omega) only [go_sem, Nat.reduceBEq, Nat.reduceAdd, ww] | (refine uD hck ?_ ?_ ?_; exact tz hw; exact rfl))
      refine S.cond rfl (fun hc => by simp at hc) (fun hc => ?_)
      (repeat first | refine uA ?_ | (refine uK ?_ ?_; focus first | omega | (intros; simp_all <;> omega)) | simp (disch := omega) only [go_sem, Nat.reduceBEq, Nat.reduceAdd, ww, c1y, hk0, hk1])
      refine S.cond rfl (fun hc => by simp at hc) (fun hc => ?_)
      (repeat first | refine uG hmv ?_ | refine uA ?_ | (refine uK ?_ ?_; focus first | omega | (intros; simp_all <;> omega)) | simp (disch := omega) only [go_sem, Nat.reduceBEq, Nat.reduceAdd, ww, gx, c1z, c1y, Ast.enc, rts, ints, c1B] | (refine uD hmv ?_ ?_ ?_; exact tz hw; exact rfl))
      refine S.cond rfl (fun hc => by simp at hc) (fun hc => ?_)
      (repeat first | refine uA ?_ | (refine uK ?_ ?_; focus first | omega | (intros; simp_all <;> omega)) | simp (disch := omega) only [go_sem, Nat.reduceBEq, Nat.reduceAdd, ww, c1y])
      refine S.cond rfl (fun hc => by simp only [c1X, c1D] at hc; omega) (fun hc => ?_)
      (repeat first | refine uA ?_ | (refine uK ?_ ?_; focus first | omega | (intros; simp_all <;> omega)) | simp (disch := omega) only [go_sem, Nat.reduceBEq, Nat.reduceAdd, ww, c1y])
      refine S.loop (X := Nat) (fun i => ⟨[(2, .v (.int .i64 (k : Int))), (3, .v (.int .i64 (q : Int))), (4, .bp 0 0), (5, .bp 1 0), (8, .bp 2 0), (56, D8 sarms), (57, ints sarms.length), (58, ints i)], [.box 31 [ams arms, wls walls, pts parts, sls slots, gts gates, .v (.bool walk.neg), sb walk.num, sb walk.den], .box 37 [ints tick, D8 sarms, frs sparts, vts people, bls sgates], .box 37 [.v (.int .i64 0), .v (.slice none 0 0), .v (.slice none 0 0), .v (.slice none 0 0), .v (.slice none 0 0)]]⟩) (fun i => i <= sarms.length /\ ∀ j, j < i -> ∀ y, sarms[j]? = some y -> ¬ (y.holds = q \/ j = k /\ 0 <= y.holds)) (fun i => sarms.length - i) 0 ⟨c1H _, fun _ h => absurd h (Nat.not_lt_zero _)⟩ (by (repeat first | refine uA ?_ | (refine ⟨?_, ?_⟩; focus first | rfl | simp [slot]) | rfl | simp)) ?_
      rintro i ⟨hi, hno⟩
      simp only [ams, wls, pts, sls, gts, D8, frs, vts, bls, rts, sb, ints] at hi ⊢
      (repeat first | refine uA ?_ | (refine uK ?_ ?_; focus first | omega | (intros; simp_all <;> omega)) | simp (disch := omega) only [go_sem, Nat.reduceBEq, Nat.reduceAdd, ww])
      (refine uJ rfl (fun hc => ?_) fun hc => ?_)
      · have hgy := c1x (show i < sarms.length by omega)
        generalize sarms[i]'_ = y at hgy
        (repeat first | refine uA ?_ | (refine uK ?_ ?_; focus first | omega | (intros; simp_all <;> omega)) | simp (disch := omega) only [go_sem, Nat.reduceBEq, Nat.reduceAdd, ww, hgy, c1z, c1y, Ast.enc, rts, sb, ints, c1B])
        refine S.cond rfl (fun hc2 => ?_) (fun hc2 => ?_)
        · have hh : 0 <= x.holds \/ (sarms.any fun y => decide (y.holds = (q : Int))) = true := by
            simp only [c1X, c1J, c1D] at hc2
            rcases hc2 with h | ⟨h, h2⟩
            · right; rw [List.any_eq_true]; exact ⟨y, c1A hgy, decide_eq_true h⟩
            · have : i = k := by omega
              subst this
              rw [gx] at hgy
              injection hgy with e
              subst e
              exact .inl h2
          rw [if_pos hh] at hE
          subst hE
          rw [if_neg (by decide)]
          (repeat first | refine uA ?_ | (refine uK ?_ ?_; focus first | omega | (intros; simp_all <;> omega)) | simp (disch := omega) only [go_sem, Nat.reduceBEq, Nat.reduceAdd, ww])
          (refine S.done ?_; simp only [p8, l7, go_sem, Nat.reduceBEq, Nat.reduceAdd, Nat.reduceLeDiff, Int.reduceToNat, Int.reducePow]; (repeat (refine ⟨?_, ?_⟩; focus first | trivial | omega | simp)); exact d9.out rfl (Imp.tup (by (repeat' (first | exact j5.nil | exact Imp.refl rfl | exact Imp.frz rfl rfl rfl | exact Imp.F9 | refine Imp.agg ?_ | refine j5.cons ?_ ?_)))) rfl)
        · (repeat first | refine uA ?_ | (refine uK ?_ ?_; focus first | omega | (intros; simp_all <;> omega)) | simp (disch := omega) only [go_sem, Nat.reduceBEq, Nat.reduceAdd, ww])
          refine S.next (i + 1) ⟨by omega, fun j hj z hz h => ?_⟩ (by omega) (by (repeat first | refine uA ?_ | (refine ⟨?_, ?_⟩; focus first | rfl | simp [slot]) | rfl | simp))
          rcases c1V j i with h1 | h1
          · exact hno j h1 z hz h
          · have : j = i := by omega
            subst this
            rw [hgy] at hz
            injection hz with e
            subst e
            simp only [c1L, Bool.and_eq_false_iff, c1E] at hc2
            rcases h with h | ⟨h, h2⟩
            · exact hc2.1 h
            · subst h
              rcases hc2.2 with h3 | h3
              · exact h3 rfl
              · exact h3 h2
      have hi' : i = sarms.length := by omega
      subst hi'
      have hh : ¬ (0 <= x.holds \/ (sarms.any fun y => decide (y.holds = (q : Int))) = true) := fun h => by
        rcases h with h | h
        · exact hno k kl2 x gx (.inr ⟨rfl, h⟩)
        · rw [List.any_eq_true] at h
          obtain ⟨y, hy, h⟩ := h
          obtain ⟨j, hj⟩ := List.getElem?_of_mem hy
          exact hno j (c1F.1 hj).1 y hj (.inl (of_decide_eq_true h))
      rw [if_neg hh] at hE
      (repeat first | refine uG htip ?_ | refine uA ?_ | (refine uK ?_ ?_; focus first | omega | (intros; simp_all <;> omega)) | simp (disch := omega) only [go_sem, Nat.reduceBEq, Nat.reduceAdd, ww, ga, gx, c1z, c1y, Am.enc, Ast.enc, lks, rts, sb, ints, c1B] | (refine uD htip ?_ ?_ ?_; exact tz hw; exact rfl))
      refine S.cond rfl (fun hc => by simp at hc) (fun hc => ?_)
      (repeat first | refine uG o1 ?_ | refine uG o2 ?_ | refine uG o3 ?_ | refine uG o4 ?_ | refine uG o5 ?_ | refine uG o6 ?_ | refine uG o7 ?_ | refine uG o8 ?_ | refine uG o9 ?_ | refine uA ?_ | (refine uK ?_ ?_; focus first | omega | (intros; simp_all <;> omega)) | simp (disch := omega) only [go_sem, Nat.reduceBEq, Nat.reduceAdd, ww, gp, gf, c1z, c1y, Pt.enc, Fr.enc, vts, sb, c1B] | (refine uD o1 ?_ ?_ ?_; exact tz hw; exact rfl) | (refine uD o2 ?_ ?_ ?_; exact tz hw; exact rfl) | (refine uD o3 ?_ ?_ ?_; exact tz hw; exact rfl) | (refine uD o4 ?_ ?_ ?_; exact tz hw; exact rfl) | (refine uD o5 ?_ ?_ ?_; exact tz hw; exact rfl) | (refine uD o6 ?_ ?_ ?_; exact tz hw; exact rfl) | (refine uD o7 ?_ ?_ ?_; exact tz hw; exact rfl) | (refine uD o8 ?_ ?_ ?_; exact tz hw; exact rfl) | (refine uD o9 ?_ ?_ ?_; exact tz hw; exact rfl))
      by_cases hf : a2Y T f pt.grasp
      · rw [if_pos hf] at hE
        subst hE
        rw [if_neg (by decide)]
        rw [hfar] at hf
        refine S.cond rfl (fun hc => ?_) (fun hc => by simp only [c1E] at hc; omega)
        (repeat first | refine uA ?_ | (refine uK ?_ ?_; focus first | omega | (intros; simp_all <;> omega)) | simp (disch := omega) only [go_sem, Nat.reduceBEq, Nat.reduceAdd, ww])
        (refine S.done ?_; simp only [p8, l7, go_sem, Nat.reduceBEq, Nat.reduceAdd, Nat.reduceLeDiff, Int.reduceToNat, Int.reducePow]; (repeat (refine ⟨?_, ?_⟩; focus first | trivial | omega | simp)); exact d9.out rfl (Imp.tup (by (repeat' (first | exact j5.nil | exact Imp.refl rfl | exact Imp.frz rfl rfl rfl | exact Imp.F9 | refine Imp.agg ?_ | refine j5.cons ?_ ?_)))) rfl)
      rw [if_neg hf] at hE
      rw [hfar] at hf
      subst hE
      rw [if_pos rfl]
      refine S.cond rfl (fun hc => by simp only [c1D] at hc; omega) (fun hc => ?_)
      (repeat first | refine uG hcar ?_ | refine uA ?_ | (refine uK ?_ ?_; focus first | omega | (intros; simp_all <;> omega)) | simp (disch := omega) only [go_sem, Nat.reduceBEq, Nat.reduceAdd, ww, C.sh, C.shL, c1T, List.length_nil, gx, gf, hsx, hgs, hsf, hgl, c1z, c1y, Ast.enc, Fr.enc, rts, sb, ints, c1B] | refine l9.t (l8.pre (hcp _ rfl) rfl rfl rfl) ?_ | (refine uD hcar ?_ ?_ ?_; exact tz hw; exact rfl))
      (refine S.done ?_; simp only [p8, l7, go_sem, Nat.reduceBEq, Nat.reduceAdd, Nat.reduceLeDiff, Int.reduceToNat, Int.reducePow]; (repeat (refine ⟨?_, ?_⟩; focus first | trivial | omega | simp)); exact d9.out rfl (Imp.tup (by (repeat' (first | exact j5.nil | exact Imp.refl rfl | exact Imp.frz rfl rfl rfl | exact Imp.F9 | refine Imp.agg ?_ | refine j5.cons ?_ ?_)))) rfl)
  · have hE : a0t w s n p = J8 w s n := by unfold a0t; rw [if_pos h0]
    have hr : J8 w s n = if I4 w s ≠ 0 then I4 w s else if n < 0 \/ (w.arms.length : Int) <= n then 1 else match s.arms[n.toNat]? with
      | some x => if R4 x = true then 7 else 0
      | none => 0 := rfl
    rw [hE, if_neg h0]
    have hmv := fun x hx => b0p x ((hs.mono (m := 1073741824) (by decide)).arms.2 x hx)
    have hal : I4 w s = 0 -> s.arms.length = w.arms.length := fun h => (a0I h).arms
    generalize J8 w s n = E at *
    generalize I4 w s = e at *
    obtain ⟨arms, walls, parts, slots, gates, walk⟩ := w
    obtain ⟨tick, sarms, sparts, people, sgates⟩ := s
    simp only at n1 n5 hmv hal hr
    simp only [j6]
    simp only [Wk.c, Wk.enc, Stt.c, Stt.enc, ams, wls, pts, sls, gts, D8, frs, vts, bls, rts, sb, ints, a0Y] at hck ⊢
    (repeat first | refine uG hck ?_ | refine uA ?_ | (refine uK ?_ ?_; focus first | omega | (intros; simp_all <;> omega)) | simp (disch := omega) only [go_sem, Nat.reduceBEq, Nat.reduceAdd, ww] | (refine uD hck ?_ ?_ ?_; exact tz hw; exact rfl))
    by_cases hs0 : e = 0
    · subst hs0
      have hal := hal rfl
      rw [if_neg (by decide)] at hr
      refine S.cond rfl (fun hc => by simp at hc) (fun hc => ?_)
      (repeat first | refine uA ?_ | (refine uK ?_ ?_; focus first | omega | (intros; simp_all <;> omega)) | simp (disch := omega) only [go_sem, Nat.reduceBEq, Nat.reduceAdd, ww, c1y])
      by_cases hg : n < 0 \/ (arms.length : Int) <= n
      · rw [if_pos hg] at hr
        subst hr
        refine S.cond rfl (fun hc => ?_) (fun hc => by simp only [c1L, c1E] at hc; omega)
        (repeat first | refine uA ?_ | (refine uK ?_ ?_; focus first | omega | (intros; simp_all <;> omega)) | simp (disch := omega) only [go_sem, Nat.reduceBEq, Nat.reduceAdd, ww])
        (refine S.done ?_; simp only [p8, l7, go_sem, Nat.reduceBEq, Nat.reduceAdd, Nat.reduceLeDiff, Int.reduceToNat, Int.reducePow]; (repeat (refine ⟨?_, ?_⟩; focus first | trivial | omega | simp)); exact d9.out rfl (Imp.tup (by (repeat' (first | exact j5.nil | exact Imp.refl rfl | exact Imp.frz rfl rfl rfl | exact Imp.F9 | refine Imp.agg ?_ | refine j5.cons ?_ ?_)))) rfl)
      rw [if_neg hg] at hr
      refine S.cond rfl (fun hc => by simp only [c1X, c1D] at hc; omega) (fun hc => ?_)
      clear hc
      obtain ⟨k, rfl⟩ : ∃ k : Nat, n = k := ⟨n.toNat, by omega⟩
      have gx := c1x (show k < sarms.length by omega)
      generalize sarms[k]'_ = x at gx
      rw [c1B, gx] at hr
      simp only at hr
      have hki : (k : Int) < sarms.length := by omega
      have t1 := hmv x (c1A gx)
      have hm : R4 x = true := by
        cases h : R4 x
        · rw [h, if_neg (by decide)] at hr; exact absurd hr h0
        · rfl
      rw [hm] at t1
      rw [if_pos hm] at hr
      subst hr
      simp only [Ast.c, Ast.enc, rts, sb, ints] at t1
      (repeat first | refine uG t1 ?_ | refine uA ?_ | (refine uK ?_ ?_; focus first | omega | (intros; simp_all <;> omega)) | simp (disch := omega) only [go_sem, Nat.reduceBEq, Nat.reduceAdd, ww, gx, c1z, c1y, Ast.enc, rts, sb, ints, c1B] | (refine uD t1 ?_ ?_ ?_; exact tz hw; exact rfl))
      refine S.cond rfl (fun hc => ?_) (fun hc => by simp at hc)
      (repeat first | refine uA ?_ | (refine uK ?_ ?_; focus first | omega | (intros; simp_all <;> omega)) | simp (disch := omega) only [go_sem, Nat.reduceBEq, Nat.reduceAdd, ww])
      (refine S.done ?_; simp only [p8, l7, go_sem, Nat.reduceBEq, Nat.reduceAdd, Nat.reduceLeDiff, Int.reduceToNat, Int.reducePow]; (repeat (refine ⟨?_, ?_⟩; focus first | trivial | omega | simp)); exact d9.out rfl (Imp.tup (by (repeat' (first | exact j5.nil | exact Imp.refl rfl | exact Imp.frz rfl rfl rfl | exact Imp.F9 | refine Imp.agg ?_ | refine j5.cons ?_ ?_)))) rfl)
    · rw [if_pos hs0] at hr
      subst hr
      refine S.cond rfl (fun hc => ?_) (fun hc => by simp at hc; exact absurd hc hs0)
      (repeat first | refine uA ?_ | (refine uK ?_ ?_; focus first | omega | (intros; simp_all <;> omega)) | simp (disch := omega) only [go_sem, Nat.reduceBEq, Nat.reduceAdd, ww])
      (refine S.done ?_; simp only [p8, l7, go_sem, Nat.reduceBEq, Nat.reduceAdd, Nat.reduceLeDiff, Int.reduceToNat, Int.reducePow]; (repeat (refine ⟨?_, ?_⟩; focus first | trivial | omega | simp)); exact d9.out rfl (Imp.tup (by (repeat' (first | exact j5.nil | exact Imp.refl rfl | exact Imp.frz rfl rfl rfl | exact Imp.F9 | refine Imp.agg ?_ | refine j5.cons ?_ ?_)))) rfl)
end Go.Proofs.YtogfpjohjphngaaGreatDoor
