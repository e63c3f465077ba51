/- A part of the proof: lemmas only, with the conditions that each names. -/
import Derived.Test.YtogfpjohjphngaaGreatDoorProg
import Derived.KernelRfl
import Derived.Shelf.Strings.SlTrimAscii
import Derived.Laws.Bits64b
import Derived.Test.YtogfpjohjphngaaGreatDoorRows
import Derived.Carry
import Derived.ChangeArms
import Derived.ChangeSame
import Derived.Deep.Slices
import Derived.WalkKit
import Derived.ProofKit
import Derived.OpenShut
import Derived.JoinedCond
import Derived.Test.YtogfpjohjphngaaGreatDoorCards
import Derived.Test.YtogfpjohjphngaaGreatDoorTie
import Derived.Deep.DeepHandedRow
import Derived.Deep.DeepWitnessRowRef
import Derived.Lib.LaidTab
import Derived.LaidMore
import Derived.Test.YtogfpjohjphngaaGreatDoorPk4
set_option linter.all false
namespace Go.Proofs.YtogfpjohjphngaaGreatDoor
open Go Go.RowKit Eng
set_option maxRecDepth 100000
set_option maxHeartbeats 8000000
theorem b0H (es : List (List C)) (hn : es.length <= 1073741824) : FNew Tryz.prog 63 [.sl 6 es] 51 6 es := by
 refine FNew.of (eff := eff) Tryz.func63 (by cbv) (by exact c1E rfl) fun w O => ?_
 simp only [j5]
 (repeat first | refine uA ?_ | (refine uK ?_ ?_; focus first | omega | (intros; simp_all <;> omega)) | simp (disch := omega) only [go_sem, Nat.reduceBEq, Nat.reduceAdd, ww])
 refine S.split 4 (Sx := fun y => ∃ b, y = .bool b /\ (es ≠ [] -> b = false)) rfl fun y hy => ?_
 obtain ⟨b, rfl, hb⟩ := hy
 refine S.cond rfl (fun hc => ?_) (fun hc => ?_)
 ·have he : es = [] := Classical.byContradiction fun h => by rw [hb h] at hc; cases hc
  subst he
  (repeat first | refine uA ?_ | (refine uK ?_ ?_; focus first | omega | (intros; simp_all <;> omega)) | simp (disch := omega) only [go_sem, Nat.reduceBEq, Nat.reduceAdd, ww])
  refine S.weaken (Ent.pack 2 51 6 rfl) ?_
  exact S.done (j3.new rfl rfl rfl)
 ·(repeat first | refine uA ?_ | (refine uK ?_ ?_; focus first | omega | (intros; simp_all <;> omega)) | simp (disch := omega) only [go_sem, Nat.reduceBEq, Nat.reduceAdd, ww])
  exact S.done (j3.new rfl rfl rfl)
theorem a9i (es : List (List C)) (hn : es.length <= 1073741824) : FNew Tryz.prog 60 [.sl 1 es] 4 1 es := by
 refine FNew.of (eff := eff) Tryz.func60 (by cbv) (by exact c1E rfl) fun w O => ?_
 simp only [j5]
 (repeat first | refine uA ?_ | (refine uK ?_ ?_; focus first | omega | (intros; simp_all <;> omega)) | simp (disch := omega) only [go_sem, Nat.reduceBEq, Nat.reduceAdd, ww])
 refine S.split 4 (Sx := fun y => ∃ b, y = .bool b /\ (es ≠ [] -> b = false)) rfl fun y hy => ?_
 obtain ⟨b, rfl, hb⟩ := hy
 refine S.cond rfl (fun hc => ?_) (fun hc => ?_)
 ·have he : es = [] := Classical.byContradiction fun h => by rw [hb h] at hc; cases hc
  subst he
  (repeat first | refine uA ?_ | (refine uK ?_ ?_; focus first | omega | (intros; simp_all <;> omega)) | simp (disch := omega) only [go_sem, Nat.reduceBEq, Nat.reduceAdd, ww])
  refine S.weaken (Ent.pack 2 4 1 rfl) ?_
  exact S.done (j3.new rfl rfl rfl)
 ·(repeat first | refine uA ?_ | (refine uK ?_ ?_; focus first | omega | (intros; simp_all <;> omega)) | simp (disch := omega) only [go_sem, Nat.reduceBEq, Nat.reduceAdd, ww])
  exact S.done (j3.new rfl rfl rfl)
theorem a2c (es : List (List C)) (hn : es.length <= 1073741824) : FNew Tryz.prog 150 [.sl 3 es] 29 3 es := by
 refine FNew.of (eff := eff) Tryz.func150 (by cbv) (by exact c1E rfl) fun w O => ?_
 simp only [j5]
 (repeat first | refine uA ?_ | (refine uK ?_ ?_; focus first | omega | (intros; simp_all <;> omega)) | simp (disch := omega) only [go_sem, Nat.reduceBEq, Nat.reduceAdd, ww])
 refine S.split 4 (Sx := fun y => ∃ b, y = .bool b /\ (es ≠ [] -> b = false)) rfl fun y hy => ?_
 obtain ⟨b, rfl, hb⟩ := hy
 refine S.cond rfl (fun hc => ?_) (fun hc => ?_)
 ·have he : es = [] := Classical.byContradiction fun h => by rw [hb h] at hc; cases hc
  subst he
  (repeat first | refine uA ?_ | (refine uK ?_ ?_; focus first | omega | (intros; simp_all <;> omega)) | simp (disch := omega) only [go_sem, Nat.reduceBEq, Nat.reduceAdd, ww])
  refine S.weaken (Ent.pack 2 29 3 rfl) ?_
  exact S.done (j3.new rfl rfl rfl)
 ·(repeat first | refine uA ?_ | (refine uK ?_ ?_; focus first | omega | (intros; simp_all <;> omega)) | simp (disch := omega) only [go_sem, Nat.reduceBEq, Nat.reduceAdd, ww])
  exact S.done (j3.new rfl rfl rfl)
theorem a7V (es : List (List C)) (hn : es.length <= 1073741824) : FNew Tryz.prog 149 [.sl 10 es] 55 10 es := by
 refine FNew.of (eff := eff) Tryz.func149 (by cbv) (by exact c1E rfl) fun w O => ?_
 simp only [j5]
 (repeat first | refine uA ?_ | (refine uK ?_ ?_; focus first | omega | (intros; simp_all <;> omega)) | simp (disch := omega) only [go_sem, Nat.reduceBEq, Nat.reduceAdd, ww])
 refine S.split 4 (Sx := fun y => ∃ b, y = .bool b /\ (es ≠ [] -> b = false)) rfl fun y hy => ?_
 obtain ⟨b, rfl, hb⟩ := hy
 refine S.cond rfl (fun hc => ?_) (fun hc => ?_)
 ·have he : es = [] := Classical.byContradiction fun h => by rw [hb h] at hc; cases hc
  subst he
  (repeat first | refine uA ?_ | (refine uK ?_ ?_; focus first | omega | (intros; simp_all <;> omega)) | simp (disch := omega) only [go_sem, Nat.reduceBEq, Nat.reduceAdd, ww])
  refine S.weaken (Ent.pack 2 55 10 rfl) ?_
  exact S.done (j3.new rfl rfl rfl)
 ·(repeat first | refine uA ?_ | (refine uK ?_ ?_; focus first | omega | (intros; simp_all <;> omega)) | simp (disch := omega) only [go_sem, Nat.reduceBEq, Nat.reduceAdd, ww])
  exact S.done (j3.new rfl rfl rfl)
theorem b2X (q : Rat) : Nm.ofQ (E9 q) = ⟨false, Nm.enc q.num.natAbs, Nm.enc q.den⟩ := by
 unfold E9
 by_cases h : q.num < 0
 ·rw [if_pos h, a7Z]
  simp [h]
 ·rw [if_neg h]
  unfold Nm.ofQ
  rw [decide_eq_false h]
theorem a3g (a : Nm.Rt) (ha : Rb 17179869184 a) : FZ 75 [rc a] (rq (E9 (Nm.d9 a))) := by
 unfold rq
 rw [b2X]
 exact b9w a ha
theorem a1Q {k : Nat} {p : Rat} (h : Rb k (Nm.ofQ p)) : Rb k (Nm.ofQ (E9 p)) := by rw [b2X]; exact h
theorem b6A (a : Nm.Rt) (ha : Rb 68719476736 a) : FZ 211 [rc a] (.v (.bool (!D8 a))) := by
 refine kW Tryz.func211 (by cbv) (by rfl) fun w O hw => ?_
 have h := a0p a ha
 unfold D8
 generalize decide a.D5 = q at *
 simp only [j5]
 simp only [rc, sb] at *
 (repeat first | refine uA ?_ | (refine uK ?_ ?_; focus first | omega | (intros; simp_all <;> omega)) | simp (disch := omega) only [go_sem, Nat.reduceBEq, Nat.reduceAdd, ww] | (refine uD h ?_ ?_ ?_; exact tz hw; exact rfl))
 exact S.done (j3.out rfl (Imp.refl rfl) rfl)
theorem a6z (l : List Nm.Rt) (hl : Rbs 68719476736 l) : FZ 139 [rts l] (.v (.bool (l.all D8))) := by
 refine kW Tryz.func139 (by cbv) (by rfl) fun w O hw => ?_
 have h := b7p 211 (by kernel_rfl) (fun a => !D8 a) l (by have := hl.1; omega) (fun a ha => b6A a (hl.2 a ha))
 have e : l.all D8 = !l.any fun a => !D8 a := by rw [List.not_any_eq_all_not]; simp
 rw [e]
 generalize (l.any fun a => !D8 a) = q at *
 simp only [j5]
 simp only [rts] at *
 (repeat first | refine uA ?_ | (refine uK ?_ ?_; focus first | omega | (intros; simp_all <;> omega)) | simp (disch := omega) only [go_sem, Nat.reduceBEq, Nat.reduceAdd, ww] | (refine uD h ?_ ?_ ?_; exact tz hw; exact rfl))
 exact S.done (j3.out rfl (Imp.refl rfl) rfl)
theorem b6F (f : Fr) (hf : Fb 17179869184 f) : FZ 136 [f.c] (.v (.bool (Y6 f))) := by
 refine kW Tryz.func136 (by cbv) (by rfl) fun w O hw => ?_
 obtain ⟨x, y, half, t⟩ := f
 obtain ⟨b1, b2, b3⟩ := hf
 simp only at b1 b2 b3
 have h1 := a6z _ (Rbs.three (by decide) (b1.mono (m := 68719476736) (by decide)) (b2.mono (m := 68719476736) (by decide)) (b3.mono (m := 68719476736) (by decide)))
 rw [a4a] at h1
 have h4 := M5 t b3
 unfold Y6 a1Z
 simp only
 generalize (D8 x && D8 y && D8 t) = q1 at *
 generalize y7 (Nm.d9 t) = n at *
 simp only [j5]
 simp only [Fr.c, Fr.enc, rts, rcs, rc, sb, ints, c1F, c1L] at *
 (repeat first | refine uA ?_ | (refine uK ?_ ?_; focus first | omega | (intros; simp_all <;> omega)) | simp (disch := omega) only [go_sem, Nat.reduceBEq, Nat.reduceAdd, ww] | (refine uD h4 ?_ ?_ ?_; exact tz hw; exact rfl) | (refine uE h1 ?_ ?_ ?_ ?_; exact tz hw; exact rfl; focus (repeat' first | exact l6.nil | exact Imp.refl rfl | exact Imp.frz rfl rfl rfl | (refine Imp.O8 rfl rfl ?_ ?_; (focus ((try simp only [c1p]); omega)); (focus first | rfl | assumption)) | refine l6.cons ?_ ?_); done))
 have e : (q1 && !(half && !decide (n = 0))) = (q1 && (!half || decide (n = 0))) := by cases q1 <;> cases half <;> simp
 rw [e]
 exact S.done (j3.out rfl (Imp.refl (by rfl)) rfl)
theorem b8b (f : Fr) (hf : Fb 17179869184 f) : FZ 135 [f.c] (.v (.bool (!Y6 f))) := by
 refine kW Tryz.func135 (by cbv) (by rfl) fun w O hw => ?_
 have h := b6F f hf
 generalize Y6 f = q at *
 simp only [j5]
 simp only [Fr.c, Fr.enc, sb] at *
 (repeat first | refine uA ?_ | (refine uK ?_ ?_; focus first | omega | (intros; simp_all <;> omega)) | simp (disch := omega) only [go_sem, Nat.reduceBEq, Nat.reduceAdd, ww] | (refine uD h ?_ ?_ ?_; exact tz hw; exact rfl))
 exact S.done (j3.out rfl (Imp.refl rfl) rfl)
theorem b8r (v : Vt) (hv : Vb 68719476736 v) : FZ 138 [v.c] (.v (.bool (!a1V v))) := by
 refine kW Tryz.func138 (by cbv) (by rfl) fun w O hw => ?_
 have h := a6z _ (Rbs.two (by decide) hv.1 hv.2)
 rw [a3r] at h
 unfold a1V
 generalize (D8 v.x && D8 v.y) = q at *
 simp only [j5]
 simp only [Vt.c, Vt.enc, rts, rcs, sb, c1F, c1L] at *
 (repeat first | refine uA ?_ | (refine uK ?_ ?_; focus first | omega | (intros; simp_all <;> omega)) | simp (disch := omega) only [go_sem, Nat.reduceBEq, Nat.reduceAdd, ww] | (refine uE h ?_ ?_ ?_ ?_; exact tz hw; exact rfl; focus (repeat' first | exact l6.nil | exact Imp.refl rfl | exact Imp.frz rfl rfl rfl | (refine Imp.O8 rfl rfl ?_ ?_; (focus ((try simp only [c1p]); omega)); (focus first | rfl | assumption)) | refine l6.cons ?_ ?_); done))
 exact S.done (j3.out rfl (Imp.refl rfl) rfl)
theorem b5w {a : Am} {q : List Nm.Rt} (h : a1f a q = 0) : q.length = a.links.length := by
 unfold a1f at h
 split at h
 ·rename_i h1; exact absurd h h1
 ·split at h
  ·cases h
  ·rename_i h2; exact Classical.not_not.1 h2
theorem c0N (a : Am) (x : Ast) (parts : Nat) (ha : Ab 1073741824 a) (hx : Asb 1073741824 x) (hp : parts <= 1073741824) : FZ 133 [a.c, x.c, .v (.int .i64 (parts : Int))] (ints (a0R a x parts)) := by
 refine kW Tryz.func133 (by cbv) (by rfl) fun w O hw => ?_
 have h1 := a6z x.q ⟨by have := hx.1.1; omega, fun r hr => (hx.1.2 r hr).mono (by decide)⟩
 have h2 := a6z x.v ⟨by have := hx.2.1; omega, fun r hr => (hx.2.2 r hr).mono (by decide)⟩
 have h3 := b5D a x.q ha hx.1
 have hln := b5w (a := a) (q := x.q)
 unfold a0R
 generalize a1f a x.q = e at *
 obtain ⟨q, v, power, holds⟩ := x
 simp only at h1 h2 h3 hln ⊢
 generalize q.all D8 = g1 at *
 generalize v.all D8 = g2 at *
 obtain ⟨hvn, hvb⟩ := hx.2
 obtain ⟨name, ⟨bx, by', half, t⟩, links⟩ := a
 obtain ⟨b0, ⟨b1, b2, b3⟩, hn, hb⟩ := ha
 simp only at b0 b1 b2 b3 hn hb hln hvn hvb ⊢
 simp only [j5]
 simp only [Am.c, Am.enc, Ast.c, Ast.enc, lks, rts, sb, ints] at *
 (repeat first | refine uA ?_ | (refine uK ?_ ?_; focus first | omega | (intros; simp_all <;> omega)) | simp (disch := omega) only [go_sem, Nat.reduceBEq, Nat.reduceAdd, ww] | (refine uD h1 ?_ ?_ ?_; exact tz hw; exact rfl) | (refine uD h2 ?_ ?_ ?_; exact tz hw; exact rfl))
 refine S.cond rfl (fun hc => ?_) (fun hc => ?_)
 ·rw [if_pos (by cases g1 <;> cases g2 <;> simp_all)]
  (repeat first | refine uA ?_ | (refine uK ?_ ?_; focus first | omega | (intros; simp_all <;> omega)) | simp (disch := omega) only [go_sem, Nat.reduceBEq, Nat.reduceAdd, ww])
  exact S.done (j3.out rfl (Imp.refl rfl) rfl)
 rw [if_neg (by cases g1 <;> cases g2 <;> simp_all)]
 (repeat first | refine uA ?_ | (refine uK ?_ ?_; focus first | omega | (intros; simp_all <;> omega)) | simp (disch := omega) only [go_sem, Nat.reduceBEq, Nat.reduceAdd, ww] | (refine uD h3 ?_ ?_ ?_; exact tz hw; exact rfl))
 refine S.cond rfl (fun hc => ?_) (fun hc => ?_)
 ·rw [if_pos (by simpa using hc)]
  (repeat first | refine uA ?_ | (refine uK ?_ ?_; focus first | omega | (intros; simp_all <;> omega)) | simp (disch := omega) only [go_sem, Nat.reduceBEq, Nat.reduceAdd, ww])
  exact S.done (j3.out rfl (Imp.refl rfl) rfl)
 rw [if_neg (by simpa using hc)]
 have hln := hln (by simpa using hc)
 (repeat first | refine uA ?_ | (refine uK ?_ ?_; focus first | omega | (intros; simp_all <;> omega)) | simp (disch := omega) only [go_sem, Nat.reduceBEq, Nat.reduceAdd, ww, c1m])
 refine S.cond rfl (fun hc => ?_) (fun hc => ?_)
 ·rw [if_pos (by simp only [c1U, Bool.not_eq_true', c1r, c1v] at hc; omega)]
  (repeat first | refine uA ?_ | (refine uK ?_ ?_; focus first | omega | (intros; simp_all <;> omega)) | simp (disch := omega) only [go_sem, Nat.reduceBEq, Nat.reduceAdd, ww])
  exact S.done (j3.out rfl (Imp.refl rfl) rfl)
 rw [if_neg (by simp only [c1D, Bool.not_eq_false', c1r, c1v] at hc; omega)]
 have hvl : v.length = links.length := by simp only [c1D, Bool.not_eq_false', c1r, c1v] at hc; omega
 (repeat first | refine uA ?_ | (refine uK ?_ ?_; focus first | omega | (intros; simp_all <;> omega)) | simp (disch := omega) only [go_sem, Nat.reduceBEq, Nat.reduceAdd, ww, c1m])
 refine S.loop (X := Nat) (fun i => ⟨[(4, .bp 1 0), (46, lks links), (47, ints links.length), (48, ints i)], [.gone, .box 90 [rts q, rts v, .v (.bool power), ints holds]]⟩) (fun i => i <= links.length /\ D9 U9 (links.zip v) = D9 U9 ((links.zip v).drop i)) (fun i => links.length - i) 0 ⟨c1s _, rfl⟩ (by (repeat first | refine uA ?_ | (refine ⟨?_, ?_⟩; focus first | rfl | simp [slot]) | rfl | simp)) ?_
 rintro i ⟨hi, hg⟩
 simp only [lks, ints, rts]
 (repeat first | refine uA ?_ | (refine uK ?_ ?_; focus first | omega | (intros; simp_all <;> omega)) | simp (disch := omega) only [go_sem, Nat.reduceBEq, Nat.reduceAdd, ww])
 (refine uJ rfl (fun hc => ?_) fun hc => ?_)
 ·have hi' : i < links.length := by omega
  have hgi := c1l hi'
  have hgv := c1l (show i < v.length by omega)
  generalize links[i] = l at hgi
  generalize v[i]'_ = r at hgv
  have hz := H7 hgi hgv
  have hst := a0c (f := U9) hz
  have hnx := a0g (f := U9) hz
  have bl := hb l (c1o hgi)
  have br := (hvb r (c1o hgv)).mono (m := 17179869184) (by decide)
  have o1 := a3g r br
  have o2 := K5 (Nm.ofQ (E9 (Nm.d9 r))) l.speed (a1Q (br.fit (by decide))) (bl.2.2.2.1.mono (by decide))
  rw [Nm.F7] at o2
  unfold U9 at hst hnx
  simp only at hst hnx
  generalize Nm.q9 (E9 (Nm.d9 r)) (Nm.d9 l.speed) = n1 at *
  unfold rq at o1
  generalize Nm.ofQ (E9 (Nm.d9 r)) = ar at *
  have hvi : (i : Int) < v.length := by omega
  simp only [rc, sb, ints] at o1 o2
  (repeat first | refine uA ?_ | (refine uK ?_ ?_; focus first | omega | (intros; simp_all <;> omega)) | simp (disch := omega) only [go_sem, Nat.reduceBEq, Nat.reduceAdd, ww, hgi, hgv, c1n, c1m, Lk.enc, rcs, vts, sb, c1q] | (refine uD o1 ?_ ?_ ?_; exact tz hw; exact rfl) | (refine uD o2 ?_ ?_ ?_; exact tz hw; exact rfl))
  refine S.cond rfl (fun hc2 => ?_) (fun hc2 => ?_)
  ·have hp : 0 < n1 := by simpa using hc2
   rw [if_pos hp] at hst
   rw [hg, show U9 = fun x : Lk × Nm.Rt => if 0 < Nm.q9 (E9 (Nm.d9 x.2)) (Nm.d9 x.1.speed) then 1 else 0 from rfl, hst (by decide)]
   (repeat first | refine uA ?_ | (refine uK ?_ ?_; focus first | omega | (intros; simp_all <;> omega)) | simp (disch := omega) only [go_sem, Nat.reduceBEq, Nat.reduceAdd, ww])
   exact S.done (j3.out rfl (Imp.refl rfl) rfl)
  ·have hp : ¬ 0 < n1 := by simpa using hc2
   rw [if_neg hp] at hnx
   (repeat first | refine uA ?_ | (refine uK ?_ ?_; focus first | omega | (intros; simp_all <;> omega)) | simp (disch := omega) only [go_sem, Nat.reduceBEq, Nat.reduceAdd, ww])
   refine S.next (i + 1) ⟨by omega, ?_⟩ (by omega) (by (repeat first | refine uA ?_ | (refine ⟨?_, ?_⟩; focus first | rfl | simp [slot]) | rfl | simp))
   rw [hg, show U9 = fun x : Lk × Nm.Rt => if 0 < Nm.q9 (E9 (Nm.d9 x.2)) (Nm.d9 x.1.speed) then 1 else 0 from rfl, hnx rfl]
 ·rw [hg, a0C (by rw [List.length_zip]; omega)]
  (repeat first | refine uA ?_ | (refine uK ?_ ?_; focus first | omega | (intros; simp_all <;> omega)) | simp (disch := omega) only [go_sem, Nat.reduceBEq, Nat.reduceAdd, ww])
  exact S.done (j3.out rfl (Imp.refl rfl) rfl)
set_option maxHeartbeats 16000000
theorem c0E (h : List Int) (n : Int) : (a0L (.int .i64 n) (hdE h)).getD (.bool false) = .bool (h.contains n) := by
 rw [b9b]; cases h.contains n <;> rfl
theorem b2H {α : Type} (p : α -> Bool) (l : List α) : l.all p = !l.any fun x => !p x := by rw [List.not_any_eq_all_not]; simp
theorem b7r (w : Wk) (s : Stt) (hb : Wb 1073741824 w) (hs : Stb 1073741824 s) : FZ 38 [w.c, s.c] (ints (R7 w s)) := by
 refine kW Tryz.func38 (by cbv) (by rfl) fun w' O hw => ?_
 have hwk := b6R w hb
 obtain ⟨⟨n1, b1⟩, ⟨n2, b2⟩, ⟨n3, b3⟩, n4⟩ := hs
 have hone := fun (a : Am) (x : Ast) (ha : a ∈ w.arms) (hx : x ∈ s.arms) => c0N a x w.parts.length (hb.arms.2 a ha) (b1 x hx) (by have := hb.parts.1; omega)
 have hfr := b3J 135 (by kernel_rfl) (fun f => !Y6 f) s.parts (by omega) (fun f hf => b8b f ⟨(b2 f hf).1.mono (by decide), (b2 f hf).2.1.mono (by decide), (b2 f hf).2.2.mono (by decide)⟩)
 have hvc := b0J 138 (by kernel_rfl) (fun v => !a1V v) s.people (by omega) (fun v hv => b8r v ((b3 v hv).mono (by decide)))
 have m1 := hb.arms.1
 have m2 := hb.parts.1
 have m3 := hb.gates.1
 unfold R7
 rw [b2H Y6, b2H a1V]
 generalize W9 w = e0 at *
 generalize (s.parts.any fun f => !Y6 f) = g1 at *
 generalize (s.people.any fun v => !a1V v) = g2 at *
 obtain ⟨arms, walls, parts, slots, gates, walk⟩ := w
 obtain ⟨tick, sarms, sparts, people, sgates⟩ := s
 simp only at *
 simp only [j5]
 simp only [Wk.c, Wk.enc, Stt.c, Stt.enc, ams, wls, pts, sls, gts, E8, frs, vts, bls, sb, ints] at hwk hfr hvc ⊢
 (repeat first | refine uA ?_ | (refine uK ?_ ?_; focus first | omega | (intros; simp_all <;> omega)) | simp (disch := omega) only [go_sem, Nat.reduceBEq, Nat.reduceAdd, ww] | (refine uD hwk ?_ ?_ ?_; exact tz hw; exact rfl))
 refine S.cond rfl (fun hc => ?_) (fun hc => ?_)
 ·rw [if_pos (by simpa using hc)]
  (repeat first | refine uA ?_ | (refine uK ?_ ?_; focus first | omega | (intros; simp_all <;> omega)) | simp (disch := omega) only [go_sem, Nat.reduceBEq, Nat.reduceAdd, ww])
  exact S.done (j3.out rfl (Imp.refl rfl) rfl)
 rw [if_neg (by simpa using hc)]
 (repeat first | refine uA ?_ | (refine uK ?_ ?_; focus first | omega | (intros; simp_all <;> omega)) | simp (disch := omega) only [go_sem, Nat.reduceBEq, Nat.reduceAdd, ww, c1m])
 refine S.cond rfl (fun hc => ?_) (fun hc => ?_)
 ·rw [if_pos (by simp only [c1r] at hc; omega)]
  (repeat first | refine uA ?_ | (refine uK ?_ ?_; focus first | omega | (intros; simp_all <;> omega)) | simp (disch := omega) only [go_sem, Nat.reduceBEq, Nat.reduceAdd, ww])
  exact S.done (j3.out rfl (Imp.refl rfl) rfl)
 rw [if_neg (by simp only [c1v] at hc; omega)]
 (repeat first | refine uA ?_ | (refine uK ?_ ?_; focus first | omega | (intros; simp_all <;> omega)) | simp (disch := omega) only [go_sem, Nat.reduceBEq, Nat.reduceAdd, ww, c1m])
 refine S.cond rfl (fun hc => ?_) (fun hc => ?_)
 ·rw [if_pos (by simp only [c1U, Bool.not_eq_true', c1r, c1v] at hc; omega)]
  (repeat first | refine uA ?_ | (refine uK ?_ ?_; focus first | omega | (intros; simp_all <;> omega)) | simp (disch := omega) only [go_sem, Nat.reduceBEq, Nat.reduceAdd, ww])
  exact S.done (j3.out rfl (Imp.refl rfl) rfl)
 have hls : sarms.length = arms.length := by simp only [c1D, Bool.not_eq_false', c1r, c1v] at hc; omega
 rw [if_neg (by simp only [c1D, Bool.not_eq_false', c1r, c1v] at hc; omega)]
 (repeat first | refine uA ?_ | (refine uK ?_ ?_; focus first | omega | (intros; simp_all <;> omega)) | simp (disch := omega) only [go_sem, Nat.reduceBEq, Nat.reduceAdd, ww, c1m])
 refine S.loop (X := Nat × List Int) (fun x => ⟨[(2, .bp 0 0), (3, .bp 1 0), (6, .mp 2), (56, E8 sarms), (57, ints sarms.length), (58, ints x.1)], [.box 31 [ams arms, wls walls, pts parts, sls slots, gts gates, .v (.bool walk.neg), sb walk.num, sb walk.den], .box 37 [ints tick, E8 sarms, frs sparts, vts people, bls sgates], .map false (hdE x.2)]⟩)
  (fun x => x.1 <= sarms.length /\ C8 (V7 parts.length) [] (arms.zip sarms) = C8 (V7 parts.length) x.2 ((arms.zip sarms).drop x.1)) (fun x => sarms.length - x.1) (0, []) ⟨c1s _, rfl⟩ (by (repeat first | refine uA ?_ | (refine ⟨?_, ?_⟩; focus first | rfl | simp [slot]) | rfl | simp)) ?_
 rintro ⟨i, h⟩ ⟨hi, hg⟩
 simp only [ams, wls, pts, sls, gts, E8, frs, vts, bls, sb, ints] at hi hg ⊢
 (repeat first | refine uA ?_ | (refine uK ?_ ?_; focus first | omega | (intros; simp_all <;> omega)) | simp (disch := omega) only [go_sem, Nat.reduceBEq, Nat.reduceAdd, ww])
 (refine uJ rfl (fun hc => ?_) fun hc => ?_)
 ·have hgx := c1l (show i < sarms.length by omega)
  have hga := c1l (show i < arms.length by omega)
  generalize sarms[i]'_ = x at hgx
  generalize arms[i]'_ = a at hga
  have hz := H7 hga hgx
  have hst := R4 (f := V7 parts.length) (s := h) hz
  have hnx := R5 (f := V7 parts.length) (s := h) hz
  have ho := hone a x (c1o hga) (c1o hgx)
  have hlk := c0E h x.holds
  have hpt := b9o h x.holds
  have hai : (i : Int) < arms.length := by omega
  have hv : V7 parts.length h (a, x) = if a0R a x parts.length ≠ 0 then (a0R a x parts.length, h) else if (decide (0 <= x.holds) && h.contains x.holds) = true then (10, h) else (0, a1H h x.holds) := rfl
  rw [hv] at hst hnx
  clear hv
  generalize a0R a x parts.length = e1 at *
  generalize h.contains x.holds = c1 at *
  simp only [Am.c, Am.enc, Ast.c, Ast.enc, lks, rts, sb, ints] at ho
  (repeat first | refine uA ?_ | (refine uK ?_ ?_; focus first | omega | (intros; simp_all <;> omega)) | simp (disch := omega) only [go_sem, Nat.reduceBEq, Nat.reduceAdd, ww, hga, hgx, c1n, c1m, Am.enc, Ast.enc, lks, rts, sb, ints, c1q] | (refine uD ho ?_ ?_ ?_; exact tz hw; exact rfl))
  refine S.cond rfl (fun hc2 => ?_) (fun hc2 => ?_)
  ·have h0 : e1 ≠ 0 := by simpa using hc2
   rw [if_pos h0] at hst
   rw [hg, hst h0, if_pos h0]
   (repeat first | refine uA ?_ | (refine uK ?_ ?_; focus first | omega | (intros; simp_all <;> omega)) | simp (disch := omega) only [go_sem, Nat.reduceBEq, Nat.reduceAdd, ww])
   exact S.done (j3.out rfl (Imp.refl rfl) rfl)
  have h0 : e1 = 0 := by simpa using hc2
  rw [if_neg (by simp [h0])] at hst hnx
  (repeat first | refine uA ?_ | (refine uK ?_ ?_; focus first | omega | (intros; simp_all <;> omega)) | simp (disch := omega) only [go_sem, Nat.reduceBEq, Nat.reduceAdd, ww, hlk])
  refine S.cond rfl (fun hc3 => ?_) (fun hc3 => ?_)
  ·rw [if_pos hc3] at hst
   rw [hg, hst (by simp), if_pos (by simp)]
   (repeat first | refine uA ?_ | (refine uK ?_ ?_; focus first | omega | (intros; simp_all <;> omega)) | simp (disch := omega) only [go_sem, Nat.reduceBEq, Nat.reduceAdd, ww])
   exact S.done (j3.out rfl (Imp.refl rfl) rfl)
  ·rw [if_neg (by rw [hc3]; decide)] at hnx
   (repeat first | refine uA ?_ | (refine uK ?_ ?_; focus first | omega | (intros; simp_all <;> omega)) | simp (disch := omega) only [go_sem, Nat.reduceBEq, Nat.reduceAdd, ww, hpt])
   refine S.next (x := (i, h)) (i + 1, a1H h x.holds) ⟨by simp only; omega, by simp only; rw [hg, hnx rfl]⟩ (by simp only; omega) (by (repeat first | refine uA ?_ | (refine ⟨?_, ?_⟩; focus first | rfl | simp [slot]) | rfl | simp))
 ·rw [hg, V9 (by rw [List.length_zip]; omega), if_neg (by simp)]
  (repeat first | refine uA ?_ | (refine uK ?_ ?_; focus first | omega | (intros; simp_all <;> omega)) | simp (disch := omega) only [go_sem, Nat.reduceBEq, Nat.reduceAdd, ww] | (refine uD hfr ?_ ?_ ?_; exact tz hw; exact rfl) | (refine uD hvc ?_ ?_ ?_; exact tz hw; exact rfl))
  refine S.cond rfl (fun hc => ?_) (fun hc => ?_)
  ·rw [if_neg (by cases g1 <;> cases g2 <;> simp_all)]
   (repeat first | refine uA ?_ | (refine uK ?_ ?_; focus first | omega | (intros; simp_all <;> omega)) | simp (disch := omega) only [go_sem, Nat.reduceBEq, Nat.reduceAdd, ww])
   exact S.done (j3.out rfl (Imp.refl rfl) rfl)
  ·rw [if_pos (by cases g1 <;> cases g2 <;> simp_all)]
   (repeat first | refine uA ?_ | (refine uK ?_ ?_; focus first | omega | (intros; simp_all <;> omega)) | simp (disch := omega) only [go_sem, Nat.reduceBEq, Nat.reduceAdd, ww])
   exact S.done (j3.out rfl (Imp.refl rfl) rfl)
theorem L9 : Rb 8 (Nm.ofQ 0) := ⟨Nm.G6 (by decide), Nm.G6 (by decide)⟩
theorem a7v : FZ 71 [.v (.int .i64 0)] (rq 0) := by
 have := a4g 0 (by decide) (by decide)
 rwa [show ((0 : Int) : Rat) = 0 from rfl] at this
theorem b2I : FZ 154 [] a3d.c := by
 refine kW Tryz.func154 (by cbv) (by rfl) fun w O hw => ?_
 have h1 := a7v
 have h2 := a4T (Nm.ofQ 0) (L9.mono (by decide))
 rw [Nm.F7] at h2
 unfold tq rq at *
 unfold a3d
 generalize Nm.ofQ 0 = r at *
 simp only [j5]
 simp only [Fr.c, Fr.enc, rc, tc, sb] at *
 (repeat first | refine uA ?_ | (refine uK ?_ ?_; focus first | omega | (intros; simp_all <;> omega)) | simp (disch := omega) only [go_sem, Nat.reduceBEq, Nat.reduceAdd, ww] | (refine uD h1 ?_ ?_ ?_; exact tz hw; exact rfl) | (refine uD h2 ?_ ?_ ?_; exact tz hw; exact rfl))
 (refine S.done ?_; simp only [p9, l7, go_sem, Nat.reduceBEq, Nat.reduceAdd, Nat.reduceLeDiff, Int.reduceToNat, Int.reducePow]; (repeat (refine ⟨?_, ?_⟩; focus first | trivial | omega | simp)); exact j3.out rfl (Imp.refl rfl) rfl)
open Go Eng
def c0C : List Nat := [150]
def c1h (f : Nat) : Bool := c0C.contains f
set_option maxHeartbeats 8000000
theorem b4J {b v : Rat} (h : 0 < y7 b) (hv : y7 v = 0) : Nm.q9 (E9 v) b <= 0 := by
 have h1 := a5Y b
 have h2 := a5Y v
 have h3 : v = 0 := by
  rcases h2 with h2 | h2 | h2
  ·omega
  ·exact h2.2
  ·omega
 have h4 : 0 < b := by
  rcases h1 with h1 | h1 | h1
  ·omega
  ·omega
  ·exact h1.2
 have h5 : ¬ 0 < Nm.q9 (E9 v) b := fun h => by
  have := (U1 _ _).1 h
  rw [h3, show E9 0 = 0 from rfl] at this
  grind
 omega
theorem b6i (b v : Nm.Rt) (hb : Rb 1073741824 b) (hv : Rb 1073741824 v) (h : 0 < y7 (Nm.d9 b)) : FZ 235 [rc b, rc v] (rc (Z5 b v)) := by
 refine kW Tryz.func235 (by cbv) (by rfl) fun w O hw => ?_
 have o1 := M5 b (hb.mono (by decide))
 have o2 := a3g v (hv.mono (by decide))
 have o3 := K5 (Nm.ofQ (E9 (Nm.d9 v))) b (a1Q ((hv.mono (m := 17179869184) (by decide)).fit (by decide))) (hb.mono (by decide))
 rw [Nm.F7] at o3
 have o4 := a7v
 have o5 := M5 v (hv.mono (by decide))
 have o6 := a4E v b (hv.mono (by decide)) (hb.mono (by decide))
 have o7 := a0q v b (hv.mono (by decide)) (hb.mono (by decide))
 have hz := b4J (v := Nm.d9 v) h
 have hs := a5Y (Nm.d9 v)
 unfold Z5 a1N
 generalize Nm.q9 (E9 (Nm.d9 v)) (Nm.d9 b) = c at *
 generalize y7 (Nm.d9 b) = s1 at *
 generalize y7 (Nm.d9 v) = s2 at *
 unfold rq at *
 generalize Nm.ofQ (E9 (Nm.d9 v)) = av at *
 generalize Nm.ofQ (Nm.d9 v - Nm.d9 b) = d at *
 generalize Nm.ofQ (Nm.d9 v + Nm.d9 b) = e at *
 generalize Nm.ofQ 0 = z at *
 simp only [j5]
 simp only [rc, sb, ints] at *
 (repeat first | refine uA ?_ | (refine uK ?_ ?_; focus first | omega | (intros; simp_all <;> omega)) | simp (disch := omega) only [go_sem, Nat.reduceBEq, Nat.reduceAdd, ww] | (refine uD o1 ?_ ?_ ?_; exact tz hw; exact rfl) | (refine uD o2 ?_ ?_ ?_; exact tz hw; exact rfl) | (refine uD o3 ?_ ?_ ?_; exact tz hw; exact rfl))
 refine S.cond rfl (fun hc => ?_) (fun hc => ?_)
 ·rw [if_pos (by simp only [c1U, c1r] at hc; omega)]
  (repeat first | refine uA ?_ | (refine uK ?_ ?_; focus first | omega | (intros; simp_all <;> omega)) | simp (disch := omega) only [go_sem, Nat.reduceBEq, Nat.reduceAdd, ww] | (refine uD o4 ?_ ?_ ?_; exact tz hw; exact rfl))
  (refine S.done ?_; simp only [p9, l7, go_sem, Nat.reduceBEq, Nat.reduceAdd, Nat.reduceLeDiff, Int.reduceToNat, Int.reducePow]; (repeat (refine ⟨?_, ?_⟩; focus first | trivial | omega | simp)); exact j3.out rfl (Imp.refl rfl) rfl)
 have hc1 : ¬ c <= 0 := by simp only [c1D, c1v] at hc; omega
 rw [if_neg hc1]
 (repeat first | refine uA ?_ | (refine uK ?_ ?_; focus first | omega | (intros; simp_all <;> omega)) | simp (disch := omega) only [go_sem, Nat.reduceBEq, Nat.reduceAdd, ww] | (refine uD o5 ?_ ?_ ?_; exact tz hw; exact rfl))
 refine S.cond rfl (fun hc => ?_) (fun hc => ?_)
 ·rw [if_neg (by simp only [c1r] at hc; omega)]
  (repeat first | refine uA ?_ | (refine uK ?_ ?_; focus first | omega | (intros; simp_all <;> omega)) | simp (disch := omega) only [go_sem, Nat.reduceBEq, Nat.reduceAdd, ww] | (refine uD o6 ?_ ?_ ?_; exact tz hw; exact rfl))
  (refine S.done ?_; simp only [p9, l7, go_sem, Nat.reduceBEq, Nat.reduceAdd, Nat.reduceLeDiff, Int.reduceToNat, Int.reducePow]; (repeat (refine ⟨?_, ?_⟩; focus first | trivial | omega | simp)); exact j3.out rfl (Imp.refl rfl) rfl)
 ·rw [if_pos (by simp only [c1v] at hc; omega)]
  (repeat first | refine uA ?_ | (refine uK ?_ ?_; focus first | omega | (intros; simp_all <;> omega)) | simp (disch := omega) only [go_sem, Nat.reduceBEq, Nat.reduceAdd, ww] | (refine uD o7 ?_ ?_ ?_; exact tz hw; exact rfl))
  (refine S.done ?_; simp only [p9, l7, go_sem, Nat.reduceBEq, Nat.reduceAdd, Nat.reduceLeDiff, Int.reduceToNat, Int.reducePow]; (repeat (refine ⟨?_, ?_⟩; focus first | trivial | omega | simp)); exact j3.out rfl (Imp.refl rfl) rfl)
theorem b8F (a : Am) (q v : List Nm.Rt) (hl : Ab 1073741824 a) (ha : J2 a = 0) (hq : q.length = a.links.length) (hv : v.length = a.links.length) : FZ 234 [a.c, rts q, rts v] (ints 0) := by
 refine kW Tryz.func234 (by cbv) (by rfl) fun w O hw => ?_
 have h := a8b a hl
 rw [ha] at h
 have hn := hl.2.2.1
 obtain ⟨name, ⟨x, y, half, t⟩, links⟩ := a
 simp only at hq hv hn
 simp only [j5]
 simp only [Am.c, Am.enc, lks, rts, sb, ints] at *
 (repeat first | refine uA ?_ | (refine uK ?_ ?_; focus first | omega | (intros; simp_all <;> omega)) | simp (disch := omega) only [go_sem, Nat.reduceBEq, Nat.reduceAdd, ww] | (refine uD h ?_ ?_ ?_; exact tz hw; exact rfl))
 refine S.cond rfl (fun hc => by simp at hc) (fun hc => ?_)
 (repeat first | refine uA ?_ | (refine uK ?_ ?_; focus first | omega | (intros; simp_all <;> omega)) | simp (disch := omega) only [go_sem, Nat.reduceBEq, Nat.reduceAdd, ww, c1m])
 refine S.cond rfl (fun hc => by simp only [c1U, Bool.not_eq_true', c1v] at hc; omega) (fun hc => ?_)
 (repeat first | refine uA ?_ | (refine uK ?_ ?_; focus first | omega | (intros; simp_all <;> omega)) | simp (disch := omega) only [go_sem, Nat.reduceBEq, Nat.reduceAdd, ww])
 exact S.done (j3.out rfl (Imp.refl rfl) rfl)
theorem b2Q {a : Am} {x : Ast} {i : Nat} {l : Lk} {q v : Nm.Rt} (h1 : a.links[i]? = some l) (h2 : x.v[i]? = some v) (h3 : x.q[i]? = some q) : (a2g a x)[i]? = some (Z5 l.brake v) /\ (a3N a x)[i]? = some (a1N q (Z5 l.brake v)) := by
 have h4 : (a2g a x)[i]? = some (Z5 l.brake v) := by
  unfold a2g
  rw [c2b, H7 h1 h2]; rfl
 refine ⟨h4, ?_⟩
 unfold a3N
 rw [c2b, H7 h3 h4]; rfl
theorem b2R {a : Am} {x : Ast} (h1 : x.q.length = a.links.length) (h2 : x.v.length = a.links.length) : (a2g a x).length = a.links.length /\ (a3N a x).length = a.links.length := by
 unfold a3N a2g
 simp only [c1m, List.length_zip]; omega
theorem a3t {α : Type} {l m : List α} {i : Nat} {y : α} (f : α -> List C) (hl : l.length = m.length) (hy : l[i]? = some y) : ((l.take i ++ m.drop i).map f).set i (f y) = (l.take (i + 1) ++ m.drop (i + 1)).map f := by
 rw [<- List.map_set, b8i hl hy]
theorem b8y {α : Type} {l m : List α} {i : Nat} {y : α} (hl : l.length = m.length) (hy : l[i]? = some y) : (l.take (i + 1) ++ m.drop (i + 1))[i]? = some y := by
 obtain ⟨hi, rfl⟩ := c1u.1 hy
 rw [c1y (by rw [c1z]; omega), List.getElem?_take, if_pos (by omega), c1l hi]
theorem b2B {k : Nat} {b v : Nm.Rt} (hk : 8 <= k) (hb : Rb k b) (hv : Rb k v) : Rb (k + k + 1) (Z5 b v) := by
 unfold Z5
 split
 ·exact L9.mono (by omega)
 split
 ·exact O6 (hv.fit (by omega)) (hb.fit (by omega))
 ·exact P5 (hv.fit (by omega)) (hb.fit (by omega))
theorem b8x (a : Am) (x : Ast) (hl : Ab 1073741824 a) (hx : Asb 1073741824 x) (ha : J2 a = 0) (hq : x.q.length = a.links.length) (hv : x.v.length = a.links.length) : FZ 216 [a.c, x.c] (.tup [(Ast.mk (a3N a x) (a2g a x) x.power x.holds).c, ints 0]) := by
 refine X6.of (eff := c1h) Tryz.func216 (by cbv) (by exact c1E rfl) fun w O hw => ?_
 have h := b8F a x.q x.v hl ha hq hv
 have hbr := fun l hl => b3x ((a1B ha).2 l hl)
 have hbg := @b2Q a x
 obtain ⟨hVl, hQl⟩ := b2R hq hv
 have c1 := a2c (x.q.map rcs) (by rw [c1m]; exact hx.1.1)
 have c2 := a2c (x.v.map rcs) (by rw [c1m]; exact hx.2.1)
 generalize a2g a x = V at *
 generalize a3N a x = Q at *
 obtain ⟨hqn, hqb⟩ := hx.1
 obtain ⟨hvn, hvb⟩ := hx.2
 obtain ⟨name, ⟨bx, by', half, t⟩, links⟩ := a
 obtain ⟨q, v, power, holds⟩ := x
 obtain ⟨b0, ⟨b1, b2, b3⟩, hn, hb⟩ := hl
 simp only at hq hv hn hb hbr hqn hqb hvn hvb hVl hQl hbg h c1 c2 ⊢
 simp only [j5]
 simp only [Am.c, Am.enc, Ast.c, Ast.enc, lks, rts, sb, ints] at h c1 c2 ⊢
 (repeat first | refine uA ?_ | (refine uK ?_ ?_; focus first | omega | (intros; simp_all <;> omega)) | simp (disch := omega) only [go_sem, Nat.reduceBEq, Nat.reduceAdd, ww] | (refine uD h ?_ ?_ ?_; exact tz hw; exact rfl))
 refine S.cond rfl (fun hc => by simp at hc) (fun hc => ?_)
 (repeat first | refine uI ?_ | (refine uK ?_ ?_; focus first | omega | (intros; simp_all <;> omega)) | simp (disch := omega) only [go_sem, Nat.reduceBEq, Nat.reduceAdd, ww])
 refine S.H6 [.gone, .box 90 [.sl 3 (q.map rcs), .sl 3 (v.map rcs), .v (.bool power), .v (.int .i64 holds)]] (by simp [Eng.F3, Eng.X0]) ?_
 (repeat first | refine uA ?_ | (refine uK ?_ ?_; focus first | omega | (intros; simp_all <;> omega)) | simp (disch := omega) only [go_sem, Nat.reduceBEq, Nat.reduceAdd, ww, F3, c1m] | refine l9.t (FNew.t c1 rfl) ?_ | refine l9.t (FNew.t c2 rfl) ?_)
 refine S.loop (X := Nat) (fun i => ⟨[(3, .bp 1 0), (4, .bp 2 0), (7, .bp 5 0), (32, lks links), (33, ints links.length), (34, ints i)], [.gone, .box 90 [.sl 3 (q.map rcs), .sl 3 (v.map rcs), .v (.bool power), .v (.int .i64 holds)], .box 90 [.v (.slice none 0 0), .v (.slice none 0 0), .v (.bool false), .v (.int .i64 0)], .row 29 3 ((Q.take i ++ q.drop i).map rcs), .row 29 3 ((V.take i ++ v.drop i).map rcs), .box 90 [.rv 3, .rv 4, .v (.bool power), .v (.int .i64 holds)]]⟩) (fun i => i <= links.length) (fun i => links.length - i) 0 (c1s _) (by (repeat first | refine uA ?_ | (refine ⟨?_, ?_⟩; focus first | rfl | simp [slot]) | rfl | simp)) ?_
 intro i hi
 simp only [lks, ints]
 (repeat first | refine uA ?_ | (refine uK ?_ ?_; focus first | omega | (intros; simp_all <;> omega)) | simp (disch := omega) only [go_sem, Nat.reduceBEq, Nat.reduceAdd, ww])
 (refine uJ rfl (fun hc => ?_) fun hc => ?_)
 ·have hi' : i < links.length := by omega
  have hgl := c1l hi'
  have hgq := c1l (show i < q.length by omega)
  have hgv := c1l (show i < v.length by omega)
  generalize links[i] = l at hgl
  generalize q[i]'_ = qi at hgq
  generalize v[i]'_ = vi at hgv
  obtain ⟨g1, g2⟩ := hbg hgl hgv hgq
  have bl := hb l (c1o hgl)
  have bv := hvb vi (c1o hgv)
  have bq := hqb qi (c1o hgq)
  have o1 := b6i l.brake vi bl.2.2.2.2.1 bv (hbr l (c1o hgl))
  have o2 := a0q qi (Z5 l.brake vi) (bq.mono (by decide)) ((b2B (by decide) bl.2.2.2.2.1 bv).mono (by decide))
  have s1 := a3t rcs (by omega) g1 (m := v)
  have s2 := a3t rcs (by omega) g2 (m := q)
  have s3 := b8y (by omega) g1 (m := v)
  have m1 := a2w (l := V) (m := v) (i := i) (by omega) (by omega)
  have m2 := a2w (l := Q) (m := q) (i := i) (by omega) (by omega)
  have m3 := a2w (l := V) (m := v) (i := i + 1) (by omega) (by omega)
  unfold rq at o2
  unfold a1N at s2
  generalize Nm.ofQ (Nm.d9 qi + Nm.d9 (Z5 l.brake vi)) = z at *
  generalize Z5 l.brake vi = y at *
  generalize V.take i ++ v.drop i = V0 at *
  generalize hV1 : V.take (i + 1) ++ v.drop (i + 1) = V1 at *
  generalize hQ1 : Q.take (i + 1) ++ q.drop (i + 1) = Q1 at *
  generalize Q.take i ++ q.drop i = Q0 at *
  have e1 : ∃ u, V0[i]? = some u := ⟨_, c1l (show i < V0.length by omega)⟩
  have e2 : ∃ u, Q0[i]? = some u := ⟨_, c1l (show i < Q0.length by omega)⟩
  obtain ⟨u1, e1⟩ := e1
  obtain ⟨u2, e2⟩ := e2
  simp only [rc, rcs, sb] at o1 o2 s1 s2
  (repeat first | refine uA ?_ | (refine uK ?_ ?_; focus first | omega | (intros; simp_all <;> omega)) | simp (disch := omega) only [go_sem, Nat.reduceBEq, Nat.reduceAdd, ww, hgl, hgq, hgv, e1, e2, s1, s2, s3, m1, m2, m3, c1n, c1m, Lk.enc, rcs, vts, sb, c1q] | (refine uD o1 ?_ ?_ ?_; exact tz hw; exact rfl) | (refine uD o2 ?_ ?_ ?_; exact tz hw; exact rfl))
  refine S.next (i + 1) (by omega) (by omega) (by simp only [hV1, hQ1]; exact (by (repeat first | refine uA ?_ | (refine ⟨?_, ?_⟩; focus first | rfl | simp [slot]) | rfl | simp)))
 ·have hi' : i = links.length := by omega
  subst hi'
  rw [show Q.take links.length ++ q.drop links.length = Q by rw [<- hq]; exact mid_end (by omega), show V.take links.length ++ v.drop links.length = V by rw [<- hv]; exact mid_end (by omega)]
  (repeat first | refine uA ?_ | (refine uK ?_ ?_; focus first | omega | (intros; simp_all <;> omega)) | simp (disch := omega) only [go_sem, Nat.reduceBEq, Nat.reduceAdd, ww])
  (refine S.done ?_; simp only [p9, l7, go_sem, Nat.reduceBEq, Nat.reduceAdd, Nat.reduceLeDiff, Int.reduceToNat, Int.reducePow]; (repeat (refine ⟨?_, ?_⟩; focus first | trivial | omega | simp)); exact j3.out rfl (Imp.tup (by (repeat' (first | exact l6.nil | exact Imp.refl rfl | exact Imp.frz rfl rfl rfl | exact Imp.K4 | refine Imp.agg ?_ | refine l6.cons ?_ ?_)))) rfl)
def a6J : a0W := ⟨65, [.tmp 6], .seq (.reg [OA 3 (.box 76 (TT 0)), OA 6 (.mv (.const (.bool false)))]) (.seq (.seq (.reg [MM 10 2, OA 11 (.len false (TT 10)), FF 12 11 3, VV 13 12, OA 14 (.len false (TT 13)), OA 15 (.bin .neq (TT 11) (TT 14))])
 (.cond (TT 15) (.seq (.reg [OA 6 (.mv (.const (.bool false)))]) .ret) .skip)) (.seq (.seq (.reg [FF 16 11 3, VV 17 16, OA 18 (.len false (TT 17)), OA 19 (.mv (II 0))]) (.block 0 (.loop (.seq (.reg [OA 20 (.bin .lss (TT 19) (TT
 18))]) (.seq (.cond (TT 20) .skip (.exit 0)) (.seq (.block 1 (.seq (.reg [MM 21 19, OA 22 (.A9 16 (TT 17) (TT 19)), LL 23 16 22, OA 8 (.alloc 158 [.bool false, .string ⟨#[]⟩, .string ⟨#[]⟩, .bool false, .string ⟨#[]⟩, .string
 ⟨#[]⟩, .bool false, .string ⟨#[]⟩, .string ⟨#[]⟩, .bool false, .string ⟨#[]⟩, .string ⟨#[]⟩, .bool false, .string ⟨#[]⟩, .string ⟨#[]⟩, .slice none 0 0]), MM 7 21, OB (.store 16 (TT 8) (TT 23))]) (.seq (.H6 [.q, .q, .q, .q,
 .q, .q, .q, .q, .q, .a, .e (some 9) true] [MM 24 1, MM 25 7, OA 26 (.A9 3 (TT 24) (TT 25)), LL 27 3 26, MM 28 2, MM 29 7, OA 30 (.A9 3 (TT 28) (TT 29)), LL 31 3 30, OA 32 (.call 16 [TT 27, TT 31]), OA 9 (.alloc 29 [.bool
 false, .string ⟨#[]⟩, .string ⟨#[]⟩]), OB (.store 3 (TT 9) (TT 32))]) (.seq (.H6 [.q, .q, .q, .q, .q, .q, .q, .q, .q, .q, .q, .q, .q, .q, .q, .q, .q, .q, .q, .q, .q, .q, .q, .q, .q, .q, .q, .q, .q, .q, .q] [MM 33 2, MM 34 7,
 OA 35 (.A9 3 (TT 33) (TT 34)), LL 36 3 35, OA 37 (.call 62 [TT 36]), OA 38 (.un .not (TT 37)), MM 39 38, MG 40 2 39 false, MG 41 7 39 false, OC 42 (.A9 3 (TT 40) (TT 41)) 39 false, LG 43 3 42 39 false, OC 44 (.call 75 [TT
 43]) 39 false, FG 45 9 8 39 false, LG 46 3 45 39 false, OC 47 (.call 52 [TT 44, TT 46]) 39 false, OC 48 (.bin .gtr (TT 47) (II 0)) 39 false, OA 49 (.pick (TT 39) (.const (.bool true)) (TT 48)), MM 50 49, LG 51 3 9 50 false, FG
 52 3 8 50 false, LG 53 3 52 50 false, OC 54 (.call 52 [TT 51, TT 53]) 50 false, OC 55 (.bin .lss (TT 54) (II 0)) 50 false, OA 56 (.pick (TT 50) (.const (.bool true)) (TT 55)), MM 57 56, LG 58 3 9 57 false, FG 59 6 8 57 false, LG
 60 3 59 57 false, OC 61 (.call 52 [TT 58, TT 60]) 57 false, OC 62 (.bin .gtr (TT 61) (II 0)) 57 false, OA 63 (.pick (TT 57) (.const (.bool true)) (TT 62))]) (.cond (TT 63) (.seq (.reg [OA 6 (.mv (.const (.bool false)))]) .ret)
 .skip))))) (.reg [OA 64 (.bin .add (TT 19) (II 1)), MM 19 64]))))))) (.seq (.reg [OA 6 (.mv (.const (.bool true)))]) .ret)))⟩
theorem b2e : Z8 eff Tryz.prog Tryz.f215 = some a6J := by kernel_rfl
theorem b1Z : Tryz.prog.funcs[215]? = some Tryz.f215 := Tryz.func215
theorem b2P {α β γ : Type} {f : α × β × γ -> Bool} {g : γ -> Bool} : ∀ (l : List α) (q : List β) (u : List γ), q.length = l.length -> u.length = l.length -> (u.all g && (l.zip (q.zip u)).all f) = (l.zip (q.zip u)).all fun x => g x.2.2 && f x
 | [], [], [], _, _ => rfl
 | a :: l, b :: q, c :: u, h1, h2 => by
  have ih := b2P (f := f) (g := g) l q u (by simpa using h1) (by simpa using h2)
  simp only [List.zip_cons_cons, List.all_cons, <- ih]
  cases g c <;> cases u.all g <;> simp
theorem a5j {α : Type} {f : α -> Bool} {l : List α} {i : Nat} {x : α} (h : l[i]? = some x) : (l.drop i).all f = (f x && (l.drop (i + 1)).all f) := by
 rw [drop_at h, List.all_cons]
theorem b6X (p q : Rat) : Nm.q9 p q < 0 <-> 0 < Nm.q9 q p := by rw [a1E, U1]
def b0U (x : Lk × Nm.Rt × Nm.Rt) : Bool := D8 x.2.2 && a6m x
theorem c0s (a : Am) (q u : List Nm.Rt) (hl : Ab 1073741824 a) (hq : Rbs 1073741824 q) (hu : Rbs 1073741824 u) (hql : q.length = a.links.length) : FZ 215 [a.c, rts q, rts u] (.v (.bool (a2s a q u))) := by
  refine kW b1Z b2e (by rfl) fun w O hw => ?_
  obtain ⟨hqn, hqb⟩ := hq
  obtain ⟨hun, hub⟩ := hu
  unfold a2s
  obtain ⟨name, ⟨bx, by', half, t⟩, links⟩ := a
  obtain ⟨b0, ⟨b1, b2, b3⟩, hn, hb⟩ := hl
  simp only at b0 b1 b2 b3 hn hb hql ⊢
  simp only [a6J, j5, TT, II, OA, OB, OC, MM, LL, VV, FF, MG, LG, VG, FG]
  simp only [Am.c, Am.enc, lks, rts, sb, ints]
  (repeat first | refine uA ?_ | (refine uK ?_ ?_; focus first | omega | (intros; simp_all <;> omega)) | simp (disch := omega) only [go_sem, Nat.reduceBEq, Nat.reduceAdd, ww, c1m])
  refine S.cond rfl (fun hc => ?_) (fun hc => ?_)
  · rw [show decide (u.length = links.length) = false from decide_eq_false (by simp only [Bool.not_eq_true', c1v] at hc; omega), Bool.false_and]
    (repeat first | refine uA ?_ | (refine uK ?_ ?_; focus first | omega | (intros; simp_all <;> omega)) | simp (disch := omega) only [go_sem, Nat.reduceBEq, Nat.reduceAdd, ww])
    exact S.done (j3.out rfl (Imp.refl rfl) rfl)
  have hul : u.length = links.length := by simp only [Bool.not_eq_false', c1r] at hc; omega
  rw [decide_eq_true hul, Bool.true_and, b2P links q u hql hul, show (fun x : Lk × Nm.Rt × Nm.Rt => D8 x.2.2 && a6m x) = b0U from rfl]
  (repeat first | refine uA ?_ | (refine uK ?_ ?_; focus first | omega | (intros; simp_all <;> omega)) | simp (disch := omega) only [go_sem, Nat.reduceBEq, Nat.reduceAdd, ww, c1m])
  refine S.loop (X := Nat) (fun i => ⟨[(1, rts q), (2, rts u), (17, lks links), (18, ints links.length), (19, ints i)], []⟩) (fun i => i <= links.length /\ (links.zip (q.zip u)).all b0U = ((links.zip (q.zip u)).drop i).all b0U) (fun i => links.length - i) 0 ⟨c1s _, rfl⟩ (by (repeat first | refine uA ?_ | (refine ⟨?_, ?_⟩; focus first | rfl | simp [slot]) | rfl | simp)) ?_
  rintro i ⟨hi, hg⟩
  simp only [rts, lks, ints]
  (repeat first | refine uA ?_ | (refine uK ?_ ?_; focus first | omega | (intros; simp_all <;> omega)) | simp (disch := omega) only [go_sem, Nat.reduceBEq, Nat.reduceAdd, ww])
  (refine uJ rfl (fun hc => ?_) fun hc => ?_)
  · have hi' : i < links.length := by omega
    have hgl := c1l hi'
    have hgq := c1l (show i < q.length by omega)
    have hgu := c1l (show i < u.length by omega)
    generalize links[i] = l at hgl
    generalize q[i]'_ = qi at hgq
    generalize u[i]'_ = ui at hgu
    have hd := a5j (f := b0U) (H7 hgl (H7 hgq hgu))
    have bl := hb l (c1o hgl)
    have bq := (hqb qi (c1o hgq)).mono (m := 17179869184) (by decide)
    have bu := (hub ui (c1o hgu)).mono (m := 17179869184) (by decide)
    have bz := (O6 ((hqb qi (c1o hgq)).fit (by decide)) ((hub ui (c1o hgu)).fit (by decide))).mono (m := 17179869184) (by decide)
    have o1 := a0q qi ui bq bu
    have o2 := a0p ui (bu.mono (by decide))
    have o3 := a3g ui bu
    have o4 := K5 (Nm.ofQ (E9 (Nm.d9 ui))) l.speed (a1Q (bu.fit (by decide))) (bl.2.2.2.1.mono (by decide))
    have o5 := K5 (Nm.ofQ (Nm.d9 qi + Nm.d9 ui)) l.low bz (bl.2.1.mono (by decide))
    have o6 := K5 (Nm.ofQ (Nm.d9 qi + Nm.d9 ui)) l.high bz (bl.2.2.1.mono (by decide))
    have hsw := b6X (Nm.d9 qi + Nm.d9 ui) (Nm.d9 l.low)
    rw [Nm.F7] at o4 o5 o6
    have hv : b0U (l, qi, ui) = (decide ui.D5 && !(decide (0 < Nm.q9 (E9 (Nm.d9 ui)) (Nm.d9 l.speed)) || decide (0 < Nm.q9 (Nm.d9 l.low) (Nm.d9 qi + Nm.d9 ui)) || decide (0 < Nm.q9 (Nm.d9 qi + Nm.d9 ui) (Nm.d9 l.high)))) := rfl
    rw [hv] at hd
    clear hv
    generalize decide ui.D5 = g at *
    generalize Nm.q9 (E9 (Nm.d9 ui)) (Nm.d9 l.speed) = c1 at *
    generalize Nm.q9 (Nm.d9 l.low) (Nm.d9 qi + Nm.d9 ui) = c2 at *
    generalize Nm.q9 (Nm.d9 qi + Nm.d9 ui) (Nm.d9 l.low) = c3 at *
    generalize Nm.q9 (Nm.d9 qi + Nm.d9 ui) (Nm.d9 l.high) = c4 at *
    unfold rq at o1 o3
    generalize Nm.ofQ (Nm.d9 qi + Nm.d9 ui) = z at *
    generalize Nm.ofQ (E9 (Nm.d9 ui)) = au at *
    have hqi : (i : Int) < q.length := by omega
    have hui : (i : Int) < u.length := by omega
    simp only [rc, sb, ints] at o1 o2 o3 o4 o5 o6
    (repeat first | refine uG o1 ?_ | refine uG o2 ?_ | refine uG o3 ?_ | refine uG o4 ?_ | refine uG o5 ?_ | refine uG o6 ?_ | refine uA ?_ | (refine uK ?_ ?_; focus first | omega | (intros; simp_all <;> omega)) | simp (disch := omega) only [go_sem, Nat.reduceBEq, Nat.reduceAdd, ww, hgl, hgq, hgu, c1n, c1m, Lk.enc, rcs, vts, sb, c1q] | (refine uD o1 ?_ ?_ ?_; exact tz hw; exact rfl) | (refine uD o2 ?_ ?_ ?_; exact tz hw; exact rfl) | (refine uD o3 ?_ ?_ ?_; exact tz hw; exact rfl) | (refine uD o4 ?_ ?_ ?_; exact tz hw; exact rfl) | (refine uD o5 ?_ ?_ ?_; exact tz hw; exact rfl) | (refine uD o6 ?_ ?_ ?_; exact tz hw; exact rfl))
    refine S.cond rfl (fun hc2 => ?_) (fun hc2 => ?_)
    · rw [hg, hd, show (g && !(decide (0 < c1) || decide (0 < c2) || decide (0 < c4))) = false by
        cases g
        · rfl
        · simp only [Bool.not_true, Bool.false_or, c1U, c1r] at hc2
          rw [show (decide (0 < c1) || decide (0 < c2) || decide (0 < c4)) = true by simp only [c1U, c1r]; omega]
          rfl, Bool.false_and]
      (repeat first | refine uA ?_ | (refine uK ?_ ?_; focus first | omega | (intros; simp_all <;> omega)) | simp (disch := omega) only [go_sem, Nat.reduceBEq, Nat.reduceAdd, ww])
      exact S.done (j3.out rfl (Imp.refl rfl) rfl)
    · (repeat first | refine uA ?_ | (refine uK ?_ ?_; focus first | omega | (intros; simp_all <;> omega)) | simp (disch := omega) only [go_sem, Nat.reduceBEq, Nat.reduceAdd, ww])
      refine S.next (i + 1) ⟨by omega, ?_⟩ (by omega) (by (repeat first | refine uA ?_ | (refine ⟨?_, ?_⟩; focus first | rfl | simp [slot]) | rfl | simp))
      rw [hg, hd, show (g && !(decide (0 < c1) || decide (0 < c2) || decide (0 < c4))) = true by
        cases g
        · simp at hc2
        · simp only [Bool.not_true, Bool.false_or, c1D, c1v] at hc2
          rw [show (decide (0 < c1) || decide (0 < c2) || decide (0 < c4)) = false by simp only [c1D, c1v]; omega]
          rfl, Bool.true_and]
  · rw [hg, List.drop_eq_nil_of_le (by simp only [List.length_zip]; omega), List.all_nil]
    (repeat first | refine uA ?_ | (refine uK ?_ ?_; focus first | omega | (intros; simp_all <;> omega)) | simp (disch := omega) only [go_sem, Nat.reduceBEq, Nat.reduceAdd, ww])
    exact S.done (j3.out rfl (Imp.refl rfl) rfl)
theorem b4Z {x : Ast} {u : List Nm.Rt} {i : Nat} {q v : Nm.Rt} (h1 : x.q[i]? = some q) (h2 : u[i]? = some v) : (mvQ x u)[i]? = some (a1N q v) := by
 unfold mvQ
 rw [c2b, H7 h1 h2]; rfl
theorem take_at {α : Type} {l : List α} {i : Nat} {x : α} (h : l[i]? = some x) : l.take (i + 1) = l.take i ++ [x] := by
 obtain ⟨hi, rfl⟩ := c1u.1 h
 exact c2c hi
theorem b9E (a : Am) (x : Ast) (u : List Nm.Rt) (p : Bool) (hl : Ab 1073741824 a) (hx : Asb 1073741824 x) (hu : Rbs 1073741824 u) (ha : J2 a = 0) (hq : x.q.length = a.links.length) (hv : x.v.length = a.links.length) : FZ 159 [a.c, x.c, rts u, .v (.bool p)] (.tup [(a0x a x u p).c, ints 0]) := by
 refine kW Tryz.func159 (by cbv) (by rfl) fun w O hw => ?_
 have h1 := b8x a x hl hx ha hq hv
 have h2 := c0s a x.q u hl hx.1 hu hq
 have h3 : a2s a x.q u = true -> u.length = a.links.length := fun h => by unfold a2s at h; rw [c1x] at h; exact of_decide_eq_true h.1
 have h4 := @b4Z x u
 have h5 : (mvQ x u).length = min x.q.length u.length := by unfold mvQ; rw [c1m, List.length_zip]
 have c1 := (a2c (u.map rcs) (by rw [c1m]; exact hu.1)).spec
 obtain ⟨hqn, hqb⟩ := hx.1
 obtain ⟨hun, hub⟩ := hu
 unfold a0x mvA a7k
 generalize a3N a x = BQ at *
 generalize a2g a x = BV at *
 generalize mvQ x u = M at *
 generalize a2s a x.q u = m at *
 obtain ⟨name, ⟨bx, by', half, t⟩, links⟩ := a
 obtain ⟨q, v, power, holds⟩ := x
 simp only at h1 h2 h3 h4 h5 hq hv hqn hqb ⊢
 have hn := hl.2.2.1
 simp only at hn
 simp only [j5]
 simp only [Am.c, Am.enc, Ast.c, Ast.enc, lks, rts, sb, ints] at h1 h2 c1 ⊢
 by_cases hm : (p && m) = true
 ·rw [if_pos hm]
  rw [c1x] at hm
  obtain ⟨rfl, rfl⟩ := hm
  have h3 := h3 rfl
  (repeat first | refine uG h2 ?_ | refine uA ?_ | (refine uK ?_ ?_; focus first | omega | (intros; simp_all <;> omega)) | simp (disch := omega) only [go_sem, Nat.reduceBEq, Nat.reduceAdd, ww] | (refine uD h2 ?_ ?_ ?_; exact tz hw; exact rfl))
  refine S.cond rfl (fun hc => by simp at hc) (fun hc => ?_)
  (repeat first | refine uF c1 ?_ | refine uA ?_ | (refine uK ?_ ?_; focus first | omega | (intros; simp_all <;> omega)) | simp (disch := omega) only [go_sem, Nat.reduceBEq, Nat.reduceAdd, ww, c1m] | (refine uB c1 ?_ ?_; exact rfl))
  refine S.loop (X := Nat) (fun i => ⟨[(2, rts u), (8, .bp 2 0), (12, .bp 3 0), (43, rts q), (44, ints q.length), (45, ints i)], [.gone, .gone, .box 90 [.v (.slice none 0 0), .v (.slice none 0 0), .v (.bool false), .v (.int .i64 0)], .box 90 [.rv 4, rts u, .v (.bool true), ints holds], .row 29 3 ((M.take i).map rcs)]⟩) (fun i => i <= q.length) (fun i => q.length - i) 0 (c1s _) (Ent.trans (Ent.a1q 3 0 29 3 rfl rfl rfl) (by (repeat first | refine uA ?_ | (refine ⟨?_, ?_⟩; focus first | rfl | simp [slot]) | rfl | simp))) ?_
  intro i hi
  simp only [rts, ints]
  (repeat first | refine uA ?_ | (refine uK ?_ ?_; focus first | omega | (intros; simp_all <;> omega)) | simp (disch := omega) only [go_sem, Nat.reduceBEq, Nat.reduceAdd, ww])
  (refine uJ rfl (fun hc => ?_) fun hc => ?_)
  ·have hgq := c1l (show i < q.length by omega)
   have hgu := c1l (show i < u.length by omega)
   generalize q[i]'_ = qi at hgq
   generalize u[i]'_ = ui at hgu
   have hap := take_at (h4 hgq hgu)
   have htl : (M.take i).length = i := by rw [c1z]; omega
   have o1 := a0q qi ui ((hqb qi (c1o hgq)).mono (by decide)) ((hub ui (c1o hgu)).mono (by decide))
   unfold rq at o1
   unfold a1N at hap
   generalize Nm.ofQ (Nm.d9 qi + Nm.d9 ui) = z at *
   have hui : (i : Int) < u.length := by omega
   simp only [rc, sb] at o1
   (repeat first | refine uG o1 ?_ | refine uA ?_ | (refine uK ?_ ?_; focus first | omega | (intros; simp_all <;> omega)) | simp (disch := omega) only [go_sem, Nat.reduceBEq, Nat.reduceAdd, ww, hgq, hgu, c1n, c1m, rcs, sb, htl, c1q] | (refine uD o1 ?_ ?_ ?_; exact tz hw; exact rfl))
   refine S.next (i + 1) (by omega) (by omega) (by simp only [hap, c2d, c1F, c1L, rcs, sb]; exact (by (repeat first | refine uA ?_ | (refine ⟨?_, ?_⟩; focus first | rfl | simp [slot]) | rfl | simp)))
  ·have hi' : i = q.length := by omega
   subst hi'
   rw [c1G (by omega)]
   (repeat first | refine uA ?_ | (refine uK ?_ ?_; focus first | omega | (intros; simp_all <;> omega)) | simp (disch := omega) only [go_sem, Nat.reduceBEq, Nat.reduceAdd, ww])
   (refine S.done ?_; simp only [p9, l7, go_sem, Nat.reduceBEq, Nat.reduceAdd, Nat.reduceLeDiff, Int.reduceToNat, Int.reducePow]; (repeat (refine ⟨?_, ?_⟩; focus first | trivial | omega | simp)); exact j3.out rfl (Imp.tup (by (repeat' (first | exact l6.nil | exact Imp.refl rfl | exact Imp.frz rfl rfl rfl | exact Imp.K4 | refine Imp.agg ?_ | refine l6.cons ?_ ?_)))) rfl)
 ·rw [if_neg hm]
  cases p
  ·(repeat first | refine uG h2 ?_ | refine uA ?_ | (refine uK ?_ ?_; focus first | omega | (intros; simp_all <;> omega)) | simp (disch := omega) only [go_sem, Nat.reduceBEq, Nat.reduceAdd, ww] | (refine uD h2 ?_ ?_ ?_; exact tz hw; exact rfl))
   refine S.cond rfl (fun hc => ?_) (fun hc => by simp at hc)
   (repeat first | refine uG h1 ?_ | refine uI ?_ | (refine uK ?_ ?_; focus first | omega | (intros; simp_all <;> omega)) | simp (disch := omega) only [go_sem, Nat.reduceBEq, Nat.reduceAdd, ww] | (refine uD h1 ?_ ?_ ?_; exact tz hw; exact rfl))
   refine S.H6 [.gone, .box 90 [.sl 3 (q.map rcs), .sl 3 (v.map rcs), .v (.bool power), .v (.int .i64 holds)]] (by simp [Eng.F3, Eng.X0]) ?_
   (repeat first | refine uA ?_ | (refine uK ?_ ?_; focus first | omega | (intros; simp_all <;> omega)) | simp (disch := omega) only [go_sem, Nat.reduceBEq, Nat.reduceAdd, ww])
   (refine S.done ?_; simp only [p9, l7, go_sem, Nat.reduceBEq, Nat.reduceAdd, Nat.reduceLeDiff, Int.reduceToNat, Int.reducePow]; (repeat (refine ⟨?_, ?_⟩; focus first | trivial | omega | simp)); exact j3.out rfl (Imp.tup (by (repeat' (first | exact l6.nil | exact Imp.refl rfl | exact Imp.frz rfl rfl rfl | exact Imp.K4 | refine Imp.agg ?_ | refine l6.cons ?_ ?_)))) rfl)
  ·have hm : m = false := by simpa using hm
   subst hm
   (repeat first | refine uG h2 ?_ | refine uA ?_ | (refine uK ?_ ?_; focus first | omega | (intros; simp_all <;> omega)) | simp (disch := omega) only [go_sem, Nat.reduceBEq, Nat.reduceAdd, ww] | (refine uD h2 ?_ ?_ ?_; exact tz hw; exact rfl))
   refine S.cond rfl (fun hc => ?_) (fun hc => by simp at hc)
   (repeat first | refine uG h1 ?_ | refine uI ?_ | (refine uK ?_ ?_; focus first | omega | (intros; simp_all <;> omega)) | simp (disch := omega) only [go_sem, Nat.reduceBEq, Nat.reduceAdd, ww] | (refine uD h1 ?_ ?_ ?_; exact tz hw; exact rfl))
   refine S.H6 [.gone, .box 90 [.sl 3 (q.map rcs), .sl 3 (v.map rcs), .v (.bool power), .v (.int .i64 holds)]] (by simp [Eng.F3, Eng.X0]) ?_
   (repeat first | refine uA ?_ | (refine uK ?_ ?_; focus first | omega | (intros; simp_all <;> omega)) | simp (disch := omega) only [go_sem, Nat.reduceBEq, Nat.reduceAdd, ww])
   (refine S.done ?_; simp only [p9, l7, go_sem, Nat.reduceBEq, Nat.reduceAdd, Nat.reduceLeDiff, Int.reduceToNat, Int.reducePow]; (repeat (refine ⟨?_, ?_⟩; focus first | trivial | omega | simp)); exact j3.out rfl (Imp.tup (by (repeat' (first | exact l6.nil | exact Imp.refl rfl | exact Imp.frz rfl rfl rfl | exact Imp.K4 | refine Imp.agg ?_ | refine l6.cons ?_ ?_)))) rfl)
theorem a8K (f g : Fr) (h1 : Rb 4294967296 f.x) (h2 : Rb 4294967296 f.y) (h3 : Rb 268435456 f.t) (h4 : Rb 268435456 g.x) (h5 : Rb 268435456 g.y) (h6 : Rb 268435456 g.t) : FZ 217 [f.c, g.c] (M8 f g).c := by
 refine kW Tryz.func217 (by cbv) (by rfl) fun w O hw => ?_
 have k1 := c0t f ⟨g.x, g.y⟩ h1 h2 h3 h4 h5
 have k2 := b8c f.half f.t g.half g.t (h3.mono (by decide)) (h6.mono (by decide))
 unfold M8 vq tq at *
 generalize Nm.ofQ (a8G f ⟨g.x, g.y⟩) = r1 at *
 generalize Nm.ofQ (a8y f ⟨g.x, g.y⟩) = r2 at *
 generalize a1O f.half (w9 f.half f.t) g.half (w9 g.half g.t) = r3 at *
 obtain ⟨r3, r4⟩ := r3
 simp only at *
 generalize Nm.ofQ r4 = r5 at *
 obtain ⟨fx, fy, fh, ft⟩ := f
 obtain ⟨gx, gy, gh, gt⟩ := g
 simp only [j5]
 simp only [Fr.c, Fr.enc, Vt.c, Vt.enc, vc, tc, sb] at *
 (repeat first | refine uA ?_ | (refine uK ?_ ?_; focus first | omega | (intros; simp_all <;> omega)) | simp (disch := omega) only [go_sem, Nat.reduceBEq, Nat.reduceAdd, ww] | (refine uD k1 ?_ ?_ ?_; exact tz hw; exact rfl) | (refine uD k2 ?_ ?_ ?_; exact tz hw; exact rfl))
 (refine S.done ?_; simp only [p9, l7, go_sem, Nat.reduceBEq, Nat.reduceAdd, Nat.reduceLeDiff, Int.reduceToNat, Int.reducePow]; (repeat (refine ⟨?_, ?_⟩; focus first | trivial | omega | simp)); exact j3.out rfl (Imp.refl rfl) rfl)
theorem b2z (f : Fr) (hf : Fb 1048576 f) : FZ 218 [f.c] (a0O f).c := by
 refine kW Tryz.func218 (by cbv) (by rfl) fun w O hw => ?_
 obtain ⟨h1, h2, h3⟩ := hf
 have k1 := b9j f.half f.t (h3.mono (by decide))
 have k2 := b2I
 have k3 := a9U (Nm.ofQ 0) (Nm.ofQ 0) f.x f.y (L9.mono (by decide)) (L9.mono (by decide)) (h1.mono (by decide)) (h2.mono (by decide))
 rw [Nm.F7] at k3
 have s1 := P5 L9 (h1.fit (by decide))
 have s2 := P5 L9 (h2.fit (by decide))
 have s3 := a6B (U3 (h := f.half) h3 (by decide))
 have k4 := b2S (Nm.ofQ (0 - Nm.d9 f.x)) (Nm.ofQ (0 - Nm.d9 f.y)) (Nm.ofQ (- w9 f.half f.t)) f.half (s1.mono (by decide)) (s2.mono (by decide)) (s3.mono (by decide))
 unfold a0O
 unfold a3d at k2
 unfold vq tq at *
 generalize Nm.ofQ (Nm.d9 (Nm.ofQ (0 - Nm.d9 f.x)) * Q8 f.half (w9 f.half (Nm.ofQ (- w9 f.half f.t))) - Nm.d9 (Nm.ofQ (0 - Nm.d9 f.y)) * Q9 (w9 f.half (Nm.ofQ (- w9 f.half f.t)))) = r1 at *
 generalize Nm.ofQ (Nm.d9 (Nm.ofQ (0 - Nm.d9 f.x)) * Q9 (w9 f.half (Nm.ofQ (- w9 f.half f.t))) + Nm.d9 (Nm.ofQ (0 - Nm.d9 f.y)) * Q8 f.half (w9 f.half (Nm.ofQ (- w9 f.half f.t)))) = r2 at *
 generalize Nm.ofQ (0 - Nm.d9 f.x) = r3 at *
 generalize Nm.ofQ (0 - Nm.d9 f.y) = r4 at *
 generalize Nm.ofQ (- w9 f.half f.t) = r5 at *
 generalize Nm.ofQ 0 = z at *
 obtain ⟨fx, fy, fh, ft⟩ := f
 simp only [j5]
 simp only [Fr.c, Fr.enc, vc, tc, sb] at *
 (repeat first | refine uA ?_ | (refine uK ?_ ?_; focus first | omega | (intros; simp_all <;> omega)) | simp (disch := omega) only [go_sem, Nat.reduceBEq, Nat.reduceAdd, ww] | (refine uD k1 ?_ ?_ ?_; exact tz hw; exact rfl) | (refine uD k2 ?_ ?_ ?_; exact tz hw; exact rfl) | (refine uD k3 ?_ ?_ ?_; exact tz hw; exact rfl) | (refine uD k4 ?_ ?_ ?_; exact tz hw; exact rfl))
 (refine S.done ?_; simp only [p9, l7, go_sem, Nat.reduceBEq, Nat.reduceAdd, Nat.reduceLeDiff, Int.reduceToNat, Int.reducePow]; (repeat (refine ⟨?_, ?_⟩; focus first | trivial | omega | simp)); exact j3.out rfl (Imp.refl rfl) rfl)
theorem b8N {f : Fr} {c : Vt} {x t k : Nat} (hx : Rb x f.x) (hy : Rb x f.y) (ht : Rb t f.t) (hc1 : Rb k c.x) (hc2 : Rb k c.y) (h1 : 1 <= x) (h2 : 1 <= t) (h3 : 1 <= k) : Rb (x + 2 * (k + 4 * t + 18) + 2) (Nm.ofQ (a8G f c)) /\ Rb (x + 2 * (k + 4 * t + 18) + 2) (Nm.ofQ (a8y f c)) := by
 have g1 := a7P f.half (U3 (h := f.half) ht h2)
 have g2 := a8f (U3 (h := f.half) ht h2)
 have g3 := hc1.fit h3
 have g4 := hc2.fit h3
 unfold a8G a8y
 exact ⟨(O6 (hx.fit h1) (P5 (J3 g3 g1) (J3 g4 g2))).mono (by omega), (O6 (hy.fit h1) (O6 (J3 g3 g2) (J3 g4 g1))).mono (by omega)⟩
theorem b6t {h1 h2 : Bool} {p q : Rat} {a b : Nat} (hp : Rb a (Nm.ofQ p)) (hq : Rb b (Nm.ofQ q)) : Rb (2 * (a + b) + 16) (Nm.ofQ (a1O h1 p h2 q).2) := by
 have kb : Rb 8 (Nm.ofQ (-1)) := ⟨Nm.G6 (by decide), Nm.G6 (by decide)⟩
 have kz : Rb (2 * (a + b) + 16) (Nm.ofQ 0) := L9.mono (by omega)
 unfold a1O
 split
 ·exact kz
 split
 ·split
  ·exact kz
  ·rename_i h; exact (a3x h kb hq).mono (by omega)
 split
 ·split
  ·exact kz
  ·rename_i h; exact (a3x h kb hp).mono (by omega)
 split
 ·exact kz
 ·rename_i h; exact (a3x h (O6 hp hq) (P5 a0b (J3 hp hq))).mono (by omega)
theorem a7n {f g : Fr} {x t k u : Nat} (hx : Rb x f.x) (hy : Rb x f.y) (ht : Rb t f.t) (hc1 : Rb k g.x) (hc2 : Rb k g.y) (hu : Rb u g.t) (h1 : 1 <= x) (h2 : 1 <= t) (h3 : 1 <= k) (h4 : 1 <= u) :
  Rb (x + 2 * (k + 4 * t + 18) + 2) (M8 f g).x /\ Rb (x + 2 * (k + 4 * t + 18) + 2) (M8 f g).y /\ Rb (2 * (t + u) + 16) (M8 f g).t := by
 obtain ⟨a, b⟩ := b8N (c := ⟨g.x, g.y⟩) hx hy ht hc1 hc2 h1 h2 h3
 exact ⟨a, b, b6t (U3 ht h2) (U3 hu h4)⟩
def tB : Nat -> Nat
 | 0 => 8
 | n + 1 => 2 * (2 * (tB n + 2097664) + 16 + 8) + 16
def xB : Nat -> Nat
 | 0 => 8
 | n + 1 => xB n + 2 * (8 + 4 * tB n + 18) + 2 + 2 * (8 + 4 * (2 * (tB n + 2097664) + 16) + 18) + 2
theorem a8H {i : Nat} (h : i <= 3) : 8 <= tB i /\ 8 <= xB i /\ tB i <= 176205632 /\ xB i <= 1308956300 := by
 have : i = 0 \/ i = 1 \/ i = 2 \/ i = 3 := by omega
 rcases this with rfl | rfl | rfl | rfl <;> decide
theorem b_lt {i : Nat} (h : i < 3) : 2 * (tB i + 2097664) + 16 <= 88102800 /\ xB i + 2 * (8 + 4 * tB i + 18) + 2 <= 604133846 := by
 have : i = 0 \/ i = 1 \/ i = 2 := by omega
 rcases this with rfl | rfl | rfl <;> decide
def Fx (i : Nat) (f : Fr) : Prop := Rb (xB i) f.x /\ Rb (xB i) f.y /\ Rb (tB i) f.t
theorem a6y {e : Fr} {i : Nat} {q : Nm.Rt} (he : Fx i e) (hi : i < 3) (hq : Rb 2097664 q) : Rb (xB i + 2 * (8 + 4 * tB i + 18) + 2) (M8 e (a0u q)).x /\ Rb (xB i + 2 * (8 + 4 * tB i + 18) + 2) (M8 e (a0u q)).y /\ Rb (2 * (tB i + 2097664) + 16) (M8 e (a0u q)).t := by
 have hb := a8H (show i <= 3 by omega)
 exact a7n he.1 he.2.1 he.2.2 L9 L9 (hq.fit (by decide)) (by omega) (by omega) (by omega) (by decide)
theorem b4i {e : Fr} {i : Nat} {q : Nm.Rt} {l : Lk} (he : Fx i e) (hi : i < 3) (hq : Rb 2097664 q) (hl : Rb 8 l.length) : Fx (i + 1) (M8 (M8 e (a0u q)) (a5l l)) := by
 obtain ⟨h1, h2, h3⟩ := a6y he hi hq
 exact a7n h1 h2 h3 hl L9 L9 (by omega) (by omega) (by omega) (by decide)
theorem b1d {a : Am} (h : J2 a = 0) : Fx 0 a.base /\ ∀ l ∈ a.links, Rb 8 l.length := by
 have hl := (a1B h).2
 unfold J2 at h
 split at h
 ·cases h
 split at h
 ·cases h
 split at h
 ·cases h
 rename_i h1
 have hs : (j4 a.base.x && j4 a.base.y && j4 a.base.t) = true := by
  cases hb : (j4 a.base.x && j4 a.base.y && j4 a.base.t) with
  | true => rfl
  | false => exact absurd (.inr (.inl hb)) h1
 simp only [c1x] at hs
 refine ⟨⟨(a2v hs.1.1).mono (by decide), (a2v hs.1.2).mono (by decide), (a2v hs.2).mono (by decide)⟩, fun l hm => ?_⟩
 have := hl l hm
 unfold T9 at this
 split at this
 ·cases this
 rename_i h2
 have hs2 : (j4 l.length && j4 l.low && j4 l.high && j4 l.speed && j4 l.brake) = true := by
  cases hb : (j4 l.length && j4 l.low && j4 l.high && j4 l.speed && j4 l.brake) with
  | true => rfl
  | false => exact absurd (.inl hb) h2
 simp only [c1x] at hs2
 exact (a2v hs2.1.1.1.1).mono (by decide)
theorem b4c : ∀ (z : List (Lk × Nm.Rt)) (e : Fr) (i : Nat), Fx i e -> i + z.length <= 3 -> (∀ y ∈ z, Rb 8 y.1.length /\ Rb 2097664 y.2) -> Fx (i + z.length) (a1W e z)
 | [], e, i, he, _, _ => he
 | (l, q) :: r, e, i, he, hi, hz => by
  simp only [c1J] at hi
  have h1 := b4i (l := l) he (by omega) (hz (l, q) (by simp)).2 (hz (l, q) (by simp)).1
  have h2 := b4c r _ (i + 1) h1 (by omega) fun y hy => hz y (by simp [hy])
  simp only [a1W, c1J]
  rwa [show i + 1 + r.length = i + (r.length + 1) by omega] at h2
theorem b1v (a : Am) (q : List Nm.Rt) (hl : Ab 1073741824 a) (ha : J2 a = 0) (hql : q.length = a.links.length) (hq : ∀ r ∈ q, Rb 2097664 r) : FZ 220 [a.c, rts q] (.tup [frs (a0s a.base (a.links.zip q)), ints 0]) := by
 refine kW Tryz.func220 (by cbv) (by rfl) fun w O hw => ?_
 have h := b5Y a q.length hl
 rw [b9l ha (by omega)] at h
 have hz := a7v
 have ht := a4T (Nm.ofQ 0) (L9.mono (by decide))
 rw [Nm.F7] at ht
 obtain ⟨fb, lb⟩ := b1d ha
 have hn3 := (a1h ha).2
 have hn := hl.2.2.1
 obtain ⟨name, base, links⟩ := a
 simp only at hql fb lb hn3 hn ⊢
 have t1 := fun (e : Fr) (i : Nat) (l : Lk) (r : Nm.Rt) (he : Fx i e) (hi : i < 3) (hr : Rb 2097664 r) => a8K e (a0u r) (he.1.mono (by have := a8H (show i <= 3 by omega); omega)) (he.2.1.mono (by have := a8H (show i <= 3 by omega); omega)) (he.2.2.mono (by have := a8H (show i <= 3 by omega); omega)) (L9.mono (by decide)) (L9.mono (by decide)) ((hr.fit (by decide)).mono (by decide))
 have t2 := fun (e : Fr) (i : Nat) (l : Lk) (r : Nm.Rt) (he : Fx i e) (hi : i < 3) (hr : Rb 2097664 r) (hl : Rb 8 l.length) => a8K (M8 e (a0u r)) (a5l l) ((a6y he hi hr).1.mono (by have := b_lt hi; omega)) ((a6y he hi hr).2.1.mono (by have := b_lt hi; omega)) ((a6y he hi hr).2.2.mono (by have := b_lt hi; omega)) (hl.mono (by decide)) (L9.mono (by decide)) (L9.mono (by decide))
 simp only [j5]
 unfold rq at hz
 unfold tq at ht
 have hj : ∀ r, a0u r = ⟨Nm.ofQ 0, Nm.ofQ 0, false, Nm.ofQ (Nm.d9 r)⟩ := fun _ => rfl
 have hlg : ∀ l : Lk, a5l l = ⟨l.length, Nm.ofQ 0, false, Nm.ofQ 0⟩ := fun _ => rfl
 generalize Nm.ofQ 0 = z at *
 simp only [Am.c, Am.enc, lks, rts, rc, tc, sb, ints] at h hz ht ⊢
 (repeat first | refine uA ?_ | (refine uK ?_ ?_; focus first | omega | (intros; simp_all <;> omega)) | simp (disch := omega) only [go_sem, Nat.reduceBEq, Nat.reduceAdd, ww, c1m] | (refine uD h ?_ ?_ ?_; exact tz hw; exact rfl))
 refine S.cond rfl (fun hc => by simp at hc) (fun hc => ?_)
 (repeat first | refine uA ?_ | (refine uK ?_ ?_; focus first | omega | (intros; simp_all <;> omega)) | simp (disch := omega) only [go_sem, Nat.reduceBEq, Nat.reduceAdd, ww, c1m] | (refine uD hz ?_ ?_ ?_; exact tz hw; exact rfl) | (refine uD ht ?_ ?_ ?_; exact tz hw; exact rfl))
 refine S.loop (X := Nat × Fr × List Fr) (fun x => ⟨[(1, rts q), (7, .bp 1 0), (8, .bp 2 0), (9, .bp 3 0), (10, .rv 4), (29, lks links), (30, ints links.length), (31, ints x.1)], [.gone, .box 55 x.2.1.enc, .box 51 [.v (.bool z.neg), sb z.num, sb z.den, .v (.bool z.neg), sb z.num, sb z.den], .box 53 [.v (.bool false), .v (.bool z.neg), sb z.num, sb z.den], .row 55 10 (x.2.2.map Fr.enc)]⟩)
  (fun x => x.1 <= links.length /\ x.2.2.length = x.1 /\ a0s base (links.zip q) = x.2.2 ++ a0s x.2.1 ((links.zip q).drop x.1) /\ Fx x.1 x.2.1) (fun x => links.length - x.1) (0, base, []) ⟨c1s _, rfl, rfl, fb⟩ (Ent.trans (Ent.pack 10 55 10 rfl) (by simp only [Fr.enc, sb]; exact (by (repeat first | refine uA ?_ | (refine ⟨?_, ?_⟩; focus first | rfl | simp [slot]) | rfl | simp)))) ?_
 rintro ⟨i, e, outs⟩ ⟨hi, ho, hg, hF⟩
 simp only at hi ho hg hF
 simp only [rts, lks, sb, ints, Fr.enc]
 (repeat first | refine uA ?_ | (refine uK ?_ ?_; focus first | omega | (intros; simp_all <;> omega)) | simp (disch := omega) only [go_sem, Nat.reduceBEq, Nat.reduceAdd, ww])
 (refine uJ rfl (fun hc => ?_) fun hc => ?_)
 ·have hi' : i < links.length := by omega
  have hgl := c1l hi'
  have hgq := c1l (show i < q.length by omega)
  generalize links[i] = l at hgl
  generalize q[i]'_ = r at hgq
  have hr := hq r (c1o hgq)
  have hb := lb l (c1o hgl)
  have k1 := t1 e i l r hF (by omega) hr
  have k2 := t2 e i l r hF (by omega) hr hb
  have k3 := a4T r (hr.mono (by decide))
  have hF' := b4i (l := l) hF (by omega) hr hb
  rw [drop_at (H7 hgl hgq), a0s] at hg
  unfold tq at k3
  generalize M8 (M8 e (a0u r)) (a5l l) = e2 at *
  generalize M8 e (a0u r) = f at *
  rw [hj] at k1
  rw [hlg] at k2
  generalize Nm.ofQ (Nm.d9 r) = y at *
  have hqi : (i : Int) < q.length := by omega
  simp only [Fr.c, Fr.enc, rc, tc, sb] at k1 k2 k3
  (repeat first | refine uA ?_ | (refine uK ?_ ?_; focus first | omega | (intros; simp_all <;> omega)) | simp (disch := omega) only [go_sem, Nat.reduceBEq, Nat.reduceAdd, ww, hgl, hgq, c1n, c1m, Lk.enc, rcs, vts, sb, ho, c1q] | (refine uD hz ?_ ?_ ?_; exact tz hw; exact rfl) | (refine uD k1 ?_ ?_ ?_; exact tz hw; exact rfl) | (refine uD k2 ?_ ?_ ?_; exact tz hw; exact rfl) | (refine uD k3 ?_ ?_ ?_; exact tz hw; exact rfl))
  refine S.next (x := (i, e, outs)) (i + 1, e2, outs ++ [f]) ⟨by simp only; omega, by simp only [c1p, ho]; rfl, by simp only; rw [hg, c1P]; rfl, hF'⟩ (by simp only; omega) (by simp only [c2d, c1F, c1L, Fr.enc, sb]; exact (by (repeat first | refine uA ?_ | (refine ⟨?_, ?_⟩; focus first | rfl | simp [slot]) | rfl | simp)))
 ·rw [List.drop_eq_nil_of_le (by rw [List.length_zip]; omega), a0s] at hg
  rw [hg]
  (repeat first | refine uA ?_ | (refine uK ?_ ?_; focus first | omega | (intros; simp_all <;> omega)) | simp (disch := omega) only [go_sem, Nat.reduceBEq, Nat.reduceAdd, ww, c1m])
  simp only [frs, c2d, c1F, c1L, Fr.enc, sb]
  (refine S.done ?_; simp only [p9, l7, go_sem, Nat.reduceBEq, Nat.reduceAdd, Nat.reduceLeDiff, Int.reduceToNat, Int.reducePow]; (repeat (refine ⟨?_, ?_⟩; focus first | trivial | omega | simp)); exact j3.out rfl (Imp.tup (by (repeat' (first | exact l6.nil | exact Imp.refl rfl | exact Imp.frz rfl rfl rfl | exact Imp.K4 | refine Imp.agg ?_ | refine l6.cons ?_ ?_)))) rfl)
theorem b7A (a : Am) (q : List Nm.Rt) (hl : Ab 1073741824 a) (ha : J2 a = 0) (hql : q.length = a.links.length) (hq : ∀ r ∈ q, Rb 2097664 r) : FZ 165 [a.c, rts q] (.tup [(a1W a.base (a.links.zip q)).c, ints 0]) := by
 refine kW Tryz.func165 (by cbv) (by rfl) fun w O hw => ?_
 have h := b1v a q hl ha hql hq
 obtain ⟨h1, h2⟩ := a4r (a.links.zip q) a.base
 have hn : (a.links.zip q).length <= 1073741824 := by rw [List.length_zip]; have := hl.2.2.1; omega
 generalize a0s a.base (a.links.zip q) = L at *
 generalize a1W a.base (a.links.zip q) = T at *
 generalize (a.links.zip q).length = n at *
 obtain ⟨name, base, links⟩ := a
 simp only [j5]
 simp only [Am.c, Am.enc, lks, rts, frs, Fr.c, Fr.enc, sb, ints] at h ⊢
 have e1 : ((L.length : Int) - 1) = (n : Int) := by omega
 have e2 : (n : Int) < L.length := by omega
 (repeat first | refine uA ?_ | (refine uK ?_ ?_; focus first | omega | (intros; simp_all <;> omega)) | simp (disch := omega) only [go_sem, Nat.reduceBEq, Nat.reduceAdd, ww] | (refine uD h ?_ ?_ ?_; exact tz hw; exact rfl))
 refine S.cond rfl (fun hc => by simp at hc) (fun hc => ?_)
 (repeat first | refine uA ?_ | (refine uK ?_ ?_; focus first | omega | (intros; simp_all <;> omega)) | simp (disch := omega) only [go_sem, Nat.reduceBEq, Nat.reduceAdd, ww, c1m, e1, h1, c1n, Fr.enc, sb, c1q])
 (refine S.done ?_; simp only [p9, l7, go_sem, Nat.reduceBEq, Nat.reduceAdd, Nat.reduceLeDiff, Int.reduceToNat, Int.reducePow]; (repeat (refine ⟨?_, ?_⟩; focus first | trivial | omega | simp)); exact j3.out rfl (Imp.tup (by (repeat' (first | exact l6.nil | exact Imp.refl rfl | exact Imp.frz rfl rfl rfl | exact Imp.K4 | refine Imp.agg ?_ | refine l6.cons ?_ ?_)))) rfl)
theorem b4P {f : Fr} (h : Fb 1048576 f) : Rb 268435456 (a0O f).x /\ Rb 268435456 (a0O f).y /\ Rb 268435456 (a0O f).t := by
 obtain ⟨c1, c2, c3⟩ := h
 have s1 := (P5 L9 (c1.fit (by decide)))
 have s2 := (P5 L9 (c2.fit (by decide)))
 have s3 := a6B (U3 (h := f.half) c3 (by decide))
 have g1 := a7P f.half (U3 (h := f.half) s3 (by decide))
 have g2 := a8f (U3 (h := f.half) s3 (by decide))
 have s4 := s1.fit (by decide)
 have s5 := s2.fit (by decide)
 unfold a0O
 exact ⟨(P5 (J3 s4 g1) (J3 s5 g2)).mono (by decide), (O6 (J3 s4 g2) (J3 s5 g1)).mono (by decide), s3.mono (by decide)⟩
theorem a8X {w : Wk} {n : Nat} {q : List Nm.Rt} {a : Am} {p : Nat} {pt : Pt} (hwb : Wb 1048576 w) (ga : w.arms[n]? = some a) (gp : w.parts[p]? = some pt) (ha : J2 a = 0) (hql : q.length = a.links.length) (hq : ∀ r ∈ q, Rb 2097664 r) : FZ 217 [(a1W a.base (a.links.zip q)).c, (a0O pt.grasp).c] (M8 (a1W a.base (a.links.zip q)) (a0O pt.grasp)).c := by
 have hb := hwb.parts.2 pt (c1o gp)
 obtain ⟨fb, lb⟩ := b1d ha
 have ht := b4c (a.links.zip q) a.base 0 fb (by have := (a1h ha).2; rw [List.length_zip]; omega) fun y hy => ⟨lb _ (List.of_mem_zip hy).1, hq _ (List.of_mem_zip hy).2⟩
 have hc := a8H (show 0 + (a.links.zip q).length <= 3 by have := (a1h ha).2; rw [List.length_zip]; omega)
 have hk := b4P hb.2.2
 exact a8K (a1W a.base (a.links.zip q)) (a0O pt.grasp) (ht.1.mono (by omega)) (ht.2.1.mono (by omega)) (ht.2.2.mono (by omega)) hk.1 hk.2.1 hk.2.2
theorem b5g (w : Wk) (n : Nat) (x : Ast) (a : Am) (p : Nat) (pt : Pt) (hwb : Wb 1048576 w) (ga : w.arms[n]? = some a) (gp : w.parts[p]? = some pt) (hx : x.holds = p) (ha : J2 a = 0) (hql : x.q.length = a.links.length) (hq : ∀ r ∈ x.q, Rb 2097664 r) :
  FZ 160 [w.c, .v (.int .i64 (n : Int)), x.c] (.tup [(a1j a x.q pt.grasp).c, ints 0]) := by
 refine kW Tryz.func160 (by cbv) (by rfl) fun w' O hw => ?_
 obtain ⟨n1, b1⟩ := hwb.arms
 obtain ⟨n2, b2⟩ := hwb.parts
 have h1 := b7A a x.q ((b1 a (c1o ga)).mono (by decide)) ha hql hq
 have h2 := b2z pt.grasp (b2 pt (c1o gp)).2.2
 have h3 := a8X hwb ga gp ha hql hq
 unfold a1j
 have na := (c1u.1 ga).1
 have np := (c1u.1 gp).1
 generalize a1W a.base (a.links.zip x.q) = T at *
 generalize M8 T (a0O pt.grasp) = R at *
 generalize a0O pt.grasp = B at *
 obtain ⟨q, v, power, holds⟩ := x
 obtain ⟨arms, walls, parts, slots, gates, walk⟩ := w
 simp only at ga gp na np hx h1 ⊢
 subst hx
 have na' : (n : Int) < arms.length := by omega
 have np' : (p : Int) < parts.length := by omega
 simp only [j5]
 simp only [Wk.c, Wk.enc, Am.c, Am.enc, Ast.c, Ast.enc, Fr.c, Fr.enc, ams, wls, pts, sls, gts, lks, rts, sb, ints] at h1 h2 h3 ⊢
 (repeat first | refine uA ?_ | (refine uK ?_ ?_; focus first | omega | (intros; simp_all <;> omega)) | simp (disch := omega) only [go_sem, Nat.reduceBEq, Nat.reduceAdd, ww, ga, c1n, c1m, Am.enc, lks, sb, c1q] | (refine uD h1 ?_ ?_ ?_; exact tz hw; exact rfl))
 refine S.cond rfl (fun hc => by simp at hc) (fun hc => ?_)
 (repeat first | refine uA ?_ | (refine uK ?_ ?_; focus first | omega | (intros; simp_all <;> omega)) | simp (disch := omega) only [go_sem, Nat.reduceBEq, Nat.reduceAdd, ww, gp, c1n, c1m, Pt.enc, vts, sb, c1q] | (refine uD h2 ?_ ?_ ?_; exact tz hw; exact rfl) | (refine uD h3 ?_ ?_ ?_; exact tz hw; exact rfl))
 (refine S.done ?_; simp only [p9, l7, go_sem, Nat.reduceBEq, Nat.reduceAdd, Nat.reduceLeDiff, Int.reduceToNat, Int.reducePow]; (repeat (refine ⟨?_, ?_⟩; focus first | trivial | omega | simp)); exact j3.out rfl (Imp.tup (by (repeat' (first | exact l6.nil | exact Imp.refl rfl | exact Imp.frz rfl rfl rfl | exact Imp.K4 | refine Imp.agg ?_ | refine l6.cons ?_ ?_)))) rfl)
set_option maxHeartbeats 16000000
def a6v : List C := [.v (.int .i64 0), .v (.slice none 0 0), .v (.slice none 0 0), .v (.slice none 0 0), .v (.slice none 0 0)]
def c0m (v : Vt) (z : Gt) : Prop := Nm.q9 (Nm.d9 v.x) (Nm.d9 z.low.x) < 0 \/ 0 < Nm.q9 (Nm.d9 v.x) (Nm.d9 z.high.x) \/ Nm.q9 (Nm.d9 v.y) (Nm.d9 z.low.y) < 0 \/ 0 < Nm.q9 (Nm.d9 v.y) (Nm.d9 z.high.y)
instance (v : Vt) (z : Gt) : Decidable (c0m v z) := by unfold c0m; infer_instance
def c0v : List Nat := [63, 68, 149]
def c0e (f : Nat) : Bool := c0v.contains f
theorem b8f {E : Ctx} (hP : E.P = Tryz.prog) (s : Stt) (hs : Stb 1073741824 s) :
  l8 E [] 42 [s.c] (.agg [ints s.tick, .rv 5, .rv 2, .rv 3, bls s.gates]) [.gone, .gone, .row 55 10 (s.parts.map Fr.enc), .row 51 6 (s.people.map Vt.enc), .gone, .row 90 4 (s.arms.map Ast.enc)] [] := by
 obtain ⟨P, eff', N, w0, own0, av0, nu0, pk0⟩ := E
 simp only at hP
 subst hP
 refine l8.of (eff := c0e) Tryz.func42 (by cbv) (by exact c1E rfl) fun w own av ν hν => ?_
 have hν0 : ν.length <= 0 := by rw [hν]; exact c1w _
 obtain ⟨⟨n1, b1⟩, ⟨n2, b2⟩, ⟨n3, b3⟩, n4⟩ := hs
 obtain ⟨tick, arms, parts, people, gates⟩ := s
 simp only at n1 b1 n2 n3 n4 ⊢
 have c1 := a7V (parts.map Fr.enc) (by rw [c1m]; exact n2)
 have c2 := b0H (people.map Vt.enc) (by rw [c1m]; exact n3)
 have c3 := (a9i (gates.map fun b => [.v (.bool b)]) (by rw [c1m]; exact n4)).spec
 simp only [j5]
 simp only [Stt.c, Stt.enc, E8, frs, vts, bls, ints]
 (repeat first | refine uI ?_ | (refine uK ?_ ?_; focus first | omega | (intros; simp_all <;> omega)) | simp (disch := omega) only [go_sem, Nat.reduceBEq, Nat.reduceAdd, ww])
 refine S.H6 [.box 37 [.v (.int .i64 tick), .sl 4 (arms.map Ast.enc), .sl 10 (parts.map Fr.enc), .sl 6 (people.map Vt.enc), .sl 1 (gates.map fun b => [.v (.bool b)])]] (by simp [Eng.F3, Eng.X0]) ?_
 (repeat first | refine uA ?_ | (refine uK ?_ ?_; focus first | omega | (intros; simp_all <;> omega)) | simp (disch := omega) only [go_sem, Nat.reduceBEq, Nat.reduceAdd, ww, F3, c1m] | refine l9.t (FNew.t c1 rfl) ?_ | refine l9.t (FNew.t c2 rfl) ?_ | (refine uB c3 ?_ ?_; exact rfl))
 refine S.loop (X := Nat) (fun i => ⟨[(2, .bp 1 0), (3, .bp 4 0), (19, E8 arms), (20, ints arms.length), (21, ints i)], [.gone, .box 37 [.v (.int .i64 0), .v (.slice none 0 0), .v (.slice none 0 0), .v (.slice none 0 0), .v (.slice none 0 0)], .row 55 10 (parts.map Fr.enc), .row 51 6 (people.map Vt.enc), .box 37 [ints tick, .rv 5, .rv 2, .rv 3, bls gates], .row 90 4 ((arms.take i).map Ast.enc)]⟩) (fun i => i <= arms.length) (fun i => arms.length - i) 0 (c1s _)
  (Ent.trans (Ent.a1q 4 1 90 4 rfl rfl rfl) (by (repeat first | refine uA ?_ | (refine ⟨?_, ?_⟩; focus first | rfl | simp [slot]) | rfl | simp | exact c1t hν0 (by simp)))) ?_
 intro i hi
 simp only [E8, bls, ints]
 (repeat first | refine uA ?_ | (refine uK ?_ ?_; focus first | omega | (intros; simp_all <;> omega)) | simp (disch := omega) only [go_sem, Nat.reduceBEq, Nat.reduceAdd, ww])
 (refine uJ rfl (fun hc => ?_) fun hc => ?_)
 ·have hi' : i < arms.length := by omega
  have hgi := c1l hi'
  have hap : arms.take (i + 1) = arms.take i ++ [arms[i]] := c2c hi'
  generalize arms[i] = x at hgi hap
  obtain ⟨⟨q1, _⟩, ⟨q2, _⟩⟩ := b1 x (c1o hgi)
  have e1 := (a2c (x.q.map rcs) (by rw [c1m]; exact q1)).spec
  have e2 := (a2c (x.v.map rcs) (by rw [c1m]; exact q2)).spec
  have htl : (arms.take i).length = i := by rw [c1z]; omega
  (repeat first | refine uA ?_ | (refine uK ?_ ?_; focus first | omega | (intros; simp_all <;> omega)) | simp (disch := omega) only [go_sem, Nat.reduceBEq, Nat.reduceAdd, ww, hgi, c1n, c1m, Ast.enc, rts, ints, htl] | (refine uB e1 ?_ ?_; exact rfl) | (refine uB e2 ?_ ?_; exact rfl))
  refine S.next (i + 1) (by omega) (by omega) (by simp only [hap, c2d, c1F, c1L, Ast.enc, rts, ints]; exact (by (repeat first | refine uA ?_ | (refine ⟨?_, ?_⟩; focus first | rfl | simp [slot]) | rfl | simp | exact c1t hν0 (by simp))))
 ·have hi' : i = arms.length := by omega
  subst hi'
  rw [c1I]
  (repeat first | refine uA ?_ | (refine uK ?_ ?_; focus first | omega | (intros; simp_all <;> omega)) | simp (disch := omega) only [go_sem, Nat.reduceBEq, Nat.reduceAdd, ww])
  (refine S.done ?_; simp only [p9, l7, go_sem, Nat.reduceBEq, Nat.reduceAdd, Nat.reduceLeDiff, Int.reduceToNat, Int.reducePow]; (repeat (refine ⟨?_, ?_⟩; focus first | trivial | omega | simp)); exact j3.N7 (Imp.agg (by (repeat' (first | exact l6.nil | exact Imp.refl rfl | exact Imp.frz rfl rfl rfl | exact Imp.K4 | refine l6.cons ?_ ?_)))) (by (repeat first | refine uA ?_ | (refine ⟨?_, ?_⟩; focus first | rfl | simp [slot]) | rfl | simp)) (c1t hν0 (by simp)))
def wss (u : List (List Nm.Rt)) : C := .sl 1 (u.map fun l => [rts l])
def Wsb (k : Nat) (u : List (List Nm.Rt)) : Prop := u.length <= k /\ ∀ l ∈ u, Rbs k l
theorem b8P (a b k : Rat) : 0 < Nm.q9 (a1a a b) k <-> 0 < Nm.q9 a k \/ 0 < Nm.q9 b k := by
 unfold a1a
 have h := a1E a b
 rw [U1, U1]
 split
 ·rw [U1]
  have : ¬ a < b := fun h2 => by have := h.2 h2; omega
  grind
 ·rw [U1]
  have : a < b := h.1 (by omega)
  grind
theorem a6c {k m n : Nat} {a b : Nm.Rt} (ha : Rb k a) (hb : Rb m b) (h1 : 1 <= k) (h2 : 1 <= m) (hn : k + m + 1 <= n) : Rb n (a1N a b) := (O6 (ha.fit h1) (hb.fit h2)).mono hn
theorem b3r {l : Lk} (h : T9 l = 0) : Rb 8 l.brake := by
 unfold T9 at h
 split at h
 ·cases h
 rename_i h2
 have hs2 : (j4 l.length && j4 l.low && j4 l.high && j4 l.speed && j4 l.brake) = true := by
  cases hb : (j4 l.length && j4 l.low && j4 l.high && j4 l.speed && j4 l.brake) with
  | true => rfl
  | false => exact absurd (.inl hb) h2
 simp only [c1x] at hs2
 exact (a2v hs2.2).mono (by decide)
theorem b4b {α β γ : Type} {f : α × β -> γ} {l : List α} {m : List β} {z : γ} (h : z ∈ (l.zip m).map f) : ∃ a ∈ l, ∃ b ∈ m, z = f (a, b) := by
 obtain ⟨⟨a, b⟩, hm, rfl⟩ := List.mem_map.1 h
 exact ⟨a, (List.of_mem_zip hm).1, b, (List.of_mem_zip hm).2, rfl⟩
theorem b0F {a : Am} {x : Ast} {u : List Nm.Rt} {p : Bool} (ha : J2 a = 0) (hx : Asb 1048576 x) (hu : ∀ r ∈ u, Rb 1048576 r) : (∀ r ∈ (a0x a x u p).q, Rb 2097664 r) /\ ∀ r ∈ (a0x a x u p).v, Rb 2097664 r := by
 have hv : ∀ r ∈ a2g a x, Rb 1048585 r := fun r hr => by
  obtain ⟨l, hl, v, hv, rfl⟩ := b4b hr
  have h1 := hx.2.2 v hv
  have h2 := b3r ((a1B ha).2 l hl)
  unfold Z5
  split
  ·exact L9.mono (by decide)
  split
  ·exact a6c h1 h2 (by decide) (by decide) (by decide)
  ·exact (P5 (h1.fit (by decide)) (h2.fit (by decide))).mono (by decide)
 unfold a0x
 split
 ·refine ⟨fun r hr => ?_, fun r hr => (hu r hr).mono (by decide)⟩
  obtain ⟨q, hq, v, hv, rfl⟩ := b4b (show r ∈ mvQ x u from hr)
  exact a6c (hx.1.2 q hq) (hu v hv) (by decide) (by decide) (by decide)
 ·refine ⟨fun r hr => ?_, fun r hr => (hv r hr).mono (by decide)⟩
  obtain ⟨q, hq, v, hv', rfl⟩ := b4b (show r ∈ a3N a x from hr)
  exact a6c (hx.1.2 q hq) (hv v hv') (by decide) (by decide) (by decide)
theorem b7v (w : Wk) (P : List Fr) (z : Am × Ast) : (a4u w P z).length = P.length := by
 unfold a4u
 split
 ·rfl
 ·split
  ·simp
  ·rfl
theorem a4U (w : Wk) : ∀ (l : List (Am × Ast)) (P : List Fr), (l.foldl (a4u w) P).length = P.length
 | [], _ => rfl
 | z :: l, P => by rw [List.foldl_cons, a4U w l, b7v]
theorem fold_at {α β : Type} {f : β -> α -> β} {l : List α} {i : Nat} {x : α} (h : l[i]? = some x) (b : β) : (l.take (i + 1)).foldl f b = f ((l.take i).foldl f b) x := by
 rw [take_at h, List.foldl_append]; rfl
theorem b7l {w : Wk} {s : Stt} {u : List (List Nm.Rt)} {p : List Bool} {v : List Vt} (h : V4 w s u p v = 0) : R7 w s = 0 /\ u.length = w.arms.length /\ p.length = w.arms.length /\ v.length = s.people.length /\ v.all (a0M w.walk) = true /\ s.tick ≠ 2000 := by
 unfold V4 at h
 split at h
 ·rename_i h1; exact absurd h h1
 split at h
 ·cases h
 split at h
 ·cases h
 rename_i h1 h2 h3
 split at h
 ·cases h
 exact ⟨Classical.not_not.1 h1, by omega, by omega, by omega, by simpa using h3, by assumption⟩
def a3I : a0W := ⟨173, [.cell 10 true 5, .tmp 11], .seq (.reg [OA 5 (.box 31 (TT 0)), OA 6 (.box 37 (TT 1)), OA 10 (.alloc 37 [.int .i64 0, .slice none 0 0, .slice none 0 0, .slice none 0 0, .slice none 0 0]), OA 11 (.mv (II 0))]) (.seq (.seq
 (.reg [LL 22 8 5, LL 23 5 6, OA 24 (.call 38 [TT 22, TT 23]), MM 12 24]) (.seq (.reg [MM 25 12, OA 26 (.bin .neq (TT 25) (II 0))]) (.cond (TT 26) (.seq (.reg [OA 27 (.build [.int .i64 0, .slice none 0 0, .slice none 0 0, .slice
 none 0 0, .slice none 0 0] []), MM 28 12, OB (.store 5 (TT 10) (TT 27)), MM 11 28]) .ret) .skip))) (.seq (.seq (.reg [MM 29 2, OA 30 (.len false (TT 29)), FF 31 0 5, VV 32 31, OA 33 (.len false (TT 32)), OA 34 (.bin .neq (TT 30)
 (TT 33)), MM 35 34, MG 36 3 35 false, OC 37 (.len false (TT 36)) 35 false, FG 38 0 5 35 false, VG 39 38 35 false, OC 40 (.len false (TT 39)) 35 false, OC 41 (.bin .neq (TT 37) (TT 40)) 35 false, OA 42 (.pick (TT 35) (.const
 (.bool true)) (TT 41)), MM 43 42, MG 44 4 43 false, OC 45 (.len false (TT 44)) 43 false, FG 46 3 6 43 false, VG 47 46 43 false, OC 48 (.len false (TT 47)) 43 false, OC 49 (.bin .neq (TT 45) (TT 48)) 43 false, OA 50 (.pick (TT
 43) (.const (.bool true)) (TT 49))]) (.cond (TT 50) (.seq (.reg [OA 51 (.build [.int .i64 0, .slice none 0 0, .slice none 0 0, .slice none 0 0, .slice none 0 0] []), OB (.store 5 (TT 10) (TT 51)), OA 11 (.mv (II 1))]) .ret)
 .skip)) (.seq (.seq (.reg [MM 52 4, OA 53 (.len false (TT 52)), OA 54 (.mv (II 0))]) (.block 0 (.loop (.seq (.reg [OA 55 (.bin .lss (TT 54) (TT 53))]) (.seq (.cond (TT 55) .skip (.exit 0)) (.seq (.block 1 (.seq (.reg [OA 56
 (.A9 6 (TT 52) (TT 54)), LL 57 6 56, OA 14 (.alloc 51 [.bool false, .string ⟨#[]⟩, .string ⟨#[]⟩, .bool false, .string ⟨#[]⟩, .string ⟨#[]⟩]), OB (.store 6 (TT 14) (TT 57))]) (.seq (.H6 [.q, .q, .q, .q, .q, .q, .q, .q, .q,
 .q, .q, .q, .q, .q, .q, .q, .q, .q, .q, .q, .q, .q, .q, .q, .q, .q, .q, .q] [FF 58 0 14, LL 59 3 58, OA 60 (.call 62 [TT 59]), OA 61 (.un .not (TT 60)), MM 62 61, FG 63 3 14 62 false, LG 64 3 63 62 false, OC 65 (.call 62 [TT
 64]) 62 false, OC 66 (.un .not (TT 65)) 62 false, OA 67 (.pick (TT 62) (.const (.bool true)) (TT 66)), MM 68 67, FG 69 0 14 68 false, LG 70 3 69 68 false, OC 71 (.call 75 [TT 70]) 68 false, FG 72 5 5 68 false, LG 73 3 72 68
 false, OC 74 (.call 52 [TT 71, TT 73]) 68 false, OC 75 (.bin .gtr (TT 74) (II 0)) 68 false, OA 76 (.pick (TT 68) (.const (.bool true)) (TT 75)), MM 77 76, FG 78 3 14 77 false, LG 79 3 78 77 false, OC 80 (.call 75 [TT 79]) 77
 false, FG 81 5 5 77 false, LG 82 3 81 77 false, OC 83 (.call 52 [TT 80, TT 82]) 77 false, OC 84 (.bin .gtr (TT 83) (II 0)) 77 false, OA 85 (.pick (TT 77) (.const (.bool true)) (TT 84))]) (.cond (TT 85) (.seq (.reg [OA 86 (.build
 [.int .i64 0, .slice none 0 0, .slice none 0 0, .slice none 0 0, .slice none 0 0] []), OB (.store 5 (TT 10) (TT 86)), OA 11 (.mv (II 1))]) .ret) .skip)))) (.reg [OA 87 (.bin .add (TT 54) (II 1)), MM 54 87]))))))) (.seq (.seq
 (.reg [FF 88 0 6, VV 89 88, OA 90 (.bin .eql (TT 89) (II 2000))]) (.cond (TT 90) (.seq (.reg [OA 91 (.build [.int .i64 0, .slice none 0 0, .slice none 0 0, .slice none 0 0, .slice none 0 0] []), OB (.store 5 (TT 10) (TT 91)), OA
 11 (.mv (II 7))]) .ret) .skip)) (.seq (.reg [LL 92 5 6, OA 93 (.call 42 [TT 92]), OA 15 (.alloc 37 [.int .i64 0, .slice none 0 0, .slice none 0 0, .slice none 0 0, .slice none 0 0]), OB (.store 5 (TT 15) (TT 93))]) (.seq (.reg
 [FF 94 0 15, VV 95 94, OA 96 (.bin .add (TT 95) (II 1)), FF 97 0 15, OB (.store 1 (TT 97) (TT 96))]) (.seq (.seq (.reg [FF 98 0 5, VV 99 98, OA 100 (.len false (TT 99)), OA 101 (.mv (II 0))]) (.block 2 (.loop (.seq (.reg [OA 102
 (.bin .lss (TT 101) (TT 100))]) (.seq (.cond (TT 102) .skip (.exit 2)) (.seq (.block 3 (.seq (.reg [MM 103 101, OA 104 (.A9 12 (TT 99) (TT 101)), LL 105 12 104, OA 17 (.alloc 76 [.string ⟨#[]⟩, .bool false, .string ⟨#[]⟩,
 .string ⟨#[]⟩, .bool false, .string ⟨#[]⟩, .string ⟨#[]⟩, .bool false, .bool false, .string ⟨#[]⟩, .string ⟨#[]⟩, .slice none 0 0]), MM 16 103, OB (.store 12 (TT 17) (TT 105))]) (.seq (.H6 [.q, .q, .q, .q, .q, .q, .q, .q, .q,
 .q, .q, .q, .q, .q, .q, .q, .q, .l, .a, .e (some 18) false, .q] [LL 107 12 17, FF 108 1 6, VV 109 108, MM 110 16, OA 111 (.A9 4 (TT 109) (TT 110)), LL 112 4 111, MM 113 2, MM 114 16, OA 115 (.A9 1 (TT 113) (TT 114)), VV
 116 115, MM 117 3, MM 118 16, OA 119 (.A9 1 (TT 117) (TT 118)), VV 120 119, OA 121 (.call 159 [TT 107, TT 112, TT 116, TT 120]), MM 106 121, OA 122 (.ext (TT 106) 0), OA 123 (.ext (TT 106) 1), OA 18 (.alloc 90 [.slice none 0
 0, .slice none 0 0, .bool false, .int .i64 0]), OB (.store 4 (TT 18) (TT 122)), MM 19 123]) (.seq (.seq (.reg [MM 124 19, OA 125 (.bin .neq (TT 124) (II 0))]) (.cond (TT 125) (.seq (.reg [OA 126 (.build [.int .i64 0, .slice none
 0 0, .slice none 0 0, .slice none 0 0, .slice none 0 0] []), MM 127 19, OB (.store 5 (TT 10) (TT 126)), MM 11 127]) .ret) .skip)) (.seq (.reg [FF 128 1 15, VV 129 128, MM 130 16, LL 131 4 18, OA 132 (.A9 4 (TT 129) (TT 130)),
 OB (.store 4 (TT 132) (TT 131))]) (.seq (.reg [FF 133 3 18, VV 134 133, OA 135 (.bin .geq (TT 134) (II 0))]) (.cond (TT 135) (.seq (.H6 [.q, .q, .q, .q, .q, .q, .q, .q, .q, .q, .l, .q, .e none false, .q] [FF 137 2 15, VV 138
 137, FF 139 3 18, VV 140 139, LL 141 8 5, MM 142 16, LL 143 4 18, OA 144 (.call 160 [TT 141, TT 142, TT 143]), MM 136 144, OA 145 (.ext (TT 136) 0), OA 146 (.ext (TT 136) 1), OA 147 (.A9 10 (TT 138) (TT 140)), OB (.store 10
 (TT 147) (TT 145)), MM 19 146]) (.seq (.reg [MM 148 19, OA 149 (.bin .neq (TT 148) (II 0))]) (.cond (TT 149) (.seq (.reg [OA 150 (.build [.int .i64 0, .slice none 0 0, .slice none 0 0, .slice none 0 0, .slice none 0 0] []), MM
 151 19, OB (.store 5 (TT 10) (TT 150)), MM 11 151]) .ret) .skip))) .skip))))))) (.reg [OA 152 (.bin .add (TT 101) (II 1)), MM 101 152]))))))) (.seq (.seq (.reg [MM 153 4, OA 154 (.len false (TT 153)), OA 155 (.mv (II 0))])
 (.block 4 (.loop (.seq (.reg [OA 156 (.bin .lss (TT 155) (TT 154))]) (.seq (.cond (TT 156) .skip (.exit 4)) (.seq (.block 5 (.seq (.reg [MM 157 155, OA 158 (.A9 6 (TT 153) (TT 155)), LL 159 6 158, OA 21 (.alloc 51 [.bool
 false, .string ⟨#[]⟩, .string ⟨#[]⟩, .bool false, .string ⟨#[]⟩, .string ⟨#[]⟩]), MM 20 157, OB (.store 6 (TT 21) (TT 159))]) (.H6 [.q, .q, .q, .q, .q, .q, .q, .q, .q, .q, .q, .e none true] [FF 160 3 15, VV 161 160, MM 162 20,
 FF 163 3 6, VV 164 163, MM 165 20, OA 166 (.A9 6 (TT 164) (TT 165)), LL 167 6 166, LL 168 6 21, OA 169 (.call 161 [TT 167, TT 168]), OA 170 (.A9 6 (TT 161) (TT 162)), OB (.store 6 (TT 170) (TT 169))]))) (.reg [OA 171 (.bin
 .add (TT 155) (II 1)), MM 155 171]))))))) (.seq (.reg [LL 172 5 15, OB (.store 5 (TT 10) (TT 172)), OA 11 (.mv (II 0))]) .ret)))))))))⟩
theorem b1y : Z8 eff Tryz.prog Tryz.f56 = some a3I := by kernel_rfl
theorem b0L : Tryz.prog.funcs[56]? = some Tryz.f56 := Tryz.func56
set_option maxHeartbeats 32000000
def a3k (w : Wk) (s : Stt) (u : List (List Nm.Rt)) (p : List Bool) (v : List Vt) : C := if V4 w s u p v = 0 then .tup [(a3c w s u p v).c, ints 0] else .tup [.agg a6v, ints (V4 w s u p v)]
theorem b5B (w : Wk) (s : Stt) (u : List (List Nm.Rt)) (p : List Bool) (v : List Vt) (hwb : Wb 1048576 w) (hs : Stb 1048576 s) (hu : Wsb 1048576 u) (hp : p.length <= 1048576) (hv : Vbs 1048576 v) :
    FZ 56 [w.c, s.c, wss u, bls p, vts v] (a3k w s u p v) := by
  refine kW b0L b1y (by rfl) fun w' O hw => ?_
  have hck := b7r w s (hwb.mono (by decide)) (hs.mono (by decide))
  have hcp := fun (E : Ctx) (hP : E.P = Tryz.prog) => b8f hP s (hs.mono (by decide))
  have n1 := hs.arms.1
  have n2 := hs.parts.1
  have n3 := hs.people.1
  have n4 := hs.gates
  have n5 := hwb.arms.1
  have n6 := hu.1
  have n7 := hv.1
  by_cases h0 : R7 w s = 0
  · have hok := a7r h0
    have hE : V4 w s u p v = if u.length ≠ w.arms.length \/ p.length ≠ w.arms.length \/ v.length ≠ s.people.length then 1 else if v.all (a0M w.walk) = false then 1 else if s.tick = 2000 then 7 else 0 := by
      unfold V4; rw [if_neg (by simpa using h0)]
    have hcar := fun (n : Nat) (x : Ast) (a : Am) (q : Nat) (pt : Pt) => b5g w n x a q pt hwb
    have hone := fun (z : Am × Ast) hz => b0M (hok.one z hz)
    have hbs := hs.arms.2
    have hba := hwb.arms.2
    have hbu := hu.2
    have hbv := hv.2
    have hbp := hs.people.2
    have hkw := hwb.walk
    have hal := a7l (u := u) (p := p) hok.arms
    have hag := @a7o w s u p
    have hpl := a4U w
    have hput : ∀ P z, a4u w P z = if z.2.holds < 0 then P else match w.parts[z.2.holds.toNat]? with | some pt => P.set z.2.holds.toNat (a1j z.1 z.2.q pt.grasp) | none => P := fun _ _ => rfl
    have e1 := hok.arms
    have e2 := hok.parts
    have e3 := hok.tick
    rw [h0] at hck
    unfold a3k a3c
    generalize a2p w s u p = A at *
    generalize a4u w = pP at *
    generalize V4 w s u p v = se at *
    clear hok h0
    obtain ⟨arms, walls, parts, slots, gates, walk⟩ := w
    obtain ⟨tick, sarms, sparts, people, sgates⟩ := s
    simp only at n1 n2 n3 n4 n5 hE hbs hba hbp hkw hal hag hput e1 e2 e3 hone ⊢
    simp only [a3I, j5, TT, II, OA, OB, OC, MM, LL, VV, FF, MG, LG, VG, FG]
    simp only [Wk.c, Wk.enc, Stt.c, Stt.enc, a6v, ams, wls, pts, sls, gts, E8, frs, vts, bls, wss, rts, sb, ints] at hck hcp hcar ⊢
    (repeat first | refine uA ?_ | (refine uK ?_ ?_; focus first | omega | (intros; simp_all <;> omega)) | simp (disch := omega) only [go_sem, Nat.reduceBEq, Nat.reduceAdd, ww] | (refine uD hck ?_ ?_ ?_; exact tz hw; exact rfl))
    refine S.cond rfl (fun hc => by simp at hc) (fun hc => ?_)
    (repeat first | refine uA ?_ | (refine uK ?_ ?_; focus first | omega | (intros; simp_all <;> omega)) | simp (disch := omega) only [go_sem, Nat.reduceBEq, Nat.reduceAdd, ww, c1m])
    refine S.cond rfl (fun hc => ?_) (fun hc => ?_)
    · have hl : u.length ≠ arms.length \/ p.length ≠ arms.length \/ v.length ≠ people.length := by simp only [c1U, Bool.not_eq_true', c1v] at hc; omega
      rw [if_pos hl] at hE
      subst hE
      rw [if_neg (by decide)]
      (repeat first | refine uA ?_ | (refine uK ?_ ?_; focus first | omega | (intros; simp_all <;> omega)) | simp (disch := omega) only [go_sem, Nat.reduceBEq, Nat.reduceAdd, ww])
      (refine S.done ?_; simp only [p9, l7, go_sem, Nat.reduceBEq, Nat.reduceAdd, Nat.reduceLeDiff, Int.reduceToNat, Int.reducePow]; (repeat (refine ⟨?_, ?_⟩; focus first | trivial | omega | simp)); exact j3.out rfl (Imp.tup (by (repeat' (first | exact l6.nil | exact Imp.refl rfl | exact Imp.frz rfl rfl rfl | exact Imp.K4 | refine Imp.agg ?_ | refine l6.cons ?_ ?_)))) rfl)
    have hl : ¬ (u.length ≠ arms.length \/ p.length ≠ arms.length \/ v.length ≠ people.length) := by simp only [c1D, Bool.not_eq_false', c1r] at hc; omega
    rw [if_neg hl] at hE
    have hl1 : u.length = arms.length := by omega
    have hl2 : p.length = arms.length := by omega
    have hl3 : v.length = people.length := by omega
    clear hl
    have hal := hal hl1 hl2
    (repeat first | refine uA ?_ | (refine uK ?_ ?_; focus first | omega | (intros; simp_all <;> omega)) | simp (disch := omega) only [go_sem, Nat.reduceBEq, Nat.reduceAdd, ww, c1m])
    refine S.loop (X := Nat) (fun i => ⟨[(2, wss u), (3, bls p), (4, vts v), (5, .bp 0 0), (6, .bp 1 0), (10, .bp 2 0), (52, vts v), (53, ints v.length), (54, ints i)], [.box 31 [ams arms, wls walls, pts parts, sls slots, gts gates, .v (.bool walk.neg), sb walk.num, sb walk.den], .box 37 [ints tick, E8 sarms, frs sparts, vts people, bls sgates], .box 37 [.v (.int .i64 0), .v (.slice none 0 0), .v (.slice none 0 0), .v (.slice none 0 0), .v (.slice none 0 0)]]⟩) (fun i => i <= v.length /\ v.all (a0M walk) = (v.drop i).all (a0M walk)) (fun i => v.length - i) 0 ⟨c1s _, rfl⟩ (by (repeat first | refine uA ?_ | (refine ⟨?_, ?_⟩; focus first | rfl | simp [slot]) | rfl | simp)) ?_
    rintro i ⟨hi, hg⟩
    simp only [ams, wls, pts, sls, gts, E8, frs, vts, bls, wss, rts, sb, ints] at hi ⊢
    (repeat first | refine uA ?_ | (refine uK ?_ ?_; focus first | omega | (intros; simp_all <;> omega)) | simp (disch := omega) only [go_sem, Nat.reduceBEq, Nat.reduceAdd, ww])
    (refine uJ rfl (fun hc => ?_) fun hc => ?_)
    · have hgv := c1l (show i < v.length by omega)
      generalize v[i]'_ = y at hgv
      have hd := a5j (f := a0M walk) hgv
      obtain ⟨by1, by2⟩ := hbv y (c1o hgv)
      have o1 := a0p y.x (by1.mono (by decide))
      have o2 := a0p y.y (by2.mono (by decide))
      have o3 := a3g y.x (by1.mono (by decide))
      have o4 := a3g y.y (by2.mono (by decide))
      have o5 := K5 (Nm.ofQ (E9 (Nm.d9 y.x))) walk (a1Q ((by1.mono (m := 17179869184) (by decide)).fit (by decide))) (hkw.mono (by decide))
      have o6 := K5 (Nm.ofQ (E9 (Nm.d9 y.y))) walk (a1Q ((by2.mono (m := 17179869184) (by decide)).fit (by decide))) (hkw.mono (by decide))
      rw [Nm.F7] at o5 o6
      have hm := b8P (E9 (Nm.d9 y.x)) (E9 (Nm.d9 y.y)) (Nm.d9 walk)
      have hv : a0M walk y = (decide y.x.D5 && decide y.y.D5 && !decide (0 < Nm.q9 (a1a (E9 (Nm.d9 y.x)) (E9 (Nm.d9 y.y))) (Nm.d9 walk))) := rfl
      rw [hv] at hd
      clear hv
      generalize Nm.q9 (a1a (E9 (Nm.d9 y.x)) (E9 (Nm.d9 y.y))) (Nm.d9 walk) = c0 at *
      generalize decide y.x.D5 = g1 at *
      generalize decide y.y.D5 = g2 at *
      generalize Nm.q9 (E9 (Nm.d9 y.x)) (Nm.d9 walk) = c1 at *
      generalize Nm.q9 (E9 (Nm.d9 y.y)) (Nm.d9 walk) = c2 at *
      unfold rq at o3 o4
      generalize Nm.ofQ (E9 (Nm.d9 y.x)) = a1 at *
      generalize Nm.ofQ (E9 (Nm.d9 y.y)) = a2 at *
      simp only [rc, sb, ints] at o1 o2 o3 o4 o5 o6
      (repeat first | refine uA ?_ | (refine uK ?_ ?_; focus first | omega | (intros; simp_all <;> omega)) | simp (disch := omega) only [go_sem, Nat.reduceBEq, Nat.reduceAdd, ww, hgv, c1n, c1m, Vt.enc, sb, c1q] | (refine uD o1 ?_ ?_ ?_; exact tz hw; exact rfl) | (refine uD o2 ?_ ?_ ?_; exact tz hw; exact rfl) | (refine uD o3 ?_ ?_ ?_; exact tz hw; exact rfl) | (refine uD o4 ?_ ?_ ?_; exact tz hw; exact rfl) | (refine uD o5 ?_ ?_ ?_; exact tz hw; exact rfl) | (refine uD o6 ?_ ?_ ?_; exact tz hw; exact rfl))
      refine S.cond rfl (fun hc2 => ?_) (fun hc2 => ?_)
      · have hf : v.all (a0M walk) = false := by
          rw [hg, hd]
          cases g1
          · rfl
          cases g2
          · rfl
          simp only [Bool.not_true, Bool.false_or, c1U, c1r] at hc2
          rw [decide_eq_true (show 0 < c0 from hm.2 hc2)]; rfl
        rw [if_pos hf] at hE
        subst hE
        rw [if_neg (by decide)]
        (repeat first | refine uA ?_ | (refine uK ?_ ?_; focus first | omega | (intros; simp_all <;> omega)) | simp (disch := omega) only [go_sem, Nat.reduceBEq, Nat.reduceAdd, ww])
        (refine S.done ?_; simp only [p9, l7, go_sem, Nat.reduceBEq, Nat.reduceAdd, Nat.reduceLeDiff, Int.reduceToNat, Int.reducePow]; (repeat (refine ⟨?_, ?_⟩; focus first | trivial | omega | simp)); exact j3.out rfl (Imp.tup (by (repeat' (first | exact l6.nil | exact Imp.refl rfl | exact Imp.frz rfl rfl rfl | exact Imp.K4 | refine Imp.agg ?_ | refine l6.cons ?_ ?_)))) rfl)
      · (repeat first | refine uA ?_ | (refine uK ?_ ?_; focus first | omega | (intros; simp_all <;> omega)) | simp (disch := omega) only [go_sem, Nat.reduceBEq, Nat.reduceAdd, ww])
        refine S.next (i + 1) ⟨by omega, ?_⟩ (by omega) (by (repeat first | refine uA ?_ | (refine ⟨?_, ?_⟩; focus first | rfl | simp [slot]) | rfl | simp))
        rw [hg, hd]
        cases g1
        · simp at hc2
        cases g2
        · simp at hc2
        simp only [Bool.not_true, Bool.false_or, c1D, c1v] at hc2
        rw [decide_eq_false (show ¬ 0 < c0 from fun h => by have := hm.1 h; omega)]; rfl
    rw [List.drop_eq_nil_of_le (by omega), List.all_nil] at hg
    rw [hg, if_neg (by decide)] at hE
    (repeat first | refine uA ?_ | (refine uK ?_ ?_; focus first | omega | (intros; simp_all <;> omega)) | simp (disch := omega) only [go_sem, Nat.reduceBEq, Nat.reduceAdd, ww])
    refine S.cond rfl (fun hc => ?_) (fun hc => ?_)
    · rw [if_pos (by simpa using hc)] at hE
      subst hE
      rw [if_neg (by decide)]
      (repeat first | refine uA ?_ | (refine uK ?_ ?_; focus first | omega | (intros; simp_all <;> omega)) | simp (disch := omega) only [go_sem, Nat.reduceBEq, Nat.reduceAdd, ww])
      (refine S.done ?_; simp only [p9, l7, go_sem, Nat.reduceBEq, Nat.reduceAdd, Nat.reduceLeDiff, Int.reduceToNat, Int.reducePow]; (repeat (refine ⟨?_, ?_⟩; focus first | trivial | omega | simp)); exact j3.out rfl (Imp.tup (by (repeat' (first | exact l6.nil | exact Imp.refl rfl | exact Imp.frz rfl rfl rfl | exact Imp.K4 | refine Imp.agg ?_ | refine l6.cons ?_ ?_)))) rfl)
    rw [if_neg (by simpa using hc)] at hE
    subst hE
    rw [if_pos rfl]
    have htk : IntKind.i64.wrap (tick + 1) = tick + 1 := wrap_i64 (by omega)
    (repeat first | refine uA ?_ | (refine uK ?_ ?_; focus first | omega | (intros; simp_all <;> omega)) | simp (disch := omega) only [go_sem, Nat.reduceBEq, Nat.reduceAdd, ww, C.sh, C.shL, c1J, List.length_nil, c1m, htk] | refine l9.t (l8.pre (hcp _ rfl) rfl rfl rfl) ?_)
    refine S.loop (X := Nat) (fun i => ⟨[(2, wss u), (3, bls p), (4, vts v), (5, .bp 0 0), (6, .bp 1 0), (10, .bp 2 0), (15, .bp 9 0), (99, ams arms), (100, ints arms.length), (101, ints i)], [.box 31 [ams arms, wls walls, pts parts, sls slots, gts gates, .v (.bool walk.neg), sb walk.num, sb walk.den], .box 37 [ints tick, E8 sarms, frs sparts, vts people, bls sgates], .box 37 [.v (.int .i64 0), .v (.slice none 0 0), .v (.slice none 0 0), .v (.slice none 0 0), .v (.slice none 0 0)], .gone, .gone, .row 55 10 ((((arms.zip A).take i).foldl pP sparts).map Fr.enc), .row 51 6 (people.map Vt.enc), .gone, .row 90 4 ((A.take i ++ sarms.drop i).map Ast.enc), .box 37 [ints (tick + 1), .rv 8, .rv 5, .rv 6, bls sgates]]⟩) (fun i => i <= arms.length) (fun i => arms.length - i) 0 (c1s _) (by (repeat first | refine uA ?_ | (refine ⟨?_, ?_⟩; focus first | rfl | simp [slot]) | rfl | simp)) ?_
    intro i hi
    simp only [ams, wls, pts, sls, gts, E8, frs, vts, bls, wss, rts, sb, ints] at hi ⊢
    (repeat first | refine uA ?_ | (refine uK ?_ ?_; focus first | omega | (intros; simp_all <;> omega)) | simp (disch := omega) only [go_sem, Nat.reduceBEq, Nat.reduceAdd, ww])
    (refine uJ rfl (fun hc => ?_) fun hc => ?_)
    · have hga := c1l (show i < arms.length by omega)
      have hgx := c1l (show i < sarms.length by omega)
      have hgu := c1l (show i < u.length by omega)
      have hgp := c1l (show i < p.length by omega)
      generalize arms[i]'_ = a at hga
      generalize sarms[i]'_ = x at hgx
      generalize u[i]'_ = ui at hgu
      generalize p[i]'_ = b at hgp
      have hgA := hag hga hgx hgu hgp
      have hz := c1o (H7 hga hgx)
      obtain ⟨k1, k2, k3, k4⟩ := hone _ hz
      simp only at k1 k2 k3 k4
      have bx := hbs x (c1o hgx)
      have bu := hbu ui (c1o hgu)
      have ba := hba a (c1o hga)
      have o1 := b9E a x ui b (ba.mono (by decide)) ⟨⟨c1t bx.1.1 (by decide), fun r hr => (bx.1.2 r hr).mono (by decide)⟩, c1t bx.2.1 (by decide), fun r hr => (bx.2.2 r hr).mono (by decide)⟩ ⟨c1t bu.1 (by decide), fun r hr => (bu.2 r hr).mono (by decide)⟩ k1 k2 k3
      have hfa := fold_at (f := pP) (H7 hga hgA) sparts
      rw [hput] at hfa
      have hh := holds_one a x ui b
      have hql := (a8D (u := ui) (p := b) ⟨k1, k2, k3, k4⟩).1
      have hqb := (b0F (u := ui) (p := b) k1 bx bu.2).1
      have hcar := fun q pt => hcar i (a0x a x ui b) a q pt hga
      have hPl := hpl ((arms.zip A).take i) sparts
      have s1 := a3t Ast.enc (by omega) hgA (m := sarms)
      have m1 := a2w (l := A) (m := sarms) (i := i) (by omega) (by omega)
      generalize hA1 : A.take (i + 1) ++ sarms.drop (i + 1) = A1 at *
      generalize A.take i ++ sarms.drop i = A0 at *
      generalize hP1 : ((arms.zip A).take (i + 1)).foldl pP sparts = P1 at *
      generalize ((arms.zip A).take i).foldl pP sparts = P0 at *
      obtain ⟨z0, hz0⟩ : ∃ z0, A0[i]? = some z0 := ⟨_, c1l (show i < A0.length by omega)⟩
      generalize hy : a0x a x ui b = y at *
      have hxi : (i : Int) < sarms.length := by omega
      have hui : (i : Int) < u.length := by omega
      have hpi : (i : Int) < p.length := by omega
      simp only [Am.c, Am.enc, Ast.c, Ast.enc, lks, rts, sb, ints] at o1 s1 hcar
      (repeat first | refine uA ?_ | (refine uK ?_ ?_; focus first | omega | (intros; simp_all <;> omega)) | simp (disch := omega) only [go_sem, Nat.reduceBEq, Nat.reduceAdd, ww, hga, hgx, hgu, hgp, hz0, m1, s1, c1n, c1m, Am.enc, Ast.enc, lks, rts, sb, ints, c1q] | (refine uD o1 ?_ ?_ ?_; exact tz hw; exact rfl))
      refine S.cond rfl (fun hc2 => by simp at hc2) (fun hc2 => ?_)
      (repeat first | refine uA ?_ | (refine uK ?_ ?_; focus first | omega | (intros; simp_all <;> omega)) | simp (disch := omega) only [go_sem, Nat.reduceBEq, Nat.reduceAdd, ww, hz0, m1, s1, c1n, c1m, Ast.enc, rts, ints, c1q])
      refine S.cond rfl (fun hc3 => ?_) (fun hc3 => ?_)
      · have hp0 : 0 <= y.holds := by simpa using hc3
        obtain ⟨q, hq⟩ : ∃ q : Nat, y.holds = q := ⟨y.holds.toNat, by omega⟩
        have hqp : q < parts.length := by omega
        have hgq := c1l hqp
        generalize parts[q] = pt at hgq
        have o2 := hcar q pt hgq hq k1 hql hqb
        rw [if_neg (by simp only; omega)] at hfa
        simp only [hq, c1q, hgq] at hfa
        have s2 : (P0.map Fr.enc).set q (a1j a y.q pt.grasp).enc = P1.map Fr.enc := by rw [<- List.map_set, <- hfa]
        obtain ⟨z1, hz1⟩ : ∃ z1, P0[q]? = some z1 := ⟨_, c1l (show q < P0.length by omega)⟩
        have hq2 : (q : Int) < P0.length := by omega
        generalize a1j a y.q pt.grasp = R at *
        simp only [Fr.c, Fr.enc, hq, sb] at o2 s2
        simp only [hq]
        (repeat first | refine uA ?_ | (refine uK ?_ ?_; focus first | omega | (intros; simp_all <;> omega)) | simp (disch := omega) only [go_sem, Nat.reduceBEq, Nat.reduceAdd, ww, hz1, s2, hPl, Fr.enc, sb, c1n, c1m, c1q] | (refine uD o2 ?_ ?_ ?_; exact tz hw; exact rfl))
        refine S.cond rfl (fun hc2 => by simp at hc2) (fun hc2 => ?_)
        (repeat first | refine uA ?_ | (refine uK ?_ ?_; focus first | omega | (intros; simp_all <;> omega)) | simp (disch := omega) only [go_sem, Nat.reduceBEq, Nat.reduceAdd, ww])
        refine S.next (i + 1) (by omega) (by omega) (by simp only [hA1, hP1]; exact (by (repeat first | refine uA ?_ | (refine ⟨?_, ?_⟩; focus first | rfl | simp [slot]) | rfl | simp)))
      · have hp0 : y.holds < 0 := by simp only [c1v] at hc3; omega
        rw [if_pos (by simpa using hp0)] at hfa
        subst hfa
        (repeat first | refine uA ?_ | (refine uK ?_ ?_; focus first | omega | (intros; simp_all <;> omega)) | simp (disch := omega) only [go_sem, Nat.reduceBEq, Nat.reduceAdd, ww])
        refine S.next (i + 1) (by omega) (by omega) (by simp only [hA1, hP1]; exact (by (repeat first | refine uA ?_ | (refine ⟨?_, ?_⟩; focus first | rfl | simp [slot]) | rfl | simp)))
    have hi' : i = arms.length := by omega
    subst hi'
    rw [show (arms.zip A).take arms.length = arms.zip A from c1G (by rw [List.length_zip]; omega), show A.take arms.length ++ sarms.drop arms.length = A by rw [<- e1]; exact mid_end (by omega)]
    have hMl : ((people.zip v).map a2W).length = people.length := by rw [c1m, List.length_zip]; omega
    have hMg : ∀ (i : Nat) (a b : Vt), people[i]? = some a -> v[i]? = some b -> ((people.zip v).map a2W)[i]? = some (a2W (a, b)) := fun i a b h1 h2 => by rw [c2b, H7 h1 h2]; rfl
    generalize (arms.zip A).foldl pP sparts = PP at *
    generalize (people.zip v).map a2W = M at *
    (repeat first | refine uA ?_ | (refine uK ?_ ?_; focus first | omega | (intros; simp_all <;> omega)) | simp (disch := omega) only [go_sem, Nat.reduceBEq, Nat.reduceAdd, ww, c1m])
    refine S.loop (X := Nat) (fun i => ⟨[(6, .bp 1 0), (10, .bp 2 0), (15, .bp 9 0), (153, vts v), (154, ints v.length), (155, ints i)], [.gone, .box 37 [ints tick, E8 sarms, frs sparts, vts people, bls sgates], .box 37 [.v (.int .i64 0), .v (.slice none 0 0), .v (.slice none 0 0), .v (.slice none 0 0), .v (.slice none 0 0)], .gone, .gone, .row 55 10 (PP.map Fr.enc), .row 51 6 ((M.take i ++ people.drop i).map Vt.enc), .gone, .row 90 4 (A.map Ast.enc), .box 37 [ints (tick + 1), .rv 8, .rv 5, .rv 6, bls sgates]]⟩) (fun i => i <= v.length) (fun i => v.length - i) 0 (c1s _) (by (repeat first | refine uA ?_ | (refine ⟨?_, ?_⟩; focus first | rfl | simp [slot]) | rfl | simp)) ?_
    intro i hi
    simp only [ams, wls, pts, sls, gts, E8, frs, vts, bls, wss, rts, sb, ints] at hi ⊢
    (repeat first | refine uA ?_ | (refine uK ?_ ?_; focus first | omega | (intros; simp_all <;> omega)) | simp (disch := omega) only [go_sem, Nat.reduceBEq, Nat.reduceAdd, ww])
    (refine uJ rfl (fun hc => ?_) fun hc => ?_)
    · have hgv := c1l (show i < v.length by omega)
      have hgw := c1l (show i < people.length by omega)
      generalize v[i]'_ = b at hgv
      generalize people[i]'_ = a at hgw
      have hgM := hMg i a b hgw hgv
      obtain ⟨ba1, ba2⟩ := hbp a (c1o hgw)
      obtain ⟨bb1, bb2⟩ := hbv b (c1o hgv)
      have o1 := b0Q a.x a.y b.x b.y (ba1.mono (by decide)) (ba2.mono (by decide)) (bb1.mono (by decide)) (bb2.mono (by decide))
      have s1 := a3t Vt.enc (by omega) hgM (m := people)
      have m1 := a2w (l := M) (m := people) (i := i) (by omega) (by omega)
      have hV : a2W (a, b) = ⟨Nm.ofQ (Nm.d9 a.x + Nm.d9 b.x), Nm.ofQ (Nm.d9 a.y + Nm.d9 b.y)⟩ := rfl
      rw [hV] at s1
      unfold vq at o1
      generalize Nm.ofQ (Nm.d9 a.x + Nm.d9 b.x) = r1 at *
      generalize Nm.ofQ (Nm.d9 a.y + Nm.d9 b.y) = r2 at *
      generalize hM1 : M.take (i + 1) ++ people.drop (i + 1) = M1 at *
      generalize M.take i ++ people.drop i = M0 at *
      obtain ⟨z0, hz0⟩ : ∃ z0, M0[i]? = some z0 := ⟨_, c1l (show i < M0.length by omega)⟩
      have hwi : (i : Int) < people.length := by omega
      simp only [vc, Vt.enc, sb] at o1 s1
      (repeat first | refine uA ?_ | (refine uK ?_ ?_; focus first | omega | (intros; simp_all <;> omega)) | simp (disch := omega) only [go_sem, Nat.reduceBEq, Nat.reduceAdd, ww, hgv, hgw, hz0, m1, s1, c1n, c1m, Vt.enc, sb, c1q] | (refine uD o1 ?_ ?_ ?_; exact tz hw; exact rfl))
      refine S.next (i + 1) (by omega) (by omega) (by simp only [hM1]; exact (by (repeat first | refine uA ?_ | (refine ⟨?_, ?_⟩; focus first | rfl | simp [slot]) | rfl | simp)))
    have hi' : i = v.length := by omega
    subst hi'
    rw [show M.take v.length ++ people.drop v.length = M by rw [hl3]; exact mid_end (by omega)]
    (repeat first | refine uA ?_ | (refine uK ?_ ?_; focus first | omega | (intros; simp_all <;> omega)) | simp (disch := omega) only [go_sem, Nat.reduceBEq, Nat.reduceAdd, ww])
    (refine S.done ?_; simp only [p9, l7, go_sem, Nat.reduceBEq, Nat.reduceAdd, Nat.reduceLeDiff, Int.reduceToNat, Int.reducePow]; (repeat (refine ⟨?_, ?_⟩; focus first | trivial | omega | simp)); exact j3.out rfl (Imp.tup (by (repeat' (first | exact l6.nil | exact Imp.refl rfl | exact Imp.frz rfl rfl rfl | exact Imp.K4 | refine Imp.agg ?_ | refine l6.cons ?_ ?_)))) rfl)
  · have hE : V4 w s u p v = R7 w s := by unfold V4; rw [if_pos h0]
    unfold a3k
    rw [hE, if_neg h0]
    generalize R7 w s = e at *
    obtain ⟨arms, walls, parts, slots, gates, walk⟩ := w
    obtain ⟨tick, sarms, sparts, people, sgates⟩ := s
    simp only [a3I, j5, TT, II, OA, OB, OC, MM, LL, VV, FF, MG, LG, VG, FG]
    simp only [Wk.c, Wk.enc, Stt.c, Stt.enc, a6v, ams, wls, pts, sls, gts, E8, frs, vts, bls, wss, rts, sb, ints] at hck ⊢
    (repeat first | refine uA ?_ | (refine uK ?_ ?_; focus first | omega | (intros; simp_all <;> omega)) | simp (disch := omega) only [go_sem, Nat.reduceBEq, Nat.reduceAdd, ww] | (refine uD hck ?_ ?_ ?_; exact tz hw; exact rfl))
    refine S.cond rfl (fun hc => ?_) (fun hc => by simp at hc; exact absurd hc h0)
    (repeat first | refine uA ?_ | (refine uK ?_ ?_; focus first | omega | (intros; simp_all <;> omega)) | simp (disch := omega) only [go_sem, Nat.reduceBEq, Nat.reduceAdd, ww])
    (refine S.done ?_; simp only [p9, l7, go_sem, Nat.reduceBEq, Nat.reduceAdd, Nat.reduceLeDiff, Int.reduceToNat, Int.reducePow]; (repeat (refine ⟨?_, ?_⟩; focus first | trivial | omega | simp)); exact j3.out rfl (Imp.tup (by (repeat' (first | exact l6.nil | exact Imp.refl rfl | exact Imp.frz rfl rfl rfl | exact Imp.K4 | refine Imp.agg ?_ | refine l6.cons ?_ ?_)))) rfl)
set_option maxRecDepth 10000
set_option maxHeartbeats 4000000
def azL : List UInt8 := [97, 98, 99, 100, 101, 102, 103, 104, 105, 106, 107, 108, 109, 110, 111, 112, 113, 114, 115, 116, 117, 118, 119, 120, 121, 122]
theorem b9q : ∀ n : Fin 256, azL.contains (UInt8.ofNat n) = H8 (UInt8.ofNat n) := by decide +kernel
theorem b5Q (b : UInt8) : azL.contains b = H8 b := by
 have h := b9q ⟨b.toNat, b.toNat_lt⟩
 simpa using h
theorem b5m {p : UInt8 -> Bool} {x : UInt8} : ∀ {l : List UInt8}, x ∈ l.takeWhile p -> p x = true
 | [], h => by simp at h
 | y :: l, h => by
  rw [List.takeWhile_cons] at h
  split at h
  ·rcases List.mem_cons.1 h with rfl | h
   ·assumption
   ·exact b5m h
  ·cases h
theorem b0q {p : UInt8 -> Bool} : ∀ {l : List UInt8}, l.dropWhile p = [] <-> l.all p = true
 | [] => by simp
 | x :: l => by
  rw [List.dropWhile_cons, List.all_cons]
  cases h : p x
  ·simp
  ·simpa using b0q (p := p) (l := l)
theorem b6H (l : List UInt8) : Lib.trimS l azL = [] <-> l.all H8 = true := by
 have hf : (fun b => azL.contains b) = H8 := funext b5Q
 unfold Lib.trimS Lib.trimLeftS Lib.trimRightS
 rw [hf, b0q]
 constructor
 ·intro h
  rw [List.all_eq_true] at h ⊢
  intro x hx
  cases hl : H8 x with
  | true => rfl
  | false =>
   have : x ∈ (l.reverse.dropWhile H8).reverse := by
    rw [List.mem_reverse]
    have hx' : x ∈ l.reverse := List.mem_reverse.2 hx
    rw [<- List.takeWhile_append_dropWhile (p := H8) (l := l.reverse)] at hx'
    rcases List.mem_append.1 hx' with h1 | h1
    ·have := b5m h1
     rw [hl] at this; cases this
    ·exact h1
   have := h x this
   rw [hl] at this; cases this
 ·intro h
  rw [List.all_eq_true] at h ⊢
  intro x hx
  exact h x (List.mem_reverse.1 ((List.dropWhile_sublist _).mem (List.mem_reverse.1 hx)))
theorem b7X (s : List UInt8) (hs : s.length <= 1099511627776) : u7 Tryz.prog 82 [sb s, .v (.string ⟨#[97, 98, 99, 100, 101, 102, 103, 104, 105, 106, 107, 108, 109, 110, 111, 112, 113, 114, 115, 116, 117, 118, 119, 120, 121, 122]⟩)] (sb (Lib.trimS s azL)) := by
 intro O w vs hO hA
 simp only [FzL, sb, Fz] at hA
 obtain ⟨y, ys, rfl, rfl, z, zs, rfl, rfl, rfl⟩ := hA
 refine (Any.strings_Trim_laid Tryz.b8q (by kernel_rfl) (bs s) ⟨#[97, 98, 99, 100, 101, 102, 103, 104, 105, 106, 107, 108, 109, 110, 111, 112, 113, 114, 115, 116, 117, 118, 119, 120, 121, 122]⟩ w (by rw [u6]; omega) (by decide) (ascii_of_all (by decide))).mono ?_
 rintro e w' ⟨rfl, hb⟩
 exact ⟨_, rfl, hb, by simp only [sb, Fz, N9]; rfl⟩
theorem b8K (s : List UInt8) (hs : s.length <= 1099511627776) : u7 Tryz.prog 20 [sb s] (.v (.bool (a0m s))) := by
 refine kS Tryz.func20 (by cbv) (by rfl) fun w O => ?_
 have h := b7X s hs
 have e : a0m s = ((!decide (s = []) && decide ((s.length : Int) <= 12)) && decide (Lib.trimS s azL = [])) := by
  have h1 : decide (Lib.trimS s azL = []) = s.all H8 := by
   have := b6H s
   cases h : s.all H8
   ·exact decide_eq_false (fun h2 => by rw [this.1 h2] at h; cases h)
   ·exact decide_eq_true (this.2 h)
  have h2 : (s.all fun b => decide (97 <= b.toNat) && decide (b.toNat <= 122)) = s.all H8 := rfl
  have h3 : decide (1 <= s.length) = !decide (s = []) := by cases s <;> simp
  have h4 : decide (s.length <= 12) = decide ((s.length : Int) <= 12) := by apply decide_eq_decide.2; omega
  unfold a0m
  rw [h1, h2, h3, h4]
  cases s.all H8 <;> cases (decide (s = [])) <;> cases (decide ((s.length : Int) <= 12)) <;> rfl
 rw [e]
 generalize Lib.trimS s azL = t at *
 simp only [j5]
 simp only [sb] at *
 (repeat first | refine uA ?_ | (refine uK ?_ ?_; focus first | omega | (intros; simp_all <;> omega)) | simp (disch := omega) only [go_sem, Nat.reduceBEq, Nat.reduceAdd, ww, u6, Y7, decide_not] | (refine uB h ?_ ?_; exact rfl))
 exact S.done (j3.out rfl (Imp.refl rfl) rfl)
theorem a3L {α : Type} {f : α -> Bool} {l : List α} {i : Nat} {x : α} (h : l[i]? = some x) : (l.drop i).all f = (f x && (l.drop (i + 1)).all f) := by
 obtain ⟨h1, h2⟩ := c1u.1 h
 rw [List.drop_eq_getElem_cons h1, List.all_cons, h2]
theorem a4H {α : Type} {f : α -> Bool} {l : List α} {i : Nat} (h : l.length <= i) : (l.drop i).all f = true := by rw [List.drop_eq_nil_of_le h]; rfl
theorem V5 {a : Nm.Rt} : j4 a = (decide a.D5 && j4 a) := by
 unfold j4
 cases decide a.D5 <;> simp
theorem a3y (l : List Nm.Rt) (hl : Rbs 17179869184 l) : FZ 85 [rts l] (.v (.bool (l.all j4))) := by
 refine kW Tryz.func85 (by cbv) (by rfl) fun w O hw => ?_
 obtain ⟨hn, hb⟩ := hl
 simp only [j5, rts]
 (repeat first | refine uA ?_ | (refine uK ?_ ?_; focus first | omega | (intros; simp_all <;> omega)) | simp (disch := omega) only [go_sem, Nat.reduceBEq, Nat.reduceAdd, ww, c1m])
 refine S.loop (X := Nat) (fun i => ⟨[(5, rts l), (6, ints l.length), (7, ints i)], []⟩) (fun i => i <= l.length /\ l.all j4 = (l.drop i).all j4) (fun i => l.length - i) 0 ⟨c1s _, rfl⟩ (by (repeat first | refine uA ?_ | (refine ⟨?_, ?_⟩; focus first | rfl | simp [slot]) | rfl | simp)) ?_
 rintro i ⟨hi, hg⟩
 simp only [rts, ints] at hi ⊢
 (repeat first | refine uA ?_ | (refine uK ?_ ?_; focus first | omega | (intros; simp_all <;> omega)) | simp (disch := omega) only [go_sem, Nat.reduceBEq, Nat.reduceAdd, ww])
 (refine uJ rfl (fun hc => ?_) fun hc => ?_)
 ·have hgi := c1l (show i < l.length by omega)
  generalize l[i]'(_) = x at hgi
  have hx := hb x (c1o hgi)
  have hs := a3L (f := j4) hgi
  have o1 := a0p x (hx.mono (by decide))
  have o2 := a2k x hx
  rw [V5] at hs
  generalize decide x.D5 = q1 at *
  generalize j4 x = q2 at *
  simp only [rc, sb] at o1 o2
  (repeat first | refine uA ?_ | (refine uK ?_ ?_; focus first | omega | (intros; simp_all <;> omega)) | simp (disch := omega) only [go_sem, Nat.reduceBEq, Nat.reduceAdd, ww, hgi, c1n, c1m, rcs, sb, c1q] | (refine uD o1 ?_ ?_ ?_; exact tz hw; exact rfl) | (refine uD o2 ?_ ?_ ?_; exact tz hw; exact rfl))
  refine S.cond rfl (fun hc2 => ?_) (fun hc2 => ?_)
  ·rw [hg, hs, show (q1 && q2) = false by cases q1 <;> cases q2 <;> simp_all, Bool.false_and]
   (repeat first | refine uA ?_ | (refine uK ?_ ?_; focus first | omega | (intros; simp_all <;> omega)) | simp (disch := omega) only [go_sem, Nat.reduceBEq, Nat.reduceAdd, ww])
   exact S.done (j3.out rfl (Imp.refl rfl) rfl)
  ·(repeat first | refine uA ?_ | (refine uK ?_ ?_; focus first | omega | (intros; simp_all <;> omega)) | simp (disch := omega) only [go_sem, Nat.reduceBEq, Nat.reduceAdd, ww])
   refine S.next (i + 1) ⟨by omega, by rw [hg, hs, show (q1 && q2) = true by cases q1 <;> cases q2 <;> simp_all, Bool.true_and]⟩ (by omega) (by (repeat first | refine uA ?_ | (refine ⟨?_, ?_⟩; focus first | rfl | simp [slot]) | rfl | simp))
 ·rw [hg, a4H (by omega)]
  (repeat first | refine uA ?_ | (refine uK ?_ ?_; focus first | omega | (intros; simp_all <;> omega)) | simp (disch := omega) only [go_sem, Nat.reduceBEq, Nat.reduceAdd, ww])
  exact S.done (j3.out rfl (Imp.refl rfl) rfl)
theorem a3p (l : List Nm.Rt) (hl : Rbs 17179869184 l) : FZ 140 [rts l] (.v (.bool (l.all D8))) := by
 refine kW Tryz.func140 (by cbv) (by rfl) fun w O hw => ?_
 obtain ⟨hn, hb⟩ := hl
 simp only [j5, rts]
 (repeat first | refine uA ?_ | (refine uK ?_ ?_; focus first | omega | (intros; simp_all <;> omega)) | simp (disch := omega) only [go_sem, Nat.reduceBEq, Nat.reduceAdd, ww, c1m])
 refine S.loop (X := Nat) (fun i => ⟨[(5, rts l), (6, ints l.length), (7, ints i)], []⟩) (fun i => i <= l.length /\ l.all D8 = (l.drop i).all D8) (fun i => l.length - i) 0 ⟨c1s _, rfl⟩ (by (repeat first | refine uA ?_ | (refine ⟨?_, ?_⟩; focus first | rfl | simp [slot]) | rfl | simp)) ?_
 rintro i ⟨hi, hg⟩
 simp only [rts, ints] at hi ⊢
 (repeat first | refine uA ?_ | (refine uK ?_ ?_; focus first | omega | (intros; simp_all <;> omega)) | simp (disch := omega) only [go_sem, Nat.reduceBEq, Nat.reduceAdd, ww])
 (refine uJ rfl (fun hc => ?_) fun hc => ?_)
 ·have hgi := c1l (show i < l.length by omega)
  generalize l[i]'(_) = x at hgi
  have hx := hb x (c1o hgi)
  have hs := a3L (f := D8) hgi
  have o1 := a0p x (hx.mono (by decide))
  rw [show decide x.D5 = D8 x from rfl] at o1
  generalize D8 x = q1 at *
  simp only [rc, sb] at o1
  (repeat first | refine uA ?_ | (refine uK ?_ ?_; focus first | omega | (intros; simp_all <;> omega)) | simp (disch := omega) only [go_sem, Nat.reduceBEq, Nat.reduceAdd, ww, hgi, c1n, c1m, rcs, sb, c1q] | (refine uD o1 ?_ ?_ ?_; exact tz hw; exact rfl))
  refine S.cond rfl (fun hc2 => ?_) (fun hc2 => ?_)
  ·rw [hg, hs, show q1 = false by simpa using hc2, Bool.false_and]
   (repeat first | refine uA ?_ | (refine uK ?_ ?_; focus first | omega | (intros; simp_all <;> omega)) | simp (disch := omega) only [go_sem, Nat.reduceBEq, Nat.reduceAdd, ww])
   exact S.done (j3.out rfl (Imp.refl rfl) rfl)
  ·(repeat first | refine uA ?_ | (refine uK ?_ ?_; focus first | omega | (intros; simp_all <;> omega)) | simp (disch := omega) only [go_sem, Nat.reduceBEq, Nat.reduceAdd, ww])
   refine S.next (i + 1) ⟨by omega, by rw [hg, hs, show q1 = true by simpa using hc2, Bool.true_and]⟩ (by omega) (by (repeat first | refine uA ?_ | (refine ⟨?_, ?_⟩; focus first | rfl | simp [slot]) | rfl | simp))
 ·rw [hg, a4H (by omega)]
  (repeat first | refine uA ?_ | (refine uK ?_ ?_; focus first | omega | (intros; simp_all <;> omega)) | simp (disch := omega) only [go_sem, Nat.reduceBEq, Nat.reduceAdd, ww])
  exact S.done (j3.out rfl (Imp.refl rfl) rfl)
theorem okF_eq (f : Fr) : okF f = ([f.x, f.y, f.t].all j4 && !a1Z f.half f.t) := by
 rw [a4a, V5 (a := f.x), V5 (a := f.y), V5 (a := f.t)]
 unfold okF okV
 simp only
 generalize a1Z f.half f.t = z
 cases decide f.x.D5 <;> cases decide f.y.D5 <;> cases decide f.t.D5 <;> cases j4 f.x <;> cases j4 f.y <;> cases j4 f.t <;> cases z <;> rfl
theorem a9R (v : Vt) : okV v = [v.x, v.y].all j4 := by
 rw [a3r, V5 (a := v.x), V5 (a := v.y)]
 unfold okV
 cases decide v.x.D5 <;> cases decide v.y.D5 <;> cases j4 v.x <;> cases j4 v.y <;> rfl
theorem b0T (f : Fr) (hf : Fb 17179869184 f) : FZ 22 [f.c] (.v (.bool (okF f))) := by
 refine kW Tryz.func22 (by cbv) (by rfl) fun w O hw => ?_
 rw [okF_eq]
 obtain ⟨x, y, half, t⟩ := f
 obtain ⟨b1, b2, b3⟩ := hf
 simp only at b1 b2 b3
 have h1 := a3y _ (Rbs.three (by decide) b1 b2 b3)
 have h4 := M5 t b3
 unfold a1Z
 simp only
 generalize [x, y, t].all j4 = q1 at *
 generalize y7 (Nm.d9 t) = n at *
 simp only [j5]
 simp only [Fr.c, Fr.enc, rts, rcs, rc, sb, ints, c1F, c1L] at *
 (repeat first | refine uA ?_ | (refine uK ?_ ?_; focus first | omega | (intros; simp_all <;> omega)) | simp (disch := omega) only [go_sem, Nat.reduceBEq, Nat.reduceAdd, ww] | (refine uD h4 ?_ ?_ ?_; exact tz hw; exact rfl) | (refine uE h1 ?_ ?_ ?_ ?_; exact tz hw; exact rfl; focus (repeat' first | exact l6.nil | exact Imp.refl rfl | exact Imp.frz rfl rfl rfl | (refine Imp.O8 rfl rfl ?_ ?_; (focus ((try simp only [c1p]); omega)); (focus first | rfl | assumption)) | refine l6.cons ?_ ?_); done))
 exact S.done (j3.out rfl (Imp.refl (by rfl)) rfl)
theorem b1o (l : List Vt) (hl : Vbs 1073741824 l) : FZ 100 [vts l] (ints (K7 l)) := by
 refine kW Tryz.func100 (by cbv) (by rfl) fun w O hw => ?_
 have h1 := a4t l hl
 obtain ⟨hn, hb⟩ := hl
 unfold K7
 generalize U4 l 8 = e at *
 simp only [j5]
 simp only [vts, ints] at *
 (repeat first | refine uA ?_ | (refine uK ?_ ?_; focus first | omega | (intros; simp_all <;> omega)) | simp (disch := omega) only [go_sem, Nat.reduceBEq, Nat.reduceAdd, ww] | (refine uD h1 ?_ ?_ ?_; exact tz hw; exact rfl))
 refine S.cond rfl (fun hc => ?_) (fun hc => ?_)
 ·rw [if_pos (by simpa using hc)]
  (repeat first | refine uA ?_ | (refine uK ?_ ?_; focus first | omega | (intros; simp_all <;> omega)) | simp (disch := omega) only [go_sem, Nat.reduceBEq, Nat.reduceAdd, ww])
  exact S.done (j3.out rfl (Imp.refl rfl) rfl)
 rw [if_neg (by simpa using hc)]
 (repeat first | refine uA ?_ | (refine uK ?_ ?_; focus first | omega | (intros; simp_all <;> omega)) | simp (disch := omega) only [go_sem, Nat.reduceBEq, Nat.reduceAdd, ww, c1m])
 refine S.loop (X := Nat) (fun i => ⟨[(11, vts l), (12, ints l.length), (13, ints i)], []⟩) (fun i => i <= l.length /\ l.all okV = (l.drop i).all okV) (fun i => l.length - i) 0 ⟨c1s _, rfl⟩ (by (repeat first | refine uA ?_ | (refine ⟨?_, ?_⟩; focus first | rfl | simp [slot]) | rfl | simp)) ?_
 rintro i ⟨hi, hg⟩
 simp only [vts, ints] at hi ⊢
 (repeat first | refine uA ?_ | (refine uK ?_ ?_; focus first | omega | (intros; simp_all <;> omega)) | simp (disch := omega) only [go_sem, Nat.reduceBEq, Nat.reduceAdd, ww])
 (refine uJ rfl (fun hc => ?_) fun hc => ?_)
 ·have hgi := c1l (show i < l.length by omega)
  generalize l[i]'(_) = v at hgi
  have hv := hb v (c1o hgi)
  have hs := a3L (f := okV) hgi
  rw [a9R] at hs
  have o1 := a3y _ (Rbs.two (by decide) (hv.1.mono (m := 17179869184) (by decide)) (hv.2.mono (m := 17179869184) (by decide)))
  generalize [v.x, v.y].all j4 = q at *
  simp only [rts, rcs, sb, c1F, c1L] at o1
  (repeat first | refine uA ?_ | (refine uK ?_ ?_; focus first | omega | (intros; simp_all <;> omega)) | simp (disch := omega) only [go_sem, Nat.reduceBEq, Nat.reduceAdd, ww, hgi, c1n, c1m, Vt.enc, sb, c1q] | (refine uE o1 ?_ ?_ ?_ ?_; exact tz hw; exact rfl; focus (repeat' first | exact l6.nil | exact Imp.refl rfl | exact Imp.frz rfl rfl rfl | (refine Imp.O8 rfl rfl ?_ ?_; (focus ((try simp only [c1p, hgi, c1n, c1m, Vt.enc, sb, c1q]); omega)); (focus first | rfl | assumption)) | refine l6.cons ?_ ?_); done))
  refine S.cond rfl (fun hc2 => ?_) (fun hc2 => ?_)
  ·rw [hg, hs, show q = false by simpa using hc2, Bool.false_and, if_neg (by decide)]
   (repeat first | refine uA ?_ | (refine uK ?_ ?_; focus first | omega | (intros; simp_all <;> omega)) | simp (disch := omega) only [go_sem, Nat.reduceBEq, Nat.reduceAdd, ww])
   exact S.done (j3.out rfl (Imp.refl rfl) rfl)
  ·(repeat first | refine uA ?_ | (refine uK ?_ ?_; focus first | omega | (intros; simp_all <;> omega)) | simp (disch := omega) only [go_sem, Nat.reduceBEq, Nat.reduceAdd, ww])
   refine S.next (i + 1) ⟨by omega, by rw [hg, hs, show q = true by simpa using hc2, Bool.true_and]⟩ (by omega) (by (repeat first | refine uA ?_ | (refine ⟨?_, ?_⟩; focus first | rfl | simp [slot]) | rfl | simp))
 ·rw [hg, a4H (by omega), if_pos rfl]
  (repeat first | refine uA ?_ | (refine uK ?_ ?_; focus first | omega | (intros; simp_all <;> omega)) | simp (disch := omega) only [go_sem, Nat.reduceBEq, Nat.reduceAdd, ww])
  exact S.done (j3.out rfl (Imp.refl rfl) rfl)
end Go.Proofs.YtogfpjohjphngaaGreatDoor
namespace Go.Proofs.YtogfpjohjphngaaGreatDoor.Eng
open Go Go.RowKit
theorem l8.b3I {E : Ctx} {rs rs' : List Res} {pk : List Nat} (ex : List Res) {f : Nat} {args : List C} {s : C} (h : l8 E rs f args s rs' pk) (hl : rs'.length = rs.length) (hb : rs.all (Res.bdr rs.length) = true) (ha : C.bdL rs.length args = true) : l8 E (rs ++ ex) f args s (rs' ++ ex.map (Res.x9 pk)) pk := by
 intro av ν w vs hR hav hF hD
 have hlen := hR.len
 have hl1 : (ν.take rs.length).length = rs.length := by rw [c1z, hlen, c1p]; omega
 generalize hν1 : ν.take rs.length = ν1 at hl1
 have hown := fun b => a2I hlen b
 rw [hν1] at hown
 have hx : ∀ b k r x, ex[k]? = some r -> ν[rs.length + k]? = some x -> fp r x b -> ¬ owned rs ν1 b := by
  rintro b k r x h1 h2 h3 ⟨l, q, y, g1, g2, g3⟩
  have hlt := (c1u.1 g1).1
  rw [<- hν1] at g2
  exact hR.dis l (rs.length + k) q r y x b (by omega) (by rw [c1y hlt]; exact g1) (by rw [c1B (by omega), show rs.length + k - rs.length = k by omega]; exact h1) (U6 g2) h2 g3 h3
 let av' : Nat -> Prop := fun b => OO av (rs ++ ex) ν b /\ ¬ owned rs ν1 b
 have hOO : ∀ b, OO av' rs ν1 b -> OO av (rs ++ ex) ν b := fun b hb => by
  rcases hb with hb | hb
  ·exact hb.1
  ·exact .inr ((hown b).2 (.inl hb))
 have hRG : RG av' E.own0 E.w0.heap.size ν1 rs w := by
  refine ⟨hl1, fun k r hk => ?_, fun l m q q' y y' b hne h1 h2 h3 h4 => ?_, fun b hb => ?_, fun b hb => ?_, hR.n0⟩
  ·have hlt := (c1u.1 hk).1
   obtain ⟨x, hx, hok⟩ := hR.res k r (by rw [c1y hlt]; exact hk)
   refine ⟨x, by rw [<- hν1]; exact I6 hlt hx, ?_⟩
   rw [<- hν1]
   rw [List.all_eq_true] at hb
   exact b5a (hb r (c1o hk)) (by rw [hν1]; exact hOO) hok
  ·have g1 := (c1u.1 h1).1
   have g2 := (c1u.1 h2).1
   rw [<- hν1] at h3 h4
   exact hR.dis l m q q' y y' b hne (by rw [c1y g1]; exact h1) (by rw [c1y g2]; exact h2) (U6 h3) (U6 h4)
  ·obtain ⟨g1, g2, g3⟩ := hR.low b ((hown b).2 (.inl hb))
   exact ⟨g1, fun h => h.2 hb, g3⟩
  ·rcases hb.1 with h1 | h1
   ·exact hR.av b h1
   ·exact (hR.low b h1).1
 have hnav : ∀ b, av b -> ¬ owned rs ν1 b := fun b hb ho => (hR.low b ((hown b).2 (.inl ho))).2.1 hb
 have hD' : j6 ν1 w (OO av' rs ν1) args vs := by
  have := j6.keep (Keeps.sub hOO) (j6.takeν rs.length ha hD)
  rwa [hν1] at this
 refine (h av' ν1 w vs hRG (fun b hb => ⟨.inl (hav b hb), hnav b (hav b hb)⟩) hF hD').mono ?_
 rintro e w' ⟨y, ν', rfl, h1, h2, h3⟩
 have hl' : ν'.length = rs.length := by rw [h1.len, hl]
 let ν2 : List Value := ν' ++ ν.drop rs.length
 have hdl : (ν.drop rs.length).length = ex.length := by rw [c2a, hlen, c1p]; omega
 have hlen' : ν2.length = (rs' ++ ex.map (Res.x9 pk)).length := by rw [c1p, c1p, hl', hdl, hl, c1m]
 have tk : ν2.take rs'.length = ν' := by rw [hl, <- hl']; simp [ν2]
 have tl : ∀ k, ν2[rs.length + k]? = ν[rs.length + k]? := fun k => by
  show (ν' ++ ν.drop rs.length)[rs.length + k]? = _
  rw [c1B (by omega), hl', show rs.length + k - rs.length = k by omega, c1Y]
 have hown' := fun b => a2I hlen' b
 rw [tk, hl] at hown'
 have hnu : S9 [] ν' ν2 := fun k x _ hx => by show (ν' ++ _)[k]? = _; rw [c1y (c1u.1 hx).1]; exact hx
 have hnu2 : S9 pk ν ν2 := fun k x hk hx => by
  rcases c1M k rs.length with h0 | h0
  ·show (ν' ++ _)[k]? = _
   rw [c1y (by omega)]
   exact h2.nu k x hk (by rw [<- hν1]; exact I6 h0 hx)
  ·have := tl (k - rs.length)
   rw [show rs.length + (k - rs.length) = k by omega] at this
   rw [this]; exact hx
 have hxo : ∀ b k r x, ex[k]? = some r -> ν[rs.length + k]? = some x -> fp r x b -> owned (rs ++ ex) ν b := fun b k r x g1 g2 g3 => (hown b).2 (.inr ⟨k, r, x, g1, g2, g3⟩)
 have hex : ∀ b, (∃ k r x, (ex.map (Res.x9 pk))[k]? = some r /\ ν2[rs.length + k]? = some x /\ fp r x b) -> ∃ k r x, ex[k]? = some r /\ ν[rs.length + k]? = some x /\ fp r x b := by
  rintro b ⟨k, r, x, g1, g2, g3⟩
  rw [c2b] at g1
  cases hk : ex[k]? with
  | none => rw [hk] at g1; cases g1
  | some r0 =>
   rw [hk] at g1
   simp only [c1n, Option.some.injEq] at g1
   subst g1
   rw [a0y] at g3
   exact ⟨k, r0, x, hk, by rw [<- tl]; exact g2, g3⟩
 have hOO' : ∀ b, OO av (rs' ++ ex.map (Res.x9 pk)) ν2 b -> OO av' rs' ν' b := fun b hb => by
  rcases hb with hb | hb
  ·exact .inl ⟨.inl hb, hnav b hb⟩
  ·rcases (hown' b).1 hb with hb | hb
   ·exact .inr hb
   ·obtain ⟨k, r, x, g1, g2, g3⟩ := hex b hb
    exact .inl ⟨.inr (hxo b k r x g1 g2 g3), hx b k r x g1 g2 g3⟩
 have hM : Mv (rs ++ ex) ν w pk (rs' ++ ex.map (Res.x9 pk)) ν2 w' := by
  refine ⟨h2.os, h2.tape, h2.output, h2.size, fun b hb hn => h2.block b hb fun ho => hn ((hown b).2 (.inl ho)), fun b hb => ?_, hnu2⟩
  rcases (hown' b).1 hb with hb | hb
  ·rcases h2.own b hb with g | g
   ·exact .inl ((hown b).2 (.inl g))
   ·exact .inr g
  ·obtain ⟨k, r, x, g1, g2, g3⟩ := hex b hb
   exact .inl (hxo b k r x g1 g2 g3)
 have old : ∀ {l q z}, l < rs'.length -> (rs' ++ ex.map (Res.x9 pk))[l]? = some q -> ν2[l]? = some z -> rs'[l]? = some q /\ ν'[l]? = some z := fun hlt a1 a2 => by
  rw [c1y hlt] at a1
  exact ⟨a1, by rw [<- tk]; exact I6 hlt a2⟩
 have new : ∀ {l q z b}, rs'.length <= l -> (rs' ++ ex.map (Res.x9 pk))[l]? = some q -> ν2[l]? = some z -> fp q z b -> ∃ q0, ex[l - rs'.length]? = some q0 /\ ν[rs.length + (l - rs'.length)]? = some z /\ fp q0 z b := fun {l q z b} hge a1 a2 a3 => by
  rw [c1B hge, c2b] at a1
  cases hk : ex[l - rs'.length]? with
  | none => rw [hk] at a1; cases a1
  | some q0 =>
   rw [hk] at a1
   simp only [c1n, Option.some.injEq] at a1
   subst a1
   rw [a0y] at a3
   refine ⟨q0, rfl, ?_, a3⟩
   rw [<- tl, show rs.length + (l - rs'.length) = l by omega]; exact a2
 refine ⟨y, ν2, rfl, ⟨hlen', fun k r hk => ?_, fun l m q q' z z' b hne g1 g2 g3 g4 g5 g6 => ?_, fun b hb => ?_, fun b hb => c1H (hR.av b hb) h2.size, c1t hR.n0 h2.size⟩, hM, Den.keep (Keeps.sub hOO') (Den.nu hnu (fun k hk => by cases hk) h3)⟩
 ·rcases c1M k rs'.length with hlt | hge
  ·rw [c1y hlt] at hk
   obtain ⟨x, hx', hok⟩ := h1.res k r hk
   exact ⟨x, hnu k x (fun hk => by cases hk) hx', b7I hnu hOO' hok⟩
  ·rw [c1B hge, c2b] at hk
   cases hk0 : ex[k - rs'.length]? with
   | none => rw [hk0] at hk; cases hk
   | some r0 =>
    rw [hk0] at hk
    simp only [c1n, Option.some.injEq] at hk
    subst hk
    have hk' : (rs ++ ex)[k]? = some r0 := by rw [c1B (by omega), <- hl]; exact hk0
    obtain ⟨x, hx', hok⟩ := hR.res k r0 hk'
    have hx2 : ν[rs.length + (k - rs'.length)]? = some x := by rw [show rs.length + (k - rs'.length) = k by omega]; exact hx'
    refine ⟨x, by have := tl (k - rs'.length); rw [show rs.length + (k - rs'.length) = k by omega] at this; rw [this]; exact hx', ?_⟩
    exact hok.mv (O' := OO av (rs' ++ ex.map (Res.x9 pk)) ν2) (hM.keeps (av := av)) hM.nu (fun b hf => h2.block b (hR.lt hk' hx' hf) (hx b (k - rs'.length) r0 x hk0 hx2 hf))
 ·rcases c1M l rs'.length with hl2 | hl2 <;> rcases c1M m rs'.length with hm2 | hm2
  ·obtain ⟨a1, a2⟩ := old hl2 g1 g3
   obtain ⟨a3, a4⟩ := old hm2 g2 g4
   exact h1.dis l m q q' z z' b hne a1 a3 a2 a4 g5 g6
  ·obtain ⟨a1, a2⟩ := old hl2 g1 g3
   obtain ⟨q0, a3, a4, a5⟩ := new hm2 g2 g4 g6
   rcases h2.own b ⟨l, q, z, a1, a2, g5⟩ with ho | ho
   ·exact hx b _ q0 z' a3 a4 a5 ho
   ·have := (hR.low b (hxo b _ q0 z' a3 a4 a5)).1; omega
  ·obtain ⟨q0, a1, a2, a5⟩ := new hl2 g1 g3 g5
   obtain ⟨a3, a4⟩ := old hm2 g2 g4
   rcases h2.own b ⟨m, q', z', a3, a4, g6⟩ with ho | ho
   ·exact hx b _ q0 z a1 a2 a5 ho
   ·have := (hR.low b (hxo b _ q0 z a1 a2 a5)).1; omega
  ·obtain ⟨q0, a1, a2, a5⟩ := new hl2 g1 g3 g5
   obtain ⟨q1, a3, a4, a6⟩ := new hm2 g2 g4 g6
   rw [show rs.length + (l - rs'.length) = l by omega] at a2
   rw [show rs.length + (m - rs'.length) = m by omega] at a4
   exact hR.dis l m q0 q1 z z' b hne (by rw [c1B (by omega), <- hl]; exact a1) (by rw [c1B (by omega), <- hl]; exact a3) a2 a4 a5 a6
 ·rcases (hown' b).1 hb with hb | hb
  ·obtain ⟨a1, a2, a3⟩ := h1.low b hb
   exact ⟨a1, fun ha => a2 ⟨.inl ha, hnav b ha⟩, a3⟩
  ·obtain ⟨k, r, x, g1, g2, g3⟩ := hex b hb
   obtain ⟨a1, a2, a3⟩ := hR.low b (hxo b k r x g1 g2 g3)
   exact ⟨c1H a1 h2.size, a2, a3⟩
theorem l8.quiet {P : Program} {f : Nat} {args : List C} {s s' : C} {rs' : List Res} (h : ∀ E : Ctx, E.P = P -> l8 E [] f args s rs' []) (hi : Imp rs' [] s s') (hc : s'.cl = true) : u7 P f args s' := by
 intro O w vs hO hA
 have ho0 : ∀ b, ¬ owned [] [] b := fun b ⟨k, r, x, hk, _⟩ => by simp at hk
 have hRG : RG O (fun _ => False) w.heap.size [] [] w := ⟨rfl, fun k r hk => by simp at hk, fun k l r r' x x' b _ hk => by simp at hk, fun b hb => (ho0 b hb).elim, hO, c1w _⟩
 have hsub : ∀ b, OO O [] [] b -> O b := fun b hb => hb.elim id fun h => (ho0 b h).elim
 refine (h ⟨P, fun _ => false, 0, w, fun _ => False, O, [], []⟩ rfl O [] w vs hRG (fun b hb => hb) ⟨rfl, rfl, rfl, c1w _, fun _ _ _ => rfl⟩ ((FzL.keep (Keeps.sub hsub) hA).den [])).mono ?_
 rintro e w' ⟨y, ν', rfl, h1, h2, h3⟩
 have hC : Cut O rs' [] ν' := Cut.of h1 (by simp [Q6])
 have h4 := hi O (fun _ => False) w.heap.size ν' w' y h1 hC h3
 exact ⟨y, rfl, ⟨h2.os, h2.tape, h2.output, h2.size, fun b hb => h2.block b hb (ho0 b)⟩, Fz.keep (Keeps.sub fun b hb => .inl hb) (Den.fz hc h4)⟩
end Go.Proofs.YtogfpjohjphngaaGreatDoor.Eng
namespace Go.Proofs.YtogfpjohjphngaaGreatDoor
open Go Go.RowKit Eng
set_option maxRecDepth 10000
set_option maxHeartbeats 16000000
def nmR (n : Nms) : List (List C) := n.map fun s => [sb s]
theorem c0f (n : Nms) (s : List UInt8) (hn : n.length <= 1099511627776) : u7 Tryz.prog 202 [.sl 1 (nmR n), sb s] (ints (a1K (fun x => decide (s = x)) n)) := by
 refine kS Tryz.func202 (by cbv) (by rfl) fun w O => ?_
 simp only [j5, nmR, sb]
 (repeat first | refine uA ?_ | (refine uK ?_ ?_; focus first | omega | (intros; simp_all <;> omega)) | simp (disch := omega) only [go_sem, Nat.reduceBEq, Nat.reduceAdd, ww, c1m])
 refine S.loop (X := Nat) (fun i => ⟨[(0, .sl 1 (nmR n)), (1, sb s), (7, ints n.length), (8, ints i)], []⟩) (fun i => i <= n.length /\ ∀ j, j < i -> ∀ x, n[j]? = some x -> decide (s = x) = false) (fun i => n.length - i) 0 ⟨c1s _, fun _ h => absurd h (Nat.not_lt_zero _)⟩ (by simp only [nmR, sb]; exact (by (repeat first | refine uA ?_ | (refine ⟨?_, ?_⟩; focus first | rfl | simp [slot]) | rfl | simp))) ?_
 rintro i ⟨hi, hm⟩
 simp only [nmR, sb, ints]
 (repeat first | refine uA ?_ | (refine uK ?_ ?_; focus first | omega | (intros; simp_all <;> omega)) | simp (disch := omega) only [go_sem, Nat.reduceBEq, Nat.reduceAdd, ww])
 (refine uJ rfl (fun hc => ?_) fun hc => ?_)
 ·have hgi := c1l (show i < n.length by omega)
  generalize n[i]'(_) = x at hgi
  (repeat first | refine uA ?_ | (refine uK ?_ ?_; focus first | omega | (intros; simp_all <;> omega)) | simp (disch := omega) only [go_sem, Nat.reduceBEq, Nat.reduceAdd, ww, hgi, c1n, c1m, c1q, a4Y])
  refine S.cond rfl (fun hc2 => ?_) (fun hc2 => ?_)
  ·rw [a5u (p := fun x => decide (s = x)) hgi hc2 hm]
   (repeat first | refine uA ?_ | (refine uK ?_ ?_; focus first | omega | (intros; simp_all <;> omega)) | simp (disch := omega) only [go_sem, Nat.reduceBEq, Nat.reduceAdd, ww])
   exact S.done (j3.out rfl (Imp.refl rfl) rfl)
  ·(repeat first | refine uA ?_ | (refine uK ?_ ?_; focus first | omega | (intros; simp_all <;> omega)) | simp (disch := omega) only [go_sem, Nat.reduceBEq, Nat.reduceAdd, ww])
   refine S.next (i + 1) ⟨by omega, fun j hj y hy => ?_⟩ (by omega) (by (repeat first | refine uA ?_ | (refine ⟨?_, ?_⟩; focus first | rfl | simp [slot]) | rfl | simp))
   rcases c1M j i with h1 | h1
   ·exact hm j h1 y hy
   ·have : j = i := by omega
    subst this
    rw [hgi] at hy
    cases hy
    exact hc2
 ·have hi' : i = n.length := by omega
  subst hi'
  rw [a3U hm]
  (repeat first | refine uA ?_ | (refine uK ?_ ?_; focus first | omega | (intros; simp_all <;> omega)) | simp (disch := omega) only [go_sem, Nat.reduceBEq, Nat.reduceAdd, ww])
  exact S.done (j3.out rfl (Imp.refl rfl) rfl)
theorem b8j (n : Nms) (s : List UInt8) : n.any (fun x => decide (s = x)) = n.contains s := by
 rw [Bool.eq_iff_iff, List.any_eq_true, List.contains_iff_mem]
 exact ⟨fun ⟨x, h1, h2⟩ => by rw [of_decide_eq_true h2]; exact h1, fun h => ⟨s, h, by simp⟩⟩
theorem b9W (n : Nms) (s : List UInt8) (hn : n.length <= 1099511627776) : u7 Tryz.prog 99 [.sl 1 (nmR n), sb s] (.v (.bool (n.contains s))) := by
 refine kS Tryz.func99 (by cbv) (by rfl) fun w O => ?_
 have h := c0f n s hn
 rw [<- b8j, <- a5k]
 generalize a1K (fun x => decide (s = x)) n = k at *
 simp only [j5]
 simp only [sb, ints] at *
 (repeat first | refine uA ?_ | (refine uK ?_ ?_; focus first | omega | (intros; simp_all <;> omega)) | simp (disch := omega) only [go_sem, Nat.reduceBEq, Nat.reduceAdd, ww] | (refine uB h ?_ ?_; exact rfl))
 exact S.done (j3.out rfl (Imp.refl rfl) rfl)
def rsR (w : Wk) (n : Nms) : List Res := [.box 31 w.enc, .box 153 [.rv 2], .row 9 1 (nmR n)]
theorem b7Z {E : Ctx} (hP : E.P = Tryz.prog) (w : Wk) (n : Nms) (s : List UInt8) (hs : s.length <= 1099511627776) (hn : n.length <= 1000000) :
  l8 E (rsR w n) 98 [sb s, .bp 1 0] (ints (J6 n s).1) (rsR w (J6 n s).2) [2] := by
 obtain ⟨P, eff', N, w0, own0, av0, nu0, pk0⟩ := E
 simp only at hP
 subst hP
 refine l8.of (eff := eff) Tryz.func98 (by cbv) (by exact c1E rfl) fun w' own av ν hν => ?_
 have hν0 : ν.length <= 3 := by rw [hν]; exact c1w _
 have h1 := b8K s hs
 have h2 := b9W n s (by omega)
 have hap : nmR (n ++ [s]) = nmR n ++ [[sb s]] := by simp [nmR]
 unfold J6
 generalize a0m s = q at *
 generalize n.contains s = c at *
 have hl : (nmR n).length = n.length := by simp [nmR]
 obtain ⟨arms, walls, parts, slots, gates, walk⟩ := w
 simp only [j5]
 simp only [rsR, Wk.enc, ams, wls, pts, sls, gts, sb, ints] at h1 h2 hap ⊢
 (repeat first | refine uA ?_ | (refine uK ?_ ?_; focus first | omega | (intros; simp_all <;> omega)) | simp (disch := omega) only [go_sem, Nat.reduceBEq, Nat.reduceAdd, ww] | (refine uB h1 ?_ ?_; exact rfl))
 refine S.cond rfl (fun hc => ?_) (fun hc => ?_)
 ·rw [if_pos (by simpa using hc)]
  (repeat first | refine uA ?_ | (refine uK ?_ ?_; focus first | omega | (intros; simp_all <;> omega)) | simp (disch := omega) only [go_sem, Nat.reduceBEq, Nat.reduceAdd, ww])
  (refine S.done ?_; simp only [p9, l7, go_sem, Nat.reduceBEq, Nat.reduceAdd, Nat.reduceLeDiff, Int.reduceToNat, Int.reducePow]; (repeat (refine ⟨?_, ?_⟩; focus first | trivial | omega | simp)); exact j3.N7 (Imp.refl rfl) (by (repeat first | refine uA ?_ | (refine ⟨?_, ?_⟩; focus first | rfl | simp [slot]) | rfl | simp)) (c1t hν0 (by simp)))
 rw [if_neg (by simpa using hc)]
 (repeat first | refine uA ?_ | (refine uK ?_ ?_; focus first | omega | (intros; simp_all <;> omega)) | simp (disch := omega) only [go_sem, Nat.reduceBEq, Nat.reduceAdd, ww] | (refine uC h2 ?_ ?_ ?_; exact rfl; focus (repeat' first | exact l6.nil | exact Imp.refl rfl | exact Imp.frz rfl rfl rfl | (refine Imp.O8 rfl rfl ?_ ?_; (focus ((try simp only [c1p]); omega)); (focus first | rfl | assumption)) | refine l6.cons ?_ ?_); done))
 refine S.cond rfl (fun hc => ?_) (fun hc => ?_)
 ·rw [if_pos hc]
  (repeat first | refine uA ?_ | (refine uK ?_ ?_; focus first | omega | (intros; simp_all <;> omega)) | simp (disch := omega) only [go_sem, Nat.reduceBEq, Nat.reduceAdd, ww])
  (refine S.done ?_; simp only [p9, l7, go_sem, Nat.reduceBEq, Nat.reduceAdd, Nat.reduceLeDiff, Int.reduceToNat, Int.reducePow]; (repeat (refine ⟨?_, ?_⟩; focus first | trivial | omega | simp)); exact j3.N7 (Imp.refl rfl) (by (repeat first | refine uA ?_ | (refine ⟨?_, ?_⟩; focus first | rfl | simp [slot]) | rfl | simp)) (c1t hν0 (by simp)))
 ·rw [if_neg (by rw [hc]; decide)]
  simp only [hap]
  (repeat first | refine uA ?_ | (refine uK ?_ ?_; focus first | omega | (intros; simp_all <;> omega)) | simp (disch := omega) only [go_sem, Nat.reduceBEq, Nat.reduceAdd, ww, hl])
  (refine S.done ?_; simp only [p9, l7, go_sem, Nat.reduceBEq, Nat.reduceAdd, Nat.reduceLeDiff, Int.reduceToNat, Int.reducePow]; (repeat (refine ⟨?_, ?_⟩; focus first | trivial | omega | simp)); exact j3.N7 (Imp.refl rfl) (by (repeat first | refine uA ?_ | (refine ⟨?_, ?_⟩; focus first | rfl | simp [slot]) | rfl | simp)) (c1t hν0 (by simp)))
theorem a5a (n : Nms) (s : List UInt8) : (J6 n s).2.length <= n.length + 1 := by
 unfold J6
 split
 ·simp
 ·split
  ·simp
  ·simp
theorem b3f (p q : Rat) : decide (Nm.q9 p q = 1) = !decide (Nm.q9 p q <= 0) := by
 have h : -1 <= Nm.q9 p q /\ Nm.q9 p q <= 1 := by
  unfold Nm.q9
  repeat' split
  all_goals first
   | omega
   | (have := a7X (p.num.natAbs * q.den) (q.num.natAbs * p.den); omega)
 by_cases h1 : Nm.q9 p q <= 0
 ·rw [decide_eq_true h1, decide_eq_false (by omega)]; rfl
 ·rw [decide_eq_false h1, decide_eq_true (by omega)]; rfl
theorem b1l (q : Rat) : -1 <= y7 q /\ y7 q <= 1 := by unfold y7; split; omega; split <;> omega
theorem sign_one (q : Rat) : decide (y7 q < 1) = !decide (0 < y7 q) := by
 rw [<- decide_not]; apply decide_eq_decide.2; omega
theorem b4T (q : Rat) : decide (y7 q = -1) = !decide (0 <= y7 q) := by
 have := b1l q
 rw [<- decide_not]; apply decide_eq_decide.2; omega
open Go Eng
set_option maxRecDepth 100000
theorem a6X {a : Nm.Rt} (h : j4 a = true) : a.D5 := by
 rw [V5, c1x] at h
 exact of_decide_eq_true h.1
theorem b2O {q : Rat} : 0 < y7 q <-> 0 < q := by
 have h1 := @Rat.num_nonneg q
 have h2 := @Rat.num_eq_zero q
 unfold y7
 constructor
 ·intro h
  split at h
  ·omega
  ·split at h
   ·omega
   ·rename_i h3 h4
    have h5 : 0 <= q := h1.1 (by omega)
    have h6 : q ≠ 0 := fun e => h3 (h2.2 e)
    grind
 ·intro h
  have h5 : 0 <= q.num := h1.2 (by grind)
  have h6 : q.num ≠ 0 := fun e => by have := h2.1 e; grind
  rw [if_neg h6, if_neg (by omega)]; decide
theorem b2v {q : Rat} : y7 q < 0 <-> q < 0 := by
 have h1 := @Rat.num_nonneg q
 have hn : q.num < 0 <-> q < 0 := by rw [<- Rat.not_le, <- h1]; omega
 unfold y7
 constructor
 ·intro h
  split at h
  ·omega
  ·split at h
   ·exact hn.1 (by assumption)
   ·omega
 ·intro h
  have := hn.2 h
  rw [if_neg (by omega), if_pos this]; decide
theorem b5M (p q : Rat) : a1a p q = if p < q then q else p := by
 unfold a1a
 by_cases h : p < q
 ·rw [if_pos h, if_neg]
  have := (a1E p q).2 h
  omega
 ·rw [if_neg h, if_pos]
  have : ¬ Nm.q9 p q < 0 := fun h2 => h ((a1E p q).1 h2)
  omega
theorem b5r (p q : Rat) : a4V p q = if q < p then q else p := by
 unfold a4V
 by_cases h : q < p
 ·rw [if_pos h, if_neg]
  have := (U1 p q).2 h
  omega
 ·rw [if_neg h, if_pos]
  have : ¬ 0 < Nm.q9 p q := fun h2 => h ((U1 p q).1 h2)
  omega
theorem b8e {l : Lk} (h : T9 l = 0) : a0r l = if 0 < y7 (Nm.d9 l.low) then l.low else if y7 (Nm.d9 l.high) < 0 then l.high else Nm.ofQ 0 := by
 have hlt := (a1E _ _).1 (a3i h).2.1
 have hs : j4 l.low = true /\ j4 l.high = true := by
  unfold T9 at h
  split at h
  ·cases h
  ·rename_i h1
   have h2 : (j4 l.length && j4 l.low && j4 l.high && j4 l.speed && j4 l.brake) = true := by
    cases hb : (j4 l.length && j4 l.low && j4 l.high && j4 l.speed && j4 l.brake) with
    | true => rfl
    | false => exact absurd (.inl hb) h1
   simp only [c1x] at h2
   exact ⟨h2.1.1.1.2, h2.1.1.2⟩
 have g1 := a6X hs.1
 have g2 := a6X hs.2
 unfold a0r
 rw [b5M, b5r]
 by_cases c1 : 0 < Nm.d9 l.low
 ·rw [if_pos (b2O.2 c1)]
  by_cases c2 : 0 < Nm.d9 l.high
  ·rw [if_pos c2, if_neg (by grind), Nm.a6e g1]
  ·rw [if_neg c2, if_neg (by grind), Nm.a6e g1]
 ·rw [if_neg (fun h => c1 (b2O.1 h))]
  by_cases c2 : Nm.d9 l.high < 0
  ·rw [if_pos (b2v.2 c2), if_neg (show ¬ 0 < Nm.d9 l.high by grind), if_pos hlt, Nm.a6e g2]
  ·rw [if_neg (fun h => c2 (b2v.1 h))]
   congr 1
   by_cases c3 : 0 < Nm.d9 l.high
   ·rw [if_pos c3]; split <;> grind
   ·rw [if_neg c3]; split <;> grind
theorem b6L (w : Wk) (hwb : Wb 1073741824 w) (h : W9 w = 0) : FZ 47 [w.c] (J9 w).c := by
 refine kW Tryz.func47 (by cbv) (by rfl) fun w' O hw => ?_
 have hao := a8A h
 obtain ⟨n1, b1⟩ := hwb.arms
 have n3 := hwb.parts.1
 have n4 := hwb.slots.1
 have n5 := hwb.gates.1
 have hz := a7v
 have hfz := b2I
 have hpe : ∀ i, a5X w i = if h : i < w.slots.length then (w.slots[i]).frame else a3d := fun _ => rfl
 unfold J9
 generalize hfp : a5X w = fP at *
 obtain ⟨arms, walls, parts, slots, gates, walk⟩ := w
 simp only at n1 b1 n3 n4 n5 hpe hao ⊢
 simp only [j5]
 simp only [Wk.c, Wk.enc, Stt.c, Stt.enc, ams, wls, pts, sls, gts, E8, frs, vts, bls, rc, sb, ints] at ⊢
 (repeat first | refine uA ?_ | (refine uK ?_ ?_; focus first | omega | (intros; simp_all <;> omega)) | simp (disch := omega) only [go_sem, Nat.reduceBEq, Nat.reduceAdd, ww, c1m, c1q])
 refine S.loop (X := Nat) (fun i => ⟨[(1, .bp 0 0), (2, .bp 1 0), (3, .bp 3 0), (17, ams arms), (18, ints arms.length), (19, ints i)], [.box 31 [ams arms, wls walls, pts parts, sls slots, gts gates, .v (.bool walk.neg), sb walk.num, sb walk.den], .box 37 [.v (.int .i64 0), .v (.slice none 0 0), .v (.slice none 0 0), .v (.slice none 0 0), .v (.slice none 0 0)], .row 4 1 (List.replicate gates.length [.v (.bool false)]), .box 37 [.v (.int .i64 0), .rv 4, .rv 5, .v (.slice none 0 0), .rv 2], .row 90 4 (((arms.take i).map a0t).map Ast.enc), .row 55 10 []]⟩) (fun i => i <= arms.length) (fun i => arms.length - i) 0 (c1s _)
  (Ent.trans (Ent.a1q 3 1 90 4 rfl rfl rfl) (Ent.trans (Ent.a1q 3 2 55 10 rfl rfl rfl) (by (repeat first | refine uA ?_ | (refine ⟨?_, ?_⟩; focus first | rfl | simp [slot]) | rfl | simp)))) ?_
 intro i hi
 simp only [ams, wls, pts, sls, gts, vts, sb, ints]
 (repeat first | refine uA ?_ | (refine uK ?_ ?_; focus first | omega | (intros; simp_all <;> omega)) | simp (disch := omega) only [go_sem, Nat.reduceBEq, Nat.reduceAdd, ww])
 (refine uJ rfl (fun hc => ?_) fun hc => ?_)
 ·have hi' : i < arms.length := by omega
  have hgi := c1l hi'
  have hap : arms.take (i + 1) = arms.take i ++ [arms[i]] := c2c hi'
  have htl : (arms.take i).length = i := by rw [c1z]; omega
  generalize arms[i] = a at hgi hap
  obtain ⟨b0, _, nl, bl⟩ := b1 a (c1o hgi)
  have hlo := (a1B (hao a (c1o hgi))).2
  (repeat first | refine uA ?_ | (refine uK ?_ ?_; focus first | omega | (intros; simp_all <;> omega)) | simp (disch := omega) only [go_sem, Nat.reduceBEq, Nat.reduceAdd, ww, hgi, c1n, c1m, Am.enc, lks, sb])
  refine S.loop (X := Nat) (fun k => ⟨[(1, .bp 0 0), (2, .bp 1 0), (3, .bp 3 0), (6, .bp 7 0), (17, ams arms), (18, ints arms.length), (19, ints i), (25, lks a.links), (26, ints a.links.length), (27, ints k)], [.box 31 [ams arms, wls walls, pts parts, sls slots, gts gates, .v (.bool walk.neg), sb walk.num, sb walk.den], .box 37 [.v (.int .i64 0), .v (.slice none 0 0), .v (.slice none 0 0), .v (.slice none 0 0), .v (.slice none 0 0)], .row 4 1 (List.replicate gates.length [.v (.bool false)]), .box 37 [.v (.int .i64 0), .rv 4, .rv 5, .v (.slice none 0 0), .rv 2], .row 90 4 (((arms.take i).map a0t).map Ast.enc), .row 55 10 [], .gone, .box 90 [.rv 8, .rv 9, .v (.bool false), .v (.int .i64 (-1))], .row 29 3 (((a.links.take k).map a0r).map rcs), .row 29 3 (((a.links.take k).map fun _ => Nm.ofQ 0).map rcs)]⟩) (fun k => k <= a.links.length) (fun k => a.links.length - k) 0 (c1s _)
   (Ent.trans (Ent.a1q 7 0 29 3 rfl rfl rfl) (Ent.trans (Ent.a1q 7 1 29 3 rfl rfl rfl) (by (repeat first | refine uA ?_ | (refine ⟨?_, ?_⟩; focus first | rfl | simp [slot]) | rfl | simp)))) ?_
  intro k hk
  simp only [ams, wls, pts, sls, gts, lks, vts, sb, ints]
  (repeat first | refine uA ?_ | (refine uK ?_ ?_; focus first | omega | (intros; simp_all <;> omega)) | simp (disch := omega) only [go_sem, Nat.reduceBEq, Nat.reduceAdd, ww])
  (refine uJ rfl (fun hc => ?_) fun hc => ?_)
  ·have hk' : k < a.links.length := by omega
   have hgk := c1l hk'
   have hak : a.links.take (k + 1) = a.links.take k ++ [a.links[k]] := c2c hk'
   have htk : (a.links.take k).length = k := by rw [c1z]; omega
   generalize a.links[k] = l at hgk hak
   obtain ⟨_, l2, l3, _⟩ := bl l (c1o hgk)
   have o1 := M5 l.low (l2.mono (by decide))
   have o2 := M5 l.high (l3.mono (by decide))
   have hq := b8e (hlo l (c1o hgk))
   unfold rq at hz
   generalize y7 (Nm.d9 l.low) = s1 at *
   generalize y7 (Nm.d9 l.high) = s2 at *
   generalize hz0 : Nm.ofQ 0 = r0 at *
   simp only [rc, sb, ints] at o1 o2 hz
   (repeat first | refine uA ?_ | (refine uK ?_ ?_; focus first | omega | (intros; simp_all <;> omega)) | simp (disch := omega) only [go_sem, Nat.reduceBEq, Nat.reduceAdd, ww, hgk, c1n, c1m, Lk.enc, vts, sb] | (refine uD hz ?_ ?_ ?_; exact tz hw; exact rfl) | (refine uD o1 ?_ ?_ ?_; exact tz hw; exact rfl))
   refine S.join (Y := Nm.Rt) (fun q => ⟨[(1, .bp 0 0), (2, .bp 1 0), (3, .bp 3 0), (6, .bp 7 0), (9, .bp 11 0), (17, ams arms), (18, ints arms.length), (19, ints i), (25, lks a.links), (26, ints a.links.length), (27, ints k)], [.box 31 [ams arms, wls walls, pts parts, sls slots, gts gates, .v (.bool walk.neg), sb walk.num, sb walk.den], .box 37 [.v (.int .i64 0), .v (.slice none 0 0), .v (.slice none 0 0), .v (.slice none 0 0), .v (.slice none 0 0)], .row 4 1 (List.replicate gates.length [.v (.bool false)]), .box 37 [.v (.int .i64 0), .rv 4, .rv 5, .v (.slice none 0 0), .rv 2], .row 90 4 (((arms.take i).map a0t).map Ast.enc), .row 55 10 [], .gone, .box 90 [.rv 8, .rv 9, .v (.bool false), .v (.int .i64 (-1))], .row 29 3 (((a.links.take k).map a0r).map rcs), .row 29 3 (((a.links.take k).map fun _ => r0).map rcs), .gone, .box 29 (rcs q)]⟩) (fun q => q = a0r l) ?_ ?_
   ·refine S.cond rfl (fun hc2 => ?_) (fun hc2 => ?_)
    ·rw [if_pos (by simpa using hc2)] at hq
     (repeat first | refine uA ?_ | (refine uK ?_ ?_; focus first | omega | (intros; simp_all <;> omega)) | simp (disch := omega) only [go_sem, Nat.reduceBEq, Nat.reduceAdd, ww])
     exact S.met l.low hq.symm (by simp only [ams, wls, pts, sls, gts, lks, vts, rcs, sb, ints]; exact (by (repeat first | refine uA ?_ | (refine ⟨?_, ?_⟩; focus first | rfl | simp [slot]) | rfl | simp)))
    rw [if_neg (by simpa using hc2)] at hq
    (repeat first | refine uA ?_ | (refine uK ?_ ?_; focus first | omega | (intros; simp_all <;> omega)) | simp (disch := omega) only [go_sem, Nat.reduceBEq, Nat.reduceAdd, ww] | (refine uD o2 ?_ ?_ ?_; exact tz hw; exact rfl))
    refine S.cond rfl (fun hc3 => ?_) (fun hc3 => ?_)
    ·rw [if_pos (by simpa using hc3)] at hq
     (repeat first | refine uA ?_ | (refine uK ?_ ?_; focus first | omega | (intros; simp_all <;> omega)) | simp (disch := omega) only [go_sem, Nat.reduceBEq, Nat.reduceAdd, ww])
     exact S.met l.high hq.symm (by simp only [ams, wls, pts, sls, gts, lks, vts, rcs, sb, ints]; exact (by (repeat first | refine uA ?_ | (refine ⟨?_, ?_⟩; focus first | rfl | simp [slot]) | rfl | simp)))
    ·rw [if_neg (by simpa using hc3)] at hq
     (repeat first | refine uA ?_ | (refine uK ?_ ?_; focus first | omega | (intros; simp_all <;> omega)) | simp (disch := omega) only [go_sem, Nat.reduceBEq, Nat.reduceAdd, ww])
     exact S.met r0 hq.symm (by simp only [ams, wls, pts, sls, gts, lks, vts, rcs, sb, ints]; exact (by (repeat first | refine uA ?_ | (refine ⟨?_, ?_⟩; focus first | rfl | simp [slot]) | rfl | simp)))
   rintro q rfl
   clear hq
   simp only [ams, wls, pts, sls, gts, lks, vts, rcs, sb, ints]
   (repeat first | refine uI ?_ | (refine uK ?_ ?_; focus first | omega | (intros; simp_all <;> omega)) | simp (disch := omega) only [go_sem, Nat.reduceBEq, Nat.reduceAdd, ww])
   refine S.H6 [.gone, .gone, .gone, .gone, .gone, .gone, .gone, .box 90 [.junk, .rv 9, .v (.bool false), .v (.int .i64 (-1))]] (by simp [Eng.F3, Eng.leC]) ?_
   (repeat first | refine uA ?_ | (refine uK ?_ ?_; focus first | omega | (intros; simp_all <;> omega)) | simp (disch := omega) only [go_sem, Nat.reduceBEq, Nat.reduceAdd, ww, KMd, c1m, htk] | (refine uD hz ?_ ?_ ?_; exact tz hw; exact rfl))
   refine S.next (k + 1) (by omega) (by omega) (by simp only [hak, hz0, c2d, c1F, c1L, rcs, sb]; exact (by (repeat first | refine uA ?_ | (refine ⟨?_, ?_⟩; focus first | rfl | simp [slot]) | rfl | simp)))
  ·have hk' : k = a.links.length := by omega
   subst hk'
   rw [c1I]
   refine S.exit rfl ?_
   refine S.weaken (st' := ⟨[(1, .bp 0 0), (2, .bp 1 0), (3, .bp 3 0), (6, .bp 7 0), (17, ams arms), (18, ints arms.length), (19, ints i)], [.box 31 [ams arms, wls walls, pts parts, sls slots, gts gates, .v (.bool walk.neg), sb walk.num, sb walk.den], .box 37 [.v (.int .i64 0), .v (.slice none 0 0), .v (.slice none 0 0), .v (.slice none 0 0), .v (.slice none 0 0)], .row 4 1 (List.replicate gates.length [.v (.bool false)]), .box 37 [.v (.int .i64 0), .rv 4, .rv 5, .v (.slice none 0 0), .rv 2], .row 90 4 (((arms.take i).map a0t).map Ast.enc), .row 55 10 [], .gone, .box 90 (a0t a).enc]⟩) (Ent.mk _ _ (by (repeat first | refine uA ?_ | (refine ⟨?_, ?_⟩; focus first | rfl | simp [slot]) | rfl | simp)) (by (repeat' (first | exact M4.nil | exact RI.gone _ | exact RI.row _ _ _ _ rfl | exact RI.map _ _ _ rfl | exact RI.box _ _ _ (l6.refl rfl) | (refine RI.box _ _ _ ?_; (repeat' (first | exact l6.nil | exact Imp.refl rfl | exact Imp.frz rfl rfl rfl | exact Imp.K4 | refine l6.cons ?_ ?_))) | refine M4.cons ?_ ?_))) (c1s _)) ?_
   simp only [ams, wls, pts, sls, gts, vts, sb, ints, Ast.enc, rts]
   (repeat first | refine uA ?_ | (refine uK ?_ ?_; focus first | omega | (intros; simp_all <;> omega)) | simp (disch := omega) only [go_sem, Nat.reduceBEq, Nat.reduceAdd, ww, c1m, htl])
   refine S.next (i + 1) (by omega) (by omega) (by simp only [hap, c2d, c1F, c1L, Ast.enc, rts, ints]; exact (by (repeat first | refine uA ?_ | (refine ⟨?_, ?_⟩; focus first | rfl | simp [slot]) | rfl | simp)))
 ·have hi' : i = arms.length := by omega
  subst hi'
  rw [c1I]
  (repeat first | refine uA ?_ | (refine uK ?_ ?_; focus first | omega | (intros; simp_all <;> omega)) | simp (disch := omega) only [go_sem, Nat.reduceBEq, Nat.reduceAdd, ww, c1m])
  refine S.loop (X := Nat) (fun i => ⟨[(1, .bp 0 0), (2, .bp 1 0), (3, .bp 3 0), (66, ints parts.length), (67, ints i)], [.box 31 [ams arms, wls walls, pts parts, sls slots, gts gates, .v (.bool walk.neg), sb walk.num, sb walk.den], .box 37 [.v (.int .i64 0), .v (.slice none 0 0), .v (.slice none 0 0), .v (.slice none 0 0), .v (.slice none 0 0)], .row 4 1 (List.replicate gates.length [.v (.bool false)]), .box 37 [.v (.int .i64 0), .rv 4, .rv 5, .v (.slice none 0 0), .rv 2], .row 90 4 ((arms.map a0t).map Ast.enc), .row 55 10 (((List.range i).map fP).map Fr.enc)]⟩) (fun i => i <= parts.length) (fun i => parts.length - i) 0 (c1s _) (by (repeat first | refine uA ?_ | (refine ⟨?_, ?_⟩; focus first | rfl | simp [slot]) | rfl | simp)) ?_
  intro i hi
  simp only [ams, wls, pts, sls, gts, vts, sb, ints]
  (repeat first | refine uA ?_ | (refine uK ?_ ?_; focus first | omega | (intros; simp_all <;> omega)) | simp (disch := omega) only [go_sem, Nat.reduceBEq, Nat.reduceAdd, ww])
  (refine uJ rfl (fun hc => ?_) fun hc => ?_)
  ·have hrl : ((List.range i).map fP).length = i := by simp
   simp only [a3d, Fr.c, Fr.enc, sb] at hfz
   (repeat first | refine uA ?_ | (refine uK ?_ ?_; focus first | omega | (intros; simp_all <;> omega)) | simp (disch := omega) only [go_sem, Nat.reduceBEq, Nat.reduceAdd, ww, c1m])
   refine S.cond rfl (fun hc => ?_) (fun hc => ?_)
   ·have hsi : i < slots.length := by simp at hc; omega
    have hgs := c1l hsi
    have hf : fP i = (slots[i]).frame := by rw [hpe i, dif_pos hsi]
    generalize slots[i] = s at hgs hf
    (repeat first | refine uA ?_ | (refine uK ?_ ?_; focus first | omega | (intros; simp_all <;> omega)) | simp (disch := omega) only [go_sem, Nat.reduceBEq, Nat.reduceAdd, ww, hgs, c1n, c1m, Sl.enc, sb, c1q, hrl, List.length_range])
    refine S.next (i + 1) (by omega) (by omega) (by simp only [List.range_succ, c2d, c1F, c1L, hf, Fr.enc, sb]; exact (by (repeat first | refine uA ?_ | (refine ⟨?_, ?_⟩; focus first | rfl | simp [slot]) | rfl | simp)))
   ·have hf : fP i = a3d := by rw [hpe i, dif_neg (by simp at hc; omega)]
    (repeat first | refine uA ?_ | (refine uK ?_ ?_; focus first | omega | (intros; simp_all <;> omega)) | simp (disch := omega) only [go_sem, Nat.reduceBEq, Nat.reduceAdd, ww, c1m, hrl, List.length_range] | (refine uD hfz ?_ ?_ ?_; exact tz hw; exact rfl))
    refine S.next (i + 1) (by omega) (by omega) (by simp only [List.range_succ, c2d, c1F, c1L, hf, a3d, Fr.enc, sb]; exact (by (repeat first | refine uA ?_ | (refine ⟨?_, ?_⟩; focus first | rfl | simp [slot]) | rfl | simp)))
  ·have hi' : i = parts.length := by omega
   subst hi'
   simp only [List.map_replicate]
   (repeat first | refine uA ?_ | (refine uK ?_ ?_; focus first | omega | (intros; simp_all <;> omega)) | simp (disch := omega) only [go_sem, Nat.reduceBEq, Nat.reduceAdd, ww])
   (refine S.done ?_; simp only [p9, l7, go_sem, Nat.reduceBEq, Nat.reduceAdd, Nat.reduceLeDiff, Int.reduceToNat, Int.reducePow]; (repeat (refine ⟨?_, ?_⟩; focus first | trivial | omega | simp)); exact j3.out rfl (Imp.agg (by (repeat' (first | exact l6.nil | exact Imp.refl rfl | exact Imp.frz rfl rfl rfl | exact Imp.K4 | refine l6.cons ?_ ?_)))) rfl)
set_option maxRecDepth 10000
set_option maxHeartbeats 8000000
instance : DecidableEq Nm.Rt := fun ⟨a, b, c⟩ ⟨d, e, f⟩ => decidable_of_iff (a = d /\ b = e /\ c = f) ⟨fun ⟨h1, h2, h3⟩ => by rw [h1, h2, h3], fun h => by injection h with h1 h2 h3; exact ⟨h1, h2, h3⟩⟩
instance : DecidableEq Vt := fun ⟨a, b⟩ ⟨d, e⟩ => decidable_of_iff (a = d /\ b = e) ⟨fun ⟨h1, h2⟩ => by rw [h1, h2], fun h => by injection h with h1 h2; exact ⟨h1, h2⟩⟩
instance : DecidableEq Fr := fun ⟨a, b, c, g⟩ ⟨d, e, f, h⟩ => decidable_of_iff (a = d /\ b = e /\ c = f /\ g = h) ⟨fun ⟨h1, h2, h3, h4⟩ => by rw [h1, h2, h3, h4], fun h => by injection h with h1 h2 h3 h4; exact ⟨h1, h2, h3, h4⟩⟩
instance : DecidableEq Ast := fun ⟨a, b, c, g⟩ ⟨d, e, f, h⟩ => decidable_of_iff (a = d /\ b = e /\ c = f /\ g = h) ⟨fun ⟨h1, h2, h3, h4⟩ => by rw [h1, h2, h3, h4], fun h => by injection h with h1 h2 h3 h4; exact ⟨h1, h2, h3, h4⟩⟩
instance : DecidableEq Stt := fun ⟨a, b, c, g, i⟩ ⟨d, e, f, h, j⟩ => decidable_of_iff (a = d /\ b = e /\ c = f /\ g = h /\ i = j) ⟨fun ⟨h1, h2, h3, h4, h5⟩ => by rw [h1, h2, h3, h4, h5], fun h => by injection h with h1 h2 h3 h4 h5; exact ⟨h1, h2, h3, h4, h5⟩⟩
theorem b9g (a b : List Nm.Rt) (hn : a.length <= 1000000000000) (hb : b.length <= 1000000000000) : u7 Tryz.prog 144 [rts a, rts b] (.v (.bool (decide (a = b)))) := by
  refine kS Tryz.func144 (by cbv) (by rfl) fun w O => ?_
  simp only [j5, ints, rts]
  (repeat first | refine uA ?_ | (refine uK ?_ ?_; focus first | omega | (intros; simp_all <;> omega)) | simp (disch := omega) only [go_sem, Nat.reduceBEq, Nat.reduceAdd, ww, c1m])
  (refine uJ rfl (fun hc => ?_) fun hc => ?_)
  · have hne : ¬ a = b := fun e => hc (by rw [e])
    rw [decide_eq_false hne]
    (repeat first | refine uA ?_ | (refine uK ?_ ?_; focus first | omega | (intros; simp_all <;> omega)) | simp (disch := omega) only [go_sem, Nat.reduceBEq, Nat.reduceAdd, ww])
    exact S.done (j3.out rfl (Imp.refl rfl) rfl)
  have hlen : a.length = b.length := by omega
  (repeat first | refine uA ?_ | (refine uK ?_ ?_; focus first | omega | (intros; simp_all <;> omega)) | simp (disch := omega) only [go_sem, Nat.reduceBEq, Nat.reduceAdd, ww, c1m])
  refine S.loop (X := Nat) (fun i => ⟨[(0, rts a), (1, rts b), (12, ints a.length), (13, ints i)], []⟩)
    (fun i => i <= a.length /\ a.take i = b.take i) (fun i => a.length - i) 0 ⟨c1s _, by simp⟩ (by (repeat first | refine uA ?_ | (refine ⟨?_, ?_⟩; focus first | rfl | simp [slot]) | rfl | simp)) ?_
  rintro i ⟨hi, he⟩
  simp only [ints, rts] at hi ⊢
  (repeat first | refine uA ?_ | (refine uK ?_ ?_; focus first | omega | (intros; simp_all <;> omega)) | simp (disch := omega) only [go_sem, Nat.reduceBEq, Nat.reduceAdd, ww])
  (refine uJ rfl (fun hc => ?_) fun hc => ?_)
  · have hgi := c1l (show i < a.length by omega)
    have hgj := c1l (show i < b.length by omega)
    have hti := c2c (show i < a.length by omega)
    have htj := c2c (show i < b.length by omega)
    generalize a[i]'_ = z at hgi hti
    generalize b[i]'_ = y at hgj htj
    by_cases hzy : z = y
    · subst hzy
      (repeat first | refine uA ?_ | (refine uK ?_ ?_; focus first | omega | (intros; simp_all <;> omega)) | simp (disch := omega) only [go_sem, Nat.reduceBEq, Nat.reduceAdd, ww, hgi, hgj, c1n, c1m, rcs, sb, c1q, a4Y, beq_self_eq_true, decide_true])
      refine S.cond rfl (fun hc2 => by simp at hc2) (fun hc2 => ?_)
      (repeat first | refine uA ?_ | (refine uK ?_ ?_; focus first | omega | (intros; simp_all <;> omega)) | simp (disch := omega) only [go_sem, Nat.reduceBEq, Nat.reduceAdd, ww])
      refine S.next (i + 1) ⟨by omega, by rw [hti, htj, he]⟩ (by omega) (by (repeat first | refine uA ?_ | (refine ⟨?_, ?_⟩; focus first | rfl | simp [slot]) | rfl | simp))
    · have hne : ¬ a = b := fun e => by
        subst e
        rw [hgi] at hgj
        injection hgj with hgj
        exact hzy hgj
      obtain ⟨z1, z2, z3⟩ := z
      obtain ⟨y1, y2, y3⟩ := y
      (repeat first | refine uA ?_ | (refine uK ?_ ?_; focus first | omega | (intros; simp_all <;> omega)) | simp (disch := omega) only [go_sem, Nat.reduceBEq, Nat.reduceAdd, ww, hgi, hgj, c1n, c1m, rcs, sb, c1q, a4Y])
      refine S.cond rfl (fun hc2 => ?_) (fun hc2 => by simp at hc2 hzy; simp_all)
      rw [decide_eq_false hne]
      (repeat first | refine uA ?_ | (refine uK ?_ ?_; focus first | omega | (intros; simp_all <;> omega)) | simp (disch := omega) only [go_sem, Nat.reduceBEq, Nat.reduceAdd, ww])
      exact S.done (j3.out rfl (Imp.refl rfl) rfl)
  have hi' : i = a.length := by omega
  subst hi'
  have hab : a = b := by
    rw [c1I] at he
    rw [hlen, c1I] at he
    exact he
  rw [decide_eq_true hab]
  (repeat first | refine uA ?_ | (refine uK ?_ ?_; focus first | omega | (intros; simp_all <;> omega)) | simp (disch := omega) only [go_sem, Nat.reduceBEq, Nat.reduceAdd, ww])
  exact S.done (j3.out rfl (Imp.refl rfl) rfl)
theorem b4m (x n : Int) (h : 1 <= n) : x % n = (if x.tmod n < 0 then x.tmod n + n else x.tmod n) /\ -n < x.tmod n /\ x.tmod n < n := by
 have hq : x = n * (x.tdiv n) + x.tmod n := (Int.mul_tdiv_add_tmod x n).symm
 have he : x % n = x.tmod n % n := by
  conv => lhs; rw [hq]
  exact Int.mul_add_emod_self_left ..
 have h2 := Int.tmod_lt_of_pos x (show 0 < n by omega)
 have h3 : -n < x.tmod n := by
  have := Int.tmod_lt_of_pos (-x) (show 0 < n by omega)
  rw [Int.neg_tmod] at this
  omega
 refine ⟨?_, h3, h2⟩
 rw [he]
 split
 ·rename_i hc
  have : x.tmod n % n = (x.tmod n + n) % n := by simp
  rw [this]
  exact Int.emod_eq_of_lt (by omega) (by omega)
 ·exact Int.emod_eq_of_lt (by omega) (by omega)
theorem b6U (x n : Int) (h : 1 <= n /\ n <= 4611686018427387904) : u7 Tryz.prog 12 [ints x, ints n] (ints (x % n)) := by
 refine kS Tryz.func12 (by cbv) (by rfl) fun w O => ?_
 simp only [j5, ints]
 have hn : ¬ n = 0 := by omega
 obtain ⟨he, hlt⟩ := b4m x n (by omega)
 (repeat first | refine uA ?_ | (refine uK ?_ ?_; focus first | omega | (intros; simp_all <;> omega)) | simp (disch := omega) only [go_sem, Nat.reduceBEq, Nat.reduceAdd, ww, hn])
 (refine uJ rfl (fun hc => ?_) fun hc => ?_)
 ·rw [he, if_pos hc]
  (repeat first | refine uA ?_ | (refine uK ?_ ?_; focus first | omega | (intros; simp_all <;> omega)) | simp (disch := omega) only [go_sem, Nat.reduceBEq, Nat.reduceAdd, ww])
  exact S.done (j3.out rfl (Imp.refl rfl) rfl)
 ·rw [he, if_neg hc]
  (repeat first | refine uA ?_ | (refine uK ?_ ?_; focus first | omega | (intros; simp_all <;> omega)) | simp (disch := omega) only [go_sem, Nat.reduceBEq, Nat.reduceAdd, ww])
  exact S.done (j3.out rfl (Imp.refl rfl) rfl)
def a0I (l : List Int) : C := .sl 1 (l.map fun n => [.v (.int .i64 n)])
theorem a0G {E : Ctx} (hP : E.P = Tryz.prog) (l : List Int) (n : Int) (h : 1 <= n /\ n <= 4611686018427387904) :
  l8 E [.box 225 [a0I l]] 173 [.bp 0 0, ints n] (ints (nx l n)) [.box 225 [a0I (l.drop 1)]] [] := by
 obtain ⟨P, eff', N, w0, own0, av0, nu0, pk0⟩ := E
 simp only at hP
 subst hP
 refine l8.of (eff := eff) Tryz.func173 (by cbv) (by exact c1E rfl) fun w own av ν hν => ?_
 have hν0 : ν.length <= 1 := by rw [hν]; exact c1w _
 have hn1 : decide (n < 1) = false := decide_eq_false (by omega)
 cases l with
 | nil =>
  have e : nx [] n = 0 := by unfold nx; rw [List.headD_nil, Int.zero_emod]
  rw [e]
  simp only [j5, a0I, ints, List.drop_nil, c1L]
  (repeat first | refine uA ?_ | (refine uK ?_ ?_; focus first | omega | (intros; simp_all <;> omega)) | simp (disch := omega) only [go_sem, Nat.reduceBEq, Nat.reduceAdd, ww, hn1, List.length_nil])
  refine S.cond rfl (fun hc => ?_) (fun hc => by simp at hc)
  (repeat first | refine uA ?_ | (refine uK ?_ ?_; focus first | omega | (intros; simp_all <;> omega)) | simp (disch := omega) only [go_sem, Nat.reduceBEq, Nat.reduceAdd, ww])
  (refine S.done ?_; simp only [p9, l7, go_sem, Nat.reduceBEq, Nat.reduceAdd, Nat.reduceLeDiff, Int.reduceToNat, Int.reducePow]; (repeat (refine ⟨?_, ?_⟩; focus first | trivial | omega | simp)); exact j3.N7 (Imp.refl rfl) (by (repeat first | refine uA ?_ | (refine ⟨?_, ?_⟩; focus first | rfl | simp [slot]) | rfl | simp)) (c1t hν0 (by simp)))
 | cons x r =>
  have e : nx (x :: r) n = x % n := by unfold nx; rw [List.headD_cons]
  rw [e]
  have hb := b6U x n h
  have h0 : decide (((r.length : Int) + 1) = 0) = false := decide_eq_false (by omega)
  simp only [j5, a0I, ints, c1F, List.drop_succ_cons, List.drop_zero] at *
  (repeat first | refine uA ?_ | (refine uK ?_ ?_; focus first | omega | (intros; simp_all <;> omega)) | simp (disch := omega) only [go_sem, Nat.reduceBEq, Nat.reduceAdd, ww, hn1, h0, c1J, c1m] | (refine uB hb ?_ ?_; exact rfl))
  refine S.cond rfl (fun hc => by simp at hc; omega) (fun hc => ?_)
  (repeat first | refine uA ?_ | (refine uK ?_ ?_; focus first | omega | (intros; simp_all <;> omega)) | simp (disch := omega) only [go_sem, Nat.reduceBEq, Nat.reduceAdd, ww, hn1, c1J, c1m, List.getElem?_cons_zero, a4X, List.take_succ_cons, List.drop_succ_cons, Nat.add_sub_cancel, c1I] | (refine uB hb ?_ ?_; exact rfl))
  (refine S.done ?_; simp only [p9, l7, go_sem, Nat.reduceBEq, Nat.reduceAdd, Nat.reduceLeDiff, Int.reduceToNat, Int.reducePow]; (repeat (refine ⟨?_, ?_⟩; focus first | trivial | omega | simp)); exact j3.N7 (Imp.refl rfl) (by (repeat first | refine uA ?_ | (refine ⟨?_, ?_⟩; focus first | rfl | simp [slot]) | rfl | simp)) (c1t hν0 (by simp)))
def a5U (l : List UInt8) (i : Nat) (out : List UInt8) : Prop :=
 out.length = l.length /\ ∀ k, k < l.length -> out[k]? = if k < i \/ l.length - i <= k then l[l.length - 1 - k]? else l[k]?
theorem b1X (l : List UInt8) : a5U l 0 l := ⟨rfl, fun k hk => by rw [if_neg (by omega)]⟩
theorem b1A {l out : List UInt8} {i : Nat} {x y : UInt8} (h : a5U l i out) (hi : i + 1 < l.length - i) (hx : out[i]? = some x) (hy : out[l.length - 1 - i]? = some y) : a5U l (i + 1) ((out.set i y).set (l.length - 1 - i) x) := by
 obtain ⟨h1, h2⟩ := h
 have e1 := h2 i (by omega)
 have e2 := h2 (l.length - 1 - i) (by omega)
 rw [if_neg (by omega), hx] at e1
 rw [if_neg (by omega), hy] at e2
 refine ⟨by simp [h1], fun k hk => ?_⟩
 by_cases k1 : k = l.length - 1 - i
 ·subst k1
  rw [List.getElem?_set_self (by simp; omega), if_pos (by omega), e1]
  congr 1
  omega
 ·rw [List.getElem?_set_ne (fun e => k1 e.symm)]
  by_cases k2 : k = i
  ·subst k2
   rw [List.getElem?_set_self (by omega), if_pos (by omega), e2]
  ·rw [List.getElem?_set_ne (fun e => k2 e.symm), h2 k hk]
   by_cases k3 : k < i \/ l.length - i <= k
   ·rw [if_pos k3, if_pos (by omega)]
   ·rw [if_neg k3, if_neg (by omega)]
theorem b4h {l out : List UInt8} {i : Nat} (h : a5U l i out) (hi : l.length - i <= i + 1) : out = l.reverse := by
 obtain ⟨h1, h2⟩ := h
 apply List.ext_getElem?
 intro k
 rcases c1M k l.length with hk | hk
 ·rw [h2 k hk, List.getElem?_reverse hk]
  by_cases k3 : k < i \/ l.length - i <= k
  ·rw [if_pos k3]
  ·rw [if_neg k3, show l.length - 1 - k = k by omega]
 ·rw [c1X (by omega), c1X (by simp; omega)]
theorem c0o {E : Ctx} (hP : E.P = Tryz.prog) (l : List UInt8) (hl : l.length <= 1099511627776) : l8 E [.row 5 1 (l.map F6)] 189 [.rv 0] (.tup []) [.row 5 1 (l.reverse.map F6)] [] := by
 obtain ⟨P, eff', N, w0, own0, av0, nu0, pk0⟩ := E
 simp only at hP
 subst hP
 refine l8.of (eff := eff) Tryz.func189 (by cbv) (by exact c1E rfl) fun w own av ν hν => ?_
 have hν0 : ν.length <= 1 := by rw [hν]; exact c1w _
 simp only [j5]
 (repeat first | refine uA ?_ | (refine uK ?_ ?_; focus first | omega | (intros; simp_all <;> omega)) | simp (disch := omega) only [go_sem, Nat.reduceBEq, Nat.reduceAdd, ww, c1m])
 refine S.loop (X := Nat × List UInt8) (fun x => ⟨[(0, .rv 0), (2, ints x.1), (3, ints ((l.length : Int) - 1 - (x.1 : Int)))], [.row 5 1 (x.2.map F6)]⟩) (fun x => x.1 <= l.length /\ a5U l x.1 x.2) (fun x => l.length - x.1) (0, l) ⟨c1s _, b1X l⟩ (by simp only [Int.natCast_zero, Int.sub_zero]; exact (by (repeat first | refine uA ?_ | (refine ⟨?_, ?_⟩; focus first | rfl | simp [slot]) | rfl | simp | exact c1t hν0 (by simp)))) ?_
 rintro ⟨i, out⟩ ⟨hi, hinv⟩
 simp only [ints] at hi hinv ⊢
 have hol := hinv.1
 (repeat first | refine uA ?_ | (refine uK ?_ ?_; focus first | omega | (intros; simp_all <;> omega)) | simp (disch := omega) only [go_sem, Nat.reduceBEq, Nat.reduceAdd, ww])
 (refine uJ rfl (fun hc => ?_) fun hc => ?_)
 ·have gi : out[i]? = some (out[i]'(by omega)) := c1l (by omega)
  have gj : out[l.length - 1 - i]? = some (out[l.length - 1 - i]'(by omega)) := c1l (by omega)
  have hst := b1A hinv (by omega) gi gj
  have hsk : l.length - 1 - i ≠ i := by omega
  generalize out[i]'_ = xi at *
  generalize out[l.length - 1 - i]'_ = xj at *
  have gj2 : (out.set i xj)[l.length - 1 - i]? = some xj := by rw [List.getElem?_set_ne (Ne.symm hsk)]; exact gj
  have n0 : ((l.length : Int) - 1 - (i : Int)).toNat = l.length - 1 - i := by omega
  have e1 : (out.map F6).set i [.v (.int .u8 ((xj.toNat : Nat) : Int))] = (out.set i xj).map F6 := a2Q out i xj
  have e2 : ((out.set i xj).map F6).set (l.length - 1 - i) [.v (.int .u8 ((xi.toNat : Nat) : Int))] = ((out.set i xj).set (l.length - 1 - i) xi).map F6 := a2Q _ _ _
  have hr : (l.length : Int) - 1 - ((i + 1 : Nat) : Int) = (l.length : Int) - 1 - (i : Int) - 1 := by omega
  (repeat first | refine uA ?_ | (refine uK ?_ ?_; focus first | omega | (intros; simp_all <;> omega)) | simp (disch := omega) only [go_sem, Nat.reduceBEq, Nat.reduceAdd, ww, c1m, gi, gj, gj2, n0, e1, e2, F6, c1n, c1q, c1Z])
  refine S.next (x := (i, out)) (i + 1, _) ⟨by simp only; omega, hst⟩ (by simp only; omega) (by simp only [hr]; exact (by (repeat first | refine uA ?_ | (refine ⟨?_, ?_⟩; focus first | rfl | simp [slot]) | rfl | simp | exact c1t hν0 (by simp))))
 ·have := b4h hinv (by omega)
  subst this
  (repeat first | refine uA ?_ | (refine uK ?_ ?_; focus first | omega | (intros; simp_all <;> omega)) | simp (disch := omega) only [go_sem, Nat.reduceBEq, Nat.reduceAdd, ww])
  exact S.end_ (j3.own rfl)
theorem b0A (n : Nat) (hn : n < 4611686018427387904) : u7 Tryz.prog 80 [.v (.int .i64 (n : Int))] (sb (Nm.enc n)) := by
  refine kS Tryz.func80 (by cbv) (by rfl) fun w O => ?_
  have h8 : (Nm.enc n).length <= 8 := Nm.G6 (by omega)
  simp only [j5, sb]
  (repeat first | refine uA ?_ | (refine uK ?_ ?_; focus first | omega | (intros; simp_all <;> omega)) | simp (disch := omega) only [go_sem, Nat.reduceBEq, Nat.reduceAdd, ww])
  refine S.loop (X := Nat × List UInt8) (fun x => ⟨[(0, ints x.1), (3, .rv 0)], [.row 5 1 (x.2.map F6)]⟩) (fun x => x.1 <= n /\ Nm.enc x.1 ++ x.2.reverse = Nm.enc n) (fun x => x.1) (n, []) ⟨c1w _, by simp⟩ (Ent.trans (Ent.pack 3 5 1 rfl) (by (repeat first | refine uA ?_ | (refine ⟨?_, ?_⟩; focus first | rfl | simp [slot]) | rfl | simp))) ?_
  rintro ⟨m, out⟩ ⟨hm, hinv⟩
  simp only [ints] at hm hinv ⊢
  have hol : out.length <= 8 := by
    have := congrArg List.length hinv
    simp only [c1p, List.length_reverse] at this
    omega
  (repeat first | refine uA ?_ | (refine uK ?_ ?_; focus first | omega | (intros; simp_all <;> omega)) | simp (disch := omega) only [go_sem, Nat.reduceBEq, Nat.reduceAdd, ww])
  (refine uJ rfl (fun hc => ?_) fun hc => ?_)
  · have he : Nm.enc m = Nm.enc (m / 256) ++ [UInt8.ofNat (m % 256)] := by
      conv => lhs; unfold Nm.enc
      rw [if_neg (by omega)]
    have hb : (UInt8.ofNat (m % 256)).toNat = m % 256 := by simp
    have h1 : IntKind.u8.wrap (Int.tmod (m : Int) 256) = (((UInt8.ofNat (m % 256)).toNat : Nat) : Int) := by
      rw [hb, show Int.tmod (m : Int) 256 = ((m % 256 : Nat) : Int) from rfl, a1m]
      omega
    have h2 : Int.tdiv (m : Int) 256 = ((m / 256 : Nat) : Int) := rfl
    have hap : Nm.enc (m / 256) ++ (out ++ [UInt8.ofNat (m % 256)]).reverse = Nm.enc n := by
      rw [List.reverse_append, <- hinv, he]
      simp
    generalize UInt8.ofNat (m % 256) = b at *
    (repeat first | refine uA ?_ | (refine uK ?_ ?_; focus first | omega | (intros; simp_all <;> omega)) | simp (disch := omega) only [go_sem, Nat.reduceBEq, Nat.reduceAdd, ww, c1m, h1, h2])
    refine S.next (x := (m, out)) (m / 256, out ++ [b]) ⟨by simp only; omega, hap⟩ (by simp only; omega) (by simp only [c2d, c1F, c1L, F6]; exact (by (repeat first | refine uA ?_ | (refine ⟨?_, ?_⟩; focus first | rfl | simp [slot]) | rfl | simp)))
  · have h0 : m = 0 := by omega
    subst h0
    rw [Nm.a0U, List.nil_append] at hinv
    have hr := fun (E : Ctx) (hP : E.P = Tryz.prog) => c0o hP out (by omega)
    rw [hinv] at hr
    (repeat first | refine uA ?_ | (refine uK ?_ ?_; focus first | omega | (intros; simp_all <;> omega)) | simp (disch := omega) only [go_sem, Nat.reduceBEq, Nat.reduceAdd, ww, O7, a1U] | refine l9.t (l8.lift (k := 0) rfl (hr _ rfl) rfl rfl rfl) ?_)
    exact S.done (j3.out rfl (Imp.refl rfl) rfl)
theorem b6Y (a b : Nat) (h : 0 < b) : Nat.gcd b (a % b) = Nat.gcd a b := by
 rw [Nat.gcd_comm b, <- Nat.gcd_rec, Nat.gcd_comm]
theorem a2D (n d : Int) (hn : -1099511627776 <= n /\ n <= 1099511627776) (hd : 1 <= d /\ d <= 1099511627776) : u7 Tryz.prog 17 [ints n, ints d] (rc (Q n d)) := by
 refine kS Tryz.func17 (by cbv) (by rfl) fun w O => ?_
 obtain ⟨m, rfl⟩ : ∃ m : Nat, d = m := ⟨d.toNat, by omega⟩
 have hq : Q n m = Nm.ofQ (mkRat (Nm.sgn (decide (n < 0)) n.natAbs) m) := by
  unfold Q
  have : Nm.sgn (decide (n < 0)) n.natAbs = n := by unfold Nm.sgn; by_cases h : n < 0 <;> simp [h] <;> omega
  rw [this, c1q]
 rw [hq, <- Nm.a8M _ (by omega)]
 have hmx : (if n < -n then -n else n) = ((n.natAbs : Nat) : Int) := by split <;> omega
 have hwn : IntKind.i64.wrap (0 - n) = -n := by rw [Eng.wrap_i64 (by omega)]; omega
 have hgp : 0 < Nat.gcd n.natAbs m := Nat.gcd_pos_of_pos_right _ (by omega)
 simp only [j5, ints]
 (repeat first | refine uA ?_ | (refine uK ?_ ?_; focus first | omega | (intros; simp_all <;> omega)) | simp (disch := omega) only [go_sem, Nat.reduceBEq, Nat.reduceAdd, ww, hwn, hmx])
 refine S.loop (X := Nat × Nat) (fun x => ⟨[(0, ints n), (1, ints m), (4, .bp 0 0), (5, ints x.1), (6, ints x.2)], [.box 29 [.v (.bool false), .v (.string ⟨#[]⟩), .v (.string ⟨#[]⟩)]]⟩) (fun x => Nat.gcd x.1 x.2 = Nat.gcd n.natAbs m /\ x.1 <= 1099511627776 /\ x.2 <= 1099511627776) (fun x => x.2) (n.natAbs, m) ⟨rfl, by omega, by omega⟩ (by (repeat first | refine uA ?_ | (refine ⟨?_, ?_⟩; focus first | rfl | simp [slot]) | rfl | simp)) ?_
 rintro ⟨a, b⟩ ⟨hg, ha, hb⟩
 simp only [ints] at hg ha hb ⊢
 (repeat first | refine uA ?_ | (refine uK ?_ ?_; focus first | omega | (intros; simp_all <;> omega)) | simp (disch := omega) only [go_sem, Nat.reduceBEq, Nat.reduceAdd, ww])
 (refine uJ rfl (fun hc => ?_) fun hc => ?_)
 ·have h1 : Int.tmod (a : Int) (b : Int) = ((a % b : Nat) : Int) := rfl
  have hlt : a % b < b := Nat.mod_lt _ (by omega)
  have hb0 : ¬ ((b : Int) = 0) := by omega
  (repeat first | refine uA ?_ | (refine uK ?_ ?_; focus first | omega | (intros; simp_all <;> omega)) | simp (disch := omega) only [go_sem, Nat.reduceBEq, Nat.reduceAdd, ww, h1, hb0])
  refine S.next (x := (a, b)) (b, a % b) ⟨by simp only; rw [b6Y a b (by omega)]; exact hg, by simp only; omega, by simp only; omega⟩ (by simp only; omega) (by (repeat first | refine uA ?_ | (refine ⟨?_, ?_⟩; focus first | rfl | simp [slot]) | rfl | simp))
 ·have hb0 : b = 0 := by omega
  subst hb0
  rw [Nat.gcd_zero_right] at hg
  subst hg
  have ha0 : ¬ (((Nat.gcd n.natAbs m : Nat) : Int) = 0) := by omega
  generalize hgg : Nat.gcd n.natAbs m = g at *
  have hdvn : g ∣ n.natAbs := by rw [<- hgg]; exact Nat.gcd_dvd_left ..
  have e2 : Int.tdiv (m : Int) (g : Int) = ((m / g : Nat) : Int) := rfl
  obtain ⟨k, hk⟩ := hdvn
  have hkq : n.natAbs / g = k := by rw [hk]; exact Nat.mul_div_cancel_left _ hgp
  have e1 : Int.tdiv n (g : Int) = Nm.sgn (decide (n < 0)) k := by
   have h3 : (n : Int) = (g : Int) * Nm.sgn (decide (n < 0)) k := by
    have h4 : ((n.natAbs : Nat) : Int) = (g : Int) * (k : Int) := by rw [hk]; simp
    unfold Nm.sgn
    by_cases h : n < 0
    ·simp only [h, decide_true, if_true, Int.mul_neg]; omega
    ·simp only [h, decide_false, c1V, if_false]; omega
   rw [show Int.tdiv n (g : Int) = Int.tdiv ((g : Int) * Nm.sgn (decide (n < 0)) k) (g : Int) from congrArg (fun z => Int.tdiv z (g : Int)) h3]
   exact Int.mul_tdiv_cancel_left _ (by omega)
  have hkb : k <= 1099511627776 := by
   have : k <= g * k := Nat.le_mul_of_pos_left k hgp
   omega
  have hmb : m / g <= m := Nat.div_le_self _ _
  have hs : -1099511627776 <= Nm.sgn (decide (n < 0)) k /\ Nm.sgn (decide (n < 0)) k <= 1099511627776 := by unfold Nm.sgn; split <;> omega
  have hneg : decide (Nm.sgn (decide (n < 0)) k < 0) = (decide (n < 0) && !decide (k = 0)) := by
   unfold Nm.sgn
   by_cases h : n < 0
   ·by_cases h0 : k = 0
    ·subst h0; simp [h]
    ·simp [h, h0]; try omega
   ·simp [h]; try omega
  have hab : (if Nm.sgn (decide (n < 0)) k < -(Nm.sgn (decide (n < 0)) k) then -(Nm.sgn (decide (n < 0)) k) else Nm.sgn (decide (n < 0)) k) = ((k : Nat) : Int) := by unfold Nm.sgn; split <;> split <;> omega
  have hws : IntKind.i64.wrap (0 - Nm.sgn (decide (n < 0)) k) = -(Nm.sgn (decide (n < 0)) k) := by rw [Eng.wrap_i64 (by omega)]; omega
  have hwm : IntKind.i64.wrap ((m / g : Nat) : Int) = ((m / g : Nat) : Int) := by
   generalize m / g = z at *
   exact Eng.wrap_i64 (by omega)
  have d1 := b0A k (by omega)
  have d2 := b0A (m / g) (by omega)
  have hres : (if n.natAbs = 0 then Nm.a2z else ⟨decide (n < 0), Nm.enc (n.natAbs / g), Nm.enc (m / g)⟩ : Nm.Rt) = ⟨decide (n < 0) && !decide (k = 0), Nm.enc k, Nm.enc (m / g)⟩ := by
   rw [hkq]
   by_cases h0 : n.natAbs = 0
   ·have hn0 : n = 0 := by omega
    subst hn0
    have hk0 : k = 0 := by
     rcases c1K k with h | h
     ·exact h
     ·have := Nat.mul_pos hgp h; omega
    have hgm : g = m := by rw [<- hgg]; simp
    subst hk0
    have h1 : m / g = 1 := by rw [hgm]; exact Nat.div_self (by omega)
    rw [h1, Nm.a1G, Nm.a0U]
    rfl
   ·have hk0 : k ≠ 0 := by intro h; subst h; omega
    rw [if_neg h0]
    simp [hk0]
  rw [hres]
  rw [<- hneg]
  simp only [rc, sb] at d1 d2 ⊢
  generalize Nm.sgn (decide (n < 0)) k = s at *
  (repeat first | refine uA ?_ | (refine uK ?_ ?_; focus first | omega | (intros; simp_all <;> omega)) | simp (disch := omega) only [go_sem, Nat.reduceBEq, Nat.reduceAdd, ww, ha0, e1, e2, hws, hab, hwm] | (refine uB d1 ?_ ?_; exact rfl) | (refine uB d2 ?_ ?_; exact rfl))
  (refine S.done ?_; simp only [p9, l7, go_sem, Nat.reduceBEq, Nat.reduceAdd, Nat.reduceLeDiff, Int.reduceToNat, Int.reducePow]; (repeat (refine ⟨?_, ?_⟩; focus first | trivial | omega | simp)); exact j3.out rfl (Imp.refl rfl) rfl)
theorem a5V (x y : Int) (hx : -1000000 <= x /\ x <= 1000000) (hy : -1000000 <= y /\ y <= 1000000) : u7 Tryz.prog 177 [ints x, ints y] (atV x y).c := by
 refine kS Tryz.func177 (by cbv) (by rfl) fun w O => ?_
 have h1 := a2D x 4 (by omega) (by omega)
 have h2 := a2D y 4 (by omega) (by omega)
 unfold atV
 generalize Q x 4 = qx at *
 generalize Q y 4 = qy at *
 simp only [j5]
 simp only [rc, sb, ints, Vt.c, Vt.enc] at *
 (repeat first | refine uA ?_ | (refine uK ?_ ?_; focus first | omega | (intros; simp_all <;> omega)) | simp (disch := omega) only [go_sem, Nat.reduceBEq, Nat.reduceAdd, ww] | (refine uB h1 ?_ ?_; exact rfl) | (refine uB h2 ?_ ?_; exact rfl))
 (refine S.done ?_; simp only [p9, l7, go_sem, Nat.reduceBEq, Nat.reduceAdd, Nat.reduceLeDiff, Int.reduceToNat, Int.reducePow]; (repeat (refine ⟨?_, ?_⟩; focus first | trivial | omega | simp)); exact j3.out rfl (Imp.refl rfl) rfl)
theorem b9Y (x y u v : Int) (hx : -100000 <= x /\ x <= 100000) (hy : -100000 <= y /\ y <= 100000) (hu : -100000 <= u /\ u <= 100000) (hv : -100000 <= v /\ v <= 100000) : u7 Tryz.prog 175 [ints x, ints y, ints u, ints v] (vts (a9L x y u v)) := by
 refine kS Tryz.func175 (by cbv) (by rfl) fun w O => ?_
 have h1 := a5V x y (by omega) (by omega)
 have h2 := a5V u y (by omega) (by omega)
 have h3 := a5V u v (by omega) (by omega)
 have h4 := a5V x v (by omega) (by omega)
 unfold a9L
 generalize atV x y = p1 at *
 generalize atV u y = p2 at *
 generalize atV u v = p3 at *
 generalize atV x v = p4 at *
 simp only [j5]
 simp only [vts, Vt.c, Vt.enc, sb, ints] at *
 (repeat first | refine uA ?_ | (refine uK ?_ ?_; focus first | omega | (intros; simp_all <;> omega)) | simp (disch := omega) only [go_sem, Nat.reduceBEq, Nat.reduceAdd, ww] | (refine uB h1 ?_ ?_; exact rfl) | (refine uB h2 ?_ ?_; exact rfl) | (refine uB h3 ?_ ?_; exact rfl) | (refine uB h4 ?_ ?_; exact rfl))
 exact S.done (j3.out rfl (Imp.frz rfl rfl rfl) rfl)
set_option maxRecDepth 100000
set_option maxHeartbeats 16000000
theorem b6f (n : Nat) (h : n <= 3) : ([[C.v (.string ⟨#[111, 110, 101]⟩)], [C.v (.string ⟨#[116, 119, 111]⟩)], [C.v (.string ⟨#[116, 104, 114, 101, 101]⟩)], [C.v (.string ⟨#[102, 111, 117, 114]⟩)]] : List (List C))[n]? = some [C.v (.string (bs (b7t n)))] := by
 match n, h with
 | 0, _ => rfl
 | 1, _ => rfl
 | 2, _ => rfl
 | 3, _ => rfl
theorem b8m (k : Int) (h0 : 0 <= k) (h1 : k < 4) : ([[C.v (.int .i64 0)], [C.v (.int .i64 1)], [C.v (.int .i64 (-1))], [C.v (.int .i64 1)]] : List (List C))[k.toNat]? = some [C.v (.int .i64 (a5A k))] := by
 have : k = 0 \/ k = 1 \/ k = 2 \/ k = 3 := by omega
 rcases this with rfl | rfl | rfl | rfl <;> rfl
theorem b5H (k : Int) : -1 <= a5A k /\ a5A k <= 1 := by unfold a5A; split; omega; split <;> omega
theorem c0z {E : Ctx} (hP : E.P = Tryz.prog) (l : List Int) (n : Nat) (hn : n <= 3) :
  l8 E [.box 225 [a0I l]] 174 [.bp 0 0, .v (.int .i64 (n : Int))] (a9Z l n).c [.box 225 [a0I (a7m l)]] [] := by
 obtain ⟨P, eff', N, w0, own0, av0, nu0, pk0⟩ := E
 simp only at hP
 subst hP
 refine l8.of (eff := eff) Tryz.func174 (by cbv) (by exact c1E rfl) fun w own av ν hν => ?_
 have hν0 : ν.length <= 1 := by rw [hν]; exact c1w _
 have hnm := b6f n hn
 have h1 := a5V (40 * (n : Int)) 0 (by omega) (by omega)
 have k1 := fun (E : Ctx) (hP : E.P = Tryz.prog) => a0G hP l 4 (by decide)
 have k2 := fun (E : Ctx) (hP : E.P = Tryz.prog) => a0G hP (l.drop 1) 3 (by decide)
 have k3 := fun (E : Ctx) (hP : E.P = Tryz.prog) => a0G hP (l.drop 2) 3 (by decide)
 have a1 := Y4 l (n := 4) (by decide)
 have a2 := a3m l (n := 4) (by decide)
 have a3 := Y4 (l.drop 1) (n := 3) (by decide)
 have a4 := a3m (l.drop 1) (n := 3) (by decide)
 have a5 := Y4 (l.drop 2) (n := 3) (by decide)
 have a6 := a3m (l.drop 2) (n := 3) (by decide)
 have htn := b8m (nx l 4) a1 a2
 have htr := b5H (nx l 4)
 have h2 := a2D (a5A (nx l 4)) (1 + nx (l.drop 1) 3) (by omega) (by omega)
 rw [List.drop_drop] at k2 k3
 have hc : ((a5w l : Nat) : Int) = 1 + nx (l.drop 2) 3 := by unfold a5w; omega
 have hc3 : a5w l <= 3 := by omega
 have hR : a7m l = (l.drop 3).drop (6 * a5w l) := by unfold a7m; rw [List.drop_drop]
 unfold a9Z
 rw [hR]
 generalize a5w l = c at *
 generalize l.drop 3 = l0 at *
 unfold atV at h1
 generalize Q (40 * (n : Int)) 4 = q1 at *
 generalize Q 0 4 = q2 at *
 generalize a5A (nx l 4) = tn at *
 generalize Q tn (1 + nx (l.drop 1) 3) = q3 at *
 generalize nx l 4 = x1 at *
 generalize nx (l.drop 1) 3 = x2 at *
 generalize nx (l.drop 2) 3 = x3 at *
 generalize b7t n = nm at *
 simp only [j5]
 simp only [Am.c, Am.enc, Vt.c, Vt.enc, rc, a0I, sb, ints, lks] at h1 h2 k1 k2 k3 ⊢
 (repeat first | refine uA ?_ | (refine uK ?_ ?_; focus first | omega | trivial | (intros; simp_all <;> omega)) | simp (disch := omega) only [go_sem, Nat.reduceBEq, Nat.reduceAdd, Nat.reduceLeDiff, Int.reduceToNat, Int.reducePow, ww, hnm, htn, c1q] | refine l9.t (l8.lift (k := 0) rfl (k1 _ rfl) rfl rfl rfl) ?_ | refine l9.t (l8.lift (k := 0) rfl (k2 _ rfl) rfl rfl rfl) ?_ | (refine uB h1 ?_ ?_; exact rfl) | (refine uB h2 ?_ ?_; exact rfl))
 (repeat first | refine uA ?_ | (refine uK ?_ ?_; focus first | omega | trivial | (intros; simp_all <;> omega)) | simp (disch := omega) only [go_sem, Nat.reduceBEq, Nat.reduceAdd, Nat.reduceLeDiff, Int.reduceToNat, Int.reducePow, ww] | refine l9.t (l8.lift (k := 0) rfl (k3 _ rfl) rfl rfl rfl) ?_)
 rw [<- hc]
 refine S.loop (X := Nat × List Lk × List Int) (fun x => ⟨[(0, .bp 0 0), (4, .bp 1 0), (5, .bp 3 0), (30, ints c), (31, ints x.1)], [.box 225 [a0I x.2.2], .box 76 [.v (.string ⟨#[]⟩), .v (.bool false), .v (.string ⟨#[]⟩), .v (.string ⟨#[]⟩), .v (.bool false), .v (.string ⟨#[]⟩), .v (.string ⟨#[]⟩), .v (.bool false), .v (.bool false), .v (.string ⟨#[]⟩), .v (.string ⟨#[]⟩), .v (.slice none 0 0)], .gone, .box 76 [.v (.string (bs nm)), .v (.bool q1.neg), .v (.string (bs q1.num)), .v (.string (bs q1.den)), .v (.bool q2.neg), .v (.string (bs q2.num)), .v (.string (bs q2.den)), .v (.bool false), .v (.bool q3.neg), .v (.string (bs q3.num)), .v (.string (bs q3.den)), .rv 4], .row 158 16 (x.2.1.map Lk.enc)]⟩)
  (fun x => x.1 <= c /\ x.2.1.length = x.1 /\ x.2.1 ++ a4N (c - x.1) x.2.2 = a4N c l0 /\ x.2.2.drop (6 * (c - x.1)) = l0.drop (6 * c)) (fun x => c - x.1) (0, [], l0) ⟨c1s _, rfl, rfl, rfl⟩ (Ent.trans (Ent.a1q 3 11 158 16 rfl rfl rfl) (by (repeat first | refine uA ?_ | (refine ⟨?_, ?_⟩; focus first | rfl | trivial | (simp [slot]; done)) | rfl | trivial | simp | exact c1t hν0 (by simp)))) ?_
 rintro ⟨i, ls, m⟩ ⟨hi, hls, hL, hM⟩
 simp only [ints, a0I] at hi hls hL hM ⊢
 (repeat first | refine uA ?_ | (refine uK ?_ ?_; focus first | omega | trivial | (intros; simp_all <;> omega)) | simp (disch := omega) only [go_sem, Nat.reduceBEq, Nat.reduceAdd, Nat.reduceLeDiff, Int.reduceToNat, Int.reducePow, ww])
 (refine uJ rfl (fun hc => ?_) fun hc => ?_)
 ·have hi' : c - i = (c - i - 1) + 1 := by omega
  have n0 := fun (E : Ctx) (hP : E.P = Tryz.prog) => a0G hP (m.drop 0) 4 (by decide)
  have a0 := Y4 (m.drop 0) (n := 4) (by decide)
  have b0 := a3m (m.drop 0) (n := 4) (by decide)
  have n1 := fun (E : Ctx) (hP : E.P = Tryz.prog) => a0G hP (m.drop 1) 6 (by decide)
  have a1 := Y4 (m.drop 1) (n := 6) (by decide)
  have b1 := a3m (m.drop 1) (n := 6) (by decide)
  have n2 := fun (E : Ctx) (hP : E.P = Tryz.prog) => a0G hP (m.drop 2) 6 (by decide)
  have a2 := Y4 (m.drop 2) (n := 6) (by decide)
  have b2 := a3m (m.drop 2) (n := 6) (by decide)
  have n3 := fun (E : Ctx) (hP : E.P = Tryz.prog) => a0G hP (m.drop 3) 8 (by decide)
  have a3 := Y4 (m.drop 3) (n := 8) (by decide)
  have b3 := a3m (m.drop 3) (n := 8) (by decide)
  have n4 := fun (E : Ctx) (hP : E.P = Tryz.prog) => a0G hP (m.drop 4) 20 (by decide)
  have a4 := Y4 (m.drop 4) (n := 20) (by decide)
  have b4 := a3m (m.drop 4) (n := 20) (by decide)
  have n5 := fun (E : Ctx) (hP : E.P = Tryz.prog) => a0G hP (m.drop 5) 3 (by decide)
  have a5 := Y4 (m.drop 5) (n := 3) (by decide)
  have b5 := a3m (m.drop 5) (n := 3) (by decide)
  rw [hi', a4N] at hL
  have hM2 : (m.drop 6).drop (6 * (c - (i + 1))) = l0.drop (6 * c) := by rw [List.drop_drop, <- hM]; congr 1; omega
  rw [show c - i - 1 = c - (i + 1) by omega] at hL
  simp only [List.drop_drop, List.drop_zero] at n0 n1 n2 n3 n4 n5 a0 b0
  unfold b7J b7E at hL
  have o1 := a2D (4 + 2 * nx m 4) 4 (by omega) (by omega)
  have o2 := a2D (-1 - nx (m.drop 1) 6) 3 (by omega) (by omega)
  have o3 := a2D (1 + nx (m.drop 2) 6) 3 (by omega) (by omega)
  have o4 := a2D 1 (4 + nx (m.drop 3) 8) (by omega) (by omega)
  have o5 := a2D 1 (10 + nx (m.drop 4) 20) (by omega) (by omega)
  have o6 := b9Y (-1) (-1) (4 + 2 * nx m 4 + 1) 1 (by omega) (by omega) (by omega) (by omega)
  have o7 := a5V (-1) (-1) (by omega) (by omega)
  have o8 := a5V (4 + 2 * nx m 4 + 1) 0 (by omega) (by omega)
  have o9 := a5V (-1) 1 (by omega) (by omega)
  generalize Q (4 + 2 * nx m 4) 4 = p1 at *
  generalize Q (-1 - nx (m.drop 1) 6) 3 = p2 at *
  generalize Q (1 + nx (m.drop 2) 6) 3 = p3 at *
  generalize Q 1 (4 + nx (m.drop 3) 8) = p4 at *
  generalize Q 1 (10 + nx (m.drop 4) 20) = p5 at *
  generalize a9L (-1) (-1) (4 + 2 * nx m 4 + 1) 1 = r6 at *
  generalize atV (-1) (-1) = v7 at *
  generalize atV (4 + 2 * nx m 4 + 1) 0 = v8 at *
  generalize atV (-1) 1 = v9 at *
  generalize nx m 4 = y0 at *
  generalize nx (m.drop 1) 6 = y1 at *
  generalize nx (m.drop 2) 6 = y2 at *
  generalize nx (m.drop 3) 8 = y3 at *
  generalize nx (m.drop 4) 20 = y4 at *
  generalize nx (m.drop 5) 3 = y5 at *
  simp only [a0I, ints, rc, sb, vts, Vt.c, Vt.enc] at n0 n1 n2 n3 n4 n5 o1 o2 o3 o4 o5 o6 o7 o8 o9
  (repeat first | refine uA ?_ | (refine uK ?_ ?_; focus first | omega | trivial | (intros; simp_all <;> omega)) | simp (disch := omega) only [go_sem, Nat.reduceBEq, Nat.reduceAdd, Nat.reduceLeDiff, Int.reduceToNat, Int.reducePow, ww] | refine l9.t (l8.lift (k := 0) rfl (n0 _ rfl) rfl rfl rfl) ?_ | refine l9.t (l8.lift (k := 0) rfl (n1 _ rfl) rfl rfl rfl) ?_ | refine l9.t (l8.lift (k := 0) rfl (n2 _ rfl) rfl rfl rfl) ?_ | refine l9.t (l8.lift (k := 0) rfl (n3 _ rfl) rfl rfl rfl) ?_ | refine l9.t (l8.lift (k := 0) rfl (n4 _ rfl) rfl rfl rfl) ?_ | refine l9.t (l8.lift (k := 0) rfl (n5 _ rfl) rfl rfl rfl) ?_ | (refine uB o1 ?_ ?_; exact rfl) | (refine uB o2 ?_ ?_; exact rfl) | (refine uB o3 ?_ ?_; exact rfl) | (refine uB o4 ?_ ?_; exact rfl) | (refine uB o5 ?_ ?_; exact rfl) | (refine uB o6 ?_ ?_; exact rfl))
  refine S.join (Y := List Vt) (fun sh => ⟨[(0, .bp 0 0), (4, .bp 1 0), (5, .bp 3 0), (7, .bp 5 0), (30, ints c), (31, ints i)], [.box 225 [a0I (m.drop 6)], .box 76 [.v (.string ⟨#[]⟩), .v (.bool false), .v (.string ⟨#[]⟩), .v (.string ⟨#[]⟩), .v (.bool false), .v (.string ⟨#[]⟩), .v (.string ⟨#[]⟩), .v (.bool false), .v (.bool false), .v (.string ⟨#[]⟩), .v (.string ⟨#[]⟩), .v (.slice none 0 0)], .gone, .box 76 [.v (.string (bs nm)), .v (.bool q1.neg), .v (.string (bs q1.num)), .v (.string (bs q1.den)), .v (.bool q2.neg), .v (.string (bs q2.num)), .v (.string (bs q2.den)), .v (.bool false), .v (.bool q3.neg), .v (.string (bs q3.num)), .v (.string (bs q3.den)), .rv 4], .row 158 16 (ls.map Lk.enc), .box 158 (Lk.enc ⟨p1, p2, p3, p4, p5, sh⟩)]⟩) (fun sh => sh = if y5 = 2 then [v7, v8, v9] else r6) ?_ ?_
  ·refine S.cond rfl (fun hc => ?_) (fun hc => ?_)
   ·(repeat first | refine uA ?_ | (refine uK ?_ ?_; focus first | omega | trivial | (intros; simp_all <;> omega)) | simp (disch := omega) only [go_sem, Nat.reduceBEq, Nat.reduceAdd, Nat.reduceLeDiff, Int.reduceToNat, Int.reducePow, ww] | (refine uB o7 ?_ ?_; exact rfl) | (refine uB o8 ?_ ?_; exact rfl) | (refine uB o9 ?_ ?_; exact rfl))
    exact S.met [v7, v8, v9] (by simp at hc; rw [if_pos hc]) (Ent.mk _ _ (by (repeat' (first | exact a0f.nil | exact Imp.junk | exact Imp.refl rfl | exact Imp.eq (by simp [slot]; done) rfl | refine a0f.cons ?_ ?_))) (by (repeat' (first | exact M4.nil | exact RI.gone _ | exact RI.row _ _ _ _ rfl | exact RI.map _ _ _ rfl | exact RI.box _ _ _ (l6.refl rfl) | (refine RI.box _ _ _ ?_; (repeat' (first | exact l6.nil | exact Imp.refl rfl | exact Imp.frz rfl rfl rfl | exact Imp.K4 | refine l6.cons ?_ ?_))) | refine M4.cons ?_ ?_))) (c1t hν0 (by simp)))
   ·(repeat first | refine uA ?_ | (refine uK ?_ ?_; focus first | omega | trivial | (intros; simp_all <;> omega)) | simp (disch := omega) only [go_sem, Nat.reduceBEq, Nat.reduceAdd, Nat.reduceLeDiff, Int.reduceToNat, Int.reducePow, ww])
    exact S.met r6 (by simp at hc; rw [if_neg hc]) (by (repeat first | refine uA ?_ | (refine ⟨?_, ?_⟩; focus first | rfl | trivial | (simp [slot]; done)) | rfl | trivial | simp | exact c1t hν0 (by simp)))
  rintro sh hsh
  rw [<- hsh] at hL
  simp only [a0I, ints, Lk.enc, vts]
  (repeat first | refine uA ?_ | (refine uK ?_ ?_; focus first | omega | trivial | (intros; simp_all <;> omega)) | simp (disch := omega) only [go_sem, Nat.reduceBEq, Nat.reduceAdd, Nat.reduceLeDiff, Int.reduceToNat, Int.reducePow, ww, c1m, hls])
  refine S.next (x := (i, ls, m)) (i + 1, ls ++ [⟨p1, p2, p3, p4, p5, sh⟩], m.drop 6) ⟨by simp only; omega, by simp [hls], by simp only; rw [c1P]; exact hL, by simp only; exact hM2⟩ (by simp only; omega) (by simp only [c2d, c1F, c1L]; exact (by (repeat first | refine uA ?_ | (refine ⟨?_, ?_⟩; focus first | rfl | trivial | (simp [slot]; done)) | rfl | trivial | simp | exact c1t hν0 (by simp))))
 ·have hi' : i = c := by omega
  subst hi'
  rw [Nat.sub_self, a4N, List.append_nil] at hL
  rw [Nat.sub_self, Nat.mul_zero, List.drop_zero] at hM
  subst hL
  subst hM
  (repeat first | refine uA ?_ | (refine uK ?_ ?_; focus first | omega | trivial | (intros; simp_all <;> omega)) | simp (disch := omega) only [go_sem, Nat.reduceBEq, Nat.reduceAdd, Nat.reduceLeDiff, Int.reduceToNat, Int.reducePow, ww])
  (refine S.done ?_; simp only [p9, l7, go_sem, Nat.reduceBEq, Nat.reduceAdd, Nat.reduceLeDiff, Int.reduceToNat, Int.reducePow]; (repeat (refine ⟨?_, ?_⟩; focus first | trivial | omega | simp)); exact j3.N7 (Imp.agg (by (repeat' (first | exact l6.nil | exact Imp.refl rfl | exact Imp.frz rfl rfl rfl | exact Imp.K4 | refine l6.cons ?_ ?_)))) (by (repeat first | refine uA ?_ | (refine ⟨?_, ?_⟩; focus first | rfl | trivial | (simp [slot]; done)) | rfl | trivial | simp)) (c1t hν0 (by simp)))
theorem b4R {w : World} {O : Nat -> Prop} {sz : Nat} : Fz w O (.sl sz []) (.slice none 0 0) := by
 simp only [Fz]
 exact ⟨none, 0, rfl, c1w _, c1s _, fun h => absurd h (by simp)⟩
def I5 : Wk := ⟨[a9Z [] 0], [], [], [], [], Q 0 8⟩
theorem a4c : W9 I5 = 0 := by decide +kernel
theorem b0z : Wb 1048576 I5 := by
 have ha := a8A a4c
 refine ⟨⟨by decide, fun x hx => (a1B (ha x hx)).1⟩, ⟨by decide, fun x hx => by cases hx⟩, ⟨by decide, fun x hx => by cases hx⟩, ⟨by decide, fun x hx => by cases hx⟩, ⟨by decide, fun x hx => by cases hx⟩, ⟨by decide +kernel, by decide +kernel⟩⟩
theorem S.a9O {E : Ctx} {Q : Exit -> Act -> World -> Prop} {st : St} {k : List It} {body : IC} (h : ∀ J, S E Q st (.code body :: .inv J :: k)) : S E Q st (.code (.loop body) :: k) :=
 S.loop (X := Unit) (fun _ => st) (fun _ => True) (fun _ => 0) () trivial (fun _ ν _ _ h => ⟨ν, h⟩) fun _ _ => h _
theorem b6I : u7 Tryz.prog 69 [a0I []] I5.c := by
 refine kS a6I a6H (by rfl) fun w O => ?_
 have k2 := fun (E : Ctx) (hP : E.P = Tryz.prog) => a0G hP [] 2 (by decide)
 have k3 := fun (E : Ctx) (hP : E.P = Tryz.prog) => a0G hP [] 3 (by decide)
 have k4 := fun (E : Ctx) (hP : E.P = Tryz.prog) => a0G hP [] 4 (by decide)
 have ha : ∀ i : Nat, i = 0 -> ∀ E : Ctx, E.P = Tryz.prog -> l8 E [.box 225 [a0I []]] 174 [.bp 0 0, .v (.int .i64 (i : Int))] (a9Z [] 0).c [.box 225 [a0I (a7m [])]] [] := fun i h E hP => by subst h; exact c0z hP [] 0 (by decide)
 have o1 := a2D 0 8 (by decide) (by decide)
 have e1 : a7m [] = [] := by unfold a7m; exact List.drop_nil
 rw [e1] at ha
 simp only [List.drop_nil, show nx [] 2 = 0 from rfl, show nx [] 3 = 0 from rfl, show nx [] 4 = 0 from rfl, a0I, c1L, ints] at k2 k3 k4 ha o1
 unfold I5
 generalize a9Z [] 0 = A at *
 generalize Q 0 8 = q at *
 simp only [Am.c, Am.enc, lks, rc, sb] at ha o1
 simp only [a3b, j5, TT, II, OA, OB, OC, MM, LL, VV, FF, MG, LG, VG, FG]
 simp only [a0I, c1L]
 (repeat first | refine uA ?_ | (refine uK ?_ ?_; focus first | omega | (intros; simp_all <;> omega)) | simp (disch := omega) only [go_sem, Nat.reduceBEq, Nat.reduceAdd, ww] | refine l9.t (l8.lift (k := 1) rfl (k2 _ rfl) rfl rfl rfl) ?_)
 refine S.loop (X := Nat) (fun i => ⟨[(2, .bp 0 0), (3, .bp 1 0), (4, .bp 2 0), (17, ints 1), (18, ints i)], [.box 31 [.v (.slice none 0 0), .v (.slice none 0 0), .v (.slice none 0 0), .v (.slice none 0 0), .v (.slice none 0 0), .v (.bool false), .v (.string ⟨#[]⟩), .v (.string ⟨#[]⟩)], .box 225 [.sl 1 []], .box 31 [.rv 3, .v (.slice none 0 0), .v (.slice none 0 0), .v (.slice none 0 0), .v (.slice none 0 0), .v (.bool false), .v (.string ⟨#[]⟩), .v (.string ⟨#[]⟩)], .row 76 12 ((List.replicate i A).map Am.enc)]⟩) (fun i => i <= 1) (fun i => 1 - i) 0 (by decide) (Ent.trans (Ent.a1q 2 0 76 12 rfl rfl rfl) (by (repeat first | refine uA ?_ | (refine ⟨?_, ?_⟩; focus first | rfl | simp [slot]) | rfl | simp))) ?_
 intro i hi
 simp only [ints]
 (repeat first | refine uA ?_ | (refine uK ?_ ?_; focus first | omega | (intros; simp_all <;> omega)) | simp (disch := omega) only [go_sem, Nat.reduceBEq, Nat.reduceAdd, ww])
 (refine uJ rfl (fun hc => ?_) fun hc => ?_)
 ·have hi' : i = 0 := by omega
  have ha := ha i hi'
  (repeat first | refine uI ?_ | (refine uK ?_ ?_; focus first | omega | (intros; simp_all <;> omega)) | simp (disch := omega) only [go_sem, Nat.reduceBEq, Nat.reduceAdd, ww])
  refine S.H6 [.gone, .gone, .box 31 [.rv 3, .v (.slice none 0 0), .v (.slice none 0 0), .v (.slice none 0 0), .v (.slice none 0 0), .v (.bool false), .v (.string ⟨#[]⟩), .v (.string ⟨#[]⟩)]] (by simp [Eng.F3, Eng.X0]) ?_
  (repeat first | refine uA ?_ | (refine uK ?_ ?_; focus first | omega | (intros; simp_all <;> omega)) | simp (disch := omega) only [go_sem, Nat.reduceBEq, Nat.reduceAdd, ww, c1m, List.length_replicate, F3] | refine l9.t (l8.lift (k := 1) rfl (ha _ rfl) rfl rfl rfl) ?_)
  refine S.next (i + 1) (by omega) (by omega) (by simp only [List.replicate_succ', c2d, c1F, c1L, Am.enc, lks, sb, ints]; exact (by (repeat first | refine uA ?_ | (refine ⟨?_, ?_⟩; focus first | rfl | simp [slot]) | rfl | simp)))
 have hi' : i = 1 := by omega
 subst hi'
 (repeat first | refine uA ?_ | (refine uK ?_ ?_; focus first | omega | (intros; simp_all <;> omega)) | simp (disch := omega) only [go_sem, Nat.reduceBEq, Nat.reduceAdd, ww] | refine l9.t (l8.lift (k := 1) rfl (k3 _ rfl) rfl rfl rfl) ?_)
 refine S.a9O fun J => ?_
 (repeat first | refine uA ?_ | (refine uK ?_ ?_; focus first | omega | (intros; simp_all <;> omega)) | simp (disch := omega) only [go_sem, Nat.reduceBEq, Nat.reduceAdd, ww])
 refine S.cond rfl (fun hc => by simp at hc) (fun hc => ?_)
 (repeat first | refine uA ?_ | (refine uK ?_ ?_; focus first | omega | (intros; simp_all <;> omega)) | simp (disch := omega) only [go_sem, Nat.reduceBEq, Nat.reduceAdd, ww] | refine l9.t (l8.lift (k := 1) rfl (k3 _ rfl) rfl rfl rfl) ?_)
 refine S.a9O fun J => ?_
 (repeat first | refine uA ?_ | (refine uK ?_ ?_; focus first | omega | (intros; simp_all <;> omega)) | simp (disch := omega) only [go_sem, Nat.reduceBEq, Nat.reduceAdd, ww])
 refine S.cond rfl (fun hc => by simp at hc) (fun hc => ?_)
 (repeat first | refine uI ?_ | (refine uK ?_ ?_; focus first | omega | (intros; simp_all <;> omega)) | simp (disch := omega) only [go_sem, Nat.reduceBEq, Nat.reduceAdd, ww])
 refine S.H6 [.gone, .gone, .box 31 [.rv 3, .v (.slice none 0 0), .v (.slice none 0 0), .v (.slice none 0 0), .v (.slice none 0 0), .v (.bool false), .v (.string ⟨#[]⟩), .v (.string ⟨#[]⟩)]] (by simp [Eng.F3, Eng.X0]) ?_
 (repeat first | refine uA ?_ | (refine uK ?_ ?_; focus first | omega | (intros; simp_all <;> omega)) | simp (disch := omega) only [go_sem, Nat.reduceBEq, Nat.reduceAdd, ww] | refine l9.t (l8.lift (k := 1) rfl (k2 _ rfl) rfl rfl rfl) ?_)
 refine S.a9O fun J => ?_
 (repeat first | refine uA ?_ | (refine uK ?_ ?_; focus first | omega | (intros; simp_all <;> omega)) | simp (disch := omega) only [go_sem, Nat.reduceBEq, Nat.reduceAdd, ww])
 refine S.cond rfl (fun hc => by simp at hc) (fun hc => ?_)
 (repeat first | refine uA ?_ | (refine uK ?_ ?_; focus first | omega | (intros; simp_all <;> omega)) | simp (disch := omega) only [go_sem, Nat.reduceBEq, Nat.reduceAdd, ww] | refine l9.t (l8.lift (k := 1) rfl (k2 _ rfl) rfl rfl rfl) ?_)
 refine S.a9O fun J => ?_
 (repeat first | refine uA ?_ | (refine uK ?_ ?_; focus first | omega | (intros; simp_all <;> omega)) | simp (disch := omega) only [go_sem, Nat.reduceBEq, Nat.reduceAdd, ww])
 refine S.cond rfl (fun hc => by simp at hc) (fun hc => ?_)
 (repeat first | refine uA ?_ | (refine uK ?_ ?_; focus first | omega | (intros; simp_all <;> omega)) | simp (disch := omega) only [go_sem, Nat.reduceBEq, Nat.reduceAdd, ww] | refine l9.t (l8.lift (k := 1) rfl (k4 _ rfl) rfl rfl rfl) ?_ | (refine uB o1 ?_ ?_; exact rfl))
 simp only [Wk.c, Wk.enc, ams, wls, pts, sls, gts, sb, List.replicate_succ, List.replicate_zero, c1F, c1L, Am.enc, lks]
 (refine S.done ?_; simp only [p9, l7, go_sem, Nat.reduceBEq, Nat.reduceAdd, Nat.reduceLeDiff, Int.reduceToNat, Int.reducePow]; (repeat (refine ⟨?_, ?_⟩; focus first | trivial | omega | simp)); exact j3.out rfl (Imp.agg (by (repeat' (first | exact l6.nil | exact Imp.refl rfl | exact Imp.frz rfl rfl rfl | exact Imp.K4 | refine l6.cons ?_ ?_)))) rfl)
theorem b6C : u7 Tryz.prog 69 [.v (.slice none 0 0)] I5.c := by
 have h := b6I
 intro O w vs hO hA
 refine h O w vs hO ?_
 simp only [FzL, Fz] at hA
 obtain ⟨y, ys, rfl, rfl, rfl⟩ := hA
 exact ⟨_, _, rfl, b4R, rfl⟩
theorem b4Y : (∀ a ∈ I5.arms, J2 a = 0) /\ ∀ s ∈ I5.slots, okF s.frame = true := ⟨a8A a4c, fun s hs => by cases hs⟩
theorem b8W : FZ 81 [] (.tup [I5.c, (J9 I5).c]) := by
 refine kW Tryz.func81 (by cbv) (by rfl) fun w' O hw => ?_
 have h1 := b6C
 have h2 := b6L I5 (b0z.mono (by decide)) a4c
 generalize J9 I5 = s at *
 generalize I5 = w at *
 obtain ⟨arms, walls, parts, slots, gates, walk⟩ := w
 obtain ⟨tick, sarms, sparts, people, sgates⟩ := s
 simp only [j5]
 simp only [Wk.c, Wk.enc, Stt.c, Stt.enc, ams, wls, pts, sls, gts, E8, frs, vts, bls, sb, ints, a0I, c1L] at h1 h2 ⊢
 (repeat first | refine uA ?_ | (refine uK ?_ ?_; focus first | omega | (intros; simp_all <;> omega)) | simp (disch := omega) only [go_sem, Nat.reduceBEq, Nat.reduceAdd, ww] | (refine uB h1 ?_ ?_; exact rfl) | (refine uD h2 ?_ ?_ ?_; exact tz hw; exact rfl))
 (refine S.done ?_; simp only [p9, l7, go_sem, Nat.reduceBEq, Nat.reduceAdd, Nat.reduceLeDiff, Int.reduceToNat, Int.reducePow]; (repeat (refine ⟨?_, ?_⟩; focus first | trivial | omega | simp)); exact j3.out rfl (Imp.tup (by (repeat' (first | exact l6.nil | exact Imp.refl rfl | exact Imp.frz rfl rfl rfl | exact Imp.K4 | refine Imp.agg ?_ | refine l6.cons ?_ ?_)))) rfl)
def a4S : Stt := ⟨0, [], [], [], []⟩
theorem b2M {k : Nat} : Stb k a4S := ⟨⟨c1s _, fun x hx => (by cases hx)⟩, ⟨c1s _, fun x hx => (by cases hx)⟩, ⟨c1s _, fun x hx => (by cases hx)⟩, c1s _⟩
def V6 (u : Nat) : List UInt8 := if u < 128 then [UInt8.ofNat u] else UInt8.ofNat (u % 128 + 128) :: V6 (u / 128)
theorem a8s {u : Nat} (h : u < 128) : V6 u = [UInt8.ofNat u] := by unfold V6; rw [if_pos h]
theorem a6x {u : Nat} (h : ¬ u < 128) : V6 u = UInt8.ofNat (u % 128 + 128) :: V6 (u / 128) := by rw [V6, if_neg h]
def a5R (n : Int) : List UInt8 := V6 (IntKind.u64.wrap n).toNat
def a2C (b : Bool) : List UInt8 := if b then [1] else [0]
def a5B (l : List UInt8) : List UInt8 := V6 l.length ++ l
def U5 (a : Nm.Rt) : List UInt8 := a2C a.neg ++ (a5B a.num ++ a5B a.den)
def a4o (v : Vt) : List UInt8 := U5 v.x ++ U5 v.y
def frB (f : Fr) : List UInt8 := (U5 f.x ++ U5 f.y) ++ (a2C f.half ++ U5 f.t)
def J5 {α : Type} (f : α -> List UInt8) (l : List α) : List UInt8 := V6 l.length ++ l.flatMap f
def a5g (x : Ast) : List UInt8 := J5 U5 x.q ++ (J5 U5 x.v ++ (a2C x.power ++ a5R (IntKind.i64.wrap (x.holds + 1))))
def a2Y (s : Stt) : List UInt8 := a5R s.tick ++ (J5 a5g s.arms ++ (J5 frB s.parts ++ (J5 a4o s.people ++ J5 a2C s.gates)))
def R64 (n : Int) : Prop := -9223372036854775808 <= n /\ n <= 9223372036854775807
theorem b0f (n : Int) : IntKind.u64.wrap n = n % 18446744073709551616 := by simp [IntKind.wrap, IntKind.signed, IntKind.bits]
def Aok (x : Ast) : Prop := R64 x.holds
def Sok (s : Stt) : Prop := R64 s.tick /\ ∀ x ∈ s.arms, Aok x
theorem b1R (u : Nat) : ∀ n, u < 128 ^ n -> 0 < n -> (V6 u).length <= n := by
 induction u using V6.induct with
 | case1 u h => intro n _ hn; rw [a8s h]; simp; omega
 | case2 u h ih =>
  intro n hu hn
  rw [a6x h]
  cases n with
  | zero => omega
  | succ n =>
   cases n with
   | zero => simp at hu; omega
   | succ n =>
    have := ih (n + 1) (by rw [c1W] at hu; omega) (by omega)
    simpa using this
theorem b1f (u : Nat) (h : u < 18446744073709551616) : (V6 u).length <= 10 := b1R u 10 (c1H h (by decide)) (by decide)
theorem b7o (n : Int) : (a5R n).length <= 10 := b1f _ (by rw [b0f]; omega)
set_option maxRecDepth 10000
set_option maxHeartbeats 4000000
theorem a2r {n : Nat} (h : n < 18446744073709551616) : a5R (n : Int) = V6 n := by
 unfold a5R
 rw [b0f, show ((n : Int) % 18446744073709551616).toNat = n by omega]
theorem b5z (n : Int) : IntKind.u8.wrap n = n % 256 := by simp [IntKind.wrap, IntKind.signed, IntKind.bits]
theorem b9T (u : Nat) (h : u < 128) : IntKind.u8.wrap (u : Int) = ((UInt8.ofNat u).toNat : Int) := by
 rw [b5z, UInt8.toNat_ofNat']
 omega
theorem c0R (u : Nat) (h : u < 18446744073709551616) : IntKind.u8.wrap (Go.bits .or .u64 (Go.bits .and .u64 (u : Int) 127) 128) = ((UInt8.ofNat (u % 128 + 128)).toNat : Int) := by
 have h1 : Go.bits .and .u64 (u : Int) 127 = ((u % 128 : Nat) : Int) := by
  have := bits_and_u64_nat u 127 h (by omega)
  rw [show (127 : Nat) = 2 ^ 7 - 1 from rfl, Nat.and_two_pow_sub_one_eq_mod] at this
  exact this
 have h2 : Go.bits .or .u64 ((u % 128 : Nat) : Int) 128 = ((u % 128 + 128 : Nat) : Int) := by
  have := bits_or_u64_nat (u % 128) 128 (by omega) (by omega)
  have h3 : u % 128 ||| 128 = u % 128 + 128 := by
   have := Nat.two_pow_add_eq_or_of_lt (i := 7) (b := u % 128) (by omega) 1
   simp at this
   rw [Nat.or_comm, <- this]
   omega
  rw [h3] at this
  exact this
 rw [h1, h2, b5z, UInt8.toNat_ofNat']
 omega
theorem b6d {u : Nat} : ((u : Int).fdiv 128) = ((u / 128 : Nat) : Int) := by
 rw [Int.fdiv_eq_ediv_of_nonneg _ (by omega)]
 omega
theorem b5d (x : UInt8) : V3 [[C.v (.int .u8 (x.toNat : Int))]] = some [x] := O7 [x]
theorem a3s {α β : Type} (f : α -> List β) {l : List α} {i : Nat} (h : i < l.length) : (l.take (i + 1)).flatMap f = (l.take i).flatMap f ++ f l[i] := by
 rw [c2c h, List.flatMap_append]
 simp
theorem a4L {α β : Type} (f : α -> List β) {l : List α} {i : Nat} (h : i < l.length) : ((l.take i).flatMap f).length + (f l[i]).length <= (l.flatMap f).length := by
 have := a3s f h
 have h2 : l.flatMap f = (l.take (i + 1)).flatMap f ++ (l.drop (i + 1)).flatMap f := by rw [<- List.flatMap_append, List.take_append_drop]
 rw [h2, this]
 simp only [c1p]
 omega
theorem b9s {α β : Type} (f : α -> List β) {l : List α} {z : α} (h : z ∈ l) : (f z).length <= (l.flatMap f).length := by
 obtain ⟨i, hi, rfl⟩ := List.getElem_of_mem h
 have := a4L f hi
 omega
theorem a2L {α : Type} (f : α -> List UInt8) {l : List α} {z : α} (h : z ∈ l) {m : Nat} (hm : (J5 f l).length <= m) : (f z).length <= m := by
 have := b9s f h
 unfold J5 at hm
 rw [c1p] at hm
 omega
theorem a2M (n : Int) : u7 Tryz.prog 124 [ints n] (sb (a5R n)) := by
 refine kS Tryz.func124 (by cbv) (by rfl) fun w O => ?_
 simp only [j5, ints]
 have hu0 : 0 <= IntKind.u64.wrap n /\ IntKind.u64.wrap n < 18446744073709551616 := by rw [b0f]; omega
 have hint : a5R n = V6 (IntKind.u64.wrap n).toNat := rfl
 rw [hint]
 obtain ⟨u0, hu⟩ : ∃ u0 : Nat, IntKind.u64.wrap n = (u0 : Int) := ⟨(IntKind.u64.wrap n).toNat, by omega⟩
 rw [hu] at hu0 ⊢
 rw [c1q]
 have hl0 := b1f u0 (by omega)
 (repeat first | refine uA ?_ | (refine uK ?_ ?_; focus first | omega | trivial | (intros; simp_all <;> omega)) | simp (disch := omega) only [go_sem, Nat.reduceBEq, Nat.reduceAdd, Nat.reduceLeDiff, Int.reduceToNat, Int.reducePow, ww, hu])
 refine S.loop (X := Nat × List UInt8) (fun p => ⟨[(3, sb p.2), (4, .v (.int .u64 p.1))], []⟩)
  (fun p => V6 u0 = p.2 ++ V6 p.1 /\ p.1 < 18446744073709551616) (fun p => p.1) (u0, []) ⟨rfl, by simp only; omega⟩ (by (repeat first | refine uA ?_ | (refine ⟨?_, ?_⟩; focus first | rfl | trivial | (simp [slot]; done)) | rfl | trivial | simp)) ?_
 rintro ⟨u, done⟩ ⟨hxs, hlt⟩
 simp only [sb] at hxs hlt ⊢
 have hlen : done.length + (V6 u).length <= 10 := by
  have := congrArg List.length hxs
  simp at this
  omega
 (repeat first | refine uA ?_ | (refine uK ?_ ?_; focus first | omega | trivial | (intros; simp_all <;> omega)) | simp (disch := omega) only [go_sem, Nat.reduceBEq, Nat.reduceAdd, Nat.reduceLeDiff, Int.reduceToNat, Int.reducePow, ww])
 (refine uJ rfl (fun hc => ?_) fun hc => ?_)
 ·have hge : u < 128 := by omega
  rw [a8s hge] at hxs
  (repeat first | refine uA ?_ | (refine uK ?_ ?_; focus first | omega | trivial | (intros; simp_all <;> omega)) | simp (disch := omega) only [go_sem, Nat.reduceBEq, Nat.reduceAdd, Nat.reduceLeDiff, Int.reduceToNat, Int.reducePow, ww, b5d, a1U, u6, Z6, b9T u hge, c1J, List.length_nil])
  rw [hxs]
  exact S.done (j3.out rfl (Imp.refl rfl) rfl)
 ·have hge : ¬ u < 128 := by omega
  rw [a6x hge] at hxs
  have hg1 := a6x hge
  rw [hg1, c1J] at hlen
  (repeat first | refine uA ?_ | (refine uK ?_ ?_; focus first | omega | trivial | (intros; simp_all <;> omega)) | simp (disch := omega) only [go_sem, Nat.reduceBEq, Nat.reduceAdd, Nat.reduceLeDiff, Int.reduceToNat, Int.reducePow, ww, b5d, a1U, u6, Z6, c0R u hlt, b6d, c1J, List.length_nil])
  refine S.next (x := (u, done)) (u / 128, done ++ [UInt8.ofNat (u % 128 + 128)]) ⟨by rw [hxs]; simp, by simp only; omega⟩ (by simp only; omega) (by (repeat first | refine uA ?_ | (refine ⟨?_, ?_⟩; focus first | rfl | trivial | (simp [slot]; done)) | rfl | trivial | simp))
theorem a5c (b : Bool) : u7 Tryz.prog 203 [.v (.bool b)] (sb (a2C b)) := by
 refine kS Tryz.func203 (by cbv) (by rfl) fun w O => ?_
 simp only [j5]
 (repeat first | refine uA ?_ | (refine uK ?_ ?_; focus first | omega | trivial | (intros; simp_all <;> omega)) | simp (disch := omega) only [go_sem, Nat.reduceBEq, Nat.reduceAdd, Nat.reduceLeDiff, Int.reduceToNat, Int.reducePow, ww])
 refine S.cond rfl (fun hc => ?_) (fun hc => ?_)
 ·subst hc
  (repeat first | refine uA ?_ | (refine uK ?_ ?_; focus first | omega | trivial | (intros; simp_all <;> omega)) | simp (disch := omega) only [go_sem, Nat.reduceBEq, Nat.reduceAdd, Nat.reduceLeDiff, Int.reduceToNat, Int.reducePow, ww])
  exact S.done (j3.out rfl (Imp.refl rfl) rfl)
 ·subst hc
  (repeat first | refine uA ?_ | (refine uK ?_ ?_; focus first | omega | trivial | (intros; simp_all <;> omega)) | simp (disch := omega) only [go_sem, Nat.reduceBEq, Nat.reduceAdd, Nat.reduceLeDiff, Int.reduceToNat, Int.reducePow, ww])
  exact S.done (j3.out rfl (Imp.refl rfl) rfl)
theorem b3c (s : List UInt8) (hl : (a5B s).length <= 140737488355328) : u7 Tryz.prog 108 [sb s] (sb (a5B s)) := by
 refine kS Tryz.func108 (by cbv) (by rfl) fun w O => ?_
 unfold a5B at hl ⊢
 rw [c1p] at hl
 have h1 := a2M s.length
 rw [a2r (by omega)] at h1
 simp only [j5]
 simp only [sb, ints] at *
 (repeat first | refine uA ?_ | (refine uK ?_ ?_; focus first | omega | trivial | (intros; simp_all <;> omega)) | simp (disch := omega) only [go_sem, Nat.reduceBEq, Nat.reduceAdd, Nat.reduceLeDiff, Int.reduceToNat, Int.reducePow, ww, u6, Z6, c1p] | (refine uB h1 ?_ ?_; exact rfl))
 exact S.done (j3.out rfl (Imp.refl rfl) rfl)
theorem a2R (a : Nm.Rt) (hl : (U5 a).length <= 140737488355328) : u7 Tryz.prog 104 [rc a] (sb (U5 a)) := by
 refine kS Tryz.func104 (by cbv) (by rfl) fun w O => ?_
 unfold U5 at hl ⊢
 simp only [c1p] at hl
 have h1 := a5c a.neg
 have h2 := b3c a.num (by omega)
 have h3 := b3c a.den (by omega)
 simp only [j5]
 simp only [rc, sb] at *
 (repeat first | refine uA ?_ | (refine uK ?_ ?_; focus first | omega | trivial | (intros; simp_all <;> omega)) | simp (disch := omega) only [go_sem, Nat.reduceBEq, Nat.reduceAdd, Nat.reduceLeDiff, Int.reduceToNat, Int.reducePow, ww, u6, Z6, c1p, c1P] | (refine uB h1 ?_ ?_; exact rfl) | (refine uB h2 ?_ ?_; exact rfl) | (refine uB h3 ?_ ?_; exact rfl))
 exact S.done (j3.out rfl (Imp.refl rfl) rfl)
theorem a9V (v : Vt) (hl : (a4o v).length <= 140737488355328) : u7 Tryz.prog 118 [v.c] (sb (a4o v)) := by
 refine kS Tryz.func118 (by cbv) (by rfl) fun w O => ?_
 unfold a4o at hl ⊢
 simp only [c1p] at hl
 have h1 := a2R v.x (by omega)
 have h2 := a2R v.y (by omega)
 generalize U5 v.x = r1 at *
 generalize U5 v.y = r2 at *
 simp only [j5]
 simp only [Vt.c, Vt.enc, rc, sb] at *
 (repeat first | refine uA ?_ | (refine uK ?_ ?_; focus first | omega | trivial | (intros; simp_all <;> omega)) | simp (disch := omega) only [go_sem, Nat.reduceBEq, Nat.reduceAdd, Nat.reduceLeDiff, Int.reduceToNat, Int.reducePow, ww, u6, Z6, c1p] | (refine uB h1 ?_ ?_; exact rfl) | (refine uB h2 ?_ ?_; exact rfl))
 exact S.done (j3.out rfl (Imp.refl rfl) rfl)
theorem b5A (f : Fr) (hl : (frB f).length <= 140737488355328) : u7 Tryz.prog 109 [f.c] (sb (frB f)) := by
 refine kS Tryz.func109 (by cbv) (by rfl) fun w O => ?_
 unfold frB at hl ⊢
 simp only [c1p] at hl
 have h1 := a9V ⟨f.x, f.y⟩ (show (U5 f.x ++ U5 f.y).length <= _ by rw [c1p]; omega)
 have h2 := a5c f.half
 have h3 := a2R f.t (by omega)
 unfold a4o at h1
 generalize U5 f.x = r1 at *
 generalize U5 f.y = r2 at *
 generalize U5 f.t = r3 at *
 simp only [j5]
 simp only [Fr.c, Fr.enc, Vt.c, Vt.enc, rc, sb] at *
 (repeat first | refine uA ?_ | (refine uK ?_ ?_; focus first | omega | trivial | (intros; simp_all <;> omega)) | simp (disch := omega) only [go_sem, Nat.reduceBEq, Nat.reduceAdd, Nat.reduceLeDiff, Int.reduceToNat, Int.reducePow, ww, u6, Z6, c1p, c1P] | (refine uB h1 ?_ ?_; exact rfl) | (refine uB h2 ?_ ?_; exact rfl) | (refine uB h3 ?_ ?_; exact rfl))
 exact S.done (j3.out rfl (Imp.refl rfl) rfl)
theorem a6O (g : Nat) (hcal : callable Tryz.prog g = true) (f : Nm.Rt -> List UInt8) (l : List Nm.Rt) (hl : (J5 f l).length <= 140737488355328) (hn : l.length <= 1099511627776) (hg : ∀ x ∈ l, u7 Tryz.prog g [rc x] (sb (f x))) :
  u7 Tryz.prog 125 [rts l, .v (.func (.func g) #[] #[])] (sb (J5 f l)) := by
 refine kS Tryz.func125 (by cbv) (by rfl) fun w O => ?_
 unfold J5 at hl ⊢
 rw [c1p] at hl
 have h1 := a2M l.length
 rw [a2r (by omega)] at h1
 simp only [j5, rts]
 simp only [sb, ints] at h1 hg ⊢
 generalize V6 l.length = d at *
 (repeat first | refine uA ?_ | (refine uK ?_ ?_; focus first | omega | trivial | (intros; simp_all <;> omega)) | simp (disch := omega) only [go_sem, Nat.reduceBEq, Nat.reduceAdd, Nat.reduceLeDiff, Int.reduceToNat, Int.reducePow, ww, c1m] | (refine uB h1 ?_ ?_; exact rfl))
 refine S.loop (X := Nat) (fun i => ⟨[(1, .v (.func (.func g) #[] #[])), (5, sb (d ++ (l.take i).flatMap f)), (11, rts l), (12, ints l.length), (13, ints i)], []⟩)
  (fun i => i <= l.length) (fun i => l.length - i) 0 (c1s _) (by simp only [List.take_zero, List.flatMap_nil, List.append_nil]; exact (by (repeat first | refine uA ?_ | (refine ⟨?_, ?_⟩; focus first | rfl | trivial | (simp [slot]; done)) | rfl | trivial | simp))) ?_
 intro i hi
 simp only [rts, sb, ints] at hi ⊢
 (repeat first | refine uA ?_ | (refine uK ?_ ?_; focus first | omega | trivial | (intros; simp_all <;> omega)) | simp (disch := omega) only [go_sem, Nat.reduceBEq, Nat.reduceAdd, Nat.reduceLeDiff, Int.reduceToNat, Int.reducePow, ww])
 (refine uJ rfl (fun hc => ?_) fun hc => ?_)
 ·have hi' : i < l.length := by omega
  have hgi := c1l hi'
  have hfm := a3s f hi'
  have hle := a4L f hi'
  generalize l[i] = x at hgi hfm hle
  have hs := hg x (c1o hgi)
  (try simp only [rc, rcs, sb] at hs)
  (repeat first | refine uA ?_ | (refine uK ?_ ?_; focus first | omega | trivial | (intros; simp_all <;> omega)) | simp (disch := omega) only [go_sem, Nat.reduceBEq, Nat.reduceAdd, Nat.reduceLeDiff, Int.reduceToNat, Int.reducePow, ww, hgi, c1n, c1m, rc, rcs, sb, c1q, hcal, u6, Z6, c1p, c1P] | (refine uB hs ?_ ?_; exact rfl))
  refine S.next (i + 1) (by omega) (by omega) (by rw [hfm]; exact (by (repeat first | refine uA ?_ | (refine ⟨?_, ?_⟩; focus first | rfl | trivial | (simp [slot]; done)) | rfl | trivial | simp)))
 ·have hi' : i = l.length := by omega
  subst hi'
  rw [c1I]
  (repeat first | refine uA ?_ | (refine uK ?_ ?_; focus first | omega | trivial | (intros; simp_all <;> omega)) | simp (disch := omega) only [go_sem, Nat.reduceBEq, Nat.reduceAdd, Nat.reduceLeDiff, Int.reduceToNat, Int.reducePow, ww])
  exact S.done (j3.out rfl (Imp.refl rfl) rfl)
theorem b1T (g : Nat) (hcal : callable Tryz.prog g = true) (f : Ast -> List UInt8) (l : List Ast) (hl : (J5 f l).length <= 140737488355328) (hn : l.length <= 1099511627776) (hg : ∀ x ∈ l, u7 Tryz.prog g [x.c] (sb (f x))) :
  u7 Tryz.prog 206 [E8 l, .v (.func (.func g) #[] #[])] (sb (J5 f l)) := by
 refine kS Tryz.func206 (by cbv) (by rfl) fun w O => ?_
 unfold J5 at hl ⊢
 rw [c1p] at hl
 have h1 := a2M l.length
 rw [a2r (by omega)] at h1
 simp only [j5, E8]
 simp only [sb, ints] at h1 hg ⊢
 generalize V6 l.length = d at *
 (repeat first | refine uA ?_ | (refine uK ?_ ?_; focus first | omega | trivial | (intros; simp_all <;> omega)) | simp (disch := omega) only [go_sem, Nat.reduceBEq, Nat.reduceAdd, Nat.reduceLeDiff, Int.reduceToNat, Int.reducePow, ww, c1m] | (refine uB h1 ?_ ?_; exact rfl))
 refine S.loop (X := Nat) (fun i => ⟨[(1, .v (.func (.func g) #[] #[])), (5, sb (d ++ (l.take i).flatMap f)), (11, E8 l), (12, ints l.length), (13, ints i)], []⟩)
  (fun i => i <= l.length) (fun i => l.length - i) 0 (c1s _) (by simp only [List.take_zero, List.flatMap_nil, List.append_nil]; exact (by (repeat first | refine uA ?_ | (refine ⟨?_, ?_⟩; focus first | rfl | trivial | (simp [slot]; done)) | rfl | trivial | simp))) ?_
 intro i hi
 simp only [E8, sb, ints] at hi ⊢
 (repeat first | refine uA ?_ | (refine uK ?_ ?_; focus first | omega | trivial | (intros; simp_all <;> omega)) | simp (disch := omega) only [go_sem, Nat.reduceBEq, Nat.reduceAdd, Nat.reduceLeDiff, Int.reduceToNat, Int.reducePow, ww])
 (refine uJ rfl (fun hc => ?_) fun hc => ?_)
 ·have hi' : i < l.length := by omega
  have hgi := c1l hi'
  have hfm := a3s f hi'
  have hle := a4L f hi'
  generalize l[i] = x at hgi hfm hle
  have hs := hg x (c1o hgi)
  (try simp only [Ast.c, Ast.enc, rts, sb, ints] at hs)
  (repeat first | refine uA ?_ | (refine uK ?_ ?_; focus first | omega | trivial | (intros; simp_all <;> omega)) | simp (disch := omega) only [go_sem, Nat.reduceBEq, Nat.reduceAdd, Nat.reduceLeDiff, Int.reduceToNat, Int.reducePow, ww, hgi, c1n, c1m, Ast.c, Ast.enc, rts, sb, ints, c1q, hcal, u6, Z6, c1p, c1P] | (refine uB hs ?_ ?_; exact rfl))
  refine S.next (i + 1) (by omega) (by omega) (by rw [hfm]; exact (by (repeat first | refine uA ?_ | (refine ⟨?_, ?_⟩; focus first | rfl | trivial | (simp [slot]; done)) | rfl | trivial | simp)))
 ·have hi' : i = l.length := by omega
  subst hi'
  rw [c1I]
  (repeat first | refine uA ?_ | (refine uK ?_ ?_; focus first | omega | trivial | (intros; simp_all <;> omega)) | simp (disch := omega) only [go_sem, Nat.reduceBEq, Nat.reduceAdd, Nat.reduceLeDiff, Int.reduceToNat, Int.reducePow, ww])
  exact S.done (j3.out rfl (Imp.refl rfl) rfl)
theorem b3y (g : Nat) (hcal : callable Tryz.prog g = true) (f : Fr -> List UInt8) (l : List Fr) (hl : (J5 f l).length <= 140737488355328) (hn : l.length <= 1099511627776) (hg : ∀ x ∈ l, u7 Tryz.prog g [x.c] (sb (f x))) :
  u7 Tryz.prog 207 [frs l, .v (.func (.func g) #[] #[])] (sb (J5 f l)) := by
 refine kS Tryz.func207 (by cbv) (by rfl) fun w O => ?_
 unfold J5 at hl ⊢
 rw [c1p] at hl
 have h1 := a2M l.length
 rw [a2r (by omega)] at h1
 simp only [j5, frs]
 simp only [sb, ints] at h1 hg ⊢
 generalize V6 l.length = d at *
 (repeat first | refine uA ?_ | (refine uK ?_ ?_; focus first | omega | trivial | (intros; simp_all <;> omega)) | simp (disch := omega) only [go_sem, Nat.reduceBEq, Nat.reduceAdd, Nat.reduceLeDiff, Int.reduceToNat, Int.reducePow, ww, c1m] | (refine uB h1 ?_ ?_; exact rfl))
 refine S.loop (X := Nat) (fun i => ⟨[(1, .v (.func (.func g) #[] #[])), (5, sb (d ++ (l.take i).flatMap f)), (11, frs l), (12, ints l.length), (13, ints i)], []⟩)
  (fun i => i <= l.length) (fun i => l.length - i) 0 (c1s _) (by simp only [List.take_zero, List.flatMap_nil, List.append_nil]; exact (by (repeat first | refine uA ?_ | (refine ⟨?_, ?_⟩; focus first | rfl | trivial | (simp [slot]; done)) | rfl | trivial | simp))) ?_
 intro i hi
 simp only [frs, sb, ints] at hi ⊢
 (repeat first | refine uA ?_ | (refine uK ?_ ?_; focus first | omega | trivial | (intros; simp_all <;> omega)) | simp (disch := omega) only [go_sem, Nat.reduceBEq, Nat.reduceAdd, Nat.reduceLeDiff, Int.reduceToNat, Int.reducePow, ww])
 (refine uJ rfl (fun hc => ?_) fun hc => ?_)
 ·have hi' : i < l.length := by omega
  have hgi := c1l hi'
  have hfm := a3s f hi'
  have hle := a4L f hi'
  generalize l[i] = x at hgi hfm hle
  have hs := hg x (c1o hgi)
  (try simp only [Fr.c, Fr.enc, sb] at hs)
  (repeat first | refine uA ?_ | (refine uK ?_ ?_; focus first | omega | trivial | (intros; simp_all <;> omega)) | simp (disch := omega) only [go_sem, Nat.reduceBEq, Nat.reduceAdd, Nat.reduceLeDiff, Int.reduceToNat, Int.reducePow, ww, hgi, c1n, c1m, Fr.c, Fr.enc, sb, c1q, hcal, u6, Z6, c1p, c1P] | (refine uB hs ?_ ?_; exact rfl))
  refine S.next (i + 1) (by omega) (by omega) (by rw [hfm]; exact (by (repeat first | refine uA ?_ | (refine ⟨?_, ?_⟩; focus first | rfl | trivial | (simp [slot]; done)) | rfl | trivial | simp)))
 ·have hi' : i = l.length := by omega
  subst hi'
  rw [c1I]
  (repeat first | refine uA ?_ | (refine uK ?_ ?_; focus first | omega | trivial | (intros; simp_all <;> omega)) | simp (disch := omega) only [go_sem, Nat.reduceBEq, Nat.reduceAdd, Nat.reduceLeDiff, Int.reduceToNat, Int.reducePow, ww])
  exact S.done (j3.out rfl (Imp.refl rfl) rfl)
theorem b2m (g : Nat) (hcal : callable Tryz.prog g = true) (f : Vt -> List UInt8) (l : List Vt) (hl : (J5 f l).length <= 140737488355328) (hn : l.length <= 1099511627776) (hg : ∀ x ∈ l, u7 Tryz.prog g [x.c] (sb (f x))) :
  u7 Tryz.prog 204 [vts l, .v (.func (.func g) #[] #[])] (sb (J5 f l)) := by
 refine kS Tryz.func204 (by cbv) (by rfl) fun w O => ?_
 unfold J5 at hl ⊢
 rw [c1p] at hl
 have h1 := a2M l.length
 rw [a2r (by omega)] at h1
 simp only [j5, vts]
 simp only [sb, ints] at h1 hg ⊢
 generalize V6 l.length = d at *
 (repeat first | refine uA ?_ | (refine uK ?_ ?_; focus first | omega | trivial | (intros; simp_all <;> omega)) | simp (disch := omega) only [go_sem, Nat.reduceBEq, Nat.reduceAdd, Nat.reduceLeDiff, Int.reduceToNat, Int.reducePow, ww, c1m] | (refine uB h1 ?_ ?_; exact rfl))
 refine S.loop (X := Nat) (fun i => ⟨[(1, .v (.func (.func g) #[] #[])), (5, sb (d ++ (l.take i).flatMap f)), (11, vts l), (12, ints l.length), (13, ints i)], []⟩)
  (fun i => i <= l.length) (fun i => l.length - i) 0 (c1s _) (by simp only [List.take_zero, List.flatMap_nil, List.append_nil]; exact (by (repeat first | refine uA ?_ | (refine ⟨?_, ?_⟩; focus first | rfl | trivial | (simp [slot]; done)) | rfl | trivial | simp))) ?_
 intro i hi
 simp only [vts, sb, ints] at hi ⊢
 (repeat first | refine uA ?_ | (refine uK ?_ ?_; focus first | omega | trivial | (intros; simp_all <;> omega)) | simp (disch := omega) only [go_sem, Nat.reduceBEq, Nat.reduceAdd, Nat.reduceLeDiff, Int.reduceToNat, Int.reducePow, ww])
 (refine uJ rfl (fun hc => ?_) fun hc => ?_)
 ·have hi' : i < l.length := by omega
  have hgi := c1l hi'
  have hfm := a3s f hi'
  have hle := a4L f hi'
  generalize l[i] = x at hgi hfm hle
  have hs := hg x (c1o hgi)
  (try simp only [Vt.c, Vt.enc, sb] at hs)
  (repeat first | refine uA ?_ | (refine uK ?_ ?_; focus first | omega | trivial | (intros; simp_all <;> omega)) | simp (disch := omega) only [go_sem, Nat.reduceBEq, Nat.reduceAdd, Nat.reduceLeDiff, Int.reduceToNat, Int.reducePow, ww, hgi, c1n, c1m, Vt.c, Vt.enc, sb, c1q, hcal, u6, Z6, c1p, c1P] | (refine uB hs ?_ ?_; exact rfl))
  refine S.next (i + 1) (by omega) (by omega) (by rw [hfm]; exact (by (repeat first | refine uA ?_ | (refine ⟨?_, ?_⟩; focus first | rfl | trivial | (simp [slot]; done)) | rfl | trivial | simp)))
 ·have hi' : i = l.length := by omega
  subst hi'
  rw [c1I]
  (repeat first | refine uA ?_ | (refine uK ?_ ?_; focus first | omega | trivial | (intros; simp_all <;> omega)) | simp (disch := omega) only [go_sem, Nat.reduceBEq, Nat.reduceAdd, Nat.reduceLeDiff, Int.reduceToNat, Int.reducePow, ww])
  exact S.done (j3.out rfl (Imp.refl rfl) rfl)
theorem b1s (g : Nat) (hcal : callable Tryz.prog g = true) (f : Bool -> List UInt8) (l : List Bool) (hl : (J5 f l).length <= 140737488355328) (hn : l.length <= 1099511627776) (hg : ∀ x ∈ l, u7 Tryz.prog g [.v (.bool x)] (sb (f x))) :
  u7 Tryz.prog 208 [bls l, .v (.func (.func g) #[] #[])] (sb (J5 f l)) := by
 refine kS Tryz.func208 (by cbv) (by rfl) fun w O => ?_
 unfold J5 at hl ⊢
 rw [c1p] at hl
 have h1 := a2M l.length
 rw [a2r (by omega)] at h1
 simp only [j5, bls]
 simp only [sb, ints] at h1 hg ⊢
 generalize V6 l.length = d at *
 (repeat first | refine uA ?_ | (refine uK ?_ ?_; focus first | omega | trivial | (intros; simp_all <;> omega)) | simp (disch := omega) only [go_sem, Nat.reduceBEq, Nat.reduceAdd, Nat.reduceLeDiff, Int.reduceToNat, Int.reducePow, ww, c1m] | (refine uB h1 ?_ ?_; exact rfl))
 refine S.loop (X := Nat) (fun i => ⟨[(1, .v (.func (.func g) #[] #[])), (5, sb (d ++ (l.take i).flatMap f)), (11, bls l), (12, ints l.length), (13, ints i)], []⟩)
  (fun i => i <= l.length) (fun i => l.length - i) 0 (c1s _) (by simp only [List.take_zero, List.flatMap_nil, List.append_nil]; exact (by (repeat first | refine uA ?_ | (refine ⟨?_, ?_⟩; focus first | rfl | trivial | (simp [slot]; done)) | rfl | trivial | simp))) ?_
 intro i hi
 simp only [bls, sb, ints] at hi ⊢
 (repeat first | refine uA ?_ | (refine uK ?_ ?_; focus first | omega | trivial | (intros; simp_all <;> omega)) | simp (disch := omega) only [go_sem, Nat.reduceBEq, Nat.reduceAdd, Nat.reduceLeDiff, Int.reduceToNat, Int.reducePow, ww])
 (refine uJ rfl (fun hc => ?_) fun hc => ?_)
 ·have hi' : i < l.length := by omega
  have hgi := c1l hi'
  have hfm := a3s f hi'
  have hle := a4L f hi'
  generalize l[i] = x at hgi hfm hle
  have hs := hg x (c1o hgi)
  (try simp only [sb] at hs)
  (repeat first | refine uA ?_ | (refine uK ?_ ?_; focus first | omega | trivial | (intros; simp_all <;> omega)) | simp (disch := omega) only [go_sem, Nat.reduceBEq, Nat.reduceAdd, Nat.reduceLeDiff, Int.reduceToNat, Int.reducePow, ww, hgi, c1n, c1m, sb, c1q, hcal, u6, Z6, c1p, c1P] | (refine uB hs ?_ ?_; exact rfl))
  refine S.next (i + 1) (by omega) (by omega) (by rw [hfm]; exact (by (repeat first | refine uA ?_ | (refine ⟨?_, ?_⟩; focus first | rfl | trivial | (simp [slot]; done)) | rfl | trivial | simp)))
 ·have hi' : i = l.length := by omega
  subst hi'
  rw [c1I]
  (repeat first | refine uA ?_ | (refine uK ?_ ?_; focus first | omega | trivial | (intros; simp_all <;> omega)) | simp (disch := omega) only [go_sem, Nat.reduceBEq, Nat.reduceAdd, Nat.reduceLeDiff, Int.reduceToNat, Int.reducePow, ww])
  exact S.done (j3.out rfl (Imp.refl rfl) rfl)
theorem b9M (x : Ast) (hl : (a5g x).length <= 140737488355328) (hq : Rbs 1073741824 x.q) (hv : Rbs 1073741824 x.v) : u7 Tryz.prog 205 [x.c] (sb (a5g x)) := by
 refine kS Tryz.func205 (by cbv) (by rfl) fun w O => ?_
 unfold a5g at hl ⊢
 simp only [c1p] at hl
 have n1 := hq.1
 have n2 := hv.1
 have h1 := a6O 104 (by kernel_rfl) U5 x.q (by omega) (by omega) (fun z hz => a2R z (a2L U5 hz (by omega)))
 have h2 := a6O 104 (by kernel_rfl) U5 x.v (by omega) (by omega) (fun z hz => a2R z (a2L U5 hz (by omega)))
 have h3 := a5c x.power
 have h4 := a2M (IntKind.i64.wrap (x.holds + 1))
 obtain ⟨q, v, power, holds⟩ := x
 generalize J5 U5 q = r1 at *
 generalize J5 U5 v = r2 at *
 generalize a2C power = r3 at *
 simp only [j5]
 simp only [Ast.c, Ast.enc, rts, sb, ints] at h1 h2 h3 h4 hl n1 n2 ⊢
 (repeat first | refine uA ?_ | (refine uK ?_ ?_; focus first | omega | trivial | (intros; simp_all <;> omega)) | simp (disch := omega) only [go_sem, Nat.reduceBEq, Nat.reduceAdd, Nat.reduceLeDiff, Int.reduceToNat, Int.reducePow, ww, u6, Z6, c1p, c1P] | (refine uB h1 ?_ ?_; exact rfl) | (refine uB h2 ?_ ?_; exact rfl) | (refine uB h3 ?_ ?_; exact rfl) | (refine uB h4 ?_ ?_; exact rfl))
 exact S.done (j3.out rfl (Imp.refl rfl) rfl)
structure Stw (s : Stt) : Prop where
 arms : s.arms.length <= 1073741824 /\ ∀ x ∈ s.arms, Asb 1073741824 x
 parts : s.parts.length <= 1073741824
 people : s.people.length <= 1073741824
 gates : s.gates.length <= 1073741824
theorem Stb.w {s : Stt} (h : Stb 1073741824 s) : Stw s := ⟨h.arms, h.parts.1, h.people.1, h.gates⟩
theorem b1r (s : Stt) (hs : Stw s) (hl : (a2Y s).length <= 140737488355328) : u7 Tryz.prog 119 [s.c] (sb (a2Y s)) := by
 refine kS Tryz.func119 (by cbv) (by rfl) fun w O => ?_
 unfold a2Y at hl ⊢
 simp only [c1p] at hl
 have n1 := hs.arms.1
 have n2 := hs.parts
 have n3 := hs.people
 have n4 := hs.gates
 have h1 := a2M s.tick
 have h2 := b1T 205 (by kernel_rfl) a5g s.arms (by omega) (by omega) (fun z hz => b9M z (a2L a5g hz (by omega)) (hs.arms.2 z hz).1 (hs.arms.2 z hz).2)
 have h3 := b3y 109 (by kernel_rfl) frB s.parts (by omega) (by omega) (fun z hz => b5A z (a2L frB hz (by omega)))
 have h4 := b2m 118 (by kernel_rfl) a4o s.people (by omega) (by omega) (fun z hz => a9V z (a2L a4o hz (by omega)))
 have h5 := b1s 203 (by kernel_rfl) a2C s.gates (by omega) (by omega) (fun z _ => a5c z)
 obtain ⟨tick, arms, parts, people, gates⟩ := s
 generalize J5 a5g arms = r2 at *
 generalize J5 frB parts = r3 at *
 generalize J5 a4o people = r4 at *
 generalize J5 a2C gates = r5 at *
 simp only [j5]
 simp only [Stt.c, Stt.enc, E8, frs, vts, bls, sb, ints] at h1 h2 h3 h4 h5 hl ⊢
 (repeat first | refine uA ?_ | (refine uK ?_ ?_; focus first | omega | trivial | (intros; simp_all <;> omega)) | simp (disch := omega) only [go_sem, Nat.reduceBEq, Nat.reduceAdd, Nat.reduceLeDiff, Int.reduceToNat, Int.reducePow, ww, u6, Z6, c1p, c1P] | (refine uB h1 ?_ ?_; exact rfl) | (refine uB h2 ?_ ?_; exact rfl) | (refine uB h3 ?_ ?_; exact rfl) | (refine uB h4 ?_ ?_; exact rfl) | (refine uB h5 ?_ ?_; exact rfl))
 exact S.done (j3.out rfl (Imp.refl rfl) rfl)
theorem a6W (s t : Stt) (hs : Stw s) (ht : Stw t) (hl : (a2Y s).length <= 140737488355328) (hm : (a2Y t).length <= 140737488355328) : u7 Tryz.prog 41 [s.c, t.c] (.v (.bool (decide (a2Y s = a2Y t)))) := by
 refine kS Tryz.func41 (by cbv) (by rfl) fun w O => ?_
 have h1 := b1r s hs hl
 have h2 := b1r t ht hm
 generalize a2Y s = r1 at *
 generalize a2Y t = r2 at *
 simp only [j5]
 simp only [Stt.c, Stt.enc, sb] at *
 (repeat first | refine uA ?_ | (refine uK ?_ ?_; focus first | omega | trivial | (intros; simp_all <;> omega)) | simp (disch := omega) only [go_sem, Nat.reduceBEq, Nat.reduceAdd, Nat.reduceLeDiff, Int.reduceToNat, Int.reducePow, ww, a4Y] | (refine uB h1 ?_ ?_; exact rfl) | (refine uB h2 ?_ ?_; exact rfl))
 exact S.done (j3.out rfl (Imp.refl rfl) rfl)
open Go Go.RowKit Go.ChangeShapes Go.WideShapes Eng
theorem b7m {H : Type} {l : List (DataW H)} (hk : Rows.uptoSmall H l = true) : Rows.uptoBulkAll l <= 1048576 := of_decide_eq_true hk
theorem b6s {H : Type} (l r : List (DataW H)) : Rows.uptoBulkAll (l ++ r) = Rows.uptoBulkAll l + Rows.uptoBulkAll r := by
 induction l with
 | nil => simp [Rows.uptoBulkAll]
 | cons x l ih => simp only [List.cons_append, Rows.uptoBulkAll, ih]; omega
def noB : Nat -> Prop := fun _ => False
section
variable {H : Type} {enc : TypeId × Value -> H} {P : Program} {W : World}
def Opens (enc : TypeId × Value -> H) (P : Program) (W : World) (t : TypeId) {α : Type} (tc : α -> List C) (ok : α -> Prop) (ms : α -> Nat) : Prop :=
 ∀ (fuel : Nat) (cs : List Value) (x : DataW H × List MemPlace), DataW.trod enc P W 0 (fun _ => true) true fuel t cs = some x -> ∃ a : α, FzL W noB (tc a) cs /\ (∀ u ∈ cs, u.oneCell' = true) /\ ok a /\ ms a <= Rows.uptoBulk x.1
def I64 (n : Int) : Prop := -9223372036854775808 <= n /\ n <= 9223372036854775807
theorem b3P {t : TypeId} (ht : P.underlying t = some .bool) : Opens enc P W t (fun b : Bool => [.v (.bool b)]) (fun _ => True) fun _ => 1 := by
 intro fuel cs x h
 obtain ⟨b, rfl, rfl⟩ := DataW.trod_bool ht h
 exact ⟨b, by simp [FzL, Fz], by simp [Value.oneCell'], trivial, by simp [Rows.uptoBulk]⟩
theorem b5u {t : TypeId} (ht : P.underlying t = some (.int .i64)) : Opens enc P W t (fun n : Int => [.v (.int .i64 n)]) I64 fun _ => 1 := by
 intro fuel cs x h
 obtain ⟨n, rfl, rfl, hw⟩ := DataW.trod_int ht h
 refine ⟨n, by simp [FzL, Fz], by simp [Value.oneCell'], ?_, by simp [Rows.uptoBulk]⟩
 simpa [Lit.wf, IntKind.min, IntKind.max, IntKind.signed, IntKind.bits, I64] using hw
theorem b4S {t : TypeId} (ht : P.underlying t = some .string) : Opens enc P W t (fun s : ByteArray => [.v (.string s)]) (fun s => s.size <= 9223372036854775807) fun s => s.size + 1 := by
 intro fuel cs x h
 obtain ⟨s, rfl, rfl, hw⟩ := DataW.trod_string ht h
 refine ⟨s, by simp [FzL, Fz], by simp [Value.oneCell'], hw, ?_⟩
 have : s.data.toList.length = s.size := by cases s; simp [ByteArray.size]
 simp only [Rows.uptoBulk, this]
 omega
theorem Opens.imp {t : TypeId} {α β : Type} {tc : α -> List C} {ok : α -> Prop} {ms : α -> Nat} {tc' : β -> List C} {ok' : β -> Prop} {ms' : β -> Nat} (h : Opens enc P W t tc ok ms)
  (f : ∀ a, ok a -> ∃ b, tc a = tc' b /\ ok' b /\ ms' b <= ms a) : Opens enc P W t tc' ok' ms' := by
 intro fuel cs x hx
 obtain ⟨a, h0, h01, h1, h2⟩ := h fuel cs x hx
 obtain ⟨b, h3, h4, h5⟩ := f a h1
 exact ⟨b, by rw [<- h3]; exact h0, h01, h4, c1t h5 h2⟩
theorem b4O {w : World} {O : Nat -> Prop} {q : List C} {vs : List Value} {ad : Addr} {j : Nat} (hF : FzL w O q vs) (h1 : ∀ u ∈ vs, u.oneCell' = true) (hc : ∀ i v, vs[i]? = some v -> w.cell? (ad.add (j + i)) = some v) : FzA w O q ad j := FzA.of hF h1 hc
theorem K9 {t e : TypeId} {α : Type} {tc : α -> List C} {ok : α -> Prop} {ms : α -> Nat} {sz : Nat} (ht : P.underlying t = some (.slice e)) (hc : P.cellsOf e = sz) (hsz : 0 < sz) (hlen : ∀ a, (tc a).length = sz)
  (he : Opens enc P W e tc ok ms) : Opens enc P W t (fun xs : List α => [.sl sz (xs.map tc)]) (fun xs => ∀ a ∈ xs, ok a) fun xs => 1 + (xs.map ms).sum := by
 intro fuel cs x h
 rcases Deep.open_slice ht h with ⟨rfl, rfl⟩ | ⟨a, len, cap, m, n, D, Pl, rfl, _, hl, hm, hmm, rfl, hx⟩
 ·refine ⟨[], ?_, by simp [Value.oneCell'], (fun a ha => by cases ha), by simp [Rows.uptoBulk]⟩
  simp only [FzL, Fz]
  exact ⟨_, _, rfl, ⟨none, 0, rfl, c1w _, c1s _, fun h => by simp at h⟩, rfl⟩
 ·have hlm : len <= m := by rw [hmm]; split <;> omega
  have key : ∀ i, i < len -> ∃ (y : α) (vs : List Value), W.cells? 0 (a.add (i * sz)) sz = some vs /\ FzL W noB (tc y) vs /\ (∀ u ∈ vs, u.oneCell' = true) /\ ok y /\ ms y <= Rows.uptoBulk (D i) := by
   intro i hi
   obtain ⟨cs', h1, h2⟩ := hx i (by omega)
   obtain ⟨y, h31, h32, h3, h4⟩ := he _ _ _ h2
   rw [hc] at h1
   exact ⟨y, cs', h1, h31, h32, h3, h4⟩
  have build : ∀ k, k <= len -> ∃ xs : List α, xs.length = k /\ (∀ i y, xs[i]? = some y -> ∃ vs, W.cells? 0 (a.add (i * sz)) sz = some vs /\ FzL W noB (tc y) vs /\ (∀ u ∈ vs, u.oneCell' = true) /\ ok y) /\ (xs.map ms).sum <= Rows.uptoBulkAll ((List.range k).map D) := by
   intro k
   induction k with
   | zero => intro _; exact ⟨[], rfl, (fun i y h => by simp at h), by simp⟩
   | succ k ih =>
    intro hk
    obtain ⟨xs, h1, h2, h3⟩ := ih (by omega)
    obtain ⟨y, vs, h4, h41, h42, h5, h6⟩ := key k (by omega)
    refine ⟨xs ++ [y], by simp [h1], fun i z hz => ?_, ?_⟩
    ·rcases c1M i xs.length with hlt | hge
     ·rw [c1y hlt] at hz
      exact h2 i z hz
     ·rw [c1B hge] at hz
      have : i - xs.length = 0 := by
       rcases c1K (i - xs.length) with h0 | h0
       ·exact h0
       ·obtain ⟨d, hd⟩ : ∃ d, i - xs.length = d + 1 := ⟨i - xs.length - 1, by omega⟩
        rw [hd] at hz; simp at hz
      rw [this] at hz
      simp at hz
      subst hz
      have : i = k := by omega
      subst this
      exact ⟨vs, h4, h41, h42, h5⟩
    ·rw [c2d, List.sum_append, List.range_succ, c2d, b6s]
     simp only [c1F, c1L, c2e, List.sum_nil, Rows.uptoBulkAll]
     omega
  obtain ⟨xs, h1, h2, h3⟩ := build len (c1w _)
  have hcell : ∀ (i : Nat) (y : α), xs[i]? = some y -> (tc y).length = sz /\ FzA W noB (tc y) a (i * sz) := by
   intro i y hy
   obtain ⟨vs, h4, h41, h42, _⟩ := h2 i y hy
   obtain ⟨_, h5, h6⟩ := World.cells?_some h4
   refine ⟨hlen _, b4O h41 h42 fun j v hv => ?_⟩
   have hj : j < sz := by
    have := (c1u.1 hv).1
    rwa [h5] at this
   have h7 := h6 j hj
   rw [hv, Deep.add_add] at h7
   exact h7
  refine ⟨xs, ?_, by simp [Value.oneCell'], fun y hy => ?_, ?_⟩
  ·simp only [FzL]
   refine ⟨_, _, rfl, ?_, rfl⟩
   simp only [Fz]
   refine ⟨some a, cap, by simp [h1], by simp; omega, hm, fun h0 => ⟨a, rfl, ?_, (fun h => h), FzE.of fun k q hq => ?_⟩⟩
   ·have hi : 0 < xs.length := by simpa using h0
    obtain ⟨hq1, hq2⟩ := hcell 0 xs[0] (c1l hi)
    have h9 : 0 < (tc xs[0]).length := by omega
    match htc : tc xs[0], h9, hq2 with
    | c :: cs, _, hq2 =>
     simp only [FzA] at hq2
     obtain ⟨⟨v, hv, _⟩, _⟩ := hq2
     have h10 := block_lt_of_cell hv
     rwa [add_block] at h10
   ·rw [c2b] at hq
    obtain ⟨y, hy, rfl⟩ := Option.map_eq_some_iff.1 hq
    rw [c1R]; exact hcell k y hy
  ·obtain ⟨i, hi⟩ := List.mem_iff_getElem?.1 hy
   exact (h2 i y hi).choose_spec.2.2.2
  ·simp only [Rows.uptoBulk]
   omega
def P7 (P : Program) : List Field -> Nat -> Option Nat
 | [], n => some n
 | f :: fs, n => if f.offset = n then P7 P fs (n + P.cellsOf f.type) else none
def Parts (enc : TypeId × Value -> H) (P : Program) (W : World) (n : Nat) : List TypeId -> List (List Value) -> List (DataW H × List MemPlace) -> Prop
 | [], cs, ys => cs = [] /\ ys = []
 | f :: fs, cs, ys => ∃ c cr y yr, cs = c :: cr /\ ys = y :: yr /\ DataW.trod enc P W 0 (fun _ => true) true n f c = some y /\ Parts enc P W n fs cr yr
theorem b2a {t : TypeId} {fs : Array Field} {fuel : Nat} {cs : List Value} {x : DataW H × List MemPlace} (hu : P.underlying t = some (.struct fs)) (hc : P7 P fs.toList 0 = some (P.cellsOf t)) (h : DataW.trod enc P W 0 (fun _ => true) true fuel t cs = some x) :
    ∃ (n : Nat) (ps : List (List Value)) (ys : List (DataW H × List MemPlace)), cs = ps.flatten /\ x = (.agg (ys.map (·.1)), ys.flatMap (·.2)) /\ Parts enc P W n (fs.toList.map (·.type)) ps ys := by
  obtain ⟨xs, n, rfl, rfl, hlen, hxl, hf⟩ := DataW.trod_struct hu h
  have gen : ∀ (l : List Field) (off tot : Nat) (zs : List (DataW H × List MemPlace)), P7 P l off = some tot -> zs.length = l.length -> (∀ (i : Nat) (f : Field), l[i]? = some f -> DataW.trod enc P W 0 (fun _ => true) true n f.type ((cs.drop f.offset).take (P.cellsOf f.type)) = zs[i]?) ->
      off <= tot /\ ∃ ps, (cs.drop off).take (tot - off) = ps.flatten /\ Parts enc P W n (l.map (·.type)) ps zs := by
    intro l
    induction l with
    | nil =>
      intro off tot zs hc hl _
      simp only [P7, Option.some.injEq] at hc
      subst hc
      have : zs = [] := List.length_eq_zero_iff.1 hl
      subst this
      exact ⟨c1w _, [], by simp, rfl, rfl⟩
    | cons f l ih =>
      intro off tot zs hc hl hf
      simp only [P7] at hc
      split at hc
      · rename_i ho
        cases zs with
        | nil => simp at hl
        | cons z zs =>
          obtain ⟨h1, ps, h2, h3⟩ := ih _ tot zs hc (by simpa using hl) fun i g hg => by have := hf (i + 1) g (by simpa using hg); simpa using this
          have h0 := hf 0 f rfl
          rw [ho] at h0
          refine ⟨by omega, ((cs.drop off).take (P.cellsOf f.type)) :: ps, ?_, _, _, _, _, rfl, rfl, h0, h3⟩
          rw [List.flatten_cons, <- h2, <- List.drop_drop]
          have e : tot - off = P.cellsOf f.type + (tot - (off + P.cellsOf f.type)) := by omega
          rw [e, List.take_add]
      · cases hc
  obtain ⟨_, ps, h2, h3⟩ := gen fs.toList 0 _ xs hc (by simpa using hxl) fun i f hi => hf i f (by simpa using hi)
  refine ⟨n, ps, xs, ?_, rfl, h3⟩
  rw [<- h2, Nat.sub_zero, List.drop_zero, <- hlen, c1I]
theorem FzL.app {w : World} {O : Nat -> Prop} : ∀ {cs ds : List C} {vs us : List Value}, FzL w O cs vs -> FzL w O ds us -> FzL w O (cs ++ ds) (vs ++ us)
 | [], ds, vs, us, h, k => by simp only [FzL] at h; subst h; simpa using k
 | c :: cs, ds, vs, us, h, k => by
  simp only [FzL] at h
  obtain ⟨y, ys, rfl, h1, h2⟩ := h
  exact ⟨y, ys ++ us, rfl, h1, FzL.app h2 k⟩
def a8d (enc : TypeId × Value -> H) (P : Program) (W : World) (ts : List TypeId) {α : Type} (tc : α -> List C) (ok : α -> Prop) (ms : α -> Nat) : Prop :=
 ∀ (n : Nat) (ps : List (List Value)) (ys : List (DataW H × List MemPlace)), Parts enc P W n ts ps ys -> ∃ a : α, FzL W noB (tc a) ps.flatten /\ (∀ u ∈ ps.flatten, u.oneCell' = true) /\ ok a /\ ms a <= Rows.uptoBulkAll (ys.map (·.1))
theorem L8 : a8d enc P W [] (fun _ : Unit => []) (fun _ => True) fun _ => 0 := by
 rintro n ps ys ⟨rfl, rfl⟩
 exact ⟨(), by simp [FzL], by simp, trivial, c1s _⟩
theorem p8 {t : TypeId} {ts : List TypeId} {α β : Type} {tc : α -> List C} {ok : α -> Prop} {ms : α -> Nat} {tc' : β -> List C} {ok' : β -> Prop} {ms' : β -> Nat} (h : Opens enc P W t tc ok ms) (h' : a8d enc P W ts tc' ok' ms') :
  a8d enc P W (t :: ts) (fun p : α × β => tc p.1 ++ tc' p.2) (fun p => ok p.1 /\ ok' p.2) fun p => ms p.1 + ms' p.2 := by
 rintro n ps ys ⟨c, cr, y, yr, rfl, rfl, h1, h2⟩
 obtain ⟨a, a1, a2, a3, a4⟩ := h _ _ _ h1
 obtain ⟨b, b1, b2, b3, b4⟩ := h' _ _ _ h2
 refine ⟨(a, b), by rw [List.flatten_cons]; exact FzL.app a1 b1, fun u hu => ?_, ⟨a3, b3⟩, ?_⟩
 ·rw [List.flatten_cons] at hu
  rcases List.mem_append.1 hu with hu | hu
  ·exact a2 u hu
  ·exact b2 u hu
 ·simp only [c1F, Rows.uptoBulkAll]
  omega
theorem I7 {t : TypeId} {fs : Array Field} {ts : List TypeId} {α : Type} {tc : α -> List C} {ok : α -> Prop} {ms : α -> Nat} (hu : P.underlying t = some (.struct fs)) (hts : fs.toList.map (·.type) = ts) (hc : P7 P fs.toList 0 = some (P.cellsOf t)) (h : a8d enc P W ts tc ok ms) :
  Opens enc P W t tc ok fun a => ms a + 1 := by
 intro fuel cs x hx
 obtain ⟨n, ps, ys, rfl, rfl, hp⟩ := b2a hu hc hx
 rw [hts] at hp
 obtain ⟨a, a1, a2, a3, a4⟩ := h _ _ _ hp
 exact ⟨a, a1, a2, a3, by simp only [Rows.uptoBulk]; omega⟩
theorem b6m {f : Func} {s : ChangeSpec} {apart fresh handsOn again : Bool} {W' : World} {args : Array Value} {ds gs : List (DataW H)} {before : List MemPlace} {tb : TypeId} (hl : laidOutB P = true) (hpar : ∀ t ∈ f.params.toList, P.readableRec t = true /\ t < P.types.size)
  (hrt : f.resultTypes = #[tb]) (htb : P.underlying tb = some .bool) (hv : s.vars = []) (hfn : s.fn H (ds ++ gs) = { results := [.lit (.bool true)], args := ds }) (hW : DataW.Whole enc P f.params.toList s.vars apart W args.toList ds gs before) (hb : Below W.heap.size W W') :
  s.post enc P f apart fresh handsOn again W args (.bool true) W' := by
 have hlt : ∀ p ∈ before, p.block < W.heap.size := fun p hp => hW.lt p hp
 obtain ⟨p, q, hA, hV, hps, hz, hn⟩ := id hW
 rw [hv] at hV
 obtain ⟨rfl, rfl⟩ := trodVars_none hV
 rw [List.append_nil] at hps
 subst hps
 have all : ∀ (sp : Nat -> Bool) (ts : List TypeId) (vs : List Value) (es : List (DataW H)) (pl : List MemPlace), (∀ t ∈ ts, P.readableRec t = true /\ t < P.types.size) -> (∀ x ∈ pl, x.block < W.heap.size /\ sp x.block = true) -> DataW.TrodAll enc P W 0 (fun _ => true) true ts vs es pl -> DataW.TrodAll enc P W' 0 sp true ts vs es pl := by
  intro sp ts
  induction ts with
  | nil =>
   intro vs es pl _ _ h
   cases vs <;> cases es <;> simp only [DataW.TrodAll] at h ⊢ <;> exact h
  | cons t ts ih =>
   intro vs es pl hts hpl h
   cases vs <;> cases es <;> simp only [DataW.TrodAll] at h ⊢
   obtain ⟨p1, p2, h1, h2, rfl⟩ := h
   refine ⟨p1, p2, ?_, ih _ _ _ (fun t ht => hts t (List.mem_cons_of_mem _ ht)) (fun x hx => hpl x (List.mem_append_right _ hx)) h2, rfl⟩
   exact WideElems.Trod_stays hl (hts t (List.mem_cons_self ..)).1 (hts t (List.mem_cons_self ..)).2 h1 (fun x hx => hb.same (hpl x (List.mem_append_left _ hx)).1) fun x hx => (hpl x (List.mem_append_left _ hx)).2
 have hres : ∀ (b : Nat) (sp : Nat -> Bool) (hd : Bool), DataW.TrodAll enc P W' b sp hd f.resultTypes.toList ((Value.bool true).resultList f.resultTypes.size) (s.fn H (ds ++ [])).results [] := by
  intro b sp hd
  rw [hrt, hfn]
  exact trodAll_cons_mk (shut_bool htb true) trodAll_mk0
 have hargs : ∀ sp : Nat -> Bool, (∀ p' ∈ before, sp p'.block = true) -> DataW.TrodAll enc P W' 0 sp true f.params.toList args.toList (s.fn H (ds ++ [])).args before := fun sp hsp => by
  rw [hfn]
  exact all sp _ _ _ _ hpar (fun x hx => ⟨hlt x hx, hsp x hx⟩) hA
 have hvars : ∀ sp : Nat -> Bool, DataW.TrodVars enc P W' sp s.vars (s.fn H (ds ++ [])).vars [] := fun sp => by rw [hv, hfn]; rfl
 have hold : ∀ p' ∈ before, (fun b => decide (b < W.heap.size)) p'.block = true := fun p' hp => by simpa using hlt p' hp
 refine ⟨ds, [], before, [], before, [], hW, hres _ _ _, hargs _ hold, hvars _, World.keptBut_mono (fun p' hp => ⟨hp, ?_⟩) (hb.frame (· ∈ before)), fun _ => ⟨ok_one hrt rfl (okWide_bool_mk htb _), _, _, ([] ++ before) ++ [], ⟨[] ++ before, [], trodAll_append (hargs _ (fun _ _ => rfl)) (hres _ _ _), hvars _, rfl, ?_, ?_⟩, ?_⟩⟩
 ·exact Or.inr (by simpa using hp)
 ·intro b off hp
  have hin : MemPlace.cell b off ∈ before := by simpa using hp
  rw [hb.frozen (hlt _ hin)]
  exact hz b off hin
 ·intro ha
  have := hn ha
  simpa using this
 ·intro p' hp _
  simpa using hp
end
open Go Go.RowKit Go.ChangeShapes Go.WideShapes Go.ChangeAt Eng
theorem b5Z : ownKnob Tryz.prog.godebug = none := by kernel_rfl
theorem b6a : laidOutB Tryz.prog = true := by kernel_rfl
theorem gDb : Tryz.prog.globalNamed "math/bits.deBruijn64tab" = some 3 := by kernel_rfl
theorem b7W : (Tryz.prog.globals[3]?).map (·.type) = some 305 := by kernel_rfl
theorem b7w : Tryz.prog.cellsOf 305 = 64 := by kernel_rfl
theorem b8X : Tryz.prog.cellsOf 5 = 1 := by kernel_rfl
theorem b6n : Tryz.prog.underlying 305 = some (.array 64 5) := by kernel_rfl
theorem b9P : Tryz.prog.underlying 5 = some (.int .u8) := by kernel_rfl
theorem b8B : (Rows.laid_math_bits_deBruijn64tab : DataW Unit) = Lib.tabData .u8 (Lib.deBruijn64tab.map fun n : Nat => (n : Int)) := by rfl
theorem c0L {W : World} {rest : List (String × DataW Unit)} (h : laidMet Tryz.prog (("math/bits.deBruijn64tab", Rows.laid_math_bits_deBruijn64tab) :: rest) W) : Wz W := by
 rw [b8B] at h
 have ht := Lib.tabIs_of_head gDb b7W b6n b9P b8X b7w h
 intro j hj
 have := ht.cell gDb j (by rw [c1m]; exact hj)
 rw [this]
 congr 2
 rw [c1C, c1C, c2b, c1l hj]
 rfl
section
variable {H : Type} {enc : TypeId × Value -> H} {W : World}
end
noncomputable def laidWorld (os : Os) : World := World.doorLaid Tryz.prog 400 os
end Go.Proofs.YtogfpjohjphngaaGreatDoor
