/- A part of the proof: lemmas only, with the conditions that each names. -/
import Derived.Test.YtpjjiegfigpgnaaGreatDoorProg
import Derived.KernelRfl
import Derived.Laws.Bits64b
import Derived.Shelf.Strings.SlTrimAscii
import Derived.Test.YtpjjiegfigpgnaaGreatDoorRows
import Derived.Carry
import Derived.ChangeArms
import Derived.ChangeSame
import Derived.Deep.Slices
import Derived.WalkKit
import Derived.ProofKit
import Derived.OpenShut
import Derived.JoinedCond
import Derived.Test.YtpjjiegfigpgnaaGreatDoorCards
import Derived.Test.YtpjjiegfigpgnaaGreatDoorTie
import Derived.Deep.DeepHandedRow
import Derived.Deep.DeepWitnessRowRef
import Derived.Lib.LaidTab
import Derived.LaidMore
import Derived.Lay
import Derived.Test.YtpjjiegfigpgnaaGreatDoorPk4
set_option linter.all false
namespace Go.Proofs.YtpjjiegfigpgnaaGreatDoor
open Go Go.RowKit Eng
set_option maxRecDepth 100000
set_option maxHeartbeats 16000000
theorem b3j (es : List (List C)) (hn : es.length <= 1073741824) : FNew Tryz.prog 63 [.sl 14 es] 68 14 es := by
 refine FNew.of (eff := eff) Tryz.func63 (by cbv) (by exact b8q rfl) fun w O => ?_
 simp only [j6]
 (repeat first | refine uA ?_ | (refine uK ?_ ?_; focus first | omega | (intros; simp_all <;> omega)) | simp (disch := omega) only [go_sem, Nat.reduceBEq, Nat.reduceAdd, ww])
 refine S.split 4 (Sx := fun y => ∃ b, y = .bool b /\ (es ≠ [] -> b = false)) rfl fun y hy => ?_
 obtain ⟨b, rfl, hb⟩ := hy
 refine S.cond rfl (fun hc => ?_) (fun hc => ?_)
 ·have he : es = [] := Classical.byContradiction fun h => by rw [hb h] at hc; cases hc
  subst he
  (repeat first | refine uA ?_ | (refine uK ?_ ?_; focus first | omega | (intros; simp_all <;> omega)) | simp (disch := omega) only [go_sem, Nat.reduceBEq, Nat.reduceAdd, ww])
  refine S.weaken (Ent.pack 2 68 14 rfl) ?_
  exact S.done (d9.new rfl rfl rfl)
 ·(repeat first | refine uA ?_ | (refine uK ?_ ?_; focus first | omega | (intros; simp_all <;> omega)) | simp (disch := omega) only [go_sem, Nat.reduceBEq, Nat.reduceAdd, ww])
  exact S.done (d9.new rfl rfl rfl)
theorem b2q (es : List (List C)) (hn : es.length <= 1073741824) : FNew Tryz.prog 64 [.sl 13 es] 119 13 es := by
 refine FNew.of (eff := eff) Tryz.func64 (by cbv) (by exact b8q rfl) fun w O => ?_
 simp only [j6]
 (repeat first | refine uA ?_ | (refine uK ?_ ?_; focus first | omega | (intros; simp_all <;> omega)) | simp (disch := omega) only [go_sem, Nat.reduceBEq, Nat.reduceAdd, ww])
 refine S.split 4 (Sx := fun y => ∃ b, y = .bool b /\ (es ≠ [] -> b = false)) rfl fun y hy => ?_
 obtain ⟨b, rfl, hb⟩ := hy
 refine S.cond rfl (fun hc => ?_) (fun hc => ?_)
 ·have he : es = [] := Classical.byContradiction fun h => by rw [hb h] at hc; cases hc
  subst he
  (repeat first | refine uA ?_ | (refine uK ?_ ?_; focus first | omega | (intros; simp_all <;> omega)) | simp (disch := omega) only [go_sem, Nat.reduceBEq, Nat.reduceAdd, ww])
  refine S.weaken (Ent.pack 2 119 13 rfl) ?_
  exact S.done (d9.new rfl rfl rfl)
 ·(repeat first | refine uA ?_ | (refine uK ?_ ?_; focus first | omega | (intros; simp_all <;> omega)) | simp (disch := omega) only [go_sem, Nat.reduceBEq, Nat.reduceAdd, ww])
  exact S.done (d9.new rfl rfl rfl)
open Go Eng
set_option maxHeartbeats 32000000
theorem b5C (w : Wk) (hb : Wb 1048576 w) : l6 Tryz.prog 13 [w.c] w.c := by
 refine kS Tryz.func13 (by cbv) (by rfl) fun w' O => ?_
 obtain ⟨n1, b1⟩ := hb.arms
 obtain ⟨n2, b2⟩ := hb.walls
 obtain ⟨n3, b3⟩ := hb.parts
 have n4 := hb.slots.1
 have n5 := hb.gates.1
 obtain ⟨arms, walls, parts, slots, gates, walk⟩ := w
 simp only at n1 b1 n2 b2 n3 b3 n4 n5 ⊢
 have c1 := (b3j (slots.map Sl.enc) (by rw [b7Z]; omega)).spec
 have c2 := (b2q (gates.map Gt.enc) (by rw [b7Z]; omega)).spec
 have hv : ∀ l : List Vt, Vbs 1048576 l -> l6 Tryz.prog 65 [.sl 6 (l.map Vt.enc)] (.sl 6 (l.map Vt.enc)) := fun l hl => (b4i (l.map Vt.enc) (by rw [b7Z]; have := hl.1; omega)).spec
 simp only [j6]
 simp only [Wk.c, Wk.enc, ams, wls, pts, sls, gts, sb]
 (repeat first | refine uA ?_ | (refine uK ?_ ?_; focus first | omega | (intros; simp_all <;> omega)) | simp (disch := omega) only [go_sem, Nat.reduceBEq, Nat.reduceAdd, ww, b7Z] | (refine uB c1 ?_ ?_; exact rfl) | (refine uB c2 ?_ ?_; exact rfl))
 refine S.loop (X := Nat) (fun i => ⟨[(1, .bp 0 0), (2, .bp 1 0), (3, .bp 2 0), (23, ams arms), (24, ints arms.length), (25, ints i)], [.box 30 [ams arms, wls walls, pts parts, sls slots, gts gates, .v (.bool walk.neg), sb walk.num, sb walk.den], .box 30 [.v (.slice none 0 0), .v (.slice none 0 0), .v (.slice none 0 0), .v (.slice none 0 0), .v (.slice none 0 0), .v (.bool false), .v (.string ⟨#[]⟩), .v (.string ⟨#[]⟩)], .box 30 [.rv 3, .rv 4, .rv 5, sls slots, gts gates, .v (.bool walk.neg), sb walk.num, sb walk.den], .row 60 12 ((arms.take i).map Am.enc), .row 44 1 [], .row 64 12 []]⟩) (fun i => i <= arms.length) (fun i => arms.length - i) 0 (b8b _)
  (Ent.trans (Ent.a0V 2 0 60 12 rfl rfl rfl) (Ent.trans (Ent.a0V 2 1 44 1 rfl rfl rfl) (Ent.trans (Ent.a0V 2 2 64 12 rfl rfl rfl) (by (repeat first | refine uA ?_ | (refine ⟨?_, ?_⟩; focus first | rfl | simp [slot]) | rfl | simp))))) ?_
 intro i hi
 simp only [ams, wls, pts, sls, gts, sb, ints]
 (repeat first | refine uA ?_ | (refine uK ?_ ?_; focus first | omega | (intros; simp_all <;> omega)) | simp (disch := omega) only [go_sem, Nat.reduceBEq, Nat.reduceAdd, ww])
 (refine uJ rfl (fun hc => ?_) fun hc => ?_)
 ·have hi' : i < arms.length := by omega
  have hgi := b7W hi'
  have hap : arms.take (i + 1) = arms.take i ++ [arms[i]] := b8L hi'
  have htl : (arms.take i).length = i := by rw [b8i]; omega
  generalize arms[i] = a at hgi hap
  obtain ⟨_, _, nl, bl⟩ := b1 a (b8c hgi)
  (repeat first | refine uA ?_ | (refine uK ?_ ?_; focus first | omega | (intros; simp_all <;> omega)) | simp (disch := omega) only [go_sem, Nat.reduceBEq, Nat.reduceAdd, ww, hgi, b7Y, b7Z, Am.enc, lks, sb])
  refine S.loop (X := Nat) (fun k => ⟨[(1, .bp 0 0), (2, .bp 1 0), (3, .bp 2 0), (6, .bp 7 0), (23, ams arms), (24, ints arms.length), (25, ints i), (35, lks a.links), (36, ints a.links.length), (37, ints k)], [.box 30 [ams arms, wls walls, pts parts, sls slots, gts gates, .v (.bool walk.neg), sb walk.num, sb walk.den], .box 30 [.v (.slice none 0 0), .v (.slice none 0 0), .v (.slice none 0 0), .v (.slice none 0 0), .v (.slice none 0 0), .v (.bool false), .v (.string ⟨#[]⟩), .v (.string ⟨#[]⟩)], .box 30 [.rv 3, .rv 4, .rv 5, sls slots, gts gates, .v (.bool walk.neg), sb walk.num, sb walk.den], .row 60 12 ((arms.take i).map Am.enc), .row 44 1 [], .row 64 12 [], .gone, .box 60 [sb a.name, .v (.bool a.base.x.neg), sb a.base.x.num, sb a.base.x.den, .v (.bool a.base.y.neg), sb a.base.y.num, sb a.base.y.den, .v (.bool a.base.half), .v (.bool a.base.t.neg), sb a.base.t.num, sb a.base.t.den, .rv 8], .row 127 16 ((a.links.take k).map Lk.enc)]⟩) (fun k => k <= a.links.length) (fun k => a.links.length - k) 0 (b8b _)
   (Ent.trans (Ent.a0V 7 11 127 16 rfl rfl rfl) (by (repeat first | refine uA ?_ | (refine ⟨?_, ?_⟩; focus first | rfl | simp [slot]) | rfl | simp))) ?_
  intro k hk
  simp only [ams, wls, pts, sls, gts, lks, sb, ints]
  (repeat first | refine uA ?_ | (refine uK ?_ ?_; focus first | omega | (intros; simp_all <;> omega)) | simp (disch := omega) only [go_sem, Nat.reduceBEq, Nat.reduceAdd, ww])
  (refine uJ rfl (fun hc => ?_) fun hc => ?_)
  ·have hk' : k < a.links.length := by omega
   have hgk := b7W hk'
   have hak : a.links.take (k + 1) = a.links.take k ++ [a.links[k]] := b8L hk'
   have htk : (a.links.take k).length = k := by rw [b8i]; omega
   generalize a.links[k] = l at hgk hak
   have cv := hv l.shape (bl l (b8c hgk)).2.2.2.2.2
   (repeat first | refine uA ?_ | (refine uK ?_ ?_; focus first | omega | (intros; simp_all <;> omega)) | simp (disch := omega) only [go_sem, Nat.reduceBEq, Nat.reduceAdd, ww, hgk, b7Y, b7Z, htk, Lk.enc, vts, sb] | (refine uB cv ?_ ?_; exact rfl))
   refine S.next (k + 1) (by omega) (by omega) (by simp only [hak, b8O, b8y, b8E, Lk.enc, vts, sb]; exact (by (repeat first | refine uA ?_ | (refine ⟨?_, ?_⟩; focus first | rfl | simp [slot]) | rfl | simp)))
  ·have hk' : k = a.links.length := by omega
   subst hk'
   rw [b8n]
   refine S.exit rfl ?_
   refine S.weaken (st' := ⟨[(1, .bp 0 0), (2, .bp 1 0), (3, .bp 2 0), (6, .bp 7 0), (23, ams arms), (24, ints arms.length), (25, ints i)], [.box 30 [ams arms, wls walls, pts parts, sls slots, gts gates, .v (.bool walk.neg), sb walk.num, sb walk.den], .box 30 [.v (.slice none 0 0), .v (.slice none 0 0), .v (.slice none 0 0), .v (.slice none 0 0), .v (.slice none 0 0), .v (.bool false), .v (.string ⟨#[]⟩), .v (.string ⟨#[]⟩)], .box 30 [.rv 3, .rv 4, .rv 5, sls slots, gts gates, .v (.bool walk.neg), sb walk.num, sb walk.den], .row 60 12 ((arms.take i).map Am.enc), .row 44 1 [], .row 64 12 [], .gone, .box 60 a.enc]⟩) (Ent.mk _ _ (by (repeat first | refine uA ?_ | (refine ⟨?_, ?_⟩; focus first | rfl | simp [slot]) | rfl | simp)) (by (repeat' (first | exact J7.nil | exact RI.gone _ | exact RI.row _ _ _ _ rfl | exact RI.map _ _ _ rfl | exact RI.box _ _ _ (l5.refl rfl) | (refine RI.box _ _ _ ?_; (repeat' (first | exact l5.nil | exact Imp.refl rfl | exact Imp.frz rfl rfl rfl | exact Imp.O1 | refine l5.cons ?_ ?_))) | refine J7.cons ?_ ?_))) (b8b _)) ?_
   simp only [ams, wls, pts, sls, gts, sb, ints, Am.enc, lks]
   (repeat first | refine uA ?_ | (refine uK ?_ ?_; focus first | omega | (intros; simp_all <;> omega)) | simp (disch := omega) only [go_sem, Nat.reduceBEq, Nat.reduceAdd, ww, b7Z, htl])
   refine S.next (i + 1) (by omega) (by omega) (by simp only [hap, b8O, b8y, b8E, Am.enc, lks, sb]; exact (by (repeat first | refine uA ?_ | (refine ⟨?_, ?_⟩; focus first | rfl | simp [slot]) | rfl | simp)))
 have hi' : i = arms.length := by omega
 subst hi'
 rw [b8n]
 (repeat first | refine uA ?_ | (refine uK ?_ ?_; focus first | omega | (intros; simp_all <;> omega)) | simp (disch := omega) only [go_sem, Nat.reduceBEq, Nat.reduceAdd, ww, b7Z])
 refine S.loop (X := Nat) (fun i => ⟨[(1, .bp 0 0), (2, .bp 1 0), (3, .bp 2 0), (60, wls walls), (61, ints walls.length), (62, ints i)], [.box 30 [ams arms, wls walls, pts parts, sls slots, gts gates, .v (.bool walk.neg), sb walk.num, sb walk.den], .box 30 [.v (.slice none 0 0), .v (.slice none 0 0), .v (.slice none 0 0), .v (.slice none 0 0), .v (.slice none 0 0), .v (.bool false), .v (.string ⟨#[]⟩), .v (.string ⟨#[]⟩)], .box 30 [.rv 3, .rv 4, .rv 5, sls slots, gts gates, .v (.bool walk.neg), sb walk.num, sb walk.den], .row 60 12 (arms.map Am.enc), .row 44 1 ((walls.take i).map fun s => [vts s]), .row 64 12 []]⟩) (fun i => i <= walls.length) (fun i => walls.length - i) 0 (b8b _) (by (repeat first | refine uA ?_ | (refine ⟨?_, ?_⟩; focus first | rfl | simp [slot]) | rfl | simp)) ?_
 intro i hi
 simp only [ams, wls, pts, sls, gts, sb, ints]
 (repeat first | refine uA ?_ | (refine uK ?_ ?_; focus first | omega | (intros; simp_all <;> omega)) | simp (disch := omega) only [go_sem, Nat.reduceBEq, Nat.reduceAdd, ww])
 (refine uJ rfl (fun hc => ?_) fun hc => ?_)
 ·have hi' : i < walls.length := by omega
  have hgi := b7W hi'
  have hap : walls.take (i + 1) = walls.take i ++ [walls[i]] := b8L hi'
  have htl : (walls.take i).length = i := by rw [b8i]; omega
  generalize walls[i] = x at hgi hap
  have cv := hv x (b2 x (b8c hgi))
  (repeat first | refine uA ?_ | (refine uK ?_ ?_; focus first | omega | (intros; simp_all <;> omega)) | simp (disch := omega) only [go_sem, Nat.reduceBEq, Nat.reduceAdd, ww, hgi, b7Y, b7Z, htl, vts] | (refine uB cv ?_ ?_; exact rfl))
  refine S.next (i + 1) (by omega) (by omega) (by simp only [hap, b8O, b8y, b8E, vts]; exact (by (repeat first | refine uA ?_ | (refine ⟨?_, ?_⟩; focus first | rfl | simp [slot]) | rfl | simp)))
 have hi' : i = walls.length := by omega
 subst hi'
 rw [b8n]
 (repeat first | refine uA ?_ | (refine uK ?_ ?_; focus first | omega | (intros; simp_all <;> omega)) | simp (disch := omega) only [go_sem, Nat.reduceBEq, Nat.reduceAdd, ww, b7Z])
 refine S.loop (X := Nat) (fun i => ⟨[(1, .bp 0 0), (2, .bp 1 0), (3, .bp 2 0), (75, pts parts), (76, ints parts.length), (77, ints i)], [.box 30 [ams arms, wls walls, pts parts, sls slots, gts gates, .v (.bool walk.neg), sb walk.num, sb walk.den], .box 30 [.v (.slice none 0 0), .v (.slice none 0 0), .v (.slice none 0 0), .v (.slice none 0 0), .v (.slice none 0 0), .v (.bool false), .v (.string ⟨#[]⟩), .v (.string ⟨#[]⟩)], .box 30 [.rv 3, .rv 4, .rv 5, sls slots, gts gates, .v (.bool walk.neg), sb walk.num, sb walk.den], .row 60 12 (arms.map Am.enc), .row 44 1 (walls.map fun s => [vts s]), .row 64 12 ((parts.take i).map Pt.enc)]⟩) (fun i => i <= parts.length) (fun i => parts.length - i) 0 (b8b _) (by (repeat first | refine uA ?_ | (refine ⟨?_, ?_⟩; focus first | rfl | simp [slot]) | rfl | simp)) ?_
 intro i hi
 simp only [ams, wls, pts, sls, gts, sb, ints]
 (repeat first | refine uA ?_ | (refine uK ?_ ?_; focus first | omega | (intros; simp_all <;> omega)) | simp (disch := omega) only [go_sem, Nat.reduceBEq, Nat.reduceAdd, ww])
 (refine uJ rfl (fun hc => ?_) fun hc => ?_)
 ·have hi' : i < parts.length := by omega
  have hgi := b7W hi'
  have hap : parts.take (i + 1) = parts.take i ++ [parts[i]] := b8L hi'
  have htl : (parts.take i).length = i := by rw [b8i]; omega
  generalize parts[i] = x at hgi hap
  have cv := hv x.shape (b3 x (b8c hgi)).2.1
  (repeat first | refine uA ?_ | (refine uK ?_ ?_; focus first | omega | (intros; simp_all <;> omega)) | simp (disch := omega) only [go_sem, Nat.reduceBEq, Nat.reduceAdd, ww, hgi, b7Y, b7Z, htl, Pt.enc, vts, sb] | (refine uB cv ?_ ?_; exact rfl))
  refine S.next (i + 1) (by omega) (by omega) (by simp only [hap, b8O, b8y, b8E, Pt.enc, vts, sb]; exact (by (repeat first | refine uA ?_ | (refine ⟨?_, ?_⟩; focus first | rfl | simp [slot]) | rfl | simp)))
 have hi' : i = parts.length := by omega
 subst hi'
 rw [b8n]
 (repeat first | refine uA ?_ | (refine uK ?_ ?_; focus first | omega | (intros; simp_all <;> omega)) | simp (disch := omega) only [go_sem, Nat.reduceBEq, Nat.reduceAdd, ww])
 (refine S.done ?_; simp only [z8, r9, go_sem, Nat.reduceBEq, Nat.reduceAdd, Nat.reduceLeDiff, Int.reduceToNat, Int.reducePow]; (repeat (refine ⟨?_, ?_⟩; focus first | trivial | omega | simp)); exact d9.out rfl (Imp.agg (by (repeat' (first | exact l5.nil | exact Imp.refl rfl | exact Imp.frz rfl rfl rfl | exact Imp.O1 | refine l5.cons ?_ ?_)))) rfl)
def E9 (u : Nat) : List UInt8 := if u < 128 then [UInt8.ofNat u] else UInt8.ofNat (u % 128 + 128) :: E9 (u / 128)
theorem a4Y {u : Nat} (h : u < 128) : E9 u = [UInt8.ofNat u] := by unfold E9; rw [if_pos h]
theorem a4U {u : Nat} (h : ¬ u < 128) : E9 u = UInt8.ofNat (u % 128 + 128) :: E9 (u / 128) := by rw [E9, if_neg h]
def a2Y (n : Int) : List UInt8 := E9 (IntKind.u64.wrap n).toNat
def a2a (b : Bool) : List UInt8 := if b then [1] else [0]
def Z7 (l : List UInt8) : List UInt8 := E9 l.length ++ l
def H6 (a : Nm.Rt) : List UInt8 := a2a a.neg ++ (Z7 a.num ++ Z7 a.den)
def K4 (v : Vt) : List UInt8 := H6 v.x ++ H6 v.y
def frB (f : Fr) : List UInt8 := (H6 f.x ++ H6 f.y) ++ (a2a f.half ++ H6 f.t)
def l9 {α : Type} (f : α -> List UInt8) (l : List α) : List UInt8 := E9 l.length ++ l.flatMap f
def a5H (x : Ast) : List UInt8 := l9 H6 x.q ++ (l9 H6 x.v ++ (a2a x.power ++ a2Y (IntKind.i64.wrap (x.holds + 1))))
def a4h (s : Stt) : List UInt8 := a2Y s.tick ++ (l9 a5H s.arms ++ (l9 frB s.parts ++ (l9 K4 s.people ++ l9 a2a s.gates)))
theorem a9w (n : Int) : IntKind.u64.wrap n = n % 18446744073709551616 := by simp [IntKind.wrap, IntKind.signed, IntKind.bits]
theorem a9Y (u : Nat) : ∀ n, u < 128 ^ n -> 0 < n -> (E9 u).length <= n := by
 induction u using E9.induct with
 | case1 u h => intro n _ hn; rw [a4Y h]; simp; omega
 | case2 u h ih =>
  intro n hu hn
  rw [a4U h]
  cases n with
  | zero => omega
  | succ n =>
   cases n with
   | zero => simp at hu; omega
   | succ n =>
    have := ih (n + 1) (by rw [b8C] at hu; omega) (by omega)
    simpa using this
theorem b3r (u : Nat) (h : u < 18446744073709551616) : (E9 u).length <= 10 := a9Y u 10 (b8p h (by decide)) (by decide)
set_option maxRecDepth 10000
set_option maxHeartbeats 4000000
theorem K5 {n : Nat} (h : n < 18446744073709551616) : a2Y (n : Int) = E9 n := by
 unfold a2Y
 rw [a9w, show ((n : Int) % 18446744073709551616).toNat = n by omega]
theorem a8O (n : Int) : IntKind.u8.wrap n = n % 256 := by simp [IntKind.wrap, IntKind.signed, IntKind.bits]
theorem b6U (u : Nat) (h : u < 128) : IntKind.u8.wrap (u : Int) = ((UInt8.ofNat u).toNat : Int) := by
 rw [a8O, UInt8.toNat_ofNat']
 omega
theorem b7H (u : Nat) (h : u < 18446744073709551616) : IntKind.u8.wrap (Go.bits .or .u64 (Go.bits .and .u64 (u : Int) 127) 128) = ((UInt8.ofNat (u % 128 + 128)).toNat : Int) := by
 have h1 : Go.bits .and .u64 (u : Int) 127 = ((u % 128 : Nat) : Int) := by
  have := bits_and_u64_nat u 127 h (by omega)
  rw [show (127 : Nat) = 2 ^ 7 - 1 from rfl, Nat.and_two_pow_sub_one_eq_mod] at this
  exact this
 have h2 : Go.bits .or .u64 ((u % 128 : Nat) : Int) 128 = ((u % 128 + 128 : Nat) : Int) := by
  have := bits_or_u64_nat (u % 128) 128 (by omega) (by omega)
  have h3 : u % 128 ||| 128 = u % 128 + 128 := by
   have := Nat.two_pow_add_eq_or_of_lt (i := 7) (b := u % 128) (by omega) 1
   simp at this
   rw [Nat.or_comm, <- this]
   omega
  rw [h3] at this
  exact this
 rw [h1, h2, a8O, UInt8.toNat_ofNat']
 omega
theorem b3L {u : Nat} : ((u : Int).fdiv 128) = ((u / 128 : Nat) : Int) := by
 rw [Int.fdiv_eq_ediv_of_nonneg _ (by omega)]
 omega
theorem a8n (x : UInt8) : Q6 [[C.v (.int .u8 (x.toNat : Int))]] = some [x] := M7 [x]
theorem U5 {α β : Type} (f : α -> List β) {l : List α} {i : Nat} (h : i < l.length) : (l.take (i + 1)).flatMap f = (l.take i).flatMap f ++ f l[i] := by
 rw [b8L h, List.flatMap_append]
 simp
theorem a0b {α β : Type} (f : α -> List β) {l : List α} {i : Nat} (h : i < l.length) : ((l.take i).flatMap f).length + (f l[i]).length <= (l.flatMap f).length := by
 have := U5 f h
 have h2 : l.flatMap f = (l.take (i + 1)).flatMap f ++ (l.drop (i + 1)).flatMap f := by rw [<- List.flatMap_append, List.take_append_drop]
 rw [h2, this]
 simp only [b7X]
 omega
theorem b6x {α β : Type} (f : α -> List β) {l : List α} {z : α} (h : z ∈ l) : (f z).length <= (l.flatMap f).length := by
 obtain ⟨i, hi, rfl⟩ := List.getElem_of_mem h
 have := a0b f hi
 omega
theorem N8 {α : Type} (f : α -> List UInt8) {l : List α} {z : α} (h : z ∈ l) {m : Nat} (hm : (l9 f l).length <= m) : (f z).length <= m := by
 have := b6x f h
 unfold l9 at hm
 rw [b7X] at hm
 omega
theorem P6 (n : Int) : l6 Tryz.prog 87 [ints n] (sb (a2Y n)) := by
 refine kS Tryz.func87 (by cbv) (by rfl) fun w O => ?_
 simp only [j6, ints]
 have hu0 : 0 <= IntKind.u64.wrap n /\ IntKind.u64.wrap n < 18446744073709551616 := by rw [a9w]; omega
 have hint : a2Y n = E9 (IntKind.u64.wrap n).toNat := rfl
 rw [hint]
 obtain ⟨u0, hu⟩ : ∃ u0 : Nat, IntKind.u64.wrap n = (u0 : Int) := ⟨(IntKind.u64.wrap n).toNat, by omega⟩
 rw [hu] at hu0 ⊢
 rw [b8m]
 have hl0 := b3r u0 (by omega)
 (repeat first | refine uA ?_ | (refine uK ?_ ?_; focus first | omega | trivial | (intros; simp_all <;> omega)) | simp (disch := omega) only [go_sem, Nat.reduceBEq, Nat.reduceAdd, Nat.reduceLeDiff, Int.reduceToNat, Int.reducePow, ww, hu])
 refine S.loop (X := Nat × List UInt8) (fun p => ⟨[(3, sb p.2), (4, .v (.int .u64 p.1))], []⟩)
  (fun p => E9 u0 = p.2 ++ E9 p.1 /\ p.1 < 18446744073709551616) (fun p => p.1) (u0, []) ⟨rfl, by simp only; omega⟩ (by (repeat first | refine uA ?_ | (refine ⟨?_, ?_⟩; focus first | rfl | trivial | (simp [slot]; done)) | rfl | trivial | simp)) ?_
 rintro ⟨u, done⟩ ⟨hxs, hlt⟩
 simp only [sb] at hxs hlt ⊢
 have hlen : done.length + (E9 u).length <= 10 := by
  have := congrArg List.length hxs
  simp at this
  omega
 (repeat first | refine uA ?_ | (refine uK ?_ ?_; focus first | omega | trivial | (intros; simp_all <;> omega)) | simp (disch := omega) only [go_sem, Nat.reduceBEq, Nat.reduceAdd, Nat.reduceLeDiff, Int.reduceToNat, Int.reducePow, ww])
 (refine uJ rfl (fun hc => ?_) fun hc => ?_)
 ·have hge : u < 128 := by omega
  rw [a4Y hge] at hxs
  (repeat first | refine uA ?_ | (refine uK ?_ ?_; focus first | omega | trivial | (intros; simp_all <;> omega)) | simp (disch := omega) only [go_sem, Nat.reduceBEq, Nat.reduceAdd, Nat.reduceLeDiff, Int.reduceToNat, Int.reducePow, ww, a8n, a0C, l8, F7, b6U u hge, b8r, List.length_nil])
  rw [hxs]
  exact S.done (d9.out rfl (Imp.refl rfl) rfl)
 ·have hge : ¬ u < 128 := by omega
  rw [a4U hge] at hxs
  have hg1 := a4U hge
  rw [hg1, b8r] at hlen
  (repeat first | refine uA ?_ | (refine uK ?_ ?_; focus first | omega | trivial | (intros; simp_all <;> omega)) | simp (disch := omega) only [go_sem, Nat.reduceBEq, Nat.reduceAdd, Nat.reduceLeDiff, Int.reduceToNat, Int.reducePow, ww, a8n, a0C, l8, F7, b7H u hlt, b3L, b8r, List.length_nil])
  refine S.next (x := (u, done)) (u / 128, done ++ [UInt8.ofNat (u % 128 + 128)]) ⟨by rw [hxs]; simp, by simp only; omega⟩ (by simp only; omega) (by (repeat first | refine uA ?_ | (refine ⟨?_, ?_⟩; focus first | rfl | trivial | (simp [slot]; done)) | rfl | trivial | simp))
theorem a3X (b : Bool) : l6 Tryz.prog 145 [.v (.bool b)] (sb (a2a b)) := by
 refine kS Tryz.func145 (by cbv) (by rfl) fun w O => ?_
 simp only [j6]
 (repeat first | refine uA ?_ | (refine uK ?_ ?_; focus first | omega | trivial | (intros; simp_all <;> omega)) | simp (disch := omega) only [go_sem, Nat.reduceBEq, Nat.reduceAdd, Nat.reduceLeDiff, Int.reduceToNat, Int.reducePow, ww])
 refine S.cond rfl (fun hc => ?_) (fun hc => ?_)
 ·subst hc
  (repeat first | refine uA ?_ | (refine uK ?_ ?_; focus first | omega | trivial | (intros; simp_all <;> omega)) | simp (disch := omega) only [go_sem, Nat.reduceBEq, Nat.reduceAdd, Nat.reduceLeDiff, Int.reduceToNat, Int.reducePow, ww])
  exact S.done (d9.out rfl (Imp.refl rfl) rfl)
 ·subst hc
  (repeat first | refine uA ?_ | (refine uK ?_ ?_; focus first | omega | trivial | (intros; simp_all <;> omega)) | simp (disch := omega) only [go_sem, Nat.reduceBEq, Nat.reduceAdd, Nat.reduceLeDiff, Int.reduceToNat, Int.reducePow, ww])
  exact S.done (d9.out rfl (Imp.refl rfl) rfl)
theorem a2e (s : List UInt8) (hl : (Z7 s).length <= 140737488355328) : l6 Tryz.prog 71 [sb s] (sb (Z7 s)) := by
 refine kS Tryz.func71 (by cbv) (by rfl) fun w O => ?_
 unfold Z7 at hl ⊢
 rw [b7X] at hl
 have h1 := P6 s.length
 rw [K5 (by omega)] at h1
 simp only [j6]
 simp only [sb, ints] at *
 (repeat first | refine uA ?_ | (refine uK ?_ ?_; focus first | omega | trivial | (intros; simp_all <;> omega)) | simp (disch := omega) only [go_sem, Nat.reduceBEq, Nat.reduceAdd, Nat.reduceLeDiff, Int.reduceToNat, Int.reducePow, ww, l8, F7, b7X] | (refine uB h1 ?_ ?_; exact rfl))
 exact S.done (d9.out rfl (Imp.refl rfl) rfl)
theorem N9 (a : Nm.Rt) (hl : (H6 a).length <= 140737488355328) : l6 Tryz.prog 67 [rc a] (sb (H6 a)) := by
 refine kS Tryz.func67 (by cbv) (by rfl) fun w O => ?_
 unfold H6 at hl ⊢
 simp only [b7X] at hl
 have h1 := a3X a.neg
 have h2 := a2e a.num (by omega)
 have h3 := a2e a.den (by omega)
 simp only [j6]
 simp only [rc, sb] at *
 (repeat first | refine uA ?_ | (refine uK ?_ ?_; focus first | omega | trivial | (intros; simp_all <;> omega)) | simp (disch := omega) only [go_sem, Nat.reduceBEq, Nat.reduceAdd, Nat.reduceLeDiff, Int.reduceToNat, Int.reducePow, ww, l8, F7, b7X, b8l] | (refine uB h1 ?_ ?_; exact rfl) | (refine uB h2 ?_ ?_; exact rfl) | (refine uB h3 ?_ ?_; exact rfl))
 exact S.done (d9.out rfl (Imp.refl rfl) rfl)
theorem a2m (v : Vt) (hl : (K4 v).length <= 140737488355328) : l6 Tryz.prog 81 [v.c] (sb (K4 v)) := by
 refine kS Tryz.func81 (by cbv) (by rfl) fun w O => ?_
 unfold K4 at hl ⊢
 simp only [b7X] at hl
 have h1 := N9 v.x (by omega)
 have h2 := N9 v.y (by omega)
 generalize H6 v.x = r1 at *
 generalize H6 v.y = r2 at *
 simp only [j6]
 simp only [Vt.c, Vt.enc, rc, sb] at *
 (repeat first | refine uA ?_ | (refine uK ?_ ?_; focus first | omega | trivial | (intros; simp_all <;> omega)) | simp (disch := omega) only [go_sem, Nat.reduceBEq, Nat.reduceAdd, Nat.reduceLeDiff, Int.reduceToNat, Int.reducePow, ww, l8, F7, b7X] | (refine uB h1 ?_ ?_; exact rfl) | (refine uB h2 ?_ ?_; exact rfl))
 exact S.done (d9.out rfl (Imp.refl rfl) rfl)
theorem a2O (f : Fr) (hl : (frB f).length <= 140737488355328) : l6 Tryz.prog 72 [f.c] (sb (frB f)) := by
 refine kS Tryz.func72 (by cbv) (by rfl) fun w O => ?_
 unfold frB at hl ⊢
 simp only [b7X] at hl
 have h1 := a2m ⟨f.x, f.y⟩ (show (H6 f.x ++ H6 f.y).length <= _ by rw [b7X]; omega)
 have h2 := a3X f.half
 have h3 := N9 f.t (by omega)
 unfold K4 at h1
 generalize H6 f.x = r1 at *
 generalize H6 f.y = r2 at *
 generalize H6 f.t = r3 at *
 simp only [j6]
 simp only [Fr.c, Fr.enc, Vt.c, Vt.enc, rc, sb] at *
 (repeat first | refine uA ?_ | (refine uK ?_ ?_; focus first | omega | trivial | (intros; simp_all <;> omega)) | simp (disch := omega) only [go_sem, Nat.reduceBEq, Nat.reduceAdd, Nat.reduceLeDiff, Int.reduceToNat, Int.reducePow, ww, l8, F7, b7X, b8l] | (refine uB h1 ?_ ?_; exact rfl) | (refine uB h2 ?_ ?_; exact rfl) | (refine uB h3 ?_ ?_; exact rfl))
 exact S.done (d9.out rfl (Imp.refl rfl) rfl)
theorem a5x (g : Nat) (hcal : callable Tryz.prog g = true) (f : Nm.Rt -> List UInt8) (l : List Nm.Rt) (hl : (l9 f l).length <= 140737488355328) (hn : l.length <= 1099511627776) (hg : ∀ x ∈ l, l6 Tryz.prog g [rc x] (sb (f x))) :
  l6 Tryz.prog 88 [rts l, .v (.func (.func g) #[] #[])] (sb (l9 f l)) := by
 refine kS Tryz.func88 (by cbv) (by rfl) fun w O => ?_
 unfold l9 at hl ⊢
 rw [b7X] at hl
 have h1 := P6 l.length
 rw [K5 (by omega)] at h1
 simp only [j6, rts]
 simp only [sb, ints] at h1 hg ⊢
 generalize E9 l.length = d at *
 (repeat first | refine uA ?_ | (refine uK ?_ ?_; focus first | omega | trivial | (intros; simp_all <;> omega)) | simp (disch := omega) only [go_sem, Nat.reduceBEq, Nat.reduceAdd, Nat.reduceLeDiff, Int.reduceToNat, Int.reducePow, ww, b7Z] | (refine uB h1 ?_ ?_; exact rfl))
 refine S.loop (X := Nat) (fun i => ⟨[(1, .v (.func (.func g) #[] #[])), (5, sb (d ++ (l.take i).flatMap f)), (11, rts l), (12, ints l.length), (13, ints i)], []⟩)
  (fun i => i <= l.length) (fun i => l.length - i) 0 (b8b _) (by simp only [List.take_zero, List.flatMap_nil, List.append_nil]; exact (by (repeat first | refine uA ?_ | (refine ⟨?_, ?_⟩; focus first | rfl | trivial | (simp [slot]; done)) | rfl | trivial | simp))) ?_
 intro i hi
 simp only [rts, sb, ints] at hi ⊢
 (repeat first | refine uA ?_ | (refine uK ?_ ?_; focus first | omega | trivial | (intros; simp_all <;> omega)) | simp (disch := omega) only [go_sem, Nat.reduceBEq, Nat.reduceAdd, Nat.reduceLeDiff, Int.reduceToNat, Int.reducePow, ww])
 (refine uJ rfl (fun hc => ?_) fun hc => ?_)
 ·have hi' : i < l.length := by omega
  have hgi := b7W hi'
  have hfm := U5 f hi'
  have hle := a0b f hi'
  generalize l[i] = x at hgi hfm hle
  have hs := hg x (b8c hgi)
  (try simp only [rc, rcs, sb] at hs)
  (repeat first | refine uA ?_ | (refine uK ?_ ?_; focus first | omega | trivial | (intros; simp_all <;> omega)) | simp (disch := omega) only [go_sem, Nat.reduceBEq, Nat.reduceAdd, Nat.reduceLeDiff, Int.reduceToNat, Int.reducePow, ww, hgi, b7Y, b7Z, rc, rcs, sb, b8m, hcal, l8, F7, b7X, b8l] | (refine uB hs ?_ ?_; exact rfl))
  refine S.next (i + 1) (by omega) (by omega) (by rw [hfm]; exact (by (repeat first | refine uA ?_ | (refine ⟨?_, ?_⟩; focus first | rfl | trivial | (simp [slot]; done)) | rfl | trivial | simp)))
 ·have hi' : i = l.length := by omega
  subst hi'
  rw [b8n]
  (repeat first | refine uA ?_ | (refine uK ?_ ?_; focus first | omega | trivial | (intros; simp_all <;> omega)) | simp (disch := omega) only [go_sem, Nat.reduceBEq, Nat.reduceAdd, Nat.reduceLeDiff, Int.reduceToNat, Int.reducePow, ww])
  exact S.done (d9.out rfl (Imp.refl rfl) rfl)
theorem b0a (g : Nat) (hcal : callable Tryz.prog g = true) (f : Ast -> List UInt8) (l : List Ast) (hl : (l9 f l).length <= 140737488355328) (hn : l.length <= 1099511627776) (hg : ∀ x ∈ l, l6 Tryz.prog g [x.c] (sb (f x))) :
  l6 Tryz.prog 148 [a3a l, .v (.func (.func g) #[] #[])] (sb (l9 f l)) := by
 refine kS Tryz.func148 (by cbv) (by rfl) fun w O => ?_
 unfold l9 at hl ⊢
 rw [b7X] at hl
 have h1 := P6 l.length
 rw [K5 (by omega)] at h1
 simp only [j6, a3a]
 simp only [sb, ints] at h1 hg ⊢
 generalize E9 l.length = d at *
 (repeat first | refine uA ?_ | (refine uK ?_ ?_; focus first | omega | trivial | (intros; simp_all <;> omega)) | simp (disch := omega) only [go_sem, Nat.reduceBEq, Nat.reduceAdd, Nat.reduceLeDiff, Int.reduceToNat, Int.reducePow, ww, b7Z] | (refine uB h1 ?_ ?_; exact rfl))
 refine S.loop (X := Nat) (fun i => ⟨[(1, .v (.func (.func g) #[] #[])), (5, sb (d ++ (l.take i).flatMap f)), (11, a3a l), (12, ints l.length), (13, ints i)], []⟩)
  (fun i => i <= l.length) (fun i => l.length - i) 0 (b8b _) (by simp only [List.take_zero, List.flatMap_nil, List.append_nil]; exact (by (repeat first | refine uA ?_ | (refine ⟨?_, ?_⟩; focus first | rfl | trivial | (simp [slot]; done)) | rfl | trivial | simp))) ?_
 intro i hi
 simp only [a3a, sb, ints] at hi ⊢
 (repeat first | refine uA ?_ | (refine uK ?_ ?_; focus first | omega | trivial | (intros; simp_all <;> omega)) | simp (disch := omega) only [go_sem, Nat.reduceBEq, Nat.reduceAdd, Nat.reduceLeDiff, Int.reduceToNat, Int.reducePow, ww])
 (refine uJ rfl (fun hc => ?_) fun hc => ?_)
 ·have hi' : i < l.length := by omega
  have hgi := b7W hi'
  have hfm := U5 f hi'
  have hle := a0b f hi'
  generalize l[i] = x at hgi hfm hle
  have hs := hg x (b8c hgi)
  (try simp only [Ast.c, Ast.enc, rts, sb, ints] at hs)
  (repeat first | refine uA ?_ | (refine uK ?_ ?_; focus first | omega | trivial | (intros; simp_all <;> omega)) | simp (disch := omega) only [go_sem, Nat.reduceBEq, Nat.reduceAdd, Nat.reduceLeDiff, Int.reduceToNat, Int.reducePow, ww, hgi, b7Y, b7Z, Ast.c, Ast.enc, rts, sb, ints, b8m, hcal, l8, F7, b7X, b8l] | (refine uB hs ?_ ?_; exact rfl))
  refine S.next (i + 1) (by omega) (by omega) (by rw [hfm]; exact (by (repeat first | refine uA ?_ | (refine ⟨?_, ?_⟩; focus first | rfl | trivial | (simp [slot]; done)) | rfl | trivial | simp)))
 ·have hi' : i = l.length := by omega
  subst hi'
  rw [b8n]
  (repeat first | refine uA ?_ | (refine uK ?_ ?_; focus first | omega | trivial | (intros; simp_all <;> omega)) | simp (disch := omega) only [go_sem, Nat.reduceBEq, Nat.reduceAdd, Nat.reduceLeDiff, Int.reduceToNat, Int.reducePow, ww])
  exact S.done (d9.out rfl (Imp.refl rfl) rfl)
theorem b1D (g : Nat) (hcal : callable Tryz.prog g = true) (f : Fr -> List UInt8) (l : List Fr) (hl : (l9 f l).length <= 140737488355328) (hn : l.length <= 1099511627776) (hg : ∀ x ∈ l, l6 Tryz.prog g [x.c] (sb (f x))) :
  l6 Tryz.prog 149 [frs l, .v (.func (.func g) #[] #[])] (sb (l9 f l)) := by
 refine kS Tryz.func149 (by cbv) (by rfl) fun w O => ?_
 unfold l9 at hl ⊢
 rw [b7X] at hl
 have h1 := P6 l.length
 rw [K5 (by omega)] at h1
 simp only [j6, frs]
 simp only [sb, ints] at h1 hg ⊢
 generalize E9 l.length = d at *
 (repeat first | refine uA ?_ | (refine uK ?_ ?_; focus first | omega | trivial | (intros; simp_all <;> omega)) | simp (disch := omega) only [go_sem, Nat.reduceBEq, Nat.reduceAdd, Nat.reduceLeDiff, Int.reduceToNat, Int.reducePow, ww, b7Z] | (refine uB h1 ?_ ?_; exact rfl))
 refine S.loop (X := Nat) (fun i => ⟨[(1, .v (.func (.func g) #[] #[])), (5, sb (d ++ (l.take i).flatMap f)), (11, frs l), (12, ints l.length), (13, ints i)], []⟩)
  (fun i => i <= l.length) (fun i => l.length - i) 0 (b8b _) (by simp only [List.take_zero, List.flatMap_nil, List.append_nil]; exact (by (repeat first | refine uA ?_ | (refine ⟨?_, ?_⟩; focus first | rfl | trivial | (simp [slot]; done)) | rfl | trivial | simp))) ?_
 intro i hi
 simp only [frs, sb, ints] at hi ⊢
 (repeat first | refine uA ?_ | (refine uK ?_ ?_; focus first | omega | trivial | (intros; simp_all <;> omega)) | simp (disch := omega) only [go_sem, Nat.reduceBEq, Nat.reduceAdd, Nat.reduceLeDiff, Int.reduceToNat, Int.reducePow, ww])
 (refine uJ rfl (fun hc => ?_) fun hc => ?_)
 ·have hi' : i < l.length := by omega
  have hgi := b7W hi'
  have hfm := U5 f hi'
  have hle := a0b f hi'
  generalize l[i] = x at hgi hfm hle
  have hs := hg x (b8c hgi)
  (try simp only [Fr.c, Fr.enc, sb] at hs)
  (repeat first | refine uA ?_ | (refine uK ?_ ?_; focus first | omega | trivial | (intros; simp_all <;> omega)) | simp (disch := omega) only [go_sem, Nat.reduceBEq, Nat.reduceAdd, Nat.reduceLeDiff, Int.reduceToNat, Int.reducePow, ww, hgi, b7Y, b7Z, Fr.c, Fr.enc, sb, b8m, hcal, l8, F7, b7X, b8l] | (refine uB hs ?_ ?_; exact rfl))
  refine S.next (i + 1) (by omega) (by omega) (by rw [hfm]; exact (by (repeat first | refine uA ?_ | (refine ⟨?_, ?_⟩; focus first | rfl | trivial | (simp [slot]; done)) | rfl | trivial | simp)))
 ·have hi' : i = l.length := by omega
  subst hi'
  rw [b8n]
  (repeat first | refine uA ?_ | (refine uK ?_ ?_; focus first | omega | trivial | (intros; simp_all <;> omega)) | simp (disch := omega) only [go_sem, Nat.reduceBEq, Nat.reduceAdd, Nat.reduceLeDiff, Int.reduceToNat, Int.reducePow, ww])
  exact S.done (d9.out rfl (Imp.refl rfl) rfl)
theorem a5u (g : Nat) (hcal : callable Tryz.prog g = true) (f : Vt -> List UInt8) (l : List Vt) (hl : (l9 f l).length <= 140737488355328) (hn : l.length <= 1099511627776) (hg : ∀ x ∈ l, l6 Tryz.prog g [x.c] (sb (f x))) :
  l6 Tryz.prog 146 [vts l, .v (.func (.func g) #[] #[])] (sb (l9 f l)) := by
 refine kS Tryz.func146 (by cbv) (by rfl) fun w O => ?_
 unfold l9 at hl ⊢
 rw [b7X] at hl
 have h1 := P6 l.length
 rw [K5 (by omega)] at h1
 simp only [j6, vts]
 simp only [sb, ints] at h1 hg ⊢
 generalize E9 l.length = d at *
 (repeat first | refine uA ?_ | (refine uK ?_ ?_; focus first | omega | trivial | (intros; simp_all <;> omega)) | simp (disch := omega) only [go_sem, Nat.reduceBEq, Nat.reduceAdd, Nat.reduceLeDiff, Int.reduceToNat, Int.reducePow, ww, b7Z] | (refine uB h1 ?_ ?_; exact rfl))
 refine S.loop (X := Nat) (fun i => ⟨[(1, .v (.func (.func g) #[] #[])), (5, sb (d ++ (l.take i).flatMap f)), (11, vts l), (12, ints l.length), (13, ints i)], []⟩)
  (fun i => i <= l.length) (fun i => l.length - i) 0 (b8b _) (by simp only [List.take_zero, List.flatMap_nil, List.append_nil]; exact (by (repeat first | refine uA ?_ | (refine ⟨?_, ?_⟩; focus first | rfl | trivial | (simp [slot]; done)) | rfl | trivial | simp))) ?_
 intro i hi
 simp only [vts, sb, ints] at hi ⊢
 (repeat first | refine uA ?_ | (refine uK ?_ ?_; focus first | omega | trivial | (intros; simp_all <;> omega)) | simp (disch := omega) only [go_sem, Nat.reduceBEq, Nat.reduceAdd, Nat.reduceLeDiff, Int.reduceToNat, Int.reducePow, ww])
 (refine uJ rfl (fun hc => ?_) fun hc => ?_)
 ·have hi' : i < l.length := by omega
  have hgi := b7W hi'
  have hfm := U5 f hi'
  have hle := a0b f hi'
  generalize l[i] = x at hgi hfm hle
  have hs := hg x (b8c hgi)
  (try simp only [Vt.c, Vt.enc, sb] at hs)
  (repeat first | refine uA ?_ | (refine uK ?_ ?_; focus first | omega | trivial | (intros; simp_all <;> omega)) | simp (disch := omega) only [go_sem, Nat.reduceBEq, Nat.reduceAdd, Nat.reduceLeDiff, Int.reduceToNat, Int.reducePow, ww, hgi, b7Y, b7Z, Vt.c, Vt.enc, sb, b8m, hcal, l8, F7, b7X, b8l] | (refine uB hs ?_ ?_; exact rfl))
  refine S.next (i + 1) (by omega) (by omega) (by rw [hfm]; exact (by (repeat first | refine uA ?_ | (refine ⟨?_, ?_⟩; focus first | rfl | trivial | (simp [slot]; done)) | rfl | trivial | simp)))
 ·have hi' : i = l.length := by omega
  subst hi'
  rw [b8n]
  (repeat first | refine uA ?_ | (refine uK ?_ ?_; focus first | omega | trivial | (intros; simp_all <;> omega)) | simp (disch := omega) only [go_sem, Nat.reduceBEq, Nat.reduceAdd, Nat.reduceLeDiff, Int.reduceToNat, Int.reducePow, ww])
  exact S.done (d9.out rfl (Imp.refl rfl) rfl)
theorem a9r (g : Nat) (hcal : callable Tryz.prog g = true) (f : Bool -> List UInt8) (l : List Bool) (hl : (l9 f l).length <= 140737488355328) (hn : l.length <= 1099511627776) (hg : ∀ x ∈ l, l6 Tryz.prog g [.v (.bool x)] (sb (f x))) :
  l6 Tryz.prog 150 [bls l, .v (.func (.func g) #[] #[])] (sb (l9 f l)) := by
 refine kS Tryz.func150 (by cbv) (by rfl) fun w O => ?_
 unfold l9 at hl ⊢
 rw [b7X] at hl
 have h1 := P6 l.length
 rw [K5 (by omega)] at h1
 simp only [j6, bls]
 simp only [sb, ints] at h1 hg ⊢
 generalize E9 l.length = d at *
 (repeat first | refine uA ?_ | (refine uK ?_ ?_; focus first | omega | trivial | (intros; simp_all <;> omega)) | simp (disch := omega) only [go_sem, Nat.reduceBEq, Nat.reduceAdd, Nat.reduceLeDiff, Int.reduceToNat, Int.reducePow, ww, b7Z] | (refine uB h1 ?_ ?_; exact rfl))
 refine S.loop (X := Nat) (fun i => ⟨[(1, .v (.func (.func g) #[] #[])), (5, sb (d ++ (l.take i).flatMap f)), (11, bls l), (12, ints l.length), (13, ints i)], []⟩)
  (fun i => i <= l.length) (fun i => l.length - i) 0 (b8b _) (by simp only [List.take_zero, List.flatMap_nil, List.append_nil]; exact (by (repeat first | refine uA ?_ | (refine ⟨?_, ?_⟩; focus first | rfl | trivial | (simp [slot]; done)) | rfl | trivial | simp))) ?_
 intro i hi
 simp only [bls, sb, ints] at hi ⊢
 (repeat first | refine uA ?_ | (refine uK ?_ ?_; focus first | omega | trivial | (intros; simp_all <;> omega)) | simp (disch := omega) only [go_sem, Nat.reduceBEq, Nat.reduceAdd, Nat.reduceLeDiff, Int.reduceToNat, Int.reducePow, ww])
 (refine uJ rfl (fun hc => ?_) fun hc => ?_)
 ·have hi' : i < l.length := by omega
  have hgi := b7W hi'
  have hfm := U5 f hi'
  have hle := a0b f hi'
  generalize l[i] = x at hgi hfm hle
  have hs := hg x (b8c hgi)
  (try simp only [sb] at hs)
  (repeat first | refine uA ?_ | (refine uK ?_ ?_; focus first | omega | trivial | (intros; simp_all <;> omega)) | simp (disch := omega) only [go_sem, Nat.reduceBEq, Nat.reduceAdd, Nat.reduceLeDiff, Int.reduceToNat, Int.reducePow, ww, hgi, b7Y, b7Z, sb, b8m, hcal, l8, F7, b7X, b8l] | (refine uB hs ?_ ?_; exact rfl))
  refine S.next (i + 1) (by omega) (by omega) (by rw [hfm]; exact (by (repeat first | refine uA ?_ | (refine ⟨?_, ?_⟩; focus first | rfl | trivial | (simp [slot]; done)) | rfl | trivial | simp)))
 ·have hi' : i = l.length := by omega
  subst hi'
  rw [b8n]
  (repeat first | refine uA ?_ | (refine uK ?_ ?_; focus first | omega | trivial | (intros; simp_all <;> omega)) | simp (disch := omega) only [go_sem, Nat.reduceBEq, Nat.reduceAdd, Nat.reduceLeDiff, Int.reduceToNat, Int.reducePow, ww])
  exact S.done (d9.out rfl (Imp.refl rfl) rfl)
theorem b6l (x : Ast) (hl : (a5H x).length <= 140737488355328) (hq : Rbs 1073741824 x.q) (hv : Rbs 1073741824 x.v) : l6 Tryz.prog 147 [x.c] (sb (a5H x)) := by
 refine kS Tryz.func147 (by cbv) (by rfl) fun w O => ?_
 unfold a5H at hl ⊢
 simp only [b7X] at hl
 have n1 := hq.1
 have n2 := hv.1
 have h1 := a5x 67 (by kernel_rfl) H6 x.q (by omega) (by omega) (fun z hz => N9 z (N8 H6 hz (by omega)))
 have h2 := a5x 67 (by kernel_rfl) H6 x.v (by omega) (by omega) (fun z hz => N9 z (N8 H6 hz (by omega)))
 have h3 := a3X x.power
 have h4 := P6 (IntKind.i64.wrap (x.holds + 1))
 obtain ⟨q, v, power, holds⟩ := x
 generalize l9 H6 q = r1 at *
 generalize l9 H6 v = r2 at *
 generalize a2a power = r3 at *
 simp only [j6]
 simp only [Ast.c, Ast.enc, rts, sb, ints] at h1 h2 h3 h4 hl n1 n2 ⊢
 (repeat first | refine uA ?_ | (refine uK ?_ ?_; focus first | omega | trivial | (intros; simp_all <;> omega)) | simp (disch := omega) only [go_sem, Nat.reduceBEq, Nat.reduceAdd, Nat.reduceLeDiff, Int.reduceToNat, Int.reducePow, ww, l8, F7, b7X, b8l] | (refine uB h1 ?_ ?_; exact rfl) | (refine uB h2 ?_ ?_; exact rfl) | (refine uB h3 ?_ ?_; exact rfl) | (refine uB h4 ?_ ?_; exact rfl))
 exact S.done (d9.out rfl (Imp.refl rfl) rfl)
structure Stw (s : Stt) : Prop where
 arms : s.arms.length <= 1073741824 /\ ∀ x ∈ s.arms, Asb 1073741824 x
 parts : s.parts.length <= 1073741824
 people : s.people.length <= 1073741824
 gates : s.gates.length <= 1073741824
theorem Stb.w {s : Stt} (h : Stb 1073741824 s) : Stw s := ⟨h.arms, h.parts.1, h.people.1, h.gates⟩
theorem b3R (s : Stt) (hs : Stw s) (hl : (a4h s).length <= 140737488355328) : l6 Tryz.prog 82 [s.c] (sb (a4h s)) := by
 refine kS Tryz.func82 (by cbv) (by rfl) fun w O => ?_
 unfold a4h at hl ⊢
 simp only [b7X] at hl
 have n1 := hs.arms.1
 have n2 := hs.parts
 have n3 := hs.people
 have n4 := hs.gates
 have h1 := P6 s.tick
 have h2 := b0a 147 (by kernel_rfl) a5H s.arms (by omega) (by omega) (fun z hz => b6l z (N8 a5H hz (by omega)) (hs.arms.2 z hz).1 (hs.arms.2 z hz).2)
 have h3 := b1D 72 (by kernel_rfl) frB s.parts (by omega) (by omega) (fun z hz => a2O z (N8 frB hz (by omega)))
 have h4 := a5u 81 (by kernel_rfl) K4 s.people (by omega) (by omega) (fun z hz => a2m z (N8 K4 hz (by omega)))
 have h5 := a9r 145 (by kernel_rfl) a2a s.gates (by omega) (by omega) (fun z _ => a3X z)
 obtain ⟨tick, arms, parts, people, gates⟩ := s
 generalize l9 a5H arms = r2 at *
 generalize l9 frB parts = r3 at *
 generalize l9 K4 people = r4 at *
 generalize l9 a2a gates = r5 at *
 simp only [j6]
 simp only [Stt.c, Stt.enc, a3a, frs, vts, bls, sb, ints] at h1 h2 h3 h4 h5 hl ⊢
 (repeat first | refine uA ?_ | (refine uK ?_ ?_; focus first | omega | trivial | (intros; simp_all <;> omega)) | simp (disch := omega) only [go_sem, Nat.reduceBEq, Nat.reduceAdd, Nat.reduceLeDiff, Int.reduceToNat, Int.reducePow, ww, l8, F7, b7X, b8l] | (refine uB h1 ?_ ?_; exact rfl) | (refine uB h2 ?_ ?_; exact rfl) | (refine uB h3 ?_ ?_; exact rfl) | (refine uB h4 ?_ ?_; exact rfl) | (refine uB h5 ?_ ?_; exact rfl))
 exact S.done (d9.out rfl (Imp.refl rfl) rfl)
def lkB (l : Lk) : List UInt8 := H6 l.length ++ (H6 l.low ++ (H6 l.high ++ (H6 l.speed ++ (H6 l.brake ++ l9 K4 l.shape))))
def amB (a : Am) : List UInt8 := Z7 a.name ++ (frB a.base ++ l9 lkB a.links)
def ptB (p : Pt) : List UInt8 := Z7 p.name ++ (l9 K4 p.shape ++ frB p.grasp)
def slB (s : Sl) : List UInt8 := Z7 s.name ++ (frB s.frame ++ H6 s.within)
def gtB (g : Gt) : List UInt8 := Z7 g.name ++ (K4 g.low ++ K4 g.high)
def wkB (w : Wk) : List UInt8 := l9 amB w.arms ++ (l9 (l9 K4) w.walls ++ (l9 ptB w.parts ++ (l9 slB w.slots ++ (l9 gtB w.gates ++ H6 w.walk))))
def nx (l : List Int) (n : Int) : Int := l.headD 0 % n
abbrev Q (n d : Int) : Nm.Rt := Nm.ofQ (mkRat n d.toNat)
def atV (x y : Int) : Vt := ⟨Q x 4, Q y 4⟩
def a8c (x y u v : Int) : List Vt := [atV x y, atV u y, atV u v, atV x v]
def b5d (w h k s : Int) : List Vt :=
 if k = 0 then [atV (-w) (-h), atV w (-h), atV w h, atV (-w) h] else
 if k = 1 then [atV (-w) (-h), atV w (-h), atV (s - w) h] else
 if k = 2 then [atV (-w - 1) (-h - 1), atV w (-h - 1), atV (w + 1) (-h), atV (w + 1) h, atV (-w - 1) h] else
 [atV (-w) 0, atV 0 (-h), atV w 0, atV 0 h]
def b7i (l : List Int) : List Vt × List Int :=
 let w := 1 + nx l 6
 let h := 1 + nx (l.drop 1) 6
 let k := nx (l.drop 2) 4
 if k = 1 then (b5d w h k (nx (l.drop 3) (2 * w + 1)), l.drop 4) else (b5d w h k 0, l.drop 3)
def b4M (a lo hi sp br tri : Int) : Lk :=
 ⟨Q (4 + 2 * a) 4, Q (-1 - lo) 3, Q (1 + hi) 3, Q 1 (4 + sp), Q 1 (10 + br), if tri = 2 then [atV (-1) (-1), atV (4 + 2 * a + 1) 0, atV (-1) 1] else a8c (-1) (-1) (4 + 2 * a + 1) 1⟩
def b4J (l : List Int) : Lk := b4M (nx l 4) (nx (l.drop 1) 6) (nx (l.drop 2) 6) (nx (l.drop 3) 8) (nx (l.drop 4) 20) (nx (l.drop 5) 3)
def a3s : Nat -> List Int -> List Lk
 | 0, _ => []
 | n + 1, l => b4J l :: a3s n (l.drop 6)
def a3M (k : Int) : Int := if k = 0 then 0 else if k = 2 then -1 else 1
def b4q (n : Nat) : List UInt8 := [[111, 110, 101], [116, 119, 111], [116, 104, 114, 101, 101], [102, 111, 117, 114]].getD n []
def a4b (l : List Int) : Nat := (1 + nx (l.drop 2) 3).toNat
def a9b (l : List Int) (n : Nat) : Am := ⟨b4q n, ⟨Q (40 * n) 4, Q 0 4, false, Q (a3M (nx l 4)) (1 + nx (l.drop 1) 3)⟩, a3s (a4b l) (l.drop 3)⟩
def a5Q (l : List Int) : List Int := l.drop (3 + 6 * a4b l)
def b5e : Nat -> List Int -> List Int
 | 0, l => l
 | k + 1, l => b5e k (a5Q l)
def b3g : Nat -> List Int -> List Int
 | 0, l => l
 | k + 1, l => b3g k (b7i l).2
def nA (l : List Int) : Nat := (1 + nx l 2).toNat
def l1 (l : List Int) : List Int := b5e (nA l) (l.drop 1)
def nW (l : List Int) : Nat := (nx (l1 l) 3).toNat
def l2 (l : List Int) : List Int := (l1 l).drop (1 + 5 * nW l)
def nP (l : List Int) : Nat := (nx (l2 l) 3).toNat
def l3 (l : List Int) : List Int := b3g (nP l) ((l2 l).drop 1)
theorem U6 (l : List Int) {n : Int} (h : 0 < n) : 0 <= nx l n := Int.emod_nonneg _ (by omega)
theorem a1U (l : List Int) {n : Int} (h : 0 < n) : nx l n < n := Int.emod_lt_of_pos _ h
set_option maxHeartbeats 8000000
theorem b2f (x n : Int) (h : 1 <= n) : x % n = (if x.tmod n < 0 then x.tmod n + n else x.tmod n) /\ -n < x.tmod n /\ x.tmod n < n := by
 have hq : x = n * (x.tdiv n) + x.tmod n := (Int.mul_tdiv_add_tmod x n).symm
 have he : x % n = x.tmod n % n := by
  conv => lhs; rw [hq]
  exact Int.mul_add_emod_self_left ..
 have h2 := Int.tmod_lt_of_pos x (show 0 < n by omega)
 have h3 : -n < x.tmod n := by
  have := Int.tmod_lt_of_pos (-x) (show 0 < n by omega)
  rw [Int.neg_tmod] at this
  omega
 refine ⟨?_, h3, h2⟩
 rw [he]
 split
 ·rename_i hc
  have : x.tmod n % n = (x.tmod n + n) % n := by simp
  rw [this]
  exact Int.emod_eq_of_lt (by omega) (by omega)
 ·exact Int.emod_eq_of_lt (by omega) (by omega)
theorem b3X (x n : Int) (h : 1 <= n /\ n <= 4611686018427387904) : l6 Tryz.prog 195 [ints x, ints n] (ints (x % n)) := by
 refine kS Tryz.func195 (by cbv) (by rfl) fun w O => ?_
 simp only [j6, ints]
 have hn : ¬ n = 0 := by omega
 obtain ⟨he, hlt⟩ := b2f x n (by omega)
 (repeat first | refine uA ?_ | (refine uK ?_ ?_; focus first | omega | (intros; simp_all <;> omega)) | simp (disch := omega) only [go_sem, Nat.reduceBEq, Nat.reduceAdd, ww, hn])
 (refine uJ rfl (fun hc => ?_) fun hc => ?_)
 ·rw [he, if_pos hc]
  (repeat first | refine uA ?_ | (refine uK ?_ ?_; focus first | omega | (intros; simp_all <;> omega)) | simp (disch := omega) only [go_sem, Nat.reduceBEq, Nat.reduceAdd, ww])
  exact S.done (d9.out rfl (Imp.refl rfl) rfl)
 ·rw [he, if_neg hc]
  (repeat first | refine uA ?_ | (refine uK ?_ ?_; focus first | omega | (intros; simp_all <;> omega)) | simp (disch := omega) only [go_sem, Nat.reduceBEq, Nat.reduceAdd, ww])
  exact S.done (d9.out rfl (Imp.refl rfl) rfl)
def a0f (l : List Int) : C := .sl 1 (l.map fun n => [.v (.int .i64 n)])
theorem a0c {E : Ctx} (hP : E.P = Tryz.prog) (l : List Int) (n : Int) (h : 1 <= n /\ n <= 4611686018427387904) :
  l7 E [.box 209 [a0f l]] 151 [.bp 0 0, ints n] (ints (nx l n)) [.box 209 [a0f (l.drop 1)]] [] := by
 obtain ⟨P, eff', N, w0, own0, av0, nu0, pk0⟩ := E
 simp only at hP
 subst hP
 refine l7.of (eff := eff) Tryz.func151 (by cbv) (by exact b8q rfl) fun w own av ν hν => ?_
 have hν0 : ν.length <= 1 := by rw [hν]; exact b8f _
 have hn1 : decide (n < 1) = false := decide_eq_false (by omega)
 cases l with
 | nil =>
  have e : nx [] n = 0 := by unfold nx; rw [List.headD_nil, Int.zero_emod]
  rw [e]
  simp only [j6, a0f, ints, List.drop_nil, b8E]
  (repeat first | refine uA ?_ | (refine uK ?_ ?_; focus first | omega | (intros; simp_all <;> omega)) | simp (disch := omega) only [go_sem, Nat.reduceBEq, Nat.reduceAdd, ww, hn1, List.length_nil])
  refine S.cond rfl (fun hc => ?_) (fun hc => by simp at hc)
  (repeat first | refine uA ?_ | (refine uK ?_ ?_; focus first | omega | (intros; simp_all <;> omega)) | simp (disch := omega) only [go_sem, Nat.reduceBEq, Nat.reduceAdd, ww])
  (refine S.done ?_; simp only [z8, r9, go_sem, Nat.reduceBEq, Nat.reduceAdd, Nat.reduceLeDiff, Int.reduceToNat, Int.reducePow]; (repeat (refine ⟨?_, ?_⟩; focus first | trivial | omega | simp)); exact d9.M5 (Imp.refl rfl) (by (repeat first | refine uA ?_ | (refine ⟨?_, ?_⟩; focus first | rfl | simp [slot]) | rfl | simp)) (b8a hν0 (by simp)))
 | cons x r =>
  have e : nx (x :: r) n = x % n := by unfold nx; rw [List.headD_cons]
  rw [e]
  have hb := b3X x n h
  have h0 : decide (((r.length : Int) + 1) = 0) = false := decide_eq_false (by omega)
  simp only [j6, a0f, ints, b8y, List.drop_succ_cons, List.drop_zero] at *
  (repeat first | refine uA ?_ | (refine uK ?_ ?_; focus first | omega | (intros; simp_all <;> omega)) | simp (disch := omega) only [go_sem, Nat.reduceBEq, Nat.reduceAdd, ww, hn1, h0, b8r, b7Z] | (refine uB hb ?_ ?_; exact rfl))
  refine S.cond rfl (fun hc => by simp at hc; omega) (fun hc => ?_)
  (repeat first | refine uA ?_ | (refine uK ?_ ?_; focus first | omega | (intros; simp_all <;> omega)) | simp (disch := omega) only [go_sem, Nat.reduceBEq, Nat.reduceAdd, ww, hn1, b8r, b7Z, List.getElem?_cons_zero, a3L, List.take_succ_cons, List.drop_succ_cons, Nat.add_sub_cancel, b8n] | (refine uB hb ?_ ?_; exact rfl))
  (refine S.done ?_; simp only [z8, r9, go_sem, Nat.reduceBEq, Nat.reduceAdd, Nat.reduceLeDiff, Int.reduceToNat, Int.reducePow]; (repeat (refine ⟨?_, ?_⟩; focus first | trivial | omega | simp)); exact d9.M5 (Imp.refl rfl) (by (repeat first | refine uA ?_ | (refine ⟨?_, ?_⟩; focus first | rfl | simp [slot]) | rfl | simp)) (b8a hν0 (by simp)))
def a4q (l : List UInt8) (i : Nat) (out : List UInt8) : Prop :=
 out.length = l.length /\ ∀ k, k < l.length -> out[k]? = if k < i \/ l.length - i <= k then l[l.length - 1 - k]? else l[k]?
theorem b0e (l : List UInt8) : a4q l 0 l := ⟨rfl, fun k hk => by rw [if_neg (by omega)]⟩
theorem a9P {l out : List UInt8} {i : Nat} {x y : UInt8} (h : a4q l i out) (hi : i + 1 < l.length - i) (hx : out[i]? = some x) (hy : out[l.length - 1 - i]? = some y) : a4q l (i + 1) ((out.set i y).set (l.length - 1 - i) x) := by
 obtain ⟨h1, h2⟩ := h
 have e1 := h2 i (by omega)
 have e2 := h2 (l.length - 1 - i) (by omega)
 rw [if_neg (by omega), hx] at e1
 rw [if_neg (by omega), hy] at e2
 refine ⟨by simp [h1], fun k hk => ?_⟩
 by_cases k1 : k = l.length - 1 - i
 ·subst k1
  rw [List.getElem?_set_self (by simp; omega), if_pos (by omega), e1]
  congr 1
  omega
 ·rw [List.getElem?_set_ne (fun e => k1 e.symm)]
  by_cases k2 : k = i
  ·subst k2
   rw [List.getElem?_set_self (by omega), if_pos (by omega), e2]
  ·rw [List.getElem?_set_ne (fun e => k2 e.symm), h2 k hk]
   by_cases k3 : k < i \/ l.length - i <= k
   ·rw [if_pos k3, if_pos (by omega)]
   ·rw [if_neg k3, if_neg (by omega)]
theorem b1G {l out : List UInt8} {i : Nat} (h : a4q l i out) (hi : l.length - i <= i + 1) : out = l.reverse := by
 obtain ⟨h1, h2⟩ := h
 apply List.ext_getElem?
 intro k
 rcases b8s k l.length with hk | hk
 ·rw [h2 k hk, List.getElem?_reverse hk]
  by_cases k3 : k < i \/ l.length - i <= k
  ·rw [if_pos k3]
  ·rw [if_neg k3, show l.length - 1 - k = k by omega]
 ·rw [b8F (by omega), b8F (by simp; omega)]
theorem b7h {E : Ctx} (hP : E.P = Tryz.prog) (l : List UInt8) (hl : l.length <= 1099511627776) : l7 E [.row 5 1 (l.map D5)] 214 [.rv 0] (.tup []) [.row 5 1 (l.reverse.map D5)] [] := by
 obtain ⟨P, eff', N, w0, own0, av0, nu0, pk0⟩ := E
 simp only at hP
 subst hP
 refine l7.of (eff := eff) Tryz.func214 (by cbv) (by exact b8q rfl) fun w own av ν hν => ?_
 have hν0 : ν.length <= 1 := by rw [hν]; exact b8f _
 simp only [j6]
 (repeat first | refine uA ?_ | (refine uK ?_ ?_; focus first | omega | (intros; simp_all <;> omega)) | simp (disch := omega) only [go_sem, Nat.reduceBEq, Nat.reduceAdd, ww, b7Z])
 refine S.loop (X := Nat × List UInt8) (fun x => ⟨[(0, .rv 0), (2, ints x.1), (3, ints ((l.length : Int) - 1 - (x.1 : Int)))], [.row 5 1 (x.2.map D5)]⟩) (fun x => x.1 <= l.length /\ a4q l x.1 x.2) (fun x => l.length - x.1) (0, l) ⟨b8b _, b0e l⟩ (by simp only [Int.natCast_zero, Int.sub_zero]; exact (by (repeat first | refine uA ?_ | (refine ⟨?_, ?_⟩; focus first | rfl | simp [slot]) | rfl | simp | exact b8a hν0 (by simp)))) ?_
 rintro ⟨i, out⟩ ⟨hi, hinv⟩
 simp only [ints] at hi hinv ⊢
 have hol := hinv.1
 (repeat first | refine uA ?_ | (refine uK ?_ ?_; focus first | omega | (intros; simp_all <;> omega)) | simp (disch := omega) only [go_sem, Nat.reduceBEq, Nat.reduceAdd, ww])
 (refine uJ rfl (fun hc => ?_) fun hc => ?_)
 ·have gi : out[i]? = some (out[i]'(by omega)) := b7W (by omega)
  have gj : out[l.length - 1 - i]? = some (out[l.length - 1 - i]'(by omega)) := b7W (by omega)
  have hst := a9P hinv (by omega) gi gj
  have hsk : l.length - 1 - i ≠ i := by omega
  generalize out[i]'_ = xi at *
  generalize out[l.length - 1 - i]'_ = xj at *
  have gj2 : (out.set i xj)[l.length - 1 - i]? = some xj := by rw [List.getElem?_set_ne (Ne.symm hsk)]; exact gj
  have n0 : ((l.length : Int) - 1 - (i : Int)).toNat = l.length - 1 - i := by omega
  have e1 : (out.map D5).set i [.v (.int .u8 ((xj.toNat : Nat) : Int))] = (out.set i xj).map D5 := a1H out i xj
  have e2 : ((out.set i xj).map D5).set (l.length - 1 - i) [.v (.int .u8 ((xi.toNat : Nat) : Int))] = ((out.set i xj).set (l.length - 1 - i) xi).map D5 := a1H _ _ _
  have hr : (l.length : Int) - 1 - ((i + 1 : Nat) : Int) = (l.length : Int) - 1 - (i : Int) - 1 := by omega
  (repeat first | refine uA ?_ | (refine uK ?_ ?_; focus first | omega | (intros; simp_all <;> omega)) | simp (disch := omega) only [go_sem, Nat.reduceBEq, Nat.reduceAdd, ww, b7Z, gi, gj, gj2, n0, e1, e2, D5, b7Y, b8m, b8G])
  refine S.next (x := (i, out)) (i + 1, _) ⟨by simp only; omega, hst⟩ (by simp only; omega) (by simp only [hr]; exact (by (repeat first | refine uA ?_ | (refine ⟨?_, ?_⟩; focus first | rfl | simp [slot]) | rfl | simp | exact b8a hν0 (by simp))))
 ·have := b1G hinv (by omega)
  subst this
  (repeat first | refine uA ?_ | (refine uK ?_ ?_; focus first | omega | (intros; simp_all <;> omega)) | simp (disch := omega) only [go_sem, Nat.reduceBEq, Nat.reduceAdd, ww])
  exact S.end_ (d9.own rfl)
theorem a8v (n : Nat) (hn : n < 4611686018427387904) : l6 Tryz.prog 196 [.v (.int .i64 (n : Int))] (sb (Nm.enc n)) := by
  refine kS Tryz.func196 (by cbv) (by rfl) fun w O => ?_
  have h8 : (Nm.enc n).length <= 8 := Nm.O5 (by omega)
  simp only [j6, sb]
  (repeat first | refine uA ?_ | (refine uK ?_ ?_; focus first | omega | (intros; simp_all <;> omega)) | simp (disch := omega) only [go_sem, Nat.reduceBEq, Nat.reduceAdd, ww])
  refine S.loop (X := Nat × List UInt8) (fun x => ⟨[(0, ints x.1), (3, .rv 0)], [.row 5 1 (x.2.map D5)]⟩) (fun x => x.1 <= n /\ Nm.enc x.1 ++ x.2.reverse = Nm.enc n) (fun x => x.1) (n, []) ⟨b8f _, by simp⟩ (Ent.trans (Ent.pack 3 5 1 rfl) (by (repeat first | refine uA ?_ | (refine ⟨?_, ?_⟩; focus first | rfl | simp [slot]) | rfl | simp))) ?_
  rintro ⟨m, out⟩ ⟨hm, hinv⟩
  simp only [ints] at hm hinv ⊢
  have hol : out.length <= 8 := by
    have := congrArg List.length hinv
    simp only [b7X, List.length_reverse] at this
    omega
  (repeat first | refine uA ?_ | (refine uK ?_ ?_; focus first | omega | (intros; simp_all <;> omega)) | simp (disch := omega) only [go_sem, Nat.reduceBEq, Nat.reduceAdd, ww])
  (refine uJ rfl (fun hc => ?_) fun hc => ?_)
  · have he : Nm.enc m = Nm.enc (m / 256) ++ [UInt8.ofNat (m % 256)] := by
      conv => lhs; unfold Nm.enc
      rw [if_neg (by omega)]
    have hb : (UInt8.ofNat (m % 256)).toNat = m % 256 := by simp
    have h1 : IntKind.u8.wrap (Int.tmod (m : Int) 256) = (((UInt8.ofNat (m % 256)).toNat : Nat) : Int) := by
      rw [hb, show Int.tmod (m : Int) 256 = ((m % 256 : Nat) : Int) from rfl, a0z]
      omega
    have h2 : Int.tdiv (m : Int) 256 = ((m / 256 : Nat) : Int) := rfl
    have hap : Nm.enc (m / 256) ++ (out ++ [UInt8.ofNat (m % 256)]).reverse = Nm.enc n := by
      rw [List.reverse_append, <- hinv, he]
      simp
    generalize UInt8.ofNat (m % 256) = b at *
    (repeat first | refine uA ?_ | (refine uK ?_ ?_; focus first | omega | (intros; simp_all <;> omega)) | simp (disch := omega) only [go_sem, Nat.reduceBEq, Nat.reduceAdd, ww, b7Z, h1, h2])
    refine S.next (x := (m, out)) (m / 256, out ++ [b]) ⟨by simp only; omega, hap⟩ (by simp only; omega) (by simp only [b8O, b8y, b8E, D5]; exact (by (repeat first | refine uA ?_ | (refine ⟨?_, ?_⟩; focus first | rfl | simp [slot]) | rfl | simp)))
  · have h0 : m = 0 := by omega
    subst h0
    rw [Nm.a0k, List.nil_append] at hinv
    have hr := fun (E : Ctx) (hP : E.P = Tryz.prog) => b7h hP out (by omega)
    rw [hinv] at hr
    (repeat first | refine uA ?_ | (refine uK ?_ ?_; focus first | omega | (intros; simp_all <;> omega)) | simp (disch := omega) only [go_sem, Nat.reduceBEq, Nat.reduceAdd, ww, M7, a0C] | refine p8.t (l7.lift (k := 0) rfl (hr _ rfl) rfl rfl rfl) ?_)
    exact S.done (d9.out rfl (Imp.refl rfl) rfl)
theorem b3s (a b : Nat) (h : 0 < b) : Nat.gcd b (a % b) = Nat.gcd a b := by
 rw [Nat.gcd_comm b, <- Nat.gcd_rec, Nat.gcd_comm]
theorem a1Z (n d : Int) (hn : -1099511627776 <= n /\ n <= 1099511627776) (hd : 1 <= d /\ d <= 1099511627776) : l6 Tryz.prog 156 [ints n, ints d] (rc (Q n d)) := by
 refine kS Tryz.func156 (by cbv) (by rfl) fun w O => ?_
 obtain ⟨m, rfl⟩ : ∃ m : Nat, d = m := ⟨d.toNat, by omega⟩
 have hq : Q n m = Nm.ofQ (mkRat (Nm.sgn (decide (n < 0)) n.natAbs) m) := by
  unfold Q
  have : Nm.sgn (decide (n < 0)) n.natAbs = n := by unfold Nm.sgn; by_cases h : n < 0 <;> simp [h] <;> omega
  rw [this, b8m]
 rw [hq, <- Nm.a6G _ (by omega)]
 have hmx : (if n < -n then -n else n) = ((n.natAbs : Nat) : Int) := by split <;> omega
 have hwn : IntKind.i64.wrap (0 - n) = -n := by rw [Eng.wrap_i64 (by omega)]; omega
 have hgp : 0 < Nat.gcd n.natAbs m := Nat.gcd_pos_of_pos_right _ (by omega)
 simp only [j6, ints]
 (repeat first | refine uA ?_ | (refine uK ?_ ?_; focus first | omega | (intros; simp_all <;> omega)) | simp (disch := omega) only [go_sem, Nat.reduceBEq, Nat.reduceAdd, ww, hwn, hmx])
 refine S.loop (X := Nat × Nat) (fun x => ⟨[(0, ints n), (1, ints m), (4, .bp 0 0), (5, ints x.1), (6, ints x.2)], [.box 28 [.v (.bool false), .v (.string ⟨#[]⟩), .v (.string ⟨#[]⟩)]]⟩) (fun x => Nat.gcd x.1 x.2 = Nat.gcd n.natAbs m /\ x.1 <= 1099511627776 /\ x.2 <= 1099511627776) (fun x => x.2) (n.natAbs, m) ⟨rfl, by omega, by omega⟩ (by (repeat first | refine uA ?_ | (refine ⟨?_, ?_⟩; focus first | rfl | simp [slot]) | rfl | simp)) ?_
 rintro ⟨a, b⟩ ⟨hg, ha, hb⟩
 simp only [ints] at hg ha hb ⊢
 (repeat first | refine uA ?_ | (refine uK ?_ ?_; focus first | omega | (intros; simp_all <;> omega)) | simp (disch := omega) only [go_sem, Nat.reduceBEq, Nat.reduceAdd, ww])
 (refine uJ rfl (fun hc => ?_) fun hc => ?_)
 ·have h1 : Int.tmod (a : Int) (b : Int) = ((a % b : Nat) : Int) := rfl
  have hlt : a % b < b := Nat.mod_lt _ (by omega)
  have hb0 : ¬ ((b : Int) = 0) := by omega
  (repeat first | refine uA ?_ | (refine uK ?_ ?_; focus first | omega | (intros; simp_all <;> omega)) | simp (disch := omega) only [go_sem, Nat.reduceBEq, Nat.reduceAdd, ww, h1, hb0])
  refine S.next (x := (a, b)) (b, a % b) ⟨by simp only; rw [b3s a b (by omega)]; exact hg, by simp only; omega, by simp only; omega⟩ (by simp only; omega) (by (repeat first | refine uA ?_ | (refine ⟨?_, ?_⟩; focus first | rfl | simp [slot]) | rfl | simp))
 ·have hb0 : b = 0 := by omega
  subst hb0
  rw [Nat.gcd_zero_right] at hg
  subst hg
  have ha0 : ¬ (((Nat.gcd n.natAbs m : Nat) : Int) = 0) := by omega
  generalize hgg : Nat.gcd n.natAbs m = g at *
  have hdvn : g ∣ n.natAbs := by rw [<- hgg]; exact Nat.gcd_dvd_left ..
  have e2 : Int.tdiv (m : Int) (g : Int) = ((m / g : Nat) : Int) := rfl
  obtain ⟨k, hk⟩ := hdvn
  have hkq : n.natAbs / g = k := by rw [hk]; exact Nat.mul_div_cancel_left _ hgp
  have e1 : Int.tdiv n (g : Int) = Nm.sgn (decide (n < 0)) k := by
   have h3 : (n : Int) = (g : Int) * Nm.sgn (decide (n < 0)) k := by
    have h4 : ((n.natAbs : Nat) : Int) = (g : Int) * (k : Int) := by rw [hk]; simp
    unfold Nm.sgn
    by_cases h : n < 0
    ·simp only [h, decide_true, if_true, Int.mul_neg]; omega
    ·simp only [h, decide_false, b8M, if_false]; omega
   rw [show Int.tdiv n (g : Int) = Int.tdiv ((g : Int) * Nm.sgn (decide (n < 0)) k) (g : Int) from congrArg (fun z => Int.tdiv z (g : Int)) h3]
   exact Int.mul_tdiv_cancel_left _ (by omega)
  have hkb : k <= 1099511627776 := by
   have : k <= g * k := Nat.le_mul_of_pos_left k hgp
   omega
  have hmb : m / g <= m := Nat.div_le_self _ _
  have hs : -1099511627776 <= Nm.sgn (decide (n < 0)) k /\ Nm.sgn (decide (n < 0)) k <= 1099511627776 := by unfold Nm.sgn; split <;> omega
  have hneg : decide (Nm.sgn (decide (n < 0)) k < 0) = (decide (n < 0) && !decide (k = 0)) := by
   unfold Nm.sgn
   by_cases h : n < 0
   ·by_cases h0 : k = 0
    ·subst h0; simp [h]
    ·simp [h, h0]; try omega
   ·simp [h]; try omega
  have hab : (if Nm.sgn (decide (n < 0)) k < -(Nm.sgn (decide (n < 0)) k) then -(Nm.sgn (decide (n < 0)) k) else Nm.sgn (decide (n < 0)) k) = ((k : Nat) : Int) := by unfold Nm.sgn; split <;> split <;> omega
  have hws : IntKind.i64.wrap (0 - Nm.sgn (decide (n < 0)) k) = -(Nm.sgn (decide (n < 0)) k) := by rw [Eng.wrap_i64 (by omega)]; omega
  have hwm : IntKind.i64.wrap ((m / g : Nat) : Int) = ((m / g : Nat) : Int) := by
   generalize m / g = z at *
   exact Eng.wrap_i64 (by omega)
  have d1 := a8v k (by omega)
  have d2 := a8v (m / g) (by omega)
  have hres : (if n.natAbs = 0 then Nm.a1D else ⟨decide (n < 0), Nm.enc (n.natAbs / g), Nm.enc (m / g)⟩ : Nm.Rt) = ⟨decide (n < 0) && !decide (k = 0), Nm.enc k, Nm.enc (m / g)⟩ := by
   rw [hkq]
   by_cases h0 : n.natAbs = 0
   ·have hn0 : n = 0 := by omega
    subst hn0
    have hk0 : k = 0 := by
     rcases b8t k with h | h
     ·exact h
     ·have := Nat.mul_pos hgp h; omega
    have hgm : g = m := by rw [<- hgg]; simp
    subst hk0
    have h1 : m / g = 1 := by rw [hgm]; exact Nat.div_self (by omega)
    rw [h1, Nm.a0N, Nm.a0k]
    rfl
   ·have hk0 : k ≠ 0 := by intro h; subst h; omega
    rw [if_neg h0]
    simp [hk0]
  rw [hres]
  rw [<- hneg]
  simp only [rc, sb] at d1 d2 ⊢
  generalize Nm.sgn (decide (n < 0)) k = s at *
  (repeat first | refine uA ?_ | (refine uK ?_ ?_; focus first | omega | (intros; simp_all <;> omega)) | simp (disch := omega) only [go_sem, Nat.reduceBEq, Nat.reduceAdd, ww, ha0, e1, e2, hws, hab, hwm] | (refine uB d1 ?_ ?_; exact rfl) | (refine uB d2 ?_ ?_; exact rfl))
  (refine S.done ?_; simp only [z8, r9, go_sem, Nat.reduceBEq, Nat.reduceAdd, Nat.reduceLeDiff, Int.reduceToNat, Int.reducePow]; (repeat (refine ⟨?_, ?_⟩; focus first | trivial | omega | simp)); exact d9.out rfl (Imp.refl rfl) rfl)
theorem a4w (x y : Int) (hx : -1000000 <= x /\ x <= 1000000) (hy : -1000000 <= y /\ y <= 1000000) : l6 Tryz.prog 155 [ints x, ints y] (atV x y).c := by
 refine kS Tryz.func155 (by cbv) (by rfl) fun w O => ?_
 have h1 := a1Z x 4 (by omega) (by omega)
 have h2 := a1Z y 4 (by omega) (by omega)
 unfold atV
 generalize Q x 4 = qx at *
 generalize Q y 4 = qy at *
 simp only [j6]
 simp only [rc, sb, ints, Vt.c, Vt.enc] at *
 (repeat first | refine uA ?_ | (refine uK ?_ ?_; focus first | omega | (intros; simp_all <;> omega)) | simp (disch := omega) only [go_sem, Nat.reduceBEq, Nat.reduceAdd, ww] | (refine uB h1 ?_ ?_; exact rfl) | (refine uB h2 ?_ ?_; exact rfl))
 (refine S.done ?_; simp only [z8, r9, go_sem, Nat.reduceBEq, Nat.reduceAdd, Nat.reduceLeDiff, Int.reduceToNat, Int.reducePow]; (repeat (refine ⟨?_, ?_⟩; focus first | trivial | omega | simp)); exact d9.out rfl (Imp.refl rfl) rfl)
theorem b6z (x y u v : Int) (hx : -100000 <= x /\ x <= 100000) (hy : -100000 <= y /\ y <= 100000) (hu : -100000 <= u /\ u <= 100000) (hv : -100000 <= v /\ v <= 100000) : l6 Tryz.prog 153 [ints x, ints y, ints u, ints v] (vts (a8c x y u v)) := by
 refine kS Tryz.func153 (by cbv) (by rfl) fun w O => ?_
 have h1 := a4w x y (by omega) (by omega)
 have h2 := a4w u y (by omega) (by omega)
 have h3 := a4w u v (by omega) (by omega)
 have h4 := a4w x v (by omega) (by omega)
 unfold a8c
 generalize atV x y = p1 at *
 generalize atV u y = p2 at *
 generalize atV u v = p3 at *
 generalize atV x v = p4 at *
 simp only [j6]
 simp only [vts, Vt.c, Vt.enc, sb, ints] at *
 (repeat first | refine uA ?_ | (refine uK ?_ ?_; focus first | omega | (intros; simp_all <;> omega)) | simp (disch := omega) only [go_sem, Nat.reduceBEq, Nat.reduceAdd, ww] | (refine uB h1 ?_ ?_; exact rfl) | (refine uB h2 ?_ ?_; exact rfl) | (refine uB h3 ?_ ?_; exact rfl) | (refine uB h4 ?_ ?_; exact rfl))
 exact S.done (d9.out rfl (Imp.frz rfl rfl rfl) rfl)
set_option maxRecDepth 100000
set_option maxHeartbeats 16000000
theorem b4m (n : Nat) (h : n <= 3) : ([[C.v (.string ⟨#[111, 110, 101]⟩)], [C.v (.string ⟨#[116, 119, 111]⟩)], [C.v (.string ⟨#[116, 104, 114, 101, 101]⟩)], [C.v (.string ⟨#[102, 111, 117, 114]⟩)]] : List (List C))[n]? = some [C.v (.string (bs (b4q n)))] := by
 match n, h with
 | 0, _ => rfl
 | 1, _ => rfl
 | 2, _ => rfl
 | 3, _ => rfl
theorem b5X (k : Int) (h0 : 0 <= k) (h1 : k < 4) : ([[C.v (.int .i64 0)], [C.v (.int .i64 1)], [C.v (.int .i64 (-1))], [C.v (.int .i64 1)]] : List (List C))[k.toNat]? = some [C.v (.int .i64 (a3M k))] := by
 have : k = 0 \/ k = 1 \/ k = 2 \/ k = 3 := by omega
 rcases this with rfl | rfl | rfl | rfl <;> rfl
theorem b2w (k : Int) : -1 <= a3M k /\ a3M k <= 1 := by unfold a3M; split; omega; split <;> omega
theorem b7n {E : Ctx} (hP : E.P = Tryz.prog) (l : List Int) (n : Nat) (hn : n <= 3) :
  l7 E [.box 209 [a0f l]] 152 [.bp 0 0, .v (.int .i64 (n : Int))] (a9b l n).c [.box 209 [a0f (a5Q l)]] [] := by
 obtain ⟨P, eff', N, w0, own0, av0, nu0, pk0⟩ := E
 simp only at hP
 subst hP
 refine l7.of (eff := eff) Tryz.func152 (by cbv) (by exact b8q rfl) fun w own av ν hν => ?_
 have hν0 : ν.length <= 1 := by rw [hν]; exact b8f _
 have hnm := b4m n hn
 have h1 := a4w (40 * (n : Int)) 0 (by omega) (by omega)
 have k1 := fun (E : Ctx) (hP : E.P = Tryz.prog) => a0c hP l 4 (by decide)
 have k2 := fun (E : Ctx) (hP : E.P = Tryz.prog) => a0c hP (l.drop 1) 3 (by decide)
 have k3 := fun (E : Ctx) (hP : E.P = Tryz.prog) => a0c hP (l.drop 2) 3 (by decide)
 have a1 := U6 l (n := 4) (by decide)
 have a2 := a1U l (n := 4) (by decide)
 have a3 := U6 (l.drop 1) (n := 3) (by decide)
 have a4 := a1U (l.drop 1) (n := 3) (by decide)
 have a5 := U6 (l.drop 2) (n := 3) (by decide)
 have a6 := a1U (l.drop 2) (n := 3) (by decide)
 have htn := b5X (nx l 4) a1 a2
 have htr := b2w (nx l 4)
 have h2 := a1Z (a3M (nx l 4)) (1 + nx (l.drop 1) 3) (by omega) (by omega)
 rw [List.drop_drop] at k2 k3
 have hc : ((a4b l : Nat) : Int) = 1 + nx (l.drop 2) 3 := by unfold a4b; omega
 have hc3 : a4b l <= 3 := by omega
 have hR : a5Q l = (l.drop 3).drop (6 * a4b l) := by unfold a5Q; rw [List.drop_drop]
 unfold a9b
 rw [hR]
 generalize a4b l = c at *
 generalize l.drop 3 = l0 at *
 unfold atV at h1
 generalize Q (40 * (n : Int)) 4 = q1 at *
 generalize Q 0 4 = q2 at *
 generalize a3M (nx l 4) = tn at *
 generalize Q tn (1 + nx (l.drop 1) 3) = q3 at *
 generalize nx l 4 = x1 at *
 generalize nx (l.drop 1) 3 = x2 at *
 generalize nx (l.drop 2) 3 = x3 at *
 generalize b4q n = nm at *
 simp only [j6]
 simp only [Am.c, Am.enc, Vt.c, Vt.enc, rc, a0f, sb, ints, lks] at h1 h2 k1 k2 k3 ⊢
 (repeat first | refine uA ?_ | (refine uK ?_ ?_; focus first | omega | trivial | (intros; simp_all <;> omega)) | simp (disch := omega) only [go_sem, Nat.reduceBEq, Nat.reduceAdd, Nat.reduceLeDiff, Int.reduceToNat, Int.reducePow, ww, hnm, htn, b8m] | refine p8.t (l7.lift (k := 0) rfl (k1 _ rfl) rfl rfl rfl) ?_ | refine p8.t (l7.lift (k := 0) rfl (k2 _ rfl) rfl rfl rfl) ?_ | (refine uB h1 ?_ ?_; exact rfl) | (refine uB h2 ?_ ?_; exact rfl))
 (repeat first | refine uA ?_ | (refine uK ?_ ?_; focus first | omega | trivial | (intros; simp_all <;> omega)) | simp (disch := omega) only [go_sem, Nat.reduceBEq, Nat.reduceAdd, Nat.reduceLeDiff, Int.reduceToNat, Int.reducePow, ww] | refine p8.t (l7.lift (k := 0) rfl (k3 _ rfl) rfl rfl rfl) ?_)
 rw [<- hc]
 refine S.loop (X := Nat × List Lk × List Int) (fun x => ⟨[(0, .bp 0 0), (4, .bp 1 0), (5, .bp 3 0), (30, ints c), (31, ints x.1)], [.box 209 [a0f x.2.2], .box 60 [.v (.string ⟨#[]⟩), .v (.bool false), .v (.string ⟨#[]⟩), .v (.string ⟨#[]⟩), .v (.bool false), .v (.string ⟨#[]⟩), .v (.string ⟨#[]⟩), .v (.bool false), .v (.bool false), .v (.string ⟨#[]⟩), .v (.string ⟨#[]⟩), .v (.slice none 0 0)], .gone, .box 60 [.v (.string (bs nm)), .v (.bool q1.neg), .v (.string (bs q1.num)), .v (.string (bs q1.den)), .v (.bool q2.neg), .v (.string (bs q2.num)), .v (.string (bs q2.den)), .v (.bool false), .v (.bool q3.neg), .v (.string (bs q3.num)), .v (.string (bs q3.den)), .rv 4], .row 127 16 (x.2.1.map Lk.enc)]⟩)
  (fun x => x.1 <= c /\ x.2.1.length = x.1 /\ x.2.1 ++ a3s (c - x.1) x.2.2 = a3s c l0 /\ x.2.2.drop (6 * (c - x.1)) = l0.drop (6 * c)) (fun x => c - x.1) (0, [], l0) ⟨b8b _, rfl, rfl, rfl⟩ (Ent.trans (Ent.a0V 3 11 127 16 rfl rfl rfl) (by (repeat first | refine uA ?_ | (refine ⟨?_, ?_⟩; focus first | rfl | trivial | (simp [slot]; done)) | rfl | trivial | simp | exact b8a hν0 (by simp)))) ?_
 rintro ⟨i, ls, m⟩ ⟨hi, hls, hL, hM⟩
 simp only [ints, a0f] at hi hls hL hM ⊢
 (repeat first | refine uA ?_ | (refine uK ?_ ?_; focus first | omega | trivial | (intros; simp_all <;> omega)) | simp (disch := omega) only [go_sem, Nat.reduceBEq, Nat.reduceAdd, Nat.reduceLeDiff, Int.reduceToNat, Int.reducePow, ww])
 (refine uJ rfl (fun hc => ?_) fun hc => ?_)
 ·have hi' : c - i = (c - i - 1) + 1 := by omega
  have n0 := fun (E : Ctx) (hP : E.P = Tryz.prog) => a0c hP (m.drop 0) 4 (by decide)
  have a0 := U6 (m.drop 0) (n := 4) (by decide)
  have b0 := a1U (m.drop 0) (n := 4) (by decide)
  have n1 := fun (E : Ctx) (hP : E.P = Tryz.prog) => a0c hP (m.drop 1) 6 (by decide)
  have a1 := U6 (m.drop 1) (n := 6) (by decide)
  have b1 := a1U (m.drop 1) (n := 6) (by decide)
  have n2 := fun (E : Ctx) (hP : E.P = Tryz.prog) => a0c hP (m.drop 2) 6 (by decide)
  have a2 := U6 (m.drop 2) (n := 6) (by decide)
  have b2 := a1U (m.drop 2) (n := 6) (by decide)
  have n3 := fun (E : Ctx) (hP : E.P = Tryz.prog) => a0c hP (m.drop 3) 8 (by decide)
  have a3 := U6 (m.drop 3) (n := 8) (by decide)
  have b3 := a1U (m.drop 3) (n := 8) (by decide)
  have n4 := fun (E : Ctx) (hP : E.P = Tryz.prog) => a0c hP (m.drop 4) 20 (by decide)
  have a4 := U6 (m.drop 4) (n := 20) (by decide)
  have b4 := a1U (m.drop 4) (n := 20) (by decide)
  have n5 := fun (E : Ctx) (hP : E.P = Tryz.prog) => a0c hP (m.drop 5) 3 (by decide)
  have a5 := U6 (m.drop 5) (n := 3) (by decide)
  have b5 := a1U (m.drop 5) (n := 3) (by decide)
  rw [hi', a3s] at hL
  have hM2 : (m.drop 6).drop (6 * (c - (i + 1))) = l0.drop (6 * c) := by rw [List.drop_drop, <- hM]; congr 1; omega
  rw [show c - i - 1 = c - (i + 1) by omega] at hL
  simp only [List.drop_drop, List.drop_zero] at n0 n1 n2 n3 n4 n5 a0 b0
  unfold b4J b4M at hL
  have o1 := a1Z (4 + 2 * nx m 4) 4 (by omega) (by omega)
  have o2 := a1Z (-1 - nx (m.drop 1) 6) 3 (by omega) (by omega)
  have o3 := a1Z (1 + nx (m.drop 2) 6) 3 (by omega) (by omega)
  have o4 := a1Z 1 (4 + nx (m.drop 3) 8) (by omega) (by omega)
  have o5 := a1Z 1 (10 + nx (m.drop 4) 20) (by omega) (by omega)
  have o6 := b6z (-1) (-1) (4 + 2 * nx m 4 + 1) 1 (by omega) (by omega) (by omega) (by omega)
  have o7 := a4w (-1) (-1) (by omega) (by omega)
  have o8 := a4w (4 + 2 * nx m 4 + 1) 0 (by omega) (by omega)
  have o9 := a4w (-1) 1 (by omega) (by omega)
  generalize Q (4 + 2 * nx m 4) 4 = p1 at *
  generalize Q (-1 - nx (m.drop 1) 6) 3 = p2 at *
  generalize Q (1 + nx (m.drop 2) 6) 3 = p3 at *
  generalize Q 1 (4 + nx (m.drop 3) 8) = p4 at *
  generalize Q 1 (10 + nx (m.drop 4) 20) = p5 at *
  generalize a8c (-1) (-1) (4 + 2 * nx m 4 + 1) 1 = r6 at *
  generalize atV (-1) (-1) = v7 at *
  generalize atV (4 + 2 * nx m 4 + 1) 0 = v8 at *
  generalize atV (-1) 1 = v9 at *
  generalize nx m 4 = y0 at *
  generalize nx (m.drop 1) 6 = y1 at *
  generalize nx (m.drop 2) 6 = y2 at *
  generalize nx (m.drop 3) 8 = y3 at *
  generalize nx (m.drop 4) 20 = y4 at *
  generalize nx (m.drop 5) 3 = y5 at *
  simp only [a0f, ints, rc, sb, vts, Vt.c, Vt.enc] at n0 n1 n2 n3 n4 n5 o1 o2 o3 o4 o5 o6 o7 o8 o9
  (repeat first | refine uA ?_ | (refine uK ?_ ?_; focus first | omega | trivial | (intros; simp_all <;> omega)) | simp (disch := omega) only [go_sem, Nat.reduceBEq, Nat.reduceAdd, Nat.reduceLeDiff, Int.reduceToNat, Int.reducePow, ww] | refine p8.t (l7.lift (k := 0) rfl (n0 _ rfl) rfl rfl rfl) ?_ | refine p8.t (l7.lift (k := 0) rfl (n1 _ rfl) rfl rfl rfl) ?_ | refine p8.t (l7.lift (k := 0) rfl (n2 _ rfl) rfl rfl rfl) ?_ | refine p8.t (l7.lift (k := 0) rfl (n3 _ rfl) rfl rfl rfl) ?_ | refine p8.t (l7.lift (k := 0) rfl (n4 _ rfl) rfl rfl rfl) ?_ | refine p8.t (l7.lift (k := 0) rfl (n5 _ rfl) rfl rfl rfl) ?_ | (refine uB o1 ?_ ?_; exact rfl) | (refine uB o2 ?_ ?_; exact rfl) | (refine uB o3 ?_ ?_; exact rfl) | (refine uB o4 ?_ ?_; exact rfl) | (refine uB o5 ?_ ?_; exact rfl) | (refine uB o6 ?_ ?_; exact rfl))
  refine S.join (Y := List Vt) (fun sh => ⟨[(0, .bp 0 0), (4, .bp 1 0), (5, .bp 3 0), (7, .bp 5 0), (30, ints c), (31, ints i)], [.box 209 [a0f (m.drop 6)], .box 60 [.v (.string ⟨#[]⟩), .v (.bool false), .v (.string ⟨#[]⟩), .v (.string ⟨#[]⟩), .v (.bool false), .v (.string ⟨#[]⟩), .v (.string ⟨#[]⟩), .v (.bool false), .v (.bool false), .v (.string ⟨#[]⟩), .v (.string ⟨#[]⟩), .v (.slice none 0 0)], .gone, .box 60 [.v (.string (bs nm)), .v (.bool q1.neg), .v (.string (bs q1.num)), .v (.string (bs q1.den)), .v (.bool q2.neg), .v (.string (bs q2.num)), .v (.string (bs q2.den)), .v (.bool false), .v (.bool q3.neg), .v (.string (bs q3.num)), .v (.string (bs q3.den)), .rv 4], .row 127 16 (ls.map Lk.enc), .box 127 (Lk.enc ⟨p1, p2, p3, p4, p5, sh⟩)]⟩) (fun sh => sh = if y5 = 2 then [v7, v8, v9] else r6) ?_ ?_
  ·refine S.cond rfl (fun hc => ?_) (fun hc => ?_)
   ·(repeat first | refine uA ?_ | (refine uK ?_ ?_; focus first | omega | trivial | (intros; simp_all <;> omega)) | simp (disch := omega) only [go_sem, Nat.reduceBEq, Nat.reduceAdd, Nat.reduceLeDiff, Int.reduceToNat, Int.reducePow, ww] | (refine uB o7 ?_ ?_; exact rfl) | (refine uB o8 ?_ ?_; exact rfl) | (refine uB o9 ?_ ?_; exact rfl))
    exact S.met [v7, v8, v9] (by simp at hc; rw [if_pos hc]) (Ent.mk _ _ (by (repeat' (first | exact X0.nil | exact Imp.junk | exact Imp.refl rfl | exact Imp.eq (by simp [slot]; done) rfl | refine X0.cons ?_ ?_))) (by (repeat' (first | exact J7.nil | exact RI.gone _ | exact RI.row _ _ _ _ rfl | exact RI.map _ _ _ rfl | exact RI.box _ _ _ (l5.refl rfl) | (refine RI.box _ _ _ ?_; (repeat' (first | exact l5.nil | exact Imp.refl rfl | exact Imp.frz rfl rfl rfl | exact Imp.O1 | refine l5.cons ?_ ?_))) | refine J7.cons ?_ ?_))) (b8a hν0 (by simp)))
   ·(repeat first | refine uA ?_ | (refine uK ?_ ?_; focus first | omega | trivial | (intros; simp_all <;> omega)) | simp (disch := omega) only [go_sem, Nat.reduceBEq, Nat.reduceAdd, Nat.reduceLeDiff, Int.reduceToNat, Int.reducePow, ww])
    exact S.met r6 (by simp at hc; rw [if_neg hc]) (by (repeat first | refine uA ?_ | (refine ⟨?_, ?_⟩; focus first | rfl | trivial | (simp [slot]; done)) | rfl | trivial | simp | exact b8a hν0 (by simp)))
  rintro sh hsh
  rw [<- hsh] at hL
  simp only [a0f, ints, Lk.enc, vts]
  (repeat first | refine uA ?_ | (refine uK ?_ ?_; focus first | omega | trivial | (intros; simp_all <;> omega)) | simp (disch := omega) only [go_sem, Nat.reduceBEq, Nat.reduceAdd, Nat.reduceLeDiff, Int.reduceToNat, Int.reducePow, ww, b7Z, hls])
  refine S.next (x := (i, ls, m)) (i + 1, ls ++ [⟨p1, p2, p3, p4, p5, sh⟩], m.drop 6) ⟨by simp only; omega, by simp [hls], by simp only; rw [b8l]; exact hL, by simp only; exact hM2⟩ (by simp only; omega) (by simp only [b8O, b8y, b8E]; exact (by (repeat first | refine uA ?_ | (refine ⟨?_, ?_⟩; focus first | rfl | trivial | (simp [slot]; done)) | rfl | trivial | simp | exact b8a hν0 (by simp))))
 ·have hi' : i = c := by omega
  subst hi'
  rw [Nat.sub_self, a3s, List.append_nil] at hL
  rw [Nat.sub_self, Nat.mul_zero, List.drop_zero] at hM
  subst hL
  subst hM
  (repeat first | refine uA ?_ | (refine uK ?_ ?_; focus first | omega | trivial | (intros; simp_all <;> omega)) | simp (disch := omega) only [go_sem, Nat.reduceBEq, Nat.reduceAdd, Nat.reduceLeDiff, Int.reduceToNat, Int.reducePow, ww])
  (refine S.done ?_; simp only [z8, r9, go_sem, Nat.reduceBEq, Nat.reduceAdd, Nat.reduceLeDiff, Int.reduceToNat, Int.reducePow]; (repeat (refine ⟨?_, ?_⟩; focus first | trivial | omega | simp)); exact d9.M5 (Imp.agg (by (repeat' (first | exact l5.nil | exact Imp.refl rfl | exact Imp.frz rfl rfl rfl | exact Imp.O1 | refine l5.cons ?_ ?_)))) (by (repeat first | refine uA ?_ | (refine ⟨?_, ?_⟩; focus first | rfl | trivial | (simp [slot]; done)) | rfl | trivial | simp)) (b8a hν0 (by simp)))
def b0Y : Wk := ⟨[], [], [], [], [], ⟨false, [], []⟩⟩
theorem a3w {w : World} {O : Nat -> Prop} {sz : Nat} : Fz w O (.sl sz []) (.slice none 0 0) := by
 simp only [Fz]
 exact ⟨none, 0, rfl, b8f _, b8b _, fun h => absurd h (by simp)⟩
theorem b4w : FZ 11 [.agg [.v (.slice none 0 0), .v (.slice none 0 0), .v (.slice none 0 0), .v (.slice none 0 0), .v (.slice none 0 0), .v (.bool false), .v (.string ⟨#[]⟩), .v (.string ⟨#[]⟩)]] (ints 4) := by
 have h := a5P b0Y ⟨⟨b8b _, fun x hx => (by cases hx)⟩, ⟨b8b _, fun x hx => (by cases hx)⟩, ⟨b8b _, fun x hx => (by cases hx)⟩, ⟨b8b _, fun x hx => (by cases hx)⟩, ⟨b8b _, fun x hx => (by cases hx)⟩, ⟨b8b _, b8b _⟩⟩
 have he : a0j b0Y = 4 := rfl
 rw [he] at h
 intro O w vs hw hO hA
 refine h O w vs hw hO ?_
 simp only [FzL, Fz] at hA
 obtain ⟨y, ys, rfl, ⟨us, ⟨y1, r1, rfl, rfl, y2, r2, rfl, rfl, y3, r3, rfl, rfl, y4, r4, rfl, rfl, y5, r5, rfl, rfl, y6, r6, rfl, rfl, y7, r7, rfl, rfl, y8, r8, rfl, rfl, rfl⟩, rfl⟩, rfl⟩ := hA
 refine ⟨_, _, rfl, ?_, rfl⟩
 simp only [Wk.c, Wk.enc, b0Y, Fz]
 exact ⟨_, ⟨_, _, rfl, a3w, _, _, rfl, a3w, _, _, rfl, a3w, _, _, rfl, a3w, _, _, rfl, a3w, _, _, rfl, by simp only [Fz], _, _, rfl, by simp only [sb, Fz]; rfl, _, _, rfl, by simp only [sb, Fz]; rfl, rfl⟩, rfl⟩
set_option maxRecDepth 10000
set_option maxHeartbeats 4000000
set_option maxRecDepth 100000
set_option maxRecDepth 10000
set_option maxHeartbeats 8000000
set_option maxRecDepth 100000
set_option maxHeartbeats 4000000
theorem b3O {a : Nm.Rt} (h : j4 a = true) : Rb 3 a := by
 unfold j4 at h
 simp only [b8g, b8o] at h
 exact ⟨h.1.1.1.1, by have := h.1.1.1.2; omega⟩
theorem R3 {a : Nm.Rt} (h : j4 a = true) : Rb 1048576 a := (b3O h).mono (by decide)
theorem a7L {α : Type} {f : α -> Int} : ∀ {l : List α}, F6 f l = 0 -> ∀ x ∈ l, f x = 0
 | [], _, x, hx => by cases hx
 | y :: l, h, x, hx => by
  rw [F6] at h
  split at h
  ·rename_i h0
   rcases List.mem_cons.1 hx with rfl | hx
   ·exact h0
   ·exact a7L h x hx
  ·rename_i h0; exact absurd h h0
theorem b2b {l : List Vt} (h : P7 l 8 = 0) : l.length <= 8 := by
 unfold P7 at h
 split at h
 ·cases h
 ·omega
theorem a6q {l : Lk} (h : a0r l = 0) : Lb 1048576 l /\ Nm.G5 (Nm.j5 l.low) (Nm.j5 l.high) < 0 /\ 0 < D6 (Nm.j5 l.speed) := by
 unfold a0r at h
 split at h
 ·cases h
 rename_i h1
 split at h
 ·cases h
 rename_i h2
 split at h
 ·rename_i h3; exact absurd h h3
 rename_i h3
 split at h
 ·rename_i h4
  have h1a : (j4 l.length && j4 l.low && j4 l.high && j4 l.speed && j4 l.brake) = true := by
   cases hb : (j4 l.length && j4 l.low && j4 l.high && j4 l.speed && j4 l.brake) with
   | true => rfl
   | false => exact absurd (.inl hb) h1
  simp only [b8g] at h1a
  obtain ⟨⟨⟨⟨s1, s2⟩, s3⟩, s4⟩, s5⟩ := h1a
  have hpe := b2b (Classical.not_not.1 h3)
  rw [List.all_eq_true] at h4
  refine ⟨⟨R3 s1, R3 s2, R3 s3, R3 s4, R3 s5, by omega, fun v hv => ?_⟩, ?_, ?_⟩
  ·have := h4 v hv
   simp only [b8g] at this
   exact ⟨R3 this.1, R3 this.2⟩
  ·have : ¬ 0 <= Nm.G5 (Nm.j5 l.low) (Nm.j5 l.high) := fun h => h1 (.inr (.inr h))
   omega
  ·have : ¬ D6 (Nm.j5 l.speed) <= 0 := fun h => h2 (.inl h)
   omega
 ·cases h
theorem a7B {a : Am} (h : a0I a = 0) : Ab 1048576 a /\ ∀ l ∈ a.links, a0r l = 0 := by
 unfold a0I at h
 split at h
 ·cases h
 rename_i h1
 split at h
 ·cases h
 split at h
 ·cases h
 rename_i h2 h3
 have hn : a.name.length <= 12 := by
  have : Q7 a.name = true := by simpa using h1
  unfold Q7 at this
  simp only [b8g, b8o] at this
  exact this.2
 have h3a : (j4 a.base.x && j4 a.base.y && j4 a.base.t) = true := by
  cases hb : (j4 a.base.x && j4 a.base.y && j4 a.base.t) with
  | true => rfl
  | false => exact absurd (.inr (.inl hb)) h3
 simp only [b8g] at h3a
 have hl := a7L h
 exact ⟨⟨by omega, ⟨R3 h3a.1.1, R3 h3a.1.2, R3 h3a.2⟩, by omega, fun l hl' => (a6q (hl l hl')).1⟩, hl⟩
theorem Fb.mono {k m : Nat} {f : Fr} (h : Fb k f) (hm : k <= m) : Fb m f := ⟨h.1.mono hm, h.2.1.mono hm, h.2.2.mono hm⟩
theorem Vbs.mono {k m : Nat} {l : List Vt} (h : Vbs k l) (hm : k <= m) : Vbs m l := ⟨b8a h.1 hm, fun v hv => ⟨(h.2 v hv).1.mono hm, (h.2 v hv).2.mono hm⟩⟩
theorem Ab.mono {k m : Nat} {a : Am} (h : Ab k a) (hm : k <= m) : Ab m a := ⟨b8a h.1 hm, h.2.1.mono hm, b8a h.2.2.1 hm, fun l hl => by
 obtain ⟨h1, h2, h3, h4, h5, h6⟩ := h.2.2.2 l hl
 exact ⟨h1.mono hm, h2.mono hm, h3.mono hm, h4.mono hm, h5.mono hm, h6.mono hm⟩⟩
theorem Wb.mono {k m : Nat} {w : Wk} (h : Wb k w) (hm : k <= m) : Wb m w :=
  ⟨⟨b8a h.arms.1 hm, fun x hx => (h.arms.2 x hx).mono hm⟩, ⟨b8a h.walls.1 hm, fun x hx => (h.walls.2 x hx).mono hm⟩, ⟨b8a h.parts.1 hm, fun x hx => ⟨b8a (h.parts.2 x hx).1 hm, (h.parts.2 x hx).2.1.mono hm, (h.parts.2 x hx).2.2.mono hm⟩⟩,
   ⟨b8a h.slots.1 hm, fun x hx => ⟨b8a (h.slots.2 x hx).1 hm, (h.slots.2 x hx).2.1.mono hm, (h.slots.2 x hx).2.2.mono hm⟩⟩, ⟨b8a h.gates.1 hm, fun x hx => ⟨b8a (h.gates.2 x hx).1 hm, ⟨(h.gates.2 x hx).2.1.1.mono hm, (h.gates.2 x hx).2.1.2.mono hm⟩, (h.gates.2 x hx).2.2.1.mono hm, (h.gates.2 x hx).2.2.2.mono hm⟩⟩, h.walk.mono hm⟩
theorem Stb.mono {k m : Nat} {s : Stt} (h : Stb k s) (hm : k <= m) : Stb m s :=
 ⟨⟨b8a h.arms.1 hm, fun x hx => ⟨⟨b8a (h.arms.2 x hx).1.1 hm, fun r hr => ((h.arms.2 x hx).1.2 r hr).mono hm⟩, b8a (h.arms.2 x hx).2.1 hm, fun r hr => ((h.arms.2 x hx).2.2 r hr).mono hm⟩⟩, ⟨b8a h.parts.1 hm, fun x hx => (h.parts.2 x hx).mono hm⟩, h.people.mono hm, b8a h.gates hm⟩
theorem a6S (p q : Rat) : Nm.G5 p q < 0 <-> p < q := by
 unfold Nm.G5
 split
 ·simp_all
 ·split
  ·simp_all
  ·simp_all
theorem b0N (p q : Rat) : 0 < Nm.G5 p q <-> q < p := by
 unfold Nm.G5
 split
 ·rename_i h; simp; grind
 ·split
  ·rename_i h1 h2; simp; grind
  ·rename_i h1 h2; simp; grind
theorem b0E {w : Wk} (h : a0j w = 0) : ∀ a ∈ w.arms, a0I a = 0 := by
 have h1 : F6 id (a3i w) = 0 := by
  unfold a0j at h
  split at h
  ·cases h
  ·split at h
   ·cases h
   ·split at h
    ·rename_i h2; exact absurd h h2
    ·exact Classical.not_not.1 (by assumption)
 have h2 : (D9 X5 [] w.arms).1 = 0 := by
  unfold a3i at h1
  simp only [F6, id] at h1
  split at h1
  ·assumption
  ·exact h1
 have key : ∀ (l : List Am) (n : Nms), (D9 X5 n l).1 = 0 -> ∀ a ∈ l, a0I a = 0 := by
  intro l
  induction l with
  | nil => intro n _ a ha; cases ha
  | cons x l ih =>
   intro n hn a ha
   have hx : (X5 n x).1 = 0 := by
    unfold D9 at hn
    split at hn
    ·assumption
    ·exact hn
   unfold D9 at hn
   rw [if_pos hx] at hn
   rcases List.mem_cons.1 ha with rfl | ha
   ·unfold X5 at hx
    split at hx
    ·exact hx
    ·exact Classical.not_not.1 (by assumption)
   ·exact ih _ hn a ha
 exact key _ _ h2
structure b7V (w : Wk) (s : Stt) : Prop where
 works : a0j w = 0
 people : s.people.length <= 4
 tick : 0 <= s.tick /\ s.tick <= 2000
 arms : s.arms.length = w.arms.length
 parts : s.parts.length = w.parts.length
 gates : s.gates.length = w.gates.length
 one : ∀ z ∈ w.arms.zip s.arms, b7P z.1 z.2 w.parts.length = 0
 big : 1 <= w.arms.length /\ w.arms.length <= 4 /\ w.parts.length <= 6 /\ w.gates.length <= 4
structure b7U (a : Am) (x : Ast) (n : Nat) : Prop where
 arm : a0I a = 0
 q : x.q.length = a.links.length
 v : x.v.length = a.links.length
 holds : -1 <= x.holds /\ x.holds < n
set_option maxHeartbeats 16000000
def Y1 : Wk := ⟨[a9b [] 0], [], [], [], [], Q 0 8⟩
theorem a4J : a0j Y1 = 0 := by decide +kernel
theorem a8m : Wb 1048576 Y1 := by
 have ha := b0E a4J
 refine ⟨⟨by decide, fun x hx => (a7B (ha x hx)).1⟩, ⟨by decide, fun x hx => by cases hx⟩, ⟨by decide, fun x hx => by cases hx⟩, ⟨by decide, fun x hx => by cases hx⟩, ⟨by decide, fun x hx => by cases hx⟩, ⟨by decide +kernel, by decide +kernel⟩⟩
theorem S.a4O {E : Ctx} {Q : Exit -> Act -> World -> Prop} {st : St} {k : List It} {body : IC} (h : ∀ J, S E Q st (.code body :: .inv J :: k)) : S E Q st (.code (.loop body) :: k) :=
 S.loop (X := Unit) (fun _ => st) (fun _ => True) (fun _ => 0) () trivial (fun _ ν _ _ h => ⟨ν, h⟩) fun _ _ => h _
theorem b3T : l6 Tryz.prog 96 [a0f []] Y1.c := by
 refine kS Tryz.func96 (kcF rfl (by cbv) (by repeat first | apply kcS | apply kcC | apply kcB | apply kcL | cbv)) (by rfl) fun w O => ?_
 have k2 := fun (E : Ctx) (hP : E.P = Tryz.prog) => a0c hP [] 2 (by decide)
 have k3 := fun (E : Ctx) (hP : E.P = Tryz.prog) => a0c hP [] 3 (by decide)
 have k4 := fun (E : Ctx) (hP : E.P = Tryz.prog) => a0c hP [] 4 (by decide)
 have ha : ∀ i : Nat, i = 0 -> ∀ E : Ctx, E.P = Tryz.prog -> l7 E [.box 209 [a0f []]] 152 [.bp 0 0, .v (.int .i64 (i : Int))] (a9b [] 0).c [.box 209 [a0f (a5Q [])]] [] := fun i h E hP => by subst h; exact b7n hP [] 0 (by decide)
 have o1 := a1Z 0 8 (by decide) (by decide)
 have e1 : a5Q [] = [] := by unfold a5Q; exact List.drop_nil
 rw [e1] at ha
 simp only [List.drop_nil, show nx [] 2 = 0 from rfl, show nx [] 3 = 0 from rfl, show nx [] 4 = 0 from rfl, a0f, b8E, ints] at k2 k3 k4 ha o1
 unfold Y1
 generalize a9b [] 0 = A at *
 generalize Q 0 8 = q at *
 simp only [Am.c, Am.enc, lks, rc, sb] at ha o1
 simp only [j6]
 simp only [a0f, b8E]
 (repeat first | refine uA ?_ | (refine uK ?_ ?_; focus first | omega | (intros; simp_all <;> omega)) | simp (disch := omega) only [go_sem, Nat.reduceBEq, Nat.reduceAdd, ww] | refine p8.t (l7.lift (k := 1) rfl (k2 _ rfl) rfl rfl rfl) ?_)
 refine S.loop (X := Nat) (fun i => ⟨[(2, .bp 0 0), (3, .bp 1 0), (4, .bp 2 0), (17, ints 1), (18, ints i)], [.box 30 [.v (.slice none 0 0), .v (.slice none 0 0), .v (.slice none 0 0), .v (.slice none 0 0), .v (.slice none 0 0), .v (.bool false), .v (.string ⟨#[]⟩), .v (.string ⟨#[]⟩)], .box 209 [.sl 1 []], .box 30 [.rv 3, .v (.slice none 0 0), .v (.slice none 0 0), .v (.slice none 0 0), .v (.slice none 0 0), .v (.bool false), .v (.string ⟨#[]⟩), .v (.string ⟨#[]⟩)], .row 60 12 ((List.replicate i A).map Am.enc)]⟩) (fun i => i <= 1) (fun i => 1 - i) 0 (by decide) (Ent.trans (Ent.a0V 2 0 60 12 rfl rfl rfl) (by (repeat first | refine uA ?_ | (refine ⟨?_, ?_⟩; focus first | rfl | simp [slot]) | rfl | simp))) ?_
 intro i hi
 simp only [ints]
 (repeat first | refine uA ?_ | (refine uK ?_ ?_; focus first | omega | (intros; simp_all <;> omega)) | simp (disch := omega) only [go_sem, Nat.reduceBEq, Nat.reduceAdd, ww])
 (refine uJ rfl (fun hc => ?_) fun hc => ?_)
 ·have hi' : i = 0 := by omega
  have ha := ha i hi'
  (repeat first | refine uI ?_ | (refine uK ?_ ?_; focus first | omega | (intros; simp_all <;> omega)) | simp (disch := omega) only [go_sem, Nat.reduceBEq, Nat.reduceAdd, ww])
  refine S.Z6 [.gone, .gone, .box 30 [.rv 3, .v (.slice none 0 0), .v (.slice none 0 0), .v (.slice none 0 0), .v (.slice none 0 0), .v (.bool false), .v (.string ⟨#[]⟩), .v (.string ⟨#[]⟩)]] (by simp [Eng.F3, Eng.a1m]) ?_
  (repeat first | refine uA ?_ | (refine uK ?_ ?_; focus first | omega | (intros; simp_all <;> omega)) | simp (disch := omega) only [go_sem, Nat.reduceBEq, Nat.reduceAdd, ww, b7Z, List.length_replicate, F3] | refine p8.t (l7.lift (k := 1) rfl (ha _ rfl) rfl rfl rfl) ?_)
  refine S.next (i + 1) (by omega) (by omega) (by simp only [List.replicate_succ', b8O, b8y, b8E, Am.enc, lks, sb, ints]; exact (by (repeat first | refine uA ?_ | (refine ⟨?_, ?_⟩; focus first | rfl | simp [slot]) | rfl | simp)))
 have hi' : i = 1 := by omega
 subst hi'
 (repeat first | refine uA ?_ | (refine uK ?_ ?_; focus first | omega | (intros; simp_all <;> omega)) | simp (disch := omega) only [go_sem, Nat.reduceBEq, Nat.reduceAdd, ww] | refine p8.t (l7.lift (k := 1) rfl (k3 _ rfl) rfl rfl rfl) ?_)
 refine S.a4O fun J => ?_
 (repeat first | refine uA ?_ | (refine uK ?_ ?_; focus first | omega | (intros; simp_all <;> omega)) | simp (disch := omega) only [go_sem, Nat.reduceBEq, Nat.reduceAdd, ww])
 refine S.cond rfl (fun hc => by simp at hc) (fun hc => ?_)
 (repeat first | refine uA ?_ | (refine uK ?_ ?_; focus first | omega | (intros; simp_all <;> omega)) | simp (disch := omega) only [go_sem, Nat.reduceBEq, Nat.reduceAdd, ww] | refine p8.t (l7.lift (k := 1) rfl (k3 _ rfl) rfl rfl rfl) ?_)
 refine S.a4O fun J => ?_
 (repeat first | refine uA ?_ | (refine uK ?_ ?_; focus first | omega | (intros; simp_all <;> omega)) | simp (disch := omega) only [go_sem, Nat.reduceBEq, Nat.reduceAdd, ww])
 refine S.cond rfl (fun hc => by simp at hc) (fun hc => ?_)
 (repeat first | refine uI ?_ | (refine uK ?_ ?_; focus first | omega | (intros; simp_all <;> omega)) | simp (disch := omega) only [go_sem, Nat.reduceBEq, Nat.reduceAdd, ww])
 refine S.Z6 [.gone, .gone, .box 30 [.rv 3, .v (.slice none 0 0), .v (.slice none 0 0), .v (.slice none 0 0), .v (.slice none 0 0), .v (.bool false), .v (.string ⟨#[]⟩), .v (.string ⟨#[]⟩)]] (by simp [Eng.F3, Eng.a1m]) ?_
 (repeat first | refine uA ?_ | (refine uK ?_ ?_; focus first | omega | (intros; simp_all <;> omega)) | simp (disch := omega) only [go_sem, Nat.reduceBEq, Nat.reduceAdd, ww] | refine p8.t (l7.lift (k := 1) rfl (k2 _ rfl) rfl rfl rfl) ?_)
 refine S.a4O fun J => ?_
 (repeat first | refine uA ?_ | (refine uK ?_ ?_; focus first | omega | (intros; simp_all <;> omega)) | simp (disch := omega) only [go_sem, Nat.reduceBEq, Nat.reduceAdd, ww])
 refine S.cond rfl (fun hc => by simp at hc) (fun hc => ?_)
 (repeat first | refine uA ?_ | (refine uK ?_ ?_; focus first | omega | (intros; simp_all <;> omega)) | simp (disch := omega) only [go_sem, Nat.reduceBEq, Nat.reduceAdd, ww] | refine p8.t (l7.lift (k := 1) rfl (k2 _ rfl) rfl rfl rfl) ?_)
 refine S.a4O fun J => ?_
 (repeat first | refine uA ?_ | (refine uK ?_ ?_; focus first | omega | (intros; simp_all <;> omega)) | simp (disch := omega) only [go_sem, Nat.reduceBEq, Nat.reduceAdd, ww])
 refine S.cond rfl (fun hc => by simp at hc) (fun hc => ?_)
 (repeat first | refine uA ?_ | (refine uK ?_ ?_; focus first | omega | (intros; simp_all <;> omega)) | simp (disch := omega) only [go_sem, Nat.reduceBEq, Nat.reduceAdd, ww] | refine p8.t (l7.lift (k := 1) rfl (k4 _ rfl) rfl rfl rfl) ?_ | (refine uB o1 ?_ ?_; exact rfl))
 simp only [Wk.c, Wk.enc, ams, wls, pts, sls, gts, sb, List.replicate_succ, List.replicate_zero, b8y, b8E, Am.enc, lks]
 (refine S.done ?_; simp only [z8, r9, go_sem, Nat.reduceBEq, Nat.reduceAdd, Nat.reduceLeDiff, Int.reduceToNat, Int.reducePow]; (repeat (refine ⟨?_, ?_⟩; focus first | trivial | omega | simp)); exact d9.out rfl (Imp.agg (by (repeat' (first | exact l5.nil | exact Imp.refl rfl | exact Imp.frz rfl rfl rfl | exact Imp.O1 | refine l5.cons ?_ ?_)))) rfl)
theorem b3U : l6 Tryz.prog 96 [.v (.slice none 0 0)] Y1.c := by
 have h := b3T
 intro O w vs hO hA
 refine h O w vs hO ?_
 simp only [FzL, Fz] at hA
 obtain ⟨y, ys, rfl, rfl, rfl⟩ := hA
 exact ⟨_, _, rfl, a3w, rfl⟩
set_option maxRecDepth 10000
set_option maxHeartbeats 4000000
theorem b1A (g gl : Nat) (hcal : callable Tryz.prog g = true) (f : Am -> List UInt8) (l : List (Am)) (hl : (l9 f l).length <= 140737488355328) (hn : l.length <= 1099511627776) (hg : ∀ x ∈ l, l6 Tryz.prog g [x.c, .ep [.v (.func (.func gl) #[] #[])]] (sb (f x))) :
  l6 Tryz.prog 69 [ams l, .clo g [.ep [.v (.func (.func gl) #[] #[])]]] (sb (l9 f l)) := by
 refine kS Tryz.func69 (by cbv) (by rfl) fun w O => ?_
 unfold l9 at hl ⊢
 rw [b7X] at hl
 have h1 := P6 l.length
 rw [K5 (by omega)] at h1
 simp only [j6, ams]
 simp only [sb, ints] at h1 hg ⊢
 generalize E9 l.length = d at *
 (repeat first | refine uA ?_ | (refine uK ?_ ?_; focus first | omega | (intros; simp_all <;> omega)) | simp (disch := omega) only [go_sem, Nat.reduceBEq, Nat.reduceAdd, ww, b7Z] | (refine uB h1 ?_ ?_; exact rfl))
 refine S.loop (X := Nat) (fun i => ⟨[(1, .clo g [.ep [.v (.func (.func gl) #[] #[])]]), (5, sb (d ++ (l.take i).flatMap f)), (11, ams l), (12, ints l.length), (13, ints i)], []⟩)
  (fun i => i <= l.length) (fun i => l.length - i) 0 (b8b _) (by simp only [List.take_zero, List.flatMap_nil, List.append_nil]; exact (by (repeat first | refine uA ?_ | (refine ⟨?_, ?_⟩; focus first | rfl | simp [slot]) | rfl | simp))) ?_
 intro i hi
 simp only [ams, sb, ints] at hi ⊢
 (repeat first | refine uA ?_ | (refine uK ?_ ?_; focus first | omega | (intros; simp_all <;> omega)) | simp (disch := omega) only [go_sem, Nat.reduceBEq, Nat.reduceAdd, ww])
 (refine uJ rfl (fun hc => ?_) fun hc => ?_)
 ·have hi' : i < l.length := by omega
  have hgi := b7W hi'
  have hfm := U5 f hi'
  have hle := a0b f hi'
  generalize l[i] = x at hgi hfm hle
  have hs := hg x (b8c hgi)
  (try simp only [Am.c, Am.enc, lks, sb, ints] at hs)
  (repeat first | refine uA ?_ | (refine uK ?_ ?_; focus first | omega | (intros; simp_all <;> omega)) | simp (disch := omega) only [go_sem, Nat.reduceBEq, Nat.reduceAdd, ww, hgi, b7Y, b7Z, Am.c, Am.enc, lks, sb, ints, b8m, hcal, l8, F7, b7X, b8l] | (refine uB hs ?_ ?_; exact rfl))
  refine S.next (i + 1) (by omega) (by omega) (by rw [hfm]; exact (by (repeat first | refine uA ?_ | (refine ⟨?_, ?_⟩; focus first | rfl | simp [slot]) | rfl | simp)))
 ·have hi' : i = l.length := by omega
  subst hi'
  rw [b8n]
  (repeat first | refine uA ?_ | (refine uK ?_ ?_; focus first | omega | (intros; simp_all <;> omega)) | simp (disch := omega) only [go_sem, Nat.reduceBEq, Nat.reduceAdd, ww])
  exact S.done (d9.out rfl (Imp.refl rfl) rfl)
theorem b1B (g : Nat) (hcal : callable Tryz.prog g = true) (f : Lk -> List UInt8) (l : List (Lk)) (hl : (l9 f l).length <= 140737488355328) (hn : l.length <= 1099511627776) (hg : ∀ x ∈ l, l6 Tryz.prog g [x.c] (sb (f x))) :
  l6 Tryz.prog 73 [lks l, .v (.func (.func g) #[] #[])] (sb (l9 f l)) := by
 refine kS Tryz.func73 (by cbv) (by rfl) fun w O => ?_
 unfold l9 at hl ⊢
 rw [b7X] at hl
 have h1 := P6 l.length
 rw [K5 (by omega)] at h1
 simp only [j6, lks]
 simp only [sb, ints] at h1 hg ⊢
 generalize E9 l.length = d at *
 (repeat first | refine uA ?_ | (refine uK ?_ ?_; focus first | omega | (intros; simp_all <;> omega)) | simp (disch := omega) only [go_sem, Nat.reduceBEq, Nat.reduceAdd, ww, b7Z] | (refine uB h1 ?_ ?_; exact rfl))
 refine S.loop (X := Nat) (fun i => ⟨[(1, .v (.func (.func g) #[] #[])), (5, sb (d ++ (l.take i).flatMap f)), (11, lks l), (12, ints l.length), (13, ints i)], []⟩)
  (fun i => i <= l.length) (fun i => l.length - i) 0 (b8b _) (by simp only [List.take_zero, List.flatMap_nil, List.append_nil]; exact (by (repeat first | refine uA ?_ | (refine ⟨?_, ?_⟩; focus first | rfl | simp [slot]) | rfl | simp))) ?_
 intro i hi
 simp only [lks, sb, ints] at hi ⊢
 (repeat first | refine uA ?_ | (refine uK ?_ ?_; focus first | omega | (intros; simp_all <;> omega)) | simp (disch := omega) only [go_sem, Nat.reduceBEq, Nat.reduceAdd, ww])
 (refine uJ rfl (fun hc => ?_) fun hc => ?_)
 ·have hi' : i < l.length := by omega
  have hgi := b7W hi'
  have hfm := U5 f hi'
  have hle := a0b f hi'
  generalize l[i] = x at hgi hfm hle
  have hs := hg x (b8c hgi)
  (try simp only [Lk.c, Lk.enc, vts, sb, ints] at hs)
  (repeat first | refine uA ?_ | (refine uK ?_ ?_; focus first | omega | (intros; simp_all <;> omega)) | simp (disch := omega) only [go_sem, Nat.reduceBEq, Nat.reduceAdd, ww, hgi, b7Y, b7Z, Lk.c, Lk.enc, vts, sb, ints, b8m, hcal, l8, F7, b7X, b8l] | (refine uB hs ?_ ?_; exact rfl))
  refine S.next (i + 1) (by omega) (by omega) (by rw [hfm]; exact (by (repeat first | refine uA ?_ | (refine ⟨?_, ?_⟩; focus first | rfl | simp [slot]) | rfl | simp)))
 ·have hi' : i = l.length := by omega
  subst hi'
  rw [b8n]
  (repeat first | refine uA ?_ | (refine uK ?_ ?_; focus first | omega | (intros; simp_all <;> omega)) | simp (disch := omega) only [go_sem, Nat.reduceBEq, Nat.reduceAdd, ww])
  exact S.done (d9.out rfl (Imp.refl rfl) rfl)
theorem a5i (g : Nat) (hcal : callable Tryz.prog g = true) (f : List Vt -> List UInt8) (l : List (List Vt)) (hl : (l9 f l).length <= 140737488355328) (hn : l.length <= 1099511627776) (hg : ∀ x ∈ l, l6 Tryz.prog g [vts x] (sb (f x))) :
  l6 Tryz.prog 74 [wls l, .v (.func (.func g) #[] #[])] (sb (l9 f l)) := by
 refine kS Tryz.func74 (by cbv) (by rfl) fun w O => ?_
 unfold l9 at hl ⊢
 rw [b7X] at hl
 have h1 := P6 l.length
 rw [K5 (by omega)] at h1
 simp only [j6, wls]
 simp only [sb, ints] at h1 hg ⊢
 generalize E9 l.length = d at *
 (repeat first | refine uA ?_ | (refine uK ?_ ?_; focus first | omega | (intros; simp_all <;> omega)) | simp (disch := omega) only [go_sem, Nat.reduceBEq, Nat.reduceAdd, ww, b7Z] | (refine uB h1 ?_ ?_; exact rfl))
 refine S.loop (X := Nat) (fun i => ⟨[(1, .v (.func (.func g) #[] #[])), (5, sb (d ++ (l.take i).flatMap f)), (11, wls l), (12, ints l.length), (13, ints i)], []⟩)
  (fun i => i <= l.length) (fun i => l.length - i) 0 (b8b _) (by simp only [List.take_zero, List.flatMap_nil, List.append_nil]; exact (by (repeat first | refine uA ?_ | (refine ⟨?_, ?_⟩; focus first | rfl | simp [slot]) | rfl | simp))) ?_
 intro i hi
 simp only [wls, sb, ints] at hi ⊢
 (repeat first | refine uA ?_ | (refine uK ?_ ?_; focus first | omega | (intros; simp_all <;> omega)) | simp (disch := omega) only [go_sem, Nat.reduceBEq, Nat.reduceAdd, ww])
 (refine uJ rfl (fun hc => ?_) fun hc => ?_)
 ·have hi' : i < l.length := by omega
  have hgi := b7W hi'
  have hfm := U5 f hi'
  have hle := a0b f hi'
  generalize l[i] = x at hgi hfm hle
  have hs := hg x (b8c hgi)
  (try simp only [vts, sb, ints] at hs)
  (repeat first | refine uA ?_ | (refine uK ?_ ?_; focus first | omega | (intros; simp_all <;> omega)) | simp (disch := omega) only [go_sem, Nat.reduceBEq, Nat.reduceAdd, ww, hgi, b7Y, b7Z, vts, sb, ints, b8m, hcal, l8, F7, b7X, b8l] | (refine uB hs ?_ ?_; exact rfl))
  refine S.next (i + 1) (by omega) (by omega) (by rw [hfm]; exact (by (repeat first | refine uA ?_ | (refine ⟨?_, ?_⟩; focus first | rfl | simp [slot]) | rfl | simp)))
 ·have hi' : i = l.length := by omega
  subst hi'
  rw [b8n]
  (repeat first | refine uA ?_ | (refine uK ?_ ?_; focus first | omega | (intros; simp_all <;> omega)) | simp (disch := omega) only [go_sem, Nat.reduceBEq, Nat.reduceAdd, ww])
  exact S.done (d9.out rfl (Imp.refl rfl) rfl)
theorem b1e (g : Nat) (hcal : callable Tryz.prog g = true) (f : Pt -> List UInt8) (l : List (Pt)) (hl : (l9 f l).length <= 140737488355328) (hn : l.length <= 1099511627776) (hg : ∀ x ∈ l, l6 Tryz.prog g [x.c] (sb (f x))) :
  l6 Tryz.prog 75 [pts l, .v (.func (.func g) #[] #[])] (sb (l9 f l)) := by
 refine kS Tryz.func75 (by cbv) (by rfl) fun w O => ?_
 unfold l9 at hl ⊢
 rw [b7X] at hl
 have h1 := P6 l.length
 rw [K5 (by omega)] at h1
 simp only [j6, pts]
 simp only [sb, ints] at h1 hg ⊢
 generalize E9 l.length = d at *
 (repeat first | refine uA ?_ | (refine uK ?_ ?_; focus first | omega | (intros; simp_all <;> omega)) | simp (disch := omega) only [go_sem, Nat.reduceBEq, Nat.reduceAdd, ww, b7Z] | (refine uB h1 ?_ ?_; exact rfl))
 refine S.loop (X := Nat) (fun i => ⟨[(1, .v (.func (.func g) #[] #[])), (5, sb (d ++ (l.take i).flatMap f)), (11, pts l), (12, ints l.length), (13, ints i)], []⟩)
  (fun i => i <= l.length) (fun i => l.length - i) 0 (b8b _) (by simp only [List.take_zero, List.flatMap_nil, List.append_nil]; exact (by (repeat first | refine uA ?_ | (refine ⟨?_, ?_⟩; focus first | rfl | simp [slot]) | rfl | simp))) ?_
 intro i hi
 simp only [pts, sb, ints] at hi ⊢
 (repeat first | refine uA ?_ | (refine uK ?_ ?_; focus first | omega | (intros; simp_all <;> omega)) | simp (disch := omega) only [go_sem, Nat.reduceBEq, Nat.reduceAdd, ww])
 (refine uJ rfl (fun hc => ?_) fun hc => ?_)
 ·have hi' : i < l.length := by omega
  have hgi := b7W hi'
  have hfm := U5 f hi'
  have hle := a0b f hi'
  generalize l[i] = x at hgi hfm hle
  have hs := hg x (b8c hgi)
  (try simp only [Pt.c, Pt.enc, vts, sb, ints] at hs)
  (repeat first | refine uA ?_ | (refine uK ?_ ?_; focus first | omega | (intros; simp_all <;> omega)) | simp (disch := omega) only [go_sem, Nat.reduceBEq, Nat.reduceAdd, ww, hgi, b7Y, b7Z, Pt.c, Pt.enc, vts, sb, ints, b8m, hcal, l8, F7, b7X, b8l] | (refine uB hs ?_ ?_; exact rfl))
  refine S.next (i + 1) (by omega) (by omega) (by rw [hfm]; exact (by (repeat first | refine uA ?_ | (refine ⟨?_, ?_⟩; focus first | rfl | simp [slot]) | rfl | simp)))
 ·have hi' : i = l.length := by omega
  subst hi'
  rw [b8n]
  (repeat first | refine uA ?_ | (refine uK ?_ ?_; focus first | omega | (intros; simp_all <;> omega)) | simp (disch := omega) only [go_sem, Nat.reduceBEq, Nat.reduceAdd, ww])
  exact S.done (d9.out rfl (Imp.refl rfl) rfl)
theorem b1H (g : Nat) (hcal : callable Tryz.prog g = true) (f : Sl -> List UInt8) (l : List (Sl)) (hl : (l9 f l).length <= 140737488355328) (hn : l.length <= 1099511627776) (hg : ∀ x ∈ l, l6 Tryz.prog g [x.c] (sb (f x))) :
  l6 Tryz.prog 77 [sls l, .v (.func (.func g) #[] #[])] (sb (l9 f l)) := by
 refine kS Tryz.func77 (by cbv) (by rfl) fun w O => ?_
 unfold l9 at hl ⊢
 rw [b7X] at hl
 have h1 := P6 l.length
 rw [K5 (by omega)] at h1
 simp only [j6, sls]
 simp only [sb, ints] at h1 hg ⊢
 generalize E9 l.length = d at *
 (repeat first | refine uA ?_ | (refine uK ?_ ?_; focus first | omega | (intros; simp_all <;> omega)) | simp (disch := omega) only [go_sem, Nat.reduceBEq, Nat.reduceAdd, ww, b7Z] | (refine uB h1 ?_ ?_; exact rfl))
 refine S.loop (X := Nat) (fun i => ⟨[(1, .v (.func (.func g) #[] #[])), (5, sb (d ++ (l.take i).flatMap f)), (11, sls l), (12, ints l.length), (13, ints i)], []⟩)
  (fun i => i <= l.length) (fun i => l.length - i) 0 (b8b _) (by simp only [List.take_zero, List.flatMap_nil, List.append_nil]; exact (by (repeat first | refine uA ?_ | (refine ⟨?_, ?_⟩; focus first | rfl | simp [slot]) | rfl | simp))) ?_
 intro i hi
 simp only [sls, sb, ints] at hi ⊢
 (repeat first | refine uA ?_ | (refine uK ?_ ?_; focus first | omega | (intros; simp_all <;> omega)) | simp (disch := omega) only [go_sem, Nat.reduceBEq, Nat.reduceAdd, ww])
 (refine uJ rfl (fun hc => ?_) fun hc => ?_)
 ·have hi' : i < l.length := by omega
  have hgi := b7W hi'
  have hfm := U5 f hi'
  have hle := a0b f hi'
  generalize l[i] = x at hgi hfm hle
  have hs := hg x (b8c hgi)
  (try simp only [Sl.c, Sl.enc, sb, ints] at hs)
  (repeat first | refine uA ?_ | (refine uK ?_ ?_; focus first | omega | (intros; simp_all <;> omega)) | simp (disch := omega) only [go_sem, Nat.reduceBEq, Nat.reduceAdd, ww, hgi, b7Y, b7Z, Sl.c, Sl.enc, sb, ints, b8m, hcal, l8, F7, b7X, b8l] | (refine uB hs ?_ ?_; exact rfl))
  refine S.next (i + 1) (by omega) (by omega) (by rw [hfm]; exact (by (repeat first | refine uA ?_ | (refine ⟨?_, ?_⟩; focus first | rfl | simp [slot]) | rfl | simp)))
 ·have hi' : i = l.length := by omega
  subst hi'
  rw [b8n]
  (repeat first | refine uA ?_ | (refine uK ?_ ?_; focus first | omega | (intros; simp_all <;> omega)) | simp (disch := omega) only [go_sem, Nat.reduceBEq, Nat.reduceAdd, ww])
  exact S.done (d9.out rfl (Imp.refl rfl) rfl)
theorem b1I (g : Nat) (hcal : callable Tryz.prog g = true) (f : Gt -> List UInt8) (l : List (Gt)) (hl : (l9 f l).length <= 140737488355328) (hn : l.length <= 1099511627776) (hg : ∀ x ∈ l, l6 Tryz.prog g [x.c] (sb (f x))) :
  l6 Tryz.prog 79 [gts l, .v (.func (.func g) #[] #[])] (sb (l9 f l)) := by
 refine kS Tryz.func79 (by cbv) (by rfl) fun w O => ?_
 unfold l9 at hl ⊢
 rw [b7X] at hl
 have h1 := P6 l.length
 rw [K5 (by omega)] at h1
 simp only [j6, gts]
 simp only [sb, ints] at h1 hg ⊢
 generalize E9 l.length = d at *
 (repeat first | refine uA ?_ | (refine uK ?_ ?_; focus first | omega | (intros; simp_all <;> omega)) | simp (disch := omega) only [go_sem, Nat.reduceBEq, Nat.reduceAdd, ww, b7Z] | (refine uB h1 ?_ ?_; exact rfl))
 refine S.loop (X := Nat) (fun i => ⟨[(1, .v (.func (.func g) #[] #[])), (5, sb (d ++ (l.take i).flatMap f)), (11, gts l), (12, ints l.length), (13, ints i)], []⟩)
  (fun i => i <= l.length) (fun i => l.length - i) 0 (b8b _) (by simp only [List.take_zero, List.flatMap_nil, List.append_nil]; exact (by (repeat first | refine uA ?_ | (refine ⟨?_, ?_⟩; focus first | rfl | simp [slot]) | rfl | simp))) ?_
 intro i hi
 simp only [gts, sb, ints] at hi ⊢
 (repeat first | refine uA ?_ | (refine uK ?_ ?_; focus first | omega | (intros; simp_all <;> omega)) | simp (disch := omega) only [go_sem, Nat.reduceBEq, Nat.reduceAdd, ww])
 (refine uJ rfl (fun hc => ?_) fun hc => ?_)
 ·have hi' : i < l.length := by omega
  have hgi := b7W hi'
  have hfm := U5 f hi'
  have hle := a0b f hi'
  generalize l[i] = x at hgi hfm hle
  have hs := hg x (b8c hgi)
  (try simp only [Gt.c, Gt.enc, sb, ints] at hs)
  (repeat first | refine uA ?_ | (refine uK ?_ ?_; focus first | omega | (intros; simp_all <;> omega)) | simp (disch := omega) only [go_sem, Nat.reduceBEq, Nat.reduceAdd, ww, hgi, b7Y, b7Z, Gt.c, Gt.enc, sb, ints, b8m, hcal, l8, F7, b7X, b8l] | (refine uB hs ?_ ?_; exact rfl))
  refine S.next (i + 1) (by omega) (by omega) (by rw [hfm]; exact (by (repeat first | refine uA ?_ | (refine ⟨?_, ?_⟩; focus first | rfl | simp [slot]) | rfl | simp)))
 ·have hi' : i = l.length := by omega
  subst hi'
  rw [b8n]
  (repeat first | refine uA ?_ | (refine uK ?_ ?_; focus first | omega | (intros; simp_all <;> omega)) | simp (disch := omega) only [go_sem, Nat.reduceBEq, Nat.reduceAdd, ww])
  exact S.done (d9.out rfl (Imp.refl rfl) rfl)
theorem a6R (g : Nat) : l6 Tryz.prog 83 [.v (.slice none 0 0), .v (.func (.func g) #[] #[])] (sb (E9 0)) := by
 refine kS Tryz.func83 (by cbv) (by rfl) fun w O => ?_
 have h1 := P6 0
 rw [show a2Y 0 = E9 0 from K5 (n := 0) (by decide)] at h1
 generalize E9 0 = d at *
 simp only [j6]
 simp only [sb, ints] at *
 (repeat first | refine uA ?_ | (refine uK ?_ ?_; focus first | omega | (intros; simp_all <;> omega)) | simp (disch := omega) only [go_sem, Nat.reduceBEq, Nat.reduceAdd, ww] | (refine uB h1 ?_ ?_; exact rfl))
 refine S.a4O fun J => ?_
 (repeat first | refine uA ?_ | (refine uK ?_ ?_; focus first | omega | (intros; simp_all <;> omega)) | simp (disch := omega) only [go_sem, Nat.reduceBEq, Nat.reduceAdd, ww])
 (refine uJ rfl (fun hc => ?_) fun hc => ?_)
 ·simp at hc
 ·(repeat first | refine uA ?_ | (refine uK ?_ ?_; focus first | omega | (intros; simp_all <;> omega)) | simp (disch := omega) only [go_sem, Nat.reduceBEq, Nat.reduceAdd, ww])
  exact S.done (d9.out rfl (Imp.refl rfl) rfl)
theorem a6Y (g : Nat) : l6 Tryz.prog 89 [.v (.slice none 0 0), .v (.func (.func g) #[] #[])] (sb (E9 0)) := by
 refine kS Tryz.func89 (by cbv) (by rfl) fun w O => ?_
 have h1 := P6 0
 rw [show a2Y 0 = E9 0 from K5 (n := 0) (by decide)] at h1
 generalize E9 0 = d at *
 simp only [j6]
 simp only [sb, ints] at *
 (repeat first | refine uA ?_ | (refine uK ?_ ?_; focus first | omega | (intros; simp_all <;> omega)) | simp (disch := omega) only [go_sem, Nat.reduceBEq, Nat.reduceAdd, ww] | (refine uB h1 ?_ ?_; exact rfl))
 refine S.a4O fun J => ?_
 (repeat first | refine uA ?_ | (refine uK ?_ ?_; focus first | omega | (intros; simp_all <;> omega)) | simp (disch := omega) only [go_sem, Nat.reduceBEq, Nat.reduceAdd, ww])
 (refine uJ rfl (fun hc => ?_) fun hc => ?_)
 ·simp at hc
 ·(repeat first | refine uA ?_ | (refine uK ?_ ?_; focus first | omega | (intros; simp_all <;> omega)) | simp (disch := omega) only [go_sem, Nat.reduceBEq, Nat.reduceAdd, ww])
  exact S.done (d9.out rfl (Imp.refl rfl) rfl)
theorem a6L (l : List Vt) (hl : (l9 K4 l).length <= 140737488355328) (hn : l.length <= 1099511627776) : l6 Tryz.prog 68 [vts l] (sb (l9 K4 l)) := by
 refine kS Tryz.func68 (by cbv) (by rfl) fun w O => ?_
 have h := a5u 81 (by kernel_rfl) K4 l hl hn (fun z hz => a2m z (N8 K4 hz hl))
 generalize l9 K4 l = r at *
 simp only [j6]
 simp only [vts, sb] at *
 (repeat first | refine uA ?_ | (refine uK ?_ ?_; focus first | omega | (intros; simp_all <;> omega)) | simp (disch := omega) only [go_sem, Nat.reduceBEq, Nat.reduceAdd, ww] | (refine uB h ?_ ?_; exact rfl))
 exact S.done (d9.out rfl (Imp.refl rfl) rfl)
theorem b5g (l : Lk) (hl : (lkB l).length <= 140737488355328) (hb : Lb 1048576 l) : l6 Tryz.prog 66 [l.c] (sb (lkB l)) := by
 refine kS Tryz.func66 (by cbv) (by rfl) fun w O => ?_
 have hn := hb.2.2.2.2.2.1
 unfold lkB at hl ⊢
 simp only [b7X] at hl
 have h1 := N9 l.length (by omega)
 have h2 := N9 l.low (by omega)
 have h3 := N9 l.high (by omega)
 have h4 := N9 l.speed (by omega)
 have h5 := N9 l.brake (by omega)
 have h6 := a6L l.shape (by omega) (by omega)
 generalize l9 K4 l.shape = r6 at *
 generalize H6 l.length = r1 at *
 generalize H6 l.low = r2 at *
 generalize H6 l.high = r3 at *
 generalize H6 l.speed = r4 at *
 generalize H6 l.brake = r5 at *
 simp only [j6]
 simp only [Lk.c, Lk.enc, rc, vts, sb] at *
 (repeat first | refine uA ?_ | (refine uK ?_ ?_; focus first | omega | (intros; simp_all <;> omega)) | simp (disch := omega) only [go_sem, Nat.reduceBEq, Nat.reduceAdd, ww, l8, F7, b7X, b8l] | (refine uB h1 ?_ ?_; exact rfl) | (refine uB h2 ?_ ?_; exact rfl) | (refine uB h3 ?_ ?_; exact rfl) | (refine uB h4 ?_ ?_; exact rfl) | (refine uB h5 ?_ ?_; exact rfl) | (refine uB h6 ?_ ?_; exact rfl))
 exact S.done (d9.out rfl (Imp.refl rfl) rfl)
theorem b5O (a : Am) (hl : (amB a).length <= 140737488355328) (hb : Ab 1048576 a) : l6 Tryz.prog 70 [a.c, .ep [.v (.func (.func 66) #[] #[])]] (sb (amB a)) := by
 refine kS Tryz.func70 (by cbv) (by rfl) fun w O => ?_
 obtain ⟨b1, b2, b3, b4⟩ := hb
 unfold amB at hl ⊢
 simp only [b7X] at hl
 have h1 := a2e a.name (by omega)
 have h2 := a2O a.base (by omega)
 have h3 := b1B 66 (by kernel_rfl) lkB a.links (by omega) (by omega) (fun z hz => b5g z (N8 lkB hz (by omega)) (b4 z hz))
 obtain ⟨name, base, links⟩ := a
 simp only at *
 generalize l9 lkB links = r3 at *
 generalize Z7 name = r1 at *
 generalize frB base = r2 at *
 simp only [j6]
 simp only [Am.c, Am.enc, Fr.c, Fr.enc, lks, rc, vts, sb] at *
 (repeat first | refine uA ?_ | (refine uK ?_ ?_; focus first | omega | (intros; simp_all <;> omega)) | simp (disch := omega) only [go_sem, Nat.reduceBEq, Nat.reduceAdd, ww, l8, F7, b7X, b8l] | (refine uB h1 ?_ ?_; exact rfl) | (refine uB h2 ?_ ?_; exact rfl) | (refine uB h3 ?_ ?_; exact rfl))
 exact S.done (d9.out rfl (Imp.refl rfl) rfl)
theorem b4B (p : Pt) (hl : (ptB p).length <= 140737488355328) (hb : Pb 1048576 p) : l6 Tryz.prog 76 [p.c] (sb (ptB p)) := by
 refine kS Tryz.func76 (by cbv) (by rfl) fun w O => ?_
 have hn := hb.2.1.1
 unfold ptB at hl ⊢
 simp only [b7X] at hl
 have h1 := a2e p.name (by omega)
 have h2 := a6L p.shape (by omega) (by omega)
 have h3 := a2O p.grasp (by omega)
 obtain ⟨name, shape, grasp⟩ := p
 simp only at *
 generalize l9 K4 shape = r2 at *
 generalize Z7 name = r1 at *
 generalize frB grasp = r3 at *
 simp only [j6]
 simp only [Pt.c, Pt.enc, Fr.c, Fr.enc, rc, vts, sb] at *
 (repeat first | refine uA ?_ | (refine uK ?_ ?_; focus first | omega | (intros; simp_all <;> omega)) | simp (disch := omega) only [go_sem, Nat.reduceBEq, Nat.reduceAdd, ww, l8, F7, b7X, b8l] | (refine uB h1 ?_ ?_; exact rfl) | (refine uB h2 ?_ ?_; exact rfl) | (refine uB h3 ?_ ?_; exact rfl))
 exact S.done (d9.out rfl (Imp.refl rfl) rfl)
theorem b3A (s : Sl) (hl : (slB s).length <= 140737488355328) : l6 Tryz.prog 78 [s.c] (sb (slB s)) := by
 refine kS Tryz.func78 (by cbv) (by rfl) fun w O => ?_
 unfold slB at hl ⊢
 simp only [b7X] at hl
 have h1 := a2e s.name (by omega)
 have h2 := a2O s.frame (by omega)
 have h3 := N9 s.within (by omega)
 obtain ⟨name, frame, within⟩ := s
 simp only at *
 generalize Z7 name = r1 at *
 generalize frB frame = r2 at *
 generalize H6 within = r3 at *
 simp only [j6]
 simp only [Sl.c, Sl.enc, Fr.c, Fr.enc, rc, sb] at *
 (repeat first | refine uA ?_ | (refine uK ?_ ?_; focus first | omega | (intros; simp_all <;> omega)) | simp (disch := omega) only [go_sem, Nat.reduceBEq, Nat.reduceAdd, ww, l8, F7, b7X, b8l] | (refine uB h1 ?_ ?_; exact rfl) | (refine uB h2 ?_ ?_; exact rfl) | (refine uB h3 ?_ ?_; exact rfl))
 exact S.done (d9.out rfl (Imp.refl rfl) rfl)
theorem b4d (g : Gt) (hl : (gtB g).length <= 140737488355328) : l6 Tryz.prog 80 [g.c] (sb (gtB g)) := by
 refine kS Tryz.func80 (by cbv) (by rfl) fun w O => ?_
 unfold gtB at hl ⊢
 simp only [b7X] at hl
 have h1 := a2e g.name (by omega)
 have h2 := a2m g.low (by omega)
 have h3 := a2m g.high (by omega)
 obtain ⟨name, low, high⟩ := g
 simp only at *
 generalize Z7 name = r1 at *
 generalize K4 low = r2 at *
 generalize K4 high = r3 at *
 simp only [j6]
 simp only [Gt.c, Gt.enc, Vt.c, Vt.enc, rc, sb] at *
 (repeat first | refine uA ?_ | (refine uK ?_ ?_; focus first | omega | (intros; simp_all <;> omega)) | simp (disch := omega) only [go_sem, Nat.reduceBEq, Nat.reduceAdd, ww, l8, F7, b7X, b8l] | (refine uB h1 ?_ ?_; exact rfl) | (refine uB h2 ?_ ?_; exact rfl) | (refine uB h3 ?_ ?_; exact rfl))
 exact S.done (d9.out rfl (Imp.refl rfl) rfl)
set_option maxRecDepth 100000
set_option maxHeartbeats 8000000
def b4o (h : Int) (c : UInt8) : Int := IntKind.u64.wrap (Go.bits .xor .u64 h (c.toNat : Int) * 1099511628211)
def a5L (b : List UInt8) : Int := b.foldl b4o 14695981039346656037
def a9l (b : List UInt8) : Int := Go.bits .xor .u64 (a5L b) (IntKind.u64.wrap ((a5L b).tdiv 536870912))
theorem b3a {b : List UInt8} {i : Nat} {c : UInt8} (h : b[i]? = some c) : a5L (b.take (i + 1)) = b4o (a5L (b.take i)) c := by
 obtain ⟨hi, rfl⟩ := b8e.1 h
 unfold a5L
 rw [b8L hi, List.foldl_append]
 rfl
theorem b2d (b : List UInt8) : a5L (b.take 0) = 14695981039346656037 := rfl
theorem b6g (b : List UInt8) (hl : b.length <= 140737488355328) : l6 Tryz.prog 91 [sb b] (.v (.int .u64 (a9l b))) := by
 refine kS Tryz.func91 (by cbv) (by rfl) fun w O => ?_
 simp only [j6, sb]
 (repeat first | refine uA ?_ | (refine uK ?_ ?_; focus first | omega | (intros; simp_all <;> omega)) | simp (disch := omega) only [go_sem, Nat.reduceBEq, Nat.reduceAdd, ww, l8])
 refine S.loop (X := Nat × Int) (fun x => ⟨[(0, sb b), (3, .v (.int .u64 x.2)), (6, ints b.length), (7, ints x.1)], []⟩) (fun x => x.1 <= b.length /\ x.2 = a5L (b.take x.1)) (fun x => b.length - x.1) (0, 14695981039346656037) ⟨b8b _, (b2d b).symm⟩ (by (repeat first | refine uA ?_ | (refine ⟨?_, ?_⟩; focus first | rfl | simp [slot]) | rfl | simp)) ?_
 rintro ⟨i, h⟩ ⟨hi, hh⟩
 simp only [sb, ints] at hi hh ⊢
 (repeat first | refine uA ?_ | (refine uK ?_ ?_; focus first | omega | (intros; simp_all <;> omega)) | simp (disch := omega) only [go_sem, Nat.reduceBEq, Nat.reduceAdd, ww])
 (refine uJ rfl (fun hc => ?_) fun hc => ?_)
 ·have hi' : i < b.length := by omega
  have hgi := b7W hi'
  have hn := b3a hgi
  rw [<- hh] at hn
  generalize b[i] = c at hgi hn
  unfold b4o at hn
  have hc8 := UInt8.toNat_lt c
  have w1 : IntKind.u64.wrap (c.toNat : Int) = (c.toNat : Int) := by rw [a9w]; omega
  have hgd : (bs b).data.toList.getD i 0 = c := by
   show b.getD i 0 = c
   rw [b8h, hgi]; rfl
  (repeat first | refine uA ?_ | (refine uK ?_ ?_; focus first | omega | (intros; simp_all <;> omega)) | simp (disch := omega) only [go_sem, Nat.reduceBEq, Nat.reduceAdd, ww, l8, hgd, b8m, w1])
  generalize IntKind.u64.wrap (Go.bits .xor .u64 h (c.toNat : Int) * 1099511628211) = h2 at *
  refine S.next (x := (i, h)) (i + 1, h2) ⟨by simp only; omega, by simp only; exact hn.symm⟩ (by simp only; omega) (by (repeat first | refine uA ?_ | (refine ⟨?_, ?_⟩; focus first | rfl | simp [slot]) | rfl | simp))
 ·have hi' : i = b.length := by omega
  subst hi'
  rw [b8n] at hh
  unfold a9l
  rw [<- hh]
  (repeat first | refine uA ?_ | (refine uK ?_ ?_; focus first | omega | (intros; simp_all <;> omega)) | simp (disch := omega) only [go_sem, Nat.reduceBEq, Nat.reduceAdd, ww])
  exact S.done (d9.out rfl (Imp.refl rfl) rfl)
def leB : Nat -> Int -> List UInt8
 | 0, _ => []
 | k + 1, n => UInt8.ofNat (n % 256).toNat :: leB k (n.fdiv 256)
theorem b6I (n : Int) : IntKind.u8.wrap n = ((UInt8.ofNat (n % 256).toNat).toNat : Int) := by
 rw [a8O, UInt8.toNat_ofNat']
 omega
def a2D : Stt := ⟨0, [], [], [], []⟩
def a1X (w : Wk) : List UInt8 := l9 amB w.arms ++ (l9 (l9 K4) w.walls ++ (l9 ptB w.parts ++ (l9 slB w.slots ++ (l9 gtB w.gates ++ (H6 w.walk ++ (a4h a2D ++ (E9 0 ++ (E9 0 ++ (E9 0 ++ E9 0)))))))))
def b1T (w : Wk) : List UInt8 := (71 :: 49 :: a1X w) ++ leB 8 (a9l (71 :: 49 :: a1X w))
theorem b4D : (E9 0).length = 1 /\ (a4h a2D).length = 5 /\ a2Y 0 = E9 0 := by
 have z0 : E9 0 = [0] := a4Y (by decide)
 have z1 : a2Y 0 = E9 0 := K5 (n := 0) (by decide)
 refine ⟨by rw [z0]; rfl, ?_, z1⟩
 simp [a4h, a2D, l9, z0, z1]
theorem b4p (w : Wk) (hb : Wb 1048576 w) (hl : (wkB w).length <= 1000000000) :
  l6 Tryz.prog 14 [.agg [ams w.arms, wls w.walls, pts w.parts, sls w.slots, gts w.gates, .v (.bool w.walk.neg), sb w.walk.num, sb w.walk.den, .v (.int .i64 0), .v (.slice none 0 0), .v (.slice none 0 0), .v (.slice none 0 0), .v (.slice none 0 0), .v (.slice none 0 0), .v (.slice none 0 0), .v (.slice none 0 0), .v (.int .i64 0)]] (sb (b1T w)) := by
 refine kS Tryz.func14 (by cbv) (by rfl) fun w' O => ?_
 obtain ⟨z1, z2, z3⟩ := b4D
 unfold wkB at hl
 simp only [b7X] at hl
 have h1 := b1A 70 66 (by kernel_rfl) amB w.arms (by omega) (b8a hb.arms.1 (by decide)) fun z hz => b5O z (N8 amB hz (by omega)) (hb.arms.2 z hz)
 have h2 := a5i 68 (by kernel_rfl) (l9 K4) w.walls (by omega) (b8a hb.walls.1 (by decide)) fun z hz => a6L z (N8 (l9 K4) hz (by omega)) (b8a (hb.walls.2 z hz).1 (by decide))
 have h3 := b1e 76 (by kernel_rfl) ptB w.parts (by omega) (b8a hb.parts.1 (by decide)) fun z hz => b4B z (N8 ptB hz (by omega)) (hb.parts.2 z hz)
 have h4 := b1H 78 (by kernel_rfl) slB w.slots (by omega) (b8a hb.slots.1 (by decide)) fun z hz => b3A z (N8 slB hz (by omega))
 have h5 := b1I 80 (by kernel_rfl) gtB w.gates (by omega) (b8a hb.gates.1 (by decide)) fun z hz => b4d z (N8 gtB hz (by omega))
 have h6 := N9 w.walk (by omega)
 have h7 := b3R a2D ⟨⟨b8b _, fun x hx => by cases hx⟩, b8b _, b8b _, b8b _⟩ (by omega)
 have h8 := a6R 84
 have h9 := a6Y 90
 have h10 := a5i 68 (by kernel_rfl) (l9 K4) [] (by simp only [l9, List.length_nil, List.flatMap_nil, List.append_nil]; omega) (b8b _) fun z hz => by cases hz
 rw [show l9 (l9 K4) [] = E9 0 by simp [l9]] at h10
 have h11 := P6 0
 rw [z3] at h11
 have hr : (a1X w).length <= 1000000100 := by unfold a1X; simp only [b7X]; omega
 have h12 := b6g (71 :: 49 :: a1X w) (by simp only [b8r]; omega)
 have hG : (⟨#[71, 49]⟩ : ByteArray) = bs [71, 49] := rfl
 have hrec : b1T w = (71 :: 49 :: a1X w) ++ leB 8 (a9l (71 :: 49 :: a1X w)) := rfl
 have hrb : a1X w = l9 amB w.arms ++ (l9 (l9 K4) w.walls ++ (l9 ptB w.parts ++ (l9 slB w.slots ++ (l9 gtB w.gates ++ (H6 w.walk ++ (a4h a2D ++ (E9 0 ++ (E9 0 ++ (E9 0 ++ E9 0))))))))) := rfl
 generalize b1T w = R at *
 generalize a1X w = T at *
 generalize l9 amB w.arms = r1 at *
 generalize l9 (l9 K4) w.walls = r2 at *
 generalize l9 ptB w.parts = r3 at *
 generalize l9 slB w.slots = r4 at *
 generalize l9 gtB w.gates = r5 at *
 generalize H6 w.walk = r6 at *
 generalize a4h a2D = r7 at *
 generalize E9 0 = r8 at *
 obtain ⟨arms, walls, parts, slots, gates, walk⟩ := w
 simp only at *
 simp only [j6]
 simp only [Stt.c, Stt.enc, a2D, a3a, frs, bls, ams, wls, pts, sls, gts, vts, rc, sb, ints, b8E] at h1 h2 h3 h4 h5 h6 h7 h8 h9 h10 h11 h12 ⊢
 rw [hrb] at h12
 (repeat first | refine uA ?_ | (refine uK ?_ ?_; focus first | omega | (intros; simp_all <;> omega)) | simp (disch := omega) only [go_sem, Nat.reduceBEq, Nat.reduceAdd, ww, hG, l8, F7, b7X, b8l, List.cons_append, List.nil_append, b8r] | (refine uB h2 ?_ ?_; exact rfl) | (refine uB h3 ?_ ?_; exact rfl) | (refine uB h4 ?_ ?_; exact rfl) | (refine uB h5 ?_ ?_; exact rfl) | (refine uB h6 ?_ ?_; exact rfl) | (refine uB h8 ?_ ?_; exact rfl) | (refine uB h9 ?_ ?_; exact rfl) | (refine uB h11 ?_ ?_; exact rfl) | (refine uB h12 ?_ ?_; exact rfl) | (refine uC h1 ?_ ?_ ?_; exact rfl; focus (repeat' first | exact l5.nil | exact Imp.refl rfl | exact Imp.O1 | exact Imp.fbx rfl rfl (l5.refl rfl) rfl rfl | refine Imp.clo ?_ | exact Imp.frz rfl rfl rfl | (refine Imp.J6 rfl rfl ?_ ?_; (focus ((try simp only [b7X, hG, l8, F7, b7X, b8l, List.cons_append, List.nil_append, b8r]); omega)); (focus first | rfl | assumption)) | refine Imp.agg ?_ | refine l5.cons ?_ ?_); done) | (refine uC h7 ?_ ?_ ?_; exact rfl; focus (repeat' first | exact l5.nil | exact Imp.refl rfl | exact Imp.O1 | exact Imp.fbx rfl rfl (l5.refl rfl) rfl rfl | refine Imp.clo ?_ | exact Imp.frz rfl rfl rfl | (refine Imp.J6 rfl rfl ?_ ?_; (focus ((try simp only [b7X, hG, l8, F7, b7X, b8l, List.cons_append, List.nil_append, b8r]); omega)); (focus first | rfl | assumption)) | refine Imp.agg ?_ | refine l5.cons ?_ ?_); done) | (refine uC h10 ?_ ?_ ?_; exact rfl; focus (repeat' first | exact l5.nil | exact Imp.refl rfl | exact Imp.O1 | exact Imp.fbx rfl rfl (l5.refl rfl) rfl rfl | refine Imp.clo ?_ | exact Imp.frz rfl rfl rfl | (refine Imp.J6 rfl rfl ?_ ?_; (focus ((try simp only [b7X, hG, l8, F7, b7X, b8l, List.cons_append, List.nil_append, b8r]); omega)); (focus first | rfl | assumption)) | refine Imp.agg ?_ | refine l5.cons ?_ ?_); done))
 rw [<- hrb]
 have hM : (71 :: 49 :: T : List UInt8).length <= 1000000102 := by simp only [b8r]; omega
 generalize (71 :: 49 :: T : List UInt8) = M at *
 generalize a9l M = N0 at *
 refine S.loop (X := Nat × Int × List UInt8) (fun x => ⟨[(4, sb x.2.2), (5, .v (.int .u64 x.2.1)), (67, ints x.1)], []⟩) (fun x => x.1 <= 8 /\ x.2.2.length = M.length + x.1 /\ x.2.2 ++ leB (8 - x.1) x.2.1 = R) (fun x => 8 - x.1) (0, N0, M) ⟨b8b 8, rfl, hrec.symm⟩ (by (repeat first | refine uA ?_ | (refine ⟨?_, ?_⟩; focus first | rfl | simp [slot]) | rfl | simp)) ?_
 rintro ⟨i, n, out⟩ ⟨hi, hlo, hR⟩
 simp only [sb, ints] at hi hlo hR ⊢
 (repeat first | refine uA ?_ | (refine uK ?_ ?_; focus first | omega | (intros; simp_all <;> omega)) | simp (disch := omega) only [go_sem, Nat.reduceBEq, Nat.reduceAdd, ww])
 (refine uJ rfl (fun hc => ?_) fun hc => ?_)
 ·have hi' : i < 8 := by omega
  rw [show 8 - i = (8 - (i + 1)) + 1 by omega, leB] at hR
  (repeat first | refine uA ?_ | (refine uK ?_ ?_; focus first | omega | (intros; simp_all <;> omega)) | simp (disch := omega) only [go_sem, Nat.reduceBEq, Nat.reduceAdd, ww, a8n, a0C, l8, F7, b6I, b8r, List.length_nil])
  refine S.next (x := (i, n, out)) (i + 1, n.fdiv 256, out ++ [UInt8.ofNat (n % 256).toNat]) ⟨by simp only; omega, by simp only [b7X, b8r, List.length_nil]; omega, by simp only; rw [b8l]; exact hR⟩ (by simp only; omega) (by (repeat first | refine uA ?_ | (refine ⟨?_, ?_⟩; focus first | rfl | simp [slot]) | rfl | simp))
 ·have hi' : i = 8 := by omega
  subst hi'
  rw [Nat.sub_self, leB, List.append_nil] at hR
  subst hR
  (repeat first | refine uA ?_ | (refine uK ?_ ?_; focus first | omega | (intros; simp_all <;> omega)) | simp (disch := omega) only [go_sem, Nat.reduceBEq, Nat.reduceAdd, ww])
  exact S.done (d9.out rfl (Imp.refl rfl) rfl)
set_option maxRecDepth 10000
set_option maxHeartbeats 4000000
def azL : List UInt8 := [97, 98, 99, 100, 101, 102, 103, 104, 105, 106, 107, 108, 109, 110, 111, 112, 113, 114, 115, 116, 117, 118, 119, 120, 121, 122]
theorem b6s : ∀ n : Fin 256, azL.contains (UInt8.ofNat n) = G6 (UInt8.ofNat n) := by decide +kernel
theorem b3c (b : UInt8) : azL.contains b = G6 b := by
 have h := b6s ⟨b.toNat, b.toNat_lt⟩
 simpa using h
theorem b2t {p : UInt8 -> Bool} {x : UInt8} : ∀ {l : List UInt8}, x ∈ l.takeWhile p -> p x = true
 | [], h => by simp at h
 | y :: l, h => by
  rw [List.takeWhile_cons] at h
  split at h
  ·rcases List.mem_cons.1 h with rfl | h
   ·assumption
   ·exact b2t h
  ·cases h
theorem a8r {p : UInt8 -> Bool} : ∀ {l : List UInt8}, l.dropWhile p = [] <-> l.all p = true
 | [] => by simp
 | x :: l => by
  rw [List.dropWhile_cons, List.all_cons]
  cases h : p x
  ·simp
  ·simpa using a8r (p := p) (l := l)
theorem b4G (l : List UInt8) : Lib.trimS l azL = [] <-> l.all G6 = true := by
 have hf : (fun b => azL.contains b) = G6 := funext b3c
 unfold Lib.trimS Lib.trimLeftS Lib.trimRightS
 rw [hf, a8r]
 constructor
 ·intro h
  rw [List.all_eq_true] at h ⊢
  intro x hx
  cases hl : G6 x with
  | true => rfl
  | false =>
   have : x ∈ (l.reverse.dropWhile G6).reverse := by
    rw [List.mem_reverse]
    have hx' : x ∈ l.reverse := List.mem_reverse.2 hx
    rw [<- List.takeWhile_append_dropWhile (p := G6) (l := l.reverse)] at hx'
    rcases List.mem_append.1 hx' with h1 | h1
    ·have := b2t h1
     rw [hl] at this; cases this
    ·exact h1
   have := h x this
   rw [hl] at this; cases this
 ·intro h
  rw [List.all_eq_true] at h ⊢
  intro x hx
  exact h x (List.mem_reverse.1 ((List.dropWhile_sublist _).mem (List.mem_reverse.1 hx)))
theorem b5h (s : List UInt8) (hs : s.length <= 1099511627776) : l6 Tryz.prog 43 [sb s, .v (.string ⟨#[97, 98, 99, 100, 101, 102, 103, 104, 105, 106, 107, 108, 109, 110, 111, 112, 113, 114, 115, 116, 117, 118, 119, 120, 121, 122]⟩)] (sb (Lib.trimS s azL)) := by
 intro O w vs hO hA
 simp only [FzL, sb, Fz] at hA
 obtain ⟨y, ys, rfl, rfl, z, zs, rfl, rfl, rfl⟩ := hA
 refine (Any.strings_Trim_laid Tryz.b6a (by kernel_rfl) (bs s) ⟨#[97, 98, 99, 100, 101, 102, 103, 104, 105, 106, 107, 108, 109, 110, 111, 112, 113, 114, 115, 116, 117, 118, 119, 120, 121, 122]⟩ w (by rw [l8]; omega) (by decide) (ascii_of_all (by decide))).mono ?_
 rintro e w' ⟨rfl, hb⟩
 exact ⟨_, rfl, hb, by simp only [sb, Fz, K9]; rfl⟩
theorem b0u (s : List UInt8) (hs : s.length <= 1099511627776) : l6 Tryz.prog 8 [sb s] (.v (.bool (Q7 s))) := by
 refine kS Tryz.func8 (by cbv) (by rfl) fun w O => ?_
 have h := b5h s hs
 have e : Q7 s = ((!decide (s = []) && decide ((s.length : Int) <= 12)) && decide (Lib.trimS s azL = [])) := by
  have h1 : decide (Lib.trimS s azL = []) = s.all G6 := by
   have := b4G s
   cases h : s.all G6
   ·exact decide_eq_false (fun h2 => by rw [this.1 h2] at h; cases h)
   ·exact decide_eq_true (this.2 h)
  have h2 : (s.all fun b => decide (97 <= b.toNat) && decide (b.toNat <= 122)) = s.all G6 := rfl
  have h3 : decide (1 <= s.length) = !decide (s = []) := by cases s <;> simp
  have h4 : decide (s.length <= 12) = decide ((s.length : Int) <= 12) := by apply decide_eq_decide.2; omega
  unfold Q7
  rw [h1, h2, h3, h4]
  cases s.all G6 <;> cases (decide (s = [])) <;> cases (decide ((s.length : Int) <= 12)) <;> rfl
 rw [e]
 generalize Lib.trimS s azL = t at *
 simp only [j6]
 simp only [sb] at *
 (repeat first | refine uA ?_ | (refine uK ?_ ?_; focus first | omega | (intros; simp_all <;> omega)) | simp (disch := omega) only [go_sem, Nat.reduceBEq, Nat.reduceAdd, ww, l8, Y3, decide_not] | (refine uB h ?_ ?_; exact rfl))
 exact S.done (d9.out rfl (Imp.refl rfl) rfl)
theorem a9i {α : Type} {f : α -> Bool} {l : List α} {i : Nat} {x : α} (h : l[i]? = some x) : (l.drop i).all f = (f x && (l.drop (i + 1)).all f) := by
 obtain ⟨h1, h2⟩ := b8e.1 h
 rw [List.drop_eq_getElem_cons h1, List.all_cons, h2]
theorem b0L {α : Type} {f : α -> Bool} {l : List α} {i : Nat} (h : l.length <= i) : (l.drop i).all f = true := by rw [List.drop_eq_nil_of_le h]; rfl
theorem Q9 {a : Nm.Rt} : j4 a = (decide a.D8 && j4 a) := by
 unfold j4
 cases decide a.D8 <;> simp
theorem a2r (l : List Nm.Rt) (hl : Rbs 17179869184 l) : FZ 47 [rts l] (.v (.bool (l.all j4))) := by
 refine kW Tryz.func47 (by cbv) (by rfl) fun w O hw => ?_
 obtain ⟨hn, hb⟩ := hl
 simp only [j6, rts]
 (repeat first | refine uA ?_ | (refine uK ?_ ?_; focus first | omega | (intros; simp_all <;> omega)) | simp (disch := omega) only [go_sem, Nat.reduceBEq, Nat.reduceAdd, ww, b7Z])
 refine S.loop (X := Nat) (fun i => ⟨[(5, rts l), (6, ints l.length), (7, ints i)], []⟩) (fun i => i <= l.length /\ l.all j4 = (l.drop i).all j4) (fun i => l.length - i) 0 ⟨b8b _, rfl⟩ (by (repeat first | refine uA ?_ | (refine ⟨?_, ?_⟩; focus first | rfl | simp [slot]) | rfl | simp)) ?_
 rintro i ⟨hi, hg⟩
 simp only [rts, ints] at hi ⊢
 (repeat first | refine uA ?_ | (refine uK ?_ ?_; focus first | omega | (intros; simp_all <;> omega)) | simp (disch := omega) only [go_sem, Nat.reduceBEq, Nat.reduceAdd, ww])
 (refine uJ rfl (fun hc => ?_) fun hc => ?_)
 ·have hgi := b7W (show i < l.length by omega)
  generalize l[i]'(_) = x at hgi
  have hx := hb x (b8c hgi)
  have hs := a9i (f := j4) hgi
  have o1 := a1K x (hx.mono (by decide))
  have o2 := a1u x hx
  rw [Q9] at hs
  generalize decide x.D8 = q1 at *
  generalize j4 x = q2 at *
  simp only [rc, sb] at o1 o2
  (repeat first | refine uA ?_ | (refine uK ?_ ?_; focus first | omega | (intros; simp_all <;> omega)) | simp (disch := omega) only [go_sem, Nat.reduceBEq, Nat.reduceAdd, ww, hgi, b7Y, b7Z, rcs, sb, b8m] | (refine uD o1 ?_ ?_ ?_; exact tz hw; exact rfl) | (refine uD o2 ?_ ?_ ?_; exact tz hw; exact rfl))
  refine S.cond rfl (fun hc2 => ?_) (fun hc2 => ?_)
  ·rw [hg, hs, show (q1 && q2) = false by cases q1 <;> cases q2 <;> simp_all, Bool.false_and]
   (repeat first | refine uA ?_ | (refine uK ?_ ?_; focus first | omega | (intros; simp_all <;> omega)) | simp (disch := omega) only [go_sem, Nat.reduceBEq, Nat.reduceAdd, ww])
   exact S.done (d9.out rfl (Imp.refl rfl) rfl)
  ·(repeat first | refine uA ?_ | (refine uK ?_ ?_; focus first | omega | (intros; simp_all <;> omega)) | simp (disch := omega) only [go_sem, Nat.reduceBEq, Nat.reduceAdd, ww])
   refine S.next (i + 1) ⟨by omega, by rw [hg, hs, show (q1 && q2) = true by cases q1 <;> cases q2 <;> simp_all, Bool.true_and]⟩ (by omega) (by (repeat first | refine uA ?_ | (refine ⟨?_, ?_⟩; focus first | rfl | simp [slot]) | rfl | simp))
 ·rw [hg, b0L (by omega)]
  (repeat first | refine uA ?_ | (refine uK ?_ ?_; focus first | omega | (intros; simp_all <;> omega)) | simp (disch := omega) only [go_sem, Nat.reduceBEq, Nat.reduceAdd, ww])
  exact S.done (d9.out rfl (Imp.refl rfl) rfl)
theorem okF_eq (f : Fr) : okF f = ([f.x, f.y, f.t].all j4 && !a3G f.half f.t) := by
 rw [a7w, Q9 (a := f.x), Q9 (a := f.y), Q9 (a := f.t)]
 unfold okF okV
 simp only
 generalize a3G f.half f.t = z
 cases decide f.x.D8 <;> cases decide f.y.D8 <;> cases decide f.t.D8 <;> cases j4 f.x <;> cases j4 f.y <;> cases j4 f.t <;> cases z <;> rfl
theorem a8o (v : Vt) : okV v = [v.x, v.y].all j4 := by
 rw [a6E, Q9 (a := v.x), Q9 (a := v.y)]
 unfold okV
 cases decide v.x.D8 <;> cases decide v.y.D8 <;> cases j4 v.x <;> cases j4 v.y <;> rfl
theorem a5z (f : Fr) (hf : Fb 17179869184 f) : FZ 10 [f.c] (.v (.bool (okF f))) := by
 refine kW Tryz.func10 (by cbv) (by rfl) fun w O hw => ?_
 rw [okF_eq]
 obtain ⟨x, y, half, t⟩ := f
 obtain ⟨b1, b2, b3⟩ := hf
 simp only at b1 b2 b3
 have h1 := a2r _ (Rbs.three (by decide) b1 b2 b3)
 have h4 := R4 t b3
 unfold a3G
 simp only
 generalize [x, y, t].all j4 = q1 at *
 generalize D6 (Nm.j5 t) = n at *
 simp only [j6]
 simp only [Fr.c, Fr.enc, rts, rcs, rc, sb, ints, b8y, b8E] at *
 (repeat first | refine uA ?_ | (refine uK ?_ ?_; focus first | omega | (intros; simp_all <;> omega)) | simp (disch := omega) only [go_sem, Nat.reduceBEq, Nat.reduceAdd, ww] | (refine uD h4 ?_ ?_ ?_; exact tz hw; exact rfl) | (refine uE h1 ?_ ?_ ?_ ?_; exact tz hw; exact rfl; focus (repeat' first | exact l5.nil | exact Imp.refl rfl | exact Imp.frz rfl rfl rfl | (refine Imp.J6 rfl rfl ?_ ?_; (focus ((try simp only [b7X]); omega)); (focus first | rfl | assumption)) | refine l5.cons ?_ ?_); done))
 exact S.done (d9.out rfl (Imp.refl (by rfl)) rfl)
theorem a8X (l : List Vt) (hl : Vbs 1073741824 l) : FZ 62 [vts l] (ints (I9 l)) := by
 refine kW Tryz.func62 (by cbv) (by rfl) fun w O hw => ?_
 have h1 := a2X l hl
 obtain ⟨hn, hb⟩ := hl
 unfold I9
 generalize P7 l 8 = e at *
 simp only [j6]
 simp only [vts, ints] at *
 (repeat first | refine uA ?_ | (refine uK ?_ ?_; focus first | omega | (intros; simp_all <;> omega)) | simp (disch := omega) only [go_sem, Nat.reduceBEq, Nat.reduceAdd, ww] | (refine uD h1 ?_ ?_ ?_; exact tz hw; exact rfl))
 refine S.cond rfl (fun hc => ?_) (fun hc => ?_)
 ·rw [if_pos (by simpa using hc)]
  (repeat first | refine uA ?_ | (refine uK ?_ ?_; focus first | omega | (intros; simp_all <;> omega)) | simp (disch := omega) only [go_sem, Nat.reduceBEq, Nat.reduceAdd, ww])
  exact S.done (d9.out rfl (Imp.refl rfl) rfl)
 rw [if_neg (by simpa using hc)]
 (repeat first | refine uA ?_ | (refine uK ?_ ?_; focus first | omega | (intros; simp_all <;> omega)) | simp (disch := omega) only [go_sem, Nat.reduceBEq, Nat.reduceAdd, ww, b7Z])
 refine S.loop (X := Nat) (fun i => ⟨[(11, vts l), (12, ints l.length), (13, ints i)], []⟩) (fun i => i <= l.length /\ l.all okV = (l.drop i).all okV) (fun i => l.length - i) 0 ⟨b8b _, rfl⟩ (by (repeat first | refine uA ?_ | (refine ⟨?_, ?_⟩; focus first | rfl | simp [slot]) | rfl | simp)) ?_
 rintro i ⟨hi, hg⟩
 simp only [vts, ints] at hi ⊢
 (repeat first | refine uA ?_ | (refine uK ?_ ?_; focus first | omega | (intros; simp_all <;> omega)) | simp (disch := omega) only [go_sem, Nat.reduceBEq, Nat.reduceAdd, ww])
 (refine uJ rfl (fun hc => ?_) fun hc => ?_)
 ·have hgi := b7W (show i < l.length by omega)
  generalize l[i]'(_) = v at hgi
  have hv := hb v (b8c hgi)
  have hs := a9i (f := okV) hgi
  rw [a8o] at hs
  have o1 := a2r _ (Rbs.two (by decide) (hv.1.mono (m := 17179869184) (by decide)) (hv.2.mono (m := 17179869184) (by decide)))
  generalize [v.x, v.y].all j4 = q at *
  simp only [rts, rcs, sb, b8y, b8E] at o1
  (repeat first | refine uA ?_ | (refine uK ?_ ?_; focus first | omega | (intros; simp_all <;> omega)) | simp (disch := omega) only [go_sem, Nat.reduceBEq, Nat.reduceAdd, ww, hgi, b7Y, b7Z, Vt.enc, sb, b8m] | (refine uE o1 ?_ ?_ ?_ ?_; exact tz hw; exact rfl; focus (repeat' first | exact l5.nil | exact Imp.refl rfl | exact Imp.frz rfl rfl rfl | (refine Imp.J6 rfl rfl ?_ ?_; (focus ((try simp only [b7X, hgi, b7Y, b7Z, Vt.enc, sb, b8m]); omega)); (focus first | rfl | assumption)) | refine l5.cons ?_ ?_); done))
  refine S.cond rfl (fun hc2 => ?_) (fun hc2 => ?_)
  ·rw [hg, hs, show q = false by simpa using hc2, Bool.false_and, if_neg (by decide)]
   (repeat first | refine uA ?_ | (refine uK ?_ ?_; focus first | omega | (intros; simp_all <;> omega)) | simp (disch := omega) only [go_sem, Nat.reduceBEq, Nat.reduceAdd, ww])
   exact S.done (d9.out rfl (Imp.refl rfl) rfl)
  ·(repeat first | refine uA ?_ | (refine uK ?_ ?_; focus first | omega | (intros; simp_all <;> omega)) | simp (disch := omega) only [go_sem, Nat.reduceBEq, Nat.reduceAdd, ww])
   refine S.next (i + 1) ⟨by omega, by rw [hg, hs, show q = true by simpa using hc2, Bool.true_and]⟩ (by omega) (by (repeat first | refine uA ?_ | (refine ⟨?_, ?_⟩; focus first | rfl | simp [slot]) | rfl | simp))
 ·rw [hg, b0L (by omega), if_pos rfl]
  (repeat first | refine uA ?_ | (refine uK ?_ ?_; focus first | omega | (intros; simp_all <;> omega)) | simp (disch := omega) only [go_sem, Nat.reduceBEq, Nat.reduceAdd, ww])
  exact S.done (d9.out rfl (Imp.refl rfl) rfl)
end Go.Proofs.YtpjjiegfigpgnaaGreatDoor
namespace Go.Proofs.YtpjjiegfigpgnaaGreatDoor.Eng
open Go Go.RowKit
theorem l7.b1S {E : Ctx} {rs rs' : List Res} {pk : List Nat} (ex : List Res) {f : Nat} {args : List C} {s : C} (h : l7 E rs f args s rs' pk) (hl : rs'.length = rs.length) (hb : rs.all (Res.bdr rs.length) = true) (ha : C.bdL rs.length args = true) : l7 E (rs ++ ex) f args s (rs' ++ ex.map (Res.u6 pk)) pk := by
 intro av ν w vs hR hav hF hD
 have hlen := hR.len
 have hl1 : (ν.take rs.length).length = rs.length := by rw [b8i, hlen, b7X]; omega
 generalize hν1 : ν.take rs.length = ν1 at hl1
 have hown := fun b => a1O hlen b
 rw [hν1] at hown
 have hx : ∀ b k r x, ex[k]? = some r -> ν[rs.length + k]? = some x -> fp r x b -> ¬ owned rs ν1 b := by
  rintro b k r x h1 h2 h3 ⟨l, q, y, g1, g2, g3⟩
  have hlt := (b8e.1 g1).1
  rw [<- hν1] at g2
  exact hR.dis l (rs.length + k) q r y x b (by omega) (by rw [b8d hlt]; exact g1) (by rw [b8k (by omega), show rs.length + k - rs.length = k by omega]; exact h1) (P9 g2) h2 g3 h3
 let av' : Nat -> Prop := fun b => OO av (rs ++ ex) ν b /\ ¬ owned rs ν1 b
 have hOO : ∀ b, OO av' rs ν1 b -> OO av (rs ++ ex) ν b := fun b hb => by
  rcases hb with hb | hb
  ·exact hb.1
  ·exact .inr ((hown b).2 (.inl hb))
 have hRG : RG av' E.own0 E.w0.heap.size ν1 rs w := by
  refine ⟨hl1, fun k r hk => ?_, fun l m q q' y y' b hne h1 h2 h3 h4 => ?_, fun b hb => ?_, fun b hb => ?_, hR.n0⟩
  ·have hlt := (b8e.1 hk).1
   obtain ⟨x, hx, hok⟩ := hR.res k r (by rw [b8d hlt]; exact hk)
   refine ⟨x, by rw [<- hν1]; exact G9 hlt hx, ?_⟩
   rw [<- hν1]
   rw [List.all_eq_true] at hb
   exact b2H (hb r (b8c hk)) (by rw [hν1]; exact hOO) hok
  ·have g1 := (b8e.1 h1).1
   have g2 := (b8e.1 h2).1
   rw [<- hν1] at h3 h4
   exact hR.dis l m q q' y y' b hne (by rw [b8d g1]; exact h1) (by rw [b8d g2]; exact h2) (P9 h3) (P9 h4)
  ·obtain ⟨g1, g2, g3⟩ := hR.low b ((hown b).2 (.inl hb))
   exact ⟨g1, fun h => h.2 hb, g3⟩
  ·rcases hb.1 with h1 | h1
   ·exact hR.av b h1
   ·exact (hR.low b h1).1
 have hnav : ∀ b, av b -> ¬ owned rs ν1 b := fun b hb ho => (hR.low b ((hown b).2 (.inl ho))).2.1 hb
 have hD' : j3 ν1 w (OO av' rs ν1) args vs := by
  have := j3.keep (Keeps.sub hOO) (j3.takeν rs.length ha hD)
  rwa [hν1] at this
 refine (h av' ν1 w vs hRG (fun b hb => ⟨.inl (hav b hb), hnav b (hav b hb)⟩) hF hD').mono ?_
 rintro e w' ⟨y, ν', rfl, h1, h2, h3⟩
 have hl' : ν'.length = rs.length := by rw [h1.len, hl]
 let ν2 : List Value := ν' ++ ν.drop rs.length
 have hdl : (ν.drop rs.length).length = ex.length := by rw [b8I, hlen, b7X]; omega
 have hlen' : ν2.length = (rs' ++ ex.map (Res.u6 pk)).length := by rw [b7X, b7X, hl', hdl, hl, b7Z]
 have tk : ν2.take rs'.length = ν' := by rw [hl, <- hl']; simp [ν2]
 have tl : ∀ k, ν2[rs.length + k]? = ν[rs.length + k]? := fun k => by
  show (ν' ++ ν.drop rs.length)[rs.length + k]? = _
  rw [b8k (by omega), hl', show rs.length + k - rs.length = k by omega, b8H]
 have hown' := fun b => a1O hlen' b
 rw [tk, hl] at hown'
 have hnu : O8 [] ν' ν2 := fun k x _ hx => by show (ν' ++ _)[k]? = _; rw [b8d (b8e.1 hx).1]; exact hx
 have hnu2 : O8 pk ν ν2 := fun k x hk hx => by
  rcases b8s k rs.length with h0 | h0
  ·show (ν' ++ _)[k]? = _
   rw [b8d (by omega)]
   exact h2.nu k x hk (by rw [<- hν1]; exact G9 h0 hx)
  ·have := tl (k - rs.length)
   rw [show rs.length + (k - rs.length) = k by omega] at this
   rw [this]; exact hx
 have hxo : ∀ b k r x, ex[k]? = some r -> ν[rs.length + k]? = some x -> fp r x b -> owned (rs ++ ex) ν b := fun b k r x g1 g2 g3 => (hown b).2 (.inr ⟨k, r, x, g1, g2, g3⟩)
 have hex : ∀ b, (∃ k r x, (ex.map (Res.u6 pk))[k]? = some r /\ ν2[rs.length + k]? = some x /\ fp r x b) -> ∃ k r x, ex[k]? = some r /\ ν[rs.length + k]? = some x /\ fp r x b := by
  rintro b ⟨k, r, x, g1, g2, g3⟩
  rw [b8K] at g1
  cases hk : ex[k]? with
  | none => rw [hk] at g1; cases g1
  | some r0 =>
   rw [hk] at g1
   simp only [b7Y, Option.some.injEq] at g1
   subst g1
   rw [Z5] at g3
   exact ⟨k, r0, x, hk, by rw [<- tl]; exact g2, g3⟩
 have hOO' : ∀ b, OO av (rs' ++ ex.map (Res.u6 pk)) ν2 b -> OO av' rs' ν' b := fun b hb => by
  rcases hb with hb | hb
  ·exact .inl ⟨.inl hb, hnav b hb⟩
  ·rcases (hown' b).1 hb with hb | hb
   ·exact .inr hb
   ·obtain ⟨k, r, x, g1, g2, g3⟩ := hex b hb
    exact .inl ⟨.inr (hxo b k r x g1 g2 g3), hx b k r x g1 g2 g3⟩
 have hM : Mv (rs ++ ex) ν w pk (rs' ++ ex.map (Res.u6 pk)) ν2 w' := by
  refine ⟨h2.os, h2.tape, h2.output, h2.size, fun b hb hn => h2.block b hb fun ho => hn ((hown b).2 (.inl ho)), fun b hb => ?_, hnu2⟩
  rcases (hown' b).1 hb with hb | hb
  ·rcases h2.own b hb with g | g
   ·exact .inl ((hown b).2 (.inl g))
   ·exact .inr g
  ·obtain ⟨k, r, x, g1, g2, g3⟩ := hex b hb
   exact .inl (hxo b k r x g1 g2 g3)
 have old : ∀ {l q z}, l < rs'.length -> (rs' ++ ex.map (Res.u6 pk))[l]? = some q -> ν2[l]? = some z -> rs'[l]? = some q /\ ν'[l]? = some z := fun hlt a1 a2 => by
  rw [b8d hlt] at a1
  exact ⟨a1, by rw [<- tk]; exact G9 hlt a2⟩
 have new : ∀ {l q z b}, rs'.length <= l -> (rs' ++ ex.map (Res.u6 pk))[l]? = some q -> ν2[l]? = some z -> fp q z b -> ∃ q0, ex[l - rs'.length]? = some q0 /\ ν[rs.length + (l - rs'.length)]? = some z /\ fp q0 z b := fun {l q z b} hge a1 a2 a3 => by
  rw [b8k hge, b8K] at a1
  cases hk : ex[l - rs'.length]? with
  | none => rw [hk] at a1; cases a1
  | some q0 =>
   rw [hk] at a1
   simp only [b7Y, Option.some.injEq] at a1
   subst a1
   rw [Z5] at a3
   refine ⟨q0, rfl, ?_, a3⟩
   rw [<- tl, show rs.length + (l - rs'.length) = l by omega]; exact a2
 refine ⟨y, ν2, rfl, ⟨hlen', fun k r hk => ?_, fun l m q q' z z' b hne g1 g2 g3 g4 g5 g6 => ?_, fun b hb => ?_, fun b hb => b8p (hR.av b hb) h2.size, b8a hR.n0 h2.size⟩, hM, Den.keep (Keeps.sub hOO') (Den.nu hnu (fun k hk => by cases hk) h3)⟩
 ·rcases b8s k rs'.length with hlt | hge
  ·rw [b8d hlt] at hk
   obtain ⟨x, hx', hok⟩ := h1.res k r hk
   exact ⟨x, hnu k x (fun hk => by cases hk) hx', b4P hnu hOO' hok⟩
  ·rw [b8k hge, b8K] at hk
   cases hk0 : ex[k - rs'.length]? with
   | none => rw [hk0] at hk; cases hk
   | some r0 =>
    rw [hk0] at hk
    simp only [b7Y, Option.some.injEq] at hk
    subst hk
    have hk' : (rs ++ ex)[k]? = some r0 := by rw [b8k (by omega), <- hl]; exact hk0
    obtain ⟨x, hx', hok⟩ := hR.res k r0 hk'
    have hx2 : ν[rs.length + (k - rs'.length)]? = some x := by rw [show rs.length + (k - rs'.length) = k by omega]; exact hx'
    refine ⟨x, by have := tl (k - rs'.length); rw [show rs.length + (k - rs'.length) = k by omega] at this; rw [this]; exact hx', ?_⟩
    exact hok.mv (O' := OO av (rs' ++ ex.map (Res.u6 pk)) ν2) (hM.keeps (av := av)) hM.nu (fun b hf => h2.block b (hR.lt hk' hx' hf) (hx b (k - rs'.length) r0 x hk0 hx2 hf))
 ·rcases b8s l rs'.length with hl2 | hl2 <;> rcases b8s m rs'.length with hm2 | hm2
  ·obtain ⟨a1, a2⟩ := old hl2 g1 g3
   obtain ⟨a3, a4⟩ := old hm2 g2 g4
   exact h1.dis l m q q' z z' b hne a1 a3 a2 a4 g5 g6
  ·obtain ⟨a1, a2⟩ := old hl2 g1 g3
   obtain ⟨q0, a3, a4, a5⟩ := new hm2 g2 g4 g6
   rcases h2.own b ⟨l, q, z, a1, a2, g5⟩ with ho | ho
   ·exact hx b _ q0 z' a3 a4 a5 ho
   ·have := (hR.low b (hxo b _ q0 z' a3 a4 a5)).1; omega
  ·obtain ⟨q0, a1, a2, a5⟩ := new hl2 g1 g3 g5
   obtain ⟨a3, a4⟩ := old hm2 g2 g4
   rcases h2.own b ⟨m, q', z', a3, a4, g6⟩ with ho | ho
   ·exact hx b _ q0 z a1 a2 a5 ho
   ·have := (hR.low b (hxo b _ q0 z a1 a2 a5)).1; omega
  ·obtain ⟨q0, a1, a2, a5⟩ := new hl2 g1 g3 g5
   obtain ⟨q1, a3, a4, a6⟩ := new hm2 g2 g4 g6
   rw [show rs.length + (l - rs'.length) = l by omega] at a2
   rw [show rs.length + (m - rs'.length) = m by omega] at a4
   exact hR.dis l m q0 q1 z z' b hne (by rw [b8k (by omega), <- hl]; exact a1) (by rw [b8k (by omega), <- hl]; exact a3) a2 a4 a5 a6
 ·rcases (hown' b).1 hb with hb | hb
  ·obtain ⟨a1, a2, a3⟩ := h1.low b hb
   exact ⟨a1, fun ha => a2 ⟨.inl ha, hnav b ha⟩, a3⟩
  ·obtain ⟨k, r, x, g1, g2, g3⟩ := hex b hb
   obtain ⟨a1, a2, a3⟩ := hR.low b (hxo b k r x g1 g2 g3)
   exact ⟨b8p a1 h2.size, a2, a3⟩
theorem l7.quiet {P : Program} {f : Nat} {args : List C} {s s' : C} {rs' : List Res} (h : ∀ E : Ctx, E.P = P -> l7 E [] f args s rs' []) (hi : Imp rs' [] s s') (hc : s'.cl = true) : l6 P f args s' := by
 intro O w vs hO hA
 have ho0 : ∀ b, ¬ owned [] [] b := fun b ⟨k, r, x, hk, _⟩ => by simp at hk
 have hRG : RG O (fun _ => False) w.heap.size [] [] w := ⟨rfl, fun k r hk => by simp at hk, fun k l r r' x x' b _ hk => by simp at hk, fun b hb => (ho0 b hb).elim, hO, b8f _⟩
 have hsub : ∀ b, OO O [] [] b -> O b := fun b hb => hb.elim id fun h => (ho0 b h).elim
 refine (h ⟨P, fun _ => false, 0, w, fun _ => False, O, [], []⟩ rfl O [] w vs hRG (fun b hb => hb) ⟨rfl, rfl, rfl, b8f _, fun _ _ _ => rfl⟩ ((FzL.keep (Keeps.sub hsub) hA).den [])).mono ?_
 rintro e w' ⟨y, ν', rfl, h1, h2, h3⟩
 have hC : Cut O rs' [] ν' := Cut.of h1 (by simp [O3])
 have h4 := hi O (fun _ => False) w.heap.size ν' w' y h1 hC h3
 exact ⟨y, rfl, ⟨h2.os, h2.tape, h2.output, h2.size, fun b hb => h2.block b hb (ho0 b)⟩, Fz.keep (Keeps.sub fun b hb => .inl hb) (Den.fz hc h4)⟩
end Go.Proofs.YtpjjiegfigpgnaaGreatDoor.Eng
namespace Go.Proofs.YtpjjiegfigpgnaaGreatDoor
open Go Go.RowKit Eng
set_option maxRecDepth 10000
set_option maxHeartbeats 16000000
def nmR (n : Nms) : List (List C) := n.map fun s => [sb s]
theorem b6m (n : Nms) (s : List UInt8) (hn : n.length <= 1099511627776) : l6 Tryz.prog 144 [.sl 1 (nmR n), sb s] (ints (O0 (fun x => decide (s = x)) n)) := by
 refine kS Tryz.func144 (by cbv) (by rfl) fun w O => ?_
 simp only [j6, nmR, sb]
 (repeat first | refine uA ?_ | (refine uK ?_ ?_; focus first | omega | (intros; simp_all <;> omega)) | simp (disch := omega) only [go_sem, Nat.reduceBEq, Nat.reduceAdd, ww, b7Z])
 refine S.loop (X := Nat) (fun i => ⟨[(0, .sl 1 (nmR n)), (1, sb s), (7, ints n.length), (8, ints i)], []⟩) (fun i => i <= n.length /\ ∀ j, j < i -> ∀ x, n[j]? = some x -> decide (s = x) = false) (fun i => n.length - i) 0 ⟨b8b _, fun _ h => absurd h (Nat.not_lt_zero _)⟩ (by simp only [nmR, sb]; exact (by (repeat first | refine uA ?_ | (refine ⟨?_, ?_⟩; focus first | rfl | simp [slot]) | rfl | simp))) ?_
 rintro i ⟨hi, hm⟩
 simp only [nmR, sb, ints]
 (repeat first | refine uA ?_ | (refine uK ?_ ?_; focus first | omega | (intros; simp_all <;> omega)) | simp (disch := omega) only [go_sem, Nat.reduceBEq, Nat.reduceAdd, ww])
 (refine uJ rfl (fun hc => ?_) fun hc => ?_)
 ·have hgi := b7W (show i < n.length by omega)
  generalize n[i]'(_) = x at hgi
  (repeat first | refine uA ?_ | (refine uK ?_ ?_; focus first | omega | (intros; simp_all <;> omega)) | simp (disch := omega) only [go_sem, Nat.reduceBEq, Nat.reduceAdd, ww, hgi, b7Y, b7Z, b8m, a1y])
  refine S.cond rfl (fun hc2 => ?_) (fun hc2 => ?_)
  ·rw [a2t (p := fun x => decide (s = x)) hgi hc2 hm]
   (repeat first | refine uA ?_ | (refine uK ?_ ?_; focus first | omega | (intros; simp_all <;> omega)) | simp (disch := omega) only [go_sem, Nat.reduceBEq, Nat.reduceAdd, ww])
   exact S.done (d9.out rfl (Imp.refl rfl) rfl)
  ·(repeat first | refine uA ?_ | (refine uK ?_ ?_; focus first | omega | (intros; simp_all <;> omega)) | simp (disch := omega) only [go_sem, Nat.reduceBEq, Nat.reduceAdd, ww])
   refine S.next (i + 1) ⟨by omega, fun j hj y hy => ?_⟩ (by omega) (by (repeat first | refine uA ?_ | (refine ⟨?_, ?_⟩; focus first | rfl | simp [slot]) | rfl | simp))
   rcases b8s j i with h1 | h1
   ·exact hm j h1 y hy
   ·have : j = i := by omega
    subst this
    rw [hgi] at hy
    cases hy
    exact hc2
 ·have hi' : i = n.length := by omega
  subst hi'
  rw [a1G hm]
  (repeat first | refine uA ?_ | (refine uK ?_ ?_; focus first | omega | (intros; simp_all <;> omega)) | simp (disch := omega) only [go_sem, Nat.reduceBEq, Nat.reduceAdd, ww])
  exact S.done (d9.out rfl (Imp.refl rfl) rfl)
theorem b6b (n : Nms) (s : List UInt8) : n.any (fun x => decide (s = x)) = n.contains s := by
 rw [Bool.eq_iff_iff, List.any_eq_true, List.contains_iff_mem]
 exact ⟨fun ⟨x, h1, h2⟩ => by rw [of_decide_eq_true h2]; exact h1, fun h => ⟨s, h, by simp⟩⟩
theorem b6D (n : Nms) (s : List UInt8) (hn : n.length <= 1099511627776) : l6 Tryz.prog 61 [.sl 1 (nmR n), sb s] (.v (.bool (n.contains s))) := by
 refine kS Tryz.func61 (by cbv) (by rfl) fun w O => ?_
 have h := b6m n s hn
 rw [<- b6b, <- a8f]
 generalize O0 (fun x => decide (s = x)) n = k at *
 simp only [j6]
 simp only [sb, ints] at *
 (repeat first | refine uA ?_ | (refine uK ?_ ?_; focus first | omega | (intros; simp_all <;> omega)) | simp (disch := omega) only [go_sem, Nat.reduceBEq, Nat.reduceAdd, ww] | (refine uB h ?_ ?_; exact rfl))
 exact S.done (d9.out rfl (Imp.refl rfl) rfl)
def rsR (w : Wk) (n : Nms) : List Res := [.box 30 w.enc, .box 122 [.rv 2], .row 9 1 (nmR n)]
theorem b5T {E : Ctx} (hP : E.P = Tryz.prog) (w : Wk) (n : Nms) (s : List UInt8) (hs : s.length <= 1099511627776) (hn : n.length <= 1000000) :
  l7 E (rsR w n) 60 [sb s, .bp 1 0] (ints (I4 n s).1) (rsR w (I4 n s).2) [2] := by
 obtain ⟨P, eff', N, w0, own0, av0, nu0, pk0⟩ := E
 simp only at hP
 subst hP
 refine l7.of (eff := eff) Tryz.func60 (by cbv) (by exact b8q rfl) fun w' own av ν hν => ?_
 have hν0 : ν.length <= 3 := by rw [hν]; exact b8f _
 have h1 := b0u s hs
 have h2 := b6D n s (by omega)
 have hap : nmR (n ++ [s]) = nmR n ++ [[sb s]] := by simp [nmR]
 unfold I4
 generalize Q7 s = q at *
 generalize n.contains s = c at *
 have hl : (nmR n).length = n.length := by simp [nmR]
 obtain ⟨arms, walls, parts, slots, gates, walk⟩ := w
 simp only [j6]
 simp only [rsR, Wk.enc, ams, wls, pts, sls, gts, sb, ints] at h1 h2 hap ⊢
 (repeat first | refine uA ?_ | (refine uK ?_ ?_; focus first | omega | (intros; simp_all <;> omega)) | simp (disch := omega) only [go_sem, Nat.reduceBEq, Nat.reduceAdd, ww] | (refine uB h1 ?_ ?_; exact rfl))
 refine S.cond rfl (fun hc => ?_) (fun hc => ?_)
 ·rw [if_pos (by simpa using hc)]
  (repeat first | refine uA ?_ | (refine uK ?_ ?_; focus first | omega | (intros; simp_all <;> omega)) | simp (disch := omega) only [go_sem, Nat.reduceBEq, Nat.reduceAdd, ww])
  (refine S.done ?_; simp only [z8, r9, go_sem, Nat.reduceBEq, Nat.reduceAdd, Nat.reduceLeDiff, Int.reduceToNat, Int.reducePow]; (repeat (refine ⟨?_, ?_⟩; focus first | trivial | omega | simp)); exact d9.M5 (Imp.refl rfl) (by (repeat first | refine uA ?_ | (refine ⟨?_, ?_⟩; focus first | rfl | simp [slot]) | rfl | simp)) (b8a hν0 (by simp)))
 rw [if_neg (by simpa using hc)]
 (repeat first | refine uA ?_ | (refine uK ?_ ?_; focus first | omega | (intros; simp_all <;> omega)) | simp (disch := omega) only [go_sem, Nat.reduceBEq, Nat.reduceAdd, ww] | (refine uC h2 ?_ ?_ ?_; exact rfl; focus (repeat' first | exact l5.nil | exact Imp.refl rfl | exact Imp.frz rfl rfl rfl | (refine Imp.J6 rfl rfl ?_ ?_; (focus ((try simp only [b7X]); omega)); (focus first | rfl | assumption)) | refine l5.cons ?_ ?_); done))
 refine S.cond rfl (fun hc => ?_) (fun hc => ?_)
 ·rw [if_pos hc]
  (repeat first | refine uA ?_ | (refine uK ?_ ?_; focus first | omega | (intros; simp_all <;> omega)) | simp (disch := omega) only [go_sem, Nat.reduceBEq, Nat.reduceAdd, ww])
  (refine S.done ?_; simp only [z8, r9, go_sem, Nat.reduceBEq, Nat.reduceAdd, Nat.reduceLeDiff, Int.reduceToNat, Int.reducePow]; (repeat (refine ⟨?_, ?_⟩; focus first | trivial | omega | simp)); exact d9.M5 (Imp.refl rfl) (by (repeat first | refine uA ?_ | (refine ⟨?_, ?_⟩; focus first | rfl | simp [slot]) | rfl | simp)) (b8a hν0 (by simp)))
 ·rw [if_neg (by rw [hc]; decide)]
  simp only [hap]
  (repeat first | refine uA ?_ | (refine uK ?_ ?_; focus first | omega | (intros; simp_all <;> omega)) | simp (disch := omega) only [go_sem, Nat.reduceBEq, Nat.reduceAdd, ww, hl])
  (refine S.done ?_; simp only [z8, r9, go_sem, Nat.reduceBEq, Nat.reduceAdd, Nat.reduceLeDiff, Int.reduceToNat, Int.reducePow]; (repeat (refine ⟨?_, ?_⟩; focus first | trivial | omega | simp)); exact d9.M5 (Imp.refl rfl) (by (repeat first | refine uA ?_ | (refine ⟨?_, ?_⟩; focus first | rfl | simp [slot]) | rfl | simp)) (b8a hν0 (by simp)))
theorem a3H (n : Nms) (s : List UInt8) : (I4 n s).2.length <= n.length + 1 := by
 unfold I4
 split
 ·simp
 ·split
  ·simp
  ·simp
theorem b0P (p q : Rat) : decide (Nm.G5 p q = 1) = !decide (Nm.G5 p q <= 0) := by
 have h : -1 <= Nm.G5 p q /\ Nm.G5 p q <= 1 := by
  unfold Nm.G5
  repeat' split
  all_goals first
   | omega
   | (have := a6B (p.num.natAbs * q.den) (q.num.natAbs * p.den); omega)
 by_cases h1 : Nm.G5 p q <= 0
 ·rw [decide_eq_true h1, decide_eq_false (by omega)]; rfl
 ·rw [decide_eq_false h1, decide_eq_true (by omega)]; rfl
theorem a9m (q : Rat) : -1 <= D6 q /\ D6 q <= 1 := by unfold D6; split; omega; split <;> omega
theorem sign_one (q : Rat) : decide (D6 q < 1) = !decide (0 < D6 q) := by
 rw [<- decide_not]; apply decide_eq_decide.2; omega
theorem b2F (q : Rat) : decide (D6 q = -1) = !decide (0 <= D6 q) := by
 have := a9m q
 rw [<- decide_not]; apply decide_eq_decide.2; omega
set_option maxRecDepth 100000
set_option maxHeartbeats 8000000
set_option maxHeartbeats 16000000
theorem b6e : Rb 8 (Nm.ofQ 0) := ⟨Nm.O5 (by decide), Nm.O5 (by decide)⟩
theorem b4K : FZ 157 [.v (.int .i64 0)] (rq 0) := by
 have := b7f 0 (by decide) (by decide)
 rwa [show ((0 : Int) : Rat) = 0 from rfl] at this
theorem b5M : FZ 122 [] a3U.c := by
 refine kW Tryz.func122 (by cbv) (by rfl) fun w O hw => ?_
 have h1 := b4K
 have h2 := b7x (Nm.ofQ 0) (b6e.mono (by decide))
 rw [Nm.a2F] at h2
 unfold tq rq at *
 unfold a3U
 generalize Nm.ofQ 0 = r at *
 simp only [j6]
 simp only [Fr.c, Fr.enc, rc, tc, sb] at *
 (repeat first | refine uA ?_ | (refine uK ?_ ?_; focus first | omega | (intros; simp_all <;> omega)) | simp (disch := omega) only [go_sem, Nat.reduceBEq, Nat.reduceAdd, ww] | (refine uD h1 ?_ ?_ ?_; exact tz hw; exact rfl) | (refine uD h2 ?_ ?_ ?_; exact tz hw; exact rfl))
 (refine S.done ?_; simp only [z8, r9, go_sem, Nat.reduceBEq, Nat.reduceAdd, Nat.reduceLeDiff, Int.reduceToNat, Int.reducePow]; (repeat (refine ⟨?_, ?_⟩; focus first | trivial | omega | simp)); exact d9.out rfl (Imp.refl rfl) rfl)
open Go Eng
theorem a5n {a : Nm.Rt} (h : j4 a = true) : a.D8 := by
 rw [Q9, b8g] at h
 exact of_decide_eq_true h.1
theorem b0M {q : Rat} : 0 < D6 q <-> 0 < q := by
 have h1 := @Rat.num_nonneg q
 have h2 := @Rat.num_eq_zero q
 unfold D6
 constructor
 ·intro h
  split at h
  ·omega
  ·split at h
   ·omega
   ·rename_i h3 h4
    have h5 : 0 <= q := h1.1 (by omega)
    have h6 : q ≠ 0 := fun e => h3 (h2.2 e)
    grind
 ·intro h
  have h5 : 0 <= q.num := h1.2 (by grind)
  have h6 : q.num ≠ 0 := fun e => by have := h2.1 e; grind
  rw [if_neg h6, if_neg (by omega)]; decide
theorem b0m {q : Rat} : D6 q < 0 <-> q < 0 := by
 have h1 := @Rat.num_nonneg q
 have hn : q.num < 0 <-> q < 0 := by rw [<- Rat.not_le, <- h1]; omega
 unfold D6
 constructor
 ·intro h
  split at h
  ·omega
  ·split at h
   ·exact hn.1 (by assumption)
   ·omega
 ·intro h
  have := hn.2 h
  rw [if_neg (by omega), if_pos this]; decide
theorem b2G (p q : Rat) : b3t p q = if p < q then q else p := by
 unfold b3t
 by_cases h : p < q
 ·rw [if_pos h, if_neg]
  have := (a6S p q).2 h
  omega
 ·rw [if_neg h, if_pos]
  have : ¬ Nm.G5 p q < 0 := fun h2 => h ((a6S p q).1 h2)
  omega
theorem b2P (p q : Rat) : a5B p q = if q < p then q else p := by
 unfold a5B
 by_cases h : q < p
 ·rw [if_pos h, if_neg]
  have := (b0N p q).2 h
  omega
 ·rw [if_neg h, if_pos]
  have : ¬ 0 < Nm.G5 p q := fun h2 => h ((b0N p q).1 h2)
  omega
theorem b5v {l : Lk} (h : a0r l = 0) : a3o l = if 0 < D6 (Nm.j5 l.low) then l.low else if D6 (Nm.j5 l.high) < 0 then l.high else Nm.ofQ 0 := by
 have hlt := (a6S _ _).1 (a6q h).2.1
 have hs : j4 l.low = true /\ j4 l.high = true := by
  unfold a0r at h
  split at h
  ·cases h
  ·rename_i h1
   have h2 : (j4 l.length && j4 l.low && j4 l.high && j4 l.speed && j4 l.brake) = true := by
    cases hb : (j4 l.length && j4 l.low && j4 l.high && j4 l.speed && j4 l.brake) with
    | true => rfl
    | false => exact absurd (.inl hb) h1
   simp only [b8g] at h2
   exact ⟨h2.1.1.1.2, h2.1.1.2⟩
 have g1 := a5n hs.1
 have g2 := a5n hs.2
 unfold a3o
 rw [b2G, b2P]
 by_cases c1 : 0 < Nm.j5 l.low
 ·rw [if_pos (b0M.2 c1)]
  by_cases c2 : 0 < Nm.j5 l.high
  ·rw [if_pos c2, if_neg (by grind), Nm.a4E g1]
  ·rw [if_neg c2, if_neg (by grind), Nm.a4E g1]
 ·rw [if_neg (fun h => c1 (b0M.1 h))]
  by_cases c2 : Nm.j5 l.high < 0
  ·rw [if_pos (b0m.2 c2), if_neg (show ¬ 0 < Nm.j5 l.high by grind), if_pos hlt, Nm.a4E g2]
  ·rw [if_neg (fun h => c2 (b0m.1 h))]
   congr 1
   by_cases c3 : 0 < Nm.j5 l.high
   ·rw [if_pos c3]; split <;> grind
   ·rw [if_neg c3]; split <;> grind
theorem b3N (w : Wk) (hwb : Wb 1073741824 w) (h : a0j w = 0) : FZ 129 [w.c] (a4u w).c := by
 refine kW Tryz.func129 (by cbv) (by rfl) fun w' O hw => ?_
 have hao := b0E h
 obtain ⟨n1, b1⟩ := hwb.arms
 have n3 := hwb.parts.1
 have n4 := hwb.slots.1
 have n5 := hwb.gates.1
 have hz := b4K
 have hfz := b5M
 have hpe : ∀ i, a9o w i = if h : i < w.slots.length then (w.slots[i]).frame else a3U := fun _ => rfl
 unfold a4u
 generalize hfp : a9o w = fP at *
 obtain ⟨arms, walls, parts, slots, gates, walk⟩ := w
 simp only at n1 b1 n3 n4 n5 hpe hao ⊢
 simp only [j6]
 simp only [Wk.c, Wk.enc, Stt.c, Stt.enc, ams, wls, pts, sls, gts, a3a, frs, vts, bls, rc, sb, ints] at ⊢
 (repeat first | refine uA ?_ | (refine uK ?_ ?_; focus first | omega | (intros; simp_all <;> omega)) | simp (disch := omega) only [go_sem, Nat.reduceBEq, Nat.reduceAdd, ww, b7Z, b8m])
 refine S.loop (X := Nat) (fun i => ⟨[(1, .bp 0 0), (2, .bp 1 0), (3, .bp 3 0), (17, ams arms), (18, ints arms.length), (19, ints i)], [.box 30 [ams arms, wls walls, pts parts, sls slots, gts gates, .v (.bool walk.neg), sb walk.num, sb walk.den], .box 47 [.v (.int .i64 0), .v (.slice none 0 0), .v (.slice none 0 0), .v (.slice none 0 0), .v (.slice none 0 0)], .row 4 1 (List.replicate gates.length [.v (.bool false)]), .box 47 [.v (.int .i64 0), .rv 4, .rv 5, .v (.slice none 0 0), .rv 2], .row 81 4 (((arms.take i).map a2E).map Ast.enc), .row 36 10 []]⟩) (fun i => i <= arms.length) (fun i => arms.length - i) 0 (b8b _)
  (Ent.trans (Ent.a0V 3 1 81 4 rfl rfl rfl) (Ent.trans (Ent.a0V 3 2 36 10 rfl rfl rfl) (by (repeat first | refine uA ?_ | (refine ⟨?_, ?_⟩; focus first | rfl | simp [slot]) | rfl | simp)))) ?_
 intro i hi
 simp only [ams, wls, pts, sls, gts, vts, sb, ints]
 (repeat first | refine uA ?_ | (refine uK ?_ ?_; focus first | omega | (intros; simp_all <;> omega)) | simp (disch := omega) only [go_sem, Nat.reduceBEq, Nat.reduceAdd, ww])
 (refine uJ rfl (fun hc => ?_) fun hc => ?_)
 ·have hi' : i < arms.length := by omega
  have hgi := b7W hi'
  have hap : arms.take (i + 1) = arms.take i ++ [arms[i]] := b8L hi'
  have htl : (arms.take i).length = i := by rw [b8i]; omega
  generalize arms[i] = a at hgi hap
  obtain ⟨b0, _, nl, bl⟩ := b1 a (b8c hgi)
  have hlo := (a7B (hao a (b8c hgi))).2
  (repeat first | refine uA ?_ | (refine uK ?_ ?_; focus first | omega | (intros; simp_all <;> omega)) | simp (disch := omega) only [go_sem, Nat.reduceBEq, Nat.reduceAdd, ww, hgi, b7Y, b7Z, Am.enc, lks, sb])
  refine S.loop (X := Nat) (fun k => ⟨[(1, .bp 0 0), (2, .bp 1 0), (3, .bp 3 0), (6, .bp 7 0), (17, ams arms), (18, ints arms.length), (19, ints i), (25, lks a.links), (26, ints a.links.length), (27, ints k)], [.box 30 [ams arms, wls walls, pts parts, sls slots, gts gates, .v (.bool walk.neg), sb walk.num, sb walk.den], .box 47 [.v (.int .i64 0), .v (.slice none 0 0), .v (.slice none 0 0), .v (.slice none 0 0), .v (.slice none 0 0)], .row 4 1 (List.replicate gates.length [.v (.bool false)]), .box 47 [.v (.int .i64 0), .rv 4, .rv 5, .v (.slice none 0 0), .rv 2], .row 81 4 (((arms.take i).map a2E).map Ast.enc), .row 36 10 [], .gone, .box 81 [.rv 8, .rv 9, .v (.bool false), .v (.int .i64 (-1))], .row 28 3 (((a.links.take k).map a3o).map rcs), .row 28 3 (((a.links.take k).map fun _ => Nm.ofQ 0).map rcs)]⟩) (fun k => k <= a.links.length) (fun k => a.links.length - k) 0 (b8b _)
   (Ent.trans (Ent.a0V 7 0 28 3 rfl rfl rfl) (Ent.trans (Ent.a0V 7 1 28 3 rfl rfl rfl) (by (repeat first | refine uA ?_ | (refine ⟨?_, ?_⟩; focus first | rfl | simp [slot]) | rfl | simp)))) ?_
  intro k hk
  simp only [ams, wls, pts, sls, gts, lks, vts, sb, ints]
  (repeat first | refine uA ?_ | (refine uK ?_ ?_; focus first | omega | (intros; simp_all <;> omega)) | simp (disch := omega) only [go_sem, Nat.reduceBEq, Nat.reduceAdd, ww])
  (refine uJ rfl (fun hc => ?_) fun hc => ?_)
  ·have hk' : k < a.links.length := by omega
   have hgk := b7W hk'
   have hak : a.links.take (k + 1) = a.links.take k ++ [a.links[k]] := b8L hk'
   have htk : (a.links.take k).length = k := by rw [b8i]; omega
   generalize a.links[k] = l at hgk hak
   obtain ⟨_, l2, l3, _⟩ := bl l (b8c hgk)
   have o1 := R4 l.low (l2.mono (by decide))
   have o2 := R4 l.high (l3.mono (by decide))
   have hq := b5v (hlo l (b8c hgk))
   unfold rq at hz
   generalize D6 (Nm.j5 l.low) = s1 at *
   generalize D6 (Nm.j5 l.high) = s2 at *
   generalize hz0 : Nm.ofQ 0 = r0 at *
   simp only [rc, sb, ints] at o1 o2 hz
   (repeat first | refine uA ?_ | (refine uK ?_ ?_; focus first | omega | (intros; simp_all <;> omega)) | simp (disch := omega) only [go_sem, Nat.reduceBEq, Nat.reduceAdd, ww, hgk, b7Y, b7Z, Lk.enc, vts, sb] | (refine uD hz ?_ ?_ ?_; exact tz hw; exact rfl) | (refine uD o1 ?_ ?_ ?_; exact tz hw; exact rfl))
   refine S.join (Y := Nm.Rt) (fun q => ⟨[(1, .bp 0 0), (2, .bp 1 0), (3, .bp 3 0), (6, .bp 7 0), (9, .bp 11 0), (17, ams arms), (18, ints arms.length), (19, ints i), (25, lks a.links), (26, ints a.links.length), (27, ints k)], [.box 30 [ams arms, wls walls, pts parts, sls slots, gts gates, .v (.bool walk.neg), sb walk.num, sb walk.den], .box 47 [.v (.int .i64 0), .v (.slice none 0 0), .v (.slice none 0 0), .v (.slice none 0 0), .v (.slice none 0 0)], .row 4 1 (List.replicate gates.length [.v (.bool false)]), .box 47 [.v (.int .i64 0), .rv 4, .rv 5, .v (.slice none 0 0), .rv 2], .row 81 4 (((arms.take i).map a2E).map Ast.enc), .row 36 10 [], .gone, .box 81 [.rv 8, .rv 9, .v (.bool false), .v (.int .i64 (-1))], .row 28 3 (((a.links.take k).map a3o).map rcs), .row 28 3 (((a.links.take k).map fun _ => r0).map rcs), .gone, .box 28 (rcs q)]⟩) (fun q => q = a3o l) ?_ ?_
   ·refine S.cond rfl (fun hc2 => ?_) (fun hc2 => ?_)
    ·rw [if_pos (by simpa using hc2)] at hq
     (repeat first | refine uA ?_ | (refine uK ?_ ?_; focus first | omega | (intros; simp_all <;> omega)) | simp (disch := omega) only [go_sem, Nat.reduceBEq, Nat.reduceAdd, ww])
     exact S.met l.low hq.symm (by simp only [ams, wls, pts, sls, gts, lks, vts, rcs, sb, ints]; exact (by (repeat first | refine uA ?_ | (refine ⟨?_, ?_⟩; focus first | rfl | simp [slot]) | rfl | simp)))
    rw [if_neg (by simpa using hc2)] at hq
    (repeat first | refine uA ?_ | (refine uK ?_ ?_; focus first | omega | (intros; simp_all <;> omega)) | simp (disch := omega) only [go_sem, Nat.reduceBEq, Nat.reduceAdd, ww] | (refine uD o2 ?_ ?_ ?_; exact tz hw; exact rfl))
    refine S.cond rfl (fun hc3 => ?_) (fun hc3 => ?_)
    ·rw [if_pos (by simpa using hc3)] at hq
     (repeat first | refine uA ?_ | (refine uK ?_ ?_; focus first | omega | (intros; simp_all <;> omega)) | simp (disch := omega) only [go_sem, Nat.reduceBEq, Nat.reduceAdd, ww])
     exact S.met l.high hq.symm (by simp only [ams, wls, pts, sls, gts, lks, vts, rcs, sb, ints]; exact (by (repeat first | refine uA ?_ | (refine ⟨?_, ?_⟩; focus first | rfl | simp [slot]) | rfl | simp)))
    ·rw [if_neg (by simpa using hc3)] at hq
     (repeat first | refine uA ?_ | (refine uK ?_ ?_; focus first | omega | (intros; simp_all <;> omega)) | simp (disch := omega) only [go_sem, Nat.reduceBEq, Nat.reduceAdd, ww])
     exact S.met r0 hq.symm (by simp only [ams, wls, pts, sls, gts, lks, vts, rcs, sb, ints]; exact (by (repeat first | refine uA ?_ | (refine ⟨?_, ?_⟩; focus first | rfl | simp [slot]) | rfl | simp)))
   rintro q rfl
   clear hq
   simp only [ams, wls, pts, sls, gts, lks, vts, rcs, sb, ints]
   (repeat first | refine uI ?_ | (refine uK ?_ ?_; focus first | omega | (intros; simp_all <;> omega)) | simp (disch := omega) only [go_sem, Nat.reduceBEq, Nat.reduceAdd, ww])
   refine S.Z6 [.gone, .gone, .gone, .gone, .gone, .gone, .gone, .box 81 [.junk, .rv 9, .v (.bool false), .v (.int .i64 (-1))]] (by simp [Eng.F3, Eng.leC]) ?_
   (repeat first | refine uA ?_ | (refine uK ?_ ?_; focus first | omega | (intros; simp_all <;> omega)) | simp (disch := omega) only [go_sem, Nat.reduceBEq, Nat.reduceAdd, ww, KMd, b7Z, htk] | (refine uD hz ?_ ?_ ?_; exact tz hw; exact rfl))
   refine S.next (k + 1) (by omega) (by omega) (by simp only [hak, hz0, b8O, b8y, b8E, rcs, sb]; exact (by (repeat first | refine uA ?_ | (refine ⟨?_, ?_⟩; focus first | rfl | simp [slot]) | rfl | simp)))
  ·have hk' : k = a.links.length := by omega
   subst hk'
   rw [b8n]
   refine S.exit rfl ?_
   refine S.weaken (st' := ⟨[(1, .bp 0 0), (2, .bp 1 0), (3, .bp 3 0), (6, .bp 7 0), (17, ams arms), (18, ints arms.length), (19, ints i)], [.box 30 [ams arms, wls walls, pts parts, sls slots, gts gates, .v (.bool walk.neg), sb walk.num, sb walk.den], .box 47 [.v (.int .i64 0), .v (.slice none 0 0), .v (.slice none 0 0), .v (.slice none 0 0), .v (.slice none 0 0)], .row 4 1 (List.replicate gates.length [.v (.bool false)]), .box 47 [.v (.int .i64 0), .rv 4, .rv 5, .v (.slice none 0 0), .rv 2], .row 81 4 (((arms.take i).map a2E).map Ast.enc), .row 36 10 [], .gone, .box 81 (a2E a).enc]⟩) (Ent.mk _ _ (by (repeat first | refine uA ?_ | (refine ⟨?_, ?_⟩; focus first | rfl | simp [slot]) | rfl | simp)) (by (repeat' (first | exact J7.nil | exact RI.gone _ | exact RI.row _ _ _ _ rfl | exact RI.map _ _ _ rfl | exact RI.box _ _ _ (l5.refl rfl) | (refine RI.box _ _ _ ?_; (repeat' (first | exact l5.nil | exact Imp.refl rfl | exact Imp.frz rfl rfl rfl | exact Imp.O1 | refine l5.cons ?_ ?_))) | refine J7.cons ?_ ?_))) (b8b _)) ?_
   simp only [ams, wls, pts, sls, gts, vts, sb, ints, Ast.enc, rts]
   (repeat first | refine uA ?_ | (refine uK ?_ ?_; focus first | omega | (intros; simp_all <;> omega)) | simp (disch := omega) only [go_sem, Nat.reduceBEq, Nat.reduceAdd, ww, b7Z, htl])
   refine S.next (i + 1) (by omega) (by omega) (by simp only [hap, b8O, b8y, b8E, Ast.enc, rts, ints]; exact (by (repeat first | refine uA ?_ | (refine ⟨?_, ?_⟩; focus first | rfl | simp [slot]) | rfl | simp)))
 ·have hi' : i = arms.length := by omega
  subst hi'
  rw [b8n]
  (repeat first | refine uA ?_ | (refine uK ?_ ?_; focus first | omega | (intros; simp_all <;> omega)) | simp (disch := omega) only [go_sem, Nat.reduceBEq, Nat.reduceAdd, ww, b7Z])
  refine S.loop (X := Nat) (fun i => ⟨[(1, .bp 0 0), (2, .bp 1 0), (3, .bp 3 0), (66, ints parts.length), (67, ints i)], [.box 30 [ams arms, wls walls, pts parts, sls slots, gts gates, .v (.bool walk.neg), sb walk.num, sb walk.den], .box 47 [.v (.int .i64 0), .v (.slice none 0 0), .v (.slice none 0 0), .v (.slice none 0 0), .v (.slice none 0 0)], .row 4 1 (List.replicate gates.length [.v (.bool false)]), .box 47 [.v (.int .i64 0), .rv 4, .rv 5, .v (.slice none 0 0), .rv 2], .row 81 4 ((arms.map a2E).map Ast.enc), .row 36 10 (((List.range i).map fP).map Fr.enc)]⟩) (fun i => i <= parts.length) (fun i => parts.length - i) 0 (b8b _) (by (repeat first | refine uA ?_ | (refine ⟨?_, ?_⟩; focus first | rfl | simp [slot]) | rfl | simp)) ?_
  intro i hi
  simp only [ams, wls, pts, sls, gts, vts, sb, ints]
  (repeat first | refine uA ?_ | (refine uK ?_ ?_; focus first | omega | (intros; simp_all <;> omega)) | simp (disch := omega) only [go_sem, Nat.reduceBEq, Nat.reduceAdd, ww])
  (refine uJ rfl (fun hc => ?_) fun hc => ?_)
  ·have hrl : ((List.range i).map fP).length = i := by simp
   simp only [a3U, Fr.c, Fr.enc, sb] at hfz
   (repeat first | refine uA ?_ | (refine uK ?_ ?_; focus first | omega | (intros; simp_all <;> omega)) | simp (disch := omega) only [go_sem, Nat.reduceBEq, Nat.reduceAdd, ww, b7Z])
   refine S.cond rfl (fun hc => ?_) (fun hc => ?_)
   ·have hsi : i < slots.length := by simp at hc; omega
    have hgs := b7W hsi
    have hf : fP i = (slots[i]).frame := by rw [hpe i, dif_pos hsi]
    generalize slots[i] = s at hgs hf
    (repeat first | refine uA ?_ | (refine uK ?_ ?_; focus first | omega | (intros; simp_all <;> omega)) | simp (disch := omega) only [go_sem, Nat.reduceBEq, Nat.reduceAdd, ww, hgs, b7Y, b7Z, Sl.enc, sb, b8m, hrl, List.length_range])
    refine S.next (i + 1) (by omega) (by omega) (by simp only [List.range_succ, b8O, b8y, b8E, hf, Fr.enc, sb]; exact (by (repeat first | refine uA ?_ | (refine ⟨?_, ?_⟩; focus first | rfl | simp [slot]) | rfl | simp)))
   ·have hf : fP i = a3U := by rw [hpe i, dif_neg (by simp at hc; omega)]
    (repeat first | refine uA ?_ | (refine uK ?_ ?_; focus first | omega | (intros; simp_all <;> omega)) | simp (disch := omega) only [go_sem, Nat.reduceBEq, Nat.reduceAdd, ww, b7Z, hrl, List.length_range] | (refine uD hfz ?_ ?_ ?_; exact tz hw; exact rfl))
    refine S.next (i + 1) (by omega) (by omega) (by simp only [List.range_succ, b8O, b8y, b8E, hf, a3U, Fr.enc, sb]; exact (by (repeat first | refine uA ?_ | (refine ⟨?_, ?_⟩; focus first | rfl | simp [slot]) | rfl | simp)))
  ·have hi' : i = parts.length := by omega
   subst hi'
   simp only [List.map_replicate]
   (repeat first | refine uA ?_ | (refine uK ?_ ?_; focus first | omega | (intros; simp_all <;> omega)) | simp (disch := omega) only [go_sem, Nat.reduceBEq, Nat.reduceAdd, ww])
   (refine S.done ?_; simp only [z8, r9, go_sem, Nat.reduceBEq, Nat.reduceAdd, Nat.reduceLeDiff, Int.reduceToNat, Int.reducePow]; (repeat (refine ⟨?_, ?_⟩; focus first | trivial | omega | simp)); exact d9.out rfl (Imp.agg (by (repeat' (first | exact l5.nil | exact Imp.refl rfl | exact Imp.frz rfl rfl rfl | exact Imp.O1 | refine l5.cons ?_ ?_)))) rfl)
set_option maxRecDepth 10000
set_option maxHeartbeats 8000000
instance : DecidableEq Nm.Rt := fun ⟨a, b, c⟩ ⟨d, e, f⟩ => decidable_of_iff (a = d /\ b = e /\ c = f) ⟨fun ⟨h1, h2, h3⟩ => by rw [h1, h2, h3], fun h => by injection h with h1 h2 h3; exact ⟨h1, h2, h3⟩⟩
instance : DecidableEq Vt := fun ⟨a, b⟩ ⟨d, e⟩ => decidable_of_iff (a = d /\ b = e) ⟨fun ⟨h1, h2⟩ => by rw [h1, h2], fun h => by injection h with h1 h2; exact ⟨h1, h2⟩⟩
instance : DecidableEq Fr := fun ⟨a, b, c, g⟩ ⟨d, e, f, h⟩ => decidable_of_iff (a = d /\ b = e /\ c = f /\ g = h) ⟨fun ⟨h1, h2, h3, h4⟩ => by rw [h1, h2, h3, h4], fun h => by injection h with h1 h2 h3 h4; exact ⟨h1, h2, h3, h4⟩⟩
instance : DecidableEq Ast := fun ⟨a, b, c, g⟩ ⟨d, e, f, h⟩ => decidable_of_iff (a = d /\ b = e /\ c = f /\ g = h) ⟨fun ⟨h1, h2, h3, h4⟩ => by rw [h1, h2, h3, h4], fun h => by injection h with h1 h2 h3 h4; exact ⟨h1, h2, h3, h4⟩⟩
instance : DecidableEq Stt := fun ⟨a, b, c, g, i⟩ ⟨d, e, f, h, j⟩ => decidable_of_iff (a = d /\ b = e /\ c = f /\ g = h /\ i = j) ⟨fun ⟨h1, h2, h3, h4, h5⟩ => by rw [h1, h2, h3, h4, h5], fun h => by injection h with h1 h2 h3 h4 h5; exact ⟨h1, h2, h3, h4, h5⟩⟩
set_option maxRecDepth 100000
set_option maxHeartbeats 16000000
def b7c (v : Vt) (z : Gt) : Prop := Nm.G5 (Nm.j5 v.x) (Nm.j5 z.low.x) < 0 \/ 0 < Nm.G5 (Nm.j5 v.x) (Nm.j5 z.high.x) \/ Nm.G5 (Nm.j5 v.y) (Nm.j5 z.low.y) < 0 \/ 0 < Nm.G5 (Nm.j5 v.y) (Nm.j5 z.high.y)
instance (v : Vt) (z : Gt) : Decidable (b7c v z) := by unfold b7c; infer_instance
theorem b5w : FZ 42 [] (.tup [Y1.c, (a4u Y1).c]) := by
 refine kW Tryz.func42 (by cbv) (by rfl) fun w' O hw => ?_
 have h1 := b3U
 have h2 := b3N Y1 (a8m.mono (by decide)) a4J
 generalize a4u Y1 = s at *
 generalize Y1 = w at *
 obtain ⟨arms, walls, parts, slots, gates, walk⟩ := w
 obtain ⟨tick, sarms, sparts, people, sgates⟩ := s
 simp only [j6]
 simp only [Wk.c, Wk.enc, Stt.c, Stt.enc, ams, wls, pts, sls, gts, a3a, frs, vts, bls, sb, ints, a0f, b8E] at h1 h2 ⊢
 (repeat first | refine uA ?_ | (refine uK ?_ ?_; focus first | omega | (intros; simp_all <;> omega)) | simp (disch := omega) only [go_sem, Nat.reduceBEq, Nat.reduceAdd, ww] | (refine uB h1 ?_ ?_; exact rfl) | (refine uD h2 ?_ ?_ ?_; exact tz hw; exact rfl))
 (refine S.done ?_; simp only [z8, r9, go_sem, Nat.reduceBEq, Nat.reduceAdd, Nat.reduceLeDiff, Int.reduceToNat, Int.reducePow]; (repeat (refine ⟨?_, ?_⟩; focus first | trivial | omega | simp)); exact d9.out rfl (Imp.tup (by (repeat' (first | exact l5.nil | exact Imp.refl rfl | exact Imp.frz rfl rfl rfl | exact Imp.O1 | refine Imp.agg ?_ | refine l5.cons ?_ ?_)))) rfl)
theorem b6y (a b c d e v : Int) : (if F6 id [a, b, c, d, e] ≠ 0 then F6 id [a, b, c, d, e] else v) = if a ≠ 0 then a else if b ≠ 0 then b else if c ≠ 0 then c else if d ≠ 0 then d else if e ≠ 0 then e else v := by
 simp only [F6, id]
 by_cases ha : a = 0 <;> by_cases hb : b = 0 <;> by_cases hc : c = 0 <;> by_cases hd : d = 0 <;> by_cases he : e = 0 <;> simp [ha, hb, hc, hd, he]
theorem b0v {k : Nat} {a : Nm.Rt} (h : 1 <= k) (h1 : Rb k a) : Rbs k [a] := ⟨h, fun x hx => by simp at hx; subst hx; exact h1⟩
theorem b3M {k : Nat} {a b c d : Nm.Rt} (h : 4 <= k) (h1 : Rb k a) (h2 : Rb k b) (h3 : Rb k c) (h4 : Rb k d) : Rbs k [a, b, c, d] := ⟨h, fun x hx => by simp at hx; rcases hx with rfl | rfl | rfl | rfl <;> assumption⟩
theorem walk_eq (a : Nm.Rt) : a8b a = if ([a].all j4 = false \/ D6 (Nm.j5 a) = -1) then 1 else 0 := by
 have h1 : (decide a.D8 && j4 a) = [a].all j4 := by rw [<- Q9]; simp
 have h2 := b2F (Nm.j5 a)
 unfold a8b
 rw [h1]
 generalize [a].all j4 = q
 have := a9m (Nm.j5 a)
 cases q
 ·simp
 ·by_cases h : 0 <= D6 (Nm.j5 a)
  ·rw [if_pos (by simpa using h), if_neg (by simp; omega)]
  ·rw [if_neg (by simpa using h), if_pos (by right; omega)]
theorem b5S (s : Sl) : (okF s.frame && decide s.within.D8 && j4 s.within && decide (0 < D6 (Nm.j5 s.within))) = !(!okF s.frame || !([s.within].all j4) || decide (D6 (Nm.j5 s.within) < 1)) := by
 have h1 : (okF s.frame && decide s.within.D8 && j4 s.within) = (okF s.frame && [s.within].all j4) := by
  rw [Bool.and_assoc, <- Q9]; simp
 rw [h1, sign_one]
 cases okF s.frame <;> cases [s.within].all j4 <;> cases decide (0 < D6 (Nm.j5 s.within)) <;> rfl
theorem b5A (g : Gt) : (okV g.low && okV g.high && decide (Nm.G5 (Nm.j5 g.low.x) (Nm.j5 g.high.x) <= 0) && decide (Nm.G5 (Nm.j5 g.low.y) (Nm.j5 g.high.y) <= 0)) = !(!([g.low.x, g.low.y, g.high.x, g.high.y].all j4) || decide (Nm.G5 (Nm.j5 g.low.x) (Nm.j5 g.high.x) = 1) || decide (Nm.G5 (Nm.j5 g.low.y) (Nm.j5 g.high.y) = 1)) := by
 have h1 : (okV g.low && okV g.high) = [g.low.x, g.low.y, g.high.x, g.high.y].all j4 := by
  rw [a8o, a8o]; simp [Bool.and_assoc]
 rw [h1, b0P, b0P]
 cases [g.low.x, g.low.y, g.high.x, g.high.y].all j4 <;> cases decide (Nm.G5 (Nm.j5 g.low.x) (Nm.j5 g.high.x) <= 0) <;> cases decide (Nm.G5 (Nm.j5 g.low.y) (Nm.j5 g.high.y) <= 0) <;> rfl
theorem b5G (n : Nms) (a : Am) : X5 n a = if a0I a ≠ 0 then (a0I a, n) else I4 n a.name := rfl
theorem b3H (n : Nms) (p : Pt) : W9 n p = if (I4 n p.name).1 ≠ 0 then I4 n p.name else if I9 p.shape ≠ 0 then (I9 p.shape, (I4 n p.name).2) else (if okF p.grasp then 0 else 1, (I4 n p.name).2) := rfl
theorem b3I (n : Nms) (s : Sl) : V5 n s = if (I4 n s.name).1 ≠ 0 then I4 n s.name else (if okF s.frame && decide s.within.D8 && j4 s.within && decide (0 < D6 (Nm.j5 s.within)) then 0 else 1, (I4 n s.name).2) := rfl
theorem b3W (n : Nms) (g : Gt) : V3 n g = if (I4 n g.name).1 ≠ 0 then I4 n g.name else (if okV g.low && okV g.high && decide (Nm.G5 (Nm.j5 g.low.x) (Nm.j5 g.high.x) <= 0) && decide (Nm.G5 (Nm.j5 g.low.y) (Nm.j5 g.high.y) <= 0) then 0 else 1, (I4 n g.name).2) := rfl
theorem b4F (w : Wk) (hb : Wb 1073741824 w) : FZ 12 [w.c] (ints (a0j w)) := by
 refine kW Tryz.func12 (by cbv) (by rfl) fun w' O hw => ?_
 have hcal : callable Tryz.prog 60 = true := by kernel_rfl
 obtain ⟨⟨n1, b1⟩, ⟨n2, b2⟩, ⟨n3, b3⟩, ⟨n4, b4⟩, ⟨n5, b5⟩, b6⟩ := hb
 have hnm := fun (E : Ctx) (hP : E.P = Tryz.prog) (n : Nms) (s : List UInt8) (hs : s.length <= 1099511627776) (hn : n.length <= 1000000) => b5T hP w n s hs hn
 have h6 := a2r _ (b0v (by decide) (b6.mono (m := 17179869184) (by decide)))
 have h7 := R4 w.walk (b6.mono (by decide))
 unfold a0j a3i
 generalize hr1 : D9 X5 [] w.arms = r1
 obtain ⟨e1, m1⟩ := r1
 simp only
 generalize hr3 : D9 W9 m1 w.parts = r3
 obtain ⟨e3, m3⟩ := r3
 simp only
 generalize hr4 : D9 V5 m3 w.slots = r4
 obtain ⟨e4, m4⟩ := r4
 simp only
 generalize hr5 : D9 V3 m4 w.gates = r5
 obtain ⟨e5, m5⟩ := r5
 simp only
 generalize hr2 : F6 I9 w.walls = e2
 rw [b6y, walk_eq]
 generalize [w.walk].all j4 = q6 at *
 generalize D6 (Nm.j5 w.walk) = s7 at *
 obtain ⟨arms, walls, parts, slots, gates, walk⟩ := w
 simp only at n1 n2 n3 n4 n5 b1 b2 b3 b4 b5 hr1 hr2 hr3 hr4 hr5 ⊢
 simp only [j6]
 simp only [Wk.c, Wk.enc, rsR, ams, wls, pts, sls, gts, rts, rcs, rc, sb, ints, b8y, b8E] at hnm h6 h7 ⊢
 (repeat first | refine uA ?_ | (refine uK ?_ ?_; focus first | omega | (intros; simp_all <;> omega)) | simp (disch := omega) only [go_sem, Nat.reduceBEq, Nat.reduceAdd, ww, b7Z])
 refine S.cond rfl (fun hc => ?_) (fun hc => ?_)
 ·rw [if_pos (by simp only [b8N, b8o] at hc; omega)]
  (repeat first | refine uA ?_ | (refine uK ?_ ?_; focus first | omega | (intros; simp_all <;> omega)) | simp (disch := omega) only [go_sem, Nat.reduceBEq, Nat.reduceAdd, ww])
  exact S.done (d9.out rfl (Imp.refl rfl) rfl)
 rw [if_neg (by simp only [b8J, b8v] at hc; omega)]
 simp only [b8J, b8v] at hc
 (repeat first | refine uA ?_ | (refine uK ?_ ?_; focus first | omega | (intros; simp_all <;> omega)) | simp (disch := omega) only [go_sem, Nat.reduceBEq, Nat.reduceAdd, ww, b7Z])
 refine S.cond rfl (fun hc => ?_) (fun hc => ?_)
 ·rw [if_pos (by simp only [b8o] at hc; omega)]
  (repeat first | refine uA ?_ | (refine uK ?_ ?_; focus first | omega | (intros; simp_all <;> omega)) | simp (disch := omega) only [go_sem, Nat.reduceBEq, Nat.reduceAdd, ww])
  exact S.done (d9.out rfl (Imp.refl rfl) rfl)
 rw [if_neg (by simp only [b8v] at hc; omega)]
 (repeat first | refine uA ?_ | (refine uK ?_ ?_; focus first | omega | (intros; simp_all <;> omega)) | simp (disch := omega) only [go_sem, Nat.reduceBEq, Nat.reduceAdd, ww, b7Z])
 refine S.loop (X := Nat × Nms) (fun x => ⟨[(1, .bp 0 0), (4, .clo 60 [.bp 1 0]), (58, ams arms), (59, ints arms.length), (60, ints x.1)], [.box 30 [ams arms, wls walls, pts parts, sls slots, gts gates, .v (.bool walk.neg), sb walk.num, sb walk.den], .box 122 [.rv 2], .row 9 1 (nmR x.2)]⟩)
  (fun x => x.1 <= arms.length /\ x.2.length <= x.1 /\ (e1, m1) = D9 X5 x.2 (arms.drop x.1)) (fun x => arms.length - x.1) (0, []) ⟨b8b _, b8f _, hr1.symm⟩ (Ent.trans (Ent.a0V 1 0 9 1 rfl rfl rfl) (by (repeat first | refine uA ?_ | (refine ⟨?_, ?_⟩; focus first | rfl | simp [slot]) | rfl | simp))) ?_
 rintro ⟨i, m⟩ ⟨hi, hml, hg⟩
 simp only [ams, wls, pts, sls, gts, sb, ints] at hi hml hg ⊢
 (repeat first | refine uA ?_ | (refine uK ?_ ?_; focus first | omega | (intros; simp_all <;> omega)) | simp (disch := omega) only [go_sem, Nat.reduceBEq, Nat.reduceAdd, ww])
 (refine uJ rfl (fun hc => ?_) fun hc => ?_)
 ·have hgi := b7W (show i < arms.length by omega)
  generalize arms[i]'(_) = x at hgi
  have hx := b1 x (b8c hgi)
  have hst := V6 (f := X5) (s := m) hgi
  have hnx := U8 (f := X5) (s := m) hgi
  have o1 := b3k x hx
  have o2 := fun (E : Ctx) (hP : E.P = Tryz.prog) => hnm E hP m x.name (by have := hx.1; omega) (by omega)
  have hal := a3H m x.name
  rw [b5G] at hst hnx
  generalize a0I x = a1 at *
  generalize I4 m x.name = r at *
  obtain ⟨a2, m'⟩ := r
  simp only [Am.c, Am.enc, lks, sb] at o1 o2 hal hst hnx
  (repeat first | refine uG o1 ?_ | refine uA ?_ | (refine uK ?_ ?_; focus first | omega | (intros; simp_all <;> omega)) | simp (disch := omega) only [go_sem, Nat.reduceBEq, Nat.reduceAdd, ww, hgi, b7Y, b7Z, Am.enc, lks, sb, b8m] | (refine uD o1 ?_ ?_ ?_; exact tz hw; exact rfl))
  refine S.cond rfl (fun hc2 => ?_) (fun hc2 => ?_)
  ·have h0 : a1 ≠ 0 := by simpa using hc2
   rw [if_pos h0] at hst
   rw [hst h0] at hg
   injection hg with g1 g2
   rw [if_pos (by rw [g1]; exact h0), g1]
   (repeat first | refine uA ?_ | (refine uK ?_ ?_; focus first | omega | (intros; simp_all <;> omega)) | simp (disch := omega) only [go_sem, Nat.reduceBEq, Nat.reduceAdd, ww])
   exact S.done (d9.out rfl (Imp.refl rfl) rfl)
  have h0 : ¬ a1 ≠ 0 := by simpa using hc2
  rw [if_neg h0] at hst hnx
  simp only at hst hnx
  (repeat first | refine uA ?_ | (refine uK ?_ ?_; focus first | omega | (intros; simp_all <;> omega)) | simp (disch := omega) only [go_sem, Nat.reduceBEq, Nat.reduceAdd, ww, hcal, b8y, b8E] | refine p8.t (l7.b1S _ (o2 _ rfl) rfl rfl rfl) ?_)
  refine S.cond rfl (fun hc3 => ?_) (fun hc3 => ?_)
  ·have h1 : a2 ≠ 0 := by simpa using hc3
   rw [hst h1] at hg
   injection hg with g1 g2
   rw [if_pos (by rw [g1]; exact h1), g1]
   (repeat first | refine uA ?_ | (refine uK ?_ ?_; focus first | omega | (intros; simp_all <;> omega)) | simp (disch := omega) only [go_sem, Nat.reduceBEq, Nat.reduceAdd, ww])
   exact S.done (d9.out rfl (Imp.refl rfl) rfl)
  ·have h1 : a2 = 0 := by simpa using hc3
   (repeat first | refine uA ?_ | (refine uK ?_ ?_; focus first | omega | (intros; simp_all <;> omega)) | simp (disch := omega) only [go_sem, Nat.reduceBEq, Nat.reduceAdd, ww])
   refine S.next (x := (i, m)) (i + 1, m') ⟨by simp only; omega, by simp only; omega, by simp only; rw [hg]; exact hnx h1⟩ (by simp only; omega) (by (repeat first | refine uA ?_ | (refine ⟨?_, ?_⟩; focus first | rfl | simp [slot]) | rfl | simp))
 rw [Y6 (by omega)] at hg
 injection hg with g1 g2
 subst g1 g2
 rw [if_neg (show ¬ (0 : Int) ≠ 0 by simp)]
 have hm1 : m1.length <= 4 := by omega
 clear hr1 b1 hml hi
 (repeat first | refine uA ?_ | (refine uK ?_ ?_; focus first | omega | (intros; simp_all <;> omega)) | simp (disch := omega) only [go_sem, Nat.reduceBEq, Nat.reduceAdd, ww, b7Z])
 refine S.loop (X := Nat) (fun i => ⟨[(1, .bp 0 0), (4, .clo 60 [.bp 1 0]), (78, wls walls), (79, ints walls.length), (80, ints i)], [.box 30 [ams arms, wls walls, pts parts, sls slots, gts gates, .v (.bool walk.neg), sb walk.num, sb walk.den], .box 122 [.rv 2], .row 9 1 (nmR m1)]⟩)
  (fun i => i <= walls.length /\ e2 = F6 I9 (walls.drop i)) (fun i => walls.length - i) 0 ⟨b8b _, hr2.symm⟩ (by (repeat first | refine uA ?_ | (refine ⟨?_, ?_⟩; focus first | rfl | simp [slot]) | rfl | simp)) ?_
 rintro j ⟨hj, hg⟩
 simp only [ams, wls, pts, sls, gts, sb, ints] at hj hg ⊢
 (repeat first | refine uA ?_ | (refine uK ?_ ?_; focus first | omega | (intros; simp_all <;> omega)) | simp (disch := omega) only [go_sem, Nat.reduceBEq, Nat.reduceAdd, ww])
 (refine uJ rfl (fun hc => ?_) fun hc => ?_)
 ·have hgi := b7W (show j < walls.length by omega)
  generalize walls[j]'(_) = x at hgi
  have hx := b2 x (b8c hgi)
  have hst := a1z (f := I9) hgi
  have hnx := a1v (f := I9) hgi
  have o1 := a8X x hx
  generalize I9 x = a1 at *
  simp only [vts] at o1
  (repeat first | refine uG o1 ?_ | refine uA ?_ | (refine uK ?_ ?_; focus first | omega | (intros; simp_all <;> omega)) | simp (disch := omega) only [go_sem, Nat.reduceBEq, Nat.reduceAdd, ww, hgi, b7Y, b7Z, vts, b8m] | (refine uD o1 ?_ ?_ ?_; exact tz hw; exact rfl))
  refine S.cond rfl (fun hc2 => ?_) (fun hc2 => ?_)
  ·have h0 : a1 ≠ 0 := by simpa using hc2
   rw [hst h0] at hg
   rw [if_pos (by rw [hg]; exact h0), hg]
   (repeat first | refine uA ?_ | (refine uK ?_ ?_; focus first | omega | (intros; simp_all <;> omega)) | simp (disch := omega) only [go_sem, Nat.reduceBEq, Nat.reduceAdd, ww])
   exact S.done (d9.out rfl (Imp.refl rfl) rfl)
  ·have h0 : a1 = 0 := by simpa using hc2
   (repeat first | refine uA ?_ | (refine uK ?_ ?_; focus first | omega | (intros; simp_all <;> omega)) | simp (disch := omega) only [go_sem, Nat.reduceBEq, Nat.reduceAdd, ww])
   refine S.next (j + 1) ⟨by omega, by rw [hg]; exact hnx h0⟩ (by omega) (by (repeat first | refine uA ?_ | (refine ⟨?_, ?_⟩; focus first | rfl | simp [slot]) | rfl | simp))
 rw [a1W (by omega)] at hg
 subst hg
 rw [if_neg (show ¬ (0 : Int) ≠ 0 by simp)]
 clear hr2 b2 hj
 (repeat first | refine uA ?_ | (refine uK ?_ ?_; focus first | omega | (intros; simp_all <;> omega)) | simp (disch := omega) only [go_sem, Nat.reduceBEq, Nat.reduceAdd, ww, b7Z])
 refine S.loop (X := Nat × Nms) (fun x => ⟨[(1, .bp 0 0), (4, .clo 60 [.bp 1 0]), (91, pts parts), (92, ints parts.length), (93, ints x.1)], [.box 30 [ams arms, wls walls, pts parts, sls slots, gts gates, .v (.bool walk.neg), sb walk.num, sb walk.den], .box 122 [.rv 2], .row 9 1 (nmR x.2)]⟩)
  (fun x => x.1 <= parts.length /\ x.2.length <= 4 + x.1 /\ (e3, m3) = D9 W9 x.2 (parts.drop x.1)) (fun x => parts.length - x.1) (0, m1) ⟨b8b _, hm1, hr3.symm⟩ (by (repeat first | refine uA ?_ | (refine ⟨?_, ?_⟩; focus first | rfl | simp [slot]) | rfl | simp)) ?_
 rintro ⟨k, m⟩ ⟨hk, hml, hg⟩
 simp only [ams, wls, pts, sls, gts, sb, ints] at hk hml hg ⊢
 (repeat first | refine uA ?_ | (refine uK ?_ ?_; focus first | omega | (intros; simp_all <;> omega)) | simp (disch := omega) only [go_sem, Nat.reduceBEq, Nat.reduceAdd, ww])
 (refine uJ rfl (fun hc => ?_) fun hc => ?_)
 ·have hgi := b7W (show k < parts.length by omega)
  generalize parts[k]'(_) = x at hgi
  have hx := b3 x (b8c hgi)
  have hst := V6 (f := W9) (s := m) hgi
  have hnx := U8 (f := W9) (s := m) hgi
  have o1 := a8X x.shape hx.2.1
  have o3 := a5z x.grasp ⟨hx.2.2.1.mono (by decide), hx.2.2.2.1.mono (by decide), hx.2.2.2.2.mono (by decide)⟩
  have o2 := fun (E : Ctx) (hP : E.P = Tryz.prog) => hnm E hP m x.name (by have := hx.1; omega) (by omega)
  have hal := a3H m x.name
  rw [b3H] at hst hnx
  generalize I9 x.shape = a1 at *
  generalize okF x.grasp = q at *
  generalize I4 m x.name = r at *
  obtain ⟨a2, m'⟩ := r
  obtain ⟨xn, xs, ⟨gx, gy, gh, gt⟩⟩ := x
  simp only [Fr.c, Fr.enc, vts, sb] at o1 o2 o3 hal hst hnx
  (repeat first | refine uA ?_ | (refine uK ?_ ?_; focus first | omega | (intros; simp_all <;> omega)) | simp (disch := omega) only [go_sem, Nat.reduceBEq, Nat.reduceAdd, ww, hgi, b7Y, b7Z, Pt.enc, vts, sb, b8m, hcal, b8y, b8E] | refine p8.t (l7.b1S _ (o2 _ rfl) rfl rfl rfl) ?_)
  refine S.cond rfl (fun hc2 => ?_) (fun hc2 => ?_)
  ·have h0 : a2 ≠ 0 := by simpa using hc2
   rw [if_pos h0] at hst
   rw [hst h0] at hg
   injection hg with g1 g2
   rw [if_pos (by rw [g1]; exact h0), g1]
   (repeat first | refine uA ?_ | (refine uK ?_ ?_; focus first | omega | (intros; simp_all <;> omega)) | simp (disch := omega) only [go_sem, Nat.reduceBEq, Nat.reduceAdd, ww])
   exact S.done (d9.out rfl (Imp.refl rfl) rfl)
  have h0 : ¬ a2 ≠ 0 := by simpa using hc2
  rw [if_neg h0] at hst hnx
  (repeat first | refine uG o1 ?_ | refine uA ?_ | (refine uK ?_ ?_; focus first | omega | (intros; simp_all <;> omega)) | simp (disch := omega) only [go_sem, Nat.reduceBEq, Nat.reduceAdd, ww] | (refine uD o1 ?_ ?_ ?_; exact tz hw; exact rfl))
  refine S.cond rfl (fun hc3 => ?_) (fun hc3 => ?_)
  ·have h1 : a1 ≠ 0 := by simpa using hc3
   rw [if_pos h1] at hst
   rw [hst h1] at hg
   injection hg with g1 g2
   rw [if_pos (by rw [g1]; exact h1), g1]
   (repeat first | refine uA ?_ | (refine uK ?_ ?_; focus first | omega | (intros; simp_all <;> omega)) | simp (disch := omega) only [go_sem, Nat.reduceBEq, Nat.reduceAdd, ww])
   exact S.done (d9.out rfl (Imp.refl rfl) rfl)
  have h1 : ¬ a1 ≠ 0 := by simpa using hc3
  rw [if_neg h1] at hst hnx
  (repeat first | refine uG o3 ?_ | refine uA ?_ | (refine uK ?_ ?_; focus first | omega | (intros; simp_all <;> omega)) | simp (disch := omega) only [go_sem, Nat.reduceBEq, Nat.reduceAdd, ww] | (refine uD o3 ?_ ?_ ?_; exact tz hw; exact rfl))
  refine S.cond rfl (fun hc4 => ?_) (fun hc4 => ?_)
  ·have h2 : ¬ q = true := by simpa using hc4
   rw [if_neg h2] at hst
   rw [hst (show (1 : Int) ≠ 0 by decide)] at hg
   injection hg with g1 g2
   rw [if_pos (by rw [g1]; decide), g1]
   (repeat first | refine uA ?_ | (refine uK ?_ ?_; focus first | omega | (intros; simp_all <;> omega)) | simp (disch := omega) only [go_sem, Nat.reduceBEq, Nat.reduceAdd, ww])
   exact S.done (d9.out rfl (Imp.refl rfl) rfl)
  ·have h2 : q = true := by simpa using hc4
   rw [if_pos h2] at hnx
   (repeat first | refine uA ?_ | (refine uK ?_ ?_; focus first | omega | (intros; simp_all <;> omega)) | simp (disch := omega) only [go_sem, Nat.reduceBEq, Nat.reduceAdd, ww])
   refine S.next (x := (k, m)) (k + 1, m') ⟨by simp only; omega, by simp only; omega, by simp only; rw [hg]; exact hnx rfl⟩ (by simp only; omega) (by (repeat first | refine uA ?_ | (refine ⟨?_, ?_⟩; focus first | rfl | simp [slot]) | rfl | simp))
 rw [Y6 (by omega)] at hg
 injection hg with g1 g2
 subst g1 g2
 rw [if_neg (show ¬ (0 : Int) ≠ 0 by simp)]
 have hm3 : m3.length <= 10 := by omega
 clear hr3 b3 hml hk hm1
 (repeat first | refine uA ?_ | (refine uK ?_ ?_; focus first | omega | (intros; simp_all <;> omega)) | simp (disch := omega) only [go_sem, Nat.reduceBEq, Nat.reduceAdd, ww, b7Z])
 refine S.loop (X := Nat × Nms) (fun x => ⟨[(1, .bp 0 0), (4, .clo 60 [.bp 1 0]), (116, sls slots), (117, ints slots.length), (118, ints x.1)], [.box 30 [ams arms, wls walls, pts parts, sls slots, gts gates, .v (.bool walk.neg), sb walk.num, sb walk.den], .box 122 [.rv 2], .row 9 1 (nmR x.2)]⟩)
  (fun x => x.1 <= slots.length /\ x.2.length <= 10 + x.1 /\ (e4, m4) = D9 V5 x.2 (slots.drop x.1)) (fun x => slots.length - x.1) (0, m3) ⟨b8b _, hm3, hr4.symm⟩ (by (repeat first | refine uA ?_ | (refine ⟨?_, ?_⟩; focus first | rfl | simp [slot]) | rfl | simp)) ?_
 rintro ⟨k, m⟩ ⟨hk, hml, hg⟩
 simp only [ams, wls, pts, sls, gts, sb, ints] at hk hml hg ⊢
 (repeat first | refine uA ?_ | (refine uK ?_ ?_; focus first | omega | (intros; simp_all <;> omega)) | simp (disch := omega) only [go_sem, Nat.reduceBEq, Nat.reduceAdd, ww])
 (refine uJ rfl (fun hc => ?_) fun hc => ?_)
 ·have hgi := b7W (show k < slots.length by omega)
  generalize slots[k]'(_) = x at hgi
  have hx := b4 x (b8c hgi)
  have hst := V6 (f := V5) (s := m) hgi
  have hnx := U8 (f := V5) (s := m) hgi
  have o1 := a5z x.frame ⟨hx.2.1.1.mono (by decide), hx.2.1.2.1.mono (by decide), hx.2.1.2.2.mono (by decide)⟩
  have o3 := a2r _ (b0v (by decide) (hx.2.2.mono (m := 17179869184) (by decide)))
  have o4 := R4 x.within (hx.2.2.mono (by decide))
  have o2 := fun (E : Ctx) (hP : E.P = Tryz.prog) => hnm E hP m x.name (by have := hx.1; omega) (by omega)
  have hal := a3H m x.name
  rw [b3I] at hst hnx
  rw [b5S] at hst hnx
  generalize okF x.frame = q1 at *
  generalize [x.within].all j4 = q2 at *
  generalize D6 (Nm.j5 x.within) = s3 at *
  generalize I4 m x.name = r at *
  obtain ⟨a2, m'⟩ := r
  obtain ⟨xn, ⟨gx, gy, gh, gt⟩, wi⟩ := x
  simp only [Fr.c, Fr.enc, rts, rcs, rc, sb, ints, b8y, b8E] at o1 o2 o3 o4 hal hst hnx
  (repeat first | refine uA ?_ | (refine uK ?_ ?_; focus first | omega | (intros; simp_all <;> omega)) | simp (disch := omega) only [go_sem, Nat.reduceBEq, Nat.reduceAdd, ww, hgi, b7Y, b7Z, Sl.enc, sb, b8m, hcal, b8y, b8E] | refine p8.t (l7.b1S _ (o2 _ rfl) rfl rfl rfl) ?_)
  refine S.cond rfl (fun hc2 => ?_) (fun hc2 => ?_)
  ·have h0 : a2 ≠ 0 := by simpa using hc2
   rw [if_pos h0] at hst
   rw [hst h0] at hg
   injection hg with g1 g2
   rw [if_pos (by rw [g1]; exact h0), g1]
   (repeat first | refine uA ?_ | (refine uK ?_ ?_; focus first | omega | (intros; simp_all <;> omega)) | simp (disch := omega) only [go_sem, Nat.reduceBEq, Nat.reduceAdd, ww])
   exact S.done (d9.out rfl (Imp.refl rfl) rfl)
  have h0 : ¬ a2 ≠ 0 := by simpa using hc2
  rw [if_neg h0] at hst hnx
  cases q1
  ·(repeat first | refine uG o1 ?_ | refine uG o4 ?_ | refine uG o3 ?_ | refine uA ?_ | (refine uK ?_ ?_; focus first | omega | (intros; simp_all <;> omega)) | simp (disch := omega) only [go_sem, Nat.reduceBEq, Nat.reduceAdd, ww] | (refine uD o1 ?_ ?_ ?_; exact tz hw; exact rfl) | (refine uD o4 ?_ ?_ ?_; exact tz hw; exact rfl) | (refine uE o3 ?_ ?_ ?_ ?_; exact tz hw; exact rfl; focus (repeat' first | exact l5.nil | exact Imp.refl rfl | exact Imp.frz rfl rfl rfl | (refine Imp.J6 rfl rfl ?_ ?_; (focus ((try simp only [b7X]); omega)); (focus first | rfl | assumption)) | refine l5.cons ?_ ?_); done))
   refine S.cond rfl (fun hc3 => ?_) (fun hc3 => by simp at hc3)
   rw [if_neg (by simp)] at hst
   rw [hst (show (1 : Int) ≠ 0 by decide)] at hg
   injection hg with g1 g2
   rw [if_pos (by rw [g1]; decide), g1]
   (repeat first | refine uA ?_ | (refine uK ?_ ?_; focus first | omega | (intros; simp_all <;> omega)) | simp (disch := omega) only [go_sem, Nat.reduceBEq, Nat.reduceAdd, ww])
   exact S.done (d9.out rfl (Imp.refl rfl) rfl)
  (repeat first | refine uG o1 ?_ | refine uG o4 ?_ | refine uG o3 ?_ | refine uA ?_ | (refine uK ?_ ?_; focus first | omega | (intros; simp_all <;> omega)) | simp (disch := omega) only [go_sem, Nat.reduceBEq, Nat.reduceAdd, ww] | (refine uD o1 ?_ ?_ ?_; exact tz hw; exact rfl) | (refine uD o4 ?_ ?_ ?_; exact tz hw; exact rfl) | (refine uE o3 ?_ ?_ ?_ ?_; exact tz hw; exact rfl; focus (repeat' first | exact l5.nil | exact Imp.refl rfl | exact Imp.frz rfl rfl rfl | (refine Imp.J6 rfl rfl ?_ ?_; (focus ((try simp only [b7X]); omega)); (focus first | rfl | assumption)) | refine l5.cons ?_ ?_); done))
  refine S.cond rfl (fun hc3 => ?_) (fun hc3 => ?_)
  ·rw [if_neg (by simp; simp at hc3; rcases hc3 with h | h <;> simp [h])] at hst
   rw [hst (show (1 : Int) ≠ 0 by decide)] at hg
   injection hg with g1 g2
   rw [if_pos (by rw [g1]; decide), g1]
   (repeat first | refine uA ?_ | (refine uK ?_ ?_; focus first | omega | (intros; simp_all <;> omega)) | simp (disch := omega) only [go_sem, Nat.reduceBEq, Nat.reduceAdd, ww])
   exact S.done (d9.out rfl (Imp.refl rfl) rfl)
  ·rw [if_pos (by simpa using hc3)] at hnx
   (repeat first | refine uA ?_ | (refine uK ?_ ?_; focus first | omega | (intros; simp_all <;> omega)) | simp (disch := omega) only [go_sem, Nat.reduceBEq, Nat.reduceAdd, ww])
   refine S.next (x := (k, m)) (k + 1, m') ⟨by simp only; omega, by simp only; omega, by simp only; rw [hg]; exact hnx rfl⟩ (by simp only; omega) (by (repeat first | refine uA ?_ | (refine ⟨?_, ?_⟩; focus first | rfl | simp [slot]) | rfl | simp))
 rw [Y6 (by omega)] at hg
 injection hg with g1 g2
 subst g1 g2
 rw [if_neg (show ¬ (0 : Int) ≠ 0 by simp)]
 have hm4 : m4.length <= 18 := by omega
 clear hr4 b4 hml hk hm3
 (repeat first | refine uA ?_ | (refine uK ?_ ?_; focus first | omega | (intros; simp_all <;> omega)) | simp (disch := omega) only [go_sem, Nat.reduceBEq, Nat.reduceAdd, ww, b7Z])
 refine S.loop (X := Nat × Nms) (fun x => ⟨[(1, .bp 0 0), (4, .clo 60 [.bp 1 0]), (148, gts gates), (149, ints gates.length), (150, ints x.1)], [.box 30 [ams arms, wls walls, pts parts, sls slots, gts gates, .v (.bool walk.neg), sb walk.num, sb walk.den], .box 122 [.rv 2], .row 9 1 (nmR x.2)]⟩)
  (fun x => x.1 <= gates.length /\ x.2.length <= 18 + x.1 /\ (e5, m5) = D9 V3 x.2 (gates.drop x.1)) (fun x => gates.length - x.1) (0, m4) ⟨b8b _, hm4, hr5.symm⟩ (by (repeat first | refine uA ?_ | (refine ⟨?_, ?_⟩; focus first | rfl | simp [slot]) | rfl | simp)) ?_
 rintro ⟨k, m⟩ ⟨hk, hml, hg⟩
 simp only [ams, wls, pts, sls, gts, sb, ints] at hk hml hg ⊢
 (repeat first | refine uA ?_ | (refine uK ?_ ?_; focus first | omega | (intros; simp_all <;> omega)) | simp (disch := omega) only [go_sem, Nat.reduceBEq, Nat.reduceAdd, ww])
 (refine uJ rfl (fun hc => ?_) fun hc => ?_)
 ·have hgi := b7W (show k < gates.length by omega)
  generalize gates[k]'(_) = x at hgi
  obtain ⟨hx0, ⟨hx1, hx2⟩, hx3, hx4⟩ := b5 x (b8c hgi)
  have hst := V6 (f := V3) (s := m) hgi
  have hnx := U8 (f := V3) (s := m) hgi
  have o3 := a2r _ (b3M (by decide) (hx1.mono (m := 17179869184) (by decide)) (hx2.mono (m := 17179869184) (by decide)) (hx3.mono (m := 17179869184) (by decide)) (hx4.mono (m := 17179869184) (by decide)))
  have o4 := a3j x.low.x x.high.x (hx1.mono (by decide)) (hx3.mono (by decide))
  have o5 := a3j x.low.y x.high.y (hx2.mono (by decide)) (hx4.mono (by decide))
  have o2 := fun (E : Ctx) (hP : E.P = Tryz.prog) => hnm E hP m x.name (by omega) (by omega)
  have hal := a3H m x.name
  rw [b3W] at hst hnx
  rw [b5A] at hst hnx
  generalize [x.low.x, x.low.y, x.high.x, x.high.y].all j4 = q2 at *
  generalize Nm.G5 (Nm.j5 x.low.x) (Nm.j5 x.high.x) = s3 at *
  generalize Nm.G5 (Nm.j5 x.low.y) (Nm.j5 x.high.y) = s4 at *
  generalize I4 m x.name = r at *
  obtain ⟨a2, m'⟩ := r
  obtain ⟨xn, ⟨lx, ly⟩, ⟨ux, uy⟩⟩ := x
  simp only [rts, rcs, rc, sb, ints, b8y, b8E] at o2 o3 o4 o5 hal hst hnx
  (repeat first | refine uA ?_ | (refine uK ?_ ?_; focus first | omega | (intros; simp_all <;> omega)) | simp (disch := omega) only [go_sem, Nat.reduceBEq, Nat.reduceAdd, ww, hgi, b7Y, b7Z, Gt.enc, sb, b8m, hcal, b8y, b8E] | refine p8.t (l7.b1S _ (o2 _ rfl) rfl rfl rfl) ?_)
  refine S.cond rfl (fun hc2 => ?_) (fun hc2 => ?_)
  ·have h0 : a2 ≠ 0 := by simpa using hc2
   rw [if_pos h0] at hst
   rw [hst h0] at hg
   injection hg with g1 g2
   rw [if_pos (by rw [g1]; exact h0), g1]
   (repeat first | refine uA ?_ | (refine uK ?_ ?_; focus first | omega | (intros; simp_all <;> omega)) | simp (disch := omega) only [go_sem, Nat.reduceBEq, Nat.reduceAdd, ww])
   exact S.done (d9.out rfl (Imp.refl rfl) rfl)
  have h0 : ¬ a2 ≠ 0 := by simpa using hc2
  rw [if_neg h0] at hst hnx
  (repeat first | refine uI ?_ | (refine uK ?_ ?_; focus first | omega | (intros; simp_all <;> omega)) | simp (disch := omega) only [go_sem, Nat.reduceBEq, Nat.reduceAdd, ww])
  refine S.Z6 [.gone, .gone, .gone, .box 119 [.v (.string (bs xn)), .v (.bool lx.neg), .v (.string (bs lx.num)), .v (.string (bs lx.den)), .v (.bool ly.neg), .v (.string (bs ly.num)), .v (.string (bs ly.den)), .v (.bool ux.neg), .v (.string (bs ux.num)), .v (.string (bs ux.den)), .v (.bool uy.neg), .v (.string (bs uy.num)), .v (.string (bs uy.den))]] (by simp [Eng.F3, Eng.a1m]) ?_
  (repeat first | refine uG o4 ?_ | refine uG o5 ?_ | refine uG o3 ?_ | refine uA ?_ | (refine uK ?_ ?_; focus first | omega | (intros; simp_all <;> omega)) | simp (disch := omega) only [go_sem, Nat.reduceBEq, Nat.reduceAdd, ww, F3] | (refine uD o4 ?_ ?_ ?_; exact tz hw; exact rfl) | (refine uD o5 ?_ ?_ ?_; exact tz hw; exact rfl) | (refine uE o3 ?_ ?_ ?_ ?_; exact tz hw; exact rfl; focus (repeat' first | exact l5.nil | exact Imp.refl rfl | exact Imp.frz rfl rfl rfl | (refine Imp.J6 rfl rfl ?_ ?_; (focus ((try simp only [b7X, F3]); omega)); (focus first | rfl | assumption)) | refine l5.cons ?_ ?_); done))
  refine S.cond rfl (fun hc3 => ?_) (fun hc3 => ?_)
  ·rw [if_neg (by rw [hc3]; decide)] at hst
   rw [hst (show (1 : Int) ≠ 0 by decide)] at hg
   injection hg with g1 g2
   rw [if_pos (by rw [g1]; decide), g1]
   (repeat first | refine uA ?_ | (refine uK ?_ ?_; focus first | omega | (intros; simp_all <;> omega)) | simp (disch := omega) only [go_sem, Nat.reduceBEq, Nat.reduceAdd, ww])
   exact S.done (d9.out rfl (Imp.refl rfl) rfl)
  ·rw [if_pos (by rw [hc3]; rfl)] at hnx
   (repeat first | refine uA ?_ | (refine uK ?_ ?_; focus first | omega | (intros; simp_all <;> omega)) | simp (disch := omega) only [go_sem, Nat.reduceBEq, Nat.reduceAdd, ww])
   refine S.next (x := (k, m)) (k + 1, m') ⟨by simp only; omega, by simp only; omega, by simp only; rw [hg]; exact hnx rfl⟩ (by simp only; omega) (by (repeat first | refine uA ?_ | (refine ⟨?_, ?_⟩; focus first | rfl | simp [slot]) | rfl | simp))
 rw [Y6 (by omega)] at hg
 injection hg with g1 g2
 subst g1
 rw [if_neg (show ¬ (0 : Int) ≠ 0 by simp)]
 (repeat first | refine uG h7 ?_ | refine uG h6 ?_ | refine uA ?_ | (refine uK ?_ ?_; focus first | omega | (intros; simp_all <;> omega)) | simp (disch := omega) only [go_sem, Nat.reduceBEq, Nat.reduceAdd, ww] | (refine uD h7 ?_ ?_ ?_; exact tz hw; exact rfl) | (refine uE h6 ?_ ?_ ?_ ?_; exact tz hw; exact rfl; focus (repeat' first | exact l5.nil | exact Imp.refl rfl | exact Imp.frz rfl rfl rfl | (refine Imp.J6 rfl rfl ?_ ?_; (focus ((try simp only [b7X]); omega)); (focus first | rfl | assumption)) | refine l5.cons ?_ ?_); done))
 refine S.cond rfl (fun hc => ?_) (fun hc => ?_)
 ·rw [if_pos (by simpa using hc)]
  (repeat first | refine uA ?_ | (refine uK ?_ ?_; focus first | omega | (intros; simp_all <;> omega)) | simp (disch := omega) only [go_sem, Nat.reduceBEq, Nat.reduceAdd, ww])
  exact S.done (d9.out rfl (Imp.refl rfl) rfl)
 ·rw [if_neg (by simpa using hc)]
  (repeat first | refine uA ?_ | (refine uK ?_ ?_; focus first | omega | (intros; simp_all <;> omega)) | simp (disch := omega) only [go_sem, Nat.reduceBEq, Nat.reduceAdd, ww])
  exact S.done (d9.out rfl (Imp.refl rfl) rfl)
theorem a8G : FZ 6 [] (.v (.bool true)) := by
 refine kW Tryz.func6 (by cbv) (by rfl) fun w' O hw => ?_
 have h1 := b5w
 have h2 := a5P Y1 (a8m.mono (by decide))
 have h3 := b4w
 have h4 := a4K [98, 111, 108, 116] (by decide)
 have h5 := a4K [66] (by decide)
 rw [a4J] at h2
 rw [show Q7 [98, 111, 108, 116] = true by decide] at h4
 rw [show Q7 [66] = false by decide] at h5
 generalize a4u Y1 = s at *
 generalize Y1 = w at *
 obtain ⟨arms, walls, parts, slots, gates, walk⟩ := w
 obtain ⟨tick, sarms, sparts, people, sgates⟩ := s
 simp only [j6]
 simp only [Wk.c, Wk.enc, Stt.c, Stt.enc, ams, wls, pts, sls, gts, a3a, frs, vts, bls, sb, bs, ints] at *
 (repeat first | refine uA ?_ | (refine uK ?_ ?_; focus first | omega | (intros; simp_all <;> omega)) | simp (disch := omega) only [go_sem, Nat.reduceBEq, Nat.reduceAdd, ww, decide_true] | (refine uB h4 ?_ ?_; exact rfl) | (refine uB h5 ?_ ?_; exact rfl) | (refine uD h1 ?_ ?_ ?_; exact tz hw; exact rfl) | (refine uD h2 ?_ ?_ ?_; exact tz hw; exact rfl) | (refine uD h3 ?_ ?_ ?_; exact tz hw; exact rfl))
 exact S.done (d9.out rfl (Imp.refl rfl) rfl)
theorem a7X (w : Wk) (f : Fr) (nm : List UInt8) (hwb : Wb 1048576 w) (hf : Fb 1048576 f) (hn : nm.length <= 1048576) (hl : (wkB w).length <= 1000000000) :
  FZ 3 [w.c, f.c, sb nm] (.v (.bool true)) := by
 refine kW Tryz.func3 (by cbv) (by rfl) fun w' O hw => ?_
 have hwb' : Wb 1073741824 w := hwb.mono (by decide)
 have o1 := a8G
 have o2 := a4K nm (by omega)
 have o3 := b0u nm (by omega)
 have o4 := a5I f (hf.mono (by decide))
 have o5 := a5z f (hf.mono (by decide))
 have o6 := a5P w hwb'
 have o7 := b4F w hwb'
 have o8 := b5C w hwb
 have o9 := b4p w hwb (by omega)
 have p1 := b6Y w nm (b8a hwb.arms.1 (by decide))
 have p2 := b6d w nm (b8a hwb.parts.1 (by decide))
 have p3 := b5F w nm (b8a hwb.slots.1 (by decide))
 have q1 := a8D 20 (by kernel_rfl) nm w.arms (b8a hwb.arms.1 (by decide)) fun x => b5N x nm
 have q2 := a8w 22 (by kernel_rfl) nm w.parts (b8a hwb.parts.1 (by decide)) fun x => b3S x nm
 have q3 := a8p 24 (by kernel_rfl) nm w.slots (b8a hwb.slots.1 (by decide)) fun x => b4a x nm
 have c1 : callable Tryz.prog 15 = true := by kernel_rfl
 have r1 := a6F (O0 (fun x : Am => decide (x.name = nm)) w.arms)
 have r2 := a6F (O0 (fun x : Pt => decide (x.name = nm)) w.parts)
 have r3 := a6F (O0 (fun x : Sl => decide (x.name = nm)) w.slots)
 unfold a3T at p1 p2 p3
 generalize O0 (fun x : Am => decide (x.name = nm)) w.arms = n1 at *
 generalize O0 (fun x : Pt => decide (x.name = nm)) w.parts = n2 at *
 generalize O0 (fun x : Sl => decide (x.name = nm)) w.slots = n3 at *
 generalize a3d n1 = a1 at *
 generalize a3g n1 = b1 at *
 generalize a3d n2 = a2 at *
 generalize a3g n2 = b2 at *
 generalize a3d n3 = a3 at *
 generalize a3g n3 = b3 at *
 generalize Q7 nm = t1 at *
 generalize okF f = t2 at *
 generalize a0j w = t3 at *
 generalize b1T w = R at *
 obtain ⟨arms, walls, parts, slots, gates, walk⟩ := w
 simp only [j6]
 simp only [Wk.c, Wk.enc, Fr.c, Fr.enc, ams, wls, pts, sls, gts, vts, sb, ints] at *
 (repeat first | refine uA ?_ | (refine uK ?_ ?_; focus first | omega | (intros; simp_all <;> omega)) | simp (disch := omega) only [go_sem, Nat.reduceBEq, Nat.reduceAdd, ww] | (refine uB o2 ?_ ?_; exact rfl) | (refine uB o3 ?_ ?_; exact rfl) | (refine uD o1 ?_ ?_ ?_; exact tz hw; exact rfl) | (refine uD o4 ?_ ?_ ?_; exact tz hw; exact rfl) | (refine uD o5 ?_ ?_ ?_; exact tz hw; exact rfl) | (refine uD o6 ?_ ?_ ?_; exact tz hw; exact rfl) | (refine uD o7 ?_ ?_ ?_; exact tz hw; exact rfl))
 refine S.cond rfl (fun hc => by simp at hc) (fun hc => ?_)
 (repeat first | refine uA ?_ | (refine uK ?_ ?_; focus first | omega | (intros; simp_all <;> omega)) | simp (disch := omega) only [go_sem, Nat.reduceBEq, Nat.reduceAdd, ww] | (refine uB o8 ?_ ?_; exact rfl) | (refine uB o9 ?_ ?_; exact rfl))
 refine S.cond rfl (fun hc => by simp at hc) (fun hc => ?_)
 (repeat first | refine uA ?_ | (refine uK ?_ ?_; focus first | omega | (intros; simp_all <;> omega)) | simp (disch := omega) only [go_sem, Nat.reduceBEq, Nat.reduceAdd, ww, c1] | (refine uB p1 ?_ ?_; exact rfl) | (refine uB p2 ?_ ?_; exact rfl) | (refine uB p3 ?_ ?_; exact rfl) | (refine uB r1 ?_ ?_; exact rfl) | (refine uB r2 ?_ ?_; exact rfl) | (refine uB r3 ?_ ?_; exact rfl) | (refine uC q1 ?_ ?_ ?_; exact rfl; focus (repeat' first | exact l5.nil | exact Imp.refl rfl | exact Imp.O1 | exact Imp.fbx rfl rfl (l5.refl rfl) rfl rfl | refine Imp.clo ?_ | exact Imp.frz rfl rfl rfl | (refine Imp.J6 rfl rfl ?_ ?_; (focus ((try simp only [b7X, c1]); omega)); (focus first | rfl | assumption)) | refine Imp.agg ?_ | refine l5.cons ?_ ?_); done) | (refine uC q2 ?_ ?_ ?_; exact rfl; focus (repeat' first | exact l5.nil | exact Imp.refl rfl | exact Imp.O1 | exact Imp.fbx rfl rfl (l5.refl rfl) rfl rfl | refine Imp.clo ?_ | exact Imp.frz rfl rfl rfl | (refine Imp.J6 rfl rfl ?_ ?_; (focus ((try simp only [b7X, c1]); omega)); (focus first | rfl | assumption)) | refine Imp.agg ?_ | refine l5.cons ?_ ?_); done) | (refine uC q3 ?_ ?_ ?_; exact rfl; focus (repeat' first | exact l5.nil | exact Imp.refl rfl | exact Imp.O1 | exact Imp.fbx rfl rfl (l5.refl rfl) rfl rfl | refine Imp.clo ?_ | exact Imp.frz rfl rfl rfl | (refine Imp.J6 rfl rfl ?_ ?_; (focus ((try simp only [b7X, c1]); omega)); (focus first | rfl | assumption)) | refine Imp.agg ?_ | refine l5.cons ?_ ?_); done))
 exact S.done (d9.out rfl (Imp.refl rfl) rfl)
open Go Go.RowKit Go.ChangeShapes Go.WideShapes Eng
theorem b4h {H : Type} {l : List (DataW H)} (hk : Rows.uptoSmall H l = true) : Rows.uptoBulkAll l <= 1048576 := of_decide_eq_true hk
theorem b3y {H : Type} (l r : List (DataW H)) : Rows.uptoBulkAll (l ++ r) = Rows.uptoBulkAll l + Rows.uptoBulkAll r := by
 induction l with
 | nil => simp [Rows.uptoBulkAll]
 | cons x l ih => simp only [List.cons_append, Rows.uptoBulkAll, ih]; omega
def noB : Nat -> Prop := fun _ => False
section
variable {H : Type} {enc : TypeId × Value -> H} {P : Program} {W : World}
def Opens (enc : TypeId × Value -> H) (P : Program) (W : World) (t : TypeId) {α : Type} (tc : α -> List C) (ok : α -> Prop) (ms : α -> Nat) : Prop :=
 ∀ (fuel : Nat) (cs : List Value) (x : DataW H × List MemPlace), DataW.trod enc P W 0 (fun _ => true) true fuel t cs = some x -> ∃ a : α, FzL W noB (tc a) cs /\ (∀ u ∈ cs, u.oneCell' = true) /\ ok a /\ ms a <= Rows.uptoBulk x.1
theorem b1q {t : TypeId} (ht : P.underlying t = some .bool) : Opens enc P W t (fun b : Bool => [.v (.bool b)]) (fun _ => True) fun _ => 1 := by
 intro fuel cs x h
 obtain ⟨b, rfl, rfl⟩ := DataW.trod_bool ht h
 exact ⟨b, by simp [FzL, Fz], by simp [Value.oneCell'], trivial, by simp [Rows.uptoBulk]⟩
theorem a7e {t : TypeId} (ht : P.underlying t = some .string) : Opens enc P W t (fun s : ByteArray => [.v (.string s)]) (fun s => s.size <= 9223372036854775807) fun s => s.size + 1 := by
 intro fuel cs x h
 obtain ⟨s, rfl, rfl, hw⟩ := DataW.trod_string ht h
 refine ⟨s, by simp [FzL, Fz], by simp [Value.oneCell'], hw, ?_⟩
 have : s.data.toList.length = s.size := by cases s; simp [ByteArray.size]
 simp only [Rows.uptoBulk, this]
 omega
theorem Opens.imp {t : TypeId} {α β : Type} {tc : α -> List C} {ok : α -> Prop} {ms : α -> Nat} {tc' : β -> List C} {ok' : β -> Prop} {ms' : β -> Nat} (h : Opens enc P W t tc ok ms)
  (f : ∀ a, ok a -> ∃ b, tc a = tc' b /\ ok' b /\ ms' b <= ms a) : Opens enc P W t tc' ok' ms' := by
 intro fuel cs x hx
 obtain ⟨a, h0, h01, h1, h2⟩ := h fuel cs x hx
 obtain ⟨b, h3, h4, h5⟩ := f a h1
 exact ⟨b, by rw [<- h3]; exact h0, h01, h4, b8a h5 h2⟩
theorem b2n {w : World} {O : Nat -> Prop} {q : List C} {vs : List Value} {ad : Addr} {j : Nat} (hF : FzL w O q vs) (h1 : ∀ u ∈ vs, u.oneCell' = true) (hc : ∀ i v, vs[i]? = some v -> w.cell? (ad.add (j + i)) = some v) : FzA w O q ad j := FzA.of hF h1 hc
theorem X8 {t e : TypeId} {α : Type} {tc : α -> List C} {ok : α -> Prop} {ms : α -> Nat} {sz : Nat} (ht : P.underlying t = some (.slice e)) (hc : P.cellsOf e = sz) (hsz : 0 < sz) (hlen : ∀ a, (tc a).length = sz)
  (he : Opens enc P W e tc ok ms) : Opens enc P W t (fun xs : List α => [.sl sz (xs.map tc)]) (fun xs => ∀ a ∈ xs, ok a) fun xs => 1 + (xs.map ms).sum := by
 intro fuel cs x h
 rcases Deep.open_slice ht h with ⟨rfl, rfl⟩ | ⟨a, len, cap, m, n, D, Pl, rfl, _, hl, hm, hmm, rfl, hx⟩
 ·refine ⟨[], ?_, by simp [Value.oneCell'], (fun a ha => by cases ha), by simp [Rows.uptoBulk]⟩
  simp only [FzL, Fz]
  exact ⟨_, _, rfl, ⟨none, 0, rfl, b8f _, b8b _, fun h => by simp at h⟩, rfl⟩
 ·have hlm : len <= m := by rw [hmm]; split <;> omega
  have key : ∀ i, i < len -> ∃ (y : α) (vs : List Value), W.cells? 0 (a.add (i * sz)) sz = some vs /\ FzL W noB (tc y) vs /\ (∀ u ∈ vs, u.oneCell' = true) /\ ok y /\ ms y <= Rows.uptoBulk (D i) := by
   intro i hi
   obtain ⟨cs', h1, h2⟩ := hx i (by omega)
   obtain ⟨y, h31, h32, h3, h4⟩ := he _ _ _ h2
   rw [hc] at h1
   exact ⟨y, cs', h1, h31, h32, h3, h4⟩
  have build : ∀ k, k <= len -> ∃ xs : List α, xs.length = k /\ (∀ i y, xs[i]? = some y -> ∃ vs, W.cells? 0 (a.add (i * sz)) sz = some vs /\ FzL W noB (tc y) vs /\ (∀ u ∈ vs, u.oneCell' = true) /\ ok y) /\ (xs.map ms).sum <= Rows.uptoBulkAll ((List.range k).map D) := by
   intro k
   induction k with
   | zero => intro _; exact ⟨[], rfl, (fun i y h => by simp at h), by simp⟩
   | succ k ih =>
    intro hk
    obtain ⟨xs, h1, h2, h3⟩ := ih (by omega)
    obtain ⟨y, vs, h4, h41, h42, h5, h6⟩ := key k (by omega)
    refine ⟨xs ++ [y], by simp [h1], fun i z hz => ?_, ?_⟩
    ·rcases b8s i xs.length with hlt | hge
     ·rw [b8d hlt] at hz
      exact h2 i z hz
     ·rw [b8k hge] at hz
      have : i - xs.length = 0 := by
       rcases b8t (i - xs.length) with h0 | h0
       ·exact h0
       ·obtain ⟨d, hd⟩ : ∃ d, i - xs.length = d + 1 := ⟨i - xs.length - 1, by omega⟩
        rw [hd] at hz; simp at hz
      rw [this] at hz
      simp at hz
      subst hz
      have : i = k := by omega
      subst this
      exact ⟨vs, h4, h41, h42, h5⟩
    ·rw [b8O, List.sum_append, List.range_succ, b8O, b3y]
     simp only [b8y, b8E, List.sum_cons, List.sum_nil, Rows.uptoBulkAll]
     omega
  obtain ⟨xs, h1, h2, h3⟩ := build len (b8f _)
  have hcell : ∀ (i : Nat) (y : α), xs[i]? = some y -> (tc y).length = sz /\ FzA W noB (tc y) a (i * sz) := by
   intro i y hy
   obtain ⟨vs, h4, h41, h42, _⟩ := h2 i y hy
   obtain ⟨_, h5, h6⟩ := World.cells?_some h4
   refine ⟨hlen _, b2n h41 h42 fun j v hv => ?_⟩
   have hj : j < sz := by
    have := (b8e.1 hv).1
    rwa [h5] at this
   have h7 := h6 j hj
   rw [hv, Deep.add_add] at h7
   exact h7
  refine ⟨xs, ?_, by simp [Value.oneCell'], fun y hy => ?_, ?_⟩
  ·simp only [FzL]
   refine ⟨_, _, rfl, ?_, rfl⟩
   simp only [Fz]
   refine ⟨some a, cap, by simp [h1], by simp; omega, hm, fun h0 => ⟨a, rfl, ?_, (fun h => h), FzE.of fun k q hq => ?_⟩⟩
   ·have hi : 0 < xs.length := by simpa using h0
    obtain ⟨hq1, hq2⟩ := hcell 0 xs[0] (b7W hi)
    have h9 : 0 < (tc xs[0]).length := by omega
    match htc : tc xs[0], h9, hq2 with
    | c :: cs, _, hq2 =>
     simp only [FzA] at hq2
     obtain ⟨⟨v, hv, _⟩, _⟩ := hq2
     have h10 := block_lt_of_cell hv
     rwa [add_block] at h10
   ·rw [b8K] at hq
    obtain ⟨y, hy, rfl⟩ := Option.map_eq_some_iff.1 hq
    rw [b8A]; exact hcell k y hy
  ·obtain ⟨i, hi⟩ := List.mem_iff_getElem?.1 hy
   exact (h2 i y hi).choose_spec.2.2.2
  ·simp only [Rows.uptoBulk]
   omega
def P5 (P : Program) : List Field -> Nat -> Option Nat
 | [], n => some n
 | f :: fs, n => if f.offset = n then P5 P fs (n + P.cellsOf f.type) else none
def Parts (enc : TypeId × Value -> H) (P : Program) (W : World) (n : Nat) : List TypeId -> List (List Value) -> List (DataW H × List MemPlace) -> Prop
 | [], cs, ys => cs = [] /\ ys = []
 | f :: fs, cs, ys => ∃ c cr y yr, cs = c :: cr /\ ys = y :: yr /\ DataW.trod enc P W 0 (fun _ => true) true n f c = some y /\ Parts enc P W n fs cr yr
theorem a9I {t : TypeId} {fs : Array Field} {fuel : Nat} {cs : List Value} {x : DataW H × List MemPlace} (hu : P.underlying t = some (.struct fs)) (hc : P5 P fs.toList 0 = some (P.cellsOf t)) (h : DataW.trod enc P W 0 (fun _ => true) true fuel t cs = some x) :
    ∃ (n : Nat) (ps : List (List Value)) (ys : List (DataW H × List MemPlace)), cs = ps.flatten /\ x = (.agg (ys.map (·.1)), ys.flatMap (·.2)) /\ Parts enc P W n (fs.toList.map (·.type)) ps ys := by
  obtain ⟨xs, n, rfl, rfl, hlen, hxl, hf⟩ := DataW.trod_struct hu h
  have gen : ∀ (l : List Field) (off tot : Nat) (zs : List (DataW H × List MemPlace)), P5 P l off = some tot -> zs.length = l.length -> (∀ (i : Nat) (f : Field), l[i]? = some f -> DataW.trod enc P W 0 (fun _ => true) true n f.type ((cs.drop f.offset).take (P.cellsOf f.type)) = zs[i]?) ->
      off <= tot /\ ∃ ps, (cs.drop off).take (tot - off) = ps.flatten /\ Parts enc P W n (l.map (·.type)) ps zs := by
    intro l
    induction l with
    | nil =>
      intro off tot zs hc hl _
      simp only [P5, Option.some.injEq] at hc
      subst hc
      have : zs = [] := List.length_eq_zero_iff.1 hl
      subst this
      exact ⟨b8f _, [], by simp, rfl, rfl⟩
    | cons f l ih =>
      intro off tot zs hc hl hf
      simp only [P5] at hc
      split at hc
      · rename_i ho
        cases zs with
        | nil => simp at hl
        | cons z zs =>
          obtain ⟨h1, ps, h2, h3⟩ := ih _ tot zs hc (by simpa using hl) fun i g hg => by have := hf (i + 1) g (by simpa using hg); simpa using this
          have h0 := hf 0 f rfl
          rw [ho] at h0
          refine ⟨by omega, ((cs.drop off).take (P.cellsOf f.type)) :: ps, ?_, _, _, _, _, rfl, rfl, h0, h3⟩
          rw [List.flatten_cons, <- h2, <- List.drop_drop]
          have e : tot - off = P.cellsOf f.type + (tot - (off + P.cellsOf f.type)) := by omega
          rw [e, List.take_add]
      · cases hc
  obtain ⟨_, ps, h2, h3⟩ := gen fs.toList 0 _ xs hc (by simpa using hxl) fun i f hi => hf i f (by simpa using hi)
  refine ⟨n, ps, xs, ?_, rfl, h3⟩
  rw [<- h2, Nat.sub_zero, List.drop_zero, <- hlen, b8n]
theorem FzL.app {w : World} {O : Nat -> Prop} : ∀ {cs ds : List C} {vs us : List Value}, FzL w O cs vs -> FzL w O ds us -> FzL w O (cs ++ ds) (vs ++ us)
 | [], ds, vs, us, h, k => by simp only [FzL] at h; subst h; simpa using k
 | c :: cs, ds, vs, us, h, k => by
  simp only [FzL] at h
  obtain ⟨y, ys, rfl, h1, h2⟩ := h
  exact ⟨y, ys ++ us, rfl, h1, FzL.app h2 k⟩
def a6p (enc : TypeId × Value -> H) (P : Program) (W : World) (ts : List TypeId) {α : Type} (tc : α -> List C) (ok : α -> Prop) (ms : α -> Nat) : Prop :=
 ∀ (n : Nat) (ps : List (List Value)) (ys : List (DataW H × List MemPlace)), Parts enc P W n ts ps ys -> ∃ a : α, FzL W noB (tc a) ps.flatten /\ (∀ u ∈ ps.flatten, u.oneCell' = true) /\ ok a /\ ms a <= Rows.uptoBulkAll (ys.map (·.1))
theorem M6 : a6p enc P W [] (fun _ : Unit => []) (fun _ => True) fun _ => 0 := by
 rintro n ps ys ⟨rfl, rfl⟩
 exact ⟨(), by simp [FzL], by simp, trivial, b8b _⟩
theorem q8 {t : TypeId} {ts : List TypeId} {α β : Type} {tc : α -> List C} {ok : α -> Prop} {ms : α -> Nat} {tc' : β -> List C} {ok' : β -> Prop} {ms' : β -> Nat} (h : Opens enc P W t tc ok ms) (h' : a6p enc P W ts tc' ok' ms') :
  a6p enc P W (t :: ts) (fun p : α × β => tc p.1 ++ tc' p.2) (fun p => ok p.1 /\ ok' p.2) fun p => ms p.1 + ms' p.2 := by
 rintro n ps ys ⟨c, cr, y, yr, rfl, rfl, h1, h2⟩
 obtain ⟨a, a1, a2, a3, a4⟩ := h _ _ _ h1
 obtain ⟨b, b1, b2, b3, b4⟩ := h' _ _ _ h2
 refine ⟨(a, b), by rw [List.flatten_cons]; exact FzL.app a1 b1, fun u hu => ?_, ⟨a3, b3⟩, ?_⟩
 ·rw [List.flatten_cons] at hu
  rcases List.mem_append.1 hu with hu | hu
  ·exact a2 u hu
  ·exact b2 u hu
 ·simp only [b8y, Rows.uptoBulkAll]
  omega
theorem J3 {t : TypeId} {fs : Array Field} {ts : List TypeId} {α : Type} {tc : α -> List C} {ok : α -> Prop} {ms : α -> Nat} (hu : P.underlying t = some (.struct fs)) (hts : fs.toList.map (·.type) = ts) (hc : P5 P fs.toList 0 = some (P.cellsOf t)) (h : a6p enc P W ts tc ok ms) :
  Opens enc P W t tc ok fun a => ms a + 1 := by
 intro fuel cs x hx
 obtain ⟨n, ps, ys, rfl, rfl, hp⟩ := a9I hu hc hx
 rw [hts] at hp
 obtain ⟨a, a1, a2, a3, a4⟩ := h _ _ _ hp
 exact ⟨a, a1, a2, a3, by simp only [Rows.uptoBulk]; omega⟩
theorem b4g {f : Func} {s : ChangeSpec} {apart fresh handsOn again : Bool} {W' : World} {args : Array Value} {ds gs : List (DataW H)} {before : List MemPlace} {tb : TypeId} (hl : laidOutB P = true) (hpar : ∀ t ∈ f.params.toList, P.readableRec t = true /\ t < P.types.size)
  (hrt : f.resultTypes = #[tb]) (htb : P.underlying tb = some .bool) (hv : s.vars = []) (hfn : s.fn H (ds ++ gs) = { results := [.lit (.bool true)], args := ds }) (hW : DataW.Whole enc P f.params.toList s.vars apart W args.toList ds gs before) (hb : Below W.heap.size W W') :
  s.post enc P f apart fresh handsOn again W args (.bool true) W' := by
 have hlt : ∀ p ∈ before, p.block < W.heap.size := fun p hp => hW.lt p hp
 obtain ⟨p, q, hA, hV, hps, hz, hn⟩ := id hW
 rw [hv] at hV
 obtain ⟨rfl, rfl⟩ := trodVars_none hV
 rw [List.append_nil] at hps
 subst hps
 have all : ∀ (sp : Nat -> Bool) (ts : List TypeId) (vs : List Value) (es : List (DataW H)) (pl : List MemPlace), (∀ t ∈ ts, P.readableRec t = true /\ t < P.types.size) -> (∀ x ∈ pl, x.block < W.heap.size /\ sp x.block = true) -> DataW.TrodAll enc P W 0 (fun _ => true) true ts vs es pl -> DataW.TrodAll enc P W' 0 sp true ts vs es pl := by
  intro sp ts
  induction ts with
  | nil =>
   intro vs es pl _ _ h
   cases vs <;> cases es <;> simp only [DataW.TrodAll] at h ⊢ <;> exact h
  | cons t ts ih =>
   intro vs es pl hts hpl h
   cases vs <;> cases es <;> simp only [DataW.TrodAll] at h ⊢
   obtain ⟨p1, p2, h1, h2, rfl⟩ := h
   refine ⟨p1, p2, ?_, ih _ _ _ (fun t ht => hts t (List.mem_cons_of_mem _ ht)) (fun x hx => hpl x (List.mem_append_right _ hx)) h2, rfl⟩
   exact WideElems.Trod_stays hl (hts t (List.mem_cons_self ..)).1 (hts t (List.mem_cons_self ..)).2 h1 (fun x hx => hb.same (hpl x (List.mem_append_left _ hx)).1) fun x hx => (hpl x (List.mem_append_left _ hx)).2
 have hres : ∀ (b : Nat) (sp : Nat -> Bool) (hd : Bool), DataW.TrodAll enc P W' b sp hd f.resultTypes.toList ((Value.bool true).resultList f.resultTypes.size) (s.fn H (ds ++ [])).results [] := by
  intro b sp hd
  rw [hrt, hfn]
  exact trodAll_cons_mk (shut_bool htb true) trodAll_mk0
 have hargs : ∀ sp : Nat -> Bool, (∀ p' ∈ before, sp p'.block = true) -> DataW.TrodAll enc P W' 0 sp true f.params.toList args.toList (s.fn H (ds ++ [])).args before := fun sp hsp => by
  rw [hfn]
  exact all sp _ _ _ _ hpar (fun x hx => ⟨hlt x hx, hsp x hx⟩) hA
 have hvars : ∀ sp : Nat -> Bool, DataW.TrodVars enc P W' sp s.vars (s.fn H (ds ++ [])).vars [] := fun sp => by rw [hv, hfn]; rfl
 have hold : ∀ p' ∈ before, (fun b => decide (b < W.heap.size)) p'.block = true := fun p' hp => by simpa using hlt p' hp
 refine ⟨ds, [], before, [], before, [], hW, hres _ _ _, hargs _ hold, hvars _, World.keptBut_mono (fun p' hp => ⟨hp, ?_⟩) (hb.frame (· ∈ before)), fun _ => ⟨ok_one hrt rfl (okWide_bool_mk htb _), _, _, ([] ++ before) ++ [], ⟨[] ++ before, [], trodAll_append (hargs _ (fun _ _ => rfl)) (hres _ _ _), hvars _, rfl, ?_, ?_⟩, ?_⟩⟩
 ·exact Or.inr (by simpa using hp)
 ·intro b off hp
  have hin : MemPlace.cell b off ∈ before := by simpa using hp
  rw [hb.frozen (hlt _ hin)]
  exact hz b off hin
 ·intro ha
  have := hn ha
  simpa using this
 ·intro p' hp _
  simpa using hp
end
open Go Go.RowKit Go.ChangeShapes Go.WideShapes Go.ChangeAt Eng
set_option maxRecDepth 10000
theorem b3x : ownKnob Tryz.prog.godebug = none := by kernel_rfl
theorem b3Q : laidOutB Tryz.prog = true := by kernel_rfl
theorem gDb : Tryz.prog.globalNamed "math/bits.deBruijn64tab" = some 3 := by kernel_rfl
theorem b5r : (Tryz.prog.globals[3]?).map (·.type) = some 283 := by kernel_rfl
theorem b4j : Tryz.prog.cellsOf 283 = 64 := by kernel_rfl
theorem b5D : Tryz.prog.cellsOf 5 = 1 := by kernel_rfl
theorem b3p : Tryz.prog.underlying 283 = some (.array 64 5) := by kernel_rfl
theorem b6P : Tryz.prog.underlying 5 = some (.int .u8) := by kernel_rfl
theorem b5K : (Rows.laid_math_bits_deBruijn64tab : DataW Unit) = Lib.tabData .u8 (Lib.deBruijn64tab.map fun n : Nat => (n : Int)) := by rfl
theorem b7u {W : World} {rest : List (String × DataW Unit)} (h : laidMet Tryz.prog (("math/bits.deBruijn64tab", Rows.laid_math_bits_deBruijn64tab) :: rest) W) : Wz W := by
 rw [b5K] at h
 have ht := Lib.tabIs_of_head gDb b5r b3p b6P b5D b4j h
 intro j hj
 have := ht.cell gDb j (by rw [b7Z]; exact hj)
 rw [this]
 congr 2
 rw [b8h, b8h, b8K, b7W hj]
 rfl
section
variable {H : Type} {enc : TypeId × Value -> H} {W : World}
end
noncomputable def laidWorld (os : Os) : World := World.doorLaid Tryz.prog 400 os
theorem b0y {α : Type} {f : α -> Nat} : ∀ {l : List α} {x : α}, x ∈ l -> f x <= (l.map f).sum
 | y :: l, x, h => by
  rw [b8y, List.sum_cons]
  rcases List.mem_cons.1 h with rfl | h
  ·omega
  ·have := b0y (f := f) h; omega
theorem a6V {α : Type} {f : α -> Nat} (hf : ∀ x, 1 <= f x) : ∀ (l : List α), l.length <= (l.map f).sum
 | [] => b8f _
 | y :: l => by
  have h1 := hf y
  have h2 := a6V hf l
  rw [b8y, List.sum_cons, b8r]; omega
def rtM (a : Nm.Rt) : Nat := 3 + a.num.length + a.den.length
def vtM (v : Vt) : Nat := rtM v.x + rtM v.y
def frM (f : Fr) : Nat := rtM f.x + rtM f.y + rtM f.t
def lsM {α : Type} (f : α -> Nat) (l : List α) : Nat := 1 + (l.map f).sum
def lkM (l : Lk) : Nat := rtM l.length + rtM l.low + rtM l.high + rtM l.speed + rtM l.brake + lsM vtM l.shape
def amM (a : Am) : Nat := a.name.length + frM a.base + lsM lkM a.links
def ptM (p : Pt) : Nat := p.name.length + lsM vtM p.shape + frM p.grasp
def slM (s : Sl) : Nat := s.name.length + frM s.frame + rtM s.within
def gtM (g : Gt) : Nat := g.name.length + vtM g.low + vtM g.high
def wkM (w : Wk) : Nat := lsM amM w.arms + lsM (lsM vtM) w.walls + lsM ptM w.parts + lsM slM w.slots + lsM gtM w.gates + rtM w.walk
theorem a1P {a : Nm.Rt} {k : Nat} (h : rtM a <= k) : Rb k a := by unfold rtM at h; exact ⟨by omega, by omega⟩
theorem b4y {a : Vt} {k : Nat} (h : vtM a <= k) : Vb k a := by unfold vtM at h; exact ⟨a1P (by omega), a1P (by omega)⟩
theorem b1F {a : Fr} {k : Nat} (h : frM a <= k) : Fb k a := by unfold frM at h; exact ⟨a1P (by omega), a1P (by omega), a1P (by omega)⟩
theorem a5R {α : Type} {f : α -> Nat} {l : List α} {k : Nat} (hf : ∀ x, 1 <= f x) (h : lsM f l <= k) : l.length <= k /\ ∀ x ∈ l, f x <= k := by
 unfold lsM at h
 have := a6V hf l
 exact ⟨by omega, fun x hx => by have := b0y (f := f) hx; omega⟩
theorem a4Z (a : Nm.Rt) : 1 <= rtM a := by unfold rtM; omega
theorem a4X (a : Vt) : 1 <= vtM a := by have := a4Z a.x; unfold vtM; omega
theorem a5d (a : Fr) : 1 <= frM a := by have := a4Z a.x; unfold frM; omega
theorem a4L {α : Type} (f : α -> Nat) (l : List α) : 1 <= lsM f l := by unfold lsM; omega
theorem b0t (a : Lk) : 1 <= lkM a := by have := a4Z a.length; unfold lkM; omega
theorem b0p (a : Am) : 1 <= amM a := by have := a5d a.base; unfold amM; omega
theorem b0U (a : Pt) : 1 <= ptM a := by have := a5d a.grasp; unfold ptM; omega
theorem b0z (a : Sl) : 1 <= slM a := by have := a5d a.frame; unfold slM; omega
theorem b0r (a : Gt) : 1 <= gtM a := by have := a4X a.low; unfold gtM; omega
theorem b1l {l : List Vt} {k : Nat} (h : lsM vtM l <= k) : Vbs k l := by
 obtain ⟨h1, h2⟩ := a5R a4X h
 exact ⟨h1, fun x hx => b4y (h2 x hx)⟩
theorem b7D {w : Wk} {k : Nat} (h : wkM w <= k) : Wb k w := by
 unfold wkM at h
 obtain ⟨a1, a2⟩ := a5R b0p (show lsM amM w.arms <= k by omega)
 obtain ⟨b1, b2⟩ := a5R (a4L vtM) (show lsM (lsM vtM) w.walls <= k by omega)
 obtain ⟨c1, c2⟩ := a5R b0U (show lsM ptM w.parts <= k by omega)
 obtain ⟨d1, d2⟩ := a5R b0z (show lsM slM w.slots <= k by omega)
 obtain ⟨e1, e2⟩ := a5R b0r (show lsM gtM w.gates <= k by omega)
 refine ⟨⟨a1, fun x hx => ?_⟩, ⟨b1, fun x hx => b1l (b2 x hx)⟩, ⟨c1, fun x hx => ?_⟩, ⟨d1, fun x hx => ?_⟩, ⟨e1, fun x hx => ?_⟩, a1P (by omega)⟩
 ·have := a2 x hx
  unfold amM at this
  obtain ⟨f1, f2⟩ := a5R b0t (show lsM lkM x.links <= k by omega)
  refine ⟨by omega, b1F (by omega), f1, fun l hl => ?_⟩
  have := f2 l hl
  unfold lkM at this
  exact ⟨a1P (by omega), a1P (by omega), a1P (by omega), a1P (by omega), a1P (by omega), b1l (by omega)⟩
 ·have := c2 x hx
  unfold ptM at this
  exact ⟨by omega, b1l (by omega), b1F (by omega)⟩
 ·have := d2 x hx
  unfold slM at this
  exact ⟨by omega, b1F (by omega), a1P (by omega)⟩
 ·have := e2 x hx
  unfold gtM at this
  exact ⟨by omega, b4y (by omega), b4y (by omega)⟩
section
variable {H : Type} {enc : TypeId × Value -> H} {W : World}
theorem o_b : Opens enc Tryz.prog W 4 (fun b : Bool => [.v (.bool b)]) (fun _ => True) fun _ => 1 := b1q Tryz.underlying4
theorem o_s : Opens enc Tryz.prog W 9 (fun l : List UInt8 => [sb l]) (fun _ => True) fun l => l.length + 1 :=
 (a7e Tryz.underlying9).imp fun s _ => ⟨s.data.toList, by simp only [sb, b5x], trivial, by have h : s.data.toList.length = s.size := (by cases s; simp [ByteArray.size]); omega⟩
theorem b2v : ∃ fs, Tryz.prog.underlying 28 = some (.struct fs) /\ fs.toList.map (·.type) = [4, 9, 9] /\ P5 Tryz.prog fs.toList 0 = some (Tryz.prog.cellsOf 28) := ⟨_, Tryz.underlying28, rfl, by kernel_rfl⟩
theorem a2Z : Opens enc Tryz.prog W 28 rcs (fun _ => True) rtM := by
 obtain ⟨fs, h1, h2, h3⟩ := b2v
 refine (J3 h1 h2 h3 (q8 o_b (q8 o_s (q8 o_s M6)))).imp ?_
 rintro ⟨a, b, c, _⟩ hok
 exact ⟨⟨a, b, c⟩, rfl, trivial, by simp only [rtM]; omega⟩
theorem b2V : ∃ fs, Tryz.prog.underlying 32 = some (.struct fs) /\ fs.toList.map (·.type) = [28, 28] /\ P5 Tryz.prog fs.toList 0 = some (Tryz.prog.cellsOf 32) := ⟨_, Tryz.underlying32, rfl, by kernel_rfl⟩
theorem b4x : Tryz.prog.cellsOf 32 = 6 := by kernel_rfl
theorem b1N : Opens enc Tryz.prog W 32 Vt.enc (fun _ => True) vtM := by
 obtain ⟨fs, h1, h2, h3⟩ := b2V
 refine (J3 h1 h2 h3 (q8 a2Z (q8 a2Z M6))).imp ?_
 rintro ⟨a, b, _⟩ hok
 exact ⟨⟨a, b⟩, rfl, trivial, by simp only [vtM]; omega⟩
theorem b2e : ∃ fs, Tryz.prog.underlying 34 = some (.struct fs) /\ fs.toList.map (·.type) = [4, 28] /\ P5 Tryz.prog fs.toList 0 = some (Tryz.prog.cellsOf 34) := ⟨_, Tryz.underlying34, rfl, by kernel_rfl⟩
theorem b7S : Opens enc Tryz.prog W 34 (fun p : Bool × Nm.Rt => .v (.bool p.1) :: rcs p.2) (fun _ => True) fun p => rtM p.2 := by
 obtain ⟨fs, h1, h2, h3⟩ := b2e
 refine (J3 h1 h2 h3 (q8 o_b (q8 a2Z M6))).imp ?_
 rintro ⟨a, b, _⟩ hok
 exact ⟨⟨a, b⟩, rfl, trivial, by simp only; omega⟩
theorem b2W : ∃ fs, Tryz.prog.underlying 36 = some (.struct fs) /\ fs.toList.map (·.type) = [32, 34] /\ P5 Tryz.prog fs.toList 0 = some (Tryz.prog.cellsOf 36) := ⟨_, Tryz.underlying36, rfl, by kernel_rfl⟩
theorem b1b : Opens enc Tryz.prog W 36 Fr.enc (fun _ => True) frM := by
 obtain ⟨fs, h1, h2, h3⟩ := b2W
 refine (J3 h1 h2 h3 (q8 b1N (q8 b7S M6))).imp ?_
 rintro ⟨⟨x, y⟩, ⟨h, t⟩, _⟩ hok
 exact ⟨⟨x, y, h, t⟩, rfl, trivial, by simp only [frM, vtM]; omega⟩
theorem b1c : Opens enc Tryz.prog W 44 (fun l => [vts l]) (fun _ => True) (lsM vtM) :=
 (X8 Tryz.underlying44 b4x (by decide) (fun _ => rfl) b1N).imp fun l hl => ⟨l, rfl, trivial, b8f _⟩
theorem b1Z : Tryz.prog.cellsOf 44 = 1 := by kernel_rfl
theorem b2Q : ∃ fs, Tryz.prog.underlying 127 = some (.struct fs) /\ fs.toList.map (·.type) = [28, 28, 28, 28, 28, 44] /\ P5 Tryz.prog fs.toList 0 = some (Tryz.prog.cellsOf 127) := ⟨_, Tryz.underlying127, rfl, by kernel_rfl⟩
theorem b4A : Tryz.prog.cellsOf 127 = 16 := by kernel_rfl
theorem b7I : Opens enc Tryz.prog W 127 Lk.enc (fun _ => True) lkM := by
 obtain ⟨fs, h1, h2, h3⟩ := b2Q
 refine (J3 h1 h2 h3 (q8 a2Z (q8 a2Z (q8 a2Z (q8 a2Z (q8 a2Z (q8 b1c M6))))))).imp ?_
 rintro ⟨a, b, c, d, e, f, _⟩ hok
 exact ⟨⟨a, b, c, d, e, f⟩, rfl, trivial, by simp only [lkM]; omega⟩
theorem b7v : Opens enc Tryz.prog W 58 (fun l => [lks l]) (fun _ => True) (lsM lkM) :=
 (X8 Tryz.underlying58 b4A (by decide) (fun _ => rfl) b7I).imp fun l hl => ⟨l, rfl, trivial, b8f _⟩
theorem b2p : ∃ fs, Tryz.prog.underlying 60 = some (.struct fs) /\ fs.toList.map (·.type) = [9, 36, 58] /\ P5 Tryz.prog fs.toList 0 = some (Tryz.prog.cellsOf 60) := ⟨_, Tryz.underlying60, rfl, by kernel_rfl⟩
theorem b4s : Tryz.prog.cellsOf 60 = 12 := by kernel_rfl
theorem b7N : Opens enc Tryz.prog W 60 Am.enc (fun _ => True) amM := by
 obtain ⟨fs, h1, h2, h3⟩ := b2p
 refine (J3 h1 h2 h3 (q8 o_s (q8 b1b (q8 b7v M6)))).imp ?_
 rintro ⟨a, b, c, _⟩ hok
 exact ⟨⟨a, b, c⟩, rfl, trivial, by simp only [amM]; omega⟩
theorem b7e : Opens enc Tryz.prog W 22 (fun l => [ams l]) (fun _ => True) (lsM amM) :=
 (X8 Tryz.underlying22 b4s (by decide) (fun _ => rfl) b7N).imp fun l hl => ⟨l, rfl, trivial, b8f _⟩
theorem b7j : Opens enc Tryz.prog W 23 (fun l => [wls l]) (fun _ => True) (lsM (lsM vtM)) :=
 (X8 Tryz.underlying23 b1Z (by decide) (fun _ => rfl) b1c).imp fun l hl => ⟨l, rfl, trivial, b8f _⟩
theorem b2h : ∃ fs, Tryz.prog.underlying 64 = some (.struct fs) /\ fs.toList.map (·.type) = [9, 44, 36] /\ P5 Tryz.prog fs.toList 0 = some (Tryz.prog.cellsOf 64) := ⟨_, Tryz.underlying64, rfl, by kernel_rfl⟩
theorem b3V : Tryz.prog.cellsOf 64 = 12 := by kernel_rfl
theorem b7L : Opens enc Tryz.prog W 64 Pt.enc (fun _ => True) ptM := by
 obtain ⟨fs, h1, h2, h3⟩ := b2h
 refine (J3 h1 h2 h3 (q8 o_s (q8 b1c (q8 b1b M6)))).imp ?_
 rintro ⟨a, b, c, _⟩ hok
 exact ⟨⟨a, b, c⟩, rfl, trivial, by simp only [ptM]; omega⟩
theorem b7q : Opens enc Tryz.prog W 24 (fun l => [pts l]) (fun _ => True) (lsM ptM) :=
 (X8 Tryz.underlying24 b3V (by decide) (fun _ => rfl) b7L).imp fun l hl => ⟨l, rfl, trivial, b8f _⟩
theorem b2u : ∃ fs, Tryz.prog.underlying 68 = some (.struct fs) /\ fs.toList.map (·.type) = [9, 36, 28] /\ P5 Tryz.prog fs.toList 0 = some (Tryz.prog.cellsOf 68) := ⟨_, Tryz.underlying68, rfl, by kernel_rfl⟩
theorem b4H : Tryz.prog.cellsOf 68 = 14 := by kernel_rfl
theorem b7R : Opens enc Tryz.prog W 68 Sl.enc (fun _ => True) slM := by
 obtain ⟨fs, h1, h2, h3⟩ := b2u
 refine (J3 h1 h2 h3 (q8 o_s (q8 b1b (q8 a2Z M6)))).imp ?_
 rintro ⟨a, b, c, _⟩ hok
 exact ⟨⟨a, b, c⟩, rfl, trivial, by simp only [slM]; omega⟩
theorem b7g : Opens enc Tryz.prog W 25 (fun l => [sls l]) (fun _ => True) (lsM slM) :=
 (X8 Tryz.underlying25 b4H (by decide) (fun _ => rfl) b7R).imp fun l hl => ⟨l, rfl, trivial, b8f _⟩
theorem b2l : ∃ fs, Tryz.prog.underlying 117 = some (.struct fs) /\ fs.toList.map (·.type) = [32, 32] /\ P5 Tryz.prog fs.toList 0 = some (Tryz.prog.cellsOf 117) := ⟨_, Tryz.underlying117, rfl, by kernel_rfl⟩
theorem b7Q : Opens enc Tryz.prog W 117 (fun p : Vt × Vt => p.1.enc ++ p.2.enc) (fun _ => True) fun p => vtM p.1 + vtM p.2 := by
 obtain ⟨fs, h1, h2, h3⟩ := b2l
 refine (J3 h1 h2 h3 (q8 b1N (q8 b1N M6))).imp ?_
 rintro ⟨a, b, _⟩ hok
 exact ⟨⟨a, b⟩, rfl, trivial, by simp only; omega⟩
theorem b1Y : ∃ fs, Tryz.prog.underlying 119 = some (.struct fs) /\ fs.toList.map (·.type) = [9, 117] /\ P5 Tryz.prog fs.toList 0 = some (Tryz.prog.cellsOf 119) := ⟨_, Tryz.underlying119, rfl, by kernel_rfl⟩
theorem b4E : Tryz.prog.cellsOf 119 = 13 := by kernel_rfl
theorem b7K : Opens enc Tryz.prog W 119 Gt.enc (fun _ => True) gtM := by
 obtain ⟨fs, h1, h2, h3⟩ := b1Y
 refine (J3 h1 h2 h3 (q8 o_s (q8 b7Q M6))).imp ?_
 rintro ⟨a, ⟨b, c⟩, _⟩ hok
 exact ⟨⟨a, b, c⟩, rfl, trivial, by simp only [gtM]; omega⟩
theorem b7r : Opens enc Tryz.prog W 26 (fun l => [gts l]) (fun _ => True) (lsM gtM) :=
 (X8 Tryz.underlying26 b4E (by decide) (fun _ => rfl) b7K).imp fun l hl => ⟨l, rfl, trivial, b8f _⟩
theorem b2c : ∃ fs, Tryz.prog.underlying 30 = some (.struct fs) /\ fs.toList.map (·.type) = [22, 23, 24, 25, 26, 28] /\ P5 Tryz.prog fs.toList 0 = some (Tryz.prog.cellsOf 30) := ⟨_, Tryz.underlying30, rfl, by kernel_rfl⟩
theorem b7E : Opens enc Tryz.prog W 30 Wk.enc (fun _ => True) wkM := by
 obtain ⟨fs, h1, h2, h3⟩ := b2c
 refine (J3 h1 h2 h3 (q8 b7e (q8 b7j (q8 b7q (q8 b7g (q8 b7r (q8 a2Z M6))))))).imp ?_
 rintro ⟨a, b, c, d, e, f, _⟩ hok
 exact ⟨⟨a, b, c, d, e, f⟩, rfl, trivial, by simp only [wkM]; omega⟩
end
theorem b0A (u : Nat) : (E9 u).length <= u + 1 := by
 induction u using E9.induct with
 | case1 u h => rw [a4Y h]; simp
 | case2 u h ih => rw [a4U h, b8r]; omega
theorem a7I (b : Bool) : (a2a b).length = 1 := by cases b <;> rfl
theorem a1j (l : List UInt8) : (Z7 l).length <= 2 * l.length + 1 := by
 have := b0A l.length
 unfold Z7; rw [b7X]; omega
theorem U1 (a : Nm.Rt) : (H6 a).length <= 10 * rtM a := by
 have h1 := a1j a.num
 have h2 := a1j a.den
 have h3 := a7I a.neg
 unfold H6 rtM; simp only [b7X]; omega
theorem a0L {α : Type} {f : α -> List UInt8} {m : α -> Nat} {c : Nat} (hm : ∀ x, 1 <= m x) (h : ∀ x, (f x).length <= c * m x) (l : List α) : (l9 f l).length <= (c + 1) * lsM m l := by
 have h1 : ∀ l : List α, (l.flatMap f).length <= c * (l.map m).sum := fun l => by
  induction l with
  | nil => simp
  | cons x l ih =>
   have := h x
   rw [List.flatMap_cons, b7X, b8y, List.sum_cons, Nat.mul_add]; omega
 have h2 := b0A l.length
 have h3 := a6V hm l
 have h4 := h1 l
 unfold l9 lsM
 rw [b7X, Nat.add_mul, Nat.mul_add, Nat.mul_add]
 omega
noncomputable def laidWorldU (os : Os) : World := World.laidAll Tryz.prog os Rows.worksChecksUptoRow.laid
theorem b2A (os : Os) (args : Array Value) : laidMet Tryz.prog Rows.worksChecksUptoRow.laid ((laidWorldU os).forCall (fun _ _ => 0) ⟨#[], args, []⟩).memory :=
 laidMet_laidAll args (by kernel_rfl) (by kernel_rfl)
theorem a9Q {H : Type} {enc : TypeId × Value -> H} {C : Checked} {os : Os} {f : FuncId} {fn : Func} {s : OpenSpec} {conds : List PathCond} {apart : Bool} {laid : List (String × DataW Unit)} (modest : Bool) (w0 : World) (args : Array Value) (hos : w0.os = os)
  (hv : (w0.forCall (fun _ _ => 0) ⟨#[], args, []⟩).variablesZipB C.prog = true)
  (hr : ((w0.forCall (fun _ _ => 0) ⟨#[], args, []⟩).heap.toList.drop C.prog.globals.size).take ((begin C.prog (fun _ _ => 0) default).world.heap.size - C.prog.globals.size) =
   (begin C.prog (fun _ _ => 0) default).world.heap.toList.drop C.prog.globals.size)
  (hok : Input.okWideB C.prog (w0.forCall (fun _ _ => 0) ⟨#[], args, []⟩) f ⟨#[], args, []⟩ = true)
  (hrow : s.preRow enc C.prog fn conds apart laid (w0.forCall (fun _ _ => 0) ⟨#[], args, []⟩).memory args) :
  ∃ (w : World) (tape : Tape) (i : Input), w.os = os /\ (w.forCall tape i).Shaped C.prog /\ i.vars = [] /\ Input.okWide C.prog (w.forCall tape i) .any w.heap.size f i /\
   s.preRow enc C.prog fn conds apart laid (w.forCall tape i).memory i.args /\ ({ modest := modest } : Assume).holds C.prog (lone (Frame.enter C.prog f i.args .normal) [] (w.forCall tape i)) :=
 ⟨w0, fun _ _ => 0, ⟨#[], args, []⟩, hos, World.shaped_of_ZipB hv hr, (Input.okWide_of_okWideB (base := 0) hok).1, (Input.okWide_of_okWideB hok).2, hrow, by
  simp only [Assume.holds]
  exact ⟨by simp, by simp, fun _ => Modest.zero, by simp, by simp⟩⟩
theorem a6I (v : Vt) : (K4 v).length <= 10 * vtM v := by
 have a1 := U1 v.x
 have a2 := U1 v.y
 unfold K4 vtM; simp only [b7X]; omega
theorem a9g (f : Fr) : (frB f).length <= 11 * frM f := by
 have a1 := U1 f.x
 have a2 := U1 f.y
 have a3 := a7I f.half
 have a4 := U1 f.t
 have := a4Z f.x
 unfold frB frM; simp only [b7X]; omega
theorem b6t (w : Wk) : (wkB w).length <= 20 * wkM w := by
 have hv := a0L a4X a6I
 have h1 : ∀ l : Lk, (lkB l).length <= 11 * lkM l := fun l => by
  have a1 := U1 l.length
  have a2 := U1 l.low
  have a3 := U1 l.high
  have a4 := U1 l.speed
  have a5 := U1 l.brake
  have a6 := hv l.shape
  unfold lkB lkM; simp only [b7X]; omega
 have h2 : ∀ a : Am, (amB a).length <= 13 * amM a := fun a => by
  have a1 := a1j a.name
  have a2 := a9g a.base
  have a3 := a0L b0t h1 a.links
  have a4 := a4L lkM a.links
  unfold amB amM; simp only [b7X]; omega
 have h3 : ∀ p : Pt, (ptB p).length <= 13 * ptM p := fun p => by
  have a1 := a1j p.name
  have a2 := hv p.shape
  have a3 := a9g p.grasp
  have a4 := a4L vtM p.shape
  unfold ptB ptM; simp only [b7X]; omega
 have h4 : ∀ s : Sl, (slB s).length <= 13 * slM s := fun s => by
  have a1 := a1j s.name
  have a2 := a9g s.frame
  have a3 := U1 s.within
  have a4 := a5d s.frame
  unfold slB slM; simp only [b7X]; omega
 have h5 : ∀ g : Gt, (gtB g).length <= 13 * gtM g := fun g => by
  have a1 := a1j g.name
  have a2 := a6I g.low
  have a3 := a6I g.high
  have a4 := a4X g.low
  unfold gtB gtM; simp only [b7X]; omega
 have b1 := a0L b0p h2 w.arms
 have b2 := a0L (a4L vtM) hv w.walls
 have b3 := a0L b0U h3 w.parts
 have b4 := a0L b0z h4 w.slots
 have b5 := a0L b0r h5 w.gates
 have b6 := U1 w.walk
 unfold wkB wkM; simp only [b7X]; omega
theorem a6h (os : Os) (args : Array Value) : laidMet Tryz.prog Rows.worksChecksUptoRow.laid ((laidWorldU os).forCall (fun _ _ => 0) ⟨#[], args, []⟩).memory :=
 b2A os args
theorem a3Z (H : Type) (enc : TypeId × Value -> H) (W : World) (base : Nat) (args : Array Value) (ds gs : List (DataW H)) (before : List MemPlace)
  (hval : ∀ (j : Nat) t v, Tryz.f3.params[j]? = some t -> args[j]? = some v -> Value.okWide Tryz.prog W .any base t v)
  (hW : DataW.Whole enc Tryz.prog Tryz.f3.params.toList Rows.worksChecksSpec.vars false W args.toList ds gs before) (hk : Rows.uptoSmall H (ds ++ gs) = true) (hL : laidMetH Tryz.prog Rows.worksChecksUptoRow.laid W) (hS : W.ShapedOpen Tryz.prog) :
  Calls Tryz.prog 3 args W fun e W' => ∃ v, e = .returned v /\ Rows.worksChecksSpec.post enc Tryz.prog Tryz.f3 false true false false W args v W' := by
 have hW' := hW
 obtain ⟨p, q, hA0, hV, rfl, hfz, hnd⟩ := hW
 have hA : DataW.TrodAll enc Tryz.prog W 0 (fun _ => true) true Tryz.f3.params.toList args.toList ds p := hA0
 rw [Tryz.params3] at hA hval
 obtain ⟨v0, vs0, d0, ds0, p0, q0, hargs, rfl, rfl, h0, r0⟩ := trodAll_cons hA
 obtain ⟨v1, vs1, d1, ds1, p1, q1, rfl, rfl, rfl, h1, r1⟩ := trodAll_cons r0
 obtain ⟨v2, vs2, d2, ds2, p2, q2, rfl, rfl, rfl, h2, r2⟩ := trodAll_cons r1
 obtain ⟨rfl, rfl, rfl⟩ := trodAll_nil r2
 obtain rfl : args = #[v0, v1, v2] := by cases args; simp_all
 obtain ⟨rfl, rfl⟩ := trodVars_none hV
 have hb := b4h hk
 obtain ⟨cs0, rfl, _⟩ := okWide_struct Tryz.underlying30 (hval 0 30 v0 rfl rfl)
 obtain ⟨m0, h0⟩ := h0
 obtain ⟨w, e0, _, k0, b0⟩ := b7E _ _ _ h0
 have b0 : wkM w <= Rows.uptoBulk d0 := b0
 have e0 : FzL W noB w.enc cs0.toList := e0
 have g0 : Fz W noB w.c (.agg cs0) := by simp only [Wk.c, Fz]; exact ⟨_, e0, by simp⟩
 obtain ⟨cs1, rfl, _⟩ := okWide_struct Tryz.underlying36 (hval 1 36 v1 rfl rfl)
 obtain ⟨m1, h1⟩ := h1
 obtain ⟨f, e1, _, k1, b1⟩ := b1b _ _ _ h1
 have b1 : frM f <= Rows.uptoBulk d1 := b1
 have e1 : FzL W noB f.enc cs1.toList := e1
 have g1 : Fz W noB f.c (.agg cs1) := by simp only [Fr.c, Fz]; exact ⟨_, e1, by simp⟩
 obtain ⟨x, rfl⟩ := okWide_string Tryz.underlying9 (hval 2 9 v2 rfl rfl)
 obtain ⟨m2, h2⟩ := h2
 obtain ⟨z2, e2, _, k2, b2⟩ := a7e Tryz.underlying9 _ _ _ h2
 have e2 : FzL W noB [.v (.string z2)] [.string x] := e2
 simp only [FzL, Fz] at e2
 obtain ⟨y2, ys2, f2, rfl, rfl⟩ := e2
 injection f2 with f2 _
 injection f2 with f2
 subst f2
 have b2 : x.size + 1 <= Rows.uptoBulk d2 := b2
 simp only [List.append_nil, List.cons_append, List.nil_append, Rows.uptoBulkAll] at hb
 have hF : FzL W noB [w.c, f.c, .v (.string x)] [.agg cs0, .agg cs1, .string x] := by
  simp only [FzL]
  exact ⟨_, _, rfl, g0, ⟨_, _, rfl, g1, ⟨_, _, rfl, by simp only [ints, Fz], rfl⟩⟩⟩
 refine (a7X w f x.data.toList (b7D (by omega)) (b1F (by omega)) (by have h0 : x.data.toList.length = x.size := rfl; omega) (by have := b6t w; omega) noB W _ (b7u hL) (fun _ h => h.elim) hF).mono fun e W' ⟨y, he, hbl, hy⟩ => ?_
 subst he
 simp only [Fz] at hy
 subst hy
 refine ⟨_, rfl, b4g b3Q (by
  intro t ht
  rw [Tryz.params3] at ht
  simp only [List.mem_cons, List.not_mem_nil, or_false] at ht
  rcases ht with rfl | rfl | rfl
  ·exact ⟨by kernel_rfl, of_decide_eq_true (by kernel_rfl)⟩
  ·exact ⟨by kernel_rfl, of_decide_eq_true (by kernel_rfl)⟩
  ·exact ⟨by kernel_rfl, of_decide_eq_true (by kernel_rfl)⟩) (tb := 4) rfl Tryz.underlying4 rfl rfl hW' hbl⟩
theorem a5f (os : Os) {H : Type} (enc : TypeId × Value -> H) : ∃ places, DataW.whole enc Tryz.prog ((laidWorldU os).forCall (fun _ _ => 0) ⟨#[], #[.agg #[.slice none 0 0, .slice none 0 0, .slice none 0 0, .slice none 0 0, .slice none 0 0, .bool false, .string ⟨#[]⟩, .string ⟨#[]⟩], .agg #[.bool false, .string ⟨#[]⟩, .string ⟨#[]⟩, .bool false, .string ⟨#[]⟩, .string ⟨#[]⟩, .bool false, .bool false, .string ⟨#[]⟩, .string ⟨#[]⟩], .string ⟨#[]⟩], []⟩).memory Tryz.f3.params.toList Rows.worksChecksSpec.vars false (#[.agg #[.slice none 0 0, .slice none 0 0, .slice none 0 0, .slice none 0 0, .slice none 0 0, .bool false, .string ⟨#[]⟩, .string ⟨#[]⟩], .agg #[.bool false, .string ⟨#[]⟩, .string ⟨#[]⟩, .bool false, .string ⟨#[]⟩, .string ⟨#[]⟩, .bool false, .bool false, .string ⟨#[]⟩, .string ⟨#[]⟩], .string ⟨#[]⟩] : Array Value).toList 8 = some ([.agg [.nil, .nil, .nil, .nil, .nil, .agg [.lit (.bool false), .lit (.string []), .lit (.string [])]], .agg [.agg [.agg [.lit (.bool false), .lit (.string []), .lit (.string [])], .agg [.lit (.bool false), .lit (.string []), .lit (.string [])]], .agg [.lit (.bool false), .agg [.lit (.bool false), .lit (.string []), .lit (.string [])]]], .lit (.string [])], [], places) :=
 ⟨[], by kernel_rfl⟩
set_option maxRecDepth 100000 in
theorem a4B (os : Os) (started : os.Started) (H : Type) (enc : TypeId × Value -> H) (F : Stop.Interp) :
  ReturnsInHanded {} Tryz.checked os 3 .any ((Rows.OpenSpec.upto Rows.worksChecksSpec).preRow enc Tryz.prog Tryz.f3 Rows.worksChecksUptoRow.domain false Rows.worksChecksUptoRow.laid) (((Rows.OpenSpec.upto Rows.worksChecksSpec).at F).post enc Tryz.prog Tryz.f3 false true false false) := by
 obtain ⟨places, hx⟩ := a5f os enc
 refine returnsInHanded_of_row (C := Tryz.checked) (s := Rows.OpenSpec.upto Rows.worksChecksSpec) b3x started (by kernel_rfl) Tryz.func3
  (a9Q (enc := enc) (C := Tryz.checked) false (laidWorldU os) #[.agg #[.slice none 0 0, .slice none 0 0, .slice none 0 0, .slice none 0 0, .slice none 0 0, .bool false, .string ⟨#[]⟩, .string ⟨#[]⟩], .agg #[.bool false, .string ⟨#[]⟩, .string ⟨#[]⟩, .bool false, .string ⟨#[]⟩, .string ⟨#[]⟩, .bool false, .bool false, .string ⟨#[]⟩, .string ⟨#[]⟩], .string ⟨#[]⟩] rfl (by kernel_rfl) (by kernel_rfl) (by kernel_rfl)
   (OpenSpec.preRow_of_cond 8 hx (by kernel_rfl) (fun k hk => by cases hk; kernel_rfl) (by kernel_rfl) (a6h os _))) ?_
 intro W base args ds gs before hval hW _ hcond _ hL hS _
 exact a3Z H enc W base args ds gs before hval hW (hcond _ rfl) hL hS
theorem b7B {a b : Bool} (h : a = true) (k : b = true) : (a && b) = true := by rw [h, k]; rfl
set_option maxHeartbeats 40000000 in
theorem a4v : joinedFacts Tryz.pinned.checked.prog 3 Tryz.f3 (Rows.OpenSpec.upto Rows.worksChecksSpec).bare Rows.worksChecksUptoRow = true := by
 unfold joinedFacts
 repeat' (with_reducible refine b7B ?_ ?_)
 all_goals (as_aux_lemma => kernel_rfl)
end Go.Proofs.YtpjjiegfigpgnaaGreatDoor
