/- A part of the proof: lemmas only, with the conditions that each names. -/
import Derived.Test.YtogfpjohjphngaaGreatDoorProg
import Derived.KernelRfl
import Derived.Shelf.Strings.SlTrimAscii
import Derived.Test.YtogfpjohjphngaaGreatDoorPk4
set_option linter.all false
namespace Go.Proofs.YtogfpjohjphngaaGreatDoor
open Go Go.RowKit Eng
set_option maxRecDepth 10000
set_option maxHeartbeats 8000000
def a6A (a : Am) (n : Int) : Int := if a1K a ≠ 0 then a1K a else if n ≠ a.links.length then 1 else 0
theorem c1Z (a : Am) (n : Int) (hl : Ab 1073741824 a) : FZ 212 [a.c, ints n] (ints (a6A a n)) := by
 refine l8.of b6c b6Y (by exact Nat.le_of_ble_eq_true rfl) fun w O hw => ?_
 have h := b3S a hl
 unfold a6A
 generalize a1K a = e at *
 obtain ⟨name, ⟨x, y, half, t⟩, links⟩ := a
 simp only [a8X, l5, TT, II, OA, OB, OC, MM, LL, VV, FF, MG, LG, VG, FG]
 simp only [Am.c, Am.enc, lks, sb, ints] at *
 (repeat first | refine uA ?_ | (apply S.exit; exact rfl) | (refine uK ?_ ?_; focus first | omega | trivial | exact id | (intros; simp_all <;> omega)) | simp (disch := omega) only [go_sem, Nat.reduceBEq, Nat.reduceAdd, Nat.reduceLeDiff, Int.reduceToNat, Int.reducePow, ww] | (refine uD h ?_ ?_ ?_; exact tz hw; exact rfl))
 refine S.cond rfl (fun hc => ?_) (fun hc => ?_)
 ·rw [if_pos (by simpa using hc)]
  (repeat first | refine uA ?_ | (apply S.exit; exact rfl) | (refine uK ?_ ?_; focus first | omega | trivial | exact id | (intros; simp_all <;> omega)) | simp (disch := omega) only [go_sem, Nat.reduceBEq, Nat.reduceAdd, Nat.reduceLeDiff, Int.reduceToNat, Int.reducePow, ww])
  exact S.done (d9.out rfl (Imp.refl rfl) rfl)
 rw [if_neg (by simpa using hc)]
 (repeat first | refine uA ?_ | (apply S.exit; exact rfl) | (refine uK ?_ ?_; focus first | omega | trivial | exact id | (intros; simp_all <;> omega)) | simp (disch := omega) only [go_sem, Nat.reduceBEq, Nat.reduceAdd, Nat.reduceLeDiff, Int.reduceToNat, Int.reducePow, ww, List.length_map])
 refine S.cond rfl (fun hc => ?_) (fun hc => ?_)
 ·rw [if_pos (by simpa using hc)]
  (repeat first | refine uA ?_ | (apply S.exit; exact rfl) | (refine uK ?_ ?_; focus first | omega | trivial | exact id | (intros; simp_all <;> omega)) | simp (disch := omega) only [go_sem, Nat.reduceBEq, Nat.reduceAdd, Nat.reduceLeDiff, Int.reduceToNat, Int.reducePow, ww])
  exact S.done (d9.out rfl (Imp.refl rfl) rfl)
 ·rw [if_neg (by simpa using hc)]
  (repeat first | refine uA ?_ | (apply S.exit; exact rfl) | (refine uK ?_ ?_; focus first | omega | trivial | exact id | (intros; simp_all <;> omega)) | simp (disch := omega) only [go_sem, Nat.reduceBEq, Nat.reduceAdd, Nat.reduceLeDiff, Int.reduceToNat, Int.reducePow, ww])
  exact S.done (d9.out rfl (Imp.refl rfl) rfl)
def a6U (x : Lk × Nm.Rt) : Int := if Nm.A9 (Nm.j3 x.2) (Nm.j3 x.1.low) < 0 \/ 0 < Nm.A9 (Nm.j3 x.2) (Nm.j3 x.1.high) then 17 else 0
theorem b9i (a : Am) (q : List Nm.Rt) : a1G a q = if a6A a q.length ≠ 0 then a6A a q.length else D6 a6U (a.links.zip q) := by
 unfold a1G a6A
 by_cases h : a1K a = 0
 ·rw [if_neg (by simp [h])]
  by_cases h2 : q.length = a.links.length
  ·simp [h, h2]; rfl
  ·have h3 : ¬ (q.length : Int) = a.links.length := by omega
   simp [h, h2, h3]
 ·simp [h]
theorem a4V {α β : Type} {l : List α} {m : List β} {i : Nat} {x : α} {y : β} (h : l[i]? = some x) (k : m[i]? = some y) : (l.zip m)[i]? = some (x, y) := by
 rw [List.getElem?_zip_eq_some]; exact ⟨h, k⟩
theorem b7A (a : Am) (q : List Nm.Rt) (hl : Ab 1073741824 a) (hq : Rbs 1073741824 q) : FZ 141 [a.c, rts q] (ints (a1G a q)) := by
 refine l8.of b4C b4z (by exact Nat.le_of_ble_eq_true rfl) fun w O hw => ?_
 have h := c1Z a q.length hl
 rw [b9i]
 have hlen : a6A a q.length = 0 -> q.length = a.links.length := by
  unfold a6A
  intro h
  split at h
  ·rename_i h1; exact absurd h h1
  ·split at h
   ·cases h
   ·rename_i h1; have := Classical.not_not.1 h1; omega
 generalize a6A a q.length = e at *
 obtain ⟨hqn, hqb⟩ := hq
 obtain ⟨name, ⟨x, y, half, t⟩, links⟩ := a
 obtain ⟨b0, ⟨b1, b2, b3⟩, hn, hb⟩ := hl
 simp only at b0 b1 b2 b3 hn hb hlen
 simp only [a8a, l5, TT, II, OA, OB, OC, MM, LL, VV, FF, MG, LG, VG, FG]
 simp only [Am.c, Am.enc, lks, sb, ints, rts] at *
 (repeat first | refine uA ?_ | (apply S.exit; exact rfl) | (refine uK ?_ ?_; focus first | omega | trivial | exact id | (intros; simp_all <;> omega)) | simp (disch := omega) only [go_sem, Nat.reduceBEq, Nat.reduceAdd, Nat.reduceLeDiff, Int.reduceToNat, Int.reducePow, ww, List.length_map] | (refine uD h ?_ ?_ ?_; exact tz hw; exact rfl))
 refine S.cond rfl (fun hc => ?_) (fun hc => ?_)
 ·rw [if_pos (by simpa using hc)]
  (repeat first | refine uA ?_ | (apply S.exit; exact rfl) | (refine uK ?_ ?_; focus first | omega | trivial | exact id | (intros; simp_all <;> omega)) | simp (disch := omega) only [go_sem, Nat.reduceBEq, Nat.reduceAdd, Nat.reduceLeDiff, Int.reduceToNat, Int.reducePow, ww])
  exact S.done (d9.out rfl (Imp.refl rfl) rfl)
 rw [if_neg (by simpa using hc)]
 have hlen := hlen (by simpa using hc)
 (repeat first | refine uA ?_ | (apply S.exit; exact rfl) | (refine uK ?_ ?_; focus first | omega | trivial | exact id | (intros; simp_all <;> omega)) | simp (disch := omega) only [go_sem, Nat.reduceBEq, Nat.reduceAdd, Nat.reduceLeDiff, Int.reduceToNat, Int.reducePow, ww, List.length_map])
 refine S.loop (X := Nat) (fun i => ⟨[(1, rts q), (16, lks links), (17, ints links.length), (18, ints i)], []⟩) (fun i => i <= links.length /\ D6 a6U (links.zip q) = D6 a6U ((links.zip q).drop i)) (fun i => links.length - i) 0 ⟨Nat.zero_le _, rfl⟩ (by (repeat first | refine uA ?_ | (refine ⟨?_, ?_⟩; focus first | rfl | trivial | (simp [slot]; done)) | rfl | trivial | simp)) ?_
 rintro i ⟨hi, hg⟩
 simp only [rts, lks, ints]
 (repeat first | refine uA ?_ | (apply S.exit; exact rfl) | (refine uK ?_ ?_; focus first | omega | trivial | exact id | (intros; simp_all <;> omega)) | simp (disch := omega) only [go_sem, Nat.reduceBEq, Nat.reduceAdd, Nat.reduceLeDiff, Int.reduceToNat, Int.reducePow, ww])
 (refine uJ rfl (fun hc => ?_) fun hc => ?_)
 ·have hi' : i < links.length := by omega
  have hgi := List.getElem?_eq_getElem hi'
  have hgq := List.getElem?_eq_getElem (show i < q.length by omega)
  generalize links[i] = x at hgi
  generalize q[i]'_ = v at hgq
  have hz := a4V hgi hgq
  have hst := P9 (f := a6U) hz
  have hnx := P8 (f := a6U) hz
  have bx := hb x (List.mem_of_getElem? hgi)
  have bv := (hqb v (List.mem_of_getElem? hgq)).mono (m := 17179869184) (by decide)
  have h1 := Q8 v x.low bv (bx.2.1.mono (by decide))
  have h2 := Q8 v x.high bv (bx.2.2.1.mono (by decide))
  unfold a6U at hst hnx
  simp only at hst hnx
  generalize Nm.A9 (Nm.j3 v) (Nm.j3 x.low) = n1 at *
  generalize Nm.A9 (Nm.j3 v) (Nm.j3 x.high) = n2 at *
  have hqi : (i : Int) < q.length := by omega
  simp only [rc, sb, ints] at h1 h2
  (repeat first | refine uA ?_ | (apply S.exit; exact rfl) | (refine uK ?_ ?_; focus first | omega | trivial | exact id | (intros; simp_all <;> omega)) | simp (disch := omega) only [go_sem, Nat.reduceBEq, Nat.reduceAdd, Nat.reduceLeDiff, Int.reduceToNat, Int.reducePow, ww, hgi, hgq, Option.map_some, List.length_map, Lk.enc, rcs, vts, sb, Int.toNat_natCast] | (refine uD h1 ?_ ?_ ?_; exact tz hw; exact rfl) | (refine uD h2 ?_ ?_ ?_; exact tz hw; exact rfl))
  refine S.cond rfl (fun hc2 => ?_) (fun hc2 => ?_)
  ·have hp : n1 < 0 \/ 0 < n2 := by simpa using hc2
   rw [if_pos hp] at hst
   rw [hg, show a6U = fun x : Lk × Nm.Rt => if Nm.A9 (Nm.j3 x.2) (Nm.j3 x.1.low) < 0 \/ 0 < Nm.A9 (Nm.j3 x.2) (Nm.j3 x.1.high) then 17 else 0 from rfl, hst (by decide)]
   (repeat first | refine uA ?_ | (apply S.exit; exact rfl) | (refine uK ?_ ?_; focus first | omega | trivial | exact id | (intros; simp_all <;> omega)) | simp (disch := omega) only [go_sem, Nat.reduceBEq, Nat.reduceAdd, Nat.reduceLeDiff, Int.reduceToNat, Int.reducePow, ww])
   exact S.done (d9.out rfl (Imp.refl rfl) rfl)
  ·have hp : ¬ (n1 < 0 \/ 0 < n2) := by simpa using hc2
   rw [if_neg hp] at hnx
   (repeat first | refine uA ?_ | (apply S.exit; exact rfl) | (refine uK ?_ ?_; focus first | omega | trivial | exact id | (intros; simp_all <;> omega)) | simp (disch := omega) only [go_sem, Nat.reduceBEq, Nat.reduceAdd, Nat.reduceLeDiff, Int.reduceToNat, Int.reducePow, ww])
   refine S.next (i + 1) ⟨by omega, ?_⟩ (by omega) (by (repeat first | refine uA ?_ | (refine ⟨?_, ?_⟩; focus first | rfl | trivial | (simp [slot]; done)) | rfl | trivial | simp))
   rw [hg, show a6U = fun x : Lk × Nm.Rt => if Nm.A9 (Nm.j3 x.2) (Nm.j3 x.1.low) < 0 \/ 0 < Nm.A9 (Nm.j3 x.2) (Nm.j3 x.1.high) then 17 else 0 from rfl, hnx rfl]
 ·rw [hg, U2 (by rw [List.length_zip]; omega)]
  (repeat first | refine uA ?_ | (apply S.exit; exact rfl) | (refine uK ?_ ?_; focus first | omega | trivial | exact id | (intros; simp_all <;> omega)) | simp (disch := omega) only [go_sem, Nat.reduceBEq, Nat.reduceAdd, Nat.reduceLeDiff, Int.reduceToNat, Int.reducePow, ww])
  exact S.done (d9.out rfl (Imp.refl rfl) rfl)
set_option maxRecDepth 100000
set_option maxHeartbeats 4000000
theorem Fb.mono {k m : Nat} {f : Fr} (h : Fb k f) (hm : k <= m) : Fb m f := ⟨h.1.mono hm, h.2.1.mono hm, h.2.2.mono hm⟩
theorem Vbs.mono {k m : Nat} {l : List Vt} (h : Vbs k l) (hm : k <= m) : Vbs m l := ⟨Nat.le_trans h.1 hm, fun v hv => ⟨(h.2 v hv).1.mono hm, (h.2 v hv).2.mono hm⟩⟩
theorem Ab.mono {k m : Nat} {a : Am} (h : Ab k a) (hm : k <= m) : Ab m a := ⟨Nat.le_trans h.1 hm, h.2.1.mono hm, Nat.le_trans h.2.2.1 hm, fun l hl => by
 obtain ⟨h1, h2, h3, h4, h5, h6⟩ := h.2.2.2 l hl
 exact ⟨h1.mono hm, h2.mono hm, h3.mono hm, h4.mono hm, h5.mono hm, h6.mono hm⟩⟩
theorem Wb.mono {k m : Nat} {w : Wk} (h : Wb k w) (hm : k <= m) : Wb m w :=
  ⟨⟨Nat.le_trans h.arms.1 hm, fun x hx => (h.arms.2 x hx).mono hm⟩, ⟨Nat.le_trans h.walls.1 hm, fun x hx => (h.walls.2 x hx).mono hm⟩, ⟨Nat.le_trans h.parts.1 hm, fun x hx => ⟨Nat.le_trans (h.parts.2 x hx).1 hm, (h.parts.2 x hx).2.1.mono hm, (h.parts.2 x hx).2.2.mono hm⟩⟩,
   ⟨Nat.le_trans h.slots.1 hm, fun x hx => ⟨Nat.le_trans (h.slots.2 x hx).1 hm, (h.slots.2 x hx).2.1.mono hm, (h.slots.2 x hx).2.2.mono hm⟩⟩, ⟨Nat.le_trans h.gates.1 hm, fun x hx => ⟨Nat.le_trans (h.gates.2 x hx).1 hm, ⟨(h.gates.2 x hx).2.1.1.mono hm, (h.gates.2 x hx).2.1.2.mono hm⟩, (h.gates.2 x hx).2.2.1.mono hm, (h.gates.2 x hx).2.2.2.mono hm⟩⟩, h.walk.mono hm⟩
theorem Stb.mono {k m : Nat} {s : Stt} (h : Stb k s) (hm : k <= m) : Stb m s :=
 ⟨⟨Nat.le_trans h.arms.1 hm, fun x hx => ⟨⟨Nat.le_trans (h.arms.2 x hx).1.1 hm, fun r hr => ((h.arms.2 x hx).1.2 r hr).mono hm⟩, Nat.le_trans (h.arms.2 x hx).2.1 hm, fun r hr => ((h.arms.2 x hx).2.2 r hr).mono hm⟩⟩, ⟨Nat.le_trans h.parts.1 hm, fun x hx => (h.parts.2 x hx).mono hm⟩, h.people.mono hm, Nat.le_trans h.gates hm⟩
theorem a3b (p q : Rat) : Nm.A9 p q < 0 <-> p < q := by
 unfold Nm.A9
 split
 ·simp_all
 ·split
  ·simp_all
  ·simp_all
theorem a4Q (p q : Rat) : 0 < Nm.A9 p q <-> q < p := by
 unfold Nm.A9
 split
 ·rename_i h; simp; grind
 ·split
  ·rename_i h1 h2; simp; grind
  ·rename_i h1 h2; simp; grind
set_option maxRecDepth 10000
def a6z (f g : Fr) (c : Vt) : Rat := R7 (J5 (Z9 f c - Z9 g c)) (J5 (Z6 f c - Z6 g c))
def a1t (f g : Fr) (l : List Vt) : Rat := l.foldl (fun m c => R7 m (a6z f g c)) 0
theorem b5G (p q : Rat) : R7 p q = if p < q then q else p := by
 unfold R7
 by_cases h : p < q
 ·rw [if_pos h, if_neg]
  have := (a3b p q).2 h
  omega
 ·rw [if_neg h, if_pos]
  have : ¬ Nm.A9 p q < 0 := fun h2 => h ((a3b p q).1 h2)
  omega
def I9 (o : Nat -> Rat) : Nat -> Nat × Rat
 | 0 => (0, 0)
 | n + 1 => if n = 0 \/ Nm.A9 (o n) (I9 o n).2 < 0 then (n, o n) else I9 o n
theorem a5h (o : Nat -> Rat) : ∀ n, 0 < n -> (I9 o n).1 < n /\ (I9 o n).2 = o (I9 o n).1 /\ (∀ j, j < n -> (I9 o n).2 <= o j) /\ ∀ j, j < (I9 o n).1 -> (I9 o n).2 < o j
 | 0, h => absurd h (by decide)
 | n + 1, _ => by
  unfold I9
  split
  ·rename_i h
   refine ⟨by simp only; omega, rfl, fun j hj => ?_, fun j hj => ?_⟩
   ·rcases Nat.lt_or_eq_of_le (Nat.le_of_lt_succ hj) with h1 | h1
    ·rcases h with h | h
     ·omega
     ·have := (a5h o n (by omega)).2.2.1 j h1
      have h2 := (a3b _ _).1 h
      simp only; grind
    ·subst h1; simp only; grind
   ·simp only at hj ⊢
    rcases h with h | h
    ·omega
    ·have := (a5h o n (by omega)).2.2.1 j hj
     have h2 := (a3b _ _).1 h
     grind
  ·rename_i h
   have h0 : 0 < n := by omega
   obtain ⟨h1, h2, h3, h4⟩ := a5h o n h0
   refine ⟨by omega, h2, fun j hj => ?_, h4⟩
   rcases Nat.lt_or_eq_of_le (Nat.le_of_lt_succ hj) with h5 | h5
   ·exact h3 j h5
   ·subst h5
    have : ¬ o j < (I9 o j).2 := fun h6 => h (.inr ((a3b _ _).2 h6))
    grind
theorem b0f {k : Nat} {p q : Rat} (hp : Rb k (Nm.ofQ p)) (hq : Rb k (Nm.ofQ q)) : Rb k (Nm.ofQ (R7 p q)) := by
 unfold R7; split <;> assumption
theorem a3a {k : Nat} {p : Rat} (h : Rb k (Nm.ofQ p)) : Rb k (Nm.ofQ (J5 p)) := by
 unfold J5; split
 ·exact b0h h
 ·exact h
theorem a5d {k : Nat} (hk : 8 <= k) {f : Fr} {c : Vt} (hf : Fb k f) (hc : Vb k c) : Rb (11 * k + 38) (Nm.ofQ (Z9 f c)) /\ Rb (11 * k + 38) (Nm.ofQ (Z6 f c)) := by
 obtain ⟨h1, h2, h3⟩ := hf
 have ft := a7e (h := f.half) h3 (by omega)
 have rc1 := b3B f.half ft
 have rs1 := b2f ft
 have fa := hc.1.fit (by omega)
 have fb := hc.2.fit (by omega)
 exact ⟨(a0F (h1.fit (by omega)) (V9 (M7 fa rc1) (M7 fb rs1))).mono (by omega), (a0F (h2.fit (by omega)) (a0F (M7 fa rs1) (M7 fb rc1))).mono (by omega)⟩
theorem b5h {k : Nat} (hk : 8 <= k) {f g : Fr} {c : Vt} (hf : Fb k f) (hg : Fb k g) (hc : Vb k c) : Rb (22 * k + 77) (Nm.ofQ (a6z f g c)) := by
 obtain ⟨a1, a2⟩ := a5d hk hf hc
 obtain ⟨b1, b2⟩ := a5d hk hg hc
 exact b0f ((a3a (V9 a1 b1)).mono (by omega)) ((a3a (V9 a2 b2)).mono (by omega))
theorem b5C {k m : Nat} {f g : Fr} : ∀ (l : List Vt) (q : Rat), (∀ c ∈ l, Rb m (Nm.ofQ (a6z f g c))) -> Rb m (Nm.ofQ q) -> Rb m (Nm.ofQ (l.foldl (fun m c => R7 m (a6z f g c)) q))
 | [], _, _, h => h
 | c :: l, q, h1, h2 => by
  rw [List.foldl_cons]
  exact b5C (k := k) l _ (fun x hx => h1 x (by simp [hx])) (b0f h2 (h1 c (by simp)))
theorem b2c {k : Nat} (hk : 8 <= k) {f g : Fr} (hf : Fb k f) (hg : Fb k g) (l : List Vt) (hl : ∀ c ∈ l, Vb k c) : Rb (22 * k + 77) (Nm.ofQ (a1t f g l)) :=
 b5C (k := k) l 0 (fun c hc => b5h hk hf hg (hl c hc)) (⟨Nat.le_trans (Nm.K6 (k := 8) (by decide)) (by omega), Nat.le_trans (Nm.K6 (k := 8) (by decide)) (by omega)⟩)
set_option maxHeartbeats 8000000
theorem b7H (v : Vt) (hv : Vb 17179869184 v) : FZ 197 [v.c] (.v (.bool (!okV v))) := by
 refine l8.of a8x a8A (by exact Nat.le_of_ble_eq_true rfl) fun w O hw => ?_
 obtain ⟨x, y⟩ := v
 obtain ⟨b1, b2⟩ := hv
 simp only at b1 b2
 have h1 := a1j x (b1.mono (by decide))
 have h2 := a1j y (b2.mono (by decide))
 have h3 := a2n x b1
 have h4 := a2n y b2
 unfold okV
 simp only
 generalize decide x.D8 = q1 at *
 generalize decide y.D8 = q2 at *
 generalize o8 x = q3 at *
 generalize o8 y = q4 at *
 simp only [a3k, l5, TT, II, OA, OB, OC, MM, LL, VV, FF, MG, LG, VG, FG]
 simp only [Vt.c, Vt.enc, rc, sb] at *
 (repeat first | refine uA ?_ | (apply S.exit; exact rfl) | (refine uK ?_ ?_; focus first | omega | trivial | exact id | (intros; simp_all <;> omega)) | simp (disch := omega) only [go_sem, Nat.reduceBEq, Nat.reduceAdd, Nat.reduceLeDiff, Int.reduceToNat, Int.reducePow, ww] | (refine uD h1 ?_ ?_ ?_; exact tz hw; exact rfl) | (refine uD h2 ?_ ?_ ?_; exact tz hw; exact rfl) | (refine uD h3 ?_ ?_ ?_; exact tz hw; exact rfl) | (refine uD h4 ?_ ?_ ?_; exact tz hw; exact rfl))
 have e : (!(q1 && q2 && q3 && q4)) = (!q1 || !q2 || !q3 || !q4) := by cases q1 <;> cases q2 <;> cases q3 <;> cases q4 <;> rfl
 (try rw [e])
 exact S.done (d9.out rfl (Imp.refl rfl) rfl)
theorem a8k (l : List Vt) (hl : Vbs 17179869184 l) : FZ 83 [vts l] (.v (.bool (l.all okV))) := by
 refine l8.of b0g b0m (by exact Nat.le_of_ble_eq_true rfl) fun w O hw => ?_
 have h := b2Y 197 (by kernel_rfl) (fun v => !okV v) l (by have := hl.1; omega) (fun v hv => b7H v (hl.2 v hv))
 have e : l.all okV = !l.any fun v => !okV v := by rw [List.not_any_eq_all_not]; simp
 rw [e]
 generalize (l.any fun v => !okV v) = q at *
 simp only [a4H, l5, TT, II, OA, OB, OC, MM, LL, VV, FF, MG, LG, VG, FG]
 simp only [vts] at *
 (repeat first | refine uA ?_ | (apply S.exit; exact rfl) | (refine uK ?_ ?_; focus first | omega | trivial | exact id | (intros; simp_all <;> omega)) | simp (disch := omega) only [go_sem, Nat.reduceBEq, Nat.reduceAdd, Nat.reduceLeDiff, Int.reduceToNat, Int.reducePow, ww] | (refine uD h ?_ ?_ ?_; exact tz hw; exact rfl))
 exact S.done (d9.out rfl (Imp.refl rfl) rfl)
theorem Vbs.one {k : Nat} {v : Vt} (h : 1 <= k) (h1 : Vb k v) : Vbs k [v] := ⟨h, fun x hx => by simp at hx; subst hx; exact h1⟩
theorem Vbs.two {k : Nat} {v u : Vt} (h : 2 <= k) (h1 : Vb k v) (h2 : Vb k u) : Vbs k [v, u] := ⟨h, fun x hx => by simp at hx; rcases hx with rfl | rfl <;> assumption⟩
theorem b2n (f : Fr) (hf : Fb 17179869184 f) : FZ 21 [f.c] (.v (.bool (okF f))) := by
 refine l8.of b0a b0t (by exact Nat.le_of_ble_eq_true rfl) fun w O hw => ?_
 obtain ⟨x, y, half, t⟩ := f
 obtain ⟨b1, b2, b3⟩ := hf
 simp only at b1 b2 b3
 have h1 := a8k [⟨x, y⟩] (Vbs.one (by decide) ⟨b1, b2⟩)
 rw [List.all_cons, List.all_nil, Bool.and_true] at h1
 have h2 := a1j t (b3.mono (by decide))
 have h3 := a2n t b3
 have h4 := U5 t b3
 unfold okF a2t
 simp only
 generalize okV ⟨x, y⟩ = q1 at *
 generalize decide t.D8 = q2 at *
 generalize o8 t = q3 at *
 generalize E9 (Nm.j3 t) = n at *
 simp only [a4F, l5, TT, II, OA, OB, OC, MM, LL, VV, FF, MG, LG, VG, FG]
 simp only [Fr.c, Fr.enc, vts, Vt.enc, rc, sb, ints, List.map_cons, List.map_nil] at *
 (repeat first | refine uA ?_ | (apply S.exit; exact rfl) | (refine uK ?_ ?_; focus first | omega | trivial | exact id | (intros; simp_all <;> omega)) | simp (disch := omega) only [go_sem, Nat.reduceBEq, Nat.reduceAdd, Nat.reduceLeDiff, Int.reduceToNat, Int.reducePow, ww] | (refine uD h2 ?_ ?_ ?_; exact tz hw; exact rfl) | (refine uD h3 ?_ ?_ ?_; exact tz hw; exact rfl) | (refine uD h4 ?_ ?_ ?_; exact tz hw; exact rfl) | (refine uE h1 ?_ ?_ ?_ ?_; exact tz hw; exact rfl; focus (repeat' first | exact l6.nil | exact Imp.refl rfl | exact Imp.frz rfl rfl rfl | (refine Imp.I8 rfl rfl ?_ ?_; (focus ((try simp only [List.length_append]); omega)); (focus first | rfl | assumption)) | refine l6.cons ?_ ?_); done))
 have e : (q1 && q2 && q3 && !(half && !decide (n = 0))) = (q1 && q2 && q3 && (!half || decide (n = 0))) := by cases q1 <;> cases q2 <;> cases q3 <;> cases half <;> simp
 rw [e]
 exact S.done (d9.out rfl (Imp.refl (by rfl)) rfl)
theorem b3t (l : List Vt) (hl : Vbs 1073741824 l) : FZ 91 [vts l] (ints (K4 l)) := by
 refine l8.of b0r b0k (by exact Nat.le_of_ble_eq_true rfl) fun w O hw => ?_
 have h1 := a4l l hl
 have h2 := a8k l ⟨by have := hl.1; omega, fun v hv => (hl.2 v hv).mono (by decide)⟩
 unfold K4
 generalize W9 l 8 = e at *
 generalize l.all okV = q at *
 simp only [a4G, l5, TT, II, OA, OB, OC, MM, LL, VV, FF, MG, LG, VG, FG]
 simp only [vts, ints] at *
 (repeat first | refine uA ?_ | (apply S.exit; exact rfl) | (refine uK ?_ ?_; focus first | omega | trivial | exact id | (intros; simp_all <;> omega)) | simp (disch := omega) only [go_sem, Nat.reduceBEq, Nat.reduceAdd, Nat.reduceLeDiff, Int.reduceToNat, Int.reducePow, ww] | (refine uD h1 ?_ ?_ ?_; exact tz hw; exact rfl))
 refine S.cond rfl (fun hc => ?_) (fun hc => ?_)
 ·rw [if_pos (by simpa using hc)]
  (repeat first | refine uA ?_ | (apply S.exit; exact rfl) | (refine uK ?_ ?_; focus first | omega | trivial | exact id | (intros; simp_all <;> omega)) | simp (disch := omega) only [go_sem, Nat.reduceBEq, Nat.reduceAdd, Nat.reduceLeDiff, Int.reduceToNat, Int.reducePow, ww])
  exact S.done (d9.out rfl (Imp.refl rfl) rfl)
 rw [if_neg (by simpa using hc)]
 (repeat first | refine uA ?_ | (apply S.exit; exact rfl) | (refine uK ?_ ?_; focus first | omega | trivial | exact id | (intros; simp_all <;> omega)) | simp (disch := omega) only [go_sem, Nat.reduceBEq, Nat.reduceAdd, Nat.reduceLeDiff, Int.reduceToNat, Int.reducePow, ww] | (refine uD h2 ?_ ?_ ?_; exact tz hw; exact rfl))
 refine S.cond rfl (fun hc => ?_) (fun hc => ?_)
 ·rw [if_neg (by simpa using hc)]
  (repeat first | refine uA ?_ | (apply S.exit; exact rfl) | (refine uK ?_ ?_; focus first | omega | trivial | exact id | (intros; simp_all <;> omega)) | simp (disch := omega) only [go_sem, Nat.reduceBEq, Nat.reduceAdd, Nat.reduceLeDiff, Int.reduceToNat, Int.reducePow, ww])
  exact S.done (d9.out rfl (Imp.refl rfl) rfl)
 ·rw [if_pos (by simpa using hc)]
  (repeat first | refine uA ?_ | (apply S.exit; exact rfl) | (refine uK ?_ ?_; focus first | omega | trivial | exact id | (intros; simp_all <;> omega)) | simp (disch := omega) only [go_sem, Nat.reduceBEq, Nat.reduceAdd, Nat.reduceLeDiff, Int.reduceToNat, Int.reducePow, ww])
  exact S.done (d9.out rfl (Imp.refl rfl) rfl)
end Go.Proofs.YtogfpjohjphngaaGreatDoor
namespace Go.Proofs.YtogfpjohjphngaaGreatDoor.Eng
open Go Go.RowKit
theorem p8.ofT {E : Ctx} {eff : Nat -> Bool} {f : Nat} {fn : Func} {ir : l9} (ht : Tz E) (hf : E.P.funcs[f]? = some fn) (hc : j6 eff E.P fn = some ir) {rs : List Res} {args : List C} {s : C} {rs' : List Res} {pk : List Nat} (hn : args.length <= ir.ntmps)
  (h : ∀ w own av ν, ν.length = rs.length -> Tz ⟨E.P, eff, ir.ntmps, w, own, av, ν, pk⟩ -> S ⟨E.P, eff, ir.ntmps, w, own, av, ν, pk⟩ (Fin E.P ir.results (b7m ⟨E.P, eff, ir.ntmps, w, own, av, ν, pk⟩ rs' s)) ⟨l5 0 args, rs⟩ [.code ir.body]) : p8 E rs f args s rs' pk := by
 intro av ν w vs hR hav hF hD
 have hR' : RG av (owned rs ν) w.heap.size ν rs w := ⟨hR.len, hR.res, hR.dis, fun b hb => ⟨(hR.low b hb).1, (hR.low b hb).2.1, .inl hb⟩, hR.av, Nat.le_refl _⟩
 have ht' : Tz ⟨E.P, eff, ir.ntmps, w, owned rs ν, av, ν, pk⟩ := ⟨ht.at hF, fun ho => by
  rcases (hR.low _ ho).2.2 with h1 | h1
  ·exact ht.2 h1
  ·have := c0z ht.1; omega⟩
 refine (b3M (E := ⟨E.P, eff, ir.ntmps, w, owned rs ν, av, ν, pk⟩) hf hc rfl rfl hR.av rs hR' args hD hn (h w (owned rs ν) av ν hR.len ht')).mono ?_
 rintro e w' ⟨y, rfl, ν', h1, h2, h3, h4⟩
 refine ⟨y, ν', rfl, ⟨h1.len, h1.res, h1.dis, fun b hb => ?_, h1.av, Nat.le_trans hR.n0 h2.size⟩, ⟨h2.os, h2.tape, h2.output, h2.size, h2.block, fun b hb => (h1.low b hb).2.2, h3⟩, h4⟩
 obtain ⟨g1, g2, g3⟩ := h1.low b hb
 refine ⟨g1, g2, ?_⟩
 rcases g3 with g3 | g3
 ·exact (hR.low b g3).2.2
 ·exact .inr (Nat.le_trans hR.n0 g3)
def Res.shut : Res -> Bool
 | .gone => false
 | .box _ cs => C.clL cs
 | .row _ _ _ => true
 | .map _ _ => true
theorem b5r {ν ν' : List Value} {w : World} {O O' : Nat -> Prop} {x : Value} {r : Res} (hs : r.shut = true) (hO : ∀ b, O' b -> O b) (h : K7 ν w O x r) : K7 ν' w O' x r := by
 cases r with
 | gone => cases hs
 | box t cs =>
  obtain ⟨b, vs, h1, h2, h3, h4⟩ := h
  exact ⟨b, vs, h1, (FzL.keep (Keeps.sub hO) (h2.fz hs)).den ν', h3, h4⟩
 | row e sz es => exact a4L hO h
 | map s es => exact h
theorem c0T {r r' : Res} (hs : r.shut = true) {x : Value} {b : Nat} (h : fp r' x b) : fp r x b := by
 cases r <;> cases r' <;> first | exact False.elim h | exact h | (cases hs; done)
def at0 (k : Nat) : C -> C
 | .mp 0 => .mp k
 | .bp 0 o => .bp k o
 | .rv 0 => .rv k
 | .bnd f (.mp 0) => .bnd f (.mp k)
 | c => c
def okA : C -> Bool
 | .mp 0 => true
 | .bp 0 _ => true
 | .rv 0 => true
 | .bnd _ (.mp 0) => true
 | c => c.cl
theorem c1j {ν : List Value} {w : World} {O O' : Nat -> Prop} {k : Nat} {x : Value} (hk : ν[k]? = some x) (hO : ∀ b, O' b -> O b) {c : C} {y : Value} (hc : okA c = true) (h : Den ν w O (at0 k c) y) : Den [x] w O' c y := by
 unfold okA at hc
 split at hc
 ·simp only [at0, Den] at h ⊢
  rw [hk] at h
  exact h
 ·simp only [at0, Den] at h ⊢
  rw [hk] at h
  exact h
 ·simp only [at0, Den] at h ⊢
  rw [hk] at h
  exact h
 ·simp only [at0, Den] at h ⊢
  rw [hk] at h
  exact h
 ·rename_i c0 h1 h2 h3 h4
  have e : at0 k c = c := by
   cases c with
   | mp j => cases j with
    | zero => exact (h1 rfl).elim
    | succ j => rfl
   | bp j o => cases j with
    | zero => exact (h2 _ rfl).elim
    | succ j => rfl
   | rv j => cases j with
    | zero => exact (h3 rfl).elim
    | succ j => rfl
   | bnd g d => cases d with
    | mp j => cases j with
     | zero => exact (h4 _ rfl).elim
     | succ j => rfl
    | _ => rfl
   | _ => rfl
  rw [e] at h
  exact (Fz.keep (Keeps.sub hO) (h.fz hc)).den _
theorem b3I {ν : List Value} {w : World} {O O' : Nat -> Prop} {k : Nat} {x : Value} (hk : ν[k]? = some x) (hO : ∀ b, O' b -> O b) : ∀ {cs : List C} {vs : List Value}, cs.all okA = true -> j5 ν w O (cs.map (at0 k)) vs -> j5 [x] w O' cs vs
 | [], vs, _, h => by simpa only [List.map_nil, j5] using h
 | c :: cs, vs, hc, h => by
  simp only [List.map_cons, j5, List.all_cons, Bool.and_eq_true] at h hc ⊢
  obtain ⟨y, ys, e, h1, h2⟩ := h
  exact ⟨y, ys, e, c1j hk hO hc.1 h1, b3I hk hO hc.2 h2⟩
theorem p8.lift {E : Ctx} {rs : List Res} {k f : Nat} {args : List C} {s : C} {r r' : Res} (hk : rs[k]? = some r) (h : p8 E [r] f args s [r'] []) (hs : (r.shut && r'.shut) = true) (ha : args.all okA = true) (hc : s.cl = true) : p8 E rs f (args.map (at0 k)) s (rs.set k r') [] := by
 rw [Bool.and_eq_true] at hs
 intro av ν w vs hR hav hF hD
 obtain ⟨x, hx, hok⟩ := hR.res k r hk
 have hown : ∀ b, fp r x b -> owned rs ν b := fun b hb => ⟨k, r, x, hk, hx, hb⟩
 have ho1 : ∀ (q : Res) b, owned [q] [x] b <-> fp q x b := fun q b => by
  constructor
  ·rintro ⟨l, q', y, h1, h2, h3⟩
   cases l with
   | zero => simp at h1 h2; subst h1 h2; exact h3
   | succ l => simp at h1
  ·exact fun hb => ⟨0, q, x, rfl, rfl, hb⟩
 let av' : Nat -> Prop := fun b => OO av rs ν b /\ ¬ fp r x b
 have hOO : ∀ b, OO av' [r] [x] b -> OO av rs ν b := fun b hb => by
  rcases hb with hb | hb
  ·exact hb.1
  ·exact .inr (hown b ((ho1 r b).1 hb))
 have hRG : RG av' E.own0 E.w0.heap.size [x] [r] w := by
  refine ⟨rfl, fun l q hq => ?_, fun l m q q' y y' b hne h1 h2 => ?_, fun b hb => ?_, fun b hb => ?_, hR.n0⟩
  ·cases l with
   | zero => simp at hq; subst hq; exact ⟨x, rfl, b5r hs.1 hOO hok⟩
   | succ l => simp at hq
  ·have e1 : l = 0 := by have := (List.getElem?_eq_some_iff.1 h1).1; simp at this; exact this
   have e2 : m = 0 := by have := (List.getElem?_eq_some_iff.1 h2).1; simp at this; exact this
   omega
  ·have hb' := (ho1 r b).1 hb
   obtain ⟨g1, g2, g3⟩ := hR.low b (hown b hb')
   exact ⟨g1, fun h => h.2 hb', g3⟩
  ·rcases hb.1 with h1 | h1
   ·exact hR.av b h1
   ·exact (hR.low b h1).1
 have hav' : ∀ b, E.av b -> av' b := fun b hb => ⟨.inl (hav b hb), fun hf => (hR.low b (hown b hf)).2.1 (hav b hb)⟩
 have hD' : j5 [x] w (OO av' [r] [x]) args vs := b3I hx hOO ha hD
 refine (h av' [x] w vs hRG hav' hF hD').mono ?_
 rintro e w' ⟨y, ν', rfl, h1, h2, h3⟩
 have hν : ν' = [x] := by
  have hl := h1.len
  have h0 := h2.nu 0 x (fun hm => by cases hm) rfl
  match ν', hl, h0 with
  | [z], _, h0 => simp at h0; rw [h0]
 subst hν
 have hT : Turned w w' (fp r x) := ⟨h2.os, h2.tape, h2.output, h2.size, fun b hb hn => h2.block b hb fun ho => hn ((ho1 r b).1 ho)⟩
 have hOO' : ∀ b, OO av (rs.set k r') ν b -> OO av' [r'] [x] b := fun b hb => by
  rcases hb with hb | ⟨l, q, z, hq, hz, hf⟩
  ·exact .inl ⟨.inl hb, fun hf => (hR.low b (hown b hf)).2.1 hb⟩
  ·by_cases e : k = l
   ·subst e
    have hkl := (List.getElem?_eq_some_iff.1 hk).1
    rw [List.getElem?_set_self hkl] at hq
    rw [hx] at hz
    cases hq
    cases hz
    exact .inr ((ho1 r' b).2 hf)
   ·rw [List.getElem?_set_ne e] at hq
    exact .inl ⟨.inr ⟨l, q, z, hq, hz, hf⟩, fun hf' => hR.dis k l r q x z b e hk hq hx hz hf' hf⟩
 have hup := hR.upd (r' := r') hk hx hT (fun b hb => c0T hs.1 hb) (fun _ => by
  obtain ⟨x', hx', hok'⟩ := h1.res 0 r' rfl
  simp at hx'
  subst hx'
  exact b5r hs.2 hOO' hok')
 exact ⟨y, ν, rfl, hup.1, hup.2, (Fz.keep (Keeps.sub hOO') (h3.fz hc)).den ν⟩
end Go.Proofs.YtogfpjohjphngaaGreatDoor.Eng
namespace Go.Proofs.YtogfpjohjphngaaGreatDoor
open Go Go.RowKit Eng
set_option maxRecDepth 10000
set_option maxHeartbeats 8000000
theorem c2S (n : Nms) (s : List UInt8) : (a0B (.string (bs s)) (nmE n)).getD (.bool false) = .bool (n.contains s) := by
 rw [c1k]; cases n.contains s <;> rfl
theorem b1R {E : Ctx} (hP : E.P = Tryz.prog) (n : Nms) (s : List UInt8) (hs : s.length <= 1099511627776) :
  p8 E [.map true (nmE n)] 88 [.mp 0, sb s] (ints (J2 n s).1) [.map true (nmE (J2 n s).2)] [] := by
 obtain ⟨P, eff', N, w0, own0, av0, nu0, pk0⟩ := E
 simp only at hP
 subst hP
 refine p8.of (eff := eff) a6K a6M (by exact Nat.le_of_ble_eq_true rfl) fun w own av ν hν => ?_
 have hν0 : ν.length <= 1 := by rw [hν]; exact Nat.le_refl _
 have h1 := c1h s hs
 have hk := c2S n s
 have hp := c1X n s
 unfold J2
 generalize a0A s = q at *
 generalize n.contains s = c at *
 simp only [a2D, l5, TT, II, OA, OB, OC, MM, LL, VV, FF, MG, LG, VG, FG]
 simp only [sb, ints] at *
 (repeat first | refine uA ?_ | (apply S.exit; exact rfl) | (refine uK ?_ ?_; focus first | omega | trivial | exact id | (intros; simp_all <;> omega)) | simp (disch := omega) only [go_sem, Nat.reduceBEq, Nat.reduceAdd, Nat.reduceLeDiff, Int.reduceToNat, Int.reducePow, ww] | (refine uB h1 ?_ ?_; exact rfl))
 refine S.cond rfl (fun hc => ?_) (fun hc => ?_)
 ·rw [if_pos (by simpa using hc)]
  (repeat first | refine uA ?_ | (apply S.exit; exact rfl) | (refine uK ?_ ?_; focus first | omega | trivial | exact id | (intros; simp_all <;> omega)) | simp (disch := omega) only [go_sem, Nat.reduceBEq, Nat.reduceAdd, Nat.reduceLeDiff, Int.reduceToNat, Int.reducePow, ww])
  (refine S.done ?_; simp only [x9, p9, go_sem, Nat.reduceBEq, Nat.reduceAdd, Nat.reduceLeDiff, Int.reduceToNat, Int.reducePow]; (repeat (refine ⟨?_, ?_⟩; focus first | trivial | omega | simp)); exact d9.Q9 (Imp.refl rfl) (by (repeat first | refine uA ?_ | (refine ⟨?_, ?_⟩; focus first | rfl | trivial | (simp [slot]; done)) | rfl | trivial | simp)) (Nat.le_trans hν0 (by simp)))
 rw [if_neg (by simpa using hc)]
 (repeat first | refine uA ?_ | (apply S.exit; exact rfl) | (refine uK ?_ ?_; focus first | omega | trivial | exact id | (intros; simp_all <;> omega)) | simp (disch := omega) only [go_sem, Nat.reduceBEq, Nat.reduceAdd, Nat.reduceLeDiff, Int.reduceToNat, Int.reducePow, ww, hk])
 refine S.cond rfl (fun hc => ?_) (fun hc => ?_)
 ·rw [if_pos hc]
  (repeat first | refine uA ?_ | (apply S.exit; exact rfl) | (refine uK ?_ ?_; focus first | omega | trivial | exact id | (intros; simp_all <;> omega)) | simp (disch := omega) only [go_sem, Nat.reduceBEq, Nat.reduceAdd, Nat.reduceLeDiff, Int.reduceToNat, Int.reducePow, ww])
  (refine S.done ?_; simp only [x9, p9, go_sem, Nat.reduceBEq, Nat.reduceAdd, Nat.reduceLeDiff, Int.reduceToNat, Int.reducePow]; (repeat (refine ⟨?_, ?_⟩; focus first | trivial | omega | simp)); exact d9.Q9 (Imp.refl rfl) (by (repeat first | refine uA ?_ | (refine ⟨?_, ?_⟩; focus first | rfl | trivial | (simp [slot]; done)) | rfl | trivial | simp)) (Nat.le_trans hν0 (by simp)))
 ·rw [if_neg (by rw [hc]; decide)]
  have hp := hp hc
  (repeat first | refine uA ?_ | (apply S.exit; exact rfl) | (refine uK ?_ ?_; focus first | omega | trivial | exact id | (intros; simp_all <;> omega)) | simp (disch := omega) only [go_sem, Nat.reduceBEq, Nat.reduceAdd, Nat.reduceLeDiff, Int.reduceToNat, Int.reducePow, ww, hp])
  (refine S.done ?_; simp only [x9, p9, go_sem, Nat.reduceBEq, Nat.reduceAdd, Nat.reduceLeDiff, Int.reduceToNat, Int.reducePow]; (repeat (refine ⟨?_, ?_⟩; focus first | trivial | omega | simp)); exact d9.Q9 (Imp.refl rfl) (by (repeat first | refine uA ?_ | (refine ⟨?_, ?_⟩; focus first | rfl | trivial | (simp [slot]; done)) | rfl | trivial | simp)) (Nat.le_trans hν0 (by simp)))
theorem c2v {E : Ctx} (hP : E.P = Tryz.prog) (ht0 : Tz E) (n : Nms) (p : Pt) (hb : Pb 1073741824 p) :
  p8 E [.map true (nmE n)] 93 [.mp 0, p.c] (ints (Y3 n p).1) [.map true (nmE (Y3 n p).2)] [] := by
 obtain ⟨P, eff', N, w0, own0, av0, nu0, pk0⟩ := E
 simp only at hP
 subst hP
 refine p8.ofT (eff := eff) ht0 a6d a6c (by exact Nat.le_of_ble_eq_true rfl) fun w own av ν hν ht => ?_
 have hν0 : ν.length <= 1 := by rw [hν]; exact Nat.le_refl _
 obtain ⟨name, shape, ⟨x, y, half, t⟩⟩ := p
 obtain ⟨b0, b1, b2, b3, b4⟩ := hb
 simp only at b0 b1 b2 b3 b4
 have h1 := fun (E : Ctx) (hP : E.P = Tryz.prog) => b1R hP n name (by omega)
 have h2 := b3t shape b1
 have h3 := b2n ⟨x, y, half, t⟩ ⟨b2.mono (by decide), b3.mono (by decide), b4.mono (by decide)⟩
 unfold Y3
 simp only
 generalize J2 n name = r at *
 obtain ⟨e1, m⟩ := r
 generalize K4 shape = e2 at *
 generalize okF ⟨x, y, half, t⟩ = q at *
 simp only [a1V, l5, TT, II, OA, OB, OC, MM, LL, VV, FF, MG, LG, VG, FG]
 simp only [Pt.c, Pt.enc, Fr.c, Fr.enc, vts, sb, ints] at *
 (repeat first | refine uA ?_ | (apply S.exit; exact rfl) | (refine uK ?_ ?_; focus first | omega | trivial | exact id | (intros; simp_all <;> omega)) | simp (disch := omega) only [go_sem, Nat.reduceBEq, Nat.reduceAdd, Nat.reduceLeDiff, Int.reduceToNat, Int.reducePow, ww] | refine q9.t (p8.lift (k := 0) rfl (h1 _ rfl) rfl rfl rfl) ?_)
 refine S.cond rfl (fun hc => ?_) (fun hc => ?_)
 ·rw [if_pos (by simpa using hc)]
  (repeat first | refine uA ?_ | (apply S.exit; exact rfl) | (refine uK ?_ ?_; focus first | omega | trivial | exact id | (intros; simp_all <;> omega)) | simp (disch := omega) only [go_sem, Nat.reduceBEq, Nat.reduceAdd, Nat.reduceLeDiff, Int.reduceToNat, Int.reducePow, ww])
  (refine S.done ?_; simp only [x9, p9, go_sem, Nat.reduceBEq, Nat.reduceAdd, Nat.reduceLeDiff, Int.reduceToNat, Int.reducePow]; (repeat (refine ⟨?_, ?_⟩; focus first | trivial | omega | simp)); exact d9.Q9 (Imp.refl rfl) (by (repeat first | refine uA ?_ | (refine ⟨?_, ?_⟩; focus first | rfl | trivial | (simp [slot]; done)) | rfl | trivial | simp)) (Nat.le_trans hν0 (by simp)))
 rw [if_neg (by simpa using hc)]
 (repeat first | refine uA ?_ | (apply S.exit; exact rfl) | (refine uK ?_ ?_; focus first | omega | trivial | exact id | (intros; simp_all <;> omega)) | simp (disch := omega) only [go_sem, Nat.reduceBEq, Nat.reduceAdd, Nat.reduceLeDiff, Int.reduceToNat, Int.reducePow, ww] | (refine uD h2 ?_ ?_ ?_; exact ht; exact rfl))
 refine S.cond rfl (fun hc => ?_) (fun hc => ?_)
 ·rw [if_pos (by simpa using hc)]
  (repeat first | refine uA ?_ | (apply S.exit; exact rfl) | (refine uK ?_ ?_; focus first | omega | trivial | exact id | (intros; simp_all <;> omega)) | simp (disch := omega) only [go_sem, Nat.reduceBEq, Nat.reduceAdd, Nat.reduceLeDiff, Int.reduceToNat, Int.reducePow, ww])
  (refine S.done ?_; simp only [x9, p9, go_sem, Nat.reduceBEq, Nat.reduceAdd, Nat.reduceLeDiff, Int.reduceToNat, Int.reducePow]; (repeat (refine ⟨?_, ?_⟩; focus first | trivial | omega | simp)); exact d9.Q9 (Imp.refl rfl) (by (repeat first | refine uA ?_ | (refine ⟨?_, ?_⟩; focus first | rfl | trivial | (simp [slot]; done)) | rfl | trivial | simp)) (Nat.le_trans hν0 (by simp)))
 rw [if_neg (by simpa using hc)]
 (repeat first | refine uA ?_ | (apply S.exit; exact rfl) | (refine uK ?_ ?_; focus first | omega | trivial | exact id | (intros; simp_all <;> omega)) | simp (disch := omega) only [go_sem, Nat.reduceBEq, Nat.reduceAdd, Nat.reduceLeDiff, Int.reduceToNat, Int.reducePow, ww] | (refine uD h3 ?_ ?_ ?_; exact ht; exact rfl))
 refine S.cond rfl (fun hc => ?_) (fun hc => ?_)
 ·rw [if_neg (by simpa using hc)]
  (repeat first | refine uA ?_ | (apply S.exit; exact rfl) | (refine uK ?_ ?_; focus first | omega | trivial | exact id | (intros; simp_all <;> omega)) | simp (disch := omega) only [go_sem, Nat.reduceBEq, Nat.reduceAdd, Nat.reduceLeDiff, Int.reduceToNat, Int.reducePow, ww])
  (refine S.done ?_; simp only [x9, p9, go_sem, Nat.reduceBEq, Nat.reduceAdd, Nat.reduceLeDiff, Int.reduceToNat, Int.reducePow]; (repeat (refine ⟨?_, ?_⟩; focus first | trivial | omega | simp)); exact d9.Q9 (Imp.refl rfl) (by (repeat first | refine uA ?_ | (refine ⟨?_, ?_⟩; focus first | rfl | trivial | (simp [slot]; done)) | rfl | trivial | simp)) (Nat.le_trans hν0 (by simp)))
 ·rw [if_pos (by simpa using hc)]
  (repeat first | refine uA ?_ | (apply S.exit; exact rfl) | (refine uK ?_ ?_; focus first | omega | trivial | exact id | (intros; simp_all <;> omega)) | simp (disch := omega) only [go_sem, Nat.reduceBEq, Nat.reduceAdd, Nat.reduceLeDiff, Int.reduceToNat, Int.reducePow, ww])
  (refine S.done ?_; simp only [x9, p9, go_sem, Nat.reduceBEq, Nat.reduceAdd, Nat.reduceLeDiff, Int.reduceToNat, Int.reducePow]; (repeat (refine ⟨?_, ?_⟩; focus first | trivial | omega | simp)); exact d9.Q9 (Imp.refl rfl) (by (repeat first | refine uA ?_ | (refine ⟨?_, ?_⟩; focus first | rfl | trivial | (simp [slot]; done)) | rfl | trivial | simp)) (Nat.le_trans hν0 (by simp)))
theorem c2A {E : Ctx} (hP : E.P = Tryz.prog) (ht0 : Tz E) (n : Nms) (s : Sl) (hb : Sb 1073741824 s) :
  p8 E [.map true (nmE n)] 95 [.mp 0, s.c] (ints (Y2 n s).1) [.map true (nmE (Y2 n s).2)] [] := by
 obtain ⟨P, eff', N, w0, own0, av0, nu0, pk0⟩ := E
 simp only at hP
 subst hP
 refine p8.ofT (eff := eff) ht0 a6a a6f (by exact Nat.le_of_ble_eq_true rfl) fun w own av ν hν ht => ?_
 have hν0 : ν.length <= 1 := by rw [hν]; exact Nat.le_refl _
 obtain ⟨name, ⟨x, y, half, t⟩, within⟩ := s
 obtain ⟨b0, ⟨b2, b3, b4⟩, b5⟩ := hb
 simp only at b0 b2 b3 b4 b5
 have h1 := fun (E : Ctx) (hP : E.P = Tryz.prog) => b1R hP n name (by omega)
 have h3 := b2n ⟨x, y, half, t⟩ ⟨b2.mono (by decide), b3.mono (by decide), b4.mono (by decide)⟩
 have h4 := a1j within (b5.mono (by decide))
 have h5 := a2n within (b5.mono (by decide))
 have h6 := U5 within (b5.mono (by decide))
 unfold Y2
 simp only
 generalize J2 n name = r at *
 obtain ⟨e1, m⟩ := r
 generalize okF ⟨x, y, half, t⟩ = q1 at *
 generalize decide within.D8 = q2 at *
 generalize o8 within = q3 at *
 generalize E9 (Nm.j3 within) = n4 at *
 simp only [a1W, l5, TT, II, OA, OB, OC, MM, LL, VV, FF, MG, LG, VG, FG]
 simp only [Sl.c, Sl.enc, Fr.c, Fr.enc, vts, rc, sb, ints] at *
 (repeat first | refine uA ?_ | (apply S.exit; exact rfl) | (refine uK ?_ ?_; focus first | omega | trivial | exact id | (intros; simp_all <;> omega)) | simp (disch := omega) only [go_sem, Nat.reduceBEq, Nat.reduceAdd, Nat.reduceLeDiff, Int.reduceToNat, Int.reducePow, ww] | refine q9.t (p8.lift (k := 0) rfl (h1 _ rfl) rfl rfl rfl) ?_)
 refine S.cond rfl (fun hc => ?_) (fun hc => ?_)
 ·rw [if_pos (by simpa using hc)]
  (repeat first | refine uA ?_ | (apply S.exit; exact rfl) | (refine uK ?_ ?_; focus first | omega | trivial | exact id | (intros; simp_all <;> omega)) | simp (disch := omega) only [go_sem, Nat.reduceBEq, Nat.reduceAdd, Nat.reduceLeDiff, Int.reduceToNat, Int.reducePow, ww])
  (refine S.done ?_; simp only [x9, p9, go_sem, Nat.reduceBEq, Nat.reduceAdd, Nat.reduceLeDiff, Int.reduceToNat, Int.reducePow]; (repeat (refine ⟨?_, ?_⟩; focus first | trivial | omega | simp)); exact d9.Q9 (Imp.refl rfl) (by (repeat first | refine uA ?_ | (refine ⟨?_, ?_⟩; focus first | rfl | trivial | (simp [slot]; done)) | rfl | trivial | simp)) (Nat.le_trans hν0 (by simp)))
 rw [if_neg (by simpa using hc)]
 (repeat first | refine uA ?_ | (apply S.exit; exact rfl) | (refine uK ?_ ?_; focus first | omega | trivial | exact id | (intros; simp_all <;> omega)) | simp (disch := omega) only [go_sem, Nat.reduceBEq, Nat.reduceAdd, Nat.reduceLeDiff, Int.reduceToNat, Int.reducePow, ww] | (refine uD h3 ?_ ?_ ?_; exact ht; exact rfl) | (refine uD h4 ?_ ?_ ?_; exact ht; exact rfl) | (refine uD h5 ?_ ?_ ?_; exact ht; exact rfl) | (refine uD h6 ?_ ?_ ?_; exact ht; exact rfl))
 refine S.cond rfl (fun hc => ?_) (fun hc => ?_)
 ·rw [if_neg (by simp only [Bool.or_eq_true, Bool.not_eq_true', decide_eq_true_eq] at hc; simp only [Bool.and_eq_true, decide_eq_true_eq]; rintro ⟨⟨⟨h7, h8⟩, h9⟩, h10⟩; rcases hc with ((hc | hc) | hc) | hc <;> first | (rw [hc] at h7; cases h7; done) | (rw [hc] at h8; cases h8; done) | (rw [hc] at h9; cases h9; done) | omega)]
  (repeat first | refine uA ?_ | (apply S.exit; exact rfl) | (refine uK ?_ ?_; focus first | omega | trivial | exact id | (intros; simp_all <;> omega)) | simp (disch := omega) only [go_sem, Nat.reduceBEq, Nat.reduceAdd, Nat.reduceLeDiff, Int.reduceToNat, Int.reducePow, ww])
  (refine S.done ?_; simp only [x9, p9, go_sem, Nat.reduceBEq, Nat.reduceAdd, Nat.reduceLeDiff, Int.reduceToNat, Int.reducePow]; (repeat (refine ⟨?_, ?_⟩; focus first | trivial | omega | simp)); exact d9.Q9 (Imp.refl rfl) (by (repeat first | refine uA ?_ | (refine ⟨?_, ?_⟩; focus first | rfl | trivial | (simp [slot]; done)) | rfl | trivial | simp)) (Nat.le_trans hν0 (by simp)))
 ·rw [if_pos (by simp only [Bool.or_eq_false_iff, Bool.not_eq_false', decide_eq_false_iff_not] at hc; simp only [Bool.and_eq_true, decide_eq_true_eq]; obtain ⟨⟨⟨h7, h8⟩, h9⟩, h10⟩ := hc; exact ⟨⟨⟨h7, h8⟩, h9⟩, by omega⟩)]
  (repeat first | refine uA ?_ | (apply S.exit; exact rfl) | (refine uK ?_ ?_; focus first | omega | trivial | exact id | (intros; simp_all <;> omega)) | simp (disch := omega) only [go_sem, Nat.reduceBEq, Nat.reduceAdd, Nat.reduceLeDiff, Int.reduceToNat, Int.reducePow, ww])
  (refine S.done ?_; simp only [x9, p9, go_sem, Nat.reduceBEq, Nat.reduceAdd, Nat.reduceLeDiff, Int.reduceToNat, Int.reducePow]; (repeat (refine ⟨?_, ?_⟩; focus first | trivial | omega | simp)); exact d9.Q9 (Imp.refl rfl) (by (repeat first | refine uA ?_ | (refine ⟨?_, ?_⟩; focus first | rfl | trivial | (simp [slot]; done)) | rfl | trivial | simp)) (Nat.le_trans hν0 (by simp)))
theorem c1Y {E : Ctx} (hP : E.P = Tryz.prog) (ht0 : Tz E) (n : Nms) (g : Gt) (hb : Gb 1073741824 g) :
  p8 E [.map true (nmE n)] 97 [.mp 0, g.c] (ints (Y9 n g).1) [.map true (nmE (Y9 n g).2)] [] := by
 obtain ⟨P, eff', N, w0, own0, av0, nu0, pk0⟩ := E
 simp only at hP
 subst hP
 refine p8.ofT (eff := eff) ht0 a5Y a6b (by exact Nat.le_of_ble_eq_true rfl) fun w own av ν hν ht => ?_
 have hν0 : ν.length <= 1 := by rw [hν]; exact Nat.le_refl _
 obtain ⟨name, ⟨lx, ly⟩, ⟨hx, hy⟩⟩ := g
 obtain ⟨b0, ⟨b1, b2⟩, ⟨b3, b4⟩⟩ := hb
 simp only at b0 b1 b2 b3 b4
 have h1 := fun (E : Ctx) (hP : E.P = Tryz.prog) => b1R hP n name (by omega)
 have h3 := a8k [⟨lx, ly⟩, ⟨hx, hy⟩] (Vbs.two (by decide) ⟨b1.mono (by decide), b2.mono (by decide)⟩ ⟨b3.mono (by decide), b4.mono (by decide)⟩)
 rw [a5c] at h3
 have h4 := Q8 lx hx (b1.mono (by decide)) (b3.mono (by decide))
 have h5 := Q8 ly hy (b2.mono (by decide)) (b4.mono (by decide))
 unfold Y9
 simp only
 generalize J2 n name = r at *
 obtain ⟨e1, m⟩ := r
 generalize (okV ⟨lx, ly⟩ && okV ⟨hx, hy⟩) = q1 at *
 generalize Nm.A9 (Nm.j3 lx) (Nm.j3 hx) = n1 at *
 generalize Nm.A9 (Nm.j3 ly) (Nm.j3 hy) = n2 at *
 simp only [a1X, l5, TT, II, OA, OB, OC, MM, LL, VV, FF, MG, LG, VG, FG]
 simp only [Gt.c, Gt.enc, vts, Vt.enc, rc, sb, ints, List.map_cons, List.map_nil] at *
 (repeat first | refine uA ?_ | (apply S.exit; exact rfl) | (refine uK ?_ ?_; focus first | omega | trivial | exact id | (intros; simp_all <;> omega)) | simp (disch := omega) only [go_sem, Nat.reduceBEq, Nat.reduceAdd, Nat.reduceLeDiff, Int.reduceToNat, Int.reducePow, ww] | refine q9.t (p8.lift (k := 0) rfl (h1 _ rfl) rfl rfl rfl) ?_)
 refine S.cond rfl (fun hc => ?_) (fun hc => ?_)
 ·rw [if_pos (by simpa using hc)]
  (repeat first | refine uA ?_ | (apply S.exit; exact rfl) | (refine uK ?_ ?_; focus first | omega | trivial | exact id | (intros; simp_all <;> omega)) | simp (disch := omega) only [go_sem, Nat.reduceBEq, Nat.reduceAdd, Nat.reduceLeDiff, Int.reduceToNat, Int.reducePow, ww])
  (refine S.done ?_; simp only [x9, p9, go_sem, Nat.reduceBEq, Nat.reduceAdd, Nat.reduceLeDiff, Int.reduceToNat, Int.reducePow]; (repeat (refine ⟨?_, ?_⟩; focus first | trivial | omega | simp)); exact d9.Q9 (Imp.refl rfl) (by (repeat first | refine uA ?_ | (refine ⟨?_, ?_⟩; focus first | rfl | trivial | (simp [slot]; done)) | rfl | trivial | simp)) (Nat.le_trans hν0 (by simp)))
 rw [if_neg (by simpa using hc)]
 (repeat first | refine uA ?_ | (apply S.exit; exact rfl) | (refine uK ?_ ?_; focus first | omega | trivial | exact id | (intros; simp_all <;> omega)) | simp (disch := omega) only [go_sem, Nat.reduceBEq, Nat.reduceAdd, Nat.reduceLeDiff, Int.reduceToNat, Int.reducePow, ww] | (refine uD h4 ?_ ?_ ?_; exact ht; exact rfl) | (refine uD h5 ?_ ?_ ?_; exact ht; exact rfl) | (refine uE h3 ?_ ?_ ?_ ?_; exact ht; exact rfl; focus (repeat' first | exact l6.nil | exact Imp.refl rfl | exact Imp.frz rfl rfl rfl | (refine Imp.I8 rfl rfl ?_ ?_; (focus ((try simp only [List.length_append]); omega)); (focus first | rfl | assumption)) | refine l6.cons ?_ ?_); done))
 refine S.cond rfl (fun hc => ?_) (fun hc => ?_)
 ·rw [if_neg (by simp only [Bool.or_eq_true, Bool.not_eq_true', decide_eq_true_eq] at hc; simp only [Bool.and_eq_true, decide_eq_true_eq]; rintro ⟨⟨h7, h8⟩, h9⟩; rcases hc with (hc | hc) | hc <;> first | (rw [hc] at h7; cases h7; done) | omega)]
  (repeat first | refine uA ?_ | (apply S.exit; exact rfl) | (refine uK ?_ ?_; focus first | omega | trivial | exact id | (intros; simp_all <;> omega)) | simp (disch := omega) only [go_sem, Nat.reduceBEq, Nat.reduceAdd, Nat.reduceLeDiff, Int.reduceToNat, Int.reducePow, ww])
  (refine S.done ?_; simp only [x9, p9, go_sem, Nat.reduceBEq, Nat.reduceAdd, Nat.reduceLeDiff, Int.reduceToNat, Int.reducePow]; (repeat (refine ⟨?_, ?_⟩; focus first | trivial | omega | simp)); exact d9.Q9 (Imp.refl rfl) (by (repeat first | refine uA ?_ | (refine ⟨?_, ?_⟩; focus first | rfl | trivial | (simp [slot]; done)) | rfl | trivial | simp)) (Nat.le_trans hν0 (by simp)))
 ·rw [if_pos (by simp only [Bool.or_eq_false_iff, Bool.not_eq_false', decide_eq_false_iff_not] at hc; simp only [Bool.and_eq_true, decide_eq_true_eq]; obtain ⟨⟨h7, h8⟩, h9⟩ := hc; exact ⟨⟨h7, by omega⟩, by omega⟩)]
  (repeat first | refine uA ?_ | (apply S.exit; exact rfl) | (refine uK ?_ ?_; focus first | omega | trivial | exact id | (intros; simp_all <;> omega)) | simp (disch := omega) only [go_sem, Nat.reduceBEq, Nat.reduceAdd, Nat.reduceLeDiff, Int.reduceToNat, Int.reducePow, ww])
  (refine S.done ?_; simp only [x9, p9, go_sem, Nat.reduceBEq, Nat.reduceAdd, Nat.reduceLeDiff, Int.reduceToNat, Int.reducePow]; (repeat (refine ⟨?_, ?_⟩; focus first | trivial | omega | simp)); exact d9.Q9 (Imp.refl rfl) (by (repeat first | refine uA ?_ | (refine ⟨?_, ?_⟩; focus first | rfl | trivial | (simp [slot]; done)) | rfl | trivial | simp)) (Nat.le_trans hν0 (by simp)))
theorem b6g {E : Ctx} (hP : E.P = Tryz.prog) (ht0 : Tz E) (n : Nms) (l : List Pt) (hn : l.length <= 1073741824) (hb : ∀ x ∈ l, Pb 1073741824 x) :
  p8 E [.map true (nmE n)] 92 [pts l, .bnd 93 (.mp 0)] (ints (D7 Y3 n l).1) [.map true (nmE (D7 Y3 n l).2)] [] := by
 obtain ⟨P, eff', N, w0, own0, av0, nu0, pk0⟩ := E
 simp only at hP
 subst hP
 refine p8.ofT (eff := eff) ht0 a4h a4E (by exact Nat.le_of_ble_eq_true rfl) fun w own av ν hν ht => ?_
 have hν0 : ν.length <= 1 := by rw [hν]; exact Nat.le_refl _
 simp only [a1f, l5, TT, II, OA, OB, OC, MM, LL, VV, FF, MG, LG, VG, FG, pts, ints]
 (repeat first | refine uA ?_ | (apply S.exit; exact rfl) | (refine uK ?_ ?_; focus first | omega | trivial | exact id | (intros; simp_all <;> omega)) | simp (disch := omega) only [go_sem, Nat.reduceBEq, Nat.reduceAdd, Nat.reduceLeDiff, Int.reduceToNat, Int.reducePow, ww, List.length_map])
 refine S.loop (X := Nat × Nms) (fun x => ⟨[(1, .bnd 93 (.mp 0)), (8, pts l), (9, ints l.length), (10, ints x.1)], [.map true (nmE x.2)]⟩) (fun x => x.1 <= l.length /\ D7 Y3 n l = D7 Y3 x.2 (l.drop x.1)) (fun x => l.length - x.1) (0, n) ⟨Nat.zero_le _, rfl⟩ (by (repeat first | refine uA ?_ | (refine ⟨?_, ?_⟩; focus first | rfl | trivial | (simp [slot]; done)) | rfl | trivial | simp | exact Nat.le_trans hν0 (by simp))) ?_
 rintro ⟨i, m⟩ ⟨hi, hg⟩
 simp only [pts, ints] at hi hg ⊢
 (repeat first | refine uA ?_ | (apply S.exit; exact rfl) | (refine uK ?_ ?_; focus first | omega | trivial | exact id | (intros; simp_all <;> omega)) | simp (disch := omega) only [go_sem, Nat.reduceBEq, Nat.reduceAdd, Nat.reduceLeDiff, Int.reduceToNat, Int.reducePow, ww])
 (refine uJ rfl (fun hc => ?_) fun hc => ?_)
 ·have hi' : i < l.length := by omega
  have hgi := List.getElem?_eq_getElem hi'
  generalize l[i] = x at hgi
  have hst := Q5 (f := Y3) (s := m) hgi
  have hnx := P7 (f := Y3) (s := m) hgi
  have hs := fun (E : Ctx) (hP : E.P = Tryz.prog) (ht : Tz E) => c2v hP ht m x (hb x (List.mem_of_getElem? hgi))
  generalize Y3 m x = r at *
  obtain ⟨e, m'⟩ := r
  simp only [Pt.c, Pt.enc, vts, sb, ints] at hs hst hnx
  (repeat first | refine uA ?_ | (apply S.exit; exact rfl) | (refine uK ?_ ?_; focus first | omega | trivial | exact id | (intros; simp_all <;> omega)) | simp (disch := omega) only [go_sem, Nat.reduceBEq, Nat.reduceAdd, Nat.reduceLeDiff, Int.reduceToNat, Int.reducePow, ww, hgi, Option.map_some, List.length_map, Pt.c, Pt.enc, vts, sb] | refine q9.t (p8.lift (k := 0) rfl (hs _ rfl ht) rfl rfl rfl) ?_)
  refine S.cond rfl (fun hc2 => ?_) (fun hc2 => ?_)
  ·rw [hg, hst (by simpa using hc2)]
   (repeat first | refine uA ?_ | (apply S.exit; exact rfl) | (refine uK ?_ ?_; focus first | omega | trivial | exact id | (intros; simp_all <;> omega)) | simp (disch := omega) only [go_sem, Nat.reduceBEq, Nat.reduceAdd, Nat.reduceLeDiff, Int.reduceToNat, Int.reducePow, ww])
   (refine S.done ?_; simp only [x9, p9, go_sem, Nat.reduceBEq, Nat.reduceAdd, Nat.reduceLeDiff, Int.reduceToNat, Int.reducePow]; (repeat (refine ⟨?_, ?_⟩; focus first | trivial | omega | simp)); exact d9.Q9 (Imp.refl rfl) (by (repeat first | refine uA ?_ | (refine ⟨?_, ?_⟩; focus first | rfl | trivial | (simp [slot]; done)) | rfl | trivial | simp)) (Nat.le_trans hν0 (by simp)))
  ·have hc3 : e = 0 := by simpa using hc2
   (repeat first | refine uA ?_ | (apply S.exit; exact rfl) | (refine uK ?_ ?_; focus first | omega | trivial | exact id | (intros; simp_all <;> omega)) | simp (disch := omega) only [go_sem, Nat.reduceBEq, Nat.reduceAdd, Nat.reduceLeDiff, Int.reduceToNat, Int.reducePow, ww])
   refine S.next (x := (i, m)) (i + 1, m') ⟨by simp only; omega, by simp only; rw [hg, hnx hc3]⟩ (by simp only; omega) (by (repeat first | refine uA ?_ | (refine ⟨?_, ?_⟩; focus first | rfl | trivial | (simp [slot]; done)) | rfl | trivial | simp | exact Nat.le_trans hν0 (by simp)))
 ·rw [hg, U4 (by omega)]
  (repeat first | refine uA ?_ | (apply S.exit; exact rfl) | (refine uK ?_ ?_; focus first | omega | trivial | exact id | (intros; simp_all <;> omega)) | simp (disch := omega) only [go_sem, Nat.reduceBEq, Nat.reduceAdd, Nat.reduceLeDiff, Int.reduceToNat, Int.reducePow, ww])
  (refine S.done ?_; simp only [x9, p9, go_sem, Nat.reduceBEq, Nat.reduceAdd, Nat.reduceLeDiff, Int.reduceToNat, Int.reducePow]; (repeat (refine ⟨?_, ?_⟩; focus first | trivial | omega | simp)); exact d9.Q9 (Imp.refl rfl) (by (repeat first | refine uA ?_ | (refine ⟨?_, ?_⟩; focus first | rfl | trivial | (simp [slot]; done)) | rfl | trivial | simp)) (Nat.le_trans hν0 (by simp)))
theorem b5N {E : Ctx} (hP : E.P = Tryz.prog) (ht0 : Tz E) (n : Nms) (l : List Sl) (hn : l.length <= 1073741824) (hb : ∀ x ∈ l, Sb 1073741824 x) :
  p8 E [.map true (nmE n)] 94 [sls l, .bnd 95 (.mp 0)] (ints (D7 Y2 n l).1) [.map true (nmE (D7 Y2 n l).2)] [] := by
 obtain ⟨P, eff', N, w0, own0, av0, nu0, pk0⟩ := E
 simp only at hP
 subst hP
 refine p8.ofT (eff := eff) ht0 a4w a4k (by exact Nat.le_of_ble_eq_true rfl) fun w own av ν hν ht => ?_
 have hν0 : ν.length <= 1 := by rw [hν]; exact Nat.le_refl _
 simp only [a1d, l5, TT, II, OA, OB, OC, MM, LL, VV, FF, MG, LG, VG, FG, sls, ints]
 (repeat first | refine uA ?_ | (apply S.exit; exact rfl) | (refine uK ?_ ?_; focus first | omega | trivial | exact id | (intros; simp_all <;> omega)) | simp (disch := omega) only [go_sem, Nat.reduceBEq, Nat.reduceAdd, Nat.reduceLeDiff, Int.reduceToNat, Int.reducePow, ww, List.length_map])
 refine S.loop (X := Nat × Nms) (fun x => ⟨[(1, .bnd 95 (.mp 0)), (8, sls l), (9, ints l.length), (10, ints x.1)], [.map true (nmE x.2)]⟩) (fun x => x.1 <= l.length /\ D7 Y2 n l = D7 Y2 x.2 (l.drop x.1)) (fun x => l.length - x.1) (0, n) ⟨Nat.zero_le _, rfl⟩ (by (repeat first | refine uA ?_ | (refine ⟨?_, ?_⟩; focus first | rfl | trivial | (simp [slot]; done)) | rfl | trivial | simp | exact Nat.le_trans hν0 (by simp))) ?_
 rintro ⟨i, m⟩ ⟨hi, hg⟩
 simp only [sls, ints] at hi hg ⊢
 (repeat first | refine uA ?_ | (apply S.exit; exact rfl) | (refine uK ?_ ?_; focus first | omega | trivial | exact id | (intros; simp_all <;> omega)) | simp (disch := omega) only [go_sem, Nat.reduceBEq, Nat.reduceAdd, Nat.reduceLeDiff, Int.reduceToNat, Int.reducePow, ww])
 (refine uJ rfl (fun hc => ?_) fun hc => ?_)
 ·have hi' : i < l.length := by omega
  have hgi := List.getElem?_eq_getElem hi'
  generalize l[i] = x at hgi
  have hst := Q5 (f := Y2) (s := m) hgi
  have hnx := P7 (f := Y2) (s := m) hgi
  have hs := fun (E : Ctx) (hP : E.P = Tryz.prog) (ht : Tz E) => c2A hP ht m x (hb x (List.mem_of_getElem? hgi))
  generalize Y2 m x = r at *
  obtain ⟨e, m'⟩ := r
  simp only [Sl.c, Sl.enc, sb, ints] at hs hst hnx
  (repeat first | refine uA ?_ | (apply S.exit; exact rfl) | (refine uK ?_ ?_; focus first | omega | trivial | exact id | (intros; simp_all <;> omega)) | simp (disch := omega) only [go_sem, Nat.reduceBEq, Nat.reduceAdd, Nat.reduceLeDiff, Int.reduceToNat, Int.reducePow, ww, hgi, Option.map_some, List.length_map, Sl.c, Sl.enc, sb] | refine q9.t (p8.lift (k := 0) rfl (hs _ rfl ht) rfl rfl rfl) ?_)
  refine S.cond rfl (fun hc2 => ?_) (fun hc2 => ?_)
  ·rw [hg, hst (by simpa using hc2)]
   (repeat first | refine uA ?_ | (apply S.exit; exact rfl) | (refine uK ?_ ?_; focus first | omega | trivial | exact id | (intros; simp_all <;> omega)) | simp (disch := omega) only [go_sem, Nat.reduceBEq, Nat.reduceAdd, Nat.reduceLeDiff, Int.reduceToNat, Int.reducePow, ww])
   (refine S.done ?_; simp only [x9, p9, go_sem, Nat.reduceBEq, Nat.reduceAdd, Nat.reduceLeDiff, Int.reduceToNat, Int.reducePow]; (repeat (refine ⟨?_, ?_⟩; focus first | trivial | omega | simp)); exact d9.Q9 (Imp.refl rfl) (by (repeat first | refine uA ?_ | (refine ⟨?_, ?_⟩; focus first | rfl | trivial | (simp [slot]; done)) | rfl | trivial | simp)) (Nat.le_trans hν0 (by simp)))
  ·have hc3 : e = 0 := by simpa using hc2
   (repeat first | refine uA ?_ | (apply S.exit; exact rfl) | (refine uK ?_ ?_; focus first | omega | trivial | exact id | (intros; simp_all <;> omega)) | simp (disch := omega) only [go_sem, Nat.reduceBEq, Nat.reduceAdd, Nat.reduceLeDiff, Int.reduceToNat, Int.reducePow, ww])
   refine S.next (x := (i, m)) (i + 1, m') ⟨by simp only; omega, by simp only; rw [hg, hnx hc3]⟩ (by simp only; omega) (by (repeat first | refine uA ?_ | (refine ⟨?_, ?_⟩; focus first | rfl | trivial | (simp [slot]; done)) | rfl | trivial | simp | exact Nat.le_trans hν0 (by simp)))
 ·rw [hg, U4 (by omega)]
  (repeat first | refine uA ?_ | (apply S.exit; exact rfl) | (refine uK ?_ ?_; focus first | omega | trivial | exact id | (intros; simp_all <;> omega)) | simp (disch := omega) only [go_sem, Nat.reduceBEq, Nat.reduceAdd, Nat.reduceLeDiff, Int.reduceToNat, Int.reducePow, ww])
  (refine S.done ?_; simp only [x9, p9, go_sem, Nat.reduceBEq, Nat.reduceAdd, Nat.reduceLeDiff, Int.reduceToNat, Int.reducePow]; (repeat (refine ⟨?_, ?_⟩; focus first | trivial | omega | simp)); exact d9.Q9 (Imp.refl rfl) (by (repeat first | refine uA ?_ | (refine ⟨?_, ?_⟩; focus first | rfl | trivial | (simp [slot]; done)) | rfl | trivial | simp)) (Nat.le_trans hν0 (by simp)))
theorem b5Q {E : Ctx} (hP : E.P = Tryz.prog) (ht0 : Tz E) (n : Nms) (l : List Gt) (hn : l.length <= 1073741824) (hb : ∀ x ∈ l, Gb 1073741824 x) :
  p8 E [.map true (nmE n)] 96 [gts l, .bnd 97 (.mp 0)] (ints (D7 Y9 n l).1) [.map true (nmE (D7 Y9 n l).2)] [] := by
 obtain ⟨P, eff', N, w0, own0, av0, nu0, pk0⟩ := E
 simp only at hP
 subst hP
 refine p8.ofT (eff := eff) ht0 a4p a4j (by exact Nat.le_of_ble_eq_true rfl) fun w own av ν hν ht => ?_
 have hν0 : ν.length <= 1 := by rw [hν]; exact Nat.le_refl _
 simp only [a1k, l5, TT, II, OA, OB, OC, MM, LL, VV, FF, MG, LG, VG, FG, gts, ints]
 (repeat first | refine uA ?_ | (apply S.exit; exact rfl) | (refine uK ?_ ?_; focus first | omega | trivial | exact id | (intros; simp_all <;> omega)) | simp (disch := omega) only [go_sem, Nat.reduceBEq, Nat.reduceAdd, Nat.reduceLeDiff, Int.reduceToNat, Int.reducePow, ww, List.length_map])
 refine S.loop (X := Nat × Nms) (fun x => ⟨[(1, .bnd 97 (.mp 0)), (8, gts l), (9, ints l.length), (10, ints x.1)], [.map true (nmE x.2)]⟩) (fun x => x.1 <= l.length /\ D7 Y9 n l = D7 Y9 x.2 (l.drop x.1)) (fun x => l.length - x.1) (0, n) ⟨Nat.zero_le _, rfl⟩ (by (repeat first | refine uA ?_ | (refine ⟨?_, ?_⟩; focus first | rfl | trivial | (simp [slot]; done)) | rfl | trivial | simp | exact Nat.le_trans hν0 (by simp))) ?_
 rintro ⟨i, m⟩ ⟨hi, hg⟩
 simp only [gts, ints] at hi hg ⊢
 (repeat first | refine uA ?_ | (apply S.exit; exact rfl) | (refine uK ?_ ?_; focus first | omega | trivial | exact id | (intros; simp_all <;> omega)) | simp (disch := omega) only [go_sem, Nat.reduceBEq, Nat.reduceAdd, Nat.reduceLeDiff, Int.reduceToNat, Int.reducePow, ww])
 (refine uJ rfl (fun hc => ?_) fun hc => ?_)
 ·have hi' : i < l.length := by omega
  have hgi := List.getElem?_eq_getElem hi'
  generalize l[i] = x at hgi
  have hst := Q5 (f := Y9) (s := m) hgi
  have hnx := P7 (f := Y9) (s := m) hgi
  have hs := fun (E : Ctx) (hP : E.P = Tryz.prog) (ht : Tz E) => c1Y hP ht m x (hb x (List.mem_of_getElem? hgi))
  generalize Y9 m x = r at *
  obtain ⟨e, m'⟩ := r
  simp only [Gt.c, Gt.enc, sb, ints] at hs hst hnx
  (repeat first | refine uA ?_ | (apply S.exit; exact rfl) | (refine uK ?_ ?_; focus first | omega | trivial | exact id | (intros; simp_all <;> omega)) | simp (disch := omega) only [go_sem, Nat.reduceBEq, Nat.reduceAdd, Nat.reduceLeDiff, Int.reduceToNat, Int.reducePow, ww, hgi, Option.map_some, List.length_map, Gt.c, Gt.enc, sb] | refine q9.t (p8.lift (k := 0) rfl (hs _ rfl ht) rfl rfl rfl) ?_)
  refine S.cond rfl (fun hc2 => ?_) (fun hc2 => ?_)
  ·rw [hg, hst (by simpa using hc2)]
   (repeat first | refine uA ?_ | (apply S.exit; exact rfl) | (refine uK ?_ ?_; focus first | omega | trivial | exact id | (intros; simp_all <;> omega)) | simp (disch := omega) only [go_sem, Nat.reduceBEq, Nat.reduceAdd, Nat.reduceLeDiff, Int.reduceToNat, Int.reducePow, ww])
   (refine S.done ?_; simp only [x9, p9, go_sem, Nat.reduceBEq, Nat.reduceAdd, Nat.reduceLeDiff, Int.reduceToNat, Int.reducePow]; (repeat (refine ⟨?_, ?_⟩; focus first | trivial | omega | simp)); exact d9.Q9 (Imp.refl rfl) (by (repeat first | refine uA ?_ | (refine ⟨?_, ?_⟩; focus first | rfl | trivial | (simp [slot]; done)) | rfl | trivial | simp)) (Nat.le_trans hν0 (by simp)))
  ·have hc3 : e = 0 := by simpa using hc2
   (repeat first | refine uA ?_ | (apply S.exit; exact rfl) | (refine uK ?_ ?_; focus first | omega | trivial | exact id | (intros; simp_all <;> omega)) | simp (disch := omega) only [go_sem, Nat.reduceBEq, Nat.reduceAdd, Nat.reduceLeDiff, Int.reduceToNat, Int.reducePow, ww])
   refine S.next (x := (i, m)) (i + 1, m') ⟨by simp only; omega, by simp only; rw [hg, hnx hc3]⟩ (by simp only; omega) (by (repeat first | refine uA ?_ | (refine ⟨?_, ?_⟩; focus first | rfl | trivial | (simp [slot]; done)) | rfl | trivial | simp | exact Nat.le_trans hν0 (by simp)))
 ·rw [hg, U4 (by omega)]
  (repeat first | refine uA ?_ | (apply S.exit; exact rfl) | (refine uK ?_ ?_; focus first | omega | trivial | exact id | (intros; simp_all <;> omega)) | simp (disch := omega) only [go_sem, Nat.reduceBEq, Nat.reduceAdd, Nat.reduceLeDiff, Int.reduceToNat, Int.reducePow, ww])
  (refine S.done ?_; simp only [x9, p9, go_sem, Nat.reduceBEq, Nat.reduceAdd, Nat.reduceLeDiff, Int.reduceToNat, Int.reducePow]; (repeat (refine ⟨?_, ?_⟩; focus first | trivial | omega | simp)); exact d9.Q9 (Imp.refl rfl) (by (repeat first | refine uA ?_ | (refine ⟨?_, ?_⟩; focus first | rfl | trivial | (simp [slot]; done)) | rfl | trivial | simp)) (Nat.le_trans hν0 (by simp)))
theorem b5W (l : List (List Vt)) (hn : l.length <= 1073741824) (hb : ∀ x ∈ l, Vbs 1073741824 x) : FZ 90 [wls l, .v (.func (.func 91) #[] #[])] (ints (D6 K4 l)) := by
 refine l8.of a4W a4O (by exact Nat.le_of_ble_eq_true rfl) fun w O hw => ?_
 have hcal : callable Tryz.prog 91 = true := by kernel_rfl
 simp only [a1D, l5, TT, II, OA, OB, OC, MM, LL, VV, FF, MG, LG, VG, FG, wls, ints]
 (repeat first | refine uA ?_ | (apply S.exit; exact rfl) | (refine uK ?_ ?_; focus first | omega | trivial | exact id | (intros; simp_all <;> omega)) | simp (disch := omega) only [go_sem, Nat.reduceBEq, Nat.reduceAdd, Nat.reduceLeDiff, Int.reduceToNat, Int.reducePow, ww, List.length_map])
 refine S.loop (X := Nat) (fun i => ⟨[(1, .v (.func (.func 91) #[] #[])), (8, wls l), (9, ints l.length), (10, ints i)], []⟩) (fun i => i <= l.length /\ D6 K4 l = D6 K4 (l.drop i)) (fun i => l.length - i) 0 ⟨Nat.zero_le _, rfl⟩ (by (repeat first | refine uA ?_ | (refine ⟨?_, ?_⟩; focus first | rfl | trivial | (simp [slot]; done)) | rfl | trivial | simp)) ?_
 rintro i ⟨hi, hg⟩
 simp only [wls, ints] at hi hg ⊢
 (repeat first | refine uA ?_ | (apply S.exit; exact rfl) | (refine uK ?_ ?_; focus first | omega | trivial | exact id | (intros; simp_all <;> omega)) | simp (disch := omega) only [go_sem, Nat.reduceBEq, Nat.reduceAdd, Nat.reduceLeDiff, Int.reduceToNat, Int.reducePow, ww])
 (refine uJ rfl (fun hc => ?_) fun hc => ?_)
 ·have hi' : i < l.length := by omega
  have hgi := List.getElem?_eq_getElem hi'
  generalize l[i] = x at hgi
  have hst := P9 (f := K4) hgi
  have hnx := P8 (f := K4) hgi
  have hs := b3t x (hb x (List.mem_of_getElem? hgi))
  generalize K4 x = e at *
  simp only [ints] at hs
  (repeat first | refine uA ?_ | (apply S.exit; exact rfl) | (refine uK ?_ ?_; focus first | omega | trivial | exact id | (intros; simp_all <;> omega)) | simp (disch := omega) only [go_sem, Nat.reduceBEq, Nat.reduceAdd, Nat.reduceLeDiff, Int.reduceToNat, Int.reducePow, ww, hgi, Option.map_some, List.length_map, hcal] | (refine uD hs ?_ ?_ ?_; exact tz hw; exact rfl))
  refine S.cond rfl (fun hc2 => ?_) (fun hc2 => ?_)
  ·rw [hg, hst (by simpa using hc2)]
   (repeat first | refine uA ?_ | (apply S.exit; exact rfl) | (refine uK ?_ ?_; focus first | omega | trivial | exact id | (intros; simp_all <;> omega)) | simp (disch := omega) only [go_sem, Nat.reduceBEq, Nat.reduceAdd, Nat.reduceLeDiff, Int.reduceToNat, Int.reducePow, ww])
   exact S.done (d9.out rfl (Imp.refl rfl) rfl)
  ·have hc3 : e = 0 := by simpa using hc2
   (repeat first | refine uA ?_ | (apply S.exit; exact rfl) | (refine uK ?_ ?_; focus first | omega | trivial | exact id | (intros; simp_all <;> omega)) | simp (disch := omega) only [go_sem, Nat.reduceBEq, Nat.reduceAdd, Nat.reduceLeDiff, Int.reduceToNat, Int.reducePow, ww])
   refine S.next (i + 1) ⟨by omega, by rw [hg, hnx hc3]⟩ (by omega) (by (repeat first | refine uA ?_ | (refine ⟨?_, ?_⟩; focus first | rfl | trivial | (simp [slot]; done)) | rfl | trivial | simp))
 ·rw [hg, U2 (by omega)]
  (repeat first | refine uA ?_ | (apply S.exit; exact rfl) | (refine uK ?_ ?_; focus first | omega | trivial | exact id | (intros; simp_all <;> omega)) | simp (disch := omega) only [go_sem, Nat.reduceBEq, Nat.reduceAdd, Nat.reduceLeDiff, Int.reduceToNat, Int.reducePow, ww])
  exact S.done (d9.out rfl (Imp.refl rfl) rfl)
end Go.Proofs.YtogfpjohjphngaaGreatDoor
namespace Go.Proofs.YtogfpjohjphngaaGreatDoor.Eng
open Go Go.RowKit
def Res.bdr (n : Nat) : Res -> Bool
 | .box _ cs => C.bdL n cs
 | _ => true
theorem b8T {ν : List Value} {w : World} {O O' : Nat -> Prop} {x : Value} {r : Res} {n : Nat} (hs : r.bdr n = true) (hO : ∀ b, O' b -> O b) (h : K7 ν w O x r) : K7 (ν.take n) w O' x r := by
 cases r with
 | gone => exact h
 | box t cs =>
  obtain ⟨b, vs, h1, h2, h3, h4⟩ := h
  exact ⟨b, vs, h1, j5.keep (Keeps.sub hO) (j5.takeν n hs h2), h3, h4⟩
 | row e sz es => exact a4L hO h
 | map s es => exact h
theorem c0t {ν ν' : List Value} {w : World} {O O' : Nat -> Prop} {x : Value} {r : Res} (hn : R9 [] ν ν') (hO : ∀ b, O' b -> O b) (h : K7 ν w O x r) : K7 ν' w O' x r := by
 cases r with
 | gone => exact h
 | box t cs =>
  obtain ⟨b, vs, h1, h2, h3, h4⟩ := h
  exact ⟨b, vs, h1, j5.keep (Keeps.sub hO) (j5.nu hn (fun k hk => by cases hk) h2), h3, h4⟩
 | row e sz es => exact a4L hO h
 | map s es => exact h
theorem R9.take (ν : List Value) (n : Nat) : R9 [] (ν.take n) ν := fun _ _ _ h => R8 h
theorem c2J {ν ν' : List Value} (h : R9 [] ν ν') (hl : ν'.length = ν.length) : ν' = ν := by
 apply List.ext_getElem?
 intro i
 rcases Nat.lt_or_ge i ν.length with h1 | h1
 ·have := h i _ (fun hk => by cases hk) (List.getElem?_eq_getElem h1)
  rw [this, List.getElem?_eq_getElem h1]
 ·rw [List.getElem?_eq_none h1, List.getElem?_eq_none (by omega)]
theorem a3U {rs ext : List Res} {ν : List Value} (hl : ν.length = (rs ++ ext).length) (b : Nat) : owned (rs ++ ext) ν b <-> owned rs (ν.take rs.length) b \/ ∃ k r x, ext[k]? = some r /\ ν[rs.length + k]? = some x /\ fp r x b := by
 constructor
 ·rintro ⟨k, r, x, h1, h2, h3⟩
  rcases Nat.lt_or_ge k rs.length with h | h
  ·rw [List.getElem?_append_left h] at h1
   exact .inl ⟨k, r, x, h1, I4 h h2, h3⟩
  ·rw [List.getElem?_append_right h] at h1
   exact .inr ⟨k - rs.length, r, x, h1, by rw [show rs.length + (k - rs.length) = k by omega]; exact h2, h3⟩
 ·rintro (⟨k, r, x, h1, h2, h3⟩ | ⟨k, r, x, h1, h2, h3⟩)
  ·have h := (List.getElem?_eq_some_iff.1 h1).1
   exact ⟨k, r, x, by rw [List.getElem?_append_left h]; exact h1, R8 h2, h3⟩
  ·exact ⟨rs.length + k, r, x, by rw [List.getElem?_append_right (by omega), show rs.length + k - rs.length = k by omega]; exact h1, h2, h3⟩
theorem p8.ext {E : Ctx} {rs rs' : List Res} (ex : List Res) {f : Nat} {args : List C} {s : C} (h : p8 E rs f args s rs' []) (hl : rs'.length = rs.length) (hb : rs.all (Res.bdr rs.length) = true) (ha : C.bdL rs.length args = true) : p8 E (rs ++ ex) f args s (rs' ++ ex) [] := by
  intro av ν w vs hR hav hF hD
  have hlen := hR.len
  have hl1 : (ν.take rs.length).length = rs.length := by rw [List.length_take, hlen, List.length_append]; omega
  generalize hν1 : ν.take rs.length = ν1 at hl1
  have hown := fun b => a3U hlen b
  rw [hν1] at hown
  have hx : ∀ b k r x, ex[k]? = some r -> ν[rs.length + k]? = some x -> fp r x b -> ¬ owned rs ν1 b := by
    rintro b k r x h1 h2 h3 ⟨l, q, y, g1, g2, g3⟩
    have hlt := (List.getElem?_eq_some_iff.1 g1).1
    rw [<- hν1] at g2
    exact hR.dis l (rs.length + k) q r y x b (by omega) (by rw [List.getElem?_append_left hlt]; exact g1) (by rw [List.getElem?_append_right (by omega), show rs.length + k - rs.length = k by omega]; exact h1) (R8 g2) h2 g3 h3
  let av' : Nat -> Prop := fun b => OO av (rs ++ ex) ν b /\ ¬ owned rs ν1 b
  have hOO : ∀ b, OO av' rs ν1 b -> OO av (rs ++ ex) ν b := fun b hb => by
    rcases hb with hb | hb
    · exact hb.1
    · exact .inr ((hown b).2 (.inl hb))
  have hRG : RG av' E.own0 E.w0.heap.size ν1 rs w := by
    refine ⟨hl1, fun k r hk => ?_, fun l m q q' y y' b hne h1 h2 h3 h4 => ?_, fun b hb => ?_, fun b hb => ?_, hR.n0⟩
    · have hlt := (List.getElem?_eq_some_iff.1 hk).1
      obtain ⟨x, hx, hok⟩ := hR.res k r (by rw [List.getElem?_append_left hlt]; exact hk)
      refine ⟨x, by rw [<- hν1]; exact I4 hlt hx, ?_⟩
      rw [<- hν1]
      rw [List.all_eq_true] at hb
      exact b8T (hb r (List.mem_of_getElem? hk)) (by rw [hν1]; exact hOO) hok
    · have g1 := (List.getElem?_eq_some_iff.1 h1).1
      have g2 := (List.getElem?_eq_some_iff.1 h2).1
      rw [<- hν1] at h3 h4
      exact hR.dis l m q q' y y' b hne (by rw [List.getElem?_append_left g1]; exact h1) (by rw [List.getElem?_append_left g2]; exact h2) (R8 h3) (R8 h4)
    · obtain ⟨g1, g2, g3⟩ := hR.low b ((hown b).2 (.inl hb))
      exact ⟨g1, fun h => h.2 hb, g3⟩
    · rcases hb.1 with h1 | h1
      · exact hR.av b h1
      · exact (hR.low b h1).1
  have hnav : ∀ b, av b -> ¬ owned rs ν1 b := fun b hb ho => (hR.low b ((hown b).2 (.inl ho))).2.1 hb
  have hD' : j5 ν1 w (OO av' rs ν1) args vs := by
    have := j5.keep (Keeps.sub hOO) (j5.takeν rs.length ha hD)
    rwa [hν1] at this
  refine (h av' ν1 w vs hRG (fun b hb => ⟨.inl (hav b hb), hnav b (hav b hb)⟩) hF hD').mono ?_
  rintro e w' ⟨y, ν', rfl, h1, h2, h3⟩
  have hν' : ν' = ν1 := c2J h2.nu (by rw [h1.len, hl, hl1])
  subst hν'
  have hlen' : ν.length = (rs' ++ ex).length := by rw [hlen, List.length_append, List.length_append, hl]
  have hν1' : ν.take rs'.length = ν' := by rw [hl]; exact hν1
  have hown' := fun b => a3U hlen' b
  rw [hν1', hl] at hown'
  have hnu : R9 [] ν' ν := by rw [<- hν1]; exact R9.take ν _
  have hxo : ∀ b k r x, ex[k]? = some r -> ν[rs.length + k]? = some x -> fp r x b -> owned (rs ++ ex) ν b := fun b k r x g1 g2 g3 => (hown b).2 (.inr ⟨k, r, x, g1, g2, g3⟩)
  have hOO' : ∀ b, OO av (rs' ++ ex) ν b -> OO av' rs' ν' b := fun b hb => by
    rcases hb with hb | hb
    · exact .inl ⟨.inl hb, hnav b hb⟩
    · rcases (hown' b).1 hb with hb | ⟨k, r, x, g1, g2, g3⟩
      · exact .inr hb
      · exact .inl ⟨.inr (hxo b k r x g1 g2 g3), hx b k r x g1 g2 g3⟩
  have hM : Mv (rs ++ ex) ν w [] (rs' ++ ex) ν w' := by
    refine ⟨h2.os, h2.tape, h2.output, h2.size, fun b hb hn => h2.block b hb fun ho => hn ((hown b).2 (.inl ho)), fun b hb => ?_, fun _ _ _ h => h⟩
    rcases (hown' b).1 hb with hb | ⟨k, r, x, g1, g2, g3⟩
    · rcases h2.own b hb with g | g
      · exact .inl ((hown b).2 (.inl g))
      · exact .inr g
    · exact .inl (hxo b k r x g1 g2 g3)
  refine ⟨y, ν, rfl, ⟨hlen', fun k r hk => ?_, fun l m q q' z z' b hne g1 g2 g3 g4 g5 => ?_, fun b hb => ?_, fun b hb => Nat.lt_of_lt_of_le (hR.av b hb) h2.size, Nat.le_trans hR.n0 h2.size⟩, hM, Den.keep (Keeps.sub hOO') (Den.nu hnu (fun k hk => by cases hk) h3)⟩
  · rcases Nat.lt_or_ge k rs'.length with hlt | hge
    · rw [List.getElem?_append_left hlt] at hk
      obtain ⟨x, hx', hok⟩ := h1.res k r hk
      exact ⟨x, hnu k x (fun hk => by cases hk) hx', c0t hnu hOO' hok⟩
    · have hk' : (rs ++ ex)[k]? = some r := by
        rw [List.getElem?_append_right hge] at hk
        rw [List.getElem?_append_right (by omega), <- hl]; exact hk
      obtain ⟨x, hx', hok⟩ := hR.res k r hk'
      refine ⟨x, hx', ?_⟩
      have := hok.mv (O' := OO av (rs' ++ ex) ν) (hM.keeps (av := av)) hM.nu (fun b hf => h2.block b (hR.lt hk' hx' hf) (by
        rw [List.getElem?_append_right hge] at hk
        exact hx b (k - rs'.length) r x hk (by rw [show rs.length + (k - rs'.length) = k by omega]; exact hx') hf))
      rwa [a2Y] at this
  · rcases Nat.lt_or_ge l rs'.length with hl1' | hl1' <;> rcases Nat.lt_or_ge m rs'.length with hm1 | hm1
    · rw [List.getElem?_append_left hl1'] at g1
      rw [List.getElem?_append_left hm1] at g2
      have e1 : ν'[l]? = some z := by rw [<- hν1']; exact I4 hl1' g3
      have e2 : ν'[m]? = some z' := by rw [<- hν1']; exact I4 hm1 g4
      exact h1.dis l m q q' z z' b hne g1 g2 e1 e2 g5
    · rw [List.getElem?_append_left hl1'] at g1
      rw [List.getElem?_append_right hm1] at g2
      have e1 : ν'[l]? = some z := by rw [<- hν1']; exact I4 hl1' g3
      have g4' : ν[rs.length + (m - rs'.length)]? = some z' := by rw [show rs.length + (m - rs'.length) = m by omega]; exact g4
      intro hf
      rcases h2.own b ⟨l, q, z, g1, e1, g5⟩ with ho | ho
      · exact hx b _ q' z' g2 g4' hf ho
      · have := (hR.low b (hxo b _ q' z' g2 g4' hf)).1; omega
    · rw [List.getElem?_append_right hl1'] at g1
      rw [List.getElem?_append_left hm1] at g2
      have e2 : ν'[m]? = some z' := by rw [<- hν1']; exact I4 hm1 g4
      have g3' : ν[rs.length + (l - rs'.length)]? = some z := by rw [show rs.length + (l - rs'.length) = l by omega]; exact g3
      intro hf
      rcases h2.own b ⟨m, q', z', g2, e2, hf⟩ with ho | ho
      · exact hx b _ q z g1 g3' g5 ho
      · have := (hR.low b (hxo b _ q z g1 g3' g5)).1; omega
    · rw [List.getElem?_append_right hl1'] at g1
      rw [List.getElem?_append_right hm1] at g2
      exact hR.dis l m q q' z z' b hne (by rw [List.getElem?_append_right (by omega), <- hl]; exact g1) (by rw [List.getElem?_append_right (by omega), <- hl]; exact g2) g3 g4 g5
  · rcases (hown' b).1 hb with hb | ⟨k, r, x, g1, g2, g3⟩
    · obtain ⟨a1, a2, a3⟩ := h1.low b hb
      exact ⟨a1, fun ha => a2 ⟨.inl ha, hnav b ha⟩, a3⟩
    · obtain ⟨a1, a2, a3⟩ := hR.low b (hxo b k r x g1 g2 g3)
      exact ⟨Nat.lt_of_lt_of_le a1 h2.size, a2, a3⟩
end Go.Proofs.YtogfpjohjphngaaGreatDoor.Eng
namespace Go.Proofs.YtogfpjohjphngaaGreatDoor
open Go Go.RowKit Eng
set_option maxRecDepth 10000
set_option maxHeartbeats 8000000
def rsW (w : Wk) (n : Nms) : List Res := [.box 31 w.enc, .map true (nmE n), .box 140 [.mp 1]]
theorem b9e {E : Ctx} (hP : E.P = Tryz.prog) (ht0 : Tz E) (w : Wk) (n : Nms) (a : Am) (hb : Ab 1073741824 a) :
  p8 E (rsW w n) 86 [a.c, .bp 2 0] (ints (a0H n a).1) (rsW w (a0H n a).2) [] := by
 obtain ⟨P, eff', N, w0, own0, av0, nu0, pk0⟩ := E
 simp only at hP
 subst hP
 refine p8.ofT (eff := eff) ht0 a8s a8q (by exact Nat.le_of_ble_eq_true rfl) fun w' own av ν hν ht => ?_
 have hν0 : ν.length <= 3 := by rw [hν]; exact Nat.le_refl _
 have b0 := hb.1
 have h2 := b3S a hb
 have h1 := fun (E : Ctx) (hP : E.P = Tryz.prog) => b1R hP n a.name (by omega)
 unfold a0H
 generalize J2 n a.name = r at *
 obtain ⟨e1, m⟩ := r
 generalize a1K a = e2 at *
 obtain ⟨name, ⟨x, y, half, t⟩, links⟩ := a
 obtain ⟨arms, walls, parts, slots, gates, walk⟩ := w
 simp only [a3s, l5, TT, II, OA, OB, OC, MM, LL, VV, FF, MG, LG, VG, FG]
 simp only [Am.c, Am.enc, lks, sb, ints, rsW, Wk.enc, ams, wls, pts, sls, gts] at *
 (repeat first | refine uA ?_ | (apply S.exit; exact rfl) | (refine uK ?_ ?_; focus first | omega | trivial | exact id | (intros; simp_all <;> omega)) | simp (disch := omega) only [go_sem, Nat.reduceBEq, Nat.reduceAdd, Nat.reduceLeDiff, Int.reduceToNat, Int.reducePow, ww] | (refine uD h2 ?_ ?_ ?_; exact ht; exact rfl))
 refine S.cond rfl (fun hc => ?_) (fun hc => ?_)
 ·rw [if_pos (by simpa using hc)]
  (repeat first | refine uA ?_ | (apply S.exit; exact rfl) | (refine uK ?_ ?_; focus first | omega | trivial | exact id | (intros; simp_all <;> omega)) | simp (disch := omega) only [go_sem, Nat.reduceBEq, Nat.reduceAdd, Nat.reduceLeDiff, Int.reduceToNat, Int.reducePow, ww])
  (refine S.done ?_; simp only [x9, p9, go_sem, Nat.reduceBEq, Nat.reduceAdd, Nat.reduceLeDiff, Int.reduceToNat, Int.reducePow]; (repeat (refine ⟨?_, ?_⟩; focus first | trivial | omega | simp)); exact d9.Q9 (Imp.refl rfl) (by (repeat first | refine uA ?_ | (refine ⟨?_, ?_⟩; focus first | rfl | trivial | (simp [slot]; done)) | rfl | trivial | simp)) (Nat.le_trans hν0 (by simp)))
 rw [if_neg (by simpa using hc)]
 (repeat first | refine uA ?_ | (apply S.exit; exact rfl) | (refine uK ?_ ?_; focus first | omega | trivial | exact id | (intros; simp_all <;> omega)) | simp (disch := omega) only [go_sem, Nat.reduceBEq, Nat.reduceAdd, Nat.reduceLeDiff, Int.reduceToNat, Int.reducePow, ww] | refine q9.t (p8.lift (k := 1) rfl (h1 _ rfl) rfl rfl rfl) ?_)
 (refine S.done ?_; simp only [x9, p9, go_sem, Nat.reduceBEq, Nat.reduceAdd, Nat.reduceLeDiff, Int.reduceToNat, Int.reducePow]; (repeat (refine ⟨?_, ?_⟩; focus first | trivial | omega | simp)); exact d9.Q9 (Imp.refl rfl) (by (repeat first | refine uA ?_ | (refine ⟨?_, ?_⟩; focus first | rfl | trivial | (simp [slot]; done)) | rfl | trivial | simp)) (Nat.le_trans hν0 (by simp)))
theorem b8h {E : Ctx} (hP : E.P = Tryz.prog) (ht0 : Tz E) (w : Wk) (n : Nms) (l : List Am) (hn : l.length <= 1073741824) (hb : ∀ x ∈ l, Ab 1073741824 x) :
  p8 E (rsW w n) 89 [ams l, .clo 86 [.bp 2 0]] (ints (D7 a0H n l).1) (rsW w (D7 a0H n l).2) [] := by
 obtain ⟨P, eff', N, w0, own0, av0, nu0, pk0⟩ := E
 simp only at hP
 subst hP
 refine p8.ofT (eff := eff) ht0 a4X a5i (by exact Nat.le_of_ble_eq_true rfl) fun w' own av ν hν ht => ?_
 have hν0 : ν.length <= 3 := by rw [hν]; exact Nat.le_refl _
 have hcal : callable Tryz.prog 86 = true := by kernel_rfl
 simp only [a1B, l5, TT, II, OA, OB, OC, MM, LL, VV, FF, MG, LG, VG, FG, ams, ints]
 simp only [rsW, Wk.enc, ams, wls, pts, sls, gts]
 (repeat first | refine uA ?_ | (apply S.exit; exact rfl) | (refine uK ?_ ?_; focus first | omega | trivial | exact id | (intros; simp_all <;> omega)) | simp (disch := omega) only [go_sem, Nat.reduceBEq, Nat.reduceAdd, Nat.reduceLeDiff, Int.reduceToNat, Int.reducePow, ww, List.length_map])
 refine S.loop (X := Nat × Nms) (fun x => ⟨[(1, .clo 86 [.bp 2 0]), (8, ams l), (9, ints l.length), (10, ints x.1)], rsW w x.2⟩) (fun x => x.1 <= l.length /\ D7 a0H n l = D7 a0H x.2 (l.drop x.1)) (fun x => l.length - x.1) (0, n) ⟨Nat.zero_le _, rfl⟩ (by simp only [rsW, Wk.enc, ams, wls, pts, sls, gts]; exact (by (repeat first | refine uA ?_ | (refine ⟨?_, ?_⟩; focus first | rfl | trivial | (simp [slot]; done)) | rfl | trivial | simp | exact Nat.le_trans hν0 (by simp)))) ?_
 rintro ⟨i, m⟩ ⟨hi, hg⟩
 simp only [ams, ints, rsW, Wk.enc, wls, pts, sls, gts] at hi hg ⊢
 (repeat first | refine uA ?_ | (apply S.exit; exact rfl) | (refine uK ?_ ?_; focus first | omega | trivial | exact id | (intros; simp_all <;> omega)) | simp (disch := omega) only [go_sem, Nat.reduceBEq, Nat.reduceAdd, Nat.reduceLeDiff, Int.reduceToNat, Int.reducePow, ww])
 (refine uJ rfl (fun hc => ?_) fun hc => ?_)
 ·have hi' : i < l.length := by omega
  have hgi := List.getElem?_eq_getElem hi'
  generalize l[i] = x at hgi
  have hst := Q5 (f := a0H) (s := m) hgi
  have hnx := P7 (f := a0H) (s := m) hgi
  have hs := fun (E : Ctx) (hP : E.P = Tryz.prog) (ht : Tz E) => b9e hP ht w m x (hb x (List.mem_of_getElem? hgi))
  generalize a0H m x = r at *
  obtain ⟨e, m'⟩ := r
  simp only [Am.c, Am.enc, lks, sb, ints, rsW, Wk.enc, ams, wls, pts, sls, gts] at hs hst hnx
  (repeat first | refine uA ?_ | (apply S.exit; exact rfl) | (refine uK ?_ ?_; focus first | omega | trivial | exact id | (intros; simp_all <;> omega)) | simp (disch := omega) only [go_sem, Nat.reduceBEq, Nat.reduceAdd, Nat.reduceLeDiff, Int.reduceToNat, Int.reducePow, ww, hgi, Option.map_some, List.length_map, Am.enc, lks, sb, hcal] | refine q9.t (p8.ext _ (hs _ rfl ht) rfl rfl rfl) ?_)
  refine S.cond rfl (fun hc2 => ?_) (fun hc2 => ?_)
  ·rw [hg, hst (by simpa using hc2)]
   (repeat first | refine uA ?_ | (apply S.exit; exact rfl) | (refine uK ?_ ?_; focus first | omega | trivial | exact id | (intros; simp_all <;> omega)) | simp (disch := omega) only [go_sem, Nat.reduceBEq, Nat.reduceAdd, Nat.reduceLeDiff, Int.reduceToNat, Int.reducePow, ww])
   (refine S.done ?_; simp only [x9, p9, go_sem, Nat.reduceBEq, Nat.reduceAdd, Nat.reduceLeDiff, Int.reduceToNat, Int.reducePow]; (repeat (refine ⟨?_, ?_⟩; focus first | trivial | omega | simp)); exact d9.Q9 (Imp.refl rfl) (by (repeat first | refine uA ?_ | (refine ⟨?_, ?_⟩; focus first | rfl | trivial | (simp [slot]; done)) | rfl | trivial | simp)) (Nat.le_trans hν0 (by simp)))
  ·have hc3 : e = 0 := by simpa using hc2
   (repeat first | refine uA ?_ | (apply S.exit; exact rfl) | (refine uK ?_ ?_; focus first | omega | trivial | exact id | (intros; simp_all <;> omega)) | simp (disch := omega) only [go_sem, Nat.reduceBEq, Nat.reduceAdd, Nat.reduceLeDiff, Int.reduceToNat, Int.reducePow, ww])
   refine S.next (x := (i, m)) (i + 1, m') ⟨by simp only; omega, by simp only; rw [hg, hnx hc3]⟩ (by simp only; omega) (by (repeat first | refine uA ?_ | (refine ⟨?_, ?_⟩; focus first | rfl | trivial | (simp [slot]; done)) | rfl | trivial | simp | exact Nat.le_trans hν0 (by simp)))
 ·rw [hg, U4 (by omega)]
  (repeat first | refine uA ?_ | (apply S.exit; exact rfl) | (refine uK ?_ ?_; focus first | omega | trivial | exact id | (intros; simp_all <;> omega)) | simp (disch := omega) only [go_sem, Nat.reduceBEq, Nat.reduceAdd, Nat.reduceLeDiff, Int.reduceToNat, Int.reducePow, ww])
  (refine S.done ?_; simp only [x9, p9, go_sem, Nat.reduceBEq, Nat.reduceAdd, Nat.reduceLeDiff, Int.reduceToNat, Int.reducePow]; (repeat (refine ⟨?_, ?_⟩; focus first | trivial | omega | simp)); exact d9.Q9 (Imp.refl rfl) (by (repeat first | refine uA ?_ | (refine ⟨?_, ?_⟩; focus first | rfl | trivial | (simp [slot]; done)) | rfl | trivial | simp)) (Nat.le_trans hν0 (by simp)))
theorem b9b (w : Wk) (hb : Wb 1073741824 w) : FZ 23 [w.c] (ints (a2H w)) := by
 refine l8.of b0i b0x (by exact Nat.le_of_ble_eq_true rfl) fun w' O hw => ?_
 have ht : Tz ⟨Tryz.prog, eff, a2d.ntmps, w', fun _ => False, O, [], []⟩ := tz hw
 obtain ⟨⟨n1, b1⟩, ⟨n2, b2⟩, ⟨n3, b3⟩, ⟨n4, b4⟩, ⟨n5, b5⟩, b6⟩ := hb
 have h1 := fun (E : Ctx) (hP : E.P = Tryz.prog) (ht : Tz E) => b8h hP ht w [] w.arms n1 b1
 have h2 := b5W w.walls n2 b2
 unfold a2H a9w
 generalize D7 a0H [] w.arms = r1 at *
 obtain ⟨e1, m1⟩ := r1
 have h3 := fun (E : Ctx) (hP : E.P = Tryz.prog) (ht : Tz E) => b6g hP ht m1 w.parts n3 b3
 simp only at h3 ⊢
 generalize D7 Y3 m1 w.parts = r3 at *
 obtain ⟨e3, m3⟩ := r3
 have h4 := fun (E : Ctx) (hP : E.P = Tryz.prog) (ht : Tz E) => b5N hP ht m3 w.slots n4 b4
 simp only at h4 ⊢
 generalize D7 Y2 m3 w.slots = r4 at *
 obtain ⟨e4, m4⟩ := r4
 have h5 := fun (E : Ctx) (hP : E.P = Tryz.prog) (ht : Tz E) => b5Q hP ht m4 w.gates n5 b5
 simp only at h5 ⊢
 generalize D7 Y9 m4 w.gates = r5 at *
 obtain ⟨e5, m5⟩ := r5
 generalize D6 K4 w.walls = e2 at *
 simp only
 have h6 := a1j w.walk (b6.mono (by decide))
 have h7 := a2n w.walk (b6.mono (by decide))
 have h8 := U5 w.walk (b6.mono (by decide))
 unfold b1V
 generalize decide w.walk.D8 = q1 at *
 generalize o8 w.walk = q2 at *
 generalize E9 (Nm.j3 w.walk) = s8 at *
 obtain ⟨arms, walls, parts, slots, gates, walk⟩ := w
 simp only [a2d, l5, TT, II, OA, OB, OC, MM, LL, VV, FF, MG, LG, VG, FG] at ht ⊢
 simp only [Wk.c, Wk.enc, rsW, ams, wls, pts, sls, gts, rc, sb, ints] at *
 (repeat first | refine uA ?_ | (apply S.exit; exact rfl) | (refine uK ?_ ?_; focus first | omega | trivial | exact id | (intros; simp_all <;> omega)) | simp (disch := omega) only [go_sem, Nat.reduceBEq, Nat.reduceAdd, Nat.reduceLeDiff, Int.reduceToNat, Int.reducePow, ww, List.length_map])
 refine S.cond rfl (fun hc => ?_) (fun hc => ?_)
 ·rw [if_pos (by simp only [Bool.or_eq_true, decide_eq_true_eq] at hc; omega)]
  (repeat first | refine uA ?_ | (apply S.exit; exact rfl) | (refine uK ?_ ?_; focus first | omega | trivial | exact id | (intros; simp_all <;> omega)) | simp (disch := omega) only [go_sem, Nat.reduceBEq, Nat.reduceAdd, Nat.reduceLeDiff, Int.reduceToNat, Int.reducePow, ww])
  exact S.done (d9.out rfl (Imp.refl rfl) rfl)
 rw [if_neg (by simp only [Bool.or_eq_false_iff, decide_eq_false_iff_not] at hc; omega)]
 (repeat first | refine uA ?_ | (apply S.exit; exact rfl) | (refine uK ?_ ?_; focus first | omega | trivial | exact id | (intros; simp_all <;> omega)) | simp (disch := omega) only [go_sem, Nat.reduceBEq, Nat.reduceAdd, Nat.reduceLeDiff, Int.reduceToNat, Int.reducePow, ww, List.length_map])
 refine S.cond rfl (fun hc => ?_) (fun hc => ?_)
 ·rw [if_pos (by simp only [decide_eq_true_eq] at hc; omega)]
  (repeat first | refine uA ?_ | (apply S.exit; exact rfl) | (refine uK ?_ ?_; focus first | omega | trivial | exact id | (intros; simp_all <;> omega)) | simp (disch := omega) only [go_sem, Nat.reduceBEq, Nat.reduceAdd, Nat.reduceLeDiff, Int.reduceToNat, Int.reducePow, ww])
  exact S.done (d9.out rfl (Imp.refl rfl) rfl)
 rw [if_neg (by simp only [decide_eq_false_iff_not] at hc; omega)]
 (repeat first | refine uI ?_ | (apply S.exit; exact rfl) | (refine uK ?_ ?_; focus first | omega | trivial | exact id | (intros; simp_all <;> omega)) | simp (disch := omega) only [go_sem, Nat.reduceBEq, Nat.reduceAdd, Nat.reduceLeDiff, Int.reduceToNat, Int.reducePow, ww])
 refine S.C9 [.box 31 [.sl 12 (arms.map Am.enc), .sl 1 (walls.map fun s => [vts s]), .sl 12 (parts.map Pt.enc), .sl 14 (slots.map Sl.enc), .sl 13 (gates.map Gt.enc), .v (.bool walk.neg), .v (.string (bs walk.num)), .v (.string (bs walk.den))], .gone, .box 140 [.mp 1]] ⟨rfl, rfl, True.intro⟩ ?_
 (repeat first | refine uA ?_ | (apply S.exit; exact rfl) | (refine uK ?_ ?_; focus first | omega | trivial | exact id | (intros; simp_all <;> omega)) | simp (disch := omega) only [go_sem, Nat.reduceBEq, Nat.reduceAdd, Nat.reduceLeDiff, Int.reduceToNat, Int.reducePow, ww, List.length_map, J9] | refine q9.t (h1 _ rfl ht) ?_ | refine q9.t (p8.lift (k := 1) rfl (h3 _ rfl ht) rfl rfl rfl) ?_ | refine q9.t (p8.lift (k := 1) rfl (h4 _ rfl ht) rfl rfl rfl) ?_ | refine q9.t (p8.lift (k := 1) rfl (h5 _ rfl ht) rfl rfl rfl) ?_ | (refine uD h2 ?_ ?_ ?_; exact tz hw; exact rfl))
 generalize hL : [e1, e2, e3, e4, e5] = L
 have hl5 : L.length = 5 := by rw [<- hL]; rfl
 have e63 : [[C.v (Value.int IntKind.i64 e1)], [C.v (Value.int IntKind.i64 e2)], [C.v (Value.int IntKind.i64 e3)], [C.v (Value.int IntKind.i64 e4)], [C.v (Value.int IntKind.i64 e5)]] = L.map fun e => [C.v (Value.int IntKind.i64 e)] := by rw [<- hL]; rfl
 simp only [e63]
 refine S.loop (X := Nat) (fun i => ⟨[(1, .bp 0 0), (63, .sl 1 (L.map fun e => [.v (.int .i64 e)])), (64, ints 5), (65, ints i)], [.box 31 [.sl 12 (arms.map Am.enc), .sl 1 (walls.map fun s => [vts s]), .sl 12 (parts.map Pt.enc), .sl 14 (slots.map Sl.enc), .sl 13 (gates.map Gt.enc), .v (.bool walk.neg), .v (.string (bs walk.num)), .v (.string (bs walk.den))]]⟩) (fun i => i <= 5 /\ D6 id L = D6 id (L.drop i)) (fun i => 5 - i) 0 ⟨Nat.zero_le _, rfl⟩ (by (repeat first | refine uA ?_ | (refine ⟨?_, ?_⟩; focus first | rfl | trivial | (simp [slot]; done)) | rfl | trivial | simp)) ?_
 rintro i ⟨hi, hg⟩
 simp only [ints] at hi hg ⊢
 (repeat first | refine uA ?_ | (apply S.exit; exact rfl) | (refine uK ?_ ?_; focus first | omega | trivial | exact id | (intros; simp_all <;> omega)) | simp (disch := omega) only [go_sem, Nat.reduceBEq, Nat.reduceAdd, Nat.reduceLeDiff, Int.reduceToNat, Int.reducePow, ww])
 (refine uJ rfl (fun hc => ?_) fun hc => ?_)
 ·have hi' : i < L.length := by omega
  have hgi := List.getElem?_eq_getElem hi'
  generalize L[i] = x at hgi
  have hst := P9 (f := id) hgi
  have hnx := P8 (f := id) hgi
  simp only [id] at hst hnx
  (repeat first | refine uA ?_ | (apply S.exit; exact rfl) | (refine uK ?_ ?_; focus first | omega | trivial | exact id | (intros; simp_all <;> omega)) | simp (disch := omega) only [go_sem, Nat.reduceBEq, Nat.reduceAdd, Nat.reduceLeDiff, Int.reduceToNat, Int.reducePow, ww, hgi, Option.map_some, List.length_map, hl5])
  refine S.cond rfl (fun hc2 => ?_) (fun hc2 => ?_)
  ·have h0 : x ≠ 0 := by simpa using hc2
   rw [hg, hst h0, if_pos h0]
   (repeat first | refine uA ?_ | (apply S.exit; exact rfl) | (refine uK ?_ ?_; focus first | omega | trivial | exact id | (intros; simp_all <;> omega)) | simp (disch := omega) only [go_sem, Nat.reduceBEq, Nat.reduceAdd, Nat.reduceLeDiff, Int.reduceToNat, Int.reducePow, ww])
   exact S.done (d9.out rfl (Imp.refl rfl) rfl)
  ·have hc3 : x = 0 := by simpa using hc2
   (repeat first | refine uA ?_ | (apply S.exit; exact rfl) | (refine uK ?_ ?_; focus first | omega | trivial | exact id | (intros; simp_all <;> omega)) | simp (disch := omega) only [go_sem, Nat.reduceBEq, Nat.reduceAdd, Nat.reduceLeDiff, Int.reduceToNat, Int.reducePow, ww])
   refine S.next (i + 1) ⟨by omega, by rw [hg]; exact hnx hc3⟩ (by omega) (by (repeat first | refine uA ?_ | (refine ⟨?_, ?_⟩; focus first | rfl | trivial | (simp [slot]; done)) | rfl | trivial | simp))
 ·rw [hg, U2 (by omega), if_neg (by decide)]
  (repeat first | refine uA ?_ | (apply S.exit; exact rfl) | (refine uK ?_ ?_; focus first | omega | trivial | exact id | (intros; simp_all <;> omega)) | simp (disch := omega) only [go_sem, Nat.reduceBEq, Nat.reduceAdd, Nat.reduceLeDiff, Int.reduceToNat, Int.reducePow, ww] | (refine uD h6 ?_ ?_ ?_; exact tz hw; exact rfl) | (refine uD h7 ?_ ?_ ?_; exact tz hw; exact rfl) | (refine uD h8 ?_ ?_ ?_; exact tz hw; exact rfl))
  refine S.cond rfl (fun hc => ?_) (fun hc => ?_)
  ·rw [if_neg (by simp only [Bool.or_eq_true, Bool.not_eq_true', decide_eq_true_eq] at hc; simp only [Bool.and_eq_true, decide_eq_true_eq]; rintro ⟨⟨g7, g8⟩, g9⟩; rcases hc with (hc | hc) | hc <;> first | (rw [hc] at g7; cases g7; done) | (rw [hc] at g8; cases g8; done) | omega)]
   (repeat first | refine uA ?_ | (apply S.exit; exact rfl) | (refine uK ?_ ?_; focus first | omega | trivial | exact id | (intros; simp_all <;> omega)) | simp (disch := omega) only [go_sem, Nat.reduceBEq, Nat.reduceAdd, Nat.reduceLeDiff, Int.reduceToNat, Int.reducePow, ww])
   exact S.done (d9.out rfl (Imp.refl rfl) rfl)
  ·rw [if_pos (by simp only [Bool.or_eq_false_iff, Bool.not_eq_false', decide_eq_false_iff_not] at hc; simp only [Bool.and_eq_true, decide_eq_true_eq]; obtain ⟨⟨g7, g8⟩, g9⟩ := hc; exact ⟨⟨g7, g8⟩, by omega⟩)]
   (repeat first | refine uA ?_ | (apply S.exit; exact rfl) | (refine uK ?_ ?_; focus first | omega | trivial | exact id | (intros; simp_all <;> omega)) | simp (disch := omega) only [go_sem, Nat.reduceBEq, Nat.reduceAdd, Nat.reduceLeDiff, Int.reduceToNat, Int.reducePow, ww])
   exact S.done (d9.out rfl (Imp.refl rfl) rfl)
set_option maxRecDepth 100000
theorem a7n (q : Rat) : Nm.ofQ (J5 q) = ⟨false, Nm.enc q.num.natAbs, Nm.enc q.den⟩ := by
 unfold J5
 by_cases h : q.num < 0
 ·rw [if_pos h, a9E]
  simp [h]
 ·rw [if_neg h]
  unfold Nm.ofQ
  rw [decide_eq_false h]
theorem c2R (a : Nm.Rt) (ha : Rb 17179869184 a) : FZ 75 [rc a] (rq (J5 (Nm.j3 a))) := by
 unfold rq
 rw [a7n]
 exact a9d a ha
theorem c2e {k : Nat} {p : Rat} (h : Rb k (Nm.ofQ p)) : Rb k (Nm.ofQ (J5 p)) := by rw [a7n]; exact h
theorem b9X (a : Nm.Rt) (ha : Rb 68719476736 a) : FZ 211 [rc a] (.v (.bool (!F6 a))) := by
 refine l8.of a8R a8N (by exact Nat.le_of_ble_eq_true rfl) fun w O hw => ?_
 have h := a1j a ha
 unfold F6
 generalize decide a.D8 = q at *
 simp only [a3Q, l5, TT, II, OA, OB, OC, MM, LL, VV, FF, MG, LG, VG, FG]
 simp only [rc, sb] at *
 (repeat first | refine uA ?_ | (apply S.exit; exact rfl) | (refine uK ?_ ?_; focus first | omega | trivial | exact id | (intros; simp_all <;> omega)) | simp (disch := omega) only [go_sem, Nat.reduceBEq, Nat.reduceAdd, Nat.reduceLeDiff, Int.reduceToNat, Int.reducePow, ww] | (refine uD h ?_ ?_ ?_; exact tz hw; exact rfl))
 exact S.done (d9.out rfl (Imp.refl rfl) rfl)
theorem a7i (l : List Nm.Rt) (hl : Rbs 68719476736 l) : FZ 139 [rts l] (.v (.bool (l.all F6))) := by
 refine l8.of b1A b1r (by exact Nat.le_of_ble_eq_true rfl) fun w O hw => ?_
 have h := b9J 211 (by kernel_rfl) (fun a => !F6 a) l (by have := hl.1; omega) (fun a ha => b9X a (hl.2 a ha))
 have e : l.all F6 = !l.any fun a => !F6 a := by rw [List.not_any_eq_all_not]; simp
 rw [e]
 generalize (l.any fun a => !F6 a) = q at *
 simp only [a5S, l5, TT, II, OA, OB, OC, MM, LL, VV, FF, MG, LG, VG, FG]
 simp only [rts] at *
 (repeat first | refine uA ?_ | (apply S.exit; exact rfl) | (refine uK ?_ ?_; focus first | omega | trivial | exact id | (intros; simp_all <;> omega)) | simp (disch := omega) only [go_sem, Nat.reduceBEq, Nat.reduceAdd, Nat.reduceLeDiff, Int.reduceToNat, Int.reducePow, ww] | (refine uD h ?_ ?_ ?_; exact tz hw; exact rfl))
 exact S.done (d9.out rfl (Imp.refl rfl) rfl)
theorem b9y (f : Fr) (hf : Fb 17179869184 f) : FZ 136 [f.c] (.v (.bool (a0Z f))) := by
 refine l8.of a6O a6L (by exact Nat.le_of_ble_eq_true rfl) fun w O hw => ?_
 obtain ⟨x, y, half, t⟩ := f
 obtain ⟨b1, b2, b3⟩ := hf
 simp only at b1 b2 b3
 have h1 := a7i _ (Rbs.three (by decide) (b1.mono (m := 68719476736) (by decide)) (b2.mono (m := 68719476736) (by decide)) (b3.mono (m := 68719476736) (by decide)))
 rw [a3S] at h1
 have h4 := U5 t b3
 unfold a0Z a2t
 simp only
 generalize (F6 x && F6 y && F6 t) = q1 at *
 generalize E9 (Nm.j3 t) = n at *
 simp only [a2C, l5, TT, II, OA, OB, OC, MM, LL, VV, FF, MG, LG, VG, FG]
 simp only [Fr.c, Fr.enc, rts, rcs, rc, sb, ints, List.map_cons, List.map_nil] at *
 (repeat first | refine uA ?_ | (apply S.exit; exact rfl) | (refine uK ?_ ?_; focus first | omega | trivial | exact id | (intros; simp_all <;> omega)) | simp (disch := omega) only [go_sem, Nat.reduceBEq, Nat.reduceAdd, Nat.reduceLeDiff, Int.reduceToNat, Int.reducePow, ww] | (refine uD h4 ?_ ?_ ?_; exact tz hw; exact rfl) | (refine uE h1 ?_ ?_ ?_ ?_; exact tz hw; exact rfl; focus (repeat' first | exact l6.nil | exact Imp.refl rfl | exact Imp.frz rfl rfl rfl | (refine Imp.I8 rfl rfl ?_ ?_; (focus ((try simp only [List.length_append]); omega)); (focus first | rfl | assumption)) | refine l6.cons ?_ ?_); done))
 have e : (q1 && !(half && !decide (n = 0))) = (q1 && (!half || decide (n = 0))) := by cases q1 <;> cases half <;> simp
 rw [e]
 exact S.done (d9.out rfl (Imp.refl (by rfl)) rfl)
theorem c1F (f : Fr) (hf : Fb 17179869184 f) : FZ 135 [f.c] (.v (.bool (!a0Z f))) := by
 refine l8.of a8r a8E (by exact Nat.le_of_ble_eq_true rfl) fun w O hw => ?_
 have h := b9y f hf
 generalize a0Z f = q at *
 simp only [a3h, l5, TT, II, OA, OB, OC, MM, LL, VV, FF, MG, LG, VG, FG]
 simp only [Fr.c, Fr.enc, sb] at *
 (repeat first | refine uA ?_ | (apply S.exit; exact rfl) | (refine uK ?_ ?_; focus first | omega | trivial | exact id | (intros; simp_all <;> omega)) | simp (disch := omega) only [go_sem, Nat.reduceBEq, Nat.reduceAdd, Nat.reduceLeDiff, Int.reduceToNat, Int.reducePow, ww] | (refine uD h ?_ ?_ ?_; exact tz hw; exact rfl))
 exact S.done (d9.out rfl (Imp.refl rfl) rfl)
theorem c1D (v : Vt) (hv : Vb 68719476736 v) : FZ 138 [v.c] (.v (.bool (!a2w v))) := by
 refine l8.of a8l a8B (by exact Nat.le_of_ble_eq_true rfl) fun w O hw => ?_
 have h := a7i _ (Rbs.two (by decide) hv.1 hv.2)
 rw [a5c] at h
 unfold a2w
 generalize (F6 v.x && F6 v.y) = q at *
 simp only [a3m, l5, TT, II, OA, OB, OC, MM, LL, VV, FF, MG, LG, VG, FG]
 simp only [Vt.c, Vt.enc, rts, rcs, sb, List.map_cons, List.map_nil] at *
 (repeat first | refine uA ?_ | (apply S.exit; exact rfl) | (refine uK ?_ ?_; focus first | omega | trivial | exact id | (intros; simp_all <;> omega)) | simp (disch := omega) only [go_sem, Nat.reduceBEq, Nat.reduceAdd, Nat.reduceLeDiff, Int.reduceToNat, Int.reducePow, ww] | (refine uE h ?_ ?_ ?_ ?_; exact tz hw; exact rfl; focus (repeat' first | exact l6.nil | exact Imp.refl rfl | exact Imp.frz rfl rfl rfl | (refine Imp.I8 rfl rfl ?_ ?_; (focus ((try simp only [List.length_append]); omega)); (focus first | rfl | assumption)) | refine l6.cons ?_ ?_); done))
 exact S.done (d9.out rfl (Imp.refl rfl) rfl)
theorem b7Q {a : Am} {q : List Nm.Rt} (h : a1G a q = 0) : q.length = a.links.length := by
 unfold a1G at h
 split at h
 ·rename_i h1; exact absurd h h1
 ·split at h
  ·cases h
  ·rename_i h2; exact Classical.not_not.1 h2
theorem c3g (a : Am) (x : Ast) (parts : Nat) (ha : Ab 1073741824 a) (hx : Asb 1073741824 x) (hp : parts <= 1073741824) : FZ 133 [a.c, x.c, .v (.int .i64 (parts : Int))] (ints (a3f a x parts)) := by
 refine l8.of b3w b2q (by exact Nat.le_of_ble_eq_true rfl) fun w O hw => ?_
 have h1 := a7i x.q ⟨by have := hx.1.1; omega, fun r hr => (hx.1.2 r hr).mono (by decide)⟩
 have h2 := a7i x.v ⟨by have := hx.2.1; omega, fun r hr => (hx.2.2 r hr).mono (by decide)⟩
 have h3 := b7A a x.q ha hx.1
 have hln := b7Q (a := a) (q := x.q)
 unfold a3f
 generalize a1G a x.q = e at *
 obtain ⟨q, v, power, holds⟩ := x
 simp only at h1 h2 h3 hln ⊢
 generalize q.all F6 = g1 at *
 generalize v.all F6 = g2 at *
 obtain ⟨hvn, hvb⟩ := hx.2
 obtain ⟨name, ⟨bx, by', half, t⟩, links⟩ := a
 obtain ⟨b0, ⟨b1, b2, b3⟩, hn, hb⟩ := ha
 simp only at b0 b1 b2 b3 hn hb hln hvn hvb ⊢
 simp only [a6l, l5, TT, II, OA, OB, OC, MM, LL, VV, FF, MG, LG, VG, FG]
 simp only [Am.c, Am.enc, Ast.c, Ast.enc, lks, rts, sb, ints] at *
 (repeat first | refine uA ?_ | (apply S.exit; exact rfl) | (refine uK ?_ ?_; focus first | omega | trivial | exact id | (intros; simp_all <;> omega)) | simp (disch := omega) only [go_sem, Nat.reduceBEq, Nat.reduceAdd, Nat.reduceLeDiff, Int.reduceToNat, Int.reducePow, ww] | (refine uD h1 ?_ ?_ ?_; exact tz hw; exact rfl) | (refine uD h2 ?_ ?_ ?_; exact tz hw; exact rfl))
 refine S.cond rfl (fun hc => ?_) (fun hc => ?_)
 ·rw [if_pos (by cases g1 <;> cases g2 <;> simp_all)]
  (repeat first | refine uA ?_ | (apply S.exit; exact rfl) | (refine uK ?_ ?_; focus first | omega | trivial | exact id | (intros; simp_all <;> omega)) | simp (disch := omega) only [go_sem, Nat.reduceBEq, Nat.reduceAdd, Nat.reduceLeDiff, Int.reduceToNat, Int.reducePow, ww])
  exact S.done (d9.out rfl (Imp.refl rfl) rfl)
 rw [if_neg (by cases g1 <;> cases g2 <;> simp_all)]
 (repeat first | refine uA ?_ | (apply S.exit; exact rfl) | (refine uK ?_ ?_; focus first | omega | trivial | exact id | (intros; simp_all <;> omega)) | simp (disch := omega) only [go_sem, Nat.reduceBEq, Nat.reduceAdd, Nat.reduceLeDiff, Int.reduceToNat, Int.reducePow, ww] | (refine uD h3 ?_ ?_ ?_; exact tz hw; exact rfl))
 refine S.cond rfl (fun hc => ?_) (fun hc => ?_)
 ·rw [if_pos (by simpa using hc)]
  (repeat first | refine uA ?_ | (apply S.exit; exact rfl) | (refine uK ?_ ?_; focus first | omega | trivial | exact id | (intros; simp_all <;> omega)) | simp (disch := omega) only [go_sem, Nat.reduceBEq, Nat.reduceAdd, Nat.reduceLeDiff, Int.reduceToNat, Int.reducePow, ww])
  exact S.done (d9.out rfl (Imp.refl rfl) rfl)
 rw [if_neg (by simpa using hc)]
 have hln := hln (by simpa using hc)
 (repeat first | refine uA ?_ | (apply S.exit; exact rfl) | (refine uK ?_ ?_; focus first | omega | trivial | exact id | (intros; simp_all <;> omega)) | simp (disch := omega) only [go_sem, Nat.reduceBEq, Nat.reduceAdd, Nat.reduceLeDiff, Int.reduceToNat, Int.reducePow, ww, List.length_map])
 refine S.cond rfl (fun hc => ?_) (fun hc => ?_)
 ·rw [if_pos (by simp only [Bool.or_eq_true, Bool.not_eq_true', decide_eq_true_eq, decide_eq_false_iff_not] at hc; omega)]
  (repeat first | refine uA ?_ | (apply S.exit; exact rfl) | (refine uK ?_ ?_; focus first | omega | trivial | exact id | (intros; simp_all <;> omega)) | simp (disch := omega) only [go_sem, Nat.reduceBEq, Nat.reduceAdd, Nat.reduceLeDiff, Int.reduceToNat, Int.reducePow, ww])
  exact S.done (d9.out rfl (Imp.refl rfl) rfl)
 rw [if_neg (by simp only [Bool.or_eq_false_iff, Bool.not_eq_false', decide_eq_true_eq, decide_eq_false_iff_not] at hc; omega)]
 have hvl : v.length = links.length := by simp only [Bool.or_eq_false_iff, Bool.not_eq_false', decide_eq_true_eq, decide_eq_false_iff_not] at hc; omega
 (repeat first | refine uA ?_ | (apply S.exit; exact rfl) | (refine uK ?_ ?_; focus first | omega | trivial | exact id | (intros; simp_all <;> omega)) | simp (disch := omega) only [go_sem, Nat.reduceBEq, Nat.reduceAdd, Nat.reduceLeDiff, Int.reduceToNat, Int.reducePow, ww, List.length_map])
 refine S.loop (X := Nat) (fun i => ⟨[(4, .bp 1 0), (46, lks links), (47, ints links.length), (48, ints i)], [.gone, .box 90 [rts q, rts v, .v (.bool power), ints holds]]⟩) (fun i => i <= links.length /\ D6 Y4 (links.zip v) = D6 Y4 ((links.zip v).drop i)) (fun i => links.length - i) 0 ⟨Nat.zero_le _, rfl⟩ (by (repeat first | refine uA ?_ | (refine ⟨?_, ?_⟩; focus first | rfl | trivial | (simp [slot]; done)) | rfl | trivial | simp)) ?_
 rintro i ⟨hi, hg⟩
 simp only [lks, ints, rts]
 (repeat first | refine uA ?_ | (apply S.exit; exact rfl) | (refine uK ?_ ?_; focus first | omega | trivial | exact id | (intros; simp_all <;> omega)) | simp (disch := omega) only [go_sem, Nat.reduceBEq, Nat.reduceAdd, Nat.reduceLeDiff, Int.reduceToNat, Int.reducePow, ww])
 (refine uJ rfl (fun hc => ?_) fun hc => ?_)
 ·have hi' : i < links.length := by omega
  have hgi := List.getElem?_eq_getElem hi'
  have hgv := List.getElem?_eq_getElem (show i < v.length by omega)
  generalize links[i] = l at hgi
  generalize v[i]'_ = r at hgv
  have hz := a4V hgi hgv
  have hst := P9 (f := Y4) hz
  have hnx := P8 (f := Y4) hz
  have bl := hb l (List.mem_of_getElem? hgi)
  have br := (hvb r (List.mem_of_getElem? hgv)).mono (m := 17179869184) (by decide)
  have o1 := c2R r br
  have o2 := Q8 (Nm.ofQ (J5 (Nm.j3 r))) l.speed (c2e (br.fit (by decide))) (bl.2.2.2.1.mono (by decide))
  rw [Nm.F7] at o2
  unfold Y4 at hst hnx
  simp only at hst hnx
  generalize Nm.A9 (J5 (Nm.j3 r)) (Nm.j3 l.speed) = n1 at *
  unfold rq at o1
  generalize Nm.ofQ (J5 (Nm.j3 r)) = ar at *
  have hvi : (i : Int) < v.length := by omega
  simp only [rc, sb, ints] at o1 o2
  (repeat first | refine uA ?_ | (apply S.exit; exact rfl) | (refine uK ?_ ?_; focus first | omega | trivial | exact id | (intros; simp_all <;> omega)) | simp (disch := omega) only [go_sem, Nat.reduceBEq, Nat.reduceAdd, Nat.reduceLeDiff, Int.reduceToNat, Int.reducePow, ww, hgi, hgv, Option.map_some, List.length_map, Lk.enc, rcs, vts, sb, Int.toNat_natCast] | (refine uD o1 ?_ ?_ ?_; exact tz hw; exact rfl) | (refine uD o2 ?_ ?_ ?_; exact tz hw; exact rfl))
  refine S.cond rfl (fun hc2 => ?_) (fun hc2 => ?_)
  ·have hp : 0 < n1 := by simpa using hc2
   rw [if_pos hp] at hst
   rw [hg, show Y4 = fun x : Lk × Nm.Rt => if 0 < Nm.A9 (J5 (Nm.j3 x.2)) (Nm.j3 x.1.speed) then 1 else 0 from rfl, hst (by decide)]
   (repeat first | refine uA ?_ | (apply S.exit; exact rfl) | (refine uK ?_ ?_; focus first | omega | trivial | exact id | (intros; simp_all <;> omega)) | simp (disch := omega) only [go_sem, Nat.reduceBEq, Nat.reduceAdd, Nat.reduceLeDiff, Int.reduceToNat, Int.reducePow, ww])
   exact S.done (d9.out rfl (Imp.refl rfl) rfl)
  ·have hp : ¬ 0 < n1 := by simpa using hc2
   rw [if_neg hp] at hnx
   (repeat first | refine uA ?_ | (apply S.exit; exact rfl) | (refine uK ?_ ?_; focus first | omega | trivial | exact id | (intros; simp_all <;> omega)) | simp (disch := omega) only [go_sem, Nat.reduceBEq, Nat.reduceAdd, Nat.reduceLeDiff, Int.reduceToNat, Int.reducePow, ww])
   refine S.next (i + 1) ⟨by omega, ?_⟩ (by omega) (by (repeat first | refine uA ?_ | (refine ⟨?_, ?_⟩; focus first | rfl | trivial | (simp [slot]; done)) | rfl | trivial | simp))
   rw [hg, show Y4 = fun x : Lk × Nm.Rt => if 0 < Nm.A9 (J5 (Nm.j3 x.2)) (Nm.j3 x.1.speed) then 1 else 0 from rfl, hnx rfl]
 ·rw [hg, U2 (by rw [List.length_zip]; omega)]
  (repeat first | refine uA ?_ | (apply S.exit; exact rfl) | (refine uK ?_ ?_; focus first | omega | trivial | exact id | (intros; simp_all <;> omega)) | simp (disch := omega) only [go_sem, Nat.reduceBEq, Nat.reduceAdd, Nat.reduceLeDiff, Int.reduceToNat, Int.reducePow, ww])
  exact S.done (d9.out rfl (Imp.refl rfl) rfl)
set_option maxHeartbeats 16000000
theorem c3e (h : List Int) (n : Int) : (a0B (.int .i64 n) (hdE h)).getD (.bool false) = .bool (h.contains n) := by
 rw [c0W]; cases h.contains n <;> rfl
theorem b5f {α : Type} (p : α -> Bool) (l : List α) : l.all p = !l.any fun x => !p x := by rw [List.not_any_eq_all_not]; simp
theorem a8t (w : Wk) (s : Stt) (hb : Wb 1073741824 w) (hs : Stb 1073741824 s) : FZ 38 [w.c, s.c] (ints (I6 w s)) := by
 refine l8.of b0c b0w (by exact Nat.le_of_ble_eq_true rfl) fun w' O hw => ?_
 have hwk := b9b w hb
 obtain ⟨⟨n1, b1⟩, ⟨n2, b2⟩, ⟨n3, b3⟩, n4⟩ := hs
 have hone := fun (a : Am) (x : Ast) (ha : a ∈ w.arms) (hx : x ∈ s.arms) => c3g a x w.parts.length (hb.arms.2 a ha) (b1 x hx) (by have := hb.parts.1; omega)
 have hfr := b5X 135 (by kernel_rfl) (fun f => !a0Z f) s.parts (by omega) (fun f hf => c1F f ⟨(b2 f hf).1.mono (by decide), (b2 f hf).2.1.mono (by decide), (b2 f hf).2.2.mono (by decide)⟩)
 have hvc := b2Y 138 (by kernel_rfl) (fun v => !a2w v) s.people (by omega) (fun v hv => c1D v ((b3 v hv).mono (by decide)))
 have m1 := hb.arms.1
 have m2 := hb.parts.1
 have m3 := hb.gates.1
 unfold I6
 rw [b5f a0Z, b5f a2w]
 generalize a2H w = e0 at *
 generalize (s.parts.any fun f => !a0Z f) = g1 at *
 generalize (s.people.any fun v => !a2w v) = g2 at *
 obtain ⟨arms, walls, parts, slots, gates, walk⟩ := w
 obtain ⟨tick, sarms, sparts, people, sgates⟩ := s
 simp only at *
 simp only [a4M, l5, TT, II, OA, OB, OC, MM, LL, VV, FF, MG, LG, VG, FG]
 simp only [Wk.c, Wk.enc, Stt.c, Stt.enc, ams, wls, pts, sls, gts, E5, frs, vts, bls, sb, ints] at hwk hfr hvc ⊢
 (repeat first | refine uA ?_ | (apply S.exit; exact rfl) | (refine uK ?_ ?_; focus first | omega | trivial | exact id | (intros; simp_all <;> omega)) | simp (disch := omega) only [go_sem, Nat.reduceBEq, Nat.reduceAdd, Nat.reduceLeDiff, Int.reduceToNat, Int.reducePow, ww] | (refine uD hwk ?_ ?_ ?_; exact tz hw; exact rfl))
 refine S.cond rfl (fun hc => ?_) (fun hc => ?_)
 ·rw [if_pos (by simpa using hc)]
  (repeat first | refine uA ?_ | (apply S.exit; exact rfl) | (refine uK ?_ ?_; focus first | omega | trivial | exact id | (intros; simp_all <;> omega)) | simp (disch := omega) only [go_sem, Nat.reduceBEq, Nat.reduceAdd, Nat.reduceLeDiff, Int.reduceToNat, Int.reducePow, ww])
  exact S.done (d9.out rfl (Imp.refl rfl) rfl)
 rw [if_neg (by simpa using hc)]
 (repeat first | refine uA ?_ | (apply S.exit; exact rfl) | (refine uK ?_ ?_; focus first | omega | trivial | exact id | (intros; simp_all <;> omega)) | simp (disch := omega) only [go_sem, Nat.reduceBEq, Nat.reduceAdd, Nat.reduceLeDiff, Int.reduceToNat, Int.reducePow, ww, List.length_map])
 refine S.cond rfl (fun hc => ?_) (fun hc => ?_)
 ·rw [if_pos (by simp only [decide_eq_true_eq] at hc; omega)]
  (repeat first | refine uA ?_ | (apply S.exit; exact rfl) | (refine uK ?_ ?_; focus first | omega | trivial | exact id | (intros; simp_all <;> omega)) | simp (disch := omega) only [go_sem, Nat.reduceBEq, Nat.reduceAdd, Nat.reduceLeDiff, Int.reduceToNat, Int.reducePow, ww])
  exact S.done (d9.out rfl (Imp.refl rfl) rfl)
 rw [if_neg (by simp only [decide_eq_false_iff_not] at hc; omega)]
 (repeat first | refine uA ?_ | (apply S.exit; exact rfl) | (refine uK ?_ ?_; focus first | omega | trivial | exact id | (intros; simp_all <;> omega)) | simp (disch := omega) only [go_sem, Nat.reduceBEq, Nat.reduceAdd, Nat.reduceLeDiff, Int.reduceToNat, Int.reducePow, ww, List.length_map])
 refine S.cond rfl (fun hc => ?_) (fun hc => ?_)
 ·rw [if_pos (by simp only [Bool.or_eq_true, Bool.not_eq_true', decide_eq_true_eq, decide_eq_false_iff_not] at hc; omega)]
  (repeat first | refine uA ?_ | (apply S.exit; exact rfl) | (refine uK ?_ ?_; focus first | omega | trivial | exact id | (intros; simp_all <;> omega)) | simp (disch := omega) only [go_sem, Nat.reduceBEq, Nat.reduceAdd, Nat.reduceLeDiff, Int.reduceToNat, Int.reducePow, ww])
  exact S.done (d9.out rfl (Imp.refl rfl) rfl)
 have hls : sarms.length = arms.length := by simp only [Bool.or_eq_false_iff, Bool.not_eq_false', decide_eq_true_eq, decide_eq_false_iff_not] at hc; omega
 rw [if_neg (by simp only [Bool.or_eq_false_iff, Bool.not_eq_false', decide_eq_true_eq, decide_eq_false_iff_not] at hc; omega)]
 (repeat first | refine uA ?_ | (apply S.exit; exact rfl) | (refine uK ?_ ?_; focus first | omega | trivial | exact id | (intros; simp_all <;> omega)) | simp (disch := omega) only [go_sem, Nat.reduceBEq, Nat.reduceAdd, Nat.reduceLeDiff, Int.reduceToNat, Int.reducePow, ww, List.length_map])
 refine S.loop (X := Nat × List Int) (fun x => ⟨[(2, .bp 0 0), (3, .bp 1 0), (6, .mp 2), (56, E5 sarms), (57, ints sarms.length), (58, ints x.1)], [.box 31 [ams arms, wls walls, pts parts, sls slots, gts gates, .v (.bool walk.neg), sb walk.num, sb walk.den], .box 37 [ints tick, E5 sarms, frs sparts, vts people, bls sgates], .map false (hdE x.2)]⟩)
  (fun x => x.1 <= sarms.length /\ D7 (a1m parts.length) [] (arms.zip sarms) = D7 (a1m parts.length) x.2 ((arms.zip sarms).drop x.1)) (fun x => sarms.length - x.1) (0, []) ⟨Nat.zero_le _, rfl⟩ (by (repeat first | refine uA ?_ | (refine ⟨?_, ?_⟩; focus first | rfl | trivial | (simp [slot]; done)) | rfl | trivial | simp)) ?_
 rintro ⟨i, h⟩ ⟨hi, hg⟩
 simp only [ams, wls, pts, sls, gts, E5, frs, vts, bls, sb, ints] at hi hg ⊢
 (repeat first | refine uA ?_ | (apply S.exit; exact rfl) | (refine uK ?_ ?_; focus first | omega | trivial | exact id | (intros; simp_all <;> omega)) | simp (disch := omega) only [go_sem, Nat.reduceBEq, Nat.reduceAdd, Nat.reduceLeDiff, Int.reduceToNat, Int.reducePow, ww])
 (refine uJ rfl (fun hc => ?_) fun hc => ?_)
 ·have hgx := List.getElem?_eq_getElem (show i < sarms.length by omega)
  have hga := List.getElem?_eq_getElem (show i < arms.length by omega)
  generalize sarms[i]'_ = x at hgx
  generalize arms[i]'_ = a at hga
  have hz := a4V hga hgx
  have hst := Q5 (f := a1m parts.length) (s := h) hz
  have hnx := P7 (f := a1m parts.length) (s := h) hz
  have ho := hone a x (List.mem_of_getElem? hga) (List.mem_of_getElem? hgx)
  have hlk := c3e h x.holds
  have hpt := c2y h x.holds
  have hai : (i : Int) < arms.length := by omega
  have hv : a1m parts.length h (a, x) = if a3f a x parts.length ≠ 0 then (a3f a x parts.length, h) else if (decide (0 <= x.holds) && h.contains x.holds) = true then (10, h) else (0, a2o h x.holds) := rfl
  rw [hv] at hst hnx
  clear hv
  generalize a3f a x parts.length = e1 at *
  generalize h.contains x.holds = c1 at *
  simp only [Am.c, Am.enc, Ast.c, Ast.enc, lks, rts, sb, ints] at ho
  (repeat first | refine uA ?_ | (apply S.exit; exact rfl) | (refine uK ?_ ?_; focus first | omega | trivial | exact id | (intros; simp_all <;> omega)) | simp (disch := omega) only [go_sem, Nat.reduceBEq, Nat.reduceAdd, Nat.reduceLeDiff, Int.reduceToNat, Int.reducePow, ww, hga, hgx, Option.map_some, List.length_map, Am.enc, Ast.enc, lks, rts, sb, ints, Int.toNat_natCast] | (refine uD ho ?_ ?_ ?_; exact tz hw; exact rfl))
  refine S.cond rfl (fun hc2 => ?_) (fun hc2 => ?_)
  ·have h0 : e1 ≠ 0 := by simpa using hc2
   rw [if_pos h0] at hst
   rw [hg, hst h0, if_pos h0]
   (repeat first | refine uA ?_ | (apply S.exit; exact rfl) | (refine uK ?_ ?_; focus first | omega | trivial | exact id | (intros; simp_all <;> omega)) | simp (disch := omega) only [go_sem, Nat.reduceBEq, Nat.reduceAdd, Nat.reduceLeDiff, Int.reduceToNat, Int.reducePow, ww])
   exact S.done (d9.out rfl (Imp.refl rfl) rfl)
  have h0 : e1 = 0 := by simpa using hc2
  rw [if_neg (by simp [h0])] at hst hnx
  (repeat first | refine uA ?_ | (apply S.exit; exact rfl) | (refine uK ?_ ?_; focus first | omega | trivial | exact id | (intros; simp_all <;> omega)) | simp (disch := omega) only [go_sem, Nat.reduceBEq, Nat.reduceAdd, Nat.reduceLeDiff, Int.reduceToNat, Int.reducePow, ww, hlk])
  refine S.cond rfl (fun hc3 => ?_) (fun hc3 => ?_)
  ·rw [if_pos hc3] at hst
   rw [hg, hst (by simp), if_pos (by simp)]
   (repeat first | refine uA ?_ | (apply S.exit; exact rfl) | (refine uK ?_ ?_; focus first | omega | trivial | exact id | (intros; simp_all <;> omega)) | simp (disch := omega) only [go_sem, Nat.reduceBEq, Nat.reduceAdd, Nat.reduceLeDiff, Int.reduceToNat, Int.reducePow, ww])
   exact S.done (d9.out rfl (Imp.refl rfl) rfl)
  ·rw [if_neg (by rw [hc3]; decide)] at hnx
   (repeat first | refine uA ?_ | (apply S.exit; exact rfl) | (refine uK ?_ ?_; focus first | omega | trivial | exact id | (intros; simp_all <;> omega)) | simp (disch := omega) only [go_sem, Nat.reduceBEq, Nat.reduceAdd, Nat.reduceLeDiff, Int.reduceToNat, Int.reducePow, ww, hpt])
   refine S.next (x := (i, h)) (i + 1, a2o h x.holds) ⟨by simp only; omega, by simp only; rw [hg, hnx rfl]⟩ (by simp only; omega) (by (repeat first | refine uA ?_ | (refine ⟨?_, ?_⟩; focus first | rfl | trivial | (simp [slot]; done)) | rfl | trivial | simp))
 ·rw [hg, U4 (by rw [List.length_zip]; omega), if_neg (by simp)]
  (repeat first | refine uA ?_ | (apply S.exit; exact rfl) | (refine uK ?_ ?_; focus first | omega | trivial | exact id | (intros; simp_all <;> omega)) | simp (disch := omega) only [go_sem, Nat.reduceBEq, Nat.reduceAdd, Nat.reduceLeDiff, Int.reduceToNat, Int.reducePow, ww] | (refine uD hfr ?_ ?_ ?_; exact tz hw; exact rfl) | (refine uD hvc ?_ ?_ ?_; exact tz hw; exact rfl))
  refine S.cond rfl (fun hc => ?_) (fun hc => ?_)
  ·rw [if_neg (by cases g1 <;> cases g2 <;> simp_all)]
   (repeat first | refine uA ?_ | (apply S.exit; exact rfl) | (refine uK ?_ ?_; focus first | omega | trivial | exact id | (intros; simp_all <;> omega)) | simp (disch := omega) only [go_sem, Nat.reduceBEq, Nat.reduceAdd, Nat.reduceLeDiff, Int.reduceToNat, Int.reducePow, ww])
   exact S.done (d9.out rfl (Imp.refl rfl) rfl)
  ·rw [if_pos (by cases g1 <;> cases g2 <;> simp_all)]
   (repeat first | refine uA ?_ | (apply S.exit; exact rfl) | (refine uK ?_ ?_; focus first | omega | trivial | exact id | (intros; simp_all <;> omega)) | simp (disch := omega) only [go_sem, Nat.reduceBEq, Nat.reduceAdd, Nat.reduceLeDiff, Int.reduceToNat, Int.reducePow, ww])
   exact S.done (d9.out rfl (Imp.refl rfl) rfl)
set_option maxRecDepth 10000
set_option maxHeartbeats 4000000
def K9 (w : Wk) (s : Stt) (p q : Int) : Int := if I6 w s ≠ 0 then I6 w s else if p < 0 \/ (w.parts.length : Int) <= p \/ q < 0 \/ (w.slots.length : Int) <= q then 1 else 0
theorem b9k (w : Wk) (s : Stt) (p q : Int) (hwb : Wb 1073741824 w) (hs : Stb 1073741824 s) :
  FZ 70 [w.c, s.c, ints p, ints q] (ints (K9 w s p q)) := by
 refine l8.of b1Q b1x (by exact Nat.le_of_ble_eq_true rfl) fun w' O hw => ?_
 have hck := a8t w s hwb hs
 unfold K9
 generalize I6 w s = e at *
 have n1 := hwb.parts.1
 have n2 := hwb.slots.1
 obtain ⟨arms, walls, parts, slots, gates, walk⟩ := w
 obtain ⟨tick, sarms, sparts, people, sgates⟩ := s
 simp only at n1 n2 ⊢
 simp only [a5K, l5, TT, II, OA, OB, OC, MM, LL, VV, FF, MG, LG, VG, FG]
 simp only [Wk.c, Wk.enc, Stt.c, Stt.enc, ams, wls, pts, sls, gts, E5, frs, vts, bls, sb, ints] at hck ⊢
 (repeat first | refine uA ?_ | (apply S.exit; exact rfl) | (refine uK ?_ ?_; focus first | omega | trivial | exact id | (intros; simp_all <;> omega)) | simp (disch := omega) only [go_sem, Nat.reduceBEq, Nat.reduceAdd, Nat.reduceLeDiff, Int.reduceToNat, Int.reducePow, ww] | (refine uD hck ?_ ?_ ?_; exact tz hw; exact rfl))
 refine S.cond rfl (fun hc => ?_) (fun hc => ?_)
 ·rw [if_pos (by simpa using hc)]
  (repeat first | refine uA ?_ | (apply S.exit; exact rfl) | (refine uK ?_ ?_; focus first | omega | trivial | exact id | (intros; simp_all <;> omega)) | simp (disch := omega) only [go_sem, Nat.reduceBEq, Nat.reduceAdd, Nat.reduceLeDiff, Int.reduceToNat, Int.reducePow, ww])
  exact S.done (d9.out rfl (Imp.refl rfl) rfl)
 rw [if_neg (by simpa using hc)]
 (repeat first | refine uA ?_ | (apply S.exit; exact rfl) | (refine uK ?_ ?_; focus first | omega | trivial | exact id | (intros; simp_all <;> omega)) | simp (disch := omega) only [go_sem, Nat.reduceBEq, Nat.reduceAdd, Nat.reduceLeDiff, Int.reduceToNat, Int.reducePow, ww, List.length_map])
 (refine uJ rfl (fun hc => ?_) fun hc => ?_)
 ·rw [if_pos (by omega)]
  (repeat first | refine uA ?_ | (apply S.exit; exact rfl) | (refine uK ?_ ?_; focus first | omega | trivial | exact id | (intros; simp_all <;> omega)) | simp (disch := omega) only [go_sem, Nat.reduceBEq, Nat.reduceAdd, Nat.reduceLeDiff, Int.reduceToNat, Int.reducePow, ww])
  exact S.done (d9.out rfl (Imp.refl rfl) rfl)
 ·rw [if_neg (by omega)]
  (repeat first | refine uA ?_ | (apply S.exit; exact rfl) | (refine uK ?_ ?_; focus first | omega | trivial | exact id | (intros; simp_all <;> omega)) | simp (disch := omega) only [go_sem, Nat.reduceBEq, Nat.reduceAdd, Nat.reduceLeDiff, Int.reduceToNat, Int.reducePow, ww])
  exact S.done (d9.out rfl (Imp.refl rfl) rfl)
def c0w : Sl := ⟨[], b6W, ⟨false, [], []⟩⟩
def a7f : Pt := ⟨[], [], b6W⟩
def N8 (w : Wk) (s : Stt) (p q : Nat) : Rat := a1t (s.parts.getD p b6W) (w.slots.getD q c0w).frame (w.parts.getD p a7f).shape
def a6n (w : Wk) (s : Stt) (p q : Int) : Nm.Rt := if K9 w s p q ≠ 0 then ⟨false, [], []⟩ else Nm.ofQ (N8 w s p.toNat q.toNat)
theorem b0N (f g : Fr) {l : List Vt} {i : Nat} {c : Vt} (h : l[i]? = some c) : a1t f g (l.take (i + 1)) = R7 (a1t f g (l.take i)) (a6z f g c) := by
 unfold a1t
 rw [List.take_succ, h]
 simp
theorem a1i {w : Wk} {s : Stt} (h : I6 w s = 0) : s.parts.length = w.parts.length := by
 unfold I6 at h
 split at h
 ·rename_i h1; exact absurd h h1
 ·split at h
  ·cases h
  ·split at h
   ·cases h
   ·omega
theorem b5B {w : Wk} {s : Stt} {p q : Int} (h : K9 w s p q = 0) : I6 w s = 0 /\ 0 <= p /\ p < w.parts.length /\ 0 <= q /\ q < w.slots.length := by
 unfold K9 at h
 split at h
 ·rename_i h1; exact absurd h h1
 ·split at h
  ·cases h
  ·refine ⟨Classical.not_not.1 (by assumption), ?_⟩
   omega
theorem a3d : rc ⟨false, [], []⟩ = .agg [.v (.bool false), .v (.string ⟨#[]⟩), .v (.string ⟨#[]⟩)] := rfl
theorem b6p (w : Wk) (s : Stt) (p q : Int) (hwb : Wb 1048576 w) (hs : Stb 1048576 s) :
  FZ 13 [w.c, s.c, ints p, ints q] (.tup [rc (a6n w s p q), ints (K9 w s p q)]) := by
 refine l8.of b4X b4x (by exact Nat.le_of_ble_eq_true rfl) fun w' O hw => ?_
 have hck := b9k w s p q (hwb.mono (by decide)) (hs.mono (by decide))
 unfold a6n
 by_cases hd : K9 w s p q = 0
 ·rw [hd] at hck ⊢
  rw [if_neg (by simp)]
  obtain ⟨hst, p0, p1, q0, q1⟩ := b5B hd
  have hpl := a1i hst
  obtain ⟨p, rfl⟩ : ∃ n : Nat, p = n := ⟨p.toNat, by omega⟩
  obtain ⟨q, rfl⟩ : ∃ n : Nat, q = n := ⟨q.toNat, by omega⟩
  rw [Int.toNat_natCast, Int.toNat_natCast]
  have gp := List.getElem?_eq_getElem (show p < w.parts.length by omega)
  have gs := List.getElem?_eq_getElem (show q < w.slots.length by omega)
  have gf := List.getElem?_eq_getElem (show p < s.parts.length by omega)
  have e : N8 w s p q = a1t (s.parts[p]'(by omega)) (w.slots[q]'(by omega)).frame (w.parts[p]'(by omega)).shape := by
   unfold N8
   rw [List.getD_eq_getElem?_getD, List.getD_eq_getElem?_getD, List.getD_eq_getElem?_getD, gp, gs, gf]
   rfl
  rw [e]
  clear e hd hst
  generalize w.parts[p]'(_) = pt at gp
  generalize w.slots[q]'(_) = sl at gs
  generalize s.parts[p]'(_) = f at gf
  have bp := hwb.parts.2 pt (List.mem_of_getElem? gp)
  have bs' := hwb.slots.2 sl (List.mem_of_getElem? gs)
  have bf := hs.parts.2 f (List.mem_of_getElem? gf)
  have hz := a5x 0 (by decide) (by decide)
  rw [show ((0 : Int) : Rat) = 0 from rfl] at hz
  have n1 := hwb.parts.1
  have n2 := hwb.slots.1
  have n3 := hs.parts.1
  obtain ⟨pn, shape, grasp⟩ := pt
  obtain ⟨sn, g, within⟩ := sl
  obtain ⟨arms, walls, parts, slots, gates, walk⟩ := w
  obtain ⟨tick, sarms, sparts, people, sgates⟩ := s
  simp only at gp gs gf bp bs' p1 q1 hpl n1 n2 n3 ⊢
  obtain ⟨_, ⟨hn, hb⟩, _⟩ := bp
  obtain ⟨_, bg, _⟩ := bs'
  simp only at hn hb bg
  have hput := fun c hc => b5K f c (bf.1.mono (by decide)) (bf.2.1.mono (by decide)) (bf.2.2.mono (by decide)) (hb c hc).1 (hb c hc).2
  have hputg := fun c hc => b5K g c (bg.1.mono (by decide)) (bg.2.1.mono (by decide)) (bg.2.2.mono (by decide)) (hb c hc).1 (hb c hc).2
  have hrp := fun c hc => a5d (k := 1048576) (by decide) bf (hb c hc)
  have hrg := fun c hc => a5d (k := 1048576) (by decide) bg (hb c hc)
  have hro := fun c hc => b5h (k := 1048576) (by decide) bf bg (hb c hc)
  have hrq := fun i => b2c (k := 1048576) (by decide) bf bg (shape.take i) (fun c hc => hb c (List.mem_of_mem_take hc))
  have hoc : ∀ c, a6z f g c = R7 (J5 (Z9 f c - Z9 g c)) (J5 (Z6 f c - Z6 g c)) := fun _ => rfl
  have hq0 : a1t f g (shape.take 0) = 0 := rfl
  obtain ⟨fx, fy, fh, ft⟩ := f
  obtain ⟨gx, gy, gh, gt⟩ := g
  simp only [a4C, l5, TT, II, OA, OB, OC, MM, LL, VV, FF, MG, LG, VG, FG]
  simp only [Wk.c, Wk.enc, Stt.c, Stt.enc, ams, wls, pts, sls, gts, E5, frs, vts, bls, rq, rc, sb, ints] at hck hz ⊢
  (repeat first | refine uA ?_ | (apply S.exit; exact rfl) | (refine uK ?_ ?_; focus first | omega | trivial | exact id | (intros; simp_all <;> omega)) | simp (disch := omega) only [go_sem, Nat.reduceBEq, Nat.reduceAdd, Nat.reduceLeDiff, Int.reduceToNat, Int.reducePow, ww] | (refine uD hck ?_ ?_ ?_; exact tz hw; exact rfl))
  refine S.cond rfl (fun hc => by simp at hc) (fun hc => ?_)
  (repeat first | refine uA ?_ | (apply S.exit; exact rfl) | (refine uK ?_ ?_; focus first | omega | trivial | exact id | (intros; simp_all <;> omega)) | simp (disch := omega) only [go_sem, Nat.reduceBEq, Nat.reduceAdd, Nat.reduceLeDiff, Int.reduceToNat, Int.reducePow, ww, List.length_map, gp, Option.map_some, Pt.enc, vts, Int.toNat_natCast] | (refine uD hz ?_ ?_ ?_; exact tz hw; exact rfl))
  refine S.loop (X := Nat) (fun i => ⟨[(2, ints p), (3, ints q), (4, .bp 0 0), (5, .bp 1 0), (8, .bp 2 0), (11, .bp 3 0), (30, vts shape), (31, ints shape.length), (32, ints i)], [.box 31 [ams arms, wls walls, pts parts, sls slots, gts gates, .v (.bool walk.neg), sb walk.num, sb walk.den], .box 37 [ints tick, E5 sarms, frs sparts, vts people, bls sgates], .box 29 [.v (.bool false), .v (.string ⟨#[]⟩), .v (.string ⟨#[]⟩)], .box 29 (rcs (Nm.ofQ (a1t ⟨fx, fy, fh, ft⟩ ⟨gx, gy, gh, gt⟩ (shape.take i))))]⟩) (fun i => i <= shape.length) (fun i => shape.length - i) 0 (Nat.zero_le _) (by simp only [hq0, rcs, sb]; exact (by (repeat first | refine uA ?_ | (refine ⟨?_, ?_⟩; focus first | rfl | trivial | (simp [slot]; done)) | rfl | trivial | simp))) ?_
  intro i hi
  simp only [ams, wls, pts, sls, gts, E5, frs, vts, bls, rcs, sb, ints] at hi ⊢
  (repeat first | refine uA ?_ | (apply S.exit; exact rfl) | (refine uK ?_ ?_; focus first | omega | trivial | exact id | (intros; simp_all <;> omega)) | simp (disch := omega) only [go_sem, Nat.reduceBEq, Nat.reduceAdd, Nat.reduceLeDiff, Int.reduceToNat, Int.reducePow, ww])
  (refine uJ rfl (fun hc => ?_) fun hc => ?_)
  ·have hi' : i < shape.length := by omega
   have hgi := List.getElem?_eq_getElem hi'
   generalize shape[i] = c at hgi
   have hc' := List.mem_of_getElem? hgi
   have hsu := b0N ⟨fx, fy, fh, ft⟩ ⟨gx, gy, gh, gt⟩ hgi
   have o1 := hput c hc'
   have o2 := hputg c hc'
   obtain ⟨r1, r2⟩ := hrp c hc'
   obtain ⟨r3, r4⟩ := hrg c hc'
   have r5 := hro c hc'
   have r6 := hrq i
   have e := hoc c
   generalize a1t ⟨fx, fy, fh, ft⟩ ⟨gx, gy, gh, gt⟩ (shape.take i) = acc at hsu r6 ⊢
   clear hput hputg hrp hrg hro hrq hoc
   generalize a6z ⟨fx, fy, fh, ft⟩ ⟨gx, gy, gh, gt⟩ c = oc at *
   generalize Z9 ⟨fx, fy, fh, ft⟩ c = a1 at *
   generalize Z6 ⟨fx, fy, fh, ft⟩ c = a2 at *
   generalize Z9 ⟨gx, gy, gh, gt⟩ c = b1 at *
   generalize Z6 ⟨gx, gy, gh, gt⟩ c = b2 at *
   have o3 := b2e (Nm.ofQ a1) (Nm.ofQ a2) (Nm.ofQ b1) (Nm.ofQ b2) (r1.mono (by decide)) (r2.mono (by decide)) (r3.mono (by decide)) (r4.mono (by decide))
   simp only [Nm.F7] at o3
   have s1 := V9 r1 r3
   have s2 := V9 r2 r4
   have o4 := a9d (Nm.ofQ (a1 - b1)) (s1.mono (by decide))
   have o5 := a9d (Nm.ofQ (a2 - b2)) (s2.mono (by decide))
   rw [Nm.F7] at o4 o5
   rw [<- a7n] at o4 o5
   have s3 := a3a s1
   have s4 := a3a s2
   have o6 := b7C (Nm.ofQ (J5 (a1 - b1))) (Nm.ofQ (J5 (a2 - b2))) (s3.mono (by decide)) (s4.mono (by decide))
   rw [Nm.F7, Nm.F7, <- e] at o6
   have o7 := b7C (Nm.ofQ acc) (Nm.ofQ oc) (r6.mono (by decide)) (r5.mono (by decide))
   rw [Nm.F7, Nm.F7, <- hsu] at o7
   unfold vq at o1 o2 o3
   unfold rq at o6 o7
   generalize hz1 : Nm.ofQ (a1t ⟨fx, fy, fh, ft⟩ ⟨gx, gy, gh, gt⟩ (shape.take (i + 1))) = z1 at *
   generalize Nm.ofQ (J5 (a1 - b1)) = z2 at *
   generalize Nm.ofQ (J5 (a2 - b2)) = z3 at *
   generalize Nm.ofQ (a1 - b1) = z4 at *
   generalize Nm.ofQ (a2 - b2) = z5 at *
   generalize Nm.ofQ a1 = z6 at *
   generalize Nm.ofQ a2 = z7 at *
   generalize Nm.ofQ b1 = z8 at *
   generalize Nm.ofQ b2 = z9 at *
   generalize Nm.ofQ acc = z10 at *
   generalize Nm.ofQ oc = z11 at *
   simp only [Fr.c, Fr.enc, Vt.c, Vt.enc, vc, rc, sb] at o1 o2 o3 o4 o5 o6 o7
   (repeat first | refine uA ?_ | (apply S.exit; exact rfl) | (refine uK ?_ ?_; focus first | omega | trivial | exact id | (intros; simp_all <;> omega)) | simp (disch := omega) only [go_sem, Nat.reduceBEq, Nat.reduceAdd, Nat.reduceLeDiff, Int.reduceToNat, Int.reducePow, ww, hgi, gf, gs, Option.map_some, List.length_map, Vt.enc, Fr.enc, Sl.enc, sb, Int.toNat_natCast] | (refine uD o1 ?_ ?_ ?_; exact tz hw; exact rfl) | (refine uD o2 ?_ ?_ ?_; exact tz hw; exact rfl) | (refine uD o3 ?_ ?_ ?_; exact tz hw; exact rfl) | (refine uD o4 ?_ ?_ ?_; exact tz hw; exact rfl) | (refine uD o5 ?_ ?_ ?_; exact tz hw; exact rfl) | (refine uD o6 ?_ ?_ ?_; exact tz hw; exact rfl) | (refine uD o7 ?_ ?_ ?_; exact tz hw; exact rfl))
   refine S.next (i + 1) (by omega) (by omega) (by simp only [hz1, rcs, sb]; exact (by (repeat first | refine uA ?_ | (refine ⟨?_, ?_⟩; focus first | rfl | trivial | (simp [slot]; done)) | rfl | trivial | simp)))
  ·have hi' : i = shape.length := by omega
   subst hi'
   rw [List.take_length]
   (repeat first | refine uA ?_ | (apply S.exit; exact rfl) | (refine uK ?_ ?_; focus first | omega | trivial | exact id | (intros; simp_all <;> omega)) | simp (disch := omega) only [go_sem, Nat.reduceBEq, Nat.reduceAdd, Nat.reduceLeDiff, Int.reduceToNat, Int.reducePow, ww])
   (refine S.done ?_; simp only [x9, p9, go_sem, Nat.reduceBEq, Nat.reduceAdd, Nat.reduceLeDiff, Int.reduceToNat, Int.reducePow]; (repeat (refine ⟨?_, ?_⟩; focus first | trivial | omega | simp)); exact d9.out rfl (Imp.refl rfl) rfl)
 ·rw [if_pos hd]
  generalize K9 w s p q = e at *
  obtain ⟨arms, walls, parts, slots, gates, walk⟩ := w
  obtain ⟨tick, sarms, sparts, people, sgates⟩ := s
  rw [a3d]
  simp only [a4C, l5, TT, II, OA, OB, OC, MM, LL, VV, FF, MG, LG, VG, FG]
  simp only [Wk.c, Wk.enc, Stt.c, Stt.enc, ams, wls, pts, sls, gts, E5, frs, vts, bls, sb, ints] at hck ⊢
  (repeat first | refine uA ?_ | (apply S.exit; exact rfl) | (refine uK ?_ ?_; focus first | omega | trivial | exact id | (intros; simp_all <;> omega)) | simp (disch := omega) only [go_sem, Nat.reduceBEq, Nat.reduceAdd, Nat.reduceLeDiff, Int.reduceToNat, Int.reducePow, ww] | (refine uD hck ?_ ?_ ?_; exact tz hw; exact rfl))
  refine S.cond rfl (fun hc => ?_) (fun hc => by simp at hc; exact absurd hc hd)
  (repeat first | refine uA ?_ | (apply S.exit; exact rfl) | (refine uK ?_ ?_; focus first | omega | trivial | exact id | (intros; simp_all <;> omega)) | simp (disch := omega) only [go_sem, Nat.reduceBEq, Nat.reduceAdd, Nat.reduceLeDiff, Int.reduceToNat, Int.reducePow, ww])
  (refine S.done ?_; simp only [x9, p9, go_sem, Nat.reduceBEq, Nat.reduceAdd, Nat.reduceLeDiff, Int.reduceToNat, Int.reducePow]; (repeat (refine ⟨?_, ?_⟩; focus first | trivial | omega | simp)); exact d9.out rfl (Imp.refl rfl) rfl)
set_option maxRecDepth 100000
set_option maxHeartbeats 16000000
theorem c0Q : Rb 8 (Nm.ofQ 0) := ⟨Nm.K6 (by decide), Nm.K6 (by decide)⟩
set_option maxRecDepth 10000
set_option maxHeartbeats 4000000
def a1O (w : Wk) (s : Stt) (p q : Int) : Bool := if K9 w s p q ≠ 0 then false else !(s.arms.any fun x => decide (x.holds = p)) && decide (Nm.A9 (N8 w s p.toNat q.toNat) (Nm.j3 (w.slots.getD q.toNat c0w).within) <= 0)
theorem a7k {w : Wk} {s : Stt} {p q : Nat} (hwb : Wb 1048576 w) (hs : Stb 1048576 s) (h1 : p < s.parts.length) (h2 : p < w.parts.length) (h3 : q < w.slots.length) : Rb 23068749 (Nm.ofQ (N8 w s p q)) := by
 unfold N8
 rw [List.getD_eq_getElem?_getD, List.getD_eq_getElem?_getD, List.getD_eq_getElem?_getD, List.getElem?_eq_getElem h1, List.getElem?_eq_getElem h2, List.getElem?_eq_getElem h3]
 exact (b2c (k := 1048576) (by decide) (hs.parts.2 _ (List.getElem_mem _)) (hwb.slots.2 _ (List.getElem_mem _)).2.1 _ (hwb.parts.2 _ (List.getElem_mem _)).2.1.2).mono (by decide)
theorem b9H {α : Type} {f : α -> Bool} {l : List α} {i : Nat} {x : α} (h : l[i]? = some x) : (l.take (i + 1)).any f = ((l.take i).any f || f x) := by
 rw [List.take_succ, h]; simp
theorem c1I {α : Type} {f : α -> Bool} {l : List α} {i : Nat} {x : α} (h : l[i]? = some x) (hf : f x = true) : l.any f = true := List.any_eq_true.2 ⟨x, List.mem_of_getElem? h, hf⟩
theorem b9I (w : Wk) (s : Stt) (p q : Int) (hwb : Wb 1048576 w) (hs : Stb 1048576 s) :
  FZ 11 [w.c, s.c, ints p, ints q] (.tup [.v (.bool (a1O w s p q)), ints (K9 w s p q)]) := by
 refine l8.of b6a b5S (by exact Nat.le_of_ble_eq_true rfl) fun w' O hw => ?_
 have hof := b6p w s p q hwb hs
 have n1 := hs.arms.1
 have n2 := hwb.slots.1
 unfold a1O
 by_cases hd : K9 w s p q = 0
 ·unfold a6n at hof
  rw [hd] at hof ⊢
  rw [if_neg (by simp)] at hof
  rw [if_neg (by simp)]
  obtain ⟨hst, p0, p1, q0, q1⟩ := b5B hd
  have hpl := a1i hst
  clear hd hst
  obtain ⟨q, rfl⟩ : ∃ n : Nat, q = n := ⟨q.toNat, by omega⟩
  have hrb := a7k (p := p.toNat) (q := q) hwb hs (by omega) (by omega) (by omega)
  rw [Int.toNat_natCast] at hof ⊢
  have gs := List.getElem?_eq_getElem (show q < w.slots.length by omega)
  rw [List.getD_eq_getElem?_getD, gs, Option.getD_some]
  generalize N8 w s p.toNat q = off at *
  generalize w.slots[q]'(_) = sl at gs
  have bs' := (hwb.slots.2 sl (List.mem_of_getElem? gs)).2.2
  have o1 := Q8 (Nm.ofQ off) sl.within (hrb.mono (by decide)) (bs'.mono (by decide))
  rw [Nm.F7] at o1
  generalize Nm.A9 off (Nm.j3 sl.within) = z1 at *
  generalize Nm.ofQ off = z2 at *
  obtain ⟨sn, g, within⟩ := sl
  obtain ⟨arms, walls, parts, slots, gates, walk⟩ := w
  obtain ⟨tick, sarms, sparts, people, sgates⟩ := s
  simp only at gs q1 n1 n2 ⊢
  simp only [a5q, l5, TT, II, OA, OB, OC, MM, LL, VV, FF, MG, LG, VG, FG]
  simp only [Wk.c, Wk.enc, Stt.c, Stt.enc, ams, wls, pts, sls, gts, E5, frs, vts, bls, rc, sb, ints] at hof o1 ⊢
  (repeat first | refine uA ?_ | (apply S.exit; exact rfl) | (refine uK ?_ ?_; focus first | omega | trivial | exact id | (intros; simp_all <;> omega)) | simp (disch := omega) only [go_sem, Nat.reduceBEq, Nat.reduceAdd, Nat.reduceLeDiff, Int.reduceToNat, Int.reducePow, ww] | (refine uD hof ?_ ?_ ?_; exact tz hw; exact rfl))
  refine S.cond rfl (fun hc => by simp at hc) (fun hc => ?_)
  (repeat first | refine uA ?_ | (apply S.exit; exact rfl) | (refine uK ?_ ?_; focus first | omega | trivial | exact id | (intros; simp_all <;> omega)) | simp (disch := omega) only [go_sem, Nat.reduceBEq, Nat.reduceAdd, Nat.reduceLeDiff, Int.reduceToNat, Int.reducePow, ww, List.length_map])
  refine S.loop (X := Nat) (fun i => ⟨[(2, ints p), (3, ints q), (4, .bp 0 0), (5, .bp 1 0), (10, .bp 2 0), (26, E5 sarms), (27, ints sarms.length), (28, ints i)], [.box 31 [ams arms, wls walls, pts parts, sls slots, gts gates, .v (.bool walk.neg), sb walk.num, sb walk.den], .box 37 [ints tick, E5 sarms, frs sparts, vts people, bls sgates], .box 29 (rcs z2)]⟩) (fun i => i <= sarms.length /\ (sarms.take i).any (fun x => decide (x.holds = p)) = false) (fun i => sarms.length - i) 0 ⟨Nat.zero_le _, rfl⟩ (by simp only [rcs, sb]; exact (by (repeat first | refine uA ?_ | (refine ⟨?_, ?_⟩; focus first | rfl | trivial | (simp [slot]; done)) | rfl | trivial | simp))) ?_
  rintro i ⟨hi, ha⟩
  simp only [ams, wls, pts, sls, gts, E5, frs, vts, bls, rcs, sb, ints] at hi ⊢
  (repeat first | refine uA ?_ | (apply S.exit; exact rfl) | (refine uK ?_ ?_; focus first | omega | trivial | exact id | (intros; simp_all <;> omega)) | simp (disch := omega) only [go_sem, Nat.reduceBEq, Nat.reduceAdd, Nat.reduceLeDiff, Int.reduceToNat, Int.reducePow, ww])
  (refine uJ rfl (fun hc => ?_) fun hc => ?_)
  ·have hgi := List.getElem?_eq_getElem (show i < sarms.length by omega)
   generalize sarms[i]'(_) = x at hgi
   have h1 := b9H (f := fun x : Ast => decide (x.holds = p)) hgi
   have h2 := c1I (f := fun x : Ast => decide (x.holds = p)) hgi
   rw [ha, Bool.false_or] at h1
   obtain ⟨xq, xv, xp, xh⟩ := x
   simp only at h1 h2
   (repeat first | refine uA ?_ | (apply S.exit; exact rfl) | (refine uK ?_ ?_; focus first | omega | trivial | exact id | (intros; simp_all <;> omega)) | simp (disch := omega) only [go_sem, Nat.reduceBEq, Nat.reduceAdd, Nat.reduceLeDiff, Int.reduceToNat, Int.reducePow, ww, hgi, Option.map_some, List.length_map, Ast.enc, rts, sb, ints, Int.toNat_natCast])
   refine S.cond rfl (fun hc2 => ?_) (fun hc2 => ?_)
   ·rw [h2 hc2]
    (repeat first | refine uA ?_ | (apply S.exit; exact rfl) | (refine uK ?_ ?_; focus first | omega | trivial | exact id | (intros; simp_all <;> omega)) | simp (disch := omega) only [go_sem, Nat.reduceBEq, Nat.reduceAdd, Nat.reduceLeDiff, Int.reduceToNat, Int.reducePow, ww])
    exact S.done (d9.out rfl (Imp.refl rfl) rfl)
   ·(repeat first | refine uA ?_ | (apply S.exit; exact rfl) | (refine uK ?_ ?_; focus first | omega | trivial | exact id | (intros; simp_all <;> omega)) | simp (disch := omega) only [go_sem, Nat.reduceBEq, Nat.reduceAdd, Nat.reduceLeDiff, Int.reduceToNat, Int.reducePow, ww])
    refine S.next (i + 1) ⟨by omega, by rw [h1]; exact hc2⟩ (by omega) (by (repeat first | refine uA ?_ | (refine ⟨?_, ?_⟩; focus first | rfl | trivial | (simp [slot]; done)) | rfl | trivial | simp))
  ·have hi' : i = sarms.length := by omega
   subst hi'
   rw [List.take_length] at ha
   rw [ha]
   (repeat first | refine uA ?_ | (apply S.exit; exact rfl) | (refine uK ?_ ?_; focus first | omega | trivial | exact id | (intros; simp_all <;> omega)) | simp (disch := omega) only [go_sem, Nat.reduceBEq, Nat.reduceAdd, Nat.reduceLeDiff, Int.reduceToNat, Int.reducePow, ww, gs, Option.map_some, List.length_map, Sl.enc, sb, Int.toNat_natCast] | (refine uD o1 ?_ ?_ ?_; exact tz hw; exact rfl))
   exact S.done (d9.out rfl (Imp.refl rfl) rfl)
 ·rw [if_pos hd]
  generalize a6n w s p q = z2 at *
  generalize K9 w s p q = e at *
  obtain ⟨arms, walls, parts, slots, gates, walk⟩ := w
  obtain ⟨tick, sarms, sparts, people, sgates⟩ := s
  simp only [a5q, l5, TT, II, OA, OB, OC, MM, LL, VV, FF, MG, LG, VG, FG]
  simp only [Wk.c, Wk.enc, Stt.c, Stt.enc, ams, wls, pts, sls, gts, E5, frs, vts, bls, rc, sb, ints] at hof ⊢
  (repeat first | refine uA ?_ | (apply S.exit; exact rfl) | (refine uK ?_ ?_; focus first | omega | trivial | exact id | (intros; simp_all <;> omega)) | simp (disch := omega) only [go_sem, Nat.reduceBEq, Nat.reduceAdd, Nat.reduceLeDiff, Int.reduceToNat, Int.reducePow, ww] | (refine uD hof ?_ ?_ ?_; exact tz hw; exact rfl))
  refine S.cond rfl (fun hc => ?_) (fun hc => by simp at hc; exact absurd hc hd)
  (repeat first | refine uA ?_ | (apply S.exit; exact rfl) | (refine uK ?_ ?_; focus first | omega | trivial | exact id | (intros; simp_all <;> omega)) | simp (disch := omega) only [go_sem, Nat.reduceBEq, Nat.reduceAdd, Nat.reduceLeDiff, Int.reduceToNat, Int.reducePow, ww])
  exact S.done (d9.out rfl (Imp.refl rfl) rfl)
def a0M (w : Wk) (s : Stt) (p : Int) : Int := if I6 w s ≠ 0 then I6 w s else if p < 0 \/ (w.parts.length : Int) <= p then 1 else if w.slots.length = 0 then 4 else 0
def a9j (w : Wk) (s : Stt) (p : Int) : Nat × Rat := I9 (N8 w s p.toNat) w.slots.length
def a6Y (w : Wk) (s : Stt) (p : Int) : Nat := if a0M w s p ≠ 0 then 0 else (a9j w s p).1
def a6w (w : Wk) (s : Stt) (p : Int) : Nm.Rt := if a0M w s p ≠ 0 then ⟨false, [], []⟩ else Nm.ofQ (a9j w s p).2
theorem b5m {o : Nat -> Rat} {k n : Nat} (hk : 8 <= k) (h : ∀ j, j < n -> Rb k (Nm.ofQ (o j))) : ∀ i, i <= n -> Rb k (Nm.ofQ (I9 o i).2)
 | 0, _ => c0Q.mono hk
 | i + 1, hi => by
  unfold I9
  split
  ·exact h i (by omega)
  ·exact b5m hk h i (by omega)
theorem c2u (w : Wk) (s : Stt) (p : Int) (hwb : Wb 1048576 w) (hs : Stb 1048576 s) :
  FZ 14 [w.c, s.c, ints p] (.tup [.v (.int .i64 (a6Y w s p)), rc (a6w w s p), ints (a0M w s p)]) := by
 refine l8.of b2j b2S (by exact Nat.le_of_ble_eq_true rfl) fun w' O hw => ?_
 have hck := a8t w s (hwb.mono (by decide)) (hs.mono (by decide))
 have hof := fun i : Nat => b6p w s p i hwb hs
 have n1 := hwb.parts.1
 have n2 := hwb.slots.1
 have hE : a0M w s p = if I6 w s ≠ 0 then I6 w s else if p < 0 \/ (w.parts.length : Int) <= p then 1 else if w.slots.length = 0 then 4 else 0 := rfl
 unfold a6Y a6w
 have hz := a5x 0 (by decide) (by decide)
 rw [show ((0 : Int) : Rat) = 0 from rfl] at hz
 have hzf : ∀ x : Int, x ≠ 0 -> (if x ≠ 0 then 0 else (a9j w s p).1) = 0 := fun x hx => if_pos hx
 have hzr : ∀ x : Int, x ≠ 0 -> (if x ≠ 0 then (⟨false, [], []⟩ : Nm.Rt) else Nm.ofQ (a9j w s p).2) = ⟨false, [], []⟩ := fun x hx => if_pos hx
 by_cases hst : I6 w s = 0
 ·rw [if_neg (by simpa using hst)] at hE
  have hpl := a1i hst
  by_cases hp : p < 0 \/ (w.parts.length : Int) <= p
  ·rw [if_pos hp] at hE
   rw [hE, hzf 1 (by decide), hzr 1 (by decide), a3d]
   rw [hst] at hck
   clear hof hst hE hzf hzr hpl
   obtain ⟨arms, walls, parts, slots, gates, walk⟩ := w
   obtain ⟨tick, sarms, sparts, people, sgates⟩ := s
   simp only at hp n1 n2
   simp only [a0E, l5, TT, II, OA, OB, OC, MM, LL, VV, FF, MG, LG, VG, FG]
   simp only [Wk.c, Wk.enc, Stt.c, Stt.enc, ams, wls, pts, sls, gts, E5, frs, vts, bls, rc, sb, ints] at hck ⊢
   (repeat first | refine uA ?_ | (apply S.exit; exact rfl) | (refine uK ?_ ?_; focus first | omega | trivial | exact id | (intros; simp_all <;> omega)) | simp (disch := omega) only [go_sem, Nat.reduceBEq, Nat.reduceAdd, Nat.reduceLeDiff, Int.reduceToNat, Int.reducePow, ww] | (refine uD hck ?_ ?_ ?_; exact tz hw; exact rfl))
   refine S.cond rfl (fun hc => by simp at hc) (fun hc => ?_)
   (repeat first | refine uA ?_ | (apply S.exit; exact rfl) | (refine uK ?_ ?_; focus first | omega | trivial | exact id | (intros; simp_all <;> omega)) | simp (disch := omega) only [go_sem, Nat.reduceBEq, Nat.reduceAdd, Nat.reduceLeDiff, Int.reduceToNat, Int.reducePow, ww, List.length_map])
   refine S.cond rfl (fun hc => ?_) (fun hc => by simp only [Bool.or_eq_false_iff, decide_eq_false_iff_not] at hc; omega)
   (repeat first | refine uA ?_ | (apply S.exit; exact rfl) | (refine uK ?_ ?_; focus first | omega | trivial | exact id | (intros; simp_all <;> omega)) | simp (disch := omega) only [go_sem, Nat.reduceBEq, Nat.reduceAdd, Nat.reduceLeDiff, Int.reduceToNat, Int.reducePow, ww])
   (refine S.done ?_; simp only [x9, p9, go_sem, Nat.reduceBEq, Nat.reduceAdd, Nat.reduceLeDiff, Int.reduceToNat, Int.reducePow]; (repeat (refine ⟨?_, ?_⟩; focus first | trivial | omega | simp)); exact d9.out rfl (Imp.refl rfl) rfl)
  ·rw [if_neg hp] at hE
   by_cases hsl : w.slots.length = 0
   ·rw [if_pos hsl] at hE
    rw [hE, hzf 4 (by decide), hzr 4 (by decide), a3d]
    rw [hst] at hck
    clear hof hst hE hzf hzr hpl
    obtain ⟨arms, walls, parts, slots, gates, walk⟩ := w
    obtain ⟨tick, sarms, sparts, people, sgates⟩ := s
    simp only at hp n1 n2 hsl
    simp only [a0E, l5, TT, II, OA, OB, OC, MM, LL, VV, FF, MG, LG, VG, FG]
    simp only [Wk.c, Wk.enc, Stt.c, Stt.enc, ams, wls, pts, sls, gts, E5, frs, vts, bls, rc, sb, ints] at hck ⊢
    (repeat first | refine uA ?_ | (apply S.exit; exact rfl) | (refine uK ?_ ?_; focus first | omega | trivial | exact id | (intros; simp_all <;> omega)) | simp (disch := omega) only [go_sem, Nat.reduceBEq, Nat.reduceAdd, Nat.reduceLeDiff, Int.reduceToNat, Int.reducePow, ww] | (refine uD hck ?_ ?_ ?_; exact tz hw; exact rfl))
    refine S.cond rfl (fun hc => by simp at hc) (fun hc => ?_)
    (repeat first | refine uA ?_ | (apply S.exit; exact rfl) | (refine uK ?_ ?_; focus first | omega | trivial | exact id | (intros; simp_all <;> omega)) | simp (disch := omega) only [go_sem, Nat.reduceBEq, Nat.reduceAdd, Nat.reduceLeDiff, Int.reduceToNat, Int.reducePow, ww, List.length_map])
    refine S.cond rfl (fun hc => by simp only [Bool.or_eq_true, decide_eq_true_eq] at hc; omega) (fun hc => ?_)
    (repeat first | refine uA ?_ | (apply S.exit; exact rfl) | (refine uK ?_ ?_; focus first | omega | trivial | exact id | (intros; simp_all <;> omega)) | simp (disch := omega) only [go_sem, Nat.reduceBEq, Nat.reduceAdd, Nat.reduceLeDiff, Int.reduceToNat, Int.reducePow, ww, List.length_map])
    refine S.cond rfl (fun hc => ?_) (fun hc => by simp only [decide_eq_false_iff_not] at hc; omega)
    (repeat first | refine uA ?_ | (apply S.exit; exact rfl) | (refine uK ?_ ?_; focus first | omega | trivial | exact id | (intros; simp_all <;> omega)) | simp (disch := omega) only [go_sem, Nat.reduceBEq, Nat.reduceAdd, Nat.reduceLeDiff, Int.reduceToNat, Int.reducePow, ww])
    (refine S.done ?_; simp only [x9, p9, go_sem, Nat.reduceBEq, Nat.reduceAdd, Nat.reduceLeDiff, Int.reduceToNat, Int.reducePow]; (repeat (refine ⟨?_, ?_⟩; focus first | trivial | omega | simp)); exact d9.out rfl (Imp.refl rfl) rfl)
   ·rw [if_neg hsl] at hE
    rw [hE, if_neg (by simp), if_neg (by simp)]
    have hdk : ∀ i : Nat, i < w.slots.length -> K9 w s p i = 0 := fun i hi => by
     unfold K9
     rw [if_neg (by simpa using hst), if_neg (by omega)]
    have hrb : ∀ i : Nat, i < w.slots.length -> Rb 23068749 (Nm.ofQ (N8 w s p.toNat i)) := fun i hi => a7k hwb hs (by omega) (by omega) hi
    have hbr := fun i => b5m (by decide) hrb i
    have hof' : ∀ i : Nat, i < w.slots.length -> FZ 13 [w.c, s.c, ints p, ints i] (.tup [rc (Nm.ofQ (N8 w s p.toNat i)), ints 0]) := fun i hi => by
     have := hof i
     unfold a6n at this
     rw [hdk i hi, if_neg (by simp), Int.toNat_natCast] at this
     exact this
    have hcm : ∀ i : Nat, i < w.slots.length -> FZ 52 [rc (Nm.ofQ (N8 w s p.toNat i)), rc (Nm.ofQ (I9 (N8 w s p.toNat) i).2)] (ints (Nm.A9 (N8 w s p.toNat i) (I9 (N8 w s p.toNat) i).2)) := fun i hi => by
     have := Q8 _ _ ((hrb i hi).mono (by decide)) ((hbr i (by omega)).mono (by decide))
     rw [Nm.F7, Nm.F7] at this
     exact this
    have hsu : ∀ i, I9 (N8 w s p.toNat) (i + 1) = if i = 0 \/ Nm.A9 (N8 w s p.toNat i) (I9 (N8 w s p.toNat) i).2 < 0 then (i, N8 w s p.toNat i) else I9 (N8 w s p.toNat) i := fun i => by
     conv => lhs; unfold I9
    have hb0 : I9 (N8 w s p.toNat) 0 = (0, 0) := rfl
    unfold a9j
    generalize N8 w s p.toNat = o at *
    rw [hst] at hck
    clear hof hst hE hzf hzr hpl hrb hbr hdk
    have hbl : ∀ i, (I9 o i).1 <= i := fun i => by
     cases i with
     | zero => exact Nat.le_refl _
     | succ i => exact Nat.le_of_lt (a5h o (i + 1) (by omega)).1
    generalize hB : I9 o = B at *
    obtain ⟨arms, walls, parts, slots, gates, walk⟩ := w
    obtain ⟨tick, sarms, sparts, people, sgates⟩ := s
    simp only at hp n1 n2 hsl hof' hcm ⊢
    simp only [a0E, l5, TT, II, OA, OB, OC, MM, LL, VV, FF, MG, LG, VG, FG]
    simp only [Wk.c, Wk.enc, Stt.c, Stt.enc, ams, wls, pts, sls, gts, E5, frs, vts, bls, rq, rc, sb, ints] at hck hz hof' hcm ⊢
    (repeat first | refine uA ?_ | (apply S.exit; exact rfl) | (refine uK ?_ ?_; focus first | omega | trivial | exact id | (intros; simp_all <;> omega)) | simp (disch := omega) only [go_sem, Nat.reduceBEq, Nat.reduceAdd, Nat.reduceLeDiff, Int.reduceToNat, Int.reducePow, ww] | (refine uD hck ?_ ?_ ?_; exact tz hw; exact rfl))
    refine S.cond rfl (fun hc => by simp at hc) (fun hc => ?_)
    (repeat first | refine uA ?_ | (apply S.exit; exact rfl) | (refine uK ?_ ?_; focus first | omega | trivial | exact id | (intros; simp_all <;> omega)) | simp (disch := omega) only [go_sem, Nat.reduceBEq, Nat.reduceAdd, Nat.reduceLeDiff, Int.reduceToNat, Int.reducePow, ww, List.length_map])
    refine S.cond rfl (fun hc => by simp only [Bool.or_eq_true, decide_eq_true_eq] at hc; omega) (fun hc => ?_)
    (repeat first | refine uA ?_ | (apply S.exit; exact rfl) | (refine uK ?_ ?_; focus first | omega | trivial | exact id | (intros; simp_all <;> omega)) | simp (disch := omega) only [go_sem, Nat.reduceBEq, Nat.reduceAdd, Nat.reduceLeDiff, Int.reduceToNat, Int.reducePow, ww, List.length_map])
    refine S.cond rfl (fun hc => by simp only [decide_eq_true_eq] at hc; omega) (fun hc => ?_)
    (repeat first | refine uA ?_ | (apply S.exit; exact rfl) | (refine uK ?_ ?_; focus first | omega | trivial | exact id | (intros; simp_all <;> omega)) | simp (disch := omega) only [go_sem, Nat.reduceBEq, Nat.reduceAdd, Nat.reduceLeDiff, Int.reduceToNat, Int.reducePow, ww, List.length_map] | (refine uD hz ?_ ?_ ?_; exact tz hw; exact rfl))
    refine S.loop (X := Nat) (fun i => ⟨[(2, ints p), (3, .bp 0 0), (4, .bp 1 0), (7, .bp 2 0), (10, .v (.int .i64 ((B i).1 : Int))), (11, .bp 3 0), (40, ints slots.length), (41, ints i)], [.box 31 [ams arms, wls walls, pts parts, sls slots, gts gates, .v (.bool walk.neg), sb walk.num, sb walk.den], .box 37 [ints tick, E5 sarms, frs sparts, vts people, bls sgates], .box 29 [.v (.bool false), .v (.string ⟨#[]⟩), .v (.string ⟨#[]⟩)], .box 29 (rcs (Nm.ofQ (B i).2))]⟩) (fun i => i <= slots.length) (fun i => slots.length - i) 0 (Nat.zero_le _) (by simp only [hb0, rcs, sb]; exact (by (repeat first | refine uA ?_ | (refine ⟨?_, ?_⟩; focus first | rfl | trivial | (simp [slot]; done)) | rfl | trivial | simp))) ?_
    intro i hi
    simp only [ams, wls, pts, sls, gts, E5, frs, vts, bls, rcs, sb, ints] at hi ⊢
    (repeat first | refine uA ?_ | (apply S.exit; exact rfl) | (refine uK ?_ ?_; focus first | omega | trivial | exact id | (intros; simp_all <;> omega)) | simp (disch := omega) only [go_sem, Nat.reduceBEq, Nat.reduceAdd, Nat.reduceLeDiff, Int.reduceToNat, Int.reducePow, ww])
    (refine uJ rfl (fun hc => ?_) fun hc => ?_)
    ·have hi' : i < slots.length := by omega
     have o1 := hof' i hi'
     have o2 := hcm i hi'
     have s1 := hsu i
     have s2 := hbl i
     clear hof' hcm hsu hbl
     generalize hb1 : B (i + 1) = b1 at *
     generalize B i = b0 at *
     generalize Nm.A9 (o i) b0.2 = c at *
     generalize hoi : o i = oi at *
     generalize hN : Nm.ofQ oi = N at *
     generalize hM : Nm.ofQ b0.2 = M at *
     (repeat first | refine uA ?_ | (apply S.exit; exact rfl) | (refine uK ?_ ?_; focus first | omega | trivial | exact id | (intros; simp_all <;> omega)) | simp (disch := omega) only [go_sem, Nat.reduceBEq, Nat.reduceAdd, Nat.reduceLeDiff, Int.reduceToNat, Int.reducePow, ww] | (refine uD o1 ?_ ?_ ?_; exact tz hw; exact rfl))
     refine S.cond rfl (fun hc => by simp at hc) (fun hc => ?_)
     (repeat first | refine uA ?_ | (apply S.exit; exact rfl) | (refine uK ?_ ?_; focus first | omega | trivial | exact id | (intros; simp_all <;> omega)) | simp (disch := omega) only [go_sem, Nat.reduceBEq, Nat.reduceAdd, Nat.reduceLeDiff, Int.reduceToNat, Int.reducePow, ww] | (refine uD o2 ?_ ?_ ?_; exact tz hw; exact rfl))
     refine S.cond rfl (fun hc2 => ?_) (fun hc2 => ?_)
     ·rw [if_pos (by simp only [Bool.or_eq_true, decide_eq_true_eq] at hc2; omega)] at s1
      (repeat first | refine uA ?_ | (apply S.exit; exact rfl) | (refine uK ?_ ?_; focus first | omega | trivial | exact id | (intros; simp_all <;> omega)) | simp (disch := omega) only [go_sem, Nat.reduceBEq, Nat.reduceAdd, Nat.reduceLeDiff, Int.reduceToNat, Int.reducePow, ww])
      refine S.next (i + 1) (by omega) (by omega) (by simp only [hb1, s1, hN, rcs, sb]; exact (by (repeat first | refine uA ?_ | (refine ⟨?_, ?_⟩; focus first | rfl | trivial | (simp [slot]; done)) | rfl | trivial | simp)))
     ·rw [if_neg (by simp only [Bool.or_eq_false_iff, decide_eq_false_iff_not] at hc2; omega)] at s1
      (repeat first | refine uA ?_ | (apply S.exit; exact rfl) | (refine uK ?_ ?_; focus first | omega | trivial | exact id | (intros; simp_all <;> omega)) | simp (disch := omega) only [go_sem, Nat.reduceBEq, Nat.reduceAdd, Nat.reduceLeDiff, Int.reduceToNat, Int.reducePow, ww])
      refine S.next (i + 1) (by omega) (by omega) (by simp only [hb1, s1, hM, rcs, sb]; exact (by (repeat first | refine uA ?_ | (refine ⟨?_, ?_⟩; focus first | rfl | trivial | (simp [slot]; done)) | rfl | trivial | simp)))
    ·have hi' : i = slots.length := by omega
     subst hi'
     (repeat first | refine uA ?_ | (apply S.exit; exact rfl) | (refine uK ?_ ?_; focus first | omega | trivial | exact id | (intros; simp_all <;> omega)) | simp (disch := omega) only [go_sem, Nat.reduceBEq, Nat.reduceAdd, Nat.reduceLeDiff, Int.reduceToNat, Int.reducePow, ww])
     (refine S.done ?_; simp only [x9, p9, go_sem, Nat.reduceBEq, Nat.reduceAdd, Nat.reduceLeDiff, Int.reduceToNat, Int.reducePow]; (repeat (refine ⟨?_, ?_⟩; focus first | trivial | omega | simp)); exact d9.out rfl (Imp.refl rfl) rfl)
 ·rw [if_pos hst] at hE
  rw [hE, hzf _ hst, hzr _ hst, a3d]
  clear hof hE hzf hzr
  generalize I6 w s = e at *
  obtain ⟨arms, walls, parts, slots, gates, walk⟩ := w
  obtain ⟨tick, sarms, sparts, people, sgates⟩ := s
  simp only [a0E, l5, TT, II, OA, OB, OC, MM, LL, VV, FF, MG, LG, VG, FG]
  simp only [Wk.c, Wk.enc, Stt.c, Stt.enc, ams, wls, pts, sls, gts, E5, frs, vts, bls, rc, sb, ints] at hck ⊢
  (repeat first | refine uA ?_ | (apply S.exit; exact rfl) | (refine uK ?_ ?_; focus first | omega | trivial | exact id | (intros; simp_all <;> omega)) | simp (disch := omega) only [go_sem, Nat.reduceBEq, Nat.reduceAdd, Nat.reduceLeDiff, Int.reduceToNat, Int.reducePow, ww] | (refine uD hck ?_ ?_ ?_; exact tz hw; exact rfl))
  refine S.cond rfl (fun hc => ?_) (fun hc => by simp at hc; exact absurd hc hst)
  (repeat first | refine uA ?_ | (apply S.exit; exact rfl) | (refine uK ?_ ?_; focus first | omega | trivial | exact id | (intros; simp_all <;> omega)) | simp (disch := omega) only [go_sem, Nat.reduceBEq, Nat.reduceAdd, Nat.reduceLeDiff, Int.reduceToNat, Int.reducePow, ww])
  (refine S.done ?_; simp only [x9, p9, go_sem, Nat.reduceBEq, Nat.reduceAdd, Nat.reduceLeDiff, Int.reduceToNat, Int.reducePow]; (repeat (refine ⟨?_, ?_⟩; focus first | trivial | omega | simp)); exact d9.out rfl (Imp.refl rfl) rfl)
open Go Eng
def a5N : l9 := ⟨26, [.tmp 4], .seq (.reg [OA 2 (.box 55 (TT 0)), OA 4 (.mv (.const (.slice none 0 0)))]) (.seq (.reg [MM 8 1, OA 9 (.len false (TT 8)), OA 10 (.Z8 51 80 [.bool false, .string ⟨#[]⟩, .string ⟨#[]⟩, .bool false, .string ⟨#[]⟩,
 .string ⟨#[]⟩] (TT 9) (TT 9)), MM 5 10]) (.seq (.seq (.reg [MM 11 1, OA 12 (.len false (TT 11)), OA 13 (.mv (II 0))]) (.block 0 (.loop (.seq (.reg [OA 14 (.bin .lss (TT 13) (TT 12))]) (.seq (.cond (TT 14) .skip (.exit 0)) (.seq
 (.block 1 (.seq (.reg [MM 15 13, OA 16 (.j4 6 (TT 11) (TT 13)), LL 17 6 16, OA 7 (.alloc 51 [.bool false, .string ⟨#[]⟩, .string ⟨#[]⟩, .bool false, .string ⟨#[]⟩, .string ⟨#[]⟩]), MM 6 15, OB (.store 6 (TT 7) (TT 17))])
 (.reg [MM 18 5, MM 19 6, LL 20 10 2, LL 21 6 7, OA 22 (.call 73 [TT 20, TT 21]), OA 23 (.j4 6 (TT 18) (TT 19)), OB (.store 6 (TT 23) (TT 22))]))) (.reg [OA 24 (.bin .add (TT 13) (II 1)), MM 13 24]))))))) (.seq (.reg [MM 25 5,
 MM 4 25]) .ret)))⟩
theorem b1B : j6 eff Tryz.prog Tryz.f157 = some a5N := by kernel_rfl
theorem b1u : Tryz.prog.funcs[157]? = some Tryz.f157 := Tryz.func157
def a4b : l9 := ⟨84, [.cell 8 true 3], .seq (.reg [OA 4 (.box 31 (TT 0)), OA 5 (.box 37 (TT 1)), OA 8 (.alloc 29 [.bool false, .string ⟨#[]⟩, .string ⟨#[]⟩])]) (.seq (.reg [OA 15 (.call 71 [II 0]), OA 9 (.alloc 29 [.bool false, .string ⟨#[]⟩,
 .string ⟨#[]⟩]), OB (.store 3 (TT 9) (TT 15))]) (.seq (.C9 [.q, .q, .q, .q, .q, .q, .q, .q, .q, .q, .q, .q, .q, .q, .q, .q, .q, .q, .q, .q, .q, .q, .q, .q, .q, .q, .q] [FF 16 2 5, VV 17 16, MM 18 2, OA 19 (.j4 10 (TT 17)
 (TT 18)), LL 20 10 19, FF 21 2 4, VV 22 21, MM 23 2, OA 24 (.j4 12 (TT 22) (TT 23)), FF 25 1 24, VV 26 25, OA 27 (.call 157 [TT 20, TT 26]), FF 28 3 4, VV 29 28, MM 30 3, OA 31 (.j4 14 (TT 29) (TT 30)), FF 32 1 31, LL 33
 10 32, FF 34 2 4, VV 35 34, MM 36 2, OA 37 (.j4 12 (TT 35) (TT 36)), FF 38 1 37, VV 39 38, OA 40 (.call 157 [TT 33, TT 39]), MM 10 27, MM 11 40]) (.seq (.seq (.reg [MM 41 10, OA 42 (.len false (TT 41)), OA 43 (.mv (II 0))])
 (.block 0 (.loop (.seq (.reg [OA 44 (.bin .lss (TT 43) (TT 42))]) (.seq (.cond (TT 44) .skip (.exit 0)) (.seq (.block 1 (.seq (.reg [MM 45 43, MM 12 45]) (.seq (.C9 [.q, .q, .q, .q, .q, .q, .q, .q, .q, .q, .q, .q, .q, .q, .q,
 .q, .q, .q, .q, .q, .q, .q, .q, .q, .q] [MM 46 10, MM 47 12, OA 48 (.j4 6 (TT 46) (TT 47)), FF 49 0 48, LL 50 3 49, MM 51 11, MM 52 12, OA 53 (.j4 6 (TT 51) (TT 52)), FF 54 0 53, LL 55 3 54, OA 56 (.call 158 [TT 50, TT
 55]), MM 57 10, MM 58 12, OA 59 (.j4 6 (TT 57) (TT 58)), FF 60 3 59, LL 61 3 60, MM 62 11, MM 63 12, OA 64 (.j4 6 (TT 62) (TT 63)), FF 65 3 64, LL 66 3 65, OA 67 (.call 158 [TT 61, TT 66]), OA 68 (.bsl 29 3 2 [.bool false,
 .string ⟨#[]⟩, .string ⟨#[]⟩] [(0, TT 56), (1, TT 67)]), OA 69 (.len false (TT 68)), OA 70 (.mv (II 0))]) (.block 2 (.loop (.seq (.reg [OA 71 (.bin .lss (TT 70) (TT 69))]) (.seq (.cond (TT 71) .skip (.exit 2)) (.seq (.block 3
 (.seq (.reg [OA 72 (.j4 3 (TT 68) (TT 70)), LL 73 3 72, OA 14 (.alloc 29 [.bool false, .string ⟨#[]⟩, .string ⟨#[]⟩]), OB (.store 3 (TT 14) (TT 73))]) (.seq (.C9 [.q, .q, .q, .q, .q] [LL 74 3 14, OA 75 (.call 75 [TT 74]),
 LL 76 3 9, OA 77 (.call 52 [TT 75, TT 76]), OA 78 (.bin .gtr (TT 77) (II 0))]) (.cond (TT 78) (.reg [LL 79 3 14, OA 80 (.call 75 [TT 79]), OB (.store 3 (TT 9) (TT 80))]) .skip)))) (.reg [OA 81 (.bin .add (TT 70) (II 1)), MM 70
 81]))))))))) (.reg [OA 82 (.bin .add (TT 43) (II 1)), MM 43 82]))))))) (.seq (.reg [LL 83 3 9, OB (.store 3 (TT 8) (TT 83))]) .ret))))⟩
theorem a9I : j6 eff Tryz.prog Tryz.f53 = some a4b := by kernel_rfl
theorem a9Q : Tryz.prog.funcs[53]? = some Tryz.f53 := Tryz.func53
set_option maxHeartbeats 8000000
def a2a (f : Fr) (c : Vt) : List C := Vt.enc ⟨Nm.ofQ (Z9 f c), Nm.ofQ (Z6 f c)⟩
def z6 : List C := [.v (.bool false), .v (.string ⟨#[]⟩), .v (.string ⟨#[]⟩), .v (.bool false), .v (.string ⟨#[]⟩), .v (.string ⟨#[]⟩)]
theorem set_mid {α : Type} (f : α -> List C) (z : List C) {l : List α} {i : Nat} {x : α} (h : l[i]? = some x) : ((l.take i).map f ++ List.replicate (l.length - i) z).set i (f x) = (l.take (i + 1)).map f ++ List.replicate (l.length - (i + 1)) z := by
 have hi := (List.getElem?_eq_some_iff.1 h).1
 have hl : ((l.take i).map f).length = i := by simp; omega
 rw [List.set_append_right _ _ (by omega), hl, Nat.sub_self, show l.length - i = (l.length - (i + 1)) + 1 by omega, List.replicate_succ, List.set_cons_zero, List.take_succ, h]
 simp
theorem b5d (f : Fr) (l : List Vt) (hf : Fb 1048576 f) (hl : l.length <= 1048576) (hb : ∀ v ∈ l, Vb 1048576 v) : FZ 157 [f.c, vts l] (.sl 6 (l.map (a2a f))) := by
 refine l8.of b1u b1B (by exact Nat.le_of_ble_eq_true rfl) fun w' O hw => ?_
 have hput := fun c hc => b5K f c hf.1 hf.2.1 hf.2.2 (hb c hc).1 (hb c hc).2
 have hpe : ∀ c, a2a f c = [.v (.bool (Nm.ofQ (Z9 f c)).neg), sb (Nm.ofQ (Z9 f c)).num, sb (Nm.ofQ (Z9 f c)).den, .v (.bool (Nm.ofQ (Z6 f c)).neg), sb (Nm.ofQ (Z6 f c)).num, sb (Nm.ofQ (Z6 f c)).den] := fun _ => rfl
 unfold vq at hput
 obtain ⟨fx, fy, fh, ft⟩ := f
 simp only [a5N, l5, TT, II, OA, OB, OC, MM, LL, VV, FF, MG, LG, VG, FG]
 simp only [Fr.c, Fr.enc, vts, sb] at hput ⊢
 (repeat first | refine uA ?_ | (apply S.exit; exact rfl) | (refine uK ?_ ?_; focus first | omega | trivial | exact id | (intros; simp_all <;> omega)) | simp (disch := omega) only [go_sem, Nat.reduceBEq, Nat.reduceAdd, Nat.reduceLeDiff, Int.reduceToNat, Int.reducePow, ww, List.length_map, Int.toNat_natCast])
 refine S.loop (X := Nat) (fun i => ⟨[(2, .bp 0 0), (5, .rv 1), (11, vts l), (12, ints l.length), (13, ints i)], [.box 55 (Fr.enc ⟨fx, fy, fh, ft⟩), .row 51 6 ((l.take i).map (a2a ⟨fx, fy, fh, ft⟩) ++ List.replicate (l.length - i) z6)]⟩) (fun i => i <= l.length) (fun i => l.length - i) 0 (Nat.zero_le _) (by simp only [List.take_zero, List.map_nil, List.nil_append, Nat.sub_zero, vts, Fr.enc, sb, z6]; exact (by (repeat first | refine uA ?_ | (refine ⟨?_, ?_⟩; focus first | rfl | trivial | (simp [slot]; done)) | rfl | trivial | simp))) ?_
 intro i hi
 have hrl : ((l.take i).map (a2a ⟨fx, fy, fh, ft⟩) ++ List.replicate (l.length - i) z6).length = l.length := by simp; omega
 simp only [vts, Fr.enc, sb, ints] at hi ⊢
 (repeat first | refine uA ?_ | (apply S.exit; exact rfl) | (refine uK ?_ ?_; focus first | omega | trivial | exact id | (intros; simp_all <;> omega)) | simp (disch := omega) only [go_sem, Nat.reduceBEq, Nat.reduceAdd, Nat.reduceLeDiff, Int.reduceToNat, Int.reducePow, ww])
 (refine uJ rfl (fun hc => ?_) fun hc => ?_)
 ·have hgi := List.getElem?_eq_getElem (show i < l.length by omega)
  generalize l[i]'_ = c at hgi
  have o1 := hput c (List.mem_of_getElem? hgi)
  have hse := set_mid (a2a ⟨fx, fy, fh, ft⟩) z6 hgi
  have hz : ((l.take i).map (a2a ⟨fx, fy, fh, ft⟩) ++ List.replicate (l.length - i) z6)[i]? = some z6 := by
   rw [List.getElem?_append_right (by rw [List.length_map, List.length_take]; omega), List.length_map, List.length_take, show min i l.length = i by omega, Nat.sub_self, List.getElem?_replicate]
   rw [if_pos (by omega)]
  generalize (l.take i).map (a2a ⟨fx, fy, fh, ft⟩) ++ List.replicate (l.length - i) z6 = R at *
  generalize hR : (l.take (i + 1)).map (a2a ⟨fx, fy, fh, ft⟩) ++ List.replicate (l.length - (i + 1)) z6 = R' at *
  rw [hpe] at hse
  generalize Nm.ofQ (Z9 ⟨fx, fy, fh, ft⟩ c) = n1 at *
  generalize Nm.ofQ (Z6 ⟨fx, fy, fh, ft⟩ c) = n2 at *
  simp only [Vt.c, Vt.enc, vc, sb, z6] at o1 hse hz
  (repeat first | refine uA ?_ | (apply S.exit; exact rfl) | (refine uK ?_ ?_; focus first | omega | trivial | exact id | (intros; simp_all <;> omega)) | simp (disch := omega) only [go_sem, Nat.reduceBEq, Nat.reduceAdd, Nat.reduceLeDiff, Int.reduceToNat, Int.reducePow, ww, hgi, Option.map_some, List.length_map, Vt.enc, sb, Int.toNat_natCast, hrl, hz] | (refine uD o1 ?_ ?_ ?_; exact tz hw; exact rfl))
  refine S.next (i + 1) (by omega) (by omega) (by simp only [hR, <- hse, vts, Fr.enc, sb]; exact (by (repeat first | refine uA ?_ | (refine ⟨?_, ?_⟩; focus first | rfl | trivial | (simp [slot]; done)) | rfl | trivial | simp)))
 ·have hi' : i = l.length := by omega
  subst hi'
  simp only [List.take_length, Nat.sub_self, List.replicate_zero, List.append_nil]
  (repeat first | refine uA ?_ | (apply S.exit; exact rfl) | (refine uK ?_ ?_; focus first | omega | trivial | exact id | (intros; simp_all <;> omega)) | simp (disch := omega) only [go_sem, Nat.reduceBEq, Nat.reduceAdd, Nat.reduceLeDiff, Int.reduceToNat, Int.reducePow, ww])
  exact S.done (d9.out rfl (Imp.frz rfl rfl rfl) rfl)
theorem b7n (a b c : Rat) : R7 (R7 a b) c = R7 a (R7 b c) := by
 simp only [b5G]
 split <;> split <;> (try split) <;> (try split) <;> grind
theorem b8n (w : Wk) (s : Stt) (p q : Nat) (hwb : Wb 1048576 w) (hs : Stb 1048576 s) (h1 : p < w.parts.length) (h2 : q < w.slots.length) (h3 : p < s.parts.length) :
  FZ 53 [w.c, s.c, .v (.int .i64 (p : Int)), .v (.int .i64 (q : Int))] (rq (N8 w s p q)) := by
 refine l8.of a9Q a9I (by exact Nat.le_of_ble_eq_true rfl) fun w' O hw => ?_
 have gp := List.getElem?_eq_getElem h1
 have gs := List.getElem?_eq_getElem h2
 have gf := List.getElem?_eq_getElem h3
 have e : N8 w s p q = a1t (s.parts[p]'h3) (w.slots[q]'h2).frame (w.parts[p]'h1).shape := by
  unfold N8
  rw [List.getD_eq_getElem?_getD, List.getD_eq_getElem?_getD, List.getD_eq_getElem?_getD, gp, gs, gf]
  rfl
 rw [e]
 clear e
 generalize w.parts[p]'(_) = pt at gp
 generalize w.slots[q]'(_) = sl at gs
 generalize s.parts[p]'(_) = f at gf
 have bp := hwb.parts.2 pt (List.mem_of_getElem? gp)
 have bs' := hwb.slots.2 sl (List.mem_of_getElem? gs)
 have bf := hs.parts.2 f (List.mem_of_getElem? gf)
 have hz := a5x 0 (by decide) (by decide)
 rw [show ((0 : Int) : Rat) = 0 from rfl] at hz
 have n1 := hwb.parts.1
 have n2 := hwb.slots.1
 have n3 := hs.parts.1
 obtain ⟨pn, shape, grasp⟩ := pt
 obtain ⟨sn, g, within⟩ := sl
 obtain ⟨arms, walls, parts, slots, gates, walk⟩ := w
 obtain ⟨tick, sarms, sparts, people, sgates⟩ := s
 simp only at gp gs gf bp bs' h1 h2 h3 n1 n2 n3 ⊢
 obtain ⟨_, ⟨hn, hb⟩, _⟩ := bp
 obtain ⟨_, bg, _⟩ := bs'
 simp only at hn hb bg
 have l1 := b5d f shape bf hn hb
 have l2 := b5d g shape bg hn hb
 have hrp := fun c hc => a5d (k := 1048576) (by decide) bf (hb c hc)
 have hrg := fun c hc => a5d (k := 1048576) (by decide) bg (hb c hc)
 have hrq := fun i => b2c (k := 1048576) (by decide) bf bg (shape.take i) (fun c hc => hb c (List.mem_of_mem_take hc))
 have hoc : ∀ c, a6z f g c = R7 (J5 (Z9 f c - Z9 g c)) (J5 (Z6 f c - Z6 g c)) := fun _ => rfl
 have hq0 : a1t f g (shape.take 0) = 0 := rfl
 have hpe : ∀ f c, a2a f c = [.v (.bool (Nm.ofQ (Z9 f c)).neg), sb (Nm.ofQ (Z9 f c)).num, sb (Nm.ofQ (Z9 f c)).den, .v (.bool (Nm.ofQ (Z6 f c)).neg), sb (Nm.ofQ (Z6 f c)).num, sb (Nm.ofQ (Z6 f c)).den] := fun _ _ => rfl
 obtain ⟨fx, fy, fh, ft⟩ := f
 obtain ⟨gx, gy, gh, gt⟩ := g
 simp only [a4b, l5, TT, II, OA, OB, OC, MM, LL, VV, FF, MG, LG, VG, FG]
 simp only [Wk.c, Wk.enc, Stt.c, Stt.enc, ams, wls, pts, sls, gts, E5, frs, vts, bls, rq, rc, Fr.c, Fr.enc, sb, ints] at hz l1 l2 ⊢
 (repeat first | refine uA ?_ | (apply S.exit; exact rfl) | (refine uK ?_ ?_; focus first | omega | trivial | exact id | (intros; simp_all <;> omega)) | simp (disch := omega) only [go_sem, Nat.reduceBEq, Nat.reduceAdd, Nat.reduceLeDiff, Int.reduceToNat, Int.reducePow, ww, List.length_map, gp, gs, gf, Option.map_some, Pt.enc, Sl.enc, Fr.enc, vts, sb, Int.toNat_natCast] | (refine uD hz ?_ ?_ ?_; exact tz hw; exact rfl) | (refine uD l1 ?_ ?_ ?_; exact tz hw; exact rfl) | (refine uD l2 ?_ ?_ ?_; exact tz hw; exact rfl))
 refine S.loop (X := Nat) (fun i => ⟨[(8, .bp 2 0), (9, .bp 3 0), (10, .sl 6 (shape.map (a2a ⟨fx, fy, fh, ft⟩))), (11, .sl 6 (shape.map (a2a ⟨gx, gy, gh, gt⟩))), (42, ints shape.length), (43, ints i)], [.gone, .gone, .box 29 [.v (.bool false), .v (.string ⟨#[]⟩), .v (.string ⟨#[]⟩)], .box 29 (rcs (Nm.ofQ (a1t ⟨fx, fy, fh, ft⟩ ⟨gx, gy, gh, gt⟩ (shape.take i))))]⟩) (fun i => i <= shape.length) (fun i => shape.length - i) 0 (Nat.zero_le _) (by simp only [hq0, rcs, sb]; exact (by (repeat first | refine uA ?_ | (refine ⟨?_, ?_⟩; focus first | rfl | trivial | (simp [slot]; done)) | rfl | trivial | simp))) ?_
 intro i hi
 simp only [rcs, sb, ints] at hi ⊢
 (repeat first | refine uA ?_ | (apply S.exit; exact rfl) | (refine uK ?_ ?_; focus first | omega | trivial | exact id | (intros; simp_all <;> omega)) | simp (disch := omega) only [go_sem, Nat.reduceBEq, Nat.reduceAdd, Nat.reduceLeDiff, Int.reduceToNat, Int.reducePow, ww])
 (refine uJ rfl (fun hc => ?_) fun hc => ?_)
 ·have hi' : i < shape.length := by omega
  have hgi := List.getElem?_eq_getElem hi'
  generalize shape[i] = c at hgi
  have hc' := List.mem_of_getElem? hgi
  have hsu := b0N ⟨fx, fy, fh, ft⟩ ⟨gx, gy, gh, gt⟩ hgi
  obtain ⟨r1, r2⟩ := hrp c hc'
  obtain ⟨r3, r4⟩ := hrg c hc'
  have r6 := hrq i
  have e := hoc c
  have p1 := hpe ⟨fx, fy, fh, ft⟩ c
  have p2 := hpe ⟨gx, gy, gh, gt⟩ c
  rw [e] at hsu
  clear hrp hrg hrq hoc hpe e
  generalize hacc : a1t ⟨fx, fy, fh, ft⟩ ⟨gx, gy, gh, gt⟩ (shape.take i) = acc at *
  generalize Z9 ⟨fx, fy, fh, ft⟩ c = a1 at *
  generalize Z6 ⟨fx, fy, fh, ft⟩ c = a2 at *
  generalize Z9 ⟨gx, gy, gh, gt⟩ c = b1 at *
  generalize Z6 ⟨gx, gy, gh, gt⟩ c = b2 at *
  have o1 := a4Y (Nm.ofQ a1) (Nm.ofQ b1) (r1.mono (by decide)) (r3.mono (by decide))
  have o2 := a4Y (Nm.ofQ a2) (Nm.ofQ b2) (r2.mono (by decide)) (r4.mono (by decide))
  rw [Nm.F7, Nm.F7] at o1 o2
  have s1 := V9 r1 r3
  have s2 := V9 r2 r4
  have hds : ([a1 - b1, a2 - b2] : List Rat).foldl (fun m d => R7 m (J5 d)) acc = a1t ⟨fx, fy, fh, ft⟩ ⟨gx, gy, gh, gt⟩ (shape.take (i + 1)) := by
   rw [hsu, <- b7n]; rfl
  generalize hdx : a1 - b1 = dx at *
  generalize hdy : a2 - b2 = dy at *
  unfold rq at o1 o2
  have hrow : ∀ d ∈ ([dx, dy] : List Rat), Rb 23068749 (Nm.ofQ d) := fun d hd => by
   simp at hd
   rcases hd with rfl | rfl
   ·exact s1.mono (by decide)
   ·exact s2.mono (by decide)
  generalize hD : ([dx, dy] : List Rat) = D at *
  have hDl : D.length = 2 := by rw [<- hD]; rfl
  have hDm : [[C.v (.bool (Nm.ofQ dx).neg), C.v (.string (bs (Nm.ofQ dx).num)), C.v (.string (bs (Nm.ofQ dx).den))], [C.v (.bool (Nm.ofQ dy).neg), C.v (.string (bs (Nm.ofQ dy).num)), C.v (.string (bs (Nm.ofQ dy).den))]] = D.map fun d => rcs (Nm.ofQ d) := by rw [<- hD]; rfl
  have hru : ∀ j, Rb 23068749 (Nm.ofQ ((D.take j).foldl (fun m d => R7 m (J5 d)) acc)) := fun j => by
   have : ∀ (L : List Rat) (m : Rat), (∀ d ∈ L, Rb 23068749 (Nm.ofQ d)) -> Rb 23068749 (Nm.ofQ m) -> Rb 23068749 (Nm.ofQ (L.foldl (fun m d => R7 m (J5 d)) m)) := by
    intro L
    induction L with
    | nil => intro m _ h; exact h
    | cons d L ih =>
     intro m hL h
     exact ih _ (fun x hx => hL x (by simp [hx])) (b0f h (a3a (hL d (by simp))))
   exact this _ _ (fun d hd => hrow d (List.mem_of_mem_take hd)) (r6.mono (by decide))
  simp only [rc, sb] at o1 o2 p1 p2
  (repeat first | refine uA ?_ | (apply S.exit; exact rfl) | (refine uK ?_ ?_; focus first | omega | trivial | exact id | (intros; simp_all <;> omega)) | simp (disch := omega) only [go_sem, Nat.reduceBEq, Nat.reduceAdd, Nat.reduceLeDiff, Int.reduceToNat, Int.reducePow, ww, hgi, Option.map_some, List.length_map, p1, p2, Int.toNat_natCast] | (refine uD o1 ?_ ?_ ?_; exact tz hw; exact rfl) | (refine uD o2 ?_ ?_ ?_; exact tz hw; exact rfl))
  simp only [hDm]
  refine S.loop (X := Nat) (fun j => ⟨[(8, .bp 2 0), (9, .bp 3 0), (10, .sl 6 (shape.map (a2a ⟨fx, fy, fh, ft⟩))), (11, .sl 6 (shape.map (a2a ⟨gx, gy, gh, gt⟩))), (42, ints shape.length), (43, ints i), (68, .sl 3 (D.map fun d => rcs (Nm.ofQ d))), (69, ints 2), (70, ints j)], [.gone, .gone, .box 29 [.v (.bool false), .v (.string ⟨#[]⟩), .v (.string ⟨#[]⟩)], .box 29 (rcs (Nm.ofQ ((D.take j).foldl (fun m d => R7 m (J5 d)) acc)))]⟩) (fun j => j <= 2) (fun j => 2 - j) 0 (Nat.zero_le _) (by simp only [List.take_zero, List.foldl_nil, rcs, sb]; exact (by (repeat first | refine uA ?_ | (refine ⟨?_, ?_⟩; focus first | rfl | trivial | (simp [slot]; done)) | rfl | trivial | simp))) ?_
  intro j hj
  simp only [rcs, sb, ints] at hj ⊢
  (repeat first | refine uA ?_ | (apply S.exit; exact rfl) | (refine uK ?_ ?_; focus first | omega | trivial | exact id | (intros; simp_all <;> omega)) | simp (disch := omega) only [go_sem, Nat.reduceBEq, Nat.reduceAdd, Nat.reduceLeDiff, Int.reduceToNat, Int.reducePow, ww])
  (refine uJ rfl (fun hc => ?_) fun hc => ?_)
  ·have hgj := List.getElem?_eq_getElem (show j < D.length by omega)
   generalize D[j]'_ = d at hgj
   have hrd := hrow d (List.mem_of_getElem? hgj)
   have hst : (D.take (j + 1)).foldl (fun m d => R7 m (J5 d)) acc = R7 ((D.take j).foldl (fun m d => R7 m (J5 d)) acc) (J5 d) := by
    rw [List.take_succ, hgj]; simp
   have hrj := hru j
   generalize hm1 : (D.take (j + 1)).foldl (fun m d => R7 m (J5 d)) acc = m' at *
   generalize hm0 : (D.take j).foldl (fun m d => R7 m (J5 d)) acc = m at *
   have t1 := a9d (Nm.ofQ d) (hrd.mono (by decide))
   rw [Nm.F7, <- a7n] at t1
   have t2 := Q8 (Nm.ofQ (J5 d)) (Nm.ofQ m) ((a3a hrd).mono (by decide)) (hrj.mono (by decide))
   rw [Nm.F7, Nm.F7] at t2
   have hcp := a4Q (J5 d) m
   rw [b5G] at hst
   generalize Nm.A9 (J5 d) m = cc at *
   generalize hab : J5 d = ab at *
   have hnm : Nm.ofQ m' = if 0 < cc then Nm.ofQ ab else Nm.ofQ m := by
    rw [hst]
    by_cases h : m < ab
    ·rw [if_pos h, if_pos (hcp.2 h)]
    ·rw [if_neg h, if_neg (fun h2 => h (hcp.1 h2))]
   generalize hMM : Nm.ofQ m' = M' at *
   generalize Nm.ofQ ab = A at *
   generalize Nm.ofQ m = M at *
   have hjd : (j : Int) < 2 := by omega
   simp only [rc, sb, ints] at t1 t2
   (repeat first | refine uA ?_ | (apply S.exit; exact rfl) | (refine uK ?_ ?_; focus first | omega | trivial | exact id | (intros; simp_all <;> omega)) | simp (disch := omega) only [go_sem, Nat.reduceBEq, Nat.reduceAdd, Nat.reduceLeDiff, Int.reduceToNat, Int.reducePow, ww, hgj, Option.map_some, List.length_map, hDl, rcs, sb, Int.toNat_natCast] | (refine uD t1 ?_ ?_ ?_; exact tz hw; exact rfl) | (refine uD t2 ?_ ?_ ?_; exact tz hw; exact rfl))
   refine S.cond rfl (fun hc2 => ?_) (fun hc2 => ?_)
   ·rw [if_pos (by simpa using hc2)] at hnm
    (repeat first | refine uA ?_ | (apply S.exit; exact rfl) | (refine uK ?_ ?_; focus first | omega | trivial | exact id | (intros; simp_all <;> omega)) | simp (disch := omega) only [go_sem, Nat.reduceBEq, Nat.reduceAdd, Nat.reduceLeDiff, Int.reduceToNat, Int.reducePow, ww] | (refine uD t1 ?_ ?_ ?_; exact tz hw; exact rfl))
    refine S.next (j + 1) (by omega) (by omega) (by simp only [hm1, hMM]; subst hnm; exact (by (repeat first | refine uA ?_ | (refine ⟨?_, ?_⟩; focus first | rfl | trivial | (simp [slot]; done)) | rfl | trivial | simp)))
   ·rw [if_neg (by simpa using hc2)] at hnm
    (repeat first | refine uA ?_ | (apply S.exit; exact rfl) | (refine uK ?_ ?_; focus first | omega | trivial | exact id | (intros; simp_all <;> omega)) | simp (disch := omega) only [go_sem, Nat.reduceBEq, Nat.reduceAdd, Nat.reduceLeDiff, Int.reduceToNat, Int.reducePow, ww])
    refine S.next (j + 1) (by omega) (by omega) (by simp only [hm1, hMM]; subst hnm; exact (by (repeat first | refine uA ?_ | (refine ⟨?_, ?_⟩; focus first | rfl | trivial | (simp [slot]; done)) | rfl | trivial | simp)))
  ·have hj' : j = 2 := by omega
   subst hj'
   rw [List.take_of_length_le (by omega), hds]
   (repeat first | refine uA ?_ | (apply S.exit; exact rfl) | (refine uK ?_ ?_; focus first | omega | trivial | exact id | (intros; simp_all <;> omega)) | simp (disch := omega) only [go_sem, Nat.reduceBEq, Nat.reduceAdd, Nat.reduceLeDiff, Int.reduceToNat, Int.reducePow, ww])
   refine S.next (i + 1) (by omega) (by omega) (by (repeat first | refine uA ?_ | (refine ⟨?_, ?_⟩; focus first | rfl | trivial | (simp [slot]; done)) | rfl | trivial | simp))
 ·have hi' : i = shape.length := by omega
  subst hi'
  rw [List.take_length]
  (repeat first | refine uA ?_ | (apply S.exit; exact rfl) | (refine uK ?_ ?_; focus first | omega | trivial | exact id | (intros; simp_all <;> omega)) | simp (disch := omega) only [go_sem, Nat.reduceBEq, Nat.reduceAdd, Nat.reduceLeDiff, Int.reduceToNat, Int.reducePow, ww])
  (refine S.done ?_; simp only [x9, p9, go_sem, Nat.reduceBEq, Nat.reduceAdd, Nat.reduceLeDiff, Int.reduceToNat, Int.reducePow]; (repeat (refine ⟨?_, ?_⟩; focus first | trivial | omega | simp)); exact d9.out rfl (Imp.refl rfl) rfl)
def wns (l : List (Int × Int)) : C := .sl 2 (l.map fun x => [ints x.1, ints x.2])
def a5F (w : Wk) (s : Stt) (l : List (Int × Int)) : Int := if I6 w s ≠ 0 then I6 w s else D6 (fun x => K9 w s x.1 x.2) l
def b2K (w : Wk) (s : Stt) (l : List (Int × Int)) : Bool := if a5F w s l ≠ 0 then false else l.all fun x => a1O w s x.1 x.2
theorem b3K {α : Type} {f : α -> Bool} {l : List α} {i : Nat} {x : α} (h : l[i]? = some x) : (l.take (i + 1)).all f = ((l.take i).all f && f x) := by
 rw [List.take_succ, h]; simp
theorem c2M (w : Wk) (s : Stt) (l : List (Int × Int)) (hwb : Wb 1048576 w) (hs : Stb 1048576 s) (hl : l.length <= 1048576) :
  FZ 48 [w.c, s.c, wns l] (.tup [.v (.bool (b2K w s l)), ints (a5F w s l)]) := by
 refine l8.of b4I b4j (by exact Nat.le_of_ble_eq_true rfl) fun w' O hw => ?_
 have hck := a8t w s (hwb.mono (by decide)) (hs.mono (by decide))
 have hin := fun p q => b9I w s p q hwb hs
 unfold b2K a5F
 generalize I6 w s = e at *
 generalize hdk : (fun x : Int × Int => K9 w s x.1 x.2) = dk at *
 generalize hdb : (fun x : Int × Int => a1O w s x.1 x.2) = db at *
 have hin : ∀ p q : Int, FZ 11 [w.c, s.c, ints p, ints q] (.tup [.v (.bool (db (p, q))), ints (dk (p, q))]) := fun p q => by rw [<- hdk, <- hdb]; exact hin p q
 clear hdk hdb
 obtain ⟨arms, walls, parts, slots, gates, walk⟩ := w
 obtain ⟨tick, sarms, sparts, people, sgates⟩ := s
 simp only [a7P, l5, TT, II, OA, OB, OC, MM, LL, VV, FF, MG, LG, VG, FG]
 simp only [Wk.c, Wk.enc, Stt.c, Stt.enc, ams, wls, pts, sls, gts, E5, frs, vts, bls, wns, sb, ints] at hck hin ⊢
 (repeat first | refine uA ?_ | (apply S.exit; exact rfl) | (refine uK ?_ ?_; focus first | omega | trivial | exact id | (intros; simp_all <;> omega)) | simp (disch := omega) only [go_sem, Nat.reduceBEq, Nat.reduceAdd, Nat.reduceLeDiff, Int.reduceToNat, Int.reducePow, ww] | (refine uD hck ?_ ?_ ?_; exact tz hw; exact rfl))
 refine S.cond rfl (fun hc => ?_) (fun hc => ?_)
 ·have h0 : e ≠ 0 := by simpa using hc
  rw [if_pos h0, if_pos h0]
  (repeat first | refine uA ?_ | (apply S.exit; exact rfl) | (refine uK ?_ ?_; focus first | omega | trivial | exact id | (intros; simp_all <;> omega)) | simp (disch := omega) only [go_sem, Nat.reduceBEq, Nat.reduceAdd, Nat.reduceLeDiff, Int.reduceToNat, Int.reducePow, ww])
  exact S.done (d9.out rfl (Imp.refl rfl) rfl)
 have h0 : ¬ e ≠ 0 := by simpa using hc
 rw [if_neg h0]
 generalize hfe : D6 dk l = fe
 (repeat first | refine uA ?_ | (apply S.exit; exact rfl) | (refine uK ?_ ?_; focus first | omega | trivial | exact id | (intros; simp_all <;> omega)) | simp (disch := omega) only [go_sem, Nat.reduceBEq, Nat.reduceAdd, Nat.reduceLeDiff, Int.reduceToNat, Int.reducePow, ww, List.length_map])
 refine S.loop (X := Nat) (fun i => ⟨[(3, .bp 0 0), (4, .bp 1 0), (9, .v (.bool ((l.take i).all db))), (20, wns l), (21, ints l.length), (22, ints i)], [.box 31 [ams arms, wls walls, pts parts, sls slots, gts gates, .v (.bool walk.neg), sb walk.num, sb walk.den], .box 37 [ints tick, E5 sarms, frs sparts, vts people, bls sgates]]⟩) (fun i => i <= l.length /\ fe = D6 dk (l.drop i)) (fun i => l.length - i) 0 ⟨Nat.zero_le _, hfe.symm⟩ (by simp only [List.take_zero, List.all_nil]; exact (by (repeat first | refine uA ?_ | (refine ⟨?_, ?_⟩; focus first | rfl | trivial | (simp [slot]; done)) | rfl | trivial | simp))) ?_
 rintro i ⟨hi, hg⟩
 simp only [ams, wls, pts, sls, gts, E5, frs, vts, bls, wns, sb, ints] at hi ⊢
 (repeat first | refine uA ?_ | (apply S.exit; exact rfl) | (refine uK ?_ ?_; focus first | omega | trivial | exact id | (intros; simp_all <;> omega)) | simp (disch := omega) only [go_sem, Nat.reduceBEq, Nat.reduceAdd, Nat.reduceLeDiff, Int.reduceToNat, Int.reducePow, ww])
 (refine uJ rfl (fun hc => ?_) fun hc => ?_)
 ·have hgi := List.getElem?_eq_getElem (show i < l.length by omega)
  generalize l[i]'_ = x at hgi
  have hst := P9 (f := dk) hgi
  have hnx := P8 (f := dk) hgi
  have hat := b3K (f := db) hgi
  obtain ⟨p, q⟩ := x
  have o1 := hin p q
  generalize dk (p, q) = d1 at *
  generalize db (p, q) = b1 at *
  generalize hta : (l.take (i + 1)).all db = ta1 at *
  generalize (l.take i).all db = ta0 at *
  (repeat first | refine uA ?_ | (apply S.exit; exact rfl) | (refine uK ?_ ?_; focus first | omega | trivial | exact id | (intros; simp_all <;> omega)) | simp (disch := omega) only [go_sem, Nat.reduceBEq, Nat.reduceAdd, Nat.reduceLeDiff, Int.reduceToNat, Int.reducePow, ww, hgi, Option.map_some, List.length_map, Int.toNat_natCast] | (refine uD o1 ?_ ?_ ?_; exact tz hw; exact rfl))
  refine S.cond rfl (fun hc2 => ?_) (fun hc2 => ?_)
  ·have h0 : d1 ≠ 0 := by simpa using hc2
   rw [hst h0] at hg
   subst hg
   rw [if_pos h0]
   (repeat first | refine uA ?_ | (apply S.exit; exact rfl) | (refine uK ?_ ?_; focus first | omega | trivial | exact id | (intros; simp_all <;> omega)) | simp (disch := omega) only [go_sem, Nat.reduceBEq, Nat.reduceAdd, Nat.reduceLeDiff, Int.reduceToNat, Int.reducePow, ww])
   exact S.done (d9.out rfl (Imp.refl rfl) rfl)
  ·have h0 : d1 = 0 := by simpa using hc2
   (repeat first | refine uA ?_ | (apply S.exit; exact rfl) | (refine uK ?_ ?_; focus first | omega | trivial | exact id | (intros; simp_all <;> omega)) | simp (disch := omega) only [go_sem, Nat.reduceBEq, Nat.reduceAdd, Nat.reduceLeDiff, Int.reduceToNat, Int.reducePow, ww])
   refine S.next (i + 1) ⟨by omega, by rw [hg]; exact hnx h0⟩ (by omega) (by simp only [hta, hat]; exact (by (repeat first | refine uA ?_ | (refine ⟨?_, ?_⟩; focus first | rfl | trivial | (simp [slot]; done)) | rfl | trivial | simp)))
 ·have hi' : i = l.length := by omega
  subst hi'
  rw [U2 (Nat.le_refl _)] at hg
  subst hg
  rw [List.take_length, if_neg (show ¬ (0 : Int) ≠ 0 by decide)]
  (repeat first | refine uA ?_ | (apply S.exit; exact rfl) | (refine uK ?_ ?_; focus first | omega | trivial | exact id | (intros; simp_all <;> omega)) | simp (disch := omega) only [go_sem, Nat.reduceBEq, Nat.reduceAdd, Nat.reduceLeDiff, Int.reduceToNat, Int.reducePow, ww])
  exact S.done (d9.out rfl (Imp.refl rfl) rfl)
def K8 : l9 := ⟨19, [.tmp 4], .seq (.reg [OA 4 (.mv (II 0))]) (.seq (.seq (.reg [MM 6 0, OA 7 (.len false (TT 6)), OA 8 (.mv (II 0))]) (.block 0 (.loop (.seq (.reg [OA 9 (.bin .lss (TT 8) (TT 7))]) (.seq (.cond (TT 9) .skip (.exit 0)) (.seq
 (.block 1 (.seq (.reg [MM 10 8, MM 5 10]) (.seq (.reg [MM 11 1, MM 12 0, MM 13 5, OA 14 (.j4 4 (TT 12) (TT 13)), LL 15 4 14, OA 16 (.G6 (TT 11) [TT 15])]) (.cond (TT 16) (.seq (.reg [MM 17 5, MM 4 17]) .ret) .skip))))
 (.reg [OA 18 (.bin .add (TT 8) (II 1)), MM 8 18]))))))) (.seq (.reg [OA 4 (.mv (II (-1)))]) .ret))⟩
theorem X8 : j6 eff Tryz.prog Tryz.f155 = some K8 := by kernel_rfl
theorem X9 : Tryz.prog.funcs[155]? = some Tryz.f155 := Tryz.func155
def J7 : l9 := ⟨9, [.tmp 4], .seq (.reg [OA 4 (.mv (.const (.bool false)))]) (.seq (.reg [MM 5 0, MM 6 1, OA 7 (.call 155 [TT 5, TT 6]), OA 8 (.bin .geq (TT 7) (II 0)), MM 4 8]) .ret)⟩
theorem U9 : j6 eff Tryz.prog Tryz.f50 = some J7 := by kernel_rfl
theorem V6 : Tryz.prog.funcs[50]? = some Tryz.f50 := Tryz.func50
def a0J : l9 := ⟨8, [.tmp 3], .seq (.reg [OA 2 (.box 90 (TT 0)), OA 3 (.mv (.const (.bool false)))]) (.seq (.reg [FF 4 3 2, VV 5 4, VV 6 1, OA 7 (.bin .eql (TT 5) (TT 6)), MM 3 7]) .ret)⟩
theorem a3q : j6 eff Tryz.prog Tryz.f51 = some a0J := by kernel_rfl
theorem a3F : Tryz.prog.funcs[51]? = some Tryz.f51 := Tryz.func51
def a1g : l9 := ⟨27, [.tmp 6], .seq (.reg [OA 4 (.box 3 (TT 0)), OA 6 (.mv (.const (.bool false)))]) (.seq (.C9 [.q, .q, .q, .q, .q, .q, .q, .q, .q, .q, .q, .q, .q, .q, .q, .q, .q, .q, .q, .q, .q] [FF 7 1 2, VV 8 7, OA 9 (.clo 51 [TT 4]), OA 10
 (.call 50 [TT 8, TT 9]), OA 11 (.un .not (TT 10)), MM 12 11, LG 13 8 3 12 true, LG 14 5 2 12 true, VG 15 4 12 true, MG 16 1 12 true, OC 17 (.call 53 [TT 13, TT 14, TT 15, TT 16]) 12 true, FG 18 3 3 12 true, VG 19 18 12 true, MG
 20 1 12 true, OC 21 (.j4 14 (TT 19) (TT 20)) 12 true, FG 22 11 21 12 true, LG 23 3 22 12 true, OC 24 (.call 52 [TT 17, TT 23]) 12 true, OC 25 (.bin .leq (TT 24) (II 0)) 12 true, OA 26 (.pick (TT 12) (TT 25) (.const (.bool
 false))), MM 6 26]) .ret)⟩
theorem a4D : j6 eff Tryz.prog Tryz.f49 = some a1g := by kernel_rfl
theorem a4n : Tryz.prog.funcs[49]? = some Tryz.f49 := Tryz.func49
def a1e : l9 := ⟨26, [.tmp 5], .seq (.reg [OA 5 (.mv (.const (.bool false)))]) (.seq (.reg [MM 6 0, OA 7 (.bin .geq (TT 6) (II 0)), MM 8 7, MG 9 0 8 true, FG 10 2 2 8 true, VG 11 10 8 true, OC 12 (.len false (TT 11)) 8 true, OC 13 (.bin .lss (TT
 9) (TT 12)) 8 true, OA 14 (.pick (TT 8) (TT 13) (.const (.bool false))), MM 15 14, MG 16 1 15 true, OC 17 (.bin .geq (TT 16) (II 0)) 15 true, OA 18 (.pick (TT 15) (TT 17) (.const (.bool false))), MM 19 18, MG 20 1 19 true, FG 21
 3 2 19 true, VG 22 21 19 true, OC 23 (.len false (TT 22)) 19 true, OC 24 (.bin .lss (TT 20) (TT 23)) 19 true, OA 25 (.pick (TT 19) (TT 24) (.const (.bool false))), MM 5 25]) .ret)⟩
theorem a4A : j6 eff Tryz.prog Tryz.f54 = some a1e := by kernel_rfl
theorem a4x : Tryz.prog.funcs[54]? = some Tryz.f54 := Tryz.func54
theorem c3b (x : Ast) (k : Int) : r9 Tryz.prog 51 [x.c, .ep [ints k]] (.v (.bool (decide (x.holds = k)))) := by
 refine r9.of a3F a3q (by exact Nat.le_of_ble_eq_true rfl) fun w O => ?_
 simp only [a0J, l5, TT, II, OA, OB, OC, MM, LL, VV, FF, MG, LG, VG, FG, Ast.c, Ast.enc, rts, ints]
 (repeat first | refine uA ?_ | (apply S.exit; exact rfl) | (refine uK ?_ ?_; focus first | omega | trivial | exact id | (intros; simp_all <;> omega)) | simp (disch := omega) only [go_sem, Nat.reduceBEq, Nat.reduceAdd, Nat.reduceLeDiff, Int.reduceToNat, Int.reducePow, ww])
 exact S.done (d9.out rfl (Imp.refl rfl) rfl)
theorem b9P (k : Int) (l : List Ast) (hn : l.length <= 1099511627776) :
  r9 Tryz.prog 155 [E5 l, .clo 51 [.ep [ints k]]] (ints (a1b (fun x => decide (x.holds = k)) l)) := by
 refine r9.of X9 X8 (by exact Nat.le_of_ble_eq_true rfl) fun w O => ?_
 have hcal : callable Tryz.prog 51 = true := by kernel_rfl
 simp only [K8, l5, TT, II, OA, OB, OC, MM, LL, VV, FF, MG, LG, VG, FG, E5, ints]
 (repeat first | refine uA ?_ | (apply S.exit; exact rfl) | (refine uK ?_ ?_; focus first | omega | trivial | exact id | (intros; simp_all <;> omega)) | simp (disch := omega) only [go_sem, Nat.reduceBEq, Nat.reduceAdd, Nat.reduceLeDiff, Int.reduceToNat, Int.reducePow, ww, List.length_map])
 refine S.loop (X := Nat) (fun i => ⟨[(0, E5 l), (1, .clo 51 [.ep [ints k]]), (7, ints l.length), (8, ints i)], []⟩) (fun i => i <= l.length /\ ∀ j, j < i -> ∀ x, l[j]? = some x -> decide (x.holds = k) = false) (fun i => l.length - i) 0 ⟨Nat.zero_le _, fun _ h => absurd h (Nat.not_lt_zero _)⟩ (by (repeat first | refine uA ?_ | (refine ⟨?_, ?_⟩; focus first | rfl | trivial | (simp [slot]; done)) | rfl | trivial | simp)) ?_
 rintro i ⟨hi, hm⟩
 simp only [E5, ints]
 (repeat first | refine uA ?_ | (apply S.exit; exact rfl) | (refine uK ?_ ?_; focus first | omega | trivial | exact id | (intros; simp_all <;> omega)) | simp (disch := omega) only [go_sem, Nat.reduceBEq, Nat.reduceAdd, Nat.reduceLeDiff, Int.reduceToNat, Int.reducePow, ww])
 (refine uJ rfl (fun hc => ?_) fun hc => ?_)
 ·have hi' : i < l.length := by omega
  have hgi := List.getElem?_eq_getElem hi'
  generalize l[i] = x at hgi
  have hs := c3b x k
  simp only [Ast.c, Ast.enc, rts, sb, ints] at hs
  (repeat first | refine uA ?_ | (apply S.exit; exact rfl) | (refine uK ?_ ?_; focus first | omega | trivial | exact id | (intros; simp_all <;> omega)) | simp (disch := omega) only [go_sem, Nat.reduceBEq, Nat.reduceAdd, Nat.reduceLeDiff, Int.reduceToNat, Int.reducePow, ww, hgi, Option.map_some, List.length_map, Ast.enc, rts, sb, ints, Int.toNat_natCast, hcal] | (refine uB hs ?_ ?_; exact rfl))
  refine S.cond rfl (fun hc2 => ?_) (fun hc2 => ?_)
  ·rw [a3o (p := fun x : Ast => decide (x.holds = k)) hgi hc2 hm]
   (repeat first | refine uA ?_ | (apply S.exit; exact rfl) | (refine uK ?_ ?_; focus first | omega | trivial | exact id | (intros; simp_all <;> omega)) | simp (disch := omega) only [go_sem, Nat.reduceBEq, Nat.reduceAdd, Nat.reduceLeDiff, Int.reduceToNat, Int.reducePow, ww])
   exact S.done (d9.out rfl (Imp.refl rfl) rfl)
  ·(repeat first | refine uA ?_ | (apply S.exit; exact rfl) | (refine uK ?_ ?_; focus first | omega | trivial | exact id | (intros; simp_all <;> omega)) | simp (disch := omega) only [go_sem, Nat.reduceBEq, Nat.reduceAdd, Nat.reduceLeDiff, Int.reduceToNat, Int.reducePow, ww])
   refine S.next (i + 1) ⟨by omega, fun j hj y hy => ?_⟩ (by omega) (by (repeat first | refine uA ?_ | (refine ⟨?_, ?_⟩; focus first | rfl | trivial | (simp [slot]; done)) | rfl | trivial | simp))
   rcases Nat.lt_or_ge j i with h1 | h1
   ·exact hm j h1 y hy
   ·have : j = i := by omega
    subst this
    rw [hgi] at hy
    cases hy
    exact hc2
 ·have hi' : i = l.length := by omega
  subst hi'
  rw [a2B hm]
  (repeat first | refine uA ?_ | (apply S.exit; exact rfl) | (refine uK ?_ ?_; focus first | omega | trivial | exact id | (intros; simp_all <;> omega)) | simp (disch := omega) only [go_sem, Nat.reduceBEq, Nat.reduceAdd, Nat.reduceLeDiff, Int.reduceToNat, Int.reducePow, ww])
  exact S.done (d9.out rfl (Imp.refl rfl) rfl)
theorem b9R (k : Int) (l : List Ast) (hn : l.length <= 1099511627776) :
  r9 Tryz.prog 50 [E5 l, .clo 51 [.ep [ints k]]] (.v (.bool (l.any fun x => decide (x.holds = k)))) := by
 refine r9.of V6 U9 (by exact Nat.le_of_ble_eq_true rfl) fun w O => ?_
 have h := b9P k l hn
 rw [<- a3l]
 generalize a1b (fun x : Ast => decide (x.holds = k)) l = n at *
 simp only [J7, l5, TT, II, OA, OB, OC, MM, LL, VV, FF, MG, LG, VG, FG]
 simp only [E5, ints] at *
 (repeat first | refine uA ?_ | (apply S.exit; exact rfl) | (refine uK ?_ ?_; focus first | omega | trivial | exact id | (intros; simp_all <;> omega)) | simp (disch := omega) only [go_sem, Nat.reduceBEq, Nat.reduceAdd, Nat.reduceLeDiff, Int.reduceToNat, Int.reducePow, ww] | (refine uB h ?_ ?_; exact rfl))
 exact S.done (d9.out rfl (Imp.refl rfl) rfl)
theorem c2q (w : Wk) (s : Stt) (p q : Nat) (hwb : Wb 1048576 w) (hs : Stb 1048576 s) (h1 : p < w.parts.length) (h2 : q < w.slots.length) (h3 : I6 w s = 0) :
  FZ 49 [.v (.int .i64 (p : Int)), .v (.int .i64 (q : Int)), .ep s.enc, .ep w.enc] (.v (.bool (a1O w s p q))) := by
 refine l8.of a4n a4D (by exact Nat.le_of_ble_eq_true rfl) fun w' O hw => ?_
 have hpl := a1i h3
 have n1 := hs.arms.1
 have n2 := hwb.slots.1
 have o1 := b9R p s.arms (by omega)
 have o2 := b8n w s p q hwb hs h1 h2 (by omega)
 have hdk : K9 w s p q = 0 := by
  unfold K9
  rw [if_neg (by simpa using h3), if_neg (by omega)]
 have gs := List.getElem?_eq_getElem h2
 have hrb := a7k (p := p) (q := q) hwb hs (by omega) (by omega) (by omega)
 have hd : a1O w s p q = (!(s.arms.any fun x => decide (x.holds = (p : Int))) && decide (Nm.A9 (N8 w s p q) (Nm.j3 (w.slots[q]'h2).within) <= 0)) := by
  unfold a1O
  rw [hdk, if_neg (by decide), Int.toNat_natCast, Int.toNat_natCast, List.getD_eq_getElem?_getD, gs]
  rfl
 rw [hd]
 clear hd hdk
 have bs' := (hwb.slots.2 _ (List.getElem_mem h2)).2.2
 generalize N8 w s p q = off at *
 generalize w.slots[q]'(_) = sl at gs bs' ⊢
 have o3 := Q8 (Nm.ofQ off) sl.within (hrb.mono (by decide)) (bs'.mono (by decide))
 rw [Nm.F7] at o3
 unfold rq at o2
 generalize (s.arms.any fun x => decide (x.holds = (p : Int))) = b1 at *
 generalize Nm.A9 off (Nm.j3 sl.within) = c1 at *
 generalize Nm.ofQ off = N at *
 obtain ⟨sn, g, within⟩ := sl
 obtain ⟨arms, walls, parts, slots, gates, walk⟩ := w
 obtain ⟨tick, sarms, sparts, people, sgates⟩ := s
 simp only at gs h2 n1 n2
 simp only [a1g, l5, TT, II, OA, OB, OC, MM, LL, VV, FF, MG, LG, VG, FG]
 simp only [Wk.c, Wk.enc, Stt.c, Stt.enc, ams, wls, pts, sls, gts, E5, frs, vts, bls, rc, sb, ints] at o1 o2 o3 ⊢
 (repeat first | refine uA ?_ | (apply S.exit; exact rfl) | (refine uK ?_ ?_; focus first | omega | trivial | exact id | (intros; simp_all <;> omega)) | simp (disch := omega) only [go_sem, Nat.reduceBEq, Nat.reduceAdd, Nat.reduceLeDiff, Int.reduceToNat, Int.reducePow, ww, gs, Option.map_some, List.length_map, Sl.enc, sb, Int.toNat_natCast] | (refine uD o2 ?_ ?_ ?_; exact tz hw; exact rfl) | (refine uD o3 ?_ ?_ ?_; exact tz hw; exact rfl) | (refine uC o1 ?_ ?_ ?_; exact rfl; focus (repeat' first | exact l6.nil | exact Imp.refl rfl | exact Imp.a1S | exact Imp.fbx rfl rfl (l6.refl rfl) rfl rfl | refine Imp.clo ?_ | exact Imp.frz rfl rfl rfl | (refine Imp.I8 rfl rfl ?_ ?_; (focus ((try simp only [List.length_append, gs, Option.map_some, List.length_map, Sl.enc, sb, Int.toNat_natCast]); omega)); (focus first | rfl | assumption)) | refine Imp.agg ?_ | refine l6.cons ?_ ?_); done))
 exact S.done (d9.out rfl (Imp.refl rfl) rfl)
def isB (w : Wk) (p q : Int) : Bool := decide (0 <= p) && decide (p < w.parts.length) && decide (0 <= q) && decide (q < w.slots.length)
theorem c3n (w : Wk) (p q : Int) (h1 : w.parts.length <= 1048576) (h2 : w.slots.length <= 1048576) : r9 Tryz.prog 54 [ints p, ints q, .ep w.enc] (.v (.bool (isB w p q))) := by
 refine r9.of a4x a4A (by exact Nat.le_of_ble_eq_true rfl) fun w' O => ?_
 obtain ⟨arms, walls, parts, slots, gates, walk⟩ := w
 simp only at h1 h2
 unfold isB
 simp only [a1e, l5, TT, II, OA, OB, OC, MM, LL, VV, FF, MG, LG, VG, FG]
 simp only [Wk.enc, ams, wls, pts, sls, gts, sb, ints]
 (repeat first | refine uA ?_ | (apply S.exit; exact rfl) | (refine uK ?_ ?_; focus first | omega | trivial | exact id | (intros; simp_all <;> omega)) | simp (disch := omega) only [go_sem, Nat.reduceBEq, Nat.reduceAdd, Nat.reduceLeDiff, Int.reduceToNat, Int.reducePow, ww, List.length_map])
 exact S.done (d9.out rfl (Imp.refl rfl) rfl)
def a0o : l9 := ⟨274, [.tmp 10], .seq (.reg [OA 5 (.box 31 (TT 0)), OA 6 (.box 37 (TT 1)), OA 10 (.mv (.const (.bool false)))]) (.seq (.seq (.reg [OA 31 (.build [.slice none 0 0, .slice none 0 0, .slice none 0 0, .slice none 0 0, .slice none 0 0,
 .bool false, .string ⟨#[]⟩, .string ⟨#[]⟩] []), OA 32 (.build [.int .i64 0, .slice none 0 0, .slice none 0 0, .slice none 0 0, .slice none 0 0] []), OA 33 (.call 11 [TT 31, TT 32, II 0, II 0]), MM 30 33, OA 34 (.ext (TT 30) 0),
 OA 35 (.ext (TT 30) 1), MM 11 34, MM 12 35]) (.seq (.reg [MM 36 12, OA 37 (.bin .neq (TT 36) (II 4))]) (.cond (TT 37) (.seq (.reg [OA 10 (.mv (.const (.bool false)))]) .ret) .skip))) (.seq (.reg [LL 39 8 5, LL 40 5 6, MM 41 2,
 MM 42 3, OA 43 (.call 13 [TT 39, TT 40, TT 41, TT 42]), MM 38 43, OA 44 (.ext (TT 38) 0), OA 45 (.ext (TT 38) 1), OA 13 (.alloc 29 [.bool false, .string ⟨#[]⟩, .string ⟨#[]⟩]), OB (.store 3 (TT 13) (TT 44)), MM 14 45]) (.seq
 (.reg [LL 47 8 5, LL 48 5 6, MM 49 2, MM 50 3, OA 51 (.call 11 [TT 47, TT 48, TT 49, TT 50]), MM 46 51, OA 52 (.ext (TT 46) 0), OA 53 (.ext (TT 46) 1), MM 15 52, MM 16 53]) (.seq (.reg [LL 55 8 5, LL 56 5 6, MM 57 2, OA 58
 (.call 14 [TT 55, TT 56, TT 57]), MM 54 58, OA 59 (.ext (TT 54) 0), OA 60 (.ext (TT 54) 1), OA 61 (.ext (TT 54) 2), OA 18 (.alloc 29 [.bool false, .string ⟨#[]⟩, .string ⟨#[]⟩]), MM 17 59, OB (.store 3 (TT 18) (TT 60)), MM 19
 61]) (.seq (.reg [LL 63 8 5, LL 64 5 6, MM 65 4, OA 66 (.call 48 [TT 63, TT 64, TT 65]), MM 62 66, OA 67 (.ext (TT 62) 0), OA 68 (.ext (TT 62) 1), MM 20 67, MM 21 68]) (.seq (.reg [LL 69 8 5, LL 70 5 6, OA 71 (.call 39 [TT 69,
 TT 70]), MM 22 71]) (.seq (.seq (.reg [MM 72 22, OA 73 (.bin .neq (TT 72) (II 0))]) (.cond (TT 73) (.seq (.reg [MM 74 14, MM 75 22, OA 76 (.bin .eql (TT 74) (TT 75)), MM 77 76, MG 78 16 77 true, MG 79 22 77 true, OC 80 (.bin
 .eql (TT 78) (TT 79)) 77 true, OA 81 (.pick (TT 77) (TT 80) (.const (.bool false))), MM 82 81, MG 83 19 82 true, MG 84 22 82 true, OC 85 (.bin .eql (TT 83) (TT 84)) 82 true, OA 86 (.pick (TT 82) (TT 85) (.const (.bool false))),
 MM 87 86, MG 88 21 87 true, MG 89 22 87 true, OC 90 (.bin .eql (TT 88) (TT 89)) 87 true, OA 91 (.pick (TT 87) (TT 90) (.const (.bool false))), MM 92 91, MG 93 15 92 true, OC 94 (.un .not (TT 93)) 92 true, OA 95 (.pick (TT 92)
 (TT 94) (.const (.bool false))), MM 96 95, MG 97 20 96 true, OC 98 (.un .not (TT 97)) 96 true, OA 99 (.pick (TT 96) (TT 98) (.const (.bool false))), MM 100 99, MG 101 17 100 true, OC 102 (.bin .eql (TT 101) (II 0)) 100 true, OA
 103 (.pick (TT 100) (TT 102) (.const (.bool false))), MM 104 103, LG 105 3 13 104 true, OC 106 (.build [.bool false, .string ⟨#[]⟩, .string ⟨#[]⟩] []) 104 true, OC 107 (.aeq false [.b, .s, .s] (TT 105) (TT 106)) 104 true, OA 108
 (.pick (TT 104) (TT 107) (.const (.bool false))), MM 109 108, LG 110 3 18 109 true, OC 111 (.build [.bool false, .string ⟨#[]⟩, .string ⟨#[]⟩] []) 109 true, OC 112 (.aeq false [.b, .s, .s] (TT 110) (TT 111)) 109 true, OA 113
 (.pick (TT 109) (TT 112) (.const (.bool false))), MM 10 113]) .ret) .skip)) (.seq (.reg [OA 114 (.clo 49 [TT 6, TT 5]), MM 23 114]) (.seq (.reg [OA 115 (.clo 54 [TT 5]), MM 24 115]) (.seq (.reg [OA 25 (.mv (.const (.bool
 true))), OA 22 (.mv (II 0))]) (.seq (.seq (.reg [MM 116 4, OA 117 (.len false (TT 116)), OA 118 (.mv (II 0))]) (.block 0 (.loop (.seq (.reg [OA 119 (.bin .lss (TT 118) (TT 117))]) (.seq (.cond (TT 119) .skip (.exit 0)) (.seq
 (.block 1 (.seq (.reg [OA 120 (.j4 2 (TT 116) (TT 118)), LL 121 2 120, OA 27 (.alloc 105 [.int .i64 0, .int .i64 0]), OB (.store 2 (TT 27) (TT 121))]) (.seq (.seq (.reg [MM 122 24, FF 123 0 27, VV 124 123, FF 125 1 27, VV 126
 125, OA 127 (.G6 (TT 122) [TT 124, TT 126]), OA 128 (.un .not (TT 127))]) (.cond (TT 128) (.seq (.reg [OA 25 (.mv (.const (.bool false))), OA 22 (.mv (II 1))]) (.exit 0)) .skip)) (.reg [MM 129 25, MM 130 129, MG 131 23 130
 true, FG 132 0 27 130 true, VG 133 132 130 true, FG 134 1 27 130 true, VG 135 134 130 true, OC 136 (.G6 (TT 131) [TT 133, TT 135]) 130 true, OA 137 (.pick (TT 130) (TT 136) (.const (.bool false))), MM 25 137])))) (.reg [OA
 138 (.bin .add (TT 118) (II 1)), MM 118 138]))))))) (.seq (.seq (.reg [MM 139 21, MM 140 22, OA 141 (.bin .neq (TT 139) (TT 140)), MM 142 141, MG 143 20 142 false, MG 144 25 142 false, OC 145 (.beq true (TT 143) (TT 144)) 142
 false, OA 146 (.pick (TT 142) (.const (.bool true)) (TT 145))]) (.cond (TT 146) (.seq (.reg [OA 10 (.mv (.const (.bool false)))]) .ret) .skip)) (.seq (.seq (.reg [MM 147 2, OA 148 (.bin .lss (TT 147) (II 0)), MM 149 148, MG 150
 2 149 false, FG 151 2 5 149 false, VG 152 151 149 false, OC 153 (.len false (TT 152)) 149 false, OC 154 (.bin .geq (TT 150) (TT 153)) 149 false, OA 155 (.pick (TT 149) (.const (.bool true)) (TT 154))]) (.cond (TT 155) (.seq
 (.reg [MM 156 14, OA 157 (.bin .eql (TT 156) (II 1)), MM 158 157, MG 159 16 158 true, OC 160 (.bin .eql (TT 159) (II 1)) 158 true, OA 161 (.pick (TT 158) (TT 160) (.const (.bool false))), MM 162 161, MG 163 19 162 true, OC 164
 (.bin .eql (TT 163) (II 1)) 162 true, OA 165 (.pick (TT 162) (TT 164) (.const (.bool false))), MM 10 165]) .ret) .skip)) (.seq (.seq (.reg [FF 166 3 5, VV 167 166, OA 168 (.len false (TT 167)), OA 169 (.bin .eql (TT 168) (II
 0))]) (.cond (TT 169) (.seq (.reg [MM 170 14, OA 171 (.bin .eql (TT 170) (II 1)), MM 172 171, MG 173 16 172 true, OC 174 (.bin .eql (TT 173) (II 1)) 172 true, OA 175 (.pick (TT 172) (TT 174) (.const (.bool false))), MM 176 175,
 MG 177 19 176 true, OC 178 (.bin .eql (TT 177) (II 4)) 176 true, OA 179 (.pick (TT 176) (TT 178) (.const (.bool false))), MM 180 179, MG 181 17 180 true, OC 182 (.bin .eql (TT 181) (II 0)) 180 true, OA 183 (.pick (TT 180) (TT
 182) (.const (.bool false))), MM 10 183]) .ret) .skip)) (.seq (.seq (.C9 [.q, .q, .q, .q, .q, .q, .q, .q, .q, .q, .q, .q, .q, .q, .q, .q, .q, .q, .q, .q, .q, .q] [MM 184 19, OA 185 (.bin .neq (TT 184) (II 0)), MM 186 185, MG
 187 17 186 false, OC 188 (.bin .lss (TT 187) (II 0)) 186 false, OA 189 (.pick (TT 186) (.const (.bool true)) (TT 188)), MM 190 189, MG 191 17 190 false, FG 192 3 5 190 false, VG 193 192 190 false, OC 194 (.len false (TT 193))
 190 false, OC 195 (.bin .geq (TT 191) (TT 194)) 190 false, OA 196 (.pick (TT 190) (.const (.bool true)) (TT 195)), MM 197 196, LG 198 3 18 197 false, LG 199 8 5 197 false, LG 200 5 6 197 false, MG 201 2 197 false, MG 202 17 197
 false, OC 203 (.call 53 [TT 199, TT 200, TT 201, TT 202]) 197 false, OC 204 (.aeq true [.b, .s, .s] (TT 198) (TT 203)) 197 false, OA 205 (.pick (TT 197) (.const (.bool true)) (TT 204))]) (.cond (TT 205) (.seq (.reg [OA 10 (.mv
 (.const (.bool false)))]) .ret) .skip)) (.seq (.seq (.reg [FF 206 3 5, VV 207 206, OA 208 (.len false (TT 207)), OA 209 (.mv (II 0))]) (.block 2 (.loop (.seq (.reg [OA 210 (.bin .lss (TT 209) (TT 208))]) (.seq (.cond (TT 210)
 .skip (.exit 2)) (.seq (.block 3 (.seq (.reg [MM 211 209, MM 28 211]) (.seq (.C9 [.q, .q, .q, .q, .q, .q, .q, .q] [LL 212 8 5, LL 213 5 6, MM 214 2, MM 215 28, OA 216 (.call 53 [TT 212, TT 213, TT 214, TT 215]), LL 217 3 18,
 OA 218 (.call 52 [TT 216, TT 217]), MM 29 218]) (.seq (.reg [MM 219 29, OA 220 (.bin .lss (TT 219) (II 0)), MM 221 220, MG 222 29 221 false, OC 223 (.bin .eql (TT 222) (II 0)) 221 false, MG 224 223 221 false, MG 225 28 224 true,
 MG 226 17 224 true, OC 227 (.bin .lss (TT 225) (TT 226)) 224 true, OC 228 (.pick (TT 224) (TT 227) (.const (.bool false))) 221 false, OA 229 (.pick (TT 221) (.const (.bool true)) (TT 228))]) (.cond (TT 229) (.seq (.reg [OA 10
 (.mv (.const (.bool false)))]) .ret) .skip))))) (.reg [OA 230 (.bin .add (TT 209) (II 1)), MM 209 230]))))))) (.seq (.seq (.reg [MM 231 24, MM 232 2, MM 233 3, OA 234 (.G6 (TT 231) [TT 232, TT 233]), OA 235 (.un .not (TT
 234))]) (.cond (TT 235) (.seq (.reg [MM 236 14, OA 237 (.bin .eql (TT 236) (II 1)), MM 238 237, MG 239 16 238 true, OC 240 (.bin .eql (TT 239) (II 1)) 238 true, OA 241 (.pick (TT 238) (TT 240) (.const (.bool false))), MM 242
 241, LG 243 3 13 242 true, OC 244 (.build [.bool false, .string ⟨#[]⟩, .string ⟨#[]⟩] []) 242 true, OC 245 (.aeq false [.b, .s, .s] (TT 243) (TT 244)) 242 true, OA 246 (.pick (TT 242) (TT 245) (.const (.bool false))), MM 247
 246, MG 248 15 247 true, OC 249 (.un .not (TT 248)) 247 true, OA 250 (.pick (TT 247) (TT 249) (.const (.bool false))), MM 10 250]) .ret) .skip)) (.seq (.C9 [.q, .q, .q, .q, .q, .q, .q, .q, .q, .q, .q, .q, .q, .q, .q, .q, .q,
 .q, .q, .q, .q, .q, .q, .q] [MM 251 14, OA 252 (.bin .eql (TT 251) (II 0)), MM 253 252, MG 254 16 253 true, OC 255 (.bin .eql (TT 254) (II 0)) 253 true, OA 256 (.pick (TT 253) (TT 255) (.const (.bool false))), MM 257 256, LG 258
 3 13 257 true, LG 259 8 5 257 true, LG 260 5 6 257 true, MG 261 2 257 true, MG 262 3 257 true, OC 263 (.call 53 [TT 259, TT 260, TT 261, TT 262]) 257 true, OC 264 (.aeq false [.b, .s, .s] (TT 258) (TT 263)) 257 true, OA 265
 (.pick (TT 257) (TT 264) (.const (.bool false))), MM 266 265, MG 267 15 266 true, MG 268 23 266 true, MG 269 2 266 true, MG 270 3 266 true, OC 271 (.G6 (TT 268) [TT 269, TT 270]) 266 true, OC 272 (.beq false (TT 267) (TT
 271)) 266 true, OA 273 (.pick (TT 266) (TT 272) (.const (.bool false))), MM 10 273]) .ret))))))))))))))))))⟩
theorem a5l : j6 eff Tryz.prog Tryz.f6 = some a0o := by kernel_rfl
theorem a5s : Tryz.prog.funcs[6]? = some Tryz.f6 := Tryz.func6
def a3r : l9 := ⟨15, [.tmp 2], .seq (.reg [OA 2 (.mv (.const (.bool false)))]) (.seq (.reg [MM 3 0, OA 4 (.bin .neq (TT 3) (.const (.string ⟨#[]⟩))), MM 5 4, MG 6 0 5 true, OC 7 (.len true (TT 6)) 5 true, OC 8 (.bin .leq (TT 7) (II 12)) 5 true,
 OA 9 (.pick (TT 5) (TT 8) (.const (.bool false))), MM 10 9, MG 11 0 10 true, OC 12 (.call 82 [TT 11, .const (.string ⟨#[97, 98, 99, 100, 101, 102, 103, 104, 105, 106, 107, 108, 109, 110, 111, 112, 113, 114, 115, 116, 117, 118,
 119, 120, 121, 122]⟩)]) 10 true, OC 13 (.bin .eql (TT 12) (.const (.string ⟨#[]⟩))) 10 true, OA 14 (.pick (TT 10) (TT 13) (.const (.bool false))), MM 2 14]) .ret)⟩
theorem a8w : j6 eff Tryz.prog Tryz.f20 = some a3r := by kernel_rfl
theorem a8u : Tryz.prog.funcs[20]? = some Tryz.f20 := Tryz.func20
def a2N : l9 := ⟨27, [.tmp 2], .seq (.reg [OA 1 (.box 55 (TT 0)), OA 2 (.mv (.const (.bool false)))]) (.seq (.reg [FF 3 0 1, FF 4 0 3, LL 5 3 4, FF 6 0 1, FF 7 3 6, LL 8 3 7, FF 9 6 1, FF 10 1 9, LL 11 3 10, OA 12 (.bsl 29 3 3 [.bool false,
 .string ⟨#[]⟩, .string ⟨#[]⟩] [(0, TT 5), (1, TT 8), (2, TT 11)]), OA 13 (.call 85 [TT 12]), MM 14 13, FG 15 6 1 14 true, FG 16 0 15 14 true, VG 17 16 14 true, MG 18 17 14 true, FG 19 6 1 18 true, FG 20 1 19 18 true, LG 21 3 20
 18 true, OC 22 (.call 15 [TT 21]) 18 true, OC 23 (.bin .neq (TT 22) (II 0)) 18 true, OC 24 (.pick (TT 18) (TT 23) (.const (.bool false))) 14 true, OC 25 (.un .not (TT 24)) 14 true, OA 26 (.pick (TT 14) (TT 25) (.const (.bool
 false))), MM 2 26]) .ret)⟩
theorem a7A : j6 eff Tryz.prog Tryz.f22 = some a2N := by kernel_rfl
theorem a7G : Tryz.prog.funcs[22]? = some Tryz.f22 := Tryz.func22
def a2M : l9 := ⟨20, [.tmp 2], .seq (.reg [OA 2 (.mv (.const (.bool false)))]) (.seq (.seq (.reg [MM 5 0, OA 6 (.len false (TT 5)), OA 7 (.mv (II 0))]) (.block 0 (.loop (.seq (.reg [OA 8 (.bin .lss (TT 7) (TT 6))]) (.seq (.cond (TT 8) .skip
 (.exit 0)) (.seq (.block 1 (.seq (.reg [OA 9 (.j4 3 (TT 5) (TT 7)), LL 10 3 9, OA 4 (.alloc 29 [.bool false, .string ⟨#[]⟩, .string ⟨#[]⟩]), OB (.store 3 (TT 4) (TT 10))]) (.seq (.reg [LL 11 3 4, OA 12 (.call 62 [TT 11]), OA
 13 (.un .not (TT 12)), MM 14 13, LG 15 3 4 14 false, OC 16 (.call 84 [TT 15]) 14 false, OC 17 (.un .not (TT 16)) 14 false, OA 18 (.pick (TT 14) (.const (.bool true)) (TT 17))]) (.cond (TT 18) (.seq (.reg [OA 2 (.mv (.const
 (.bool false)))]) .ret) .skip)))) (.reg [OA 19 (.bin .add (TT 7) (II 1)), MM 7 19]))))))) (.seq (.reg [OA 2 (.mv (.const (.bool true)))]) .ret))⟩
theorem a7B : j6 eff Tryz.prog Tryz.f85 = some a2M := by kernel_rfl
theorem a7y : Tryz.prog.funcs[85]? = some Tryz.f85 := Tryz.func85
def a1Y : l9 := ⟨16, [.tmp 3], .seq (.reg [OA 3 (.mv (II 0))]) (.seq (.block 0 (.seq (.reg [MM 5 0, OA 6 (.call 20 [TT 5]), OA 7 (.un .not (TT 6)), MM 4 7]) (.cond (TT 4) (.seq (.reg [OA 3 (.mv (II 3))]) .ret) (.seq (.reg [VV 9 1, MM 10 0, OA 11
 (.call 99 [TT 9, TT 10]), MM 8 11]) (.cond (TT 8) (.seq (.reg [OA 3 (.mv (II 5))]) .ret) .skip))))) (.seq (.reg [VV 12 1, MM 13 0, OA 14 (.bsl 9 1 1 [.string ⟨#[]⟩] [(0, TT 13)]), OA 15 (.app 9 1 16 (TT 12) (TT 14)), OB (.store
 1 (TT 1) (TT 15))]) (.seq (.reg [OA 3 (.mv (II 0))]) .ret)))⟩
theorem a5Z : j6 eff Tryz.prog Tryz.f98 = some a1Y := by kernel_rfl
theorem a6e : Tryz.prog.funcs[98]? = some Tryz.f98 := Tryz.func98
def a2P : l9 := ⟨25, [.tmp 2], .seq (.reg [OA 2 (.mv (II 0))]) (.seq (.seq (.reg [MM 6 0, OA 7 (.call 201 [TT 6]), MM 3 7]) (.seq (.reg [MM 8 3, OA 9 (.bin .neq (TT 8) (II 0))]) (.cond (TT 9) (.seq (.reg [MM 10 3, MM 2 10]) .ret) .skip))) (.seq
 (.seq (.reg [MM 11 0, OA 12 (.len false (TT 11)), OA 13 (.mv (II 0))]) (.block 0 (.loop (.seq (.reg [OA 14 (.bin .lss (TT 13) (TT 12))]) (.seq (.cond (TT 14) .skip (.exit 0)) (.seq (.block 1 (.seq (.reg [OA 15 (.j4 6 (TT 11)
 (TT 13)), LL 16 6 15, OA 5 (.alloc 51 [.bool false, .string ⟨#[]⟩, .string ⟨#[]⟩, .bool false, .string ⟨#[]⟩, .string ⟨#[]⟩]), OB (.store 6 (TT 5) (TT 16))]) (.seq (.reg [FF 17 0 5, LL 18 3 17, FF 19 3 5, LL 20 3 19, OA 21 (.bsl
 29 3 2 [.bool false, .string ⟨#[]⟩, .string ⟨#[]⟩] [(0, TT 18), (1, TT 20)]), OA 22 (.call 85 [TT 21]), OA 23 (.un .not (TT 22))]) (.cond (TT 23) (.seq (.reg [OA 2 (.mv (II 1))]) .ret) .skip)))) (.reg [OA 24 (.bin .add (TT 13)
 (II 1)), MM 13 24]))))))) (.seq (.reg [OA 2 (.mv (II 0))]) .ret)))⟩
theorem a7x : j6 eff Tryz.prog Tryz.f100 = some a2P := by kernel_rfl
theorem a7D : Tryz.prog.funcs[100]? = some Tryz.f100 := Tryz.func100
def a3i : l9 := ⟨15, [.tmp 2], .seq (.reg [OA 2 (.mv (.const (.bool false)))]) (.seq (.seq (.reg [MM 5 0, OA 6 (.len false (TT 5)), OA 7 (.mv (II 0))]) (.block 0 (.loop (.seq (.reg [OA 8 (.bin .lss (TT 7) (TT 6))]) (.seq (.cond (TT 8) .skip
 (.exit 0)) (.seq (.block 1 (.seq (.reg [OA 9 (.j4 3 (TT 5) (TT 7)), LL 10 3 9, OA 4 (.alloc 29 [.bool false, .string ⟨#[]⟩, .string ⟨#[]⟩]), OB (.store 3 (TT 4) (TT 10))]) (.seq (.reg [LL 11 3 4, OA 12 (.call 62 [TT 11]), OA
 13 (.un .not (TT 12))]) (.cond (TT 13) (.seq (.reg [OA 2 (.mv (.const (.bool false)))]) .ret) .skip)))) (.reg [OA 14 (.bin .add (TT 7) (II 1)), MM 7 14]))))))) (.seq (.reg [OA 2 (.mv (.const (.bool true)))]) .ret))⟩
theorem a8i : j6 eff Tryz.prog Tryz.f140 = some a3i := by kernel_rfl
theorem a8C : Tryz.prog.funcs[140]? = some Tryz.f140 := Tryz.func140
set_option maxHeartbeats 4000000
def azL : List UInt8 := [97, 98, 99, 100, 101, 102, 103, 104, 105, 106, 107, 108, 109, 110, 111, 112, 113, 114, 115, 116, 117, 118, 119, 120, 121, 122]
theorem c1O : ∀ n : Fin 256, azL.contains (UInt8.ofNat n) = G9 (UInt8.ofNat n) := by decide +kernel
theorem b8F (b : UInt8) : azL.contains b = G9 b := by
 have h := c1O ⟨b.toNat, b.toNat_lt⟩
 simpa using h
theorem b8B {p : UInt8 -> Bool} {x : UInt8} : ∀ {l : List UInt8}, x ∈ l.takeWhile p -> p x = true
 | [], h => by simp at h
 | y :: l, h => by
  rw [List.takeWhile_cons] at h
  split at h
  ·rcases List.mem_cons.1 h with rfl | h
   ·assumption
   ·exact b8B h
  ·cases h
theorem b2W {p : UInt8 -> Bool} : ∀ {l : List UInt8}, l.dropWhile p = [] <-> l.all p = true
 | [] => by simp
 | x :: l => by
  rw [List.dropWhile_cons, List.all_cons]
  cases h : p x
  ·simp
  ·simpa using b2W (p := p) (l := l)
theorem b9S (l : List UInt8) : Lib.trimS l azL = [] <-> l.all G9 = true := by
 have hf : (fun b => azL.contains b) = G9 := funext b8F
 unfold Lib.trimS Lib.trimLeftS Lib.trimRightS
 rw [hf, b2W]
 constructor
 ·intro h
  rw [List.all_eq_true] at h ⊢
  intro x hx
  cases hl : G9 x with
  | true => rfl
  | false =>
   have : x ∈ (l.reverse.dropWhile G9).reverse := by
    rw [List.mem_reverse]
    have hx' : x ∈ l.reverse := List.mem_reverse.2 hx
    rw [<- List.takeWhile_append_dropWhile (p := G9) (l := l.reverse)] at hx'
    rcases List.mem_append.1 hx' with h1 | h1
    ·have := b8B h1
     rw [hl] at this; cases this
    ·exact h1
   have := h x this
   rw [hl] at this; cases this
 ·intro h
  rw [List.all_eq_true] at h ⊢
  intro x hx
  exact h x (List.mem_reverse.1 ((List.dropWhile_sublist _).mem (List.mem_reverse.1 hx)))
theorem c0J (s : List UInt8) (hs : s.length <= 1099511627776) : r9 Tryz.prog 82 [sb s, .v (.string ⟨#[97, 98, 99, 100, 101, 102, 103, 104, 105, 106, 107, 108, 109, 110, 111, 112, 113, 114, 115, 116, 117, 118, 119, 120, 121, 122]⟩)] (sb (Lib.trimS s azL)) := by
 intro O w vs hO hA
 simp only [FzL, sb, Fz] at hA
 obtain ⟨y, ys, rfl, rfl, z, zs, rfl, rfl, rfl⟩ := hA
 refine (Any.strings_Trim_laid Tryz.c0R (by kernel_rfl) (bs s) ⟨#[97, 98, 99, 100, 101, 102, 103, 104, 105, 106, 107, 108, 109, 110, 111, 112, 113, 114, 115, 116, 117, 118, 119, 120, 121, 122]⟩ w (by rw [y8]; omega) (by decide) (ascii_of_all (by decide))).mono ?_
 rintro e w' ⟨rfl, hb⟩
 exact ⟨_, rfl, hb, by simp only [sb, Fz, M5]; rfl⟩
theorem c1y (s : List UInt8) (hs : s.length <= 1099511627776) : r9 Tryz.prog 20 [sb s] (.v (.bool (a0A s))) := by
 refine r9.of a8u a8w (by exact Nat.le_of_ble_eq_true rfl) fun w O => ?_
 have h := c0J s hs
 have e : a0A s = ((!decide (s = []) && decide ((s.length : Int) <= 12)) && decide (Lib.trimS s azL = [])) := by
  have h1 : decide (Lib.trimS s azL = []) = s.all G9 := by
   have := b9S s
   cases h : s.all G9
   ·exact decide_eq_false (fun h2 => by rw [this.1 h2] at h; cases h)
   ·exact decide_eq_true (this.2 h)
  have h2 : (s.all fun b => decide (97 <= b.toNat) && decide (b.toNat <= 122)) = s.all G9 := rfl
  have h3 : decide (1 <= s.length) = !decide (s = []) := by cases s <;> simp
  have h4 : decide (s.length <= 12) = decide ((s.length : Int) <= 12) := by apply decide_eq_decide.2; omega
  unfold a0A
  rw [h1, h2, h3, h4]
  cases s.all G9 <;> cases (decide (s = [])) <;> cases (decide ((s.length : Int) <= 12)) <;> rfl
 rw [e]
 generalize Lib.trimS s azL = t at *
 simp only [a3r, l5, TT, II, OA, OB, OC, MM, LL, VV, FF, MG, LG, VG, FG]
 simp only [sb] at *
 (repeat first | refine uA ?_ | (apply S.exit; exact rfl) | (refine uK ?_ ?_; focus first | omega | trivial | exact id | (intros; simp_all <;> omega)) | simp (disch := omega) only [go_sem, Nat.reduceBEq, Nat.reduceAdd, Nat.reduceLeDiff, Int.reduceToNat, Int.reducePow, ww, y8, Y6, decide_not] | (refine uB h ?_ ?_; exact rfl))
 exact S.done (d9.out rfl (Imp.refl rfl) rfl)
theorem a3z {α : Type} {f : α -> Bool} {l : List α} {i : Nat} {x : α} (h : l[i]? = some x) : (l.drop i).all f = (f x && (l.drop (i + 1)).all f) := by
 obtain ⟨h1, h2⟩ := List.getElem?_eq_some_iff.1 h
 rw [List.drop_eq_getElem_cons h1, List.all_cons, h2]
theorem a4N {α : Type} {f : α -> Bool} {l : List α} {i : Nat} (h : l.length <= i) : (l.drop i).all f = true := by rw [List.drop_eq_nil_of_le h]; rfl
theorem Y8 {a : Nm.Rt} : o8 a = (decide a.D8 && o8 a) := by
 unfold o8
 cases decide a.D8 <;> simp
theorem a3E (l : List Nm.Rt) (hl : Rbs 17179869184 l) : FZ 85 [rts l] (.v (.bool (l.all o8))) := by
 refine l8.of a7y a7B (by exact Nat.le_of_ble_eq_true rfl) fun w O hw => ?_
 obtain ⟨hn, hb⟩ := hl
 simp only [a2M, l5, TT, II, OA, OB, OC, MM, LL, VV, FF, MG, LG, VG, FG, rts]
 (repeat first | refine uA ?_ | (apply S.exit; exact rfl) | (refine uK ?_ ?_; focus first | omega | trivial | exact id | (intros; simp_all <;> omega)) | simp (disch := omega) only [go_sem, Nat.reduceBEq, Nat.reduceAdd, Nat.reduceLeDiff, Int.reduceToNat, Int.reducePow, ww, List.length_map])
 refine S.loop (X := Nat) (fun i => ⟨[(5, rts l), (6, ints l.length), (7, ints i)], []⟩) (fun i => i <= l.length /\ l.all o8 = (l.drop i).all o8) (fun i => l.length - i) 0 ⟨Nat.zero_le _, rfl⟩ (by (repeat first | refine uA ?_ | (refine ⟨?_, ?_⟩; focus first | rfl | trivial | (simp [slot]; done)) | rfl | trivial | simp)) ?_
 rintro i ⟨hi, hg⟩
 simp only [rts, ints] at hi ⊢
 (repeat first | refine uA ?_ | (apply S.exit; exact rfl) | (refine uK ?_ ?_; focus first | omega | trivial | exact id | (intros; simp_all <;> omega)) | simp (disch := omega) only [go_sem, Nat.reduceBEq, Nat.reduceAdd, Nat.reduceLeDiff, Int.reduceToNat, Int.reducePow, ww])
 (refine uJ rfl (fun hc => ?_) fun hc => ?_)
 ·have hgi := List.getElem?_eq_getElem (show i < l.length by omega)
  generalize l[i]'(_) = x at hgi
  have hx := hb x (List.mem_of_getElem? hgi)
  have hs := a3z (f := o8) hgi
  have o1 := a1j x (hx.mono (by decide))
  have o2 := a2n x hx
  rw [Y8] at hs
  generalize decide x.D8 = q1 at *
  generalize o8 x = q2 at *
  simp only [rc, sb] at o1 o2
  (repeat first | refine uA ?_ | (apply S.exit; exact rfl) | (refine uK ?_ ?_; focus first | omega | trivial | exact id | (intros; simp_all <;> omega)) | simp (disch := omega) only [go_sem, Nat.reduceBEq, Nat.reduceAdd, Nat.reduceLeDiff, Int.reduceToNat, Int.reducePow, ww, hgi, Option.map_some, List.length_map, rcs, sb, Int.toNat_natCast] | (refine uD o1 ?_ ?_ ?_; exact tz hw; exact rfl) | (refine uD o2 ?_ ?_ ?_; exact tz hw; exact rfl))
  refine S.cond rfl (fun hc2 => ?_) (fun hc2 => ?_)
  ·rw [hg, hs, show (q1 && q2) = false by cases q1 <;> cases q2 <;> simp_all, Bool.false_and]
   (repeat first | refine uA ?_ | (apply S.exit; exact rfl) | (refine uK ?_ ?_; focus first | omega | trivial | exact id | (intros; simp_all <;> omega)) | simp (disch := omega) only [go_sem, Nat.reduceBEq, Nat.reduceAdd, Nat.reduceLeDiff, Int.reduceToNat, Int.reducePow, ww])
   exact S.done (d9.out rfl (Imp.refl rfl) rfl)
  ·(repeat first | refine uA ?_ | (apply S.exit; exact rfl) | (refine uK ?_ ?_; focus first | omega | trivial | exact id | (intros; simp_all <;> omega)) | simp (disch := omega) only [go_sem, Nat.reduceBEq, Nat.reduceAdd, Nat.reduceLeDiff, Int.reduceToNat, Int.reducePow, ww])
   refine S.next (i + 1) ⟨by omega, by rw [hg, hs, show (q1 && q2) = true by cases q1 <;> cases q2 <;> simp_all, Bool.true_and]⟩ (by omega) (by (repeat first | refine uA ?_ | (refine ⟨?_, ?_⟩; focus first | rfl | trivial | (simp [slot]; done)) | rfl | trivial | simp))
 ·rw [hg, a4N (by omega)]
  (repeat first | refine uA ?_ | (apply S.exit; exact rfl) | (refine uK ?_ ?_; focus first | omega | trivial | exact id | (intros; simp_all <;> omega)) | simp (disch := omega) only [go_sem, Nat.reduceBEq, Nat.reduceAdd, Nat.reduceLeDiff, Int.reduceToNat, Int.reducePow, ww])
  exact S.done (d9.out rfl (Imp.refl rfl) rfl)
theorem a7s (l : List Nm.Rt) (hl : Rbs 17179869184 l) : FZ 140 [rts l] (.v (.bool (l.all F6))) := by
 refine l8.of a8C a8i (by exact Nat.le_of_ble_eq_true rfl) fun w O hw => ?_
 obtain ⟨hn, hb⟩ := hl
 simp only [a3i, l5, TT, II, OA, OB, OC, MM, LL, VV, FF, MG, LG, VG, FG, rts]
 (repeat first | refine uA ?_ | (apply S.exit; exact rfl) | (refine uK ?_ ?_; focus first | omega | trivial | exact id | (intros; simp_all <;> omega)) | simp (disch := omega) only [go_sem, Nat.reduceBEq, Nat.reduceAdd, Nat.reduceLeDiff, Int.reduceToNat, Int.reducePow, ww, List.length_map])
 refine S.loop (X := Nat) (fun i => ⟨[(5, rts l), (6, ints l.length), (7, ints i)], []⟩) (fun i => i <= l.length /\ l.all F6 = (l.drop i).all F6) (fun i => l.length - i) 0 ⟨Nat.zero_le _, rfl⟩ (by (repeat first | refine uA ?_ | (refine ⟨?_, ?_⟩; focus first | rfl | trivial | (simp [slot]; done)) | rfl | trivial | simp)) ?_
 rintro i ⟨hi, hg⟩
 simp only [rts, ints] at hi ⊢
 (repeat first | refine uA ?_ | (apply S.exit; exact rfl) | (refine uK ?_ ?_; focus first | omega | trivial | exact id | (intros; simp_all <;> omega)) | simp (disch := omega) only [go_sem, Nat.reduceBEq, Nat.reduceAdd, Nat.reduceLeDiff, Int.reduceToNat, Int.reducePow, ww])
 (refine uJ rfl (fun hc => ?_) fun hc => ?_)
 ·have hgi := List.getElem?_eq_getElem (show i < l.length by omega)
  generalize l[i]'(_) = x at hgi
  have hx := hb x (List.mem_of_getElem? hgi)
  have hs := a3z (f := F6) hgi
  have o1 := a1j x (hx.mono (by decide))
  rw [show decide x.D8 = F6 x from rfl] at o1
  generalize F6 x = q1 at *
  simp only [rc, sb] at o1
  (repeat first | refine uA ?_ | (apply S.exit; exact rfl) | (refine uK ?_ ?_; focus first | omega | trivial | exact id | (intros; simp_all <;> omega)) | simp (disch := omega) only [go_sem, Nat.reduceBEq, Nat.reduceAdd, Nat.reduceLeDiff, Int.reduceToNat, Int.reducePow, ww, hgi, Option.map_some, List.length_map, rcs, sb, Int.toNat_natCast] | (refine uD o1 ?_ ?_ ?_; exact tz hw; exact rfl))
  refine S.cond rfl (fun hc2 => ?_) (fun hc2 => ?_)
  ·rw [hg, hs, show q1 = false by simpa using hc2, Bool.false_and]
   (repeat first | refine uA ?_ | (apply S.exit; exact rfl) | (refine uK ?_ ?_; focus first | omega | trivial | exact id | (intros; simp_all <;> omega)) | simp (disch := omega) only [go_sem, Nat.reduceBEq, Nat.reduceAdd, Nat.reduceLeDiff, Int.reduceToNat, Int.reducePow, ww])
   exact S.done (d9.out rfl (Imp.refl rfl) rfl)
  ·(repeat first | refine uA ?_ | (apply S.exit; exact rfl) | (refine uK ?_ ?_; focus first | omega | trivial | exact id | (intros; simp_all <;> omega)) | simp (disch := omega) only [go_sem, Nat.reduceBEq, Nat.reduceAdd, Nat.reduceLeDiff, Int.reduceToNat, Int.reducePow, ww])
   refine S.next (i + 1) ⟨by omega, by rw [hg, hs, show q1 = true by simpa using hc2, Bool.true_and]⟩ (by omega) (by (repeat first | refine uA ?_ | (refine ⟨?_, ?_⟩; focus first | rfl | trivial | (simp [slot]; done)) | rfl | trivial | simp))
 ·rw [hg, a4N (by omega)]
  (repeat first | refine uA ?_ | (apply S.exit; exact rfl) | (refine uK ?_ ?_; focus first | omega | trivial | exact id | (intros; simp_all <;> omega)) | simp (disch := omega) only [go_sem, Nat.reduceBEq, Nat.reduceAdd, Nat.reduceLeDiff, Int.reduceToNat, Int.reducePow, ww])
  exact S.done (d9.out rfl (Imp.refl rfl) rfl)
theorem okF_eq (f : Fr) : okF f = ([f.x, f.y, f.t].all o8 && !a2t f.half f.t) := by
 rw [a3S, Y8 (a := f.x), Y8 (a := f.y), Y8 (a := f.t)]
 unfold okF okV
 simp only
 generalize a2t f.half f.t = z
 cases decide f.x.D8 <;> cases decide f.y.D8 <;> cases decide f.t.D8 <;> cases o8 f.x <;> cases o8 f.y <;> cases o8 f.t <;> cases z <;> rfl
theorem b2M (v : Vt) : okV v = [v.x, v.y].all o8 := by
 rw [a5c, Y8 (a := v.x), Y8 (a := v.y)]
 unfold okV
 cases decide v.x.D8 <;> cases decide v.y.D8 <;> cases o8 v.x <;> cases o8 v.y <;> rfl
theorem b2y (f : Fr) (hf : Fb 17179869184 f) : FZ 22 [f.c] (.v (.bool (okF f))) := by
 refine l8.of a7G a7A (by exact Nat.le_of_ble_eq_true rfl) fun w O hw => ?_
 rw [okF_eq]
 obtain ⟨x, y, half, t⟩ := f
 obtain ⟨b1, b2, b3⟩ := hf
 simp only at b1 b2 b3
 have h1 := a3E _ (Rbs.three (by decide) b1 b2 b3)
 have h4 := U5 t b3
 unfold a2t
 simp only
 generalize [x, y, t].all o8 = q1 at *
 generalize E9 (Nm.j3 t) = n at *
 simp only [a2N, l5, TT, II, OA, OB, OC, MM, LL, VV, FF, MG, LG, VG, FG]
 simp only [Fr.c, Fr.enc, rts, rcs, rc, sb, ints, List.map_cons, List.map_nil] at *
 (repeat first | refine uA ?_ | (apply S.exit; exact rfl) | (refine uK ?_ ?_; focus first | omega | trivial | exact id | (intros; simp_all <;> omega)) | simp (disch := omega) only [go_sem, Nat.reduceBEq, Nat.reduceAdd, Nat.reduceLeDiff, Int.reduceToNat, Int.reducePow, ww] | (refine uD h4 ?_ ?_ ?_; exact tz hw; exact rfl) | (refine uE h1 ?_ ?_ ?_ ?_; exact tz hw; exact rfl; focus (repeat' first | exact l6.nil | exact Imp.refl rfl | exact Imp.frz rfl rfl rfl | (refine Imp.I8 rfl rfl ?_ ?_; (focus ((try simp only [List.length_append]); omega)); (focus first | rfl | assumption)) | refine l6.cons ?_ ?_); done))
 exact S.done (d9.out rfl (Imp.refl (by rfl)) rfl)
theorem b2u (l : List Vt) (hl : Vbs 1073741824 l) : FZ 100 [vts l] (ints (K4 l)) := by
 refine l8.of a7D a7x (by exact Nat.le_of_ble_eq_true rfl) fun w O hw => ?_
 have h1 := a4l l hl
 obtain ⟨hn, hb⟩ := hl
 unfold K4
 generalize W9 l 8 = e at *
 simp only [a2P, l5, TT, II, OA, OB, OC, MM, LL, VV, FF, MG, LG, VG, FG]
 simp only [vts, ints] at *
 (repeat first | refine uA ?_ | (apply S.exit; exact rfl) | (refine uK ?_ ?_; focus first | omega | trivial | exact id | (intros; simp_all <;> omega)) | simp (disch := omega) only [go_sem, Nat.reduceBEq, Nat.reduceAdd, Nat.reduceLeDiff, Int.reduceToNat, Int.reducePow, ww] | (refine uD h1 ?_ ?_ ?_; exact tz hw; exact rfl))
 refine S.cond rfl (fun hc => ?_) (fun hc => ?_)
 ·rw [if_pos (by simpa using hc)]
  (repeat first | refine uA ?_ | (apply S.exit; exact rfl) | (refine uK ?_ ?_; focus first | omega | trivial | exact id | (intros; simp_all <;> omega)) | simp (disch := omega) only [go_sem, Nat.reduceBEq, Nat.reduceAdd, Nat.reduceLeDiff, Int.reduceToNat, Int.reducePow, ww])
  exact S.done (d9.out rfl (Imp.refl rfl) rfl)
 rw [if_neg (by simpa using hc)]
 (repeat first | refine uA ?_ | (apply S.exit; exact rfl) | (refine uK ?_ ?_; focus first | omega | trivial | exact id | (intros; simp_all <;> omega)) | simp (disch := omega) only [go_sem, Nat.reduceBEq, Nat.reduceAdd, Nat.reduceLeDiff, Int.reduceToNat, Int.reducePow, ww, List.length_map])
 refine S.loop (X := Nat) (fun i => ⟨[(11, vts l), (12, ints l.length), (13, ints i)], []⟩) (fun i => i <= l.length /\ l.all okV = (l.drop i).all okV) (fun i => l.length - i) 0 ⟨Nat.zero_le _, rfl⟩ (by (repeat first | refine uA ?_ | (refine ⟨?_, ?_⟩; focus first | rfl | trivial | (simp [slot]; done)) | rfl | trivial | simp)) ?_
 rintro i ⟨hi, hg⟩
 simp only [vts, ints] at hi ⊢
 (repeat first | refine uA ?_ | (apply S.exit; exact rfl) | (refine uK ?_ ?_; focus first | omega | trivial | exact id | (intros; simp_all <;> omega)) | simp (disch := omega) only [go_sem, Nat.reduceBEq, Nat.reduceAdd, Nat.reduceLeDiff, Int.reduceToNat, Int.reducePow, ww])
 (refine uJ rfl (fun hc => ?_) fun hc => ?_)
 ·have hgi := List.getElem?_eq_getElem (show i < l.length by omega)
  generalize l[i]'(_) = v at hgi
  have hv := hb v (List.mem_of_getElem? hgi)
  have hs := a3z (f := okV) hgi
  rw [b2M] at hs
  have o1 := a3E _ (Rbs.two (by decide) (hv.1.mono (m := 17179869184) (by decide)) (hv.2.mono (m := 17179869184) (by decide)))
  generalize [v.x, v.y].all o8 = q at *
  simp only [rts, rcs, sb, List.map_cons, List.map_nil] at o1
  (repeat first | refine uA ?_ | (apply S.exit; exact rfl) | (refine uK ?_ ?_; focus first | omega | trivial | exact id | (intros; simp_all <;> omega)) | simp (disch := omega) only [go_sem, Nat.reduceBEq, Nat.reduceAdd, Nat.reduceLeDiff, Int.reduceToNat, Int.reducePow, ww, hgi, Option.map_some, List.length_map, Vt.enc, sb, Int.toNat_natCast] | (refine uE o1 ?_ ?_ ?_ ?_; exact tz hw; exact rfl; focus (repeat' first | exact l6.nil | exact Imp.refl rfl | exact Imp.frz rfl rfl rfl | (refine Imp.I8 rfl rfl ?_ ?_; (focus ((try simp only [List.length_append, hgi, Option.map_some, List.length_map, Vt.enc, sb, Int.toNat_natCast]); omega)); (focus first | rfl | assumption)) | refine l6.cons ?_ ?_); done))
  refine S.cond rfl (fun hc2 => ?_) (fun hc2 => ?_)
  ·rw [hg, hs, show q = false by simpa using hc2, Bool.false_and, if_neg (by decide)]
   (repeat first | refine uA ?_ | (apply S.exit; exact rfl) | (refine uK ?_ ?_; focus first | omega | trivial | exact id | (intros; simp_all <;> omega)) | simp (disch := omega) only [go_sem, Nat.reduceBEq, Nat.reduceAdd, Nat.reduceLeDiff, Int.reduceToNat, Int.reducePow, ww])
   exact S.done (d9.out rfl (Imp.refl rfl) rfl)
  ·(repeat first | refine uA ?_ | (apply S.exit; exact rfl) | (refine uK ?_ ?_; focus first | omega | trivial | exact id | (intros; simp_all <;> omega)) | simp (disch := omega) only [go_sem, Nat.reduceBEq, Nat.reduceAdd, Nat.reduceLeDiff, Int.reduceToNat, Int.reducePow, ww])
   refine S.next (i + 1) ⟨by omega, by rw [hg, hs, show q = true by simpa using hc2, Bool.true_and]⟩ (by omega) (by (repeat first | refine uA ?_ | (refine ⟨?_, ?_⟩; focus first | rfl | trivial | (simp [slot]; done)) | rfl | trivial | simp))
 ·rw [hg, a4N (by omega), if_pos rfl]
  (repeat first | refine uA ?_ | (apply S.exit; exact rfl) | (refine uK ?_ ?_; focus first | omega | trivial | exact id | (intros; simp_all <;> omega)) | simp (disch := omega) only [go_sem, Nat.reduceBEq, Nat.reduceAdd, Nat.reduceLeDiff, Int.reduceToNat, Int.reducePow, ww])
  exact S.done (d9.out rfl (Imp.refl rfl) rfl)
end Go.Proofs.YtogfpjohjphngaaGreatDoor
namespace Go.Proofs.YtogfpjohjphngaaGreatDoor.Eng
open Go Go.RowKit
theorem p8.b6v {E : Ctx} {rs rs' : List Res} {pk : List Nat} (ex : List Res) {f : Nat} {args : List C} {s : C} (h : p8 E rs f args s rs' pk) (hl : rs'.length = rs.length) (hb : rs.all (Res.bdr rs.length) = true) (ha : C.bdL rs.length args = true) : p8 E (rs ++ ex) f args s (rs' ++ ex.map (Res.u6 pk)) pk := by
 intro av ν w vs hR hav hF hD
 have hlen := hR.len
 have hl1 : (ν.take rs.length).length = rs.length := by rw [List.length_take, hlen, List.length_append]; omega
 generalize hν1 : ν.take rs.length = ν1 at hl1
 have hown := fun b => a3U hlen b
 rw [hν1] at hown
 have hx : ∀ b k r x, ex[k]? = some r -> ν[rs.length + k]? = some x -> fp r x b -> ¬ owned rs ν1 b := by
  rintro b k r x h1 h2 h3 ⟨l, q, y, g1, g2, g3⟩
  have hlt := (List.getElem?_eq_some_iff.1 g1).1
  rw [<- hν1] at g2
  exact hR.dis l (rs.length + k) q r y x b (by omega) (by rw [List.getElem?_append_left hlt]; exact g1) (by rw [List.getElem?_append_right (by omega), show rs.length + k - rs.length = k by omega]; exact h1) (R8 g2) h2 g3 h3
 let av' : Nat -> Prop := fun b => OO av (rs ++ ex) ν b /\ ¬ owned rs ν1 b
 have hOO : ∀ b, OO av' rs ν1 b -> OO av (rs ++ ex) ν b := fun b hb => by
  rcases hb with hb | hb
  ·exact hb.1
  ·exact .inr ((hown b).2 (.inl hb))
 have hRG : RG av' E.own0 E.w0.heap.size ν1 rs w := by
  refine ⟨hl1, fun k r hk => ?_, fun l m q q' y y' b hne h1 h2 h3 h4 => ?_, fun b hb => ?_, fun b hb => ?_, hR.n0⟩
  ·have hlt := (List.getElem?_eq_some_iff.1 hk).1
   obtain ⟨x, hx, hok⟩ := hR.res k r (by rw [List.getElem?_append_left hlt]; exact hk)
   refine ⟨x, by rw [<- hν1]; exact I4 hlt hx, ?_⟩
   rw [<- hν1]
   rw [List.all_eq_true] at hb
   exact b8T (hb r (List.mem_of_getElem? hk)) (by rw [hν1]; exact hOO) hok
  ·have g1 := (List.getElem?_eq_some_iff.1 h1).1
   have g2 := (List.getElem?_eq_some_iff.1 h2).1
   rw [<- hν1] at h3 h4
   exact hR.dis l m q q' y y' b hne (by rw [List.getElem?_append_left g1]; exact h1) (by rw [List.getElem?_append_left g2]; exact h2) (R8 h3) (R8 h4)
  ·obtain ⟨g1, g2, g3⟩ := hR.low b ((hown b).2 (.inl hb))
   exact ⟨g1, fun h => h.2 hb, g3⟩
  ·rcases hb.1 with h1 | h1
   ·exact hR.av b h1
   ·exact (hR.low b h1).1
 have hnav : ∀ b, av b -> ¬ owned rs ν1 b := fun b hb ho => (hR.low b ((hown b).2 (.inl ho))).2.1 hb
 have hD' : j5 ν1 w (OO av' rs ν1) args vs := by
  have := j5.keep (Keeps.sub hOO) (j5.takeν rs.length ha hD)
  rwa [hν1] at this
 refine (h av' ν1 w vs hRG (fun b hb => ⟨.inl (hav b hb), hnav b (hav b hb)⟩) hF hD').mono ?_
 rintro e w' ⟨y, ν', rfl, h1, h2, h3⟩
 have hl' : ν'.length = rs.length := by rw [h1.len, hl]
 let ν2 : List Value := ν' ++ ν.drop rs.length
 have hdl : (ν.drop rs.length).length = ex.length := by rw [List.length_drop, hlen, List.length_append]; omega
 have hlen' : ν2.length = (rs' ++ ex.map (Res.u6 pk)).length := by rw [List.length_append, List.length_append, hl', hdl, hl, List.length_map]
 have tk : ν2.take rs'.length = ν' := by rw [hl, <- hl']; simp [ν2]
 have tl : ∀ k, ν2[rs.length + k]? = ν[rs.length + k]? := fun k => by
  show (ν' ++ ν.drop rs.length)[rs.length + k]? = _
  rw [List.getElem?_append_right (by omega), hl', show rs.length + k - rs.length = k by omega, List.getElem?_drop]
 have hown' := fun b => a3U hlen' b
 rw [tk, hl] at hown'
 have hnu : R9 [] ν' ν2 := fun k x _ hx => by show (ν' ++ _)[k]? = _; rw [List.getElem?_append_left (List.getElem?_eq_some_iff.1 hx).1]; exact hx
 have hnu2 : R9 pk ν ν2 := fun k x hk hx => by
  rcases Nat.lt_or_ge k rs.length with h0 | h0
  ·show (ν' ++ _)[k]? = _
   rw [List.getElem?_append_left (by omega)]
   exact h2.nu k x hk (by rw [<- hν1]; exact I4 h0 hx)
  ·have := tl (k - rs.length)
   rw [show rs.length + (k - rs.length) = k by omega] at this
   rw [this]; exact hx
 have hxo : ∀ b k r x, ex[k]? = some r -> ν[rs.length + k]? = some x -> fp r x b -> owned (rs ++ ex) ν b := fun b k r x g1 g2 g3 => (hown b).2 (.inr ⟨k, r, x, g1, g2, g3⟩)
 have hex : ∀ b, (∃ k r x, (ex.map (Res.u6 pk))[k]? = some r /\ ν2[rs.length + k]? = some x /\ fp r x b) -> ∃ k r x, ex[k]? = some r /\ ν[rs.length + k]? = some x /\ fp r x b := by
  rintro b ⟨k, r, x, g1, g2, g3⟩
  rw [List.getElem?_map] at g1
  cases hk : ex[k]? with
  | none => rw [hk] at g1; cases g1
  | some r0 =>
   rw [hk] at g1
   simp only [Option.map_some, Option.some.injEq] at g1
   subst g1
   rw [a0i] at g3
   exact ⟨k, r0, x, hk, by rw [<- tl]; exact g2, g3⟩
 have hOO' : ∀ b, OO av (rs' ++ ex.map (Res.u6 pk)) ν2 b -> OO av' rs' ν' b := fun b hb => by
  rcases hb with hb | hb
  ·exact .inl ⟨.inl hb, hnav b hb⟩
  ·rcases (hown' b).1 hb with hb | hb
   ·exact .inr hb
   ·obtain ⟨k, r, x, g1, g2, g3⟩ := hex b hb
    exact .inl ⟨.inr (hxo b k r x g1 g2 g3), hx b k r x g1 g2 g3⟩
 have hM : Mv (rs ++ ex) ν w pk (rs' ++ ex.map (Res.u6 pk)) ν2 w' := by
  refine ⟨h2.os, h2.tape, h2.output, h2.size, fun b hb hn => h2.block b hb fun ho => hn ((hown b).2 (.inl ho)), fun b hb => ?_, hnu2⟩
  rcases (hown' b).1 hb with hb | hb
  ·rcases h2.own b hb with g | g
   ·exact .inl ((hown b).2 (.inl g))
   ·exact .inr g
  ·obtain ⟨k, r, x, g1, g2, g3⟩ := hex b hb
   exact .inl (hxo b k r x g1 g2 g3)
 have old : ∀ {l q z}, l < rs'.length -> (rs' ++ ex.map (Res.u6 pk))[l]? = some q -> ν2[l]? = some z -> rs'[l]? = some q /\ ν'[l]? = some z := fun hlt a1 a2 => by
  rw [List.getElem?_append_left hlt] at a1
  exact ⟨a1, by rw [<- tk]; exact I4 hlt a2⟩
 have new : ∀ {l q z b}, rs'.length <= l -> (rs' ++ ex.map (Res.u6 pk))[l]? = some q -> ν2[l]? = some z -> fp q z b -> ∃ q0, ex[l - rs'.length]? = some q0 /\ ν[rs.length + (l - rs'.length)]? = some z /\ fp q0 z b := fun {l q z b} hge a1 a2 a3 => by
  rw [List.getElem?_append_right hge, List.getElem?_map] at a1
  cases hk : ex[l - rs'.length]? with
  | none => rw [hk] at a1; cases a1
  | some q0 =>
   rw [hk] at a1
   simp only [Option.map_some, Option.some.injEq] at a1
   subst a1
   rw [a0i] at a3
   refine ⟨q0, rfl, ?_, a3⟩
   rw [<- tl, show rs.length + (l - rs'.length) = l by omega]; exact a2
 refine ⟨y, ν2, rfl, ⟨hlen', fun k r hk => ?_, fun l m q q' z z' b hne g1 g2 g3 g4 g5 g6 => ?_, fun b hb => ?_, fun b hb => Nat.lt_of_lt_of_le (hR.av b hb) h2.size, Nat.le_trans hR.n0 h2.size⟩, hM, Den.keep (Keeps.sub hOO') (Den.nu hnu (fun k hk => by cases hk) h3)⟩
 ·rcases Nat.lt_or_ge k rs'.length with hlt | hge
  ·rw [List.getElem?_append_left hlt] at hk
   obtain ⟨x, hx', hok⟩ := h1.res k r hk
   exact ⟨x, hnu k x (fun hk => by cases hk) hx', c0t hnu hOO' hok⟩
  ·rw [List.getElem?_append_right hge, List.getElem?_map] at hk
   cases hk0 : ex[k - rs'.length]? with
   | none => rw [hk0] at hk; cases hk
   | some r0 =>
    rw [hk0] at hk
    simp only [Option.map_some, Option.some.injEq] at hk
    subst hk
    have hk' : (rs ++ ex)[k]? = some r0 := by rw [List.getElem?_append_right (by omega), <- hl]; exact hk0
    obtain ⟨x, hx', hok⟩ := hR.res k r0 hk'
    have hx2 : ν[rs.length + (k - rs'.length)]? = some x := by rw [show rs.length + (k - rs'.length) = k by omega]; exact hx'
    refine ⟨x, by have := tl (k - rs'.length); rw [show rs.length + (k - rs'.length) = k by omega] at this; rw [this]; exact hx', ?_⟩
    exact hok.mv (O' := OO av (rs' ++ ex.map (Res.u6 pk)) ν2) (hM.keeps (av := av)) hM.nu (fun b hf => h2.block b (hR.lt hk' hx' hf) (hx b (k - rs'.length) r0 x hk0 hx2 hf))
 ·rcases Nat.lt_or_ge l rs'.length with hl2 | hl2 <;> rcases Nat.lt_or_ge m rs'.length with hm2 | hm2
  ·obtain ⟨a1, a2⟩ := old hl2 g1 g3
   obtain ⟨a3, a4⟩ := old hm2 g2 g4
   exact h1.dis l m q q' z z' b hne a1 a3 a2 a4 g5 g6
  ·obtain ⟨a1, a2⟩ := old hl2 g1 g3
   obtain ⟨q0, a3, a4, a5⟩ := new hm2 g2 g4 g6
   rcases h2.own b ⟨l, q, z, a1, a2, g5⟩ with ho | ho
   ·exact hx b _ q0 z' a3 a4 a5 ho
   ·have := (hR.low b (hxo b _ q0 z' a3 a4 a5)).1; omega
  ·obtain ⟨q0, a1, a2, a5⟩ := new hl2 g1 g3 g5
   obtain ⟨a3, a4⟩ := old hm2 g2 g4
   rcases h2.own b ⟨m, q', z', a3, a4, g6⟩ with ho | ho
   ·exact hx b _ q0 z a1 a2 a5 ho
   ·have := (hR.low b (hxo b _ q0 z a1 a2 a5)).1; omega
  ·obtain ⟨q0, a1, a2, a5⟩ := new hl2 g1 g3 g5
   obtain ⟨q1, a3, a4, a6⟩ := new hm2 g2 g4 g6
   rw [show rs.length + (l - rs'.length) = l by omega] at a2
   rw [show rs.length + (m - rs'.length) = m by omega] at a4
   exact hR.dis l m q0 q1 z z' b hne (by rw [List.getElem?_append_right (by omega), <- hl]; exact a1) (by rw [List.getElem?_append_right (by omega), <- hl]; exact a3) a2 a4 a5 a6
 ·rcases (hown' b).1 hb with hb | hb
  ·obtain ⟨a1, a2, a3⟩ := h1.low b hb
   exact ⟨a1, fun ha => a2 ⟨.inl ha, hnav b ha⟩, a3⟩
  ·obtain ⟨k, r, x, g1, g2, g3⟩ := hex b hb
   obtain ⟨a1, a2, a3⟩ := hR.low b (hxo b k r x g1 g2 g3)
   exact ⟨Nat.lt_of_lt_of_le a1 h2.size, a2, a3⟩
theorem p8.quiet {P : Program} {f : Nat} {args : List C} {s s' : C} {rs' : List Res} (h : ∀ E : Ctx, E.P = P -> p8 E [] f args s rs' []) (hi : Imp rs' [] s s') (hc : s'.cl = true) : r9 P f args s' := by
 intro O w vs hO hA
 have ho0 : ∀ b, ¬ owned [] [] b := fun b ⟨k, r, x, hk, _⟩ => by simp at hk
 have hRG : RG O (fun _ => False) w.heap.size [] [] w := ⟨rfl, fun k r hk => by simp at hk, fun k l r r' x x' b _ hk => by simp at hk, fun b hb => (ho0 b hb).elim, hO, Nat.le_refl _⟩
 have hsub : ∀ b, OO O [] [] b -> O b := fun b hb => hb.elim id fun h => (ho0 b h).elim
 refine (h ⟨P, fun _ => false, 0, w, fun _ => False, O, [], []⟩ rfl O [] w vs hRG (fun b hb => hb) ⟨rfl, rfl, rfl, Nat.le_refl _, fun _ _ _ => rfl⟩ ((FzL.keep (Keeps.sub hsub) hA).den [])).mono ?_
 rintro e w' ⟨y, ν', rfl, h1, h2, h3⟩
 have hC : Cut O rs' [] ν' := Cut.of h1 (by simp [O7])
 have h4 := hi O (fun _ => False) w.heap.size ν' w' y h1 hC h3
 exact ⟨y, rfl, ⟨h2.os, h2.tape, h2.output, h2.size, fun b hb => h2.block b hb (ho0 b)⟩, Fz.keep (Keeps.sub fun b hb => .inl hb) (Den.fz hc h4)⟩
end Go.Proofs.YtogfpjohjphngaaGreatDoor.Eng
namespace Go.Proofs.YtogfpjohjphngaaGreatDoor
open Go Go.RowKit Eng
set_option maxRecDepth 10000
set_option maxHeartbeats 16000000
def nmR (n : Nms) : List (List C) := n.map fun s => [sb s]
theorem c1J (n : Nms) (s : List UInt8) (hn : n.length <= 1099511627776) : r9 Tryz.prog 202 [.sl 1 (nmR n), sb s] (ints (a1b (fun x => decide (s = x)) n)) := by
 refine r9.of a1T a1U (by exact Nat.le_of_ble_eq_true rfl) fun w O => ?_
 simp only [a0a, l5, TT, II, OA, OB, OC, MM, LL, VV, FF, MG, LG, VG, FG, nmR, sb]
 (repeat first | refine uA ?_ | (apply S.exit; exact rfl) | (refine uK ?_ ?_; focus first | omega | trivial | exact id | (intros; simp_all <;> omega)) | simp (disch := omega) only [go_sem, Nat.reduceBEq, Nat.reduceAdd, Nat.reduceLeDiff, Int.reduceToNat, Int.reducePow, ww, List.length_map])
 refine S.loop (X := Nat) (fun i => ⟨[(0, .sl 1 (nmR n)), (1, sb s), (7, ints n.length), (8, ints i)], []⟩) (fun i => i <= n.length /\ ∀ j, j < i -> ∀ x, n[j]? = some x -> decide (s = x) = false) (fun i => n.length - i) 0 ⟨Nat.zero_le _, fun _ h => absurd h (Nat.not_lt_zero _)⟩ (by simp only [nmR, sb]; exact (by (repeat first | refine uA ?_ | (refine ⟨?_, ?_⟩; focus first | rfl | trivial | (simp [slot]; done)) | rfl | trivial | simp))) ?_
 rintro i ⟨hi, hm⟩
 simp only [nmR, sb, ints]
 (repeat first | refine uA ?_ | (apply S.exit; exact rfl) | (refine uK ?_ ?_; focus first | omega | trivial | exact id | (intros; simp_all <;> omega)) | simp (disch := omega) only [go_sem, Nat.reduceBEq, Nat.reduceAdd, Nat.reduceLeDiff, Int.reduceToNat, Int.reducePow, ww])
 (refine uJ rfl (fun hc => ?_) fun hc => ?_)
 ·have hgi := List.getElem?_eq_getElem (show i < n.length by omega)
  generalize n[i]'(_) = x at hgi
  (repeat first | refine uA ?_ | (apply S.exit; exact rfl) | (refine uK ?_ ?_; focus first | omega | trivial | exact id | (intros; simp_all <;> omega)) | simp (disch := omega) only [go_sem, Nat.reduceBEq, Nat.reduceAdd, Nat.reduceLeDiff, Int.reduceToNat, Int.reducePow, ww, hgi, Option.map_some, List.length_map, Int.toNat_natCast, b1W])
  refine S.cond rfl (fun hc2 => ?_) (fun hc2 => ?_)
  ·rw [a3o (p := fun x => decide (s = x)) hgi hc2 hm]
   (repeat first | refine uA ?_ | (apply S.exit; exact rfl) | (refine uK ?_ ?_; focus first | omega | trivial | exact id | (intros; simp_all <;> omega)) | simp (disch := omega) only [go_sem, Nat.reduceBEq, Nat.reduceAdd, Nat.reduceLeDiff, Int.reduceToNat, Int.reducePow, ww])
   exact S.done (d9.out rfl (Imp.refl rfl) rfl)
  ·(repeat first | refine uA ?_ | (apply S.exit; exact rfl) | (refine uK ?_ ?_; focus first | omega | trivial | exact id | (intros; simp_all <;> omega)) | simp (disch := omega) only [go_sem, Nat.reduceBEq, Nat.reduceAdd, Nat.reduceLeDiff, Int.reduceToNat, Int.reducePow, ww])
   refine S.next (i + 1) ⟨by omega, fun j hj y hy => ?_⟩ (by omega) (by (repeat first | refine uA ?_ | (refine ⟨?_, ?_⟩; focus first | rfl | trivial | (simp [slot]; done)) | rfl | trivial | simp))
   rcases Nat.lt_or_ge j i with h1 | h1
   ·exact hm j h1 y hy
   ·have : j = i := by omega
    subst this
    rw [hgi] at hy
    cases hy
    exact hc2
 ·have hi' : i = n.length := by omega
  subst hi'
  rw [a2B hm]
  (repeat first | refine uA ?_ | (apply S.exit; exact rfl) | (refine uK ?_ ?_; focus first | omega | trivial | exact id | (intros; simp_all <;> omega)) | simp (disch := omega) only [go_sem, Nat.reduceBEq, Nat.reduceAdd, Nat.reduceLeDiff, Int.reduceToNat, Int.reducePow, ww])
  exact S.done (d9.out rfl (Imp.refl rfl) rfl)
theorem c0X (n : Nms) (s : List UInt8) : n.any (fun x => decide (s = x)) = n.contains s := by
 rw [Bool.eq_iff_iff, List.any_eq_true, List.contains_iff_mem]
 exact ⟨fun ⟨x, h1, h2⟩ => by rw [of_decide_eq_true h2]; exact h1, fun h => ⟨s, h, by simp⟩⟩
theorem c1L (n : Nms) (s : List UInt8) (hn : n.length <= 1099511627776) : r9 Tryz.prog 99 [.sl 1 (nmR n), sb s] (.v (.bool (n.contains s))) := by
 refine r9.of a1p a1q (by exact Nat.le_of_ble_eq_true rfl) fun w O => ?_
 have h := c1J n s hn
 rw [<- c0X, <- a3l]
 generalize a1b (fun x => decide (s = x)) n = k at *
 simp only [U6, l5, TT, II, OA, OB, OC, MM, LL, VV, FF, MG, LG, VG, FG]
 simp only [sb, ints] at *
 (repeat first | refine uA ?_ | (apply S.exit; exact rfl) | (refine uK ?_ ?_; focus first | omega | trivial | exact id | (intros; simp_all <;> omega)) | simp (disch := omega) only [go_sem, Nat.reduceBEq, Nat.reduceAdd, Nat.reduceLeDiff, Int.reduceToNat, Int.reducePow, ww] | (refine uB h ?_ ?_; exact rfl))
 exact S.done (d9.out rfl (Imp.refl rfl) rfl)
def rsR (w : Wk) (n : Nms) : List Res := [.box 31 w.enc, .box 153 [.rv 2], .row 9 1 (nmR n)]
theorem c1t {E : Ctx} (hP : E.P = Tryz.prog) (w : Wk) (n : Nms) (s : List UInt8) (hs : s.length <= 1099511627776) (hn : n.length <= 1000000) :
  p8 E (rsR w n) 98 [sb s, .bp 1 0] (ints (J2 n s).1) (rsR w (J2 n s).2) [2] := by
 obtain ⟨P, eff', N, w0, own0, av0, nu0, pk0⟩ := E
 simp only at hP
 subst hP
 refine p8.of (eff := eff) a6e a5Z (by exact Nat.le_of_ble_eq_true rfl) fun w' own av ν hν => ?_
 have hν0 : ν.length <= 3 := by rw [hν]; exact Nat.le_refl _
 have h1 := c1y s hs
 have h2 := c1L n s (by omega)
 have hap : nmR (n ++ [s]) = nmR n ++ [[sb s]] := by simp [nmR]
 unfold J2
 generalize a0A s = q at *
 generalize n.contains s = c at *
 have hl : (nmR n).length = n.length := by simp [nmR]
 obtain ⟨arms, walls, parts, slots, gates, walk⟩ := w
 simp only [a1Y, l5, TT, II, OA, OB, OC, MM, LL, VV, FF, MG, LG, VG, FG]
 simp only [rsR, Wk.enc, ams, wls, pts, sls, gts, sb, ints] at h1 h2 hap ⊢
 (repeat first | refine uA ?_ | (apply S.exit; exact rfl) | (refine uK ?_ ?_; focus first | omega | trivial | exact id | (intros; simp_all <;> omega)) | simp (disch := omega) only [go_sem, Nat.reduceBEq, Nat.reduceAdd, Nat.reduceLeDiff, Int.reduceToNat, Int.reducePow, ww] | (refine uB h1 ?_ ?_; exact rfl))
 refine S.cond rfl (fun hc => ?_) (fun hc => ?_)
 ·rw [if_pos (by simpa using hc)]
  (repeat first | refine uA ?_ | (apply S.exit; exact rfl) | (refine uK ?_ ?_; focus first | omega | trivial | exact id | (intros; simp_all <;> omega)) | simp (disch := omega) only [go_sem, Nat.reduceBEq, Nat.reduceAdd, Nat.reduceLeDiff, Int.reduceToNat, Int.reducePow, ww])
  (refine S.done ?_; simp only [x9, p9, go_sem, Nat.reduceBEq, Nat.reduceAdd, Nat.reduceLeDiff, Int.reduceToNat, Int.reducePow]; (repeat (refine ⟨?_, ?_⟩; focus first | trivial | omega | simp)); exact d9.Q9 (Imp.refl rfl) (by (repeat first | refine uA ?_ | (refine ⟨?_, ?_⟩; focus first | rfl | trivial | (simp [slot]; done)) | rfl | trivial | simp)) (Nat.le_trans hν0 (by simp)))
 rw [if_neg (by simpa using hc)]
 (repeat first | refine uA ?_ | (apply S.exit; exact rfl) | (refine uK ?_ ?_; focus first | omega | trivial | exact id | (intros; simp_all <;> omega)) | simp (disch := omega) only [go_sem, Nat.reduceBEq, Nat.reduceAdd, Nat.reduceLeDiff, Int.reduceToNat, Int.reducePow, ww] | (refine uC h2 ?_ ?_ ?_; exact rfl; focus (repeat' first | exact l6.nil | exact Imp.refl rfl | exact Imp.frz rfl rfl rfl | (refine Imp.I8 rfl rfl ?_ ?_; (focus ((try simp only [List.length_append]); omega)); (focus first | rfl | assumption)) | refine l6.cons ?_ ?_); done))
 refine S.cond rfl (fun hc => ?_) (fun hc => ?_)
 ·rw [if_pos hc]
  (repeat first | refine uA ?_ | (apply S.exit; exact rfl) | (refine uK ?_ ?_; focus first | omega | trivial | exact id | (intros; simp_all <;> omega)) | simp (disch := omega) only [go_sem, Nat.reduceBEq, Nat.reduceAdd, Nat.reduceLeDiff, Int.reduceToNat, Int.reducePow, ww])
  (refine S.done ?_; simp only [x9, p9, go_sem, Nat.reduceBEq, Nat.reduceAdd, Nat.reduceLeDiff, Int.reduceToNat, Int.reducePow]; (repeat (refine ⟨?_, ?_⟩; focus first | trivial | omega | simp)); exact d9.Q9 (Imp.refl rfl) (by (repeat first | refine uA ?_ | (refine ⟨?_, ?_⟩; focus first | rfl | trivial | (simp [slot]; done)) | rfl | trivial | simp)) (Nat.le_trans hν0 (by simp)))
 ·rw [if_neg (by rw [hc]; decide)]
  simp only [hap]
  (repeat first | refine uA ?_ | (apply S.exit; exact rfl) | (refine uK ?_ ?_; focus first | omega | trivial | exact id | (intros; simp_all <;> omega)) | simp (disch := omega) only [go_sem, Nat.reduceBEq, Nat.reduceAdd, Nat.reduceLeDiff, Int.reduceToNat, Int.reducePow, ww, hl])
  (refine S.done ?_; simp only [x9, p9, go_sem, Nat.reduceBEq, Nat.reduceAdd, Nat.reduceLeDiff, Int.reduceToNat, Int.reducePow]; (repeat (refine ⟨?_, ?_⟩; focus first | trivial | omega | simp)); exact d9.Q9 (Imp.refl rfl) (by (repeat first | refine uA ?_ | (refine ⟨?_, ?_⟩; focus first | rfl | trivial | (simp [slot]; done)) | rfl | trivial | simp)) (Nat.le_trans hν0 (by simp)))
theorem a5I (n : Nms) (s : List UInt8) : (J2 n s).2.length <= n.length + 1 := by
 unfold J2
 split
 ·simp
 ·split
  ·simp
  ·simp
theorem b5g (p q : Rat) : decide (Nm.A9 p q = 1) = !decide (Nm.A9 p q <= 0) := by
 have h : -1 <= Nm.A9 p q /\ Nm.A9 p q <= 1 := by
  unfold Nm.A9
  repeat' split
  all_goals first
   | omega
   | (have := a8Y (p.num.natAbs * q.den) (q.num.natAbs * p.den); omega)
 by_cases h1 : Nm.A9 p q <= 0
 ·rw [decide_eq_true h1, decide_eq_false (by omega)]; rfl
 ·rw [decide_eq_false h1, decide_eq_true (by omega)]; rfl
theorem b2O (q : Rat) : -1 <= E9 q /\ E9 q <= 1 := by unfold E9; split; omega; split <;> omega
theorem sign_one (q : Rat) : decide (E9 q < 1) = !decide (0 < E9 q) := by
 rw [<- decide_not]; apply decide_eq_decide.2; omega
theorem b7P (q : Rat) : decide (E9 q = -1) = !decide (0 <= E9 q) := by
 have := b2O q
 rw [<- decide_not]; apply decide_eq_decide.2; omega
open Go Eng
def a2Q : l9 := ⟨206, [.tmp 2], .seq (.reg [OA 1 (.box 31 (TT 0)), OA 2 (.mv (II 0))]) (.seq (.seq (.reg [FF 24 0 1, VV 25 24, OA 26 (.len false (TT 25)), OA 27 (.bin .gtr (TT 26) (II 4)), MM 28 27, FG 29 1 1 28 false, VG 30 29 28 false, OC 31
 (.len false (TT 30)) 28 false, OC 32 (.bin .gtr (TT 31) (II 10)) 28 false, OA 33 (.pick (TT 28) (.const (.bool true)) (TT 32)), MM 34 33, FG 35 2 1 34 false, VG 36 35 34 false, OC 37 (.len false (TT 36)) 34 false, OC 38 (.bin
 .gtr (TT 37) (II 6)) 34 false, OA 39 (.pick (TT 34) (.const (.bool true)) (TT 38)), MM 40 39, FG 41 3 1 40 false, VG 42 41 40 false, OC 43 (.len false (TT 42)) 40 false, OC 44 (.bin .gtr (TT 43) (II 8)) 40 false, OA 45 (.pick
 (TT 40) (.const (.bool true)) (TT 44)), MM 46 45, FG 47 4 1 46 false, VG 48 47 46 false, OC 49 (.len false (TT 48)) 46 false, OC 50 (.bin .gtr (TT 49) (II 4)) 46 false, OA 51 (.pick (TT 46) (.const (.bool true)) (TT 50))])
 (.cond (TT 51) (.seq (.reg [OA 2 (.mv (II 2))]) .ret) .skip)) (.seq (.seq (.reg [FF 52 0 1, VV 53 52, OA 54 (.len false (TT 53)), OA 55 (.bin .eql (TT 54) (II 0))]) (.cond (TT 55) (.seq (.reg [OA 2 (.mv (II 4))]) .ret) .skip))
 (.seq (.reg [OA 3 (.alloc 153 [.slice none 0 0])]) (.seq (.reg [OA 56 (.clo 98 [TT 3]), MM 4 56]) (.seq (.seq (.reg [FF 57 0 1, VV 58 57, OA 59 (.len false (TT 58)), OA 60 (.mv (II 0))]) (.block 0 (.loop (.seq (.reg [OA 61 (.bin
 .lss (TT 60) (TT 59))]) (.seq (.cond (TT 61) .skip (.exit 0)) (.seq (.block 1 (.seq (.reg [OA 62 (.j4 12 (TT 58) (TT 60)), LL 63 12 62, OA 6 (.alloc 76 [.string ⟨#[]⟩, .bool false, .string ⟨#[]⟩, .string ⟨#[]⟩, .bool false,
 .string ⟨#[]⟩, .string ⟨#[]⟩, .bool false, .bool false, .string ⟨#[]⟩, .string ⟨#[]⟩, .slice none 0 0]), OB (.store 12 (TT 6) (TT 63))]) (.seq (.seq (.reg [LL 64 12 6, OA 65 (.call 87 [TT 64]), MM 7 65]) (.seq (.reg [MM 66 7, OA
 67 (.bin .neq (TT 66) (II 0))]) (.cond (TT 67) (.seq (.reg [MM 68 7, MM 2 68]) .ret) .skip))) (.seq (.reg [MM 69 4, FF 70 0 6, VV 71 70, OA 72 (.G6 (TT 69) [TT 71]), MM 8 72]) (.seq (.reg [MM 73 8, OA 74 (.bin .neq (TT 73)
 (II 0))]) (.cond (TT 74) (.seq (.reg [MM 75 8, MM 2 75]) .ret) .skip)))))) (.reg [OA 76 (.bin .add (TT 60) (II 1)), MM 60 76]))))))) (.seq (.seq (.reg [FF 77 1 1, VV 78 77, OA 79 (.len false (TT 78)), OA 80 (.mv (II 0))])
 (.block 2 (.loop (.seq (.reg [OA 81 (.bin .lss (TT 80) (TT 79))]) (.seq (.cond (TT 81) .skip (.exit 2)) (.seq (.block 3 (.seq (.reg [OA 82 (.j4 1 (TT 78) (TT 80)), VV 83 82, MM 10 83]) (.seq (.reg [MM 84 10, OA 85 (.call 100
 [TT 84]), MM 11 85]) (.seq (.reg [MM 86 11, OA 87 (.bin .neq (TT 86) (II 0))]) (.cond (TT 87) (.seq (.reg [MM 88 11, MM 2 88]) .ret) .skip))))) (.reg [OA 89 (.bin .add (TT 80) (II 1)), MM 80 89]))))))) (.seq (.seq (.reg [FF 90 2
 1, VV 91 90, OA 92 (.len false (TT 91)), OA 93 (.mv (II 0))]) (.block 4 (.loop (.seq (.reg [OA 94 (.bin .lss (TT 93) (TT 92))]) (.seq (.cond (TT 94) .skip (.exit 4)) (.seq (.block 5 (.seq (.reg [OA 95 (.j4 12 (TT 91) (TT
 93)), LL 96 12 95, OA 13 (.alloc 80 [.string ⟨#[]⟩, .slice none 0 0, .bool false, .string ⟨#[]⟩, .string ⟨#[]⟩, .bool false, .string ⟨#[]⟩, .string ⟨#[]⟩, .bool false, .bool false, .string ⟨#[]⟩, .string ⟨#[]⟩]), OB (.store 12
 (TT 13) (TT 96))]) (.seq (.seq (.reg [MM 97 4, FF 98 0 13, VV 99 98, OA 100 (.G6 (TT 97) [TT 99]), MM 14 100]) (.seq (.reg [MM 101 14, OA 102 (.bin .neq (TT 101) (II 0))]) (.cond (TT 102) (.seq (.reg [MM 103 14, MM 2 103])
 .ret) .skip))) (.seq (.seq (.reg [FF 104 1 13, VV 105 104, OA 106 (.call 100 [TT 105]), MM 15 106]) (.seq (.reg [MM 107 15, OA 108 (.bin .neq (TT 107) (II 0))]) (.cond (TT 108) (.seq (.reg [MM 109 15, MM 2 109]) .ret) .skip)))
 (.seq (.reg [FF 110 2 13, LL 111 10 110, OA 112 (.call 22 [TT 111]), OA 113 (.un .not (TT 112))]) (.cond (TT 113) (.seq (.reg [OA 2 (.mv (II 1))]) .ret) .skip)))))) (.reg [OA 114 (.bin .add (TT 93) (II 1)), MM 93 114])))))))
 (.seq (.seq (.reg [FF 115 3 1, VV 116 115, OA 117 (.len false (TT 116)), OA 118 (.mv (II 0))]) (.block 6 (.loop (.seq (.reg [OA 119 (.bin .lss (TT 118) (TT 117))]) (.seq (.cond (TT 119) .skip (.exit 6)) (.seq (.block 7 (.seq
 (.reg [OA 120 (.j4 14 (TT 116) (TT 118)), LL 121 14 120, OA 17 (.alloc 57 [.string ⟨#[]⟩, .bool false, .string ⟨#[]⟩, .string ⟨#[]⟩, .bool false, .string ⟨#[]⟩, .string ⟨#[]⟩, .bool false, .bool false, .string ⟨#[]⟩, .string
 ⟨#[]⟩, .bool false, .string ⟨#[]⟩, .string ⟨#[]⟩]), OB (.store 14 (TT 17) (TT 121))]) (.seq (.seq (.reg [MM 122 4, FF 123 0 17, VV 124 123, OA 125 (.G6 (TT 122) [TT 124]), MM 18 125]) (.seq (.reg [MM 126 18, OA 127 (.bin .neq
 (TT 126) (II 0))]) (.cond (TT 127) (.seq (.reg [MM 128 18, MM 2 128]) .ret) .skip))) (.seq (.reg [FF 129 1 17, LL 130 10 129, OA 131 (.call 22 [TT 130]), OA 132 (.un .not (TT 131)), MM 133 132, FG 134 11 17 133 false, LG 135 3
 134 133 false, OC 136 (.bsl 29 3 1 [.bool false, .string ⟨#[]⟩, .string ⟨#[]⟩] [(0, TT 135)]) 133 false, OC 137 (.call 85 [TT 136]) 133 false, OC 138 (.un .not (TT 137)) 133 false, OA 139 (.pick (TT 133) (.const (.bool true))
 (TT 138)), MM 140 139, FG 141 11 17 140 false, LG 142 3 141 140 false, OC 143 (.call 15 [TT 142]) 140 false, OC 144 (.bin .lss (TT 143) (II 1)) 140 false, OA 145 (.pick (TT 140) (.const (.bool true)) (TT 144))]) (.cond (TT 145)
 (.seq (.reg [OA 2 (.mv (II 1))]) .ret) .skip))))) (.reg [OA 146 (.bin .add (TT 118) (II 1)), MM 118 146]))))))) (.seq (.seq (.reg [FF 147 4 1, VV 148 147, OA 149 (.len false (TT 148)), OA 150 (.mv (II 0))]) (.block 8 (.loop
 (.seq (.reg [OA 151 (.bin .lss (TT 150) (TT 149))]) (.seq (.cond (TT 151) .skip (.exit 8)) (.seq (.block 9 (.seq (.reg [OA 152 (.j4 13 (TT 148) (TT 150)), LL 153 13 152, OA 20 (.alloc 116 [.string ⟨#[]⟩, .bool false, .string
 ⟨#[]⟩, .string ⟨#[]⟩, .bool false, .string ⟨#[]⟩, .string ⟨#[]⟩, .bool false, .string ⟨#[]⟩, .string ⟨#[]⟩, .bool false, .string ⟨#[]⟩, .string ⟨#[]⟩]), OB (.store 13 (TT 20) (TT 153))]) (.seq (.seq (.reg [MM 154 4, FF 155 0 20,
 VV 156 155, OA 157 (.G6 (TT 154) [TT 156]), MM 21 157]) (.seq (.reg [MM 158 21, OA 159 (.bin .neq (TT 158) (II 0))]) (.cond (TT 159) (.seq (.reg [MM 160 21, MM 2 160]) .ret) .skip))) (.seq (.C9 [.q, .q, .q, .l, .l, .l, .a,
 .a, .e (some 22) false, .e (some 23) false] [FF 161 1 20, FF 162 0 161, LL 163 6 162, FF 164 1 20, FF 165 6 164, LL 166 6 165, OA 22 (.alloc 51 [.bool false, .string ⟨#[]⟩, .string ⟨#[]⟩, .bool false, .string ⟨#[]⟩, .string
 ⟨#[]⟩]), OA 23 (.alloc 51 [.bool false, .string ⟨#[]⟩, .string ⟨#[]⟩, .bool false, .string ⟨#[]⟩, .string ⟨#[]⟩]), OB (.store 6 (TT 22) (TT 163)), OB (.store 6 (TT 23) (TT 166))]) (.seq (.reg [FF 167 0 22, LL 168 3 167, FF 169 3
 22, LL 170 3 169, FF 171 0 23, LL 172 3 171, FF 173 3 23, LL 174 3 173, OA 175 (.bsl 29 3 4 [.bool false, .string ⟨#[]⟩, .string ⟨#[]⟩] [(0, TT 168), (1, TT 170), (2, TT 172), (3, TT 174)]), OA 176 (.call 85 [TT 175]), OA 177
 (.un .not (TT 176)), MM 178 177, FG 179 0 22 178 false, LG 180 3 179 178 false, FG 181 0 23 178 false, LG 182 3 181 178 false, OC 183 (.call 52 [TT 180, TT 182]) 178 false, OC 184 (.bin .eql (TT 183) (II 1)) 178 false, OA 185
 (.pick (TT 178) (.const (.bool true)) (TT 184)), MM 186 185, FG 187 3 22 186 false, LG 188 3 187 186 false, FG 189 3 23 186 false, LG 190 3 189 186 false, OC 191 (.call 52 [TT 188, TT 190]) 186 false, OC 192 (.bin .eql (TT 191)
 (II 1)) 186 false, OA 193 (.pick (TT 186) (.const (.bool true)) (TT 192))]) (.cond (TT 193) (.seq (.reg [OA 2 (.mv (II 1))]) .ret) .skip)))))) (.reg [OA 194 (.bin .add (TT 150) (II 1)), MM 150 194]))))))) (.seq (.seq (.reg [FF
 195 5 1, LL 196 3 195, OA 197 (.bsl 29 3 1 [.bool false, .string ⟨#[]⟩, .string ⟨#[]⟩] [(0, TT 196)]), OA 198 (.call 85 [TT 197]), OA 199 (.un .not (TT 198)), MM 200 199, FG 201 5 1 200 false, LG 202 3 201 200 false, OC 203
 (.call 15 [TT 202]) 200 false, OC 204 (.bin .eql (TT 203) (II (-1))) 200 false, OA 205 (.pick (TT 200) (.const (.bool true)) (TT 204))]) (.cond (TT 205) (.seq (.reg [OA 2 (.mv (II 1))]) .ret) .skip)) (.seq (.reg [OA 2 (.mv (II
 0))]) .ret)))))))))))⟩
theorem a7F : j6 eff Tryz.prog Tryz.f24 = some a2Q := by kernel_rfl
theorem a7E : Tryz.prog.funcs[24]? = some Tryz.f24 := Tryz.func24
end Go.Proofs.YtogfpjohjphngaaGreatDoor
