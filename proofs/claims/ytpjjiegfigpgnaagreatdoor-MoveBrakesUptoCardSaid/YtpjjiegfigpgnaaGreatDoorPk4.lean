/- A part of the proof: lemmas only, with the conditions that each names. -/
import Derived.Test.YtpjjiegfigpgnaaGreatDoorProg
import Derived.KernelRfl
import Derived.Test.YtpjjiegfigpgnaaGreatDoorPk3
set_option linter.all false
namespace Go.Proofs.YtpjjiegfigpgnaaGreatDoor
open Go Go.RowKit Eng
set_option maxRecDepth 10000
set_option maxHeartbeats 4000000
namespace Nm
def G6 (l : List Nat) : List Nat := (l.reverse.dropWhile (· == 0)).reverse
theorem a5o (l : List Nat) : G6 (l ++ [0]) = G6 l := by simp [G6]
theorem a3k {l : List Nat} {x : Nat} (h : x ≠ 0) : G6 (l ++ [x]) = l ++ [x] := by simp [G6, h]
theorem a6i : G6 [] = [] := rfl
theorem a4p (l : List Nat) : G6 l = l.take (G6 l).length /\ (G6 l).length <= l.length /\ (∀ B, wv B (G6 l) = wv B l) /\ (∀ h : G6 l ≠ [], (G6 l).getLast h ≠ 0) := by
 obtain ⟨r, rfl⟩ : ∃ r, l = r.reverse := ⟨l.reverse, by simp⟩
 induction r with
 | nil => simp [a6i]
 | cons x r ih =>
  rw [List.reverse_cons]
  by_cases hx : x = 0
  ·subst hx
   rw [a5o]
   obtain ⟨h1, h2, h3, h4⟩ := ih
   refine ⟨?_, by rw [c1C]; omega, fun B => ?_, h4⟩
   ·rw [List.take_append_of_le_length h2]; exact h1
   ·rw [h3, a6O]; simp
  ·rw [a3k hx]
   refine ⟨by rw [c1N], c1w _, fun B => rfl, fun h => ?_⟩
   rw [List.getLast_concat]; exact hx
theorem b6k (l : List Nat) : (G6 l).length <= l.length := (a4p l).2.1
theorem b7b (B : Nat) (l : List Nat) : wv B (G6 l) = wv B l := (a4p l).2.2.1 B
theorem b4U (l : List Nat) : l.take (G6 l).length = G6 l := (a4p l).1.symm
theorem a8F (l : List Nat) (h : G6 l ≠ []) : (G6 l).getLast h ≠ 0 := (a4p l).2.2.2 h
end Nm
def rw2 (s : Bool) (u o : List Nat) : List Res := match s with
 | true => [.row 160 1 (ls u), .row 160 1 (ls o)]
 | false => [.row 160 1 (ls o), .row 160 1 (ls u)]
section
variable {rs rs' l : List Res} {u o : List Nat} {r : Res}
instance : Sb (L8 rs rs' (rw2 true u o) l) (L8 rs rs' [.row 160 1 (ls u), .row 160 1 (ls o)] l) := ⟨id⟩
instance : Sb (L8 rs rs' (rw2 false u o) l) (L8 rs rs' [.row 160 1 (ls o), .row 160 1 (ls u)] l) := ⟨id⟩
instance : Sb (L8 rs rs' (r :: l) (rw2 true u o)) (L8 rs rs' (r :: l) [.row 160 1 (ls u), .row 160 1 (ls o)]) := ⟨id⟩
instance : Sb (L8 rs rs' (r :: l) (rw2 false u o)) (L8 rs rs' (r :: l) [.row 160 1 (ls o), .row 160 1 (ls u)]) := ⟨id⟩
end
def kx (s : Bool) : Nat := match s with
 | true => 0
 | false => 1
theorem a6Q {E : Ctx} (hP : E.P = Tryz.prog) (s : Bool) (u o : List Nat) (lo n : Nat) (hl : u.length <= 274877906944) (hn : lo + n <= u.length) (hlo : lo < u.length) :
    l6 E (rw2 s u o) 222 [.wv (kx s) 1 lo n] (.wv (kx s) 1 lo (Nm.G6 ((u.drop lo).take n)).length) (rw2 s u o) [] := by
  obtain ⟨P, eff', N, w0, own0, av0, nu0, pk0⟩ := E
  simp only at hP
  subst hP
  cases s
  all_goals
    refine l6.of (eff := eff) Tryz.func222 (by cbv) (by exact c1E rfl) fun w own av ν hν => ?_
    simp only [j6, rw2, kx]
    have hν0 : ν.length <= 2 := by rw [hν]; exact c1w _
    (repeat first | refine uA ?_ | (refine uK ?_ ?_; focus first | omega | (intros; simp_all <;> omega)) | simp (disch := omega) only [go_sem, Nat.reduceBEq, Nat.reduceAdd, ww])
  · refine S.loop (X := Nat) (fun m => ⟨[(0, .wv 1 1 lo m)], [.row 160 1 (ls o), .row 160 1 (ls u)]⟩) (fun m => m <= n /\ Nm.G6 ((u.drop lo).take m) = Nm.G6 ((u.drop lo).take n)) (fun m => m) n ⟨c1w _, rfl⟩ (Ent.mk _ _ (by (repeat first | refine uA ?_ | (refine ⟨?_, ?_⟩; focus first | rfl | simp [slot]) | rfl | simp)) (by (repeat first | refine uA ?_ | (refine ⟨?_, ?_⟩; focus first | rfl | simp [slot]) | rfl | simp)) hν0) ?_
    rintro m ⟨hm, ht⟩
    have hq : lo + ((m : Int) - 1).toNat < u.length := by omega
    have hg : u[lo + ((m : Int) - 1).toNat]? = some (u[lo + ((m : Int) - 1).toNat]'hq) := c1n hq
    have hsn : 0 < m -> (u.drop lo).take m = (u.drop lo).take (m - 1) ++ [u[lo + ((m : Int) - 1).toNat]'hq] := fun h => by
      have e1 : (u.drop lo)[m - 1]? = some (u[lo + ((m : Int) - 1).toNat]'hq) := by
        rw [c2c, <- hg]; congr 1; omega
      conv => lhs; rw [show m = m - 1 + 1 by omega, List.take_add_one, e1]
      rfl
    generalize u[lo + ((m : Int) - 1).toNat]'hq = c at *
    (repeat first | refine uA ?_ | (refine uK ?_ ?_; focus first | omega | (intros; simp_all <;> omega)) | simp (disch := omega) only [go_sem, Nat.reduceBEq, Nat.reduceAdd, ww, r9, I6, hg, c1p, lm])
    (refine uJ rfl (fun hc => ?_) fun hc => ?_)
    · obtain ⟨h0, h1⟩ := hc
      have hc0 : c = 0 := by omega
      have hm1 : ((m : Int) - 1) = ((m - 1 : Nat) : Int) := by omega
      rw [hsn (by omega), hc0, Nm.a5o] at ht
      have hm2 : ((m : Int) - 1).toNat = m - 1 := by omega
      (repeat first | refine uA ?_ | (refine uK ?_ ?_; focus first | omega | (intros; simp_all <;> omega)) | simp (disch := omega) only [go_sem, Nat.reduceBEq, Nat.reduceAdd, ww, r9, hm2, Nat.add_zero, Nat.sub_zero, Int.toNat_zero])
      refine S.next (x := m) (m - 1) ⟨by omega, ht⟩ (by omega) (Ent.mk _ _ (by (repeat first | refine uA ?_ | (refine ⟨?_, ?_⟩; focus first | rfl | simp [slot]) | rfl | simp)) (by (repeat first | refine uA ?_ | (refine ⟨?_, ?_⟩; focus first | rfl | simp [slot]) | rfl | simp)) hν0)
    · have hmt : (Nm.G6 ((u.drop lo).take n)).length = m := by
        rw [<- ht]
        rcases c1K m with h0 | h0
        · subst h0; simp [Nm.a6i]
        · have hcn : c ≠ 0 := by omega
          rw [hsn h0, Nm.a3k hcn, c1C, c1y, c1Y, List.length_singleton]
          omega
      rw [hmt]
      (repeat first | refine uA ?_ | (refine uK ?_ ?_; focus first | omega | (intros; simp_all <;> omega)) | simp (disch := omega) only [go_sem, Nat.reduceBEq, Nat.reduceAdd, ww])
      exact S.done (j3.own rfl)
  · refine S.loop (X := Nat) (fun m => ⟨[(0, .wv 0 1 lo m)], [.row 160 1 (ls u), .row 160 1 (ls o)]⟩) (fun m => m <= n /\ Nm.G6 ((u.drop lo).take m) = Nm.G6 ((u.drop lo).take n)) (fun m => m) n ⟨c1w _, rfl⟩ (Ent.mk _ _ (by (repeat first | refine uA ?_ | (refine ⟨?_, ?_⟩; focus first | rfl | simp [slot]) | rfl | simp)) (by (repeat first | refine uA ?_ | (refine ⟨?_, ?_⟩; focus first | rfl | simp [slot]) | rfl | simp)) hν0) ?_
    rintro m ⟨hm, ht⟩
    have hq : lo + ((m : Int) - 1).toNat < u.length := by omega
    have hg : u[lo + ((m : Int) - 1).toNat]? = some (u[lo + ((m : Int) - 1).toNat]'hq) := c1n hq
    have hsn : 0 < m -> (u.drop lo).take m = (u.drop lo).take (m - 1) ++ [u[lo + ((m : Int) - 1).toNat]'hq] := fun h => by
      have e1 : (u.drop lo)[m - 1]? = some (u[lo + ((m : Int) - 1).toNat]'hq) := by
        rw [c2c, <- hg]; congr 1; omega
      conv => lhs; rw [show m = m - 1 + 1 by omega, List.take_add_one, e1]
      rfl
    generalize u[lo + ((m : Int) - 1).toNat]'hq = c at *
    (repeat first | refine uA ?_ | (refine uK ?_ ?_; focus first | omega | (intros; simp_all <;> omega)) | simp (disch := omega) only [go_sem, Nat.reduceBEq, Nat.reduceAdd, ww, r9, I6, hg, c1p, lm])
    (refine uJ rfl (fun hc => ?_) fun hc => ?_)
    · obtain ⟨h0, h1⟩ := hc
      have hc0 : c = 0 := by omega
      have hm1 : ((m : Int) - 1) = ((m - 1 : Nat) : Int) := by omega
      rw [hsn (by omega), hc0, Nm.a5o] at ht
      have hm2 : ((m : Int) - 1).toNat = m - 1 := by omega
      (repeat first | refine uA ?_ | (refine uK ?_ ?_; focus first | omega | (intros; simp_all <;> omega)) | simp (disch := omega) only [go_sem, Nat.reduceBEq, Nat.reduceAdd, ww, r9, hm2, Nat.add_zero, Nat.sub_zero, Int.toNat_zero])
      refine S.next (x := m) (m - 1) ⟨by omega, ht⟩ (by omega) (Ent.mk _ _ (by (repeat first | refine uA ?_ | (refine ⟨?_, ?_⟩; focus first | rfl | simp [slot]) | rfl | simp)) (by (repeat first | refine uA ?_ | (refine ⟨?_, ?_⟩; focus first | rfl | simp [slot]) | rfl | simp)) hν0)
    · have hmt : (Nm.G6 ((u.drop lo).take n)).length = m := by
        rw [<- ht]
        rcases c1K m with h0 | h0
        · subst h0; simp [Nm.a6i]
        · have hcn : c ≠ 0 := by omega
          rw [hsn h0, Nm.a3k hcn, c1C, c1y, c1Y, List.length_singleton]
          omega
      rw [hmt]
      (repeat first | refine uA ?_ | (refine uK ?_ ?_; focus first | omega | (intros; simp_all <;> omega)) | simp (disch := omega) only [go_sem, Nat.reduceBEq, Nat.reduceAdd, ww])
      exact S.done (j3.own rfl)
theorem b8U {E : Ctx} (hP : E.P = Tryz.prog) (s : Bool) (u o : List Nat) (lo n lo2 n2 : Nat) (hl : u.length <= 274877906944) (hlo2 : o.length <= 274877906944) (hn : lo + n <= u.length) (hlo : lo < u.length) (hn2 : lo2 + n2 <= o.length) (hnn : n2 <= n)
  (hu : Nm.K8 u) (ho : Nm.K8 o) {X Y : Nat} (hX : X = Nm.wv 18446744073709551616 ((u.drop lo).take n)) (hY : Y = Nm.wv 18446744073709551616 ((o.drop lo2).take n2)) (hle : Y <= X) :
  l6 E (rw2 s u o) 211 [.wv (kx s) 1 lo n, .wv (kx !s) 1 lo2 n2] (.wv (kx s) 1 lo (Nm.G6 (Nm.dig 18446744073709551616 n (X - Y))).length) (rw2 s (put u lo (Nm.dig 18446744073709551616 n (X - Y))) o) [] := by
 obtain ⟨P, eff', N, w0, own0, av0, nu0, pk0⟩ := E
 simp only at hP
 subst hP
 have hul : ((u.drop lo).take n).length = n := by rw [c1y, c1Y]; omega
 have hol2 : ((o.drop lo2).take n2).length = n2 := by rw [c1y, c1Y]; omega
 have hua : Nm.K8 ((u.drop lo).take n) := (hu.drop lo).take _
 have hoa : Nm.K8 ((o.drop lo2).take n2) := (ho.drop lo2).take _
 have hps : put u lo ((u.drop lo).take n) = u := a3F hn
 have hgo2 : ∀ i, i < n2 -> o[lo2 + i]? = ((o.drop lo2).take n2)[i]? := fun i hi => by rw [List.getElem?_take_of_lt hi, c2c]
 generalize (u.drop lo).take n = x at *
 generalize (o.drop lo2).take n2 = y at *
 cases s
 all_goals
  refine l6.of (eff := eff) Tryz.func211 (by cbv) (by exact c1E rfl) fun w own av ν hν => ?_
  simp only [j6, rw2, kx, Bool.not_true, Bool.not_false]
  have hν0 : ν.length <= 2 := by rw [hν]; exact c1w _
  (repeat first | refine uA ?_ | (refine uK ?_ ?_; focus first | omega | (intros; simp_all <;> omega)) | simp (disch := omega) only [go_sem, Nat.reduceBEq, Nat.reduceAdd, ww])
 ·refine S.loop (X := Nat × List Nat × Nat) (fun s => ⟨[(0, .wv 1 1 lo n), (1, .wv 0 1 lo2 n2), (5, .v (.int .u64 (s.2.2 : Int))), (8, .wv 1 1 lo n), (9, ints n), (10, ints s.1)], [.row 160 1 (ls o), .row 160 1 (ls (put u lo s.2.1))]⟩) (fun s => s.1 <= n /\ Nm.a2r x y s.1 s.2.1 s.2.2) (fun s => n - s.1) (0, x, 0) ⟨c1u _, Nm.a5S y hua⟩ (by simp only [hps]; exact Ent.mk _ _ (by (repeat first | refine uA ?_ | (refine ⟨?_, ?_⟩; focus first | rfl | simp [slot]) | rfl | simp)) (by (repeat first | refine uA ?_ | (refine ⟨?_, ?_⟩; focus first | rfl | simp [slot]) | rfl | simp)) hν0) ?_
  rintro ⟨i, out, c⟩ ⟨hi, hinv⟩
  simp only [ints] at hi hinv ⊢
  have hol := hinv.1
  have hc1 := hinv.2.2.1
  have hpl : (put u lo out).length = u.length := Y7 (by omega)
  (repeat first | refine uA ?_ | (refine uK ?_ ?_; focus first | omega | (intros; simp_all <;> omega)) | simp (disch := omega) only [go_sem, Nat.reduceBEq, Nat.reduceAdd, ww])
  (refine uJ rfl (fun hc => ?_) fun hc => ?_)
  ·have hi' : i < n := by omega
   have hix : i < x.length := by omega
   have hgx : x[i]? = some (x[i]'hix) := c1n hix
   have hgo : (put u lo out)[lo + i]? = some (x[i]'hix) := by rw [P9 (by omega) (by omega), Nm.a0d hinv.2.2.2.1, hgx]
   have hx64 := hua _ (c1B hix)
   have hk := fun t c' h1 h2 h3 => Nm.a5P (t := t) (c' := c') hinv hix h1 h2 h3
   generalize x[i]'hix = xi at *
   have hsub : ∀ d : Nat, d < 18446744073709551616 -> ∃ t c' : Nat, ((xi : Int) + 18446744073709551616 - (d : Int) - (c : Int)) % 18446744073709551616 = (t : Int) /\ (if (xi : Int) < (d : Int) + (c : Int) then (1 : Int) else 0) = (c' : Int) /\ t < 18446744073709551616 /\ c' <= 1 /\ t + c + d = xi + 18446744073709551616 * c' := fun d hd => by
    by_cases h : xi < d + c
    ·exact ⟨xi + 18446744073709551616 - d - c, 1, by omega, by rw [if_pos (by omega)]; rfl, by omega, by omega, by omega⟩
    ·exact ⟨xi - d - c, 0, by omega, by rw [if_neg (by omega)]; rfl, by omega, by omega, by omega⟩
   have hsl : ∀ t, (put u lo out).set (lo + i) t = put u lo (out.set i t) := fun t => Y6 (by omega) (by omega)
   (repeat first | refine uA ?_ | (refine uK ?_ ?_; focus first | omega | (intros; simp_all <;> omega)) | simp (disch := omega) only [go_sem, Nat.reduceBEq, Nat.reduceAdd, ww, r9])
   (refine uJ rfl (fun hc => ?_) fun hc => ?_)
   ·have hiy : i < y.length := by omega
    have hgy : y[i]? = some (y[i]'hiy) := c1n hiy
    have hgy2 := (hgo2 i (by omega)).trans hgy
    have hy64 := hoa _ (c1B hiy)
    rw [Nm.getD_lt hiy] at hk
    generalize y[i]'hiy = yi at *
    obtain ⟨t, c', e1, e2, h1, h2, h3⟩ := hsub yi hy64
    have hk := hk t c' h1 h2 h3
    (repeat first | refine uA ?_ | (refine uK ?_ ?_; focus first | omega | (intros; simp_all <;> omega)) | simp (disch := omega) only [go_sem, Nat.reduceBEq, Nat.reduceAdd, ww, r9, I6, hgo, hgy2, hpl, c1p, lm, e1, e2, V7, hsl])
    refine S.next (x := (i, out, c)) (i + 1, _, _) ⟨hi', hk⟩ (by simp only; omega) (Ent.mk _ _ (by (repeat first | refine uA ?_ | (refine ⟨?_, ?_⟩; focus first | rfl | simp [slot]) | rfl | simp)) (by (repeat first | refine uA ?_ | (refine ⟨?_, ?_⟩; focus first | rfl | simp [slot]) | rfl | simp)) hν0)
   ·have hy0 : y.getD i 0 = 0 := by rw [c1z, c1R (by omega)]; rfl
    rw [hy0] at hk
    obtain ⟨t, c', e1, e2, h1, h2, h3⟩   := hsub 0 (by decide)
    rw [show ((0 : Nat) : Int) = 0 from rfl] at e1 e2
    have hk := hk t c' h1 h2 h3
    (repeat first | refine uA ?_ | (refine uK ?_ ?_; focus first | omega | (intros; simp_all <;> omega)) | simp (disch := omega) only [go_sem, Nat.reduceBEq, Nat.reduceAdd, ww, r9, I6, hgo, hpl, c1p, lm, e1, e2, V7, hsl])
    refine S.next (x := (i, out, c)) (i + 1, _, _) ⟨hi', hk⟩ (by simp only; omega) (Ent.mk _ _ (by (repeat first | refine uA ?_ | (refine ⟨?_, ?_⟩; focus first | rfl | simp [slot]) | rfl | simp)) (by (repeat first | refine uA ?_ | (refine ⟨?_, ?_⟩; focus first | rfl | simp [slot]) | rfl | simp)) hν0)
  ·have hi' : i = n := by omega
   subst hi'
   rw [<- hul] at hinv
   obtain ⟨he1, he2⟩ := Nm.a6v hinv (by omega) (by omega)
   have hd : out = Nm.dig 18446744073709551616 i (X - Y) := Nm.U7 (by decide) hinv.2.1 (by omega) (by omega)
   rw [<- hd]
   have hcut := fun (E : Ctx) (hP : E.P = Tryz.prog) => a6Q (E := E) hP (match 1 with | 0 => true | _ => false) (put u lo out) o lo i (by omega) (by omega) (by omega)
   rw [a1R (by omega) (by omega)] at hcut
   (repeat first | refine uA ?_ | (refine uK ?_ ?_; focus first | omega | (intros; simp_all <;> omega)) | simp (disch := omega) only [go_sem, Nat.reduceBEq, Nat.reduceAdd, ww] | refine l8.t (hcut _ rfl) ?_)
   exact S.done (j3.own rfl)
 ·refine S.loop (X := Nat × List Nat × Nat) (fun s => ⟨[(0, .wv 0 1 lo n), (1, .wv 1 1 lo2 n2), (5, .v (.int .u64 (s.2.2 : Int))), (8, .wv 0 1 lo n), (9, ints n), (10, ints s.1)], [.row 160 1 (ls (put u lo s.2.1)), .row 160 1 (ls o)]⟩) (fun s => s.1 <= n /\ Nm.a2r x y s.1 s.2.1 s.2.2) (fun s => n - s.1) (0, x, 0) ⟨c1u _, Nm.a5S y hua⟩ (by simp only [hps]; exact Ent.mk _ _ (by (repeat first | refine uA ?_ | (refine ⟨?_, ?_⟩; focus first | rfl | simp [slot]) | rfl | simp)) (by (repeat first | refine uA ?_ | (refine ⟨?_, ?_⟩; focus first | rfl | simp [slot]) | rfl | simp)) hν0) ?_
  rintro ⟨i, out, c⟩ ⟨hi, hinv⟩
  simp only [ints] at hi hinv ⊢
  have hol := hinv.1
  have hc1 := hinv.2.2.1
  have hpl : (put u lo out).length = u.length := Y7 (by omega)
  (repeat first | refine uA ?_ | (refine uK ?_ ?_; focus first | omega | (intros; simp_all <;> omega)) | simp (disch := omega) only [go_sem, Nat.reduceBEq, Nat.reduceAdd, ww])
  (refine uJ rfl (fun hc => ?_) fun hc => ?_)
  ·have hi' : i < n := by omega
   have hix : i < x.length := by omega
   have hgx : x[i]? = some (x[i]'hix) := c1n hix
   have hgo : (put u lo out)[lo + i]? = some (x[i]'hix) := by rw [P9 (by omega) (by omega), Nm.a0d hinv.2.2.2.1, hgx]
   have hx64 := hua _ (c1B hix)
   have hk := fun t c' h1 h2 h3 => Nm.a5P (t := t) (c' := c') hinv hix h1 h2 h3
   generalize x[i]'hix = xi at *
   have hsub : ∀ d : Nat, d < 18446744073709551616 -> ∃ t c' : Nat, ((xi : Int) + 18446744073709551616 - (d : Int) - (c : Int)) % 18446744073709551616 = (t : Int) /\ (if (xi : Int) < (d : Int) + (c : Int) then (1 : Int) else 0) = (c' : Int) /\ t < 18446744073709551616 /\ c' <= 1 /\ t + c + d = xi + 18446744073709551616 * c' := fun d hd => by
    by_cases h : xi < d + c
    ·exact ⟨xi + 18446744073709551616 - d - c, 1, by omega, by rw [if_pos (by omega)]; rfl, by omega, by omega, by omega⟩
    ·exact ⟨xi - d - c, 0, by omega, by rw [if_neg (by omega)]; rfl, by omega, by omega, by omega⟩
   have hsl : ∀ t, (put u lo out).set (lo + i) t = put u lo (out.set i t) := fun t => Y6 (by omega) (by omega)
   (repeat first | refine uA ?_ | (refine uK ?_ ?_; focus first | omega | (intros; simp_all <;> omega)) | simp (disch := omega) only [go_sem, Nat.reduceBEq, Nat.reduceAdd, ww, r9])
   (refine uJ rfl (fun hc => ?_) fun hc => ?_)
   ·have hiy : i < y.length := by omega
    have hgy : y[i]? = some (y[i]'hiy) := c1n hiy
    have hgy2 := (hgo2 i (by omega)).trans hgy
    have hy64 := hoa _ (c1B hiy)
    rw [Nm.getD_lt hiy] at hk
    generalize y[i]'hiy = yi at *
    obtain ⟨t, c', e1, e2, h1, h2, h3⟩ := hsub yi hy64
    have hk := hk t c' h1 h2 h3
    (repeat first | refine uA ?_ | (refine uK ?_ ?_; focus first | omega | (intros; simp_all <;> omega)) | simp (disch := omega) only [go_sem, Nat.reduceBEq, Nat.reduceAdd, ww, r9, I6, hgo, hgy2, hpl, c1p, lm, e1, e2, V7, hsl])
    refine S.next (x := (i, out, c)) (i + 1, _, _) ⟨hi', hk⟩ (by simp only; omega) (Ent.mk _ _ (by (repeat first | refine uA ?_ | (refine ⟨?_, ?_⟩; focus first | rfl | simp [slot]) | rfl | simp)) (by (repeat first | refine uA ?_ | (refine ⟨?_, ?_⟩; focus first | rfl | simp [slot]) | rfl | simp)) hν0)
   ·have hy0 : y.getD i 0 = 0 := by rw [c1z, c1R (by omega)]; rfl
    rw [hy0] at hk
    obtain ⟨t, c', e1, e2, h1, h2, h3⟩   := hsub 0 (by decide)
    rw [show ((0 : Nat) : Int) = 0 from rfl] at e1 e2
    have hk := hk t c' h1 h2 h3
    (repeat first | refine uA ?_ | (refine uK ?_ ?_; focus first | omega | (intros; simp_all <;> omega)) | simp (disch := omega) only [go_sem, Nat.reduceBEq, Nat.reduceAdd, ww, r9, I6, hgo, hpl, c1p, lm, e1, e2, V7, hsl])
    refine S.next (x := (i, out, c)) (i + 1, _, _) ⟨hi', hk⟩ (by simp only; omega) (Ent.mk _ _ (by (repeat first | refine uA ?_ | (refine ⟨?_, ?_⟩; focus first | rfl | simp [slot]) | rfl | simp)) (by (repeat first | refine uA ?_ | (refine ⟨?_, ?_⟩; focus first | rfl | simp [slot]) | rfl | simp)) hν0)
  ·have hi' : i = n := by omega
   subst hi'
   rw [<- hul] at hinv
   obtain ⟨he1, he2⟩ := Nm.a6v hinv (by omega) (by omega)
   have hd : out = Nm.dig 18446744073709551616 i (X - Y) := Nm.U7 (by decide) hinv.2.1 (by omega) (by omega)
   rw [<- hd]
   have hcut := fun (E : Ctx) (hP : E.P = Tryz.prog) => a6Q (E := E) hP (match 0 with | 0 => true | _ => false) (put u lo out) o lo i (by omega) (by omega) (by omega)
   rw [a1R (by omega) (by omega)] at hcut
   (repeat first | refine uA ?_ | (refine uK ?_ ?_; focus first | omega | (intros; simp_all <;> omega)) | simp (disch := omega) only [go_sem, Nat.reduceBEq, Nat.reduceAdd, ww] | refine l8.t (hcut _ rfl) ?_)
   exact S.done (j3.own rfl)
theorem b9E (i : Nat) (h : i <= 70368744177664) : IntKind.i64.wrap ((i : Int).tdiv 64) = ((i / 64 : Nat) : Int) := by
 have : (i : Int).tdiv 64 = ((i / 64 : Nat) : Int) := rfl
 rw [this, Eng.wrap_i64 (by omega)]
theorem b9p (i : Nat) : (i : Int).tmod 64 = ((i % 64 : Nat) : Int) := rfl
theorem b1N (o n : Nat) (ho : o < 18446744073709551616) : bits .or .u64 (o : Int) (((n % 18446744073709551616 : Nat)) : Int) = ((o ||| n % 18446744073709551616 : Nat) : Int) := a9a _ _ ho (Nat.mod_lt _ (by decide))
theorem a9U (x r : Nat) (hr : r <= 64) : IntKind.u64.wrap ((x : Int) * 2 ^ min r 64) = ((x * 2 ^ r % 18446744073709551616 : Nat) : Int) := by
 rw [show min r 64 = r by omega, <- a3C]; congr 1
theorem a6T {E : Ctx} (hP : E.P = Tryz.prog) (s : Bool) (u o : List Nat) (lo n by' z : Nat) (hl : u.length <= 274877906944) (hn : lo + n <= u.length) (hb : by' <= 70368744177664)
  (hu : Nm.K8 u) (hz : z ≠ 0) (hX : Nm.wv 18446744073709551616 ((u.drop lo).take n) = z * 2 ^ by') :
  by' / 64 < n /\ z < 18446744073709551616 ^ (n - by' / 64) /\ l6 E (rw2 s u o) 209 [.wv (kx s) 1 lo n, ints by'] (.wv (kx s) 1 (lo + by' / 64) (Nm.G6 (Nm.dig 18446744073709551616 (n - by' / 64) z)).length) (rw2 s (put u (lo + by' / 64) (Nm.dig 18446744073709551616 (n - by' / 64) z)) o) [] := by
 have hul : ((u.drop lo).take n).length = n := by rw [c1y, c1Y]; omega
 have hua : Nm.K8 ((u.drop lo).take n) := (hu.drop lo).take _
 have e2 : 2 ^ by' = 18446744073709551616 ^ (by' / 64) * 2 ^ (by' % 64) := by
  rw [show (18446744073709551616 : Nat) = 2 ^ 64 by decide, <- Nat.pow_mul, <- Nat.pow_add]; congr 1; omega
 have hjn : by' / 64 < n := by
  rcases c1Q (by' / 64) n with h | h
  ·exact h
  ·exfalso
   have h1 := Nm.K5 18446744073709551616 hua
   have h2 : 18446744073709551616 ^ n <= 18446744073709551616 ^ (by' / 64) := c1O (by decide) h
   have h3 : 18446744073709551616 ^ (by' / 64) <= 2 ^ by' := by rw [e2]; exact Nat.le_mul_of_pos_right _ (Nat.pow_pos (by decide))
   have h4 : 2 ^ by' <= z * 2 ^ by' := Nat.le_mul_of_pos_left _ (by omega)
   rw [hul] at h1
   omega
 have hdr : ((u.drop lo).take n).drop (by' / 64) = (u.drop (lo + by' / 64)).take (n - by' / 64) := by
  rw [List.drop_take, List.drop_drop]
 have hW1 : Nm.wv 18446744073709551616 ((u.drop (lo + by' / 64)).take (n - by' / 64)) = z * 2 ^ (by' % 64) := by
  rw [<- hdr, Nm.b3Z hua (by omega), hX, e2, <- c1S, Nat.mul_comm z, c1S, Nat.mul_comm (18446744073709551616 ^ _) (z * _), Nat.mul_div_cancel _ (Nat.pow_pos (by decide))]
 have hb64 : by' % 64 < 64 := Nat.mod_lt _ (by decide)
 have hjb : by' / 64 <= 1099511627776 := by omega
 clear hdr hX e2
 have hq1 := b9E by' hb
 have hq2 := b9p by'
 generalize by' / 64 = j at *
 generalize by' % 64 = b at *
 generalize hp : n - j = p at *
 generalize hl1 : lo + j = l1 at *
 have hlp : l1 + p <= u.length := by omega
 have hp0 : 0 < p := by omega
 have hpn : n - j = p := hp
 have hua1 : Nm.K8 ((u.drop l1).take p) := (hu.drop l1).take _
 have hps : put u l1 ((u.drop l1).take p) = u := a3F hlp
 have hrl : ((u.drop l1).take p).length = p := by rw [c1y, c1Y]; omega
 generalize (u.drop l1).take p = r0 at *
 have hzl : z < 18446744073709551616 ^ p := by
  have h1 := Nm.K5 18446744073709551616 hua1
  rw [hrl, hW1] at h1
  exact Nat.lt_of_le_of_lt (Nat.le_mul_of_pos_right _ (Nat.pow_pos (by decide))) h1
 refine ⟨hjn, hzl, ?_⟩
 clear hul hua
 obtain ⟨P, eff', N, w0, own0, av0, nu0, pk0⟩ := E
 simp only at hP
 subst hP
 cases s
 all_goals
  refine l6.of (eff := eff) Tryz.func209 (by cbv) (by exact c1E rfl) fun w own av ν hν => ?_
  simp only [j6, rw2, kx, ints]
  have hν0 : ν.length <= 2 := by rw [hν]; exact c1w _
  (repeat first | refine uA ?_ | (refine uK ?_ ?_; focus first | omega | trivial | (intro h; rw [h]; rfl) | (intro h h2; rw [h, h2]; rfl) | (intro h; (try simp at h); omega) | (intros; simp_all <;> omega)) | simp only [go_sem, Nat.reduceBEq, Nat.reduceAdd, Nat.reduceLeDiff, Int.reduceToNat, Int.reducePow, hq1, hq2, r9, hl1, hpn] | simp (disch := omega) only [ww, hq1, hq2, r9, hl1, hpn])
  (refine uJ rfl (fun hc => ?_) fun hc => ?_)
 ·(repeat first | refine uA ?_ | (refine uK ?_ ?_; focus first | omega | trivial | (intro h; rw [h]; rfl) | (intro h h2; rw [h, h2]; rfl) | (intro h; (try simp at h); omega) | (intros; simp_all <;> omega)) | simp only [go_sem, Nat.reduceBEq, Nat.reduceAdd, Nat.reduceLeDiff, Int.reduceToNat, Int.reducePow] | simp (disch := omega) only [ww])
  refine S.loop (X := Nat × List Nat) (fun s => ⟨[(0, .wv 1 1 l1 p), (1, ints b), (15, ints p), (16, ints s.1)], [.row 160 1 (ls o), .row 160 1 (ls (put u l1 s.2))]⟩) (fun s => s.1 <= p /\ Nm.a1p r0 (2 ^ b) s.1 s.2) (fun s => p - s.1) (0, r0) ⟨c1u _, Nm.a4l hua1⟩ (by simp only [hps]; exact Ent.mk _ _ (by (repeat first | refine uA ?_ | (refine ⟨?_, ?_⟩; focus first | rfl | trivial | (simp [slot]; done)) | rfl | trivial | simp)) (by (repeat first | refine uA ?_ | (refine ⟨?_, ?_⟩; focus first | rfl | trivial | (simp [slot]; done)) | rfl | trivial | simp)) hν0) ?_
  rintro ⟨i, out⟩ ⟨hi, hri⟩
  simp only [ints] at hi hri ⊢
  have hol := hri.1
  have hpl : (put u l1 out).length = u.length := Y7 (by omega)
  (repeat first | refine uA ?_ | (refine uK ?_ ?_; focus first | omega | trivial | (intro h; rw [h]; rfl) | (intro h h2; rw [h, h2]; rfl) | (intro h; (try simp at h); omega) | (intros; simp_all <;> omega)) | simp only [go_sem, Nat.reduceBEq, Nat.reduceAdd, Nat.reduceLeDiff, Int.reduceToNat, Int.reducePow] | simp (disch := omega) only [ww])
  (refine uJ rfl (fun hc => ?_) fun hc => ?_)
  ·have hi' : i < p := by omega
   have hir : i < r0.length := by omega
   have hgr : r0[i]? = some (r0[i]'hir) := c1n hir
   have hgo : (put u l1 out)[l1 + i]? = some (r0[i]'hir) := by
    rw [P9 (by omega) (by omega), Nm.a0d hri.2.2.1, hgr]
   have hr32' := hua1 _ (c1B hir)
   have hk := fun t ht => Nm.a4x (t := t) hri hb64 hir hua1 ht
   have hset : ∀ a, (put u l1 out).set (l1 + i) a = put u l1 (out.set i a) := fun a => Y6 (by omega) (by omega)
   generalize r0[i]'hir = ri at *
   have hsh : Int.fdiv (ri : Int) (2 ^ min b 64) = ((ri / 2 ^ b : Nat) : Int) := by
    rw [show min b 64 = b by omega, <- a1K]; congr 1
   have hrb : ri / 2 ^ b < 18446744073709551616 := Nat.lt_of_le_of_lt (Nat.div_le_self _ _) hr32'
   generalize ri / 2 ^ b = rs at *
   (repeat first | refine uA ?_ | (refine uK ?_ ?_; focus first | omega | trivial | (intro h; rw [h]; rfl) | (intro h h2; rw [h, h2]; rfl) | (intro h; (try simp at h); omega) | (intros; simp_all <;> omega)) | simp only [go_sem, Nat.reduceBEq, Nat.reduceAdd, Nat.reduceLeDiff, Int.reduceToNat, Int.reducePow, r9, I6, hgo, hpl, c1p, lm, V7, hsh, hset] | simp (disch := omega) only [ww, r9, I6, hgo, hpl, c1p, lm, V7, hsh, hset])
   (refine uJ rfl (fun hc => ?_) fun hc => ?_)
   ·have hi1 : i + 1 < r0.length := by omega
    have hpl1 : (put u l1 (out.set i rs)).length = u.length := Y7 (by rw [c2a]; omega)
    have hg1 : (put u l1 (out.set i rs))[l1 + i]? = some rs := by
     rw [<- hset, List.getElem?_set_self (by omega)]
    have hg3 : r0[i + 1]? = some (r0[i + 1]'hi1) := c1n hi1
    have hg2 : (put u l1 (out.set i rs))[l1 + (i + 1)]? = some (r0[i + 1]'hi1) := by
     have := P9 (us := u) (out := out) (k := l1) (i := i + 1) (by omega) (by omega)
     rw [<- hset, List.getElem?_set_ne (by omega), this]
     have h3 := congrArg (fun l => l[1]?) hri.2.2.1
     simp only [c2c] at h3
     rw [h3, hg3]
    have hn32 := hua1 _ (c1B hi1)
    have hgd : r0.getD (i + 1) 0 = r0[i + 1]'hi1 := Nm.getD_lt hi1
    rw [hgd] at hk
    generalize r0[i + 1]'hi1 = rn at *
    have hshl := a9U rn (64 - b) (by omega)
    have hrr : ((64 : Int) - (b : Int)).toNat = 64 - b := by omega
    have horl := b1N rs (rn * 2 ^ (64 - b)) hrb
    have hk := hk _ rfl
    rw [if_pos (by omega)] at hk
    generalize rn * 2 ^ (64 - b) = sh at *
    generalize hto : rs ||| sh % 18446744073709551616 = to at *
    have hset2 : (put u l1 (out.set i rs)).set (l1 + i) to = put u l1 (out.set i to) := by
     have := Y6 (us := u) (out := out.set i rs) (k := l1) (i := i) (v := to) (by rw [c2a]; omega) (by rw [c2a]; omega)
     rwa [List.set_set] at this
    have hi1n : ((i : Int) + 1).toNat = i + 1 := by omega
    (repeat first | refine uA ?_ | (refine uK ?_ ?_; focus first | omega | trivial | (intro h; rw [h]; rfl) | (intro h h2; rw [h, h2]; rfl) | (intro h; (try simp at h); omega) | (intros; simp_all <;> omega)) | simp only [go_sem, Nat.reduceBEq, Nat.reduceAdd, Nat.reduceLeDiff, Int.reduceToNat, Int.reducePow, r9, I6, hg1, hg2, hpl1, c1p, lm, hrr, hi1n, hshl, horl, V7, hset2] | simp (disch := omega) only [ww, r9, I6, hg1, hg2, hpl1, c1p, lm, hrr, hi1n, hshl, horl, V7, hset2])
    refine S.next (x := (i, out)) (i + 1, _) ⟨hi', hk.1⟩ (by simp only; omega) (Ent.mk _ _ (by (repeat first | refine uA ?_ | (refine ⟨?_, ?_⟩; focus first | rfl | trivial | (simp [slot]; done)) | rfl | trivial | simp)) (by (repeat first | refine uA ?_ | (refine ⟨?_, ?_⟩; focus first | rfl | trivial | (simp [slot]; done)) | rfl | trivial | simp)) hν0)
   ·have hk := hk _ rfl
    rw [if_neg (by omega)] at hk
    (repeat first | refine uA ?_ | (refine uK ?_ ?_; focus first | omega | trivial | (intro h; rw [h]; rfl) | (intro h h2; rw [h, h2]; rfl) | (intro h; (try simp at h); omega) | (intros; simp_all <;> omega)) | simp only [go_sem, Nat.reduceBEq, Nat.reduceAdd, Nat.reduceLeDiff, Int.reduceToNat, Int.reducePow] | simp (disch := omega) only [ww])
    refine S.next (x := (i, out)) (i + 1, _) ⟨hi', hk.1⟩ (by simp only; omega) (Ent.mk _ _ (by (repeat first | refine uA ?_ | (refine ⟨?_, ?_⟩; focus first | rfl | trivial | (simp [slot]; done)) | rfl | trivial | simp)) (by (repeat first | refine uA ?_ | (refine ⟨?_, ?_⟩; focus first | rfl | trivial | (simp [slot]; done)) | rfl | trivial | simp)) hν0)
  ·have hi' : i = p := by omega
   subst hi'
   rw [<- hrl] at hri
   have he := Nm.a4M hri (by omega) hW1
   have hd : out = Nm.dig 18446744073709551616 i z := Nm.U7 (by decide) hri.2.1 (by omega) he
   rw [<- hd]
   have hcut := fun (E : Ctx) (hP : E.P = Tryz.prog) => a6Q (E := E) hP (match 1 with | 0 => true | _ => false) (put u l1 out) o l1 i (by omega) (by omega) (by omega)
   rw [a1R (by omega) (by omega)] at hcut
   (repeat first | refine uA ?_ | (refine uK ?_ ?_; focus first | omega | trivial | (intro h; rw [h]; rfl) | (intro h h2; rw [h, h2]; rfl) | (intro h; (try simp at h); omega) | (intros; simp_all <;> omega)) | simp only [go_sem, Nat.reduceBEq, Nat.reduceAdd, Nat.reduceLeDiff, Int.reduceToNat, Int.reducePow] | simp (disch := omega) only [ww] | refine l8.t (hcut _ rfl) ?_)
   exact S.done (j3.own rfl)
 ·have hb0 : b = 0 := by omega
  subst hb0
  rw [Nat.pow_zero, Nat.mul_one] at hW1
  have hd : r0 = Nm.dig 18446744073709551616 p z := Nm.U7 (by decide) hua1 hrl hW1
  have hcut := fun (E : Ctx) (hP : E.P = Tryz.prog) => a6Q (E := E) hP (match 1 with | 0 => true | _ => false) u o l1 p (by omega) (by omega) (by omega)
  have hw : (u.drop l1).take p = r0 := by rw [<- hps]; exact a1R hrl.symm (by omega)
  rw [hw] at hcut
  rw [<- hd, hps]
  (repeat first | refine uA ?_ | (refine uK ?_ ?_; focus first | omega | trivial | (intro h; rw [h]; rfl) | (intro h h2; rw [h, h2]; rfl) | (intro h; (try simp at h); omega) | (intros; simp_all <;> omega)) | simp only [go_sem, Nat.reduceBEq, Nat.reduceAdd, Nat.reduceLeDiff, Int.reduceToNat, Int.reducePow] | simp (disch := omega) only [ww] | refine l8.t (hcut _ rfl) ?_)
  exact S.done (j3.own rfl)
 ·(repeat first | refine uA ?_ | (refine uK ?_ ?_; focus first | omega | trivial | (intro h; rw [h]; rfl) | (intro h h2; rw [h, h2]; rfl) | (intro h; (try simp at h); omega) | (intros; simp_all <;> omega)) | simp only [go_sem, Nat.reduceBEq, Nat.reduceAdd, Nat.reduceLeDiff, Int.reduceToNat, Int.reducePow] | simp (disch := omega) only [ww])
  refine S.loop (X := Nat × List Nat) (fun s => ⟨[(0, .wv 0 1 l1 p), (1, ints b), (15, ints p), (16, ints s.1)], [.row 160 1 (ls (put u l1 s.2)), .row 160 1 (ls o)]⟩) (fun s => s.1 <= p /\ Nm.a1p r0 (2 ^ b) s.1 s.2) (fun s => p - s.1) (0, r0) ⟨c1u _, Nm.a4l hua1⟩ (by simp only [hps]; exact Ent.mk _ _ (by (repeat first | refine uA ?_ | (refine ⟨?_, ?_⟩; focus first | rfl | trivial | (simp [slot]; done)) | rfl | trivial | simp)) (by (repeat first | refine uA ?_ | (refine ⟨?_, ?_⟩; focus first | rfl | trivial | (simp [slot]; done)) | rfl | trivial | simp)) hν0) ?_
  rintro ⟨i, out⟩ ⟨hi, hri⟩
  simp only [ints] at hi hri ⊢
  have hol := hri.1
  have hpl : (put u l1 out).length = u.length := Y7 (by omega)
  (repeat first | refine uA ?_ | (refine uK ?_ ?_; focus first | omega | trivial | (intro h; rw [h]; rfl) | (intro h h2; rw [h, h2]; rfl) | (intro h; (try simp at h); omega) | (intros; simp_all <;> omega)) | simp only [go_sem, Nat.reduceBEq, Nat.reduceAdd, Nat.reduceLeDiff, Int.reduceToNat, Int.reducePow] | simp (disch := omega) only [ww])
  (refine uJ rfl (fun hc => ?_) fun hc => ?_)
  ·have hi' : i < p := by omega
   have hir : i < r0.length := by omega
   have hgr : r0[i]? = some (r0[i]'hir) := c1n hir
   have hgo : (put u l1 out)[l1 + i]? = some (r0[i]'hir) := by
    rw [P9 (by omega) (by omega), Nm.a0d hri.2.2.1, hgr]
   have hr32' := hua1 _ (c1B hir)
   have hk := fun t ht => Nm.a4x (t := t) hri hb64 hir hua1 ht
   have hset : ∀ a, (put u l1 out).set (l1 + i) a = put u l1 (out.set i a) := fun a => Y6 (by omega) (by omega)
   generalize r0[i]'hir = ri at *
   have hsh : Int.fdiv (ri : Int) (2 ^ min b 64) = ((ri / 2 ^ b : Nat) : Int) := by
    rw [show min b 64 = b by omega, <- a1K]; congr 1
   have hrb : ri / 2 ^ b < 18446744073709551616 := Nat.lt_of_le_of_lt (Nat.div_le_self _ _) hr32'
   generalize ri / 2 ^ b = rs at *
   (repeat first | refine uA ?_ | (refine uK ?_ ?_; focus first | omega | trivial | (intro h; rw [h]; rfl) | (intro h h2; rw [h, h2]; rfl) | (intro h; (try simp at h); omega) | (intros; simp_all <;> omega)) | simp only [go_sem, Nat.reduceBEq, Nat.reduceAdd, Nat.reduceLeDiff, Int.reduceToNat, Int.reducePow, r9, I6, hgo, hpl, c1p, lm, V7, hsh, hset] | simp (disch := omega) only [ww, r9, I6, hgo, hpl, c1p, lm, V7, hsh, hset])
   (refine uJ rfl (fun hc => ?_) fun hc => ?_)
   ·have hi1 : i + 1 < r0.length := by omega
    have hpl1 : (put u l1 (out.set i rs)).length = u.length := Y7 (by rw [c2a]; omega)
    have hg1 : (put u l1 (out.set i rs))[l1 + i]? = some rs := by
     rw [<- hset, List.getElem?_set_self (by omega)]
    have hg3 : r0[i + 1]? = some (r0[i + 1]'hi1) := c1n hi1
    have hg2 : (put u l1 (out.set i rs))[l1 + (i + 1)]? = some (r0[i + 1]'hi1) := by
     have := P9 (us := u) (out := out) (k := l1) (i := i + 1) (by omega) (by omega)
     rw [<- hset, List.getElem?_set_ne (by omega), this]
     have h3 := congrArg (fun l => l[1]?) hri.2.2.1
     simp only [c2c] at h3
     rw [h3, hg3]
    have hn32 := hua1 _ (c1B hi1)
    have hgd : r0.getD (i + 1) 0 = r0[i + 1]'hi1 := Nm.getD_lt hi1
    rw [hgd] at hk
    generalize r0[i + 1]'hi1 = rn at *
    have hshl := a9U rn (64 - b) (by omega)
    have hrr : ((64 : Int) - (b : Int)).toNat = 64 - b := by omega
    have horl := b1N rs (rn * 2 ^ (64 - b)) hrb
    have hk := hk _ rfl
    rw [if_pos (by omega)] at hk
    generalize rn * 2 ^ (64 - b) = sh at *
    generalize hto : rs ||| sh % 18446744073709551616 = to at *
    have hset2 : (put u l1 (out.set i rs)).set (l1 + i) to = put u l1 (out.set i to) := by
     have := Y6 (us := u) (out := out.set i rs) (k := l1) (i := i) (v := to) (by rw [c2a]; omega) (by rw [c2a]; omega)
     rwa [List.set_set] at this
    have hi1n : ((i : Int) + 1).toNat = i + 1 := by omega
    (repeat first | refine uA ?_ | (refine uK ?_ ?_; focus first | omega | trivial | (intro h; rw [h]; rfl) | (intro h h2; rw [h, h2]; rfl) | (intro h; (try simp at h); omega) | (intros; simp_all <;> omega)) | simp only [go_sem, Nat.reduceBEq, Nat.reduceAdd, Nat.reduceLeDiff, Int.reduceToNat, Int.reducePow, r9, I6, hg1, hg2, hpl1, c1p, lm, hrr, hi1n, hshl, horl, V7, hset2] | simp (disch := omega) only [ww, r9, I6, hg1, hg2, hpl1, c1p, lm, hrr, hi1n, hshl, horl, V7, hset2])
    refine S.next (x := (i, out)) (i + 1, _) ⟨hi', hk.1⟩ (by simp only; omega) (Ent.mk _ _ (by (repeat first | refine uA ?_ | (refine ⟨?_, ?_⟩; focus first | rfl | trivial | (simp [slot]; done)) | rfl | trivial | simp)) (by (repeat first | refine uA ?_ | (refine ⟨?_, ?_⟩; focus first | rfl | trivial | (simp [slot]; done)) | rfl | trivial | simp)) hν0)
   ·have hk := hk _ rfl
    rw [if_neg (by omega)] at hk
    (repeat first | refine uA ?_ | (refine uK ?_ ?_; focus first | omega | trivial | (intro h; rw [h]; rfl) | (intro h h2; rw [h, h2]; rfl) | (intro h; (try simp at h); omega) | (intros; simp_all <;> omega)) | simp only [go_sem, Nat.reduceBEq, Nat.reduceAdd, Nat.reduceLeDiff, Int.reduceToNat, Int.reducePow] | simp (disch := omega) only [ww])
    refine S.next (x := (i, out)) (i + 1, _) ⟨hi', hk.1⟩ (by simp only; omega) (Ent.mk _ _ (by (repeat first | refine uA ?_ | (refine ⟨?_, ?_⟩; focus first | rfl | trivial | (simp [slot]; done)) | rfl | trivial | simp)) (by (repeat first | refine uA ?_ | (refine ⟨?_, ?_⟩; focus first | rfl | trivial | (simp [slot]; done)) | rfl | trivial | simp)) hν0)
  ·have hi' : i = p := by omega
   subst hi'
   rw [<- hrl] at hri
   have he := Nm.a4M hri (by omega) hW1
   have hd : out = Nm.dig 18446744073709551616 i z := Nm.U7 (by decide) hri.2.1 (by omega) he
   rw [<- hd]
   have hcut := fun (E : Ctx) (hP : E.P = Tryz.prog) => a6Q (E := E) hP (match 0 with | 0 => true | _ => false) (put u l1 out) o l1 i (by omega) (by omega) (by omega)
   rw [a1R (by omega) (by omega)] at hcut
   (repeat first | refine uA ?_ | (refine uK ?_ ?_; focus first | omega | trivial | (intro h; rw [h]; rfl) | (intro h h2; rw [h, h2]; rfl) | (intro h; (try simp at h); omega) | (intros; simp_all <;> omega)) | simp only [go_sem, Nat.reduceBEq, Nat.reduceAdd, Nat.reduceLeDiff, Int.reduceToNat, Int.reducePow] | simp (disch := omega) only [ww] | refine l8.t (hcut _ rfl) ?_)
   exact S.done (j3.own rfl)
 ·have hb0 : b = 0 := by omega
  subst hb0
  rw [Nat.pow_zero, Nat.mul_one] at hW1
  have hd : r0 = Nm.dig 18446744073709551616 p z := Nm.U7 (by decide) hua1 hrl hW1
  have hcut := fun (E : Ctx) (hP : E.P = Tryz.prog) => a6Q (E := E) hP (match 0 with | 0 => true | _ => false) u o l1 p (by omega) (by omega) (by omega)
  have hw : (u.drop l1).take p = r0 := by rw [<- hps]; exact a1R hrl.symm (by omega)
  rw [hw] at hcut
  rw [<- hd, hps]
  (repeat first | refine uA ?_ | (refine uK ?_ ?_; focus first | omega | trivial | (intro h; rw [h]; rfl) | (intro h h2; rw [h, h2]; rfl) | (intro h; (try simp at h); omega) | (intros; simp_all <;> omega)) | simp only [go_sem, Nat.reduceBEq, Nat.reduceAdd, Nat.reduceLeDiff, Int.reduceToNat, Int.reducePow] | simp (disch := omega) only [ww] | refine l8.t (hcut _ rfl) ?_)
  exact S.done (j3.own rfl)
structure Win (u : List Nat) (lo n v : Nat) : Prop where
 hn : lo + n <= u.length
 hlo : lo < u.length
 hl : u.length <= 17179869184
 ha : Nm.K8 u
 hv : Nm.wv 18446744073709551616 ((u.drop lo).take n) = v
 ht : Nm.G6 ((u.drop lo).take n) = (u.drop lo).take n
theorem Win.len {u : List Nat} {lo n v : Nat} (h : Win u lo n v) : ((u.drop lo).take n).length = n := by
 have := h.hn
 rw [c1y, c1Y]; omega
theorem b6e {us a : List Nat} {k : Nat} (hu : Nm.K8 us) (ha : Nm.K8 a) : Nm.K8 (put us k a) := fun w hw => by
 simp only [put, List.mem_append] at hw
 rcases hw with (hw | hw) | hw
 ·exact hu w (List.mem_of_mem_take hw)
 ·exact ha w hw
 ·exact hu w (List.mem_of_mem_drop hw)
theorem Win.put {u : List Nat} {l1 p z : Nat} (h1 : l1 + p <= u.length) (h2 : l1 < u.length) (hl : u.length <= 17179869184) (ha : Nm.K8 u) (hz : z < 18446744073709551616 ^ p) :
  Win (put u l1 (Nm.dig 18446744073709551616 p z)) l1 (Nm.G6 (Nm.dig 18446744073709551616 p z)).length z := by
 have hpl : (Go.Proofs.YtpjjiegfigpgnaaGreatDoor.put u l1 (Nm.dig 18446744073709551616 p z)).length = u.length := Y7 (by rw [Nm.I8]; omega)
 have htl := Nm.b6k (Nm.dig 18446744073709551616 p z)
 rw [Nm.I8] at htl
 have hw : ((Go.Proofs.YtpjjiegfigpgnaaGreatDoor.put u l1 (Nm.dig 18446744073709551616 p z)).drop l1).take (Nm.G6 (Nm.dig 18446744073709551616 p z)).length = Nm.G6 (Nm.dig 18446744073709551616 p z) := by
  have e := a1R (us := u) (k := l1) (a := Nm.dig 18446744073709551616 p z) (n := p) (Nm.I8 _ _ _).symm (by rw [Nm.I8]; omega)
  have e2 := congrArg (List.take (Nm.G6 (Nm.dig 18446744073709551616 p z)).length) e
  rw [List.take_take, Nat.min_eq_left htl, Nm.b4U] at e2
  exact e2
 refine ⟨by rw [hpl]; omega, by rw [hpl]; exact h2, by rw [hpl]; exact hl, b6e ha (Nm.a0G (by decide) _ _), ?_, ?_⟩
 ·rw [hw, Nm.b7b, Nm.U5 hz]
 ·rw [hw]
  have h4 : ∀ l, Nm.G6 (Nm.G6 l) = Nm.G6 l := fun l => by
   by_cases h : Nm.G6 l = []
   ·rw [h]; rfl
   ·have h5 := Nm.a8F l h
    have h6 : Nm.G6 l = (Nm.G6 l).dropLast ++ [(Nm.G6 l).getLast h] := (List.dropLast_concat_getLast h).symm
    rw [h6, Nm.a3k h5]
  exact h4 _
theorem Win.last {u : List Nat} {lo n v : Nat} (h : Win u lo n v) : ∀ hh : (u.drop lo).take n ≠ [], ((u.drop lo).take n).getLast hh ≠ 0 := by
 have ht := h.ht
 generalize (u.drop lo).take n = x at *
 intro hh
 have := Nm.a8F x (by rw [ht]; exact hh)
 simpa only [ht] using this
theorem Win.all {u : List Nat} {lo n v : Nat} (h : Win u lo n v) : Nm.K8 ((u.drop lo).take n) := (h.ha.drop lo).take n
theorem Win.zero {u : List Nat} {lo n v : Nat} (h : Win u lo n v) (h0 : v = 0) : n = 0 := by
 rcases c1K n with h1 | h1
 ·exact h1
 ·exfalso
  have hl := h.len
  have hla := h.last
  have hv := h.hv
  generalize (u.drop lo).take n = x at *
  have hne : x ≠ [] := fun e => by subst e; simp at hl; omega
  have h2 := Nm.b2z (B := 18446744073709551616) (l := x.dropLast) (hla hne)
  rw [List.dropLast_concat_getLast hne] at h2
  have := Nat.pow_pos (n := x.dropLast.length) (show 0 < 18446744073709551616 by decide)
  omega
theorem Win.nonzero {u : List Nat} {lo n v : Nat} (h : Win u lo n v) (h0 : n = 0) : v = 0 := by
 have := h.hv; subst h0; rw [<- this]; rfl
theorem Win.le {u o : List Nat} {lo n v lo2 n2 v2 : Nat} (h : Win u lo n v) (h2 : Win o lo2 n2 v2) (hle : v2 <= v) : n2 <= n := by
 rcases c1Q n n2 with h1 | h1
 ·exfalso
  have hl := h2.len
  have hla := h2.last
  have hv := h2.hv
  have hl1 := Nm.K5 18446744073709551616 h.all
  rw [h.len, h.hv] at hl1
  generalize (o.drop lo2).take n2 = x at *
  have hne : x ≠ [] := fun e => by subst e; simp at hl; omega
  have h3 := Nm.b2z (B := 18446744073709551616) (l := x.dropLast) (hla hne)
  rw [List.dropLast_concat_getLast hne, List.length_dropLast] at h3
  have h4 : 18446744073709551616 ^ n <= 18446744073709551616 ^ (x.length - 1) := c1O (by decide) (by omega)
  omega
 ·exact h1
theorem Win.v2 {u : List Nat} {lo n v : Nat} (h : Win u lo n v) (h0 : v ≠ 0) : Nm.v2 v <= 70368744177664 := by
 obtain ⟨q, h1, h2⟩ := Nm.a2D h0
 have hl1 := Nm.K5 18446744073709551616 h.all
 rw [h.len, h.hv] at hl1
 have h3 : 2 ^ Nm.v2 v <= v := by
  conv => rhs; rw [h1]
  exact Nat.le_mul_of_pos_right _ (by omega)
 have h4 : 2 ^ Nm.v2 v < 2 ^ (64 * n) := by rw [Nat.pow_mul]; exact Nat.lt_of_le_of_lt h3 hl1
 have h5 := (Nat.pow_lt_pow_iff_right (by decide : 1 < 2)).1 h4
 have := h.hn; have := h.hl
 omega
namespace Nm
theorem b8J (n k : Nat) (h : k < 8) : (be8 n)[k]? = some (oB (n / 2 ^ (56 - 8 * k))) := by
 have : k = 0 \/ k = 1 \/ k = 2 \/ k = 3 \/ k = 4 \/ k = 5 \/ k = 6 \/ k = 7 := by omega
 rcases this with rfl | rfl | rfl | rfl | rfl | rfl | rfl | rfl <;> simp [be8]
theorem a6Y (n : Nat) : (be8 n).length = 8 := rfl
def a1C (l : List Nat) : List UInt8 := (l.reverse.map be8).flatten
theorem a8n (l : List Nat) (x : Nat) : a1C (l ++ [x]) = be8 x ++ a1C l := by simp [a1C]
theorem b0n (r : List Nat) (h : K8 r.reverse) : (a1C r.reverse).length = 8 * r.length /\ val (a1C r.reverse) = wv 18446744073709551616 r.reverse := by
 induction r with
 | nil => exact ⟨rfl, rfl⟩
 | cons x r ih =>
  rw [List.reverse_cons] at h ⊢
  obtain ⟨h1, h2⟩ := ih fun w hw => h w (List.mem_append_left _ hw)
  rw [a8n, a6O, b3S, h1, h2, b4e (h x (by simp)), List.length_reverse, c1C, a6Y, h1, c1I]
  refine ⟨by omega, ?_⟩
  rw [Nat.pow_mul, show (256 : Nat) ^ 8 = 18446744073709551616 by decide, Nat.mul_comm x, Nat.add_comm]
theorem b0e {l : List Nat} (h : K8 l) : (a1C l).length = 8 * l.length := by
 have := (b0n l.reverse (by simpa using h)).1
 simpa using this
theorem b5N {l : List Nat} (h : K8 l) : val (a1C l) = wv 18446744073709551616 l := by
 have := (b0n l.reverse (by simpa using h)).2
 simpa using this
def a1u (l : List Nat) (i k : Nat) : List UInt8 := List.replicate (8 * (l.length - 1 - i)) 0 ++ ((be8 (l.getD i 0)).take k ++ List.replicate (8 - k) 0) ++ a1C (l.take i)
def a3X (l : List Nat) (i : Nat) : List UInt8 := List.replicate (8 * (l.length - i)) 0 ++ a1C (l.take i)
theorem b5Y (l : List Nat) : a3X l 0 = List.replicate (8 * l.length) 0 := by simp [a3X, a1C]
theorem b1m (l : List Nat) : a3X l l.length = a1C l := by simp [a3X]
theorem b0F {l : List Nat} {i : Nat} (h : i < l.length) : a1u l i 0 = a3X l i := by
 rw [a1u, a3X, List.take_zero, List.nil_append, Nat.sub_zero, List.replicate_append_replicate]
 congr 2; omega
theorem a8x {l : List Nat} {i : Nat} (h : i < l.length) : a1u l i 8 = a3X l (i + 1) := by
 have e : l.take (i + 1) = l.take i ++ [l.getD i 0] := by
  rw [List.take_add_one, c1z, c1n h]; rfl
 rw [a1u, a3X, e, a8n, c1H (by rw [a6Y]; exact c1w _), Nat.sub_self, List.replicate_zero, List.append_nil, c1U]
 congr 3; omega
theorem b2R {l : List Nat} (hl : K8 l) {i k : Nat} (h : i < l.length) (hk : k <= 8) : (a1u l i k).length = 8 * l.length := by
 simp only [a1u, c1C, List.length_replicate, c1y, a6Y, b0e (hl.take i), c1y]
 omega
theorem a9Q {l : List Nat} {i k : Nat} (hk : k < 8) : (a1u l i k).set (8 * (l.length - 1 - i) + k) (oB (l.getD i 0 / 2 ^ (56 - 8 * k))) = a1u l i (k + 1) := by
 have e : (be8 (l.getD i 0)).take (k + 1) = (be8 (l.getD i 0)).take k ++ [oB (l.getD i 0 / 2 ^ (56 - 8 * k))] := by
  rw [List.take_add_one, b8J _ _ hk]; rfl
 have e2 : List.replicate (8 - k) (0 : UInt8) = 0 :: List.replicate (8 - (k + 1)) 0 := by rw [<- List.replicate_succ]; congr 1; omega
 have hlk : ((be8 (l.getD i 0)).take k).length = k := by rw [c1y, a6Y]; omega
 rw [a1u, a1u, e, e2, List.set_append_left _ _ (by simp only [c1C, List.length_replicate, hlk, c1I]; omega), List.set_append_right _ _ (by simp), List.length_replicate, Nat.add_sub_cancel_left, List.set_append_right _ _ (by omega), hlk, Nat.sub_self, List.set_cons_zero, c1U (List.take k _), List.singleton_append]
theorem b6w (n : Nat) : val (oB (2 ^ (n % 8)) :: List.replicate (n / 8) 0) = 2 ^ n := by
 have h0 : val (List.replicate (n / 8) (0 : UInt8)) = 0 := by
  generalize n / 8 = k
  induction k with
  | zero => rfl
  | succ k ih => rw [List.replicate_succ, X8, ih]; simp
 have h1 : 2 ^ (n % 8) < 256 := by
  have : 2 ^ (n % 8) <= 2 ^ 7 := c1O (by decide) (by omega)
  omega
 rw [X8, h0, a1w, Nat.mod_eq_of_lt h1, List.length_replicate, Nat.add_zero, show (256 : Nat) = 2 ^ 8 by decide, <- Nat.pow_mul, <- Nat.pow_add]
 congr 1; omega
end Nm
structure Hv where
 s : Bool
 u : List Nat
 lo : Nat
 n : Nat
 v : Nat
 o : List Nat
 lo2 : Nat
 n2 : Nat
 v2 : Nat
theorem b7R (a b : List UInt8) (ha : a.length <= 68719476736) (hb : b.length <= 68719476736) (h0a : Nm.val a ≠ 0) (h0b : Nm.val b ≠ 0) : FZ 192 [sb a, sb b] (sb (Nm.enc (Nat.gcd (Nm.val a) (Nm.val b)))) := by
  refine kW b0Y b0T (by rfl) fun w O hw => ?_
  simp only [a5Q, j6, TT, II, OA, OB, OC, MM, LL, VV, FF, MG, LG, VG, FG, sb]
  have hla := b4p a (by omega)
  have hlb := b4p b (by omega)
  have hva := Nm.a9j a
  have hvb := Nm.a9j b
  have haa := Nm.a8w a
  have hab := Nm.a8w b
  have hna := Nm.a7B a
  have hnb := Nm.a7B b
  obtain ⟨za, hza, hoa⟩ := Nm.a2D h0a
  obtain ⟨zb, hzb, hob⟩ := Nm.a2D h0b
  have hG : Nat.gcd (Nm.val a) (Nm.val b) = 2 ^ (min (Nm.v2 (Nm.val a)) (Nm.v2 (Nm.val b))) * Nat.gcd za zb := by
    conv => lhs; rw [hza, hzb]
    exact Nm.b6Z hoa hob
  rw [hG]
  have fea := a6V (Nm.O3 a) (by omega) haa (by rw [hva]; exact h0a)
  have feb := a6V (Nm.O3 b) (by omega) hab (by rw [hvb]; exact h0b)
  rw [hva] at fea
  rw [hvb] at feb
  have hba : Nm.v2 (Nm.val a) <= 549755813888 := by
    have h1 := Nm.V6 a
    have h3 : 2 ^ Nm.v2 (Nm.val a) <= Nm.val a := by
      conv => rhs; rw [hza]
      exact Nat.le_mul_of_pos_right _ (by omega)
    have h4 : 2 ^ Nm.v2 (Nm.val a) < 2 ^ (8 * a.length) := by rw [Nat.pow_mul]; exact Nat.lt_of_le_of_lt h3 h1
    have h5 := (Nat.pow_lt_pow_iff_right (by decide : 1 < 2)).1 h4
    omega
  have hbb : Nm.v2 (Nm.val b) <= 549755813888 := by
    have h1 := Nm.V6 b
    have h3 : 2 ^ Nm.v2 (Nm.val b) <= Nm.val b := by
      conv => rhs; rw [hzb]
      exact Nat.le_mul_of_pos_right _ (by omega)
    have h4 : 2 ^ Nm.v2 (Nm.val b) < 2 ^ (8 * b.length) := by rw [Nat.pow_mul]; exact Nat.lt_of_le_of_lt h3 h1
    have h5 := (Nat.pow_lt_pow_iff_right (by decide : 1 < 2)).1 h4
    omega
  have hla0 : 0 < (Nm.O3 a).length := by
    rcases c1K (Nm.O3 a).length with h | h
    · have := List.length_eq_zero_iff.1 h
      rw [this] at hva; exact absurd hva.symm h0a
    · exact h
  have hlb0 : 0 < (Nm.O3 b).length := by
    rcases c1K (Nm.O3 b).length with h | h
    · have := List.length_eq_zero_iff.1 h
      rw [this] at hvb; exact absurd hvb.symm h0b
    · exact h
  generalize Nm.v2 (Nm.val a) = p at *
  generalize Nm.v2 (Nm.val b) = q at *
  have hwa : Nm.wv 18446744073709551616 (((Nm.O3 a).drop 0).take (Nm.O3 a).length) = za * 2 ^ p := by
    rw [List.drop_zero, c1N, hva, hza, Nat.mul_comm]
  have hwb : Nm.wv 18446744073709551616 (((Nm.O3 b).drop 0).take (Nm.O3 b).length) = zb * 2 ^ q := by
    rw [List.drop_zero, c1N, hvb, hzb, Nat.mul_comm]
  clear hG hza hzb hva hvb h0a h0b
  generalize hA : Nm.O3 a = A at *
  generalize hB : Nm.O3 b = B at *
  have hr1 := fun (E : Ctx) (hP : E.P = Tryz.prog) => a6T (E := E) hP true A B 0 A.length p za (by omega) (by omega) (by omega) haa (by omega) hwa
  obtain ⟨hj1, hz1, _⟩ := hr1 ⟨Tryz.prog, eff, 0, w, fun _ => False, O, [], []⟩ rfl
  have hr1 := fun E hP => (hr1 E hP).2.2
  have hW1 := Win.put (u := A) (l1 := 0 + p / 64) (p := A.length - p / 64) (z := za) (by omega) (by omega) (by omega) haa hz1
  generalize hA1 : put A (0 + p / 64) (Nm.dig 18446744073709551616 (A.length - p / 64) za) = A1 at *
  generalize 0 + p / 64 = la at *
  generalize (Nm.G6 (Nm.dig 18446744073709551616 (A.length - p / 64) za)).length = na at *
  have hr2 := fun (E : Ctx) (hP : E.P = Tryz.prog) => a6T (E := E) hP false B A1 0 B.length q zb (by omega) (by omega) (by omega) hab (by omega) hwb
  obtain ⟨hj2, hz2, _⟩ := hr2 ⟨Tryz.prog, eff, 0, w, fun _ => False, O, [], []⟩ rfl
  have hr2 := fun E hP => (hr2 E hP).2.2
  have hW2 := Win.put (u := B) (l1 := 0 + q / 64) (p := B.length - q / 64) (z := zb) (by omega) (by omega) (by omega) hab hz2
  generalize hB1 : put B (0 + q / 64) (Nm.dig 18446744073709551616 (B.length - q / 64) zb) = B1 at *
  generalize 0 + q / 64 = lb at *
  generalize (Nm.G6 (Nm.dig 18446744073709551616 (B.length - q / 64) zb)).length = nb at *
  have hr1' : ∀ (E : Ctx), E.P = Tryz.prog -> l6 E [.row 160 1 (ls A), .row 160 1 (ls B)] 209 [.rv 0, ints p] (.wv 0 1 la na) [.row 160 1 (ls A1), .row 160 1 (ls B)] [] := fun E hP => l6.imp (hr1 E hP) (p8.cons (Imp.win (k := 0) (e := 160) (sz := 1) (es := ls A) rfl (r9 _).symm (by simp)) (p8.cons (Imp.refl rfl) p8.nil))
  have hr2' : ∀ (E : Ctx), E.P = Tryz.prog -> l6 E [.row 160 1 (ls A1), .row 160 1 (ls B)] 209 [.rv 1, ints q] (.wv 1 1 lb nb) [.row 160 1 (ls A1), .row 160 1 (ls B1)] [] := fun E hP => l6.imp (hr2 E hP) (p8.cons (Imp.win (k := 1) (e := 160) (sz := 1) (es := ls B) rfl (r9 _).symm (by simp)) (p8.cons (Imp.refl rfl) p8.nil))
  (repeat first | refine uA ?_ | (refine uK ?_ ?_; focus first | omega | trivial | (intro h; rw [h]; rfl) | (intro h h2; rw [h, h2]; rfl) | (intro h; (try simp at h); omega) | (intros; simp_all <;> omega)) | simp only [go_sem, Nat.reduceBEq, Nat.reduceAdd, Nat.reduceLeDiff, Int.reduceToNat, Int.reducePow] | simp (disch := omega) only [ww] | refine l8.t (FNew.t hla rfl) ?_ | refine l8.t (FNew.t hlb rfl) ?_ | refine l8.t (hr1' _ rfl) ?_ | refine l8.t (hr2' _ rfl) ?_ | (refine uE fea ?_ ?_ ?_ ?_; exact tz hw; exact rfl; focus (repeat' first | exact p8.nil | exact Imp.refl rfl | exact Imp.frz rfl rfl rfl | (refine Imp.a0x rfl rfl ?_ ?_; (focus ((try simp only [c1C]); omega)); (focus first | rfl | assumption)) | refine p8.cons ?_ ?_); done) | (refine uE feb ?_ ?_ ?_ ?_; exact tz hw; exact rfl; focus (repeat' first | exact p8.nil | exact Imp.refl rfl | exact Imp.frz rfl rfl rfl | (refine Imp.a0x rfl rfl ?_ ?_; (focus ((try simp only [c1C]); omega)); (focus first | rfl | assumption)) | refine p8.cons ?_ ?_); done))
  clear hr1 hr2 hr1' hr2' hla hlb fea feb hwa hwb hA hB hA1 hB1 hz1 hz2 hj1 hj2 haa hab hla0 hlb0 hna hnb
  have hmin : min p q <= 549755813888 := by omega
  generalize hG : Nat.gcd za zb = G at *
  refine S.b8u (Y := Hv) (fun x => ⟨[(5, .wv (kx x.s) 1 x.lo x.n), (6, .wv (kx !x.s) 1 x.lo2 x.n2), (7, ints p), (8, ints q)], rw2 x.s x.u x.o⟩)
    (fun x => Win x.u x.lo x.n x.v /\ Win x.o x.lo2 x.n2 x.v2 /\ ((x.n = 0 /\ x.v2 = G) \/ (x.n = 1 /\ x.n2 = 1 /\ Nat.gcd x.v x.v2 = G))) ?_ ?_
  · refine S.loop (X := Hv) (fun x => ⟨[(5, .wv (kx x.s) 1 x.lo x.n), (6, .wv (kx !x.s) 1 x.lo2 x.n2), (7, ints p), (8, ints q)], rw2 x.s x.u x.o⟩)
      (fun x => Win x.u x.lo x.n x.v /\ Win x.o x.lo2 x.n2 x.v2 /\ x.v % 2 = 1 /\ x.v2 % 2 = 1 /\ Nat.gcd x.v x.v2 = G) (fun x => x.v + x.v2) ⟨true, A1, la, na, za, B1, lb, nb, zb⟩ ⟨hW1, hW2, hoa, hob, hG⟩ (by (repeat first | refine uA ?_ | (refine ⟨?_, ?_⟩; focus first | rfl | trivial | (simp [slot]; done)) | rfl | trivial | simp)) ?_
    clear hW1 hW2 hG hoa hob
    rintro ⟨s, u, lo, n, v, o, lo2, n2, v2⟩ ⟨hW1, hW2, hoa, hob, hG⟩
    simp only [ints] at hW1 hW2 hoa hob hG ⊢
    (repeat first | refine uA ?_ | (refine uK ?_ ?_; focus first | omega | trivial | (intro h; rw [h]; rfl) | (intro h h2; rw [h, h2]; rfl) | (intro h; (try simp at h); omega) | (intros; simp_all <;> omega)) | simp only [go_sem, Nat.reduceBEq, Nat.reduceAdd, Nat.reduceLeDiff, Int.reduceToNat, Int.reducePow] | simp (disch := omega) only [ww])
    (refine uJ rfl (fun hc => ?_) fun hc => ?_)
    · refine S.skip ?_
      refine S.block ?_
      refine S.seq ?_
      have hl1 := hW1.hl
      have hl2 := hW2.hl
      have hn1 := hW1.hn
      have hn2 := hW2.hn
      have hwl : ∀ (u : List Nat) lo n, ls ((u.drop lo).take n) = ((ls u).drop lo).take n := fun u lo n => by simp [ls, List.map_drop, List.map_take]
      refine S.join (Y := Hv) (fun x => ⟨[(5, .wv (kx x.s) 1 x.lo x.n), (6, .wv (kx !x.s) 1 x.lo2 x.n2), (7, ints p), (8, ints q)], rw2 x.s x.u x.o⟩)
        (fun x => Win x.u x.lo x.n x.v /\ Win x.o x.lo2 x.n2 x.v2 /\ x.v % 2 = 1 /\ x.v2 % 2 = 1 /\ Nat.gcd x.v x.v2 = G /\ x.v2 <= x.v /\ x.v + x.v2 = v + v2) ?_ ?_
      · have hb := b9D ((u.drop lo).take n) ((o.drop lo2).take n2) (by rw [hW1.len]; omega) (by rw [hW2.len]; omega) hW1.all hW2.all hW1.last hW2.last
        rw [hwl, hwl, hW1.hv, hW2.hv] at hb
        cases s
        all_goals
          simp only [rw2, kx, Bool.not_true, Bool.not_false]
          (repeat first | refine uA ?_ | (refine uK ?_ ?_; focus first | omega | trivial | (intro h; rw [h]; rfl) | (intro h h2; rw [h, h2]; rfl) | (intro h; (try simp at h); omega) | (intros; simp_all <;> omega)) | simp only [go_sem, Nat.reduceBEq, Nat.reduceAdd, Nat.reduceLeDiff, Int.reduceToNat, Int.reducePow, r9] | simp (disch := omega) only [ww, r9] | (refine uC hb ?_ ?_ ?_; exact rfl; focus (repeat' first | exact p8.nil | exact Imp.refl rfl | exact Imp.frz rfl rfl rfl | (refine Imp.a0x rfl rfl ?_ ?_; (focus ((try simp only [c1C, r9]); omega)); (focus first | rfl | assumption)) | refine p8.cons ?_ ?_); done))
          refine S.cond rfl (fun hc => ?_) (fun hc => ?_)
          all_goals simp only [c1v, c1A] at hc
        · (repeat first | refine uA ?_ | (refine uK ?_ ?_; focus first | omega | trivial | (intro h; rw [h]; rfl) | (intro h h2; rw [h, h2]; rfl) | (intro h; (try simp at h); omega) | (intros; simp_all <;> omega)) | simp only [go_sem, Nat.reduceBEq, Nat.reduceAdd, Nat.reduceLeDiff, Int.reduceToNat, Int.reducePow] | simp (disch := omega) only [ww])
          exact S.met ⟨true, o, lo2, n2, v2, u, lo, n, v⟩ ⟨hW2, hW1, hob, hoa, by rw [Nat.gcd_comm]; exact hG, by simp only; omega, by simp only; omega⟩ (by (repeat first | refine uA ?_ | (refine ⟨?_, ?_⟩; focus first | rfl | trivial | (simp [slot]; done)) | rfl | trivial | simp))
        · (repeat first | refine uA ?_ | (refine uK ?_ ?_; focus first | omega | trivial | (intro h; rw [h]; rfl) | (intro h h2; rw [h, h2]; rfl) | (intro h; (try simp at h); omega) | (intros; simp_all <;> omega)) | simp only [go_sem, Nat.reduceBEq, Nat.reduceAdd, Nat.reduceLeDiff, Int.reduceToNat, Int.reducePow] | simp (disch := omega) only [ww])
          exact S.met ⟨false, u, lo, n, v, o, lo2, n2, v2⟩ ⟨hW1, hW2, hoa, hob, hG, by simp only; omega, rfl⟩ (by (repeat first | refine uA ?_ | (refine ⟨?_, ?_⟩; focus first | rfl | trivial | (simp [slot]; done)) | rfl | trivial | simp))
        · (repeat first | refine uA ?_ | (refine uK ?_ ?_; focus first | omega | trivial | (intro h; rw [h]; rfl) | (intro h h2; rw [h, h2]; rfl) | (intro h; (try simp at h); omega) | (intros; simp_all <;> omega)) | simp only [go_sem, Nat.reduceBEq, Nat.reduceAdd, Nat.reduceLeDiff, Int.reduceToNat, Int.reducePow] | simp (disch := omega) only [ww])
          exact S.met ⟨false, o, lo2, n2, v2, u, lo, n, v⟩ ⟨hW2, hW1, hob, hoa, by rw [Nat.gcd_comm]; exact hG, by simp only; omega, by simp only; omega⟩ (by (repeat first | refine uA ?_ | (refine ⟨?_, ?_⟩; focus first | rfl | trivial | (simp [slot]; done)) | rfl | trivial | simp))
        · (repeat first | refine uA ?_ | (refine uK ?_ ?_; focus first | omega | trivial | (intro h; rw [h]; rfl) | (intro h h2; rw [h, h2]; rfl) | (intro h; (try simp at h); omega) | (intros; simp_all <;> omega)) | simp only [go_sem, Nat.reduceBEq, Nat.reduceAdd, Nat.reduceLeDiff, Int.reduceToNat, Int.reducePow] | simp (disch := omega) only [ww])
          exact S.met ⟨true, u, lo, n, v, o, lo2, n2, v2⟩ ⟨hW1, hW2, hoa, hob, hG, by simp only; omega, rfl⟩ (by (repeat first | refine uA ?_ | (refine ⟨?_, ?_⟩; focus first | rfl | trivial | (simp [slot]; done)) | rfl | trivial | simp))
      clear hl1 hl2 hn1 hn2 hW1 hW2 hoa hob hG hc
      rintro ⟨s, u1, lo1, n1, x1, o1, lo3, n3, x3⟩ ⟨hW1, hW2, hoa, hob, hG, hle, hsum⟩
      simp only [ints] at hW1 hW2 hoa hob hG hle hsum ⊢
      have hl1 := hW1.hl
      have hl2 := hW2.hl
      have hn1 := hW1.hn
      have hn2 := hW2.hn
      have hlo1 := hW1.hlo
      have hlt1 : x1 < 18446744073709551616 ^ n1 := by
        have := Nm.K5 18446744073709551616 hW1.all
        rwa [hW1.len, hW1.hv] at this
      have hmin := fun (E : Ctx) (hP : E.P = Tryz.prog) (s : Bool) => b8U (E := E) hP s u1 o1 lo1 n1 lo3 n3 (by omega) (by omega) hn1 hlo1 hn2 (hW1.le hW2 hle) hW1.ha hW2.ha hW1.hv.symm hW2.hv.symm hle
      have hW3 := Win.put (u := u1) (l1 := lo1) (p := n1) (z := x1 - x3) hn1 hlo1 hl1 hW1.ha (by omega)
      generalize put u1 lo1 (Nm.dig 18446744073709551616 n1 (x1 - x3)) = u2 at *
      generalize (Nm.G6 (Nm.dig 18446744073709551616 n1 (x1 - x3))).length = m1 at *
      have hl3 := hW3.hl
      have hn3 := hW3.hn
      have hmt : ∀ E : Ctx, E.P = Tryz.prog -> l6 E [.row 160 1 (ls u1), .row 160 1 (ls o1)] 211 [.wv 0 1 lo1 n1, .wv 1 1 lo3 n3] (.wv 0 1 lo1 m1) [.row 160 1 (ls u2), .row 160 1 (ls o1)] [] := fun E hP => hmin E hP true
      have hmf : ∀ E : Ctx, E.P = Tryz.prog -> l6 E [.row 160 1 (ls o1), .row 160 1 (ls u1)] 211 [.wv 1 1 lo1 n1, .wv 0 1 lo3 n3] (.wv 1 1 lo1 m1) [.row 160 1 (ls o1), .row 160 1 (ls u2)] [] := fun E hP => hmin E hP false
      clear hmin
      cases s
      all_goals
        simp only [rw2, kx, Bool.not_true, Bool.not_false]
        (repeat first | refine uA ?_ | (refine uK ?_ ?_; focus first | omega | trivial | (intro h; rw [h]; rfl) | (intro h h2; rw [h, h2]; rfl) | (intro h; (try simp at h); omega) | (intros; simp_all <;> omega)) | simp only [go_sem, Nat.reduceBEq, Nat.reduceAdd, Nat.reduceLeDiff, Int.reduceToNat, Int.reducePow, r9] | simp (disch := omega) only [ww, r9] | refine l8.t (hmt _ rfl) ?_ | refine l8.t (hmf _ rfl) ?_)
        (refine uJ rfl (fun hc => ?_) fun hc => ?_)
      · (repeat first | refine uA ?_ | (refine uK ?_ ?_; focus first | omega | trivial | (intro h; rw [h]; rfl) | (intro h h2; rw [h, h2]; rfl) | (intro h; (try simp at h); omega) | (intros; simp_all <;> omega)) | simp only [go_sem, Nat.reduceBEq, Nat.reduceAdd, Nat.reduceLeDiff, Int.reduceToNat, Int.reducePow] | simp (disch := omega) only [ww])
        have h0 := hW3.nonzero (by omega)
        have h1 : x1 = x3 := by omega
        subst h1
        rw [Nat.gcd_self] at hG
        exact S.met ⟨false, u2, lo1, m1, x1 - x1, o1, lo3, n3, x1⟩ ⟨hW3, hW2, .inl ⟨by simp only; omega, hG⟩⟩ (by (repeat first | refine uA ?_ | (refine ⟨?_, ?_⟩; focus first | rfl | trivial | (simp [slot]; done)) | rfl | trivial | simp))
      · have h0 : x1 - x3 ≠ 0 := fun h => by have := hW3.zero h; omega
        obtain ⟨z, hz, hoz⟩ := Nm.a2D h0
        have hev := a6V ((u2.drop lo1).take m1) (by rw [hW3.len]; omega) hW3.all (by rw [hW3.hv]; exact h0)
        rw [hwl, hW3.hv] at hev
        have heb := hW3.v2 h0
        generalize Nm.v2 (x1 - x3) = e at *
        have hrg := fun (E : Ctx) (hP : E.P = Tryz.prog) => a6T (E := E) hP false u2 o1 lo1 m1 e z (by omega) hn3 heb hW3.ha (by omega) (by rw [hW3.hv, hz, Nat.mul_comm])
        obtain ⟨hj, hz2, _⟩ := hrg ⟨Tryz.prog, eff, 0, w, fun _ => False, O, [], []⟩ rfl
        have hrg := fun E hP => (hrg E hP).2.2
        have hW4 := Win.put (u := u2) (l1 := lo1 + e / 64) (p := m1 - e / 64) (z := z) (by omega) (by omega) hl3 hW3.ha hz2
        generalize put u2 (lo1 + e / 64) (Nm.dig 18446744073709551616 (m1 - e / 64) z) = u4 at *
        generalize lo1 + e / 64 = lo4 at *
        generalize (Nm.G6 (Nm.dig 18446744073709551616 (m1 - e / 64) z)).length = m4 at *
        have hrg' : ∀ (E : Ctx), E.P = Tryz.prog -> l6 E [.row 160 1 (ls o1), .row 160 1 (ls u2)] 209 [.wv 1 1 lo1 m1, ints e] (.wv 1 1 lo4 m4) [.row 160 1 (ls o1), .row 160 1 (ls u4)] [] := fun E hP => hrg E hP
        have hgz : Nat.gcd z x3 = G := by
          have h1 := Nm.a5D (d := z) hob e
          rw [<- h1, <- hz, Nm.a9V hle, hG]
        have hzle : z <= x1 - x3 := by
          conv => rhs; rw [hz]
          exact Nat.le_mul_of_pos_left _ (Nat.pow_pos (by decide))
        (repeat first | refine uA ?_ | (refine uK ?_ ?_; focus first | omega | trivial | (intro h; rw [h]; rfl) | (intro h h2; rw [h, h2]; rfl) | (intro h; (try simp at h); omega) | (intros; simp_all <;> omega)) | simp only [go_sem, Nat.reduceBEq, Nat.reduceAdd, Nat.reduceLeDiff, Int.reduceToNat, Int.reducePow, r9] | simp (disch := omega) only [ww, r9] | refine l8.t (hrg' _ rfl) ?_ | (refine uE hev ?_ ?_ ?_ ?_; exact tz hw; exact rfl; focus (repeat' first | exact p8.nil | exact Imp.refl rfl | exact Imp.frz rfl rfl rfl | (refine Imp.a0x rfl rfl ?_ ?_; (focus ((try simp only [c1C, r9]); omega)); (focus first | rfl | assumption)) | refine p8.cons ?_ ?_); done))
        refine S.next (x := (⟨true, u, lo, n, v, o, lo2, n2, v2⟩ : Hv)) (⟨false, u4, lo4, m4, z, o1, lo3, n3, x3⟩ : Hv) ⟨hW4, hW2, hoz, hob, hgz⟩ (by simp only; omega) (by (repeat first | refine uA ?_ | (refine ⟨?_, ?_⟩; focus first | rfl | trivial | (simp [slot]; done)) | rfl | trivial | simp))
      · (repeat first | refine uA ?_ | (refine uK ?_ ?_; focus first | omega | trivial | (intro h; rw [h]; rfl) | (intro h h2; rw [h, h2]; rfl) | (intro h; (try simp at h); omega) | (intros; simp_all <;> omega)) | simp only [go_sem, Nat.reduceBEq, Nat.reduceAdd, Nat.reduceLeDiff, Int.reduceToNat, Int.reducePow] | simp (disch := omega) only [ww])
        have h0 := hW3.nonzero (by omega)
        have h1 : x1 = x3 := by omega
        subst h1
        rw [Nat.gcd_self] at hG
        exact S.met ⟨true, u2, lo1, m1, x1 - x1, o1, lo3, n3, x1⟩ ⟨hW3, hW2, .inl ⟨by simp only; omega, hG⟩⟩ (by (repeat first | refine uA ?_ | (refine ⟨?_, ?_⟩; focus first | rfl | trivial | (simp [slot]; done)) | rfl | trivial | simp))
      · have h0 : x1 - x3 ≠ 0 := fun h => by have := hW3.zero h; omega
        obtain ⟨z, hz, hoz⟩ := Nm.a2D h0
        have hev := a6V ((u2.drop lo1).take m1) (by rw [hW3.len]; omega) hW3.all (by rw [hW3.hv]; exact h0)
        rw [hwl, hW3.hv] at hev
        have heb := hW3.v2 h0
        generalize Nm.v2 (x1 - x3) = e at *
        have hrg := fun (E : Ctx) (hP : E.P = Tryz.prog) => a6T (E := E) hP true u2 o1 lo1 m1 e z (by omega) hn3 heb hW3.ha (by omega) (by rw [hW3.hv, hz, Nat.mul_comm])
        obtain ⟨hj, hz2, _⟩ := hrg ⟨Tryz.prog, eff, 0, w, fun _ => False, O, [], []⟩ rfl
        have hrg := fun E hP => (hrg E hP).2.2
        have hW4 := Win.put (u := u2) (l1 := lo1 + e / 64) (p := m1 - e / 64) (z := z) (by omega) (by omega) hl3 hW3.ha hz2
        generalize put u2 (lo1 + e / 64) (Nm.dig 18446744073709551616 (m1 - e / 64) z) = u4 at *
        generalize lo1 + e / 64 = lo4 at *
        generalize (Nm.G6 (Nm.dig 18446744073709551616 (m1 - e / 64) z)).length = m4 at *
        have hrg' : ∀ (E : Ctx), E.P = Tryz.prog -> l6 E [.row 160 1 (ls u2), .row 160 1 (ls o1)] 209 [.wv 0 1 lo1 m1, ints e] (.wv 0 1 lo4 m4) [.row 160 1 (ls u4), .row 160 1 (ls o1)] [] := fun E hP => hrg E hP
        have hgz : Nat.gcd z x3 = G := by
          have h1 := Nm.a5D (d := z) hob e
          rw [<- h1, <- hz, Nm.a9V hle, hG]
        have hzle : z <= x1 - x3 := by
          conv => rhs; rw [hz]
          exact Nat.le_mul_of_pos_left _ (Nat.pow_pos (by decide))
        (repeat first | refine uA ?_ | (refine uK ?_ ?_; focus first | omega | trivial | (intro h; rw [h]; rfl) | (intro h h2; rw [h, h2]; rfl) | (intro h; (try simp at h); omega) | (intros; simp_all <;> omega)) | simp only [go_sem, Nat.reduceBEq, Nat.reduceAdd, Nat.reduceLeDiff, Int.reduceToNat, Int.reducePow, r9] | simp (disch := omega) only [ww, r9] | refine l8.t (hrg' _ rfl) ?_ | (refine uE hev ?_ ?_ ?_ ?_; exact tz hw; exact rfl; focus (repeat' first | exact p8.nil | exact Imp.refl rfl | exact Imp.frz rfl rfl rfl | (refine Imp.a0x rfl rfl ?_ ?_; (focus ((try simp only [c1C, r9]); omega)); (focus first | rfl | assumption)) | refine p8.cons ?_ ?_); done))
        refine S.next (x := (⟨true, u, lo, n, v, o, lo2, n2, v2⟩ : Hv)) (⟨true, u4, lo4, m4, z, o1, lo3, n3, x3⟩ : Hv) ⟨hW4, hW2, hoz, hob, hgz⟩ (by simp only; omega) (by (repeat first | refine uA ?_ | (refine ⟨?_, ?_⟩; focus first | rfl | trivial | (simp [slot]; done)) | rfl | trivial | simp))
    · (repeat first | refine uA ?_ | (refine uK ?_ ?_; focus first | omega | trivial | (intro h; rw [h]; rfl) | (intro h h2; rw [h, h2]; rfl) | (intro h; (try simp at h); omega) | (intros; simp_all <;> omega)) | simp only [go_sem, Nat.reduceBEq, Nat.reduceAdd, Nat.reduceLeDiff, Int.reduceToNat, Int.reducePow] | simp (disch := omega) only [ww])
      have ha1 : n <= 1 /\ n2 <= 1 := by omega
      have hz1 : n ≠ 0 := fun h => by have := hW1.nonzero h; omega
      have hz2 : n2 ≠ 0 := fun h => by have := hW2.nonzero h; omega
      exact S.met ⟨s, u, lo, n, v, o, lo2, n2, v2⟩ ⟨hW1, hW2,   .inr ⟨by simp only; omega, by simp only; omega, hG⟩⟩ (by cases s <;> exact (by (repeat first | refine uA ?_ | (refine ⟨?_, ?_⟩; focus first | rfl | trivial | (simp [slot]; done)) | rfl | trivial | simp)))
  clear hW1 hW2 hG hoa hob
  rintro ⟨s, u, lo, n, v, o, lo2, n2, v2⟩ ⟨hW1, hW2, hcs⟩
  simp only [ints] at hW1 hW2 hcs ⊢
  refine S.seq ?_
  have hl1 := hW1.hl
  have hl2 := hW2.hl
  have hn1 := hW1.hn
  have hn2 := hW2.hn
  have hlo1 := hW1.hlo
  have hlo2 := hW2.hlo
  refine S.join (Y := Bool × List Nat × List Nat) (fun x => ⟨[(6, .wv (kx !x.1) 1 lo2 n2), (7, ints p), (8, ints q)], rw2 x.1 x.2.1 x.2.2⟩)
    (fun x => x.2.2.length = o.length /\ Nm.K8 x.2.2 /\ Nm.wv 18446744073709551616 ((x.2.2.drop lo2).take n2) = G) ?_ ?_
  · have one : ∀ {u : List Nat} {lo v : Nat}, Win u lo 1 v -> u[lo]? = some v /\ v < 18446744073709551616 := fun {u lo v} h => by
      have hg : u[lo]? = some (u[lo]'h.hlo) := c1n h.hlo
      have h1 := h.hv
      have h2 : (u.drop lo).take 1 = [u[lo]'h.hlo] := by rw [List.drop_eq_getElem_cons h.hlo]; rfl
      rw [h2] at h1
      simp only [Nm.wv] at h1
      have h3 := h.ha _ (c1B h.hlo)
      rw [Nat.mul_zero, Nat.add_zero] at h1
      rw [hg, h1]
      exact ⟨rfl, by omega⟩
    (repeat first | refine uA ?_ | (refine uK ?_ ?_; focus first | omega | trivial | (intro h; rw [h]; rfl) | (intro h h2; rw [h, h2]; rfl) | (intro h; (try simp at h); omega) | (intros; simp_all <;> omega)) | simp only [go_sem, Nat.reduceBEq, Nat.reduceAdd, Nat.reduceLeDiff, Int.reduceToNat, Int.reducePow] | simp (disch := omega) only [ww])
    (refine uJ rfl (fun hc => ?_) fun hc => ?_)
    · have hn : n = 1 := by omega
      have hm : n2 = 1 := by omega
      subst hn hm
      obtain ⟨g1, b1⟩ := one hW1
      obtain ⟨g2, b2⟩ := one hW2
      have hg : Nat.gcd v v2 = G := by rcases hcs with h | h; exact absurd h.1 (by decide); exact h.2.2
      have hco := b2f v v2 b1 b2
      rw [hg] at hco
      have hres : Nm.wv 18446744073709551616 (((o.set lo2 G).drop lo2).take 1) = G := by
        rw [List.drop_eq_getElem_cons (by rw [c2a]; exact hlo2), List.getElem_set_self]
        simp [Nm.wv]
      have hG64 : G < 18446744073709551616 := by
        have : v2 ≠ 0 := fun h => by have := hW2.zero h; omega
        have := Nat.gcd_le_right v (show 0 < v2 by omega)
        omega
      cases s
      all_goals
        simp only [rw2, kx, Bool.not_true, Bool.not_false]
        (repeat first | refine uA ?_ | (refine uK ?_ ?_; focus first | omega | trivial | (intro h; rw [h]; rfl) | (intro h h2; rw [h, h2]; rfl) | (intro h; (try simp at h); omega) | (intros; simp_all <;> omega)) | simp only [go_sem, Nat.reduceBEq, Nat.reduceAdd, Nat.reduceLeDiff, Int.reduceToNat, Int.reducePow, r9, I6, g1, g2, c1p, lm, Nat.add_zero, V7] | simp (disch := omega) only [ww, r9, I6, g1, g2, c1p, lm, Nat.add_zero, V7] | (refine uB hco ?_ ?_; exact rfl))
      · exact S.met (⟨false, u, o.set lo2 G⟩ : Bool × List Nat × List Nat) ⟨by simp, fun w hw => by
          rcases Nm.mem_set hw with rfl | hw
          · exact hG64
          · exact hW2.ha w hw, hres⟩ (by (repeat first | refine uA ?_ | (refine ⟨?_, ?_⟩; focus first | rfl | trivial | (simp [slot]; done)) | rfl | trivial | simp))
      · exact S.met (⟨true, u, o.set lo2 G⟩ : Bool × List Nat × List Nat) ⟨by simp, fun w hw => by
          rcases Nm.mem_set hw with rfl | hw
          · exact hG64
          · exact hW2.ha w hw, hres⟩ (by (repeat first | refine uA ?_ | (refine ⟨?_, ?_⟩; focus first | rfl | trivial | (simp [slot]; done)) | rfl | trivial | simp))
    · (repeat first | refine uA ?_ | (refine uK ?_ ?_; focus first | omega | trivial | (intro h; rw [h]; rfl) | (intro h h2; rw [h, h2]; rfl) | (intro h; (try simp at h); omega) | (intros; simp_all <;> omega)) | simp only [go_sem, Nat.reduceBEq, Nat.reduceAdd, Nat.reduceLeDiff, Int.reduceToNat, Int.reducePow] | simp (disch := omega) only [ww])
      have hg : v2 = G := by
        rcases hcs with h | h
        · exact h.2
        · omega
      exact S.met (⟨s, u, o⟩ : Bool × List Nat × List Nat) ⟨rfl, hW2.ha, by rw [<- hg]; exact hW2.hv⟩ (by cases s <;> exact (by (repeat first | refine uA ?_ | (refine ⟨?_, ?_⟩; focus first | rfl | trivial | (simp [slot]; done)) | rfl | trivial | simp)))
  rintro ⟨s', u', o'⟩ ⟨ho1, ho2, ho3⟩
  simp only [ints] at ho1 ho2 ho3 ⊢
  have hul : ((o'.drop lo2).take n2).length = n2 := by rw [c1y, c1Y]; omega
  have hua : Nm.K8 ((o'.drop lo2).take n2) := (ho2.drop lo2).take _
  have hgw : ∀ i, i < n2 -> o'[lo2 + i]? = ((o'.drop lo2).take n2)[i]? := fun i hi => by rw [List.getElem?_take_of_lt hi, c2c]
  generalize (o'.drop lo2).take n2 = W at *
  have hfm := a2M (Nm.a1C W) (Nm.oB (2 ^ (min p q % 8)) :: List.replicate (min p q / 8) 0) (by rw [Nm.b0e hua]; omega) (by rw [c1I, List.length_replicate]; omega)
  rw [Nm.b6w, Nm.b5N hua, ho3, Nat.mul_comm] at hfm
  have hWl : W.length <= 17179869184 := by omega
  have hz8 : List.replicate (8 * (n2 : Int)).toNat [C.v (.int .u8 0)] = (Nm.a3X W 0).map E5 := by
    rw [Nm.b5Y, <- a2C, show (8 * (n2 : Int)).toNat = 8 * W.length by omega]
  have hqm : IntKind.i64.wrap (((min p q : Nat) : Int).tdiv 8) = ((min p q / 8 : Nat) : Int) := b4u _ (by omega)
  have hmn : (if (q : Int) < (p : Int) then (q : Int) else (p : Int)) = ((min p q : Nat) : Int) := by split <;> omega
  generalize min p q = r at *
  clear hW1 hW2 hcs hn1 hl1 hlo1 ho3
  cases s'
  all_goals
    simp only [rw2, kx, Bool.not_true, Bool.not_false]
    (repeat first | refine uA ?_ | (refine uK ?_ ?_; focus first | omega | trivial | (intro h; rw [h]; rfl) | (intro h h2; rw [h, h2]; rfl) | (intro h; (try simp at h); omega) | (intros; simp_all <;> omega)) | simp only [go_sem, Nat.reduceBEq, Nat.reduceAdd, Nat.reduceLeDiff, Int.reduceToNat, Int.reducePow, r9, hz8] | simp (disch := omega) only [ww, r9, hz8])
  · refine S.loop (X := Nat) (fun i => ⟨[(6, .wv 0 1 lo2 n2), (7, ints p), (8, ints q), (9, .rv 2), (72, .wv 0 1 lo2 n2), (73, ints n2), (74, ints i)], [.row 160 1 (ls o'), .row 160 1 (ls u')] ++ [.row 5 1 ((Nm.a3X W i).map E5)]⟩) (fun i => i <= n2) (fun i => n2 - i) 0 (c1u _) (by (repeat first | refine uA ?_ | (refine ⟨?_, ?_⟩; focus first | rfl | trivial | (simp [slot]; done)) | rfl | trivial | simp)) ?_
    intro i hi
    simp only [ints, List.cons_append, List.nil_append]
    (repeat first | refine uA ?_ | (refine uK ?_ ?_; focus first | omega | trivial | (intro h; rw [h]; rfl) | (intro h h2; rw [h, h2]; rfl) | (intro h; (try simp at h); omega) | (intros; simp_all <;> omega)) | simp only [go_sem, Nat.reduceBEq, Nat.reduceAdd, Nat.reduceLeDiff, Int.reduceToNat, Int.reducePow] | simp (disch := omega) only [ww])
    (refine uJ rfl (fun hc => ?_) fun hc => ?_)
    · have hi' : i < n2 := by omega
      have hiW : i < W.length := by omega
      have hgo : o'[lo2 + i]? = some (W[i]'hiW) := by rw [hgw i hi', c1n hiW]
      have hgd : W.getD i 0 = W[i]'hiW := Nm.getD_lt hiW
      (repeat first | refine uA ?_ | (refine uK ?_ ?_; focus first | omega | trivial | (intro h; rw [h]; rfl) | (intro h h2; rw [h, h2]; rfl) | (intro h; (try simp at h); omega) | (intros; simp_all <;> omega)) | simp only [go_sem, Nat.reduceBEq, Nat.reduceAdd, Nat.reduceLeDiff, Int.reduceToNat, Int.reducePow, r9, I6, hgo, c1p, lm] | simp (disch := omega) only [ww, r9, I6, hgo, c1p, lm])
      rw [<- Nm.b0F hiW]
      refine S.loop (X := Nat) (fun k => ⟨[(6, .wv 0 1 lo2 n2), (7, ints p), (8, ints q), (9, .rv 2), (72, .wv 0 1 lo2 n2), (73, ints n2), (74, ints i), (10, ints i), (11, .v (.int .u64 (W[i]'hiW : Int))), (79, ints k)], [.row 160 1 (ls o'), .row 160 1 (ls u')] ++ [.row 5 1 ((Nm.a1u W i k).map E5)]⟩) (fun k => k <= 8) (fun k => 8 - k) 0 (c1u _) (by (repeat first | refine uA ?_ | (refine ⟨?_, ?_⟩; focus first | rfl | trivial | (simp [slot]; done)) | rfl | trivial | simp)) ?_
      intro k hk
      simp only [ints, List.cons_append, List.nil_append]
      have hlk := Nm.b2R hua hiW hk
      (repeat first | refine uA ?_ | (refine uK ?_ ?_; focus first | omega | trivial | (intro h; rw [h]; rfl) | (intro h h2; rw [h, h2]; rfl) | (intro h; (try simp at h); omega) | (intros; simp_all <;> omega)) | simp only [go_sem, Nat.reduceBEq, Nat.reduceAdd, Nat.reduceLeDiff, Int.reduceToNat, Int.reducePow] | simp (disch := omega) only [ww])
      (refine uJ rfl (fun hc => ?_) fun hc => ?_)
      · have hk' : k < 8 := by omega
        have hst := Nm.a9Q (l := W) (i := i) hk'
        rw [hgd] at hst
        have hbv : IntKind.u8.wrap (Int.fdiv ((W[i]'hiW : Nat) : Int) (2 ^ min (56 - 8 * (k : Int)).toNat 64)) = (((Nm.oB ((W[i]'hiW) / 2 ^ (56 - 8 * k))).toNat : Nat) : Int) := by
          rw [<- a5t, show min (56 - 8 * (k : Int)).toNat 64 = 56 - 8 * k by omega]
          congr 2
        have hix : (8 * ((n2 : Int) - 1 - (i : Int)) + (k : Int)).toNat = 8 * (W.length - 1 - i) + k := by omega
        have hgk : (Nm.a1u W i k)[8 * (W.length - 1 - i) + k]? = some ((Nm.a1u W i k)[8 * (W.length - 1 - i) + k]'(by omega)) := c1n (by omega)
        (repeat first | refine uA ?_ | (refine uK ?_ ?_; focus first | omega | trivial | (intro h; rw [h]; rfl) | (intro h h2; rw [h, h2]; rfl) | (intro h; (try simp at h); omega) | (intros; simp_all <;> omega)) | simp only [go_sem, Nat.reduceBEq, Nat.reduceAdd, Nat.reduceLeDiff, Int.reduceToNat, Int.reducePow, r9, c1o, hbv, hix, c1Z, hgk, c1p, E5, a2S, hst] | simp (disch := omega) only [ww, r9, c1o, hbv, hix, c1Z, hgk, c1p, E5, a2S, hst])
        refine S.next (x := k) (k + 1) hk' (by omega) (by (repeat first | refine uA ?_ | (refine ⟨?_, ?_⟩; focus first | rfl | trivial | (simp [slot]; done)) | rfl | trivial | simp))
      · have hk8 : k = 8 := by omega
        subst hk8
        rw [Nm.a8x hiW]
        (repeat first | refine uA ?_ | (refine uK ?_ ?_; focus first | omega | trivial | (intro h; rw [h]; rfl) | (intro h h2; rw [h, h2]; rfl) | (intro h; (try simp at h); omega) | (intros; simp_all <;> omega)) | simp only [go_sem, Nat.reduceBEq, Nat.reduceAdd, Nat.reduceLeDiff, Int.reduceToNat, Int.reducePow] | simp (disch := omega) only [ww])
        refine S.next (x := i) (i + 1) hi' (by omega) (by (repeat first | refine uA ?_ | (refine ⟨?_, ?_⟩; focus first | rfl | trivial | (simp [slot]; done)) | rfl | trivial | simp))
    · have hi' : i = n2 := by omega
      subst hi'
      rw [<- hul, Nm.b1m]
      have hr1 : ((r / 8 : Nat) : Int) + 1 = ((r / 8 + 1 : Nat) : Int) := by omega
      have hrep : List.replicate (((r / 8 + 1 : Nat) : Int)).toNat [C.v (.int .u8 0)] = (List.replicate (r / 8 + 1) (0 : UInt8)).map E5 := by rw [<- a2C]; rfl
      have hrm : (r : Int).tmod 8 = ((r % 8 : Nat) : Int) := a8P r
      have hpw : IntKind.u8.wrap (1 * 2 ^ min (r % 8) 8) = (((Nm.oB (2 ^ (r % 8))).toNat : Nat) : Int) := by
        rw [show min (r % 8) 8 = r % 8 by omega, Nm.a1w, <- a1z]; congr 1; simp
      have hby : X9 ([C.v (.int .u8 (((Nm.oB (2 ^ (r % 8))).toNat : Nat) : Int))] :: List.replicate (r / 8) [C.v (.int .u8 0)]) = some (Nm.oB (2 ^ (r % 8)) :: List.replicate (r / 8) 0) := by
        rw [a2C]; exact U3 (Nm.oB (2 ^ (r % 8)) :: List.replicate (r / 8) 0)
      (repeat first | refine uA ?_ | (refine uK ?_ ?_; focus first | omega | trivial | (intro h; rw [h]; rfl) | (intro h h2; rw [h, h2]; rfl) | (intro h; (try simp at h); omega) | (intros; simp_all <;> omega)) | simp only [go_sem, Nat.reduceBEq, Nat.reduceAdd, Nat.reduceLeDiff, Int.reduceToNat, Int.reducePow, hmn, hqm, hr1, hrep, hrm, hpw, hby, U3, a3s, E5, c1x] | simp (disch := omega) only [ww, hmn, hqm, hr1, hrep, hrm, hpw, hby, U3, a3s, E5, c1x] | (refine uB hfm ?_ ?_; exact rfl))
      exact S.done (j3.out rfl (Imp.refl rfl) rfl)
  · refine S.loop (X := Nat) (fun i => ⟨[(6, .wv 1 1 lo2 n2), (7, ints p), (8, ints q), (9, .rv 2), (72, .wv 1 1 lo2 n2), (73, ints n2), (74, ints i)], [.row 160 1 (ls u'), .row 160 1 (ls o')] ++ [.row 5 1 ((Nm.a3X W i).map E5)]⟩) (fun i => i <= n2) (fun i => n2 - i) 0 (c1u _) (by (repeat first | refine uA ?_ | (refine ⟨?_, ?_⟩; focus first | rfl | trivial | (simp [slot]; done)) | rfl | trivial | simp)) ?_
    intro i hi
    simp only [ints, List.cons_append, List.nil_append]
    (repeat first | refine uA ?_ | (refine uK ?_ ?_; focus first | omega | trivial | (intro h; rw [h]; rfl) | (intro h h2; rw [h, h2]; rfl) | (intro h; (try simp at h); omega) | (intros; simp_all <;> omega)) | simp only [go_sem, Nat.reduceBEq, Nat.reduceAdd, Nat.reduceLeDiff, Int.reduceToNat, Int.reducePow] | simp (disch := omega) only [ww])
    (refine uJ rfl (fun hc => ?_) fun hc => ?_)
    · have hi' : i < n2 := by omega
      have hiW : i < W.length := by omega
      have hgo : o'[lo2 + i]? = some (W[i]'hiW) := by rw [hgw i hi', c1n hiW]
      have hgd : W.getD i 0 = W[i]'hiW := Nm.getD_lt hiW
      (repeat first | refine uA ?_ | (refine uK ?_ ?_; focus first | omega | trivial | (intro h; rw [h]; rfl) | (intro h h2; rw [h, h2]; rfl) | (intro h; (try simp at h); omega) | (intros; simp_all <;> omega)) | simp only [go_sem, Nat.reduceBEq, Nat.reduceAdd, Nat.reduceLeDiff, Int.reduceToNat, Int.reducePow, r9, I6, hgo, c1p, lm] | simp (disch := omega) only [ww, r9, I6, hgo, c1p, lm])
      rw [<- Nm.b0F hiW]
      refine S.loop (X := Nat) (fun k => ⟨[(6, .wv 1 1 lo2 n2), (7, ints p), (8, ints q), (9, .rv 2), (72, .wv 1 1 lo2 n2), (73, ints n2), (74, ints i), (10, ints i), (11, .v (.int .u64 (W[i]'hiW : Int))), (79, ints k)], [.row 160 1 (ls u'), .row 160 1 (ls o')] ++ [.row 5 1 ((Nm.a1u W i k).map E5)]⟩) (fun k => k <= 8) (fun k => 8 - k) 0 (c1u _) (by (repeat first | refine uA ?_ | (refine ⟨?_, ?_⟩; focus first | rfl | trivial | (simp [slot]; done)) | rfl | trivial | simp)) ?_
      intro k hk
      simp only [ints, List.cons_append, List.nil_append]
      have hlk := Nm.b2R hua hiW hk
      (repeat first | refine uA ?_ | (refine uK ?_ ?_; focus first | omega | trivial | (intro h; rw [h]; rfl) | (intro h h2; rw [h, h2]; rfl) | (intro h; (try simp at h); omega) | (intros; simp_all <;> omega)) | simp only [go_sem, Nat.reduceBEq, Nat.reduceAdd, Nat.reduceLeDiff, Int.reduceToNat, Int.reducePow] | simp (disch := omega) only [ww])
      (refine uJ rfl (fun hc => ?_) fun hc => ?_)
      · have hk' : k < 8 := by omega
        have hst := Nm.a9Q (l := W) (i := i) hk'
        rw [hgd] at hst
        have hbv : IntKind.u8.wrap (Int.fdiv ((W[i]'hiW : Nat) : Int) (2 ^ min (56 - 8 * (k : Int)).toNat 64)) = (((Nm.oB ((W[i]'hiW) / 2 ^ (56 - 8 * k))).toNat : Nat) : Int) := by
          rw [<- a5t, show min (56 - 8 * (k : Int)).toNat 64 = 56 - 8 * k by omega]
          congr 2
        have hix : (8 * ((n2 : Int) - 1 - (i : Int)) + (k : Int)).toNat = 8 * (W.length - 1 - i) + k := by omega
        have hgk : (Nm.a1u W i k)[8 * (W.length - 1 - i) + k]? = some ((Nm.a1u W i k)[8 * (W.length - 1 - i) + k]'(by omega)) := c1n (by omega)
        (repeat first | refine uA ?_ | (refine uK ?_ ?_; focus first | omega | trivial | (intro h; rw [h]; rfl) | (intro h h2; rw [h, h2]; rfl) | (intro h; (try simp at h); omega) | (intros; simp_all <;> omega)) | simp only [go_sem, Nat.reduceBEq, Nat.reduceAdd, Nat.reduceLeDiff, Int.reduceToNat, Int.reducePow, r9, c1o, hbv, hix, c1Z, hgk, c1p, E5, a2S, hst] | simp (disch := omega) only [ww, r9, c1o, hbv, hix, c1Z, hgk, c1p, E5, a2S, hst])
        refine S.next (x := k) (k + 1) hk' (by omega) (by (repeat first | refine uA ?_ | (refine ⟨?_, ?_⟩; focus first | rfl | trivial | (simp [slot]; done)) | rfl | trivial | simp))
      · have hk8 : k = 8 := by omega
        subst hk8
        rw [Nm.a8x hiW]
        (repeat first | refine uA ?_ | (refine uK ?_ ?_; focus first | omega | trivial | (intro h; rw [h]; rfl) | (intro h h2; rw [h, h2]; rfl) | (intro h; (try simp at h); omega) | (intros; simp_all <;> omega)) | simp only [go_sem, Nat.reduceBEq, Nat.reduceAdd, Nat.reduceLeDiff, Int.reduceToNat, Int.reducePow] | simp (disch := omega) only [ww])
        refine S.next (x := i) (i + 1) hi' (by omega) (by (repeat first | refine uA ?_ | (refine ⟨?_, ?_⟩; focus first | rfl | trivial | (simp [slot]; done)) | rfl | trivial | simp))
    · have hi' : i = n2 := by omega
      subst hi'
      rw [<- hul, Nm.b1m]
      have hr1 : ((r / 8 : Nat) : Int) + 1 = ((r / 8 + 1 : Nat) : Int) := by omega
      have hrep : List.replicate (((r / 8 + 1 : Nat) : Int)).toNat [C.v (.int .u8 0)] = (List.replicate (r / 8 + 1) (0 : UInt8)).map E5 := by rw [<- a2C]; rfl
      have hrm : (r : Int).tmod 8 = ((r % 8 : Nat) : Int) := a8P r
      have hpw : IntKind.u8.wrap (1 * 2 ^ min (r % 8) 8) = (((Nm.oB (2 ^ (r % 8))).toNat : Nat) : Int) := by
        rw [show min (r % 8) 8 = r % 8 by omega, Nm.a1w, <- a1z]; congr 1; simp
      have hby : X9 ([C.v (.int .u8 (((Nm.oB (2 ^ (r % 8))).toNat : Nat) : Int))] :: List.replicate (r / 8) [C.v (.int .u8 0)]) = some (Nm.oB (2 ^ (r % 8)) :: List.replicate (r / 8) 0) := by
        rw [a2C]; exact U3 (Nm.oB (2 ^ (r % 8)) :: List.replicate (r / 8) 0)
      (repeat first | refine uA ?_ | (refine uK ?_ ?_; focus first | omega | trivial | (intro h; rw [h]; rfl) | (intro h h2; rw [h, h2]; rfl) | (intro h; (try simp at h); omega) | (intros; simp_all <;> omega)) | simp only [go_sem, Nat.reduceBEq, Nat.reduceAdd, Nat.reduceLeDiff, Int.reduceToNat, Int.reducePow, hmn, hqm, hr1, hrep, hrm, hpw, hby, U3, a3s, E5, c1x] | simp (disch := omega) only [ww, hmn, hqm, hr1, hrep, hrm, hpw, hby, U3, a3s, E5, c1x] | (refine uB hfm ?_ ?_; exact rfl))
      exact S.done (j3.out rfl (Imp.refl rfl) rfl)
theorem b8t (a b : List UInt8) (ha : a.length <= 68719476736) (hb : b.length <= 68719476736) : FZ 138 [sb a, sb b] (sb (Nm.enc (Nat.gcd (Nm.val a) (Nm.val b)))) := by
  refine kW Tryz.func138 (by cbv) (by rfl) fun w O hw => ?_
  simp only [j6, sb]
  have hta := Nm.V5 a
  have htb := Nm.V5 b
  have hva := Nm.O1 a
  have hvb := Nm.O1 b
  have hca := Nm.U2 a
  have hcb := Nm.U2 b
  have fta := a0r a (by omega)
  have ftb := a0r b (by omega)
  rw [<- hva, <- hvb]
  clear hva hvb
  generalize Nm.trim a = x at *
  generalize Nm.trim b = y at *
  generalize hG : Nat.gcd (Nm.val x) (Nm.val y) = G at *
  (repeat first | refine uA ?_ | (refine uK ?_ ?_; focus first | omega | (intros; simp_all <;> omega)) | simp (disch := omega) only [go_sem, Nat.reduceBEq, Nat.reduceAdd, ww] | (refine uB fta ?_ ?_; exact rfl) | (refine uB ftb ?_ ?_; exact rfl))
  refine S.loop (X := List UInt8 × List UInt8) (fun s => ⟨[(0, sb s.1), (1, sb s.2)], []⟩) (fun s => Nm.canon s.1 /\ Nm.canon s.2 /\ s.1.length <= 68719476736 /\ s.2.length <= 68719476736 /\ Nat.gcd (Nm.val s.1) (Nm.val s.2) = G) (fun s => Nm.val s.1 + Nm.val s.2) (x, y) ⟨hca, hcb, by simp only; omega, by simp only; omega, hG⟩ (by (repeat first | refine uA ?_ | (refine ⟨?_, ?_⟩; focus first | rfl | simp [slot]) | rfl | simp)) ?_
  clear fta ftb hca hcb hta htb hG
  rintro ⟨x, y⟩ ⟨hcx, hcy, hlx, hly, hG⟩
  simp only [sb] at hcx hcy hlx hly hG ⊢
  (repeat first | refine uA ?_ | (refine uK ?_ ?_; focus first | omega | (intros; simp_all <;> omega)) | simp (disch := omega) only [go_sem, Nat.reduceBEq, Nat.reduceAdd, ww])
  (refine uJ rfl (fun hc => ?_) fun hc => ?_)
  · rw [a0t, a0t] at hc
    have hne := hc
    refine S.skip ?_
    refine S.block ?_
    refine S.seq ?_
    refine S.join (Y := List UInt8 × List UInt8) (fun s => ⟨[(0, sb s.1), (1, sb s.2)], []⟩) (fun s => Nm.canon s.1 /\ Nm.canon s.2 /\ s.1.length <= 68719476736 /\ s.2.length <= s.1.length /\ Nat.gcd (Nm.val s.1) (Nm.val s.2) = G /\ s.1 ≠ [] /\ s.2 ≠ [] /\ Nm.val s.1 + Nm.val s.2 = Nm.val x + Nm.val y) ?_ ?_
    · (repeat first | refine uA ?_ | (refine uK ?_ ?_; focus first | omega | (intros; simp_all <;> omega)) | simp (disch := omega) only [go_sem, Nat.reduceBEq, Nat.reduceAdd, ww, D7])
      (refine uJ rfl (fun hc => ?_) fun hc => ?_)
      · (repeat first | refine uA ?_ | (refine uK ?_ ?_; focus first | omega | (intros; simp_all <;> omega)) | simp (disch := omega) only [go_sem, Nat.reduceBEq, Nat.reduceAdd, ww])
        exact S.met (⟨y, x⟩ : List UInt8 × List UInt8) ⟨hcy, hcx, hly, by simp only; omega, by rw [Nat.gcd_comm]; exact hG, hne.2, hne.1, by simp only; omega⟩ (by (repeat first | refine uA ?_ | (refine ⟨?_, ?_⟩; focus first | rfl | simp [slot]) | rfl | simp))
      · (repeat first | refine uA ?_ | (refine uK ?_ ?_; focus first | omega | (intros; simp_all <;> omega)) | simp (disch := omega) only [go_sem, Nat.reduceBEq, Nat.reduceAdd, ww])
        exact S.met (⟨x, y⟩ : List UInt8 × List UInt8) ⟨hcx, hcy, hlx, by simp only; omega, hG, hne.1, hne.2, rfl⟩ (by (repeat first | refine uA ?_ | (refine ⟨?_, ?_⟩; focus first | rfl | simp [slot]) | rfl | simp))
    clear hcx hcy hlx hly hG hc hne
    rintro ⟨p, q⟩ ⟨hcx, hcy, hlx, hly, hG, hp0, hq0, hsum⟩
    simp only [sb] at hcx hcy hlx hly hG hp0 hq0 hsum ⊢
    have hvp : Nm.val p ≠ 0 := fun h => hp0 ((Nm.val_zero hcx).1 h)
    have hvq : Nm.val q ≠ 0 := fun h => hq0 ((Nm.val_zero hcy).1 h)
    (repeat first | refine uA ?_ | (refine uK ?_ ?_; focus first | omega | (intros; simp_all <;> omega)) | simp (disch := omega) only [go_sem, Nat.reduceBEq, Nat.reduceAdd, ww, D7])
    (refine uJ rfl (fun hc => ?_) fun hc => ?_)
    · have hx7 := Nm.a0a (l := p) (k := 8) (by omega)
      have hy7 := Nm.a0a (l := q) (k := 8) (by omega)
      have e1 : Nm.val p % 18446744073709551616 = Nm.val p := Nat.mod_eq_of_lt (by omega)
      have e2 : Nm.val q % 18446744073709551616 = Nm.val q := Nat.mod_eq_of_lt (by omega)
      have fx := a1Q p (by omega)
      have fy := a1Q q (by omega)
      rw [e1] at fx
      rw [e2] at fy
      have hco := b2f (Nm.val p) (Nm.val q) (by omega) (by omega)
      rw [hG] at hco
      have hle : G <= Nm.val q := by rw [<- hG]; exact Nat.gcd_le_right _ (by omega)
      have hf := a0g G (by omega)
      (repeat first | refine uA ?_ | (refine uK ?_ ?_; focus first | omega | (intros; simp_all <;> omega)) | simp (disch := omega) only [go_sem, Nat.reduceBEq, Nat.reduceAdd, ww] | (refine uB fx ?_ ?_; exact rfl) | (refine uB fy ?_ ?_; exact rfl) | (refine uB hco ?_ ?_; exact rfl) | (refine uB hf ?_ ?_; exact rfl))
      exact S.done (j3.out rfl (Imp.refl rfl) rfl)
    (repeat first | refine uA ?_ | (refine uK ?_ ?_; focus first | omega | (intros; simp_all <;> omega)) | simp (disch := omega) only [go_sem, Nat.reduceBEq, Nat.reduceAdd, ww, D7])
    (refine uJ rfl (fun hc => ?_) fun hc => ?_)
    · have hh := b7R p q hlx (by omega) hvp hvq
      rw [hG] at hh
      (repeat first | refine uA ?_ | (refine uK ?_ ?_; focus first | omega | (intros; simp_all <;> omega)) | simp (disch := omega) only [go_sem, Nat.reduceBEq, Nat.reduceAdd, ww] | (refine uD hh ?_ ?_ ?_; exact tz hw; exact rfl))
      exact S.done (j3.out rfl (Imp.refl rfl) rfl)
    · have hd := b4M p q (by omega) (by omega) hvq
      have hlt : Nm.val p % Nm.val q < Nm.val q := Nat.mod_lt _ (by omega)
      have hlq := Nm.V6 q
      have hpq := Nm.a2a hcx (a := q) (b := p) (by omega)
      have hrl : (Nm.enc (Nm.val p % Nm.val q)).length <= q.length := Nm.F8 (by omega)
      (repeat first | refine uA ?_ | (refine uK ?_ ?_; focus first | omega | (intros; simp_all <;> omega)) | simp (disch := omega) only [go_sem, Nat.reduceBEq, Nat.reduceAdd, ww] | (refine uB hd ?_ ?_; exact rfl))
      refine S.next (x := (x, y)) (q, Nm.enc (Nm.val p % Nm.val q)) ⟨hcy, Nm.a2W _, by simp only; omega, by simp only; omega, ?_⟩ (by simp only [Nm.I9]; omega) (by (repeat first | refine uA ?_ | (refine ⟨?_, ?_⟩; focus first | rfl | simp [slot]) | rfl | simp))
      simp only [Nm.I9]
      rw [Nat.gcd_comm, <- Nat.gcd_rec, Nat.gcd_comm]; exact hG
  · have hr : Nm.enc G = x ++ y := by
      rw [a0t, a0t] at hc
      rcases Classical.em (x = []) with h | h
      · subst h
        rw [Nm.a9L, Nat.gcd_zero_left] at hG
        rw [<- hG, Nm.a0Z hcy]; rfl
      · have hy : y = [] := by
          rcases hc with hc | hc
          · exact absurd hc h
          · exact hc
        subst hy
        rw [Nm.a9L, Nat.gcd_zero_right] at hG
        rw [<- hG, Nm.a0Z hcx, List.append_nil]
    rw [hr]
    (repeat first | refine uA ?_ | (refine uK ?_ ?_; focus first | omega | (intros; simp_all <;> omega)) | simp (disch := omega) only [go_sem, Nat.reduceBEq, Nat.reduceAdd, ww, b9Z, D7])
    exact S.done (j3.out rfl (Imp.refl rfl) rfl)
def rc (a : Nm.Rt) : C := .agg [.v (.bool a.neg), sb a.num, sb a.den]
def rq (q : Rat) : C := rc (Nm.ofQ q)
def Rb (k : Nat) (a : Nm.Rt) : Prop := a.num.length <= k /\ a.den.length <= k
theorem a4R (l : List UInt8) : (bs l = (⟨#[1]⟩ : ByteArray)) = (l = [1]) := a8K l [1]
theorem b0q (l : List UInt8) : Nm.canon l <-> (l = [] \/ l.getD 0 0 ≠ 0) := by
 cases l with
 | nil => simp [Nm.a6k]
 | cons b r =>
  simp only [List.getD_cons_zero, reduceCtorEq, false_or]
  constructor
  ·intro h h0; exact h r (by rw [h0])
  ·intro h q e; injection e with e1 _; exact h e1
theorem a1b (a : Nm.Rt) (ha : Rb 68719476736 a) : FZ 45 [rc a] (.v (.bool (decide a.G5))) := by
  refine kW Tryz.func45 (by cbv) (by rfl) fun w O hw => ?_
  obtain ⟨neg, num, den⟩ := a
  obtain ⟨hn, hd⟩ := ha
  simp only [rc] at hn hd ⊢
  simp only [j6, sb]
  have hg := b8t num den (by omega) (by omega)
  have hgood : Nm.Rt.G5 ⟨neg, num, den⟩ <-> den ≠ [] /\ Nm.canon den /\ Nm.canon num /\ (num = [] -> neg = false /\ den = [1]) /\ (den = [1] \/ Nat.gcd (Nm.val num) (Nm.val den) = 1) := Iff.rfl
  rw [b0q, b0q] at hgood
  have hdl : (!decide (den = [])) = true -> 0 < (den.length : Int) := fun h => by
    have : den ≠ [] := by simpa using h
    have := List.length_pos_iff.2 this
    omega
  have hnl : num ≠ [] -> 0 < (num.length : Int) := fun h => by
    have := List.length_pos_iff.2 h
    omega
  have hgb0 : ∀ {p : Prop} [Decidable p], (Nm.Rt.G5 ⟨neg, num, den⟩ <-> p) -> decide (Nm.Rt.G5 ⟨neg, num, den⟩) = decide p := fun h => decide_eq_decide.2 h
  have hgb := hgb0 hgood
  clear hgood hgb0
  generalize decide (Nm.Rt.G5 ⟨neg, num, den⟩) = gb at *
  (repeat first | refine uA ?_ | (refine uK ?_ ?_; focus first | omega | trivial | (intro h; rw [h]; rfl) | (intro h h2; rw [h, h2]; rfl) | (intro h; (try simp at h); omega) | (intros; simp_all <;> omega)) | simp only [go_sem, Nat.reduceBEq, Nat.reduceAdd, Nat.reduceLeDiff, Int.reduceToNat, Int.reducePow, D7, Q7, a6X, a0t, a4R] | simp (disch := omega) only [ww, D7, Q7, a6X, a0t, a4R])
  refine S.cond rfl (fun hc => ?_) (fun hc => ?_)
  · have : gb = false := by
      rw [hgb, c1A]
      simp only [c2d, c1t, c1v, Bool.not_eq_true', c1A] at hc
      grind
    rw [this]
    (repeat first | refine uA ?_ | (refine uK ?_ ?_; focus first | omega | trivial | (intro h; rw [h]; rfl) | (intro h h2; rw [h, h2]; rfl) | (intro h; (try simp at h); omega) | (intros; simp_all <;> omega)) | simp only [go_sem, Nat.reduceBEq, Nat.reduceAdd, Nat.reduceLeDiff, Int.reduceToNat, Int.reducePow] | simp (disch := omega) only [ww])
    exact S.done (j3.out rfl (Imp.refl rfl) rfl)
  · have hone : (Nm.enc (Nat.gcd (Nm.val num) (Nm.val den)) = [1]) = (Nat.gcd (Nm.val num) (Nm.val den) = 1) := by
      rw [<- Nm.a1T]
      exact propext ⟨Nm.a9K, fun h => by rw [h]⟩
    have : gb = (decide (den = [1]) || decide (Nat.gcd (Nm.val num) (Nm.val den) = 1)) := by
      rw [hgb, <- Bool.decide_or]
      simp only [c1J, Bool.and_eq_false_iff, c1v, Bool.not_eq_false', c1A] at hc
      refine decide_eq_decide.2 ⟨fun h => h.2.2.2.2, fun h => ?_⟩
      grind
    rw [this]
    (repeat first | refine uA ?_ | (refine uK ?_ ?_; focus first | omega | trivial | (intro h; rw [h]; rfl) | (intro h h2; rw [h, h2]; rfl) | (intro h; (try simp at h); omega) | (intros; simp_all <;> omega)) | simp only [go_sem, Nat.reduceBEq, Nat.reduceAdd, Nat.reduceLeDiff, Int.reduceToNat, Int.reducePow, a0t, a4R, hone] | simp (disch := omega) only [ww, a0t, a4R, hone] | (refine uD hg ?_ ?_ ?_; exact tz hw; exact rfl))
    exact S.done (j3.out rfl (Imp.refl rfl) rfl)
theorem b6f : F7 Tryz.prog 165 [] (rc Nm.a2O) := by
 refine kS Tryz.func165 (by cbv) (by rfl) fun w O => ?_
 simp only [j6, rc, Nm.a2O, sb]
 (repeat first | refine uA ?_ | (refine uK ?_ ?_; focus first | omega | (intros; simp_all <;> omega)) | simp (disch := omega) only [go_sem, Nat.reduceBEq, Nat.reduceAdd, ww])
 (refine S.done ?_; simp only [q8, l9, go_sem, Nat.reduceBEq, Nat.reduceAdd, Nat.reduceLeDiff, Int.reduceToNat, Int.reducePow]; (repeat (refine ⟨?_, ?_⟩; focus first | trivial | omega | simp)); exact j3.out rfl (Imp.refl rfl) rfl)
theorem c0F (a : Nm.Rt) (ha : Rb 68719476736 a) : FZ 107 [rc a] (rq (Nm.d9 a)) := by
 refine kW Tryz.func107 (by cbv) (by rfl) fun w O hw => ?_
 have hg := a1b a ha
 have fz := b6f
 unfold rq
 by_cases h : a.G5
 ·rw [Nm.b2E h]
  rw [show decide a.G5 = true from decide_eq_true h] at hg
  simp only [j6, rc, sb] at hg ⊢
  (repeat first | refine uA ?_ | (refine uK ?_ ?_; focus first | omega | (intros; simp_all <;> omega)) | simp (disch := omega) only [go_sem, Nat.reduceBEq, Nat.reduceAdd, ww] | (refine uD hg ?_ ?_ ?_; exact tz hw; exact rfl))
  exact S.cond rfl (fun hc => by cases hc) (fun _ => by
   (repeat first | refine uA ?_ | (refine uK ?_ ?_; focus first | omega | (intros; simp_all <;> omega)) | simp (disch := omega) only [go_sem, Nat.reduceBEq, Nat.reduceAdd, ww])
   (refine S.done ?_; simp only [q8, l9, go_sem, Nat.reduceBEq, Nat.reduceAdd, Nat.reduceLeDiff, Int.reduceToNat, Int.reducePow]; (repeat (refine ⟨?_, ?_⟩; focus first | trivial | omega | simp)); exact j3.out rfl (Imp.refl rfl) rfl))
 ·have e : Nm.ofQ (Nm.d9 a) = Nm.a2O := by unfold Nm.d9; rw [if_neg h, Nm.a2y]
  rw [e]
  rw [show decide a.G5 = false from decide_eq_false h] at hg
  simp only [j6, rc, sb, Nm.a2O] at hg fz ⊢
  (repeat first | refine uA ?_ | (refine uK ?_ ?_; focus first | omega | (intros; simp_all <;> omega)) | simp (disch := omega) only [go_sem, Nat.reduceBEq, Nat.reduceAdd, ww] | (refine uD hg ?_ ?_ ?_; exact tz hw; exact rfl))
  exact S.cond rfl (fun _ => by
   (repeat first | refine uA ?_ | (refine uK ?_ ?_; focus first | omega | (intros; simp_all <;> omega)) | simp (disch := omega) only [go_sem, Nat.reduceBEq, Nat.reduceAdd, ww] | (refine uB fz ?_ ?_; exact rfl))
   (refine S.done ?_; simp only [q8, l9, go_sem, Nat.reduceBEq, Nat.reduceAdd, Nat.reduceLeDiff, Int.reduceToNat, Int.reducePow]; (repeat (refine ⟨?_, ?_⟩; focus first | trivial | omega | simp)); exact j3.out rfl (Imp.refl rfl) rfl)) (fun hc => by cases hc)
theorem b9t {n d k : Nat} (hd : 0 < d) (h : (Nm.enc d).length <= k) : (Nm.enc (Nat.gcd n d)).length <= k := Nm.F8 (Nat.lt_of_le_of_lt (Nat.gcd_le_right n hd) (Nm.Y9 h))
theorem a4O (neg : Bool) (n d : Nat) (hd : d ≠ 0) (hn : (Nm.enc n).length <= 68719476736) (hdl : (Nm.enc d).length <= 68719476736) :
  FZ 197 [.v (.bool neg), sb (Nm.enc n), sb (Nm.enc d)] (rq (mkRat (Nm.sgn neg n) d)) := by
 refine kW Tryz.func197 (by cbv) (by rfl) fun w O hw => ?_
 have fz := b6f
 have hg := b8t (Nm.enc n) (Nm.enc d) hn hdl
 rw [Nm.I9, Nm.I9] at hg
 unfold rq
 rw [<- Nm.a9l neg hd]
 have hz : (Nm.enc n = []) = (n = 0) := propext ⟨fun h => Classical.byContradiction fun h0 => Nm.a5d h0 h, fun h => by rw [h, Nm.a0V]⟩
 have h1 : ∀ d, (Nm.enc d = [1]) = (d = 1) := fun d => by
  rw [<- Nm.a1T]; exact propext ⟨Nm.a9K, fun h => by rw [h]⟩
 have hgp : Nat.gcd n d ≠ 0 := fun h => hd (Nat.eq_zero_of_gcd_eq_zero_right h)
 have hgl : (Nm.enc (Nat.gcd n d)).length <= 68719476736 := by
  exact b9t (by omega) hdl
 have hd1 := b4M (Nm.enc n) (Nm.enc (Nat.gcd n d)) (by omega) (by omega) (by rw [Nm.I9]; exact hgp)
 have hd2 := b4M (Nm.enc d) (Nm.enc (Nat.gcd n d)) (by omega) (by omega) (by rw [Nm.I9]; exact hgp)
 simp only [Nm.I9] at hd1 hd2
 generalize hgg : Nat.gcd n d = g at *
 simp only [j6, sb]
 (repeat first | refine uA ?_ | (refine uK ?_ ?_; focus first | omega | (intros; simp_all <;> omega)) | simp (disch := omega) only [go_sem, Nat.reduceBEq, Nat.reduceAdd, ww, a0t, hz])
 (refine uJ rfl (fun hc => ?_) fun hc => ?_)
 ·rw [if_pos hc]
  simp only [rc, Nm.a2O, sb] at fz ⊢
  (repeat first | refine uA ?_ | (refine uK ?_ ?_; focus first | omega | (intros; simp_all <;> omega)) | simp (disch := omega) only [go_sem, Nat.reduceBEq, Nat.reduceAdd, ww] | (refine uB fz ?_ ?_; exact rfl))
  (refine S.done ?_; simp only [q8, l9, go_sem, Nat.reduceBEq, Nat.reduceAdd, Nat.reduceLeDiff, Int.reduceToNat, Int.reducePow]; (repeat (refine ⟨?_, ?_⟩; focus first | trivial | omega | simp)); exact j3.out rfl (Imp.refl rfl) rfl)
 rw [if_neg hc]
 simp only [rc, sb]
 (repeat first | refine uA ?_ | (refine uK ?_ ?_; focus first | omega | (intros; simp_all <;> omega)) | simp (disch := omega) only [go_sem, Nat.reduceBEq, Nat.reduceAdd, ww, a4R, h1])
 (refine uJ rfl (fun hc => ?_) fun hc => ?_)
 ·(repeat first | refine uA ?_ | (refine uK ?_ ?_; focus first | omega | (intros; simp_all <;> omega)) | simp (disch := omega) only [go_sem, Nat.reduceBEq, Nat.reduceAdd, ww, a4R, h1] | (refine uD hg ?_ ?_ ?_; exact tz hw; exact rfl))
  (refine uJ rfl (fun hc => ?_) fun hc => ?_)
  ·(repeat first | refine uA ?_ | (refine uK ?_ ?_; focus first | omega | (intros; simp_all <;> omega)) | simp (disch := omega) only [go_sem, Nat.reduceBEq, Nat.reduceAdd, ww] | (refine uB hd1 ?_ ?_; exact rfl) | (refine uB hd2 ?_ ?_; exact rfl))
   (refine S.done ?_; simp only [q8, l9, go_sem, Nat.reduceBEq, Nat.reduceAdd, Nat.reduceLeDiff, Int.reduceToNat, Int.reducePow]; (repeat (refine ⟨?_, ?_⟩; focus first | trivial | omega | simp)); exact j3.out rfl (Imp.refl rfl) rfl)
  ·rw [hc, Nat.div_one, Nat.div_one]
   (repeat first | refine uA ?_ | (refine uK ?_ ?_; focus first | omega | (intros; simp_all <;> omega)) | simp (disch := omega) only [go_sem, Nat.reduceBEq, Nat.reduceAdd, ww])
   (refine S.done ?_; simp only [q8, l9, go_sem, Nat.reduceBEq, Nat.reduceAdd, Nat.reduceLeDiff, Int.reduceToNat, Int.reducePow]; (repeat (refine ⟨?_, ?_⟩; focus first | trivial | omega | simp)); exact j3.out rfl (Imp.refl rfl) rfl)
 ·rw [hc, Nat.gcd_one_right] at hgg
  subst hgg
  rw [hc, Nat.div_one, Nat.div_one]
  (repeat first | refine uA ?_ | (refine uK ?_ ?_; focus first | omega | (intros; simp_all <;> omega)) | simp (disch := omega) only [go_sem, Nat.reduceBEq, Nat.reduceAdd, ww])
  (refine S.done ?_; simp only [q8, l9, go_sem, Nat.reduceBEq, Nat.reduceAdd, Nat.reduceLeDiff, Int.reduceToNat, Int.reducePow]; (repeat (refine ⟨?_, ?_⟩; focus first | trivial | omega | simp)); exact j3.out rfl (Imp.refl rfl) rfl)
theorem b2X (neg mi : Bool) (a b : List UInt8) (ha : a.length <= 68719476736) (hb : b.length <= 68719476736) :
  F7 Tryz.prog 201 [.v (.bool neg), sb a, .v (.bool mi), sb b] (.tup [.v (.bool (Nm.K9 neg (Nm.val a) mi (Nm.val b)).1), sb (Nm.enc (Nm.K9 neg (Nm.val a) mi (Nm.val b)).2)]) := by
 refine kS Tryz.func201 (by cbv) (by rfl) fun w O => ?_
 have hadd := f_add a b (by omega) (by omega)
 have hs1 := b8B a b (by omega) (by omega)
 have hs2 := b8B b a (by omega) (by omega)
 simp only [j6, sb]
 (repeat first | refine uA ?_ | (refine uK ?_ ?_; focus first | omega | (intros; simp_all <;> omega)) | simp (disch := omega) only [go_sem, Nat.reduceBEq, Nat.reduceAdd, ww])
 refine S.cond rfl (fun hc => ?_) (fun hc => ?_)
 ·have e : neg = mi := by simpa using hc
  subst e
  unfold Nm.K9
  rw [if_pos rfl]
  (repeat first | refine uA ?_ | (refine uK ?_ ?_; focus first | omega | (intros; simp_all <;> omega)) | simp (disch := omega) only [go_sem, Nat.reduceBEq, Nat.reduceAdd, ww] | (refine uB hadd ?_ ?_; exact rfl))
  exact S.done (j3.out rfl (Imp.refl rfl) rfl)
 ·have e : neg ≠ mi := by simpa using hc
  unfold Nm.K9
  rw [if_neg e]
  by_cases h : Nm.val b <= Nm.val a
  ·rw [if_pos h]
   have e1 : F5 (Nm.val a) (Nm.val b) = Nm.enc (Nm.val a - Nm.val b) := by unfold F5; rw [if_pos h]
   have e2 : a3T (Nm.val a) (Nm.val b) = 0 := by unfold a3T; rw [if_pos h]
   rw [e1, e2] at hs1
   (repeat first | refine uA ?_ | (refine uK ?_ ?_; focus first | omega | (intros; simp_all <;> omega)) | simp (disch := omega) only [go_sem, Nat.reduceBEq, Nat.reduceAdd, ww] | (refine uB hs1 ?_ ?_; exact rfl))
   refine S.cond rfl (fun hc => ?_) (fun hc => ?_)
   ·(repeat first | refine uA ?_ | (refine uK ?_ ?_; focus first | omega | (intros; simp_all <;> omega)) | simp (disch := omega) only [go_sem, Nat.reduceBEq, Nat.reduceAdd, ww])
    exact S.done (j3.out rfl (Imp.refl rfl) rfl)
   ·simp at hc
  ·rw [if_neg h]
   have e1 : F5 (Nm.val a) (Nm.val b) = [] := by unfold F5; rw [if_neg h]
   have e2 : a3T (Nm.val a) (Nm.val b) = 1 := by unfold a3T; rw [if_neg h]
   have e3 : F5 (Nm.val b) (Nm.val a) = Nm.enc (Nm.val b - Nm.val a) := by unfold F5; rw [if_pos (by omega)]
   have e4 : a3T (Nm.val b) (Nm.val a) = 0 := by unfold a3T; rw [if_pos (by omega)]
   rw [e1, e2] at hs1
   rw [e3, e4] at hs2
   (repeat first | refine uA ?_ | (refine uK ?_ ?_; focus first | omega | (intros; simp_all <;> omega)) | simp (disch := omega) only [go_sem, Nat.reduceBEq, Nat.reduceAdd, ww] | (refine uB hs1 ?_ ?_; exact rfl))
   refine S.cond rfl (fun hc => ?_) (fun hc => ?_)
   ·simp at hc
   ·(repeat first | refine uA ?_ | (refine uK ?_ ?_; focus first | omega | (intros; simp_all <;> omega)) | simp (disch := omega) only [go_sem, Nat.reduceBEq, Nat.reduceAdd, ww] | (refine uB hs2 ?_ ?_; exact rfl))
    exact S.done (j3.out rfl (Imp.refl rfl) rfl)
namespace Nm
theorem I5 {a b k m : Nat} (ha : (enc a).length <= k) (hb : (enc b).length <= m) : (enc (a * b)).length <= k + m := by
 refine F8 ?_
 rw [Nat.pow_add]
 exact Nat.mul_lt_mul'' (Y9 ha) (Y9 hb)
theorem a4J {a b k : Nat} (ha : (enc a).length <= k) (hb : (enc b).length <= k) : (enc (a + b)).length <= k + 1 := by
 refine F8 ?_
 have h1 := Y9 ha
 have h2 := Y9 hb
 rw [c1W]; omega
theorem a3Y {a b : Nat} (h : a <= b) : (enc a).length <= (enc b).length := F8 (Nat.lt_of_le_of_lt h (Y9 (c1w _)))
theorem a5A (neg : Bool) (a : Nat) (mi : Bool) (b : Nat) : (K9 neg a mi b).2 <= a + b := by
 unfold K9; repeat' split
 all_goals simp only; omega
theorem add_same {p q : Rat} (h : p.den = q.den) : p + q = mkRat (p.num + q.num) p.den := by
 rw [Rat.add_def', <- h, <- Int.add_mul, Rat.mkRat_mul_right p.den_nz]
theorem a6K (p : Rat) : sgn (decide (p.num < 0)) p.num.natAbs = p.num := b4n p
theorem b7D {p q : Rat} (h : p.den = q.den) : mkRat (sgn (K9 (decide (p.num < 0)) p.num.natAbs (decide (q.num < 0)) q.num.natAbs).1 (K9 (decide (p.num < 0)) p.num.natAbs (decide (q.num < 0)) q.num.natAbs).2) p.den = p + q := by
 rw [b0I, a6K, a6K, add_same h]
theorem a9S (p q : Rat) : mkRat (sgn (K9 (decide (p.num < 0)) (p.num.natAbs * q.den) (decide (q.num < 0)) (q.num.natAbs * p.den)).1 (K9 (decide (p.num < 0)) (p.num.natAbs * q.den) (decide (q.num < 0)) (q.num.natAbs * p.den)).2) (p.den * q.den) = p + q := by
 rw [b0I, a4B, a4B, a6K, a6K, Rat.add_def']
theorem b1e (p q : Rat) : mkRat (sgn (decide (p.num < 0) != decide (q.num < 0)) (p.num.natAbs * q.num.natAbs)) (p.den * q.den) = p * q := by
 rw [b9j, a6K, a6K, Rat.mul_def']
theorem b2a (p q : Rat) (h : q ≠ 0) : mkRat (sgn (decide (p.num < 0) != decide (q.num < 0)) (p.num.natAbs * q.den)) (p.den * q.num.natAbs) = p / q := by
 have hn : q.num ≠ 0 := fun e => h (Rat.num_eq_zero.1 e)
 have hn' : q.num.natAbs ≠ 0 := by omega
 generalize hr : mkRat (sgn (decide (p.num < 0) != decide (q.num < 0)) (p.num.natAbs * q.den)) (p.den * q.num.natAbs) = r
 have key : p = r * q := by
  rw [<- hr]
  have e1 : p = mkRat p.num p.den := (Rat.mkRat_self p).symm
  have e2 : q = mkRat q.num q.den := (Rat.mkRat_self q).symm
  have hD : p.den * q.num.natAbs * q.den ≠ 0 := Nat.mul_ne_zero (Nat.mul_ne_zero p.den_nz hn') q.den_nz
  have e3 : mkRat (sgn (decide (p.num < 0) != decide (q.num < 0)) (p.num.natAbs * q.den)) (p.den * q.num.natAbs) * q = mkRat (sgn (decide (p.num < 0) != decide (q.num < 0)) (p.num.natAbs * q.den) * q.num) (p.den * q.num.natAbs * q.den) := by
   conv => lhs; rw [e2]
   rw [Rat.mkRat_mul_mkRat]
   simp only [Rat.mkRat_self]
  rw [e3]
  conv => lhs; rw [e1]
  rw [Rat.mkRat_eq_iff p.den_nz hD]
  have hx : sgn (decide (p.num < 0) != decide (q.num < 0)) (p.num.natAbs * q.den) * q.num = p.num * ((q.num.natAbs : Nat) : Int) * q.den := by
   rw [a4B]
   have : sgn (decide (p.num < 0) != decide (q.num < 0)) p.num.natAbs * q.num = p.num * ((q.num.natAbs : Nat) : Int) := by
    unfold sgn
    by_cases hA : p.num < 0
    ·by_cases hB : q.num < 0
     ·simp only [hA, hB, decide_true, bne_self_eq_false, c1X, if_false]
      have e1 : ((p.num.natAbs : Nat) : Int) = -p.num := by omega
      have e2 : ((q.num.natAbs : Nat) : Int) = -q.num := by omega
      rw [e1, e2]; grind
     ·simp only [hA, hB, decide_true, decide_false, Bool.bne_false, if_true]
      have e1 : ((p.num.natAbs : Nat) : Int) = -p.num := by omega
      have e2 : ((q.num.natAbs : Nat) : Int) = q.num := by omega
      rw [e1, e2]; grind
    ·by_cases hB : q.num < 0
     ·simp only [hA, hB, decide_true, decide_false, Bool.bne_true, Bool.not_false, if_true]
      have e1 : ((p.num.natAbs : Nat) : Int) = p.num := by omega
      have e2 : ((q.num.natAbs : Nat) : Int) = -q.num := by omega
      rw [e1, e2]; grind
     ·simp only [hA, hB, decide_false, bne_self_eq_false, c1X, if_false]
      have e1 : ((p.num.natAbs : Nat) : Int) = p.num := by omega
      have e2 : ((q.num.natAbs : Nat) : Int) = q.num := by omega
      rw [e1, e2]
   calc sgn (decide (p.num < 0) != decide (q.num < 0)) p.num.natAbs * (q.den : Int) * q.num = (sgn (decide (p.num < 0) != decide (q.num < 0)) p.num.natAbs * q.num) * (q.den : Int) := by grind
    _ = _ := by rw [this]
  rw [hx]
  push_cast
  grind
 rw [Rat.div_def]
 conv => rhs; rw [key]
 rw [Rat.mul_assoc, Rat.mul_inv_cancel _ h, Rat.mul_one]
end Nm
theorem Rb.fit {k : Nat} {a : Nm.Rt} (h : Rb k a) (hk : 1 <= k) : Rb k (Nm.ofQ (Nm.d9 a)) := by
 by_cases hg : a.G5
 ·rw [Nm.b2E hg]; exact h
 ·have e : Nm.ofQ (Nm.d9 a) = Nm.a2O := by unfold Nm.d9; rw [if_neg hg, Nm.a2y]
  rw [e]; exact ⟨c1u _, hk⟩
theorem R8 (a : Nm.Rt) (ha : Rb 17179869184 a) : FZ 107 [rc a] (rq (Nm.d9 a)) := c0F a ⟨by have := ha.1; omega, by have := ha.2; omega⟩
theorem b9B (a b : Nat) : (Nm.enc a = Nm.enc b) = (a = b) := propext ⟨Nm.a9K, fun h => by rw [h]⟩
theorem a6G (n : Nat) : (Nm.enc n = []) = (n = 0) := propext ⟨fun h => Classical.byContradiction fun h0 => Nm.a5d h0 h, fun h => by rw [h, Nm.a0V]⟩
theorem a4r (n : Int) (h1 : -9223372036854775808 <= n) (h2 : n <= 9223372036854775807) : FZ 157 [ints n] (rq (n : Rat)) := by
 refine kW Tryz.func157 (by cbv) (by rfl) fun w O hw => ?_
 have hb : ∀ k : Nat, k <= 9223372036854775808 -> (Nm.enc k).length <= 8 := fun k hk => Nm.F8 (by omega)
 have e1 : sb [1] = sb (Nm.enc 1) := by rw [Nm.a1T]
 simp only [j6, ints]
 (repeat first | refine uA ?_ | (refine uK ?_ ?_; focus first | omega | (intros; simp_all <;> omega)) | simp (disch := omega) only [go_sem, Nat.reduceBEq, Nat.reduceAdd, ww])
 (refine uJ rfl (fun hc => ?_) fun hc => ?_)
 ·have hof := b4y n (by omega)
  have hm := a4O false n.toNat 1 (by decide) (by have := hb n.toNat (by omega); omega) (by have := hb 1 (by decide); omega)
  have e : mkRat (Nm.sgn false n.toNat) 1 = (n : Rat) := by
   rw [Rat.mkRat_one]; congr 1; unfold Nm.sgn; simp; omega
  rw [e, Nm.a1T] at hm
  simp only [rq, rc, sb, ints] at hm hof ⊢
  (repeat first | refine uA ?_ | (refine uK ?_ ?_; focus first | omega | (intros; simp_all <;> omega)) | simp (disch := omega) only [go_sem, Nat.reduceBEq, Nat.reduceAdd, ww] | (refine uB hof ?_ ?_; exact rfl) | (refine uD hm ?_ ?_ ?_; exact tz hw; exact rfl))
  (refine S.done ?_; simp only [q8, l9, go_sem, Nat.reduceBEq, Nat.reduceAdd, Nat.reduceLeDiff, Int.reduceToNat, Int.reducePow]; (repeat (refine ⟨?_, ?_⟩; focus first | trivial | omega | simp)); exact j3.out rfl (Imp.refl rfl) rfl)
 ·have hof := b4y (-(n + 1)) (by omega)
  have hadd := f_add (Nm.enc (-(n + 1)).toNat) [1] (by have := hb (-(n + 1)).toNat (by omega); omega) (by decide)
  have hm := a4O true ((-(n + 1)).toNat + 1) 1 (by decide) (by have := hb ((-(n + 1)).toNat + 1) (by omega); omega) (by have := hb 1 (by decide); omega)
  have e : mkRat (Nm.sgn true ((-(n + 1)).toNat + 1)) 1 = (n : Rat) := by
   rw [Rat.mkRat_one]; congr 1; unfold Nm.sgn; simp; omega
  rw [Nm.I9, show Nm.val [1] = 1 from rfl] at hadd
  rw [e, Nm.a1T] at hm
  have hneg : IntKind.i64.wrap (0 - (n + 1)) = -(n + 1) := by rw [Eng.wrap_i64 (by omega)]; omega
  simp only [rq, rc, sb, ints] at hm hof hadd ⊢
  (repeat first | refine uA ?_ | (refine uK ?_ ?_; focus first | omega | (intros; simp_all <;> omega)) | simp (disch := omega) only [go_sem, Nat.reduceBEq, Nat.reduceAdd, ww, hneg] | (refine uB hof ?_ ?_; exact rfl) | (refine uB hadd ?_ ?_; exact rfl) | (refine uD hm ?_ ?_ ?_; exact tz hw; exact rfl))
  (refine S.done ?_; simp only [q8, l9, go_sem, Nat.reduceBEq, Nat.reduceAdd, Nat.reduceLeDiff, Int.reduceToNat, Int.reducePow]; (repeat (refine ⟨?_, ?_⟩; focus first | trivial | omega | simp)); exact j3.out rfl (Imp.refl rfl) rfl)
theorem a2n (a b : Nm.Rt) (ha : Rb 17179869184 a) (hb : Rb 17179869184 b) : FZ 163 [rc a, rc b] (rq (Nm.d9 a + Nm.d9 b)) := by
 refine kW Tryz.func163 (by cbv) (by rfl) fun w O hw => ?_
 have hfa := R8 a ha
 have hfb := R8 b hb
 obtain ⟨n1, d1⟩ := ha.fit (by decide)
 obtain ⟨n2, d2⟩ := hb.fit (by decide)
 generalize Nm.d9 a = p at *
 generalize Nm.d9 b = q at *
 simp only [Nm.ofQ] at n1 d1 n2 d2
 have hp := p.den_nz
 have hq := q.den_nz
 have l1 := Nm.I5 n1 d2
 have l2 := Nm.I5 n2 d1
 have l3 := Nm.I5 d1 d2
 have s1 := b2X (decide (p.num < 0)) (decide (q.num < 0)) (Nm.enc p.num.natAbs) (Nm.enc q.num.natAbs) (by omega) (by omega)
 have m1 := a2M (Nm.enc p.num.natAbs) (Nm.enc q.den) (by omega) (by omega)
 have m2 := a2M (Nm.enc q.num.natAbs) (Nm.enc p.den) (by omega) (by omega)
 have m3 := a2M (Nm.enc p.den) (Nm.enc q.den) (by omega) (by omega)
 simp only [Nm.I9] at s1 m1 m2 m3
 have s2 := b2X (decide (p.num < 0)) (decide (q.num < 0)) (Nm.enc (p.num.natAbs * q.den)) (Nm.enc (q.num.natAbs * p.den)) (by omega) (by omega)
 simp only [Nm.I9] at s2
 have k1 : (Nm.enc (Nm.K9 (decide (p.num < 0)) p.num.natAbs (decide (q.num < 0)) q.num.natAbs).2).length <= 17179869185 := c1s (Nm.a3Y (Nm.a5A _ _ _ _)) (Nm.a4J n1 n2)
 have k2 : (Nm.enc (Nm.K9 (decide (p.num < 0)) (p.num.natAbs * q.den) (decide (q.num < 0)) (q.num.natAbs * p.den)).2).length <= 34359738369 := c1s (Nm.a3Y (Nm.a5A _ _ _ _)) (Nm.a4J l1 l2)
 have v1 := a4O (Nm.K9 (decide (p.num < 0)) p.num.natAbs (decide (q.num < 0)) q.num.natAbs).1 (Nm.K9 (decide (p.num < 0)) p.num.natAbs (decide (q.num < 0)) q.num.natAbs).2 p.den hp (by omega) (by omega)
 have v2 := a4O (Nm.K9 (decide (p.num < 0)) (p.num.natAbs * q.den) (decide (q.num < 0)) (q.num.natAbs * p.den)).1 (Nm.K9 (decide (p.num < 0)) (p.num.natAbs * q.den) (decide (q.num < 0)) (q.num.natAbs * p.den)).2 (p.den * q.den) (Nat.mul_ne_zero hp hq) (by omega) (by omega)
 rw [Nm.a9S] at v2
 have hsame := fun h => Nm.b7D (p := p) (q := q) h
 generalize p + q = r at *
 generalize Nm.K9 (decide (p.num < 0)) p.num.natAbs (decide (q.num < 0)) q.num.natAbs = t1 at *
 generalize Nm.K9 (decide (p.num < 0)) (p.num.natAbs * q.den) (decide (q.num < 0)) (q.num.natAbs * p.den) = t2 at *
 simp only [j6]
 simp only [rq, rc, sb, Nm.ofQ] at *
 (repeat first | refine uA ?_ | (refine uK ?_ ?_; focus first | omega | (intros; simp_all <;> omega)) | simp (disch := omega) only [go_sem, Nat.reduceBEq, Nat.reduceAdd, ww, a8K, b9B] | (refine uD hfa ?_ ?_ ?_; exact tz hw; exact rfl) | (refine uD hfb ?_ ?_ ?_; exact tz hw; exact rfl))
 (refine uJ rfl (fun hc => ?_) fun hc => ?_)
 ·rw [hsame hc] at v1
  (repeat first | refine uA ?_ | (refine uK ?_ ?_; focus first | omega | (intros; simp_all <;> omega)) | simp (disch := omega) only [go_sem, Nat.reduceBEq, Nat.reduceAdd, ww] | (refine uB s1 ?_ ?_; exact rfl) | (refine uD v1 ?_ ?_ ?_; exact tz hw; exact rfl))
  (refine S.done ?_; simp only [q8, l9, go_sem, Nat.reduceBEq, Nat.reduceAdd, Nat.reduceLeDiff, Int.reduceToNat, Int.reducePow]; (repeat (refine ⟨?_, ?_⟩; focus first | trivial | omega | simp)); exact j3.out rfl (Imp.refl rfl) rfl)
 ·(repeat first | refine uA ?_ | (refine uK ?_ ?_; focus first | omega | (intros; simp_all <;> omega)) | simp (disch := omega) only [go_sem, Nat.reduceBEq, Nat.reduceAdd, ww] | (refine uB m1 ?_ ?_; exact rfl) | (refine uB m2 ?_ ?_; exact rfl) | (refine uB m3 ?_ ?_; exact rfl) | (refine uB s2 ?_ ?_; exact rfl) | (refine uD v2 ?_ ?_ ?_; exact tz hw; exact rfl))
  (refine S.done ?_; simp only [q8, l9, go_sem, Nat.reduceBEq, Nat.reduceAdd, Nat.reduceLeDiff, Int.reduceToNat, Int.reducePow]; (repeat (refine ⟨?_, ?_⟩; focus first | trivial | omega | simp)); exact j3.out rfl (Imp.refl rfl) rfl)
theorem a6t (a b : Nm.Rt) (ha : Rb 17179869184 a) (hb : Rb 17179869184 b) : FZ 181 [rc a, rc b] (rq (Nm.d9 a * Nm.d9 b)) := by
 refine kW Tryz.func181 (by cbv) (by rfl) fun w O hw => ?_
 have hfa := R8 a ha
 have hfb := R8 b hb
 obtain ⟨n1, d1⟩ := ha.fit (by decide)
 obtain ⟨n2, d2⟩ := hb.fit (by decide)
 generalize Nm.d9 a = p at *
 generalize Nm.d9 b = q at *
 simp only [Nm.ofQ] at n1 d1 n2 d2
 have hp := p.den_nz
 have hq := q.den_nz
 have l1 := Nm.I5 n1 n2
 have l3 := Nm.I5 d1 d2
 have m1 := a2M (Nm.enc p.num.natAbs) (Nm.enc q.num.natAbs) (by omega) (by omega)
 have m3 := a2M (Nm.enc p.den) (Nm.enc q.den) (by omega) (by omega)
 simp only [Nm.I9] at m1 m3
 have v2 := a4O (decide (p.num < 0) != decide (q.num < 0)) (p.num.natAbs * q.num.natAbs) (p.den * q.den) (Nat.mul_ne_zero hp hq) (by omega) (by omega)
 rw [Nm.b1e] at v2
 generalize p * q = r at *
 simp only [j6]
 simp only [rq, rc, sb, Nm.ofQ] at *
 (repeat first | refine uA ?_ | (refine uK ?_ ?_; focus first | omega | (intros; simp_all <;> omega)) | simp (disch := omega) only [go_sem, Nat.reduceBEq, Nat.reduceAdd, ww] | (refine uB m1 ?_ ?_; exact rfl) | (refine uB m3 ?_ ?_; exact rfl) | (refine uD hfa ?_ ?_ ?_; exact tz hw; exact rfl) | (refine uD hfb ?_ ?_ ?_; exact tz hw; exact rfl) | (refine uD v2 ?_ ?_ ?_; exact tz hw; exact rfl))
 (refine S.done ?_; simp only [q8, l9, go_sem, Nat.reduceBEq, Nat.reduceAdd, Nat.reduceLeDiff, Int.reduceToNat, Int.reducePow]; (repeat (refine ⟨?_, ?_⟩; focus first | trivial | omega | simp)); exact j3.out rfl (Imp.refl rfl) rfl)
def F3 (q : Rat) : Int := if q.num = 0 then 0 else if q.num < 0 then -1 else 1
theorem a8Z (p : Rat) : Nm.ofQ (-p) = ⟨!decide (p.num < 0) && !decide (p.num.natAbs = 0), Nm.enc p.num.natAbs, Nm.enc p.den⟩ := by
 unfold Nm.ofQ
 rw [Rat.neg_num, Rat.neg_den, Int.natAbs_neg]
 congr 1
 by_cases h : p.num < 0
 ·simp [h]; omega
 ·by_cases h0 : p.num = 0
  ·simp [h0]
  ·have : ¬ p.num.natAbs = 0 := by omega
   simp [h, this]; omega
theorem b2D (a : Nm.Rt) (ha : Rb 17179869184 a) : FZ 105 [rc a] (rq (- Nm.d9 a)) := by
 refine kW Tryz.func105 (by cbv) (by rfl) fun w O hw => ?_
 have hfa := R8 a ha
 generalize Nm.d9 a = p at *
 simp only [j6]
 unfold rq at *
 rw [a8Z]
 simp only [rc, sb, Nm.ofQ] at *
 (repeat first | refine uA ?_ | (refine uK ?_ ?_; focus first | omega | (intros; simp_all <;> omega)) | simp (disch := omega) only [go_sem, Nat.reduceBEq, Nat.reduceAdd, ww, a0t, a6G] | (refine uD hfa ?_ ?_ ?_; exact tz hw; exact rfl))
 (refine S.done ?_; simp only [q8, l9, go_sem, Nat.reduceBEq, Nat.reduceAdd, Nat.reduceLeDiff, Int.reduceToNat, Int.reducePow]; (repeat (refine ⟨?_, ?_⟩; focus first | trivial | omega | simp)); exact j3.out rfl (Imp.refl rfl) rfl)
theorem b2V {k : Nat} {a : Nm.Rt} (h : Rb k a) (hk : 1 <= k) : Rb k (Nm.ofQ (- Nm.d9 a)) := by
 obtain ⟨h1, h2⟩ := h.fit hk
 rw [a8Z]
 exact ⟨h1, h2⟩
theorem a5e (a b : Nm.Rt) (ha : Rb 17179869184 a) (hb : Rb 17179869184 b) : FZ 103 [rc a, rc b] (rq (Nm.d9 a - Nm.d9 b)) := by
 refine kW Tryz.func103 (by cbv) (by rfl) fun w O hw => ?_
 have hn := b2D b hb
 have hadd := a2n a (Nm.ofQ (- Nm.d9 b)) ha (b2V hb (by decide))
 rw [Nm.E8, <- Rat.sub_eq_add_neg] at hadd
 unfold rq at *
 generalize Nm.ofQ (- Nm.d9 b) = c at *
 generalize Nm.ofQ (Nm.d9 a - Nm.d9 b) = d at *
 simp only [j6]
 simp only [rc, sb] at *
 (repeat first | refine uA ?_ | (refine uK ?_ ?_; focus first | omega | (intros; simp_all <;> omega)) | simp (disch := omega) only [go_sem, Nat.reduceBEq, Nat.reduceAdd, ww] | (refine uD hn ?_ ?_ ?_; exact tz hw; exact rfl) | (refine uD hadd ?_ ?_ ?_; exact tz hw; exact rfl))
 (refine S.done ?_; simp only [q8, l9, go_sem, Nat.reduceBEq, Nat.reduceAdd, Nat.reduceLeDiff, Int.reduceToNat, Int.reducePow]; (repeat (refine ⟨?_, ?_⟩; focus first | trivial | omega | simp)); exact j3.out rfl (Imp.refl rfl) rfl)
def a0N (p q : Rat) : Nm.Rt := if q = 0 then ⟨false, [], []⟩ else Nm.ofQ (p / q)
def a2k (q : Rat) : Int := if q = 0 then 12 else 0
theorem b5y (a b : Nm.Rt) (ha : Rb 17179869184 a) (hb : Rb 17179869184 b) : FZ 180 [rc a, rc b] (.tup [rc (a0N (Nm.d9 a) (Nm.d9 b)), ints (a2k (Nm.d9 b))]) := by
 refine kW Tryz.func180 (by cbv) (by rfl) fun w O hw => ?_
 have hfa := R8 a ha
 have hfb := R8 b hb
 obtain ⟨n1, d1⟩ := ha.fit (by decide)
 obtain ⟨n2, d2⟩ := hb.fit (by decide)
 generalize Nm.d9 a = p at *
 generalize Nm.d9 b = q at *
 simp only [Nm.ofQ] at n1 d1 n2 d2
 have hp := p.den_nz
 have l1 := Nm.I5 n1 d2
 have l3 := Nm.I5 d1 n2
 have m1 := a2M (Nm.enc p.num.natAbs) (Nm.enc q.den) (by omega) (by omega)
 have m3 := a2M (Nm.enc p.den) (Nm.enc q.num.natAbs) (by omega) (by omega)
 simp only [Nm.I9] at m1 m3
 have v2 := fun h0 : q.num.natAbs ≠ 0 => a4O (decide (p.num < 0) != decide (q.num < 0)) (p.num.natAbs * q.den) (p.den * q.num.natAbs) (Nat.mul_ne_zero hp h0) (by omega) (by omega)
 have hdm := fun h => Nm.b2a p q h
 simp only [j6]
 simp only [rq, rc, sb, Nm.ofQ, ints] at *
 (repeat first | refine uA ?_ | (refine uK ?_ ?_; focus first | omega | (intros; simp_all <;> omega)) | simp (disch := omega) only [go_sem, Nat.reduceBEq, Nat.reduceAdd, ww, a0t, a6G] | (refine uD hfa ?_ ?_ ?_; exact tz hw; exact rfl) | (refine uD hfb ?_ ?_ ?_; exact tz hw; exact rfl))
 (refine uJ rfl (fun hc => ?_) fun hc => ?_)
 ·have h0 : q = 0 := Rat.num_eq_zero.1 (by omega)
  have e1 : a0N p q = ⟨false, [], []⟩ := by unfold a0N; rw [if_pos h0]
  have e2 : a2k q = 12 := by unfold a2k; rw [if_pos h0]
  rw [e1, e2]
  (repeat first | refine uA ?_ | (refine uK ?_ ?_; focus first | omega | (intros; simp_all <;> omega)) | simp (disch := omega) only [go_sem, Nat.reduceBEq, Nat.reduceAdd, ww])
  (refine S.done ?_; simp only [q8, l9, go_sem, Nat.reduceBEq, Nat.reduceAdd, Nat.reduceLeDiff, Int.reduceToNat, Int.reducePow]; (repeat (refine ⟨?_, ?_⟩; focus first | trivial | omega | simp)); exact j3.out rfl (Imp.refl rfl) rfl)
 ·have h0 : q ≠ 0 := fun h => hc (by rw [Rat.num_eq_zero.2 h]; rfl)
  have e1 : a0N p q = Nm.ofQ (p / q) := by unfold a0N; rw [if_neg h0]
  have e2 : a2k q = 0 := by unfold a2k; rw [if_neg h0]
  rw [e1, e2]
  have v2 := v2 hc
  rw [hdm h0] at v2
  generalize p / q = r at *
  simp only [Nm.ofQ] at *
  (repeat first | refine uA ?_ | (refine uK ?_ ?_; focus first | omega | (intros; simp_all <;> omega)) | simp (disch := omega) only [go_sem, Nat.reduceBEq, Nat.reduceAdd, ww] | (refine uB m1 ?_ ?_; exact rfl) | (refine uB m3 ?_ ?_; exact rfl) | (refine uD v2 ?_ ?_ ?_; exact tz hw; exact rfl))
  (refine S.done ?_; simp only [q8, l9, go_sem, Nat.reduceBEq, Nat.reduceAdd, Nat.reduceLeDiff, Int.reduceToNat, Int.reducePow]; (repeat (refine ⟨?_, ?_⟩; focus first | trivial | omega | simp)); exact j3.out rfl (Imp.refl rfl) rfl)
theorem Z4 (a : Nm.Rt) (ha : Rb 17179869184 a) : FZ 31 [rc a] (ints (F3 (Nm.d9 a))) := by
 refine kW Tryz.func31 (by cbv) (by rfl) fun w O hw => ?_
 have hfa := R8 a ha
 generalize Nm.d9 a = p at *
 simp only [j6]
 simp only [rq, rc, sb, Nm.ofQ, ints] at *
 (repeat first | refine uA ?_ | (refine uK ?_ ?_; focus first | omega | (intros; simp_all <;> omega)) | simp (disch := omega) only [go_sem, Nat.reduceBEq, Nat.reduceAdd, ww, a0t, a6G] | (refine uD hfa ?_ ?_ ?_; exact tz hw; exact rfl))
 (refine uJ rfl (fun hc => ?_) fun hc => ?_)
 ·have : F3 p = 0 := by unfold F3; rw [if_pos (by omega)]
  rw [this]
  (repeat first | refine uA ?_ | (refine uK ?_ ?_; focus first | omega | (intros; simp_all <;> omega)) | simp (disch := omega) only [go_sem, Nat.reduceBEq, Nat.reduceAdd, ww])
  exact S.done (j3.out rfl (Imp.refl rfl) rfl)
 (repeat first | refine uA ?_ | (refine uK ?_ ?_; focus first | omega | (intros; simp_all <;> omega)) | simp (disch := omega) only [go_sem, Nat.reduceBEq, Nat.reduceAdd, ww])
 (refine uJ rfl (fun hc => ?_) fun hc => ?_)
 ·have : F3 p = -1 := by unfold F3; rw [if_neg (by omega), if_pos hc]
  rw [this]
  (repeat first | refine uA ?_ | (refine uK ?_ ?_; focus first | omega | (intros; simp_all <;> omega)) | simp (disch := omega) only [go_sem, Nat.reduceBEq, Nat.reduceAdd, ww])
  exact S.done (j3.out rfl (Imp.refl rfl) rfl)
 ·have : F3 p = 1 := by unfold F3; rw [if_neg (by omega), if_neg hc]
  rw [this]
  (repeat first | refine uA ?_ | (refine uK ?_ ?_; focus first | omega | (intros; simp_all <;> omega)) | simp (disch := omega) only [go_sem, Nat.reduceBEq, Nat.reduceAdd, ww])
  exact S.done (j3.out rfl (Imp.refl rfl) rfl)
theorem b5j (a b : Nat) : -1 <= Nm.a0f a b /\ Nm.a0f a b <= 1 := by
 unfold Nm.a0f
 by_cases h : a < b
 ·rw [if_pos h]; omega
 ·rw [if_neg h]; split <;> omega
theorem X5 (a b : Nm.Rt) (ha : Rb 17179869184 a) (hb : Rb 17179869184 b) : FZ 29 [rc a, rc b] (ints (Nm.C8 (Nm.d9 a) (Nm.d9 b))) := by
 refine kW Tryz.func29 (by cbv) (by rfl) fun w O hw => ?_
 have hfa := R8 a ha
 have hfb := R8 b hb
 obtain ⟨n1, d1⟩ := ha.fit (by decide)
 obtain ⟨n2, d2⟩ := hb.fit (by decide)
 generalize Nm.d9 a = p at *
 generalize Nm.d9 b = q at *
 rw [Nm.b8P]
 simp only [Nm.ofQ] at n1 d1 n2 d2
 have l1 := Nm.I5 n1 d2
 have l2 := Nm.I5 n2 d1
 have m1 := a2M (Nm.enc p.num.natAbs) (Nm.enc q.den) (by omega) (by omega)
 have m2 := a2M (Nm.enc q.num.natAbs) (Nm.enc p.den) (by omega) (by omega)
 simp only [Nm.I9] at m1 m2
 have hcmp := a8o (Nm.enc (p.num.natAbs * q.den)) (Nm.enc (q.num.natAbs * p.den)) (by omega) (by omega)
 simp only [Nm.I9] at hcmp
 have hcr := b5j (p.num.natAbs * q.den) (q.num.natAbs * p.den)
 generalize Nm.a0f (p.num.natAbs * q.den) (q.num.natAbs * p.den) = cn at *
 simp only [j6]
 simp only [rq, rc, sb, Nm.ofQ, ints] at *
 generalize decide (p.num < 0) = bp at *
 generalize decide (q.num < 0) = bq at *
 (repeat first | refine uA ?_ | (refine uK ?_ ?_; focus first | omega | (intros; simp_all <;> omega)) | simp (disch := omega) only [go_sem, Nat.reduceBEq, Nat.reduceAdd, ww] | (refine uD hfa ?_ ?_ ?_; exact tz hw; exact rfl) | (refine uD hfb ?_ ?_ ?_; exact tz hw; exact rfl))
 refine S.cond rfl (fun hc => ?_) (fun hc => ?_)
 ·have hne : bp ≠ bq := by simpa using hc
  rw [if_pos hne]
  (repeat first | refine uA ?_ | (refine uK ?_ ?_; focus first | omega | (intros; simp_all <;> omega)) | simp (disch := omega) only [go_sem, Nat.reduceBEq, Nat.reduceAdd, ww])
  refine S.cond rfl (fun hc => ?_) (fun hc => ?_)
  ·rw [if_pos hc]
   (repeat first | refine uA ?_ | (refine uK ?_ ?_; focus first | omega | (intros; simp_all <;> omega)) | simp (disch := omega) only [go_sem, Nat.reduceBEq, Nat.reduceAdd, ww])
   exact S.done (j3.out rfl (Imp.refl rfl) rfl)
  ·rw [if_neg (by simp [hc])]
   (repeat first | refine uA ?_ | (refine uK ?_ ?_; focus first | omega | (intros; simp_all <;> omega)) | simp (disch := omega) only [go_sem, Nat.reduceBEq, Nat.reduceAdd, ww])
   exact S.done (j3.out rfl (Imp.refl rfl) rfl)
 ·have he : bp = bq := by simpa using hc
  rw [if_neg (by simp [he])]
  (repeat first | refine uA ?_ | (refine uK ?_ ?_; focus first | omega | (intros; simp_all <;> omega)) | simp (disch := omega) only [go_sem, Nat.reduceBEq, Nat.reduceAdd, ww] | (refine uB m1 ?_ ?_; exact rfl) | (refine uB m2 ?_ ?_; exact rfl) | (refine uB hcmp ?_ ?_; exact rfl))
  refine S.cond rfl (fun hc => ?_) (fun hc => ?_)
  ·rw [if_pos hc]
   have hneg : IntKind.i64.wrap (0 - cn) = - cn := by rw [Eng.wrap_i64 (by omega)]; omega
   (repeat first | refine uA ?_ | (refine uK ?_ ?_; focus first | omega | (intros; simp_all <;> omega)) | simp (disch := omega) only [go_sem, Nat.reduceBEq, Nat.reduceAdd, ww, hneg])
   exact S.done (j3.out rfl (Imp.refl rfl) rfl)
  ·rw [if_neg (by simp [hc])]
   (repeat first | refine uA ?_ | (refine uK ?_ ?_; focus first | omega | (intros; simp_all <;> omega)) | simp (disch := omega) only [go_sem, Nat.reduceBEq, Nat.reduceAdd, ww])
   exact S.done (j3.out rfl (Imp.refl rfl) rfl)
def a0e (p q : Rat) : Rat := if Nm.C8 p q <= 0 then p else q
def a1v (p q : Rat) : Rat := if Nm.C8 p q >= 0 then p else q
theorem b2m (a b : Nm.Rt) (ha : Rb 17179869184 a) (hb : Rb 17179869184 b) : FZ 106 [rc a, rc b] (rq (a0e (Nm.d9 a) (Nm.d9 b))) := by
 refine kW Tryz.func106 (by cbv) (by rfl) fun w O hw => ?_
 have hfa := R8 a ha
 have hfb := R8 b hb
 have hc := X5 a b ha hb
 unfold a0e
 generalize Nm.C8 (Nm.d9 a) (Nm.d9 b) = cn at *
 simp only [j6]
 unfold rq at *
 generalize Nm.d9 a = p at *
 generalize Nm.d9 b = q at *
 simp only [rc, sb, ints] at *
 (repeat first | refine uA ?_ | (refine uK ?_ ?_; focus first | omega | (intros; simp_all <;> omega)) | simp (disch := omega) only [go_sem, Nat.reduceBEq, Nat.reduceAdd, ww] | (refine uD hc ?_ ?_ ?_; exact tz hw; exact rfl))
 (refine uJ rfl (fun hc => ?_) fun hc => ?_)
 ·rw [if_pos hc]
  (repeat first | refine uA ?_ | (refine uK ?_ ?_; focus first | omega | (intros; simp_all <;> omega)) | simp (disch := omega) only [go_sem, Nat.reduceBEq, Nat.reduceAdd, ww] | (refine uD hfa ?_ ?_ ?_; exact tz hw; exact rfl))
  (refine S.done ?_; simp only [q8, l9, go_sem, Nat.reduceBEq, Nat.reduceAdd, Nat.reduceLeDiff, Int.reduceToNat, Int.reducePow]; (repeat (refine ⟨?_, ?_⟩; focus first | trivial | omega | simp)); exact j3.out rfl (Imp.refl rfl) rfl)
 ·rw [if_neg hc]
  (repeat first | refine uA ?_ | (refine uK ?_ ?_; focus first | omega | (intros; simp_all <;> omega)) | simp (disch := omega) only [go_sem, Nat.reduceBEq, Nat.reduceAdd, ww] | (refine uD hfb ?_ ?_ ?_; exact tz hw; exact rfl))
  (refine S.done ?_; simp only [q8, l9, go_sem, Nat.reduceBEq, Nat.reduceAdd, Nat.reduceLeDiff, Int.reduceToNat, Int.reducePow]; (repeat (refine ⟨?_, ?_⟩; focus first | trivial | omega | simp)); exact j3.out rfl (Imp.refl rfl) rfl)
theorem b5z (a b : Nm.Rt) (ha : Rb 17179869184 a) (hb : Rb 17179869184 b) : FZ 104 [rc a, rc b] (rq (a1v (Nm.d9 a) (Nm.d9 b))) := by
 refine kW Tryz.func104 (by cbv) (by rfl) fun w O hw => ?_
 have hfa := R8 a ha
 have hfb := R8 b hb
 have hc := X5 a b ha hb
 unfold a1v
 generalize Nm.C8 (Nm.d9 a) (Nm.d9 b) = cn at *
 simp only [j6]
 unfold rq at *
 generalize Nm.d9 a = p at *
 generalize Nm.d9 b = q at *
 simp only [rc, sb, ints] at *
 (repeat first | refine uA ?_ | (refine uK ?_ ?_; focus first | omega | (intros; simp_all <;> omega)) | simp (disch := omega) only [go_sem, Nat.reduceBEq, Nat.reduceAdd, ww] | (refine uD hc ?_ ?_ ?_; exact tz hw; exact rfl))
 (refine uJ rfl (fun hc => ?_) fun hc => ?_)
 ·rw [if_pos hc]
  (repeat first | refine uA ?_ | (refine uK ?_ ?_; focus first | omega | (intros; simp_all <;> omega)) | simp (disch := omega) only [go_sem, Nat.reduceBEq, Nat.reduceAdd, ww] | (refine uD hfa ?_ ?_ ?_; exact tz hw; exact rfl))
  (refine S.done ?_; simp only [q8, l9, go_sem, Nat.reduceBEq, Nat.reduceAdd, Nat.reduceLeDiff, Int.reduceToNat, Int.reducePow]; (repeat (refine ⟨?_, ?_⟩; focus first | trivial | omega | simp)); exact j3.out rfl (Imp.refl rfl) rfl)
 ·rw [if_neg hc]
  (repeat first | refine uA ?_ | (refine uK ?_ ?_; focus first | omega | (intros; simp_all <;> omega)) | simp (disch := omega) only [go_sem, Nat.reduceBEq, Nat.reduceAdd, ww] | (refine uD hfb ?_ ?_ ?_; exact tz hw; exact rfl))
  (refine S.done ?_; simp only [q8, l9, go_sem, Nat.reduceBEq, Nat.reduceAdd, Nat.reduceLeDiff, Int.reduceToNat, Int.reducePow]; (repeat (refine ⟨?_, ?_⟩; focus first | trivial | omega | simp)); exact j3.out rfl (Imp.refl rfl) rfl)
theorem c0i (a : Nm.Rt) (ha : Rb 17179869184 a) : FZ 30 [rc a] (rc ⟨false, Nm.enc (Nm.d9 a).num.natAbs, Nm.enc (Nm.d9 a).den⟩) := by
 refine kW Tryz.func30 (by cbv) (by rfl) fun w O hw => ?_
 have hfa := R8 a ha
 generalize Nm.d9 a = p at *
 simp only [j6]
 unfold rq at *
 simp only [rc, sb, Nm.ofQ] at *
 (repeat first | refine uA ?_ | (refine uK ?_ ?_; focus first | omega | (intros; simp_all <;> omega)) | simp (disch := omega) only [go_sem, Nat.reduceBEq, Nat.reduceAdd, ww] | (refine uD hfa ?_ ?_ ?_; exact tz hw; exact rfl))
 (refine S.done ?_; simp only [q8, l9, go_sem, Nat.reduceBEq, Nat.reduceAdd, Nat.reduceLeDiff, Int.reduceToNat, Int.reducePow]; (repeat (refine ⟨?_, ?_⟩; focus first | trivial | omega | simp)); exact j3.out rfl (Imp.refl rfl) rfl)
def j4 (a : Nm.Rt) : Bool := decide (a.num.length <= 3) && decide (a.den.length <= 2) && decide a.G5 && decide (Nm.val a.num <= 1000000) && decide (Nm.val a.den <= 1000)
theorem b4a (a b : Nat) : (Nm.a0f a b <= 0) = (a <= b) := by
 unfold Nm.a0f
 by_cases h : a < b
 ·rw [if_pos h]; simp; omega
 ·rw [if_neg h]; split
  ·simp; omega
  ·simp; omega
theorem a3x (a : Nm.Rt) (ha : Rb 17179869184 a) : FZ 46 [rc a] (.v (.bool (j4 a))) := by
 refine kW Tryz.func46 (by cbv) (by rfl) fun w O hw => ?_
 have hg := a1b a ⟨by have := ha.1; omega, by have := ha.2; omega⟩
 have ho1 := b4y 1000000 (by decide)
 have ho2 := b4y 1000 (by decide)
 have hb : ∀ k : Nat, k <= 1000000 -> (Nm.enc k).length <= 8 := fun k hk => Nm.F8 (by omega)
 have hb1 := hb 1000000 (by decide)
 have hb2 := hb 1000 (by decide)
 have hc1 := a8o a.num (Nm.enc 1000000) (by have := ha.1; omega) (by omega)
 have hc2 := a8o a.den (Nm.enc 1000) (by have := ha.2; omega) (by omega)
 rw [Nm.I9] at hc1 hc2
 rw [show (1000000 : Int).toNat = 1000000 from rfl] at ho1
 rw [show (1000 : Int).toNat = 1000 from rfl] at ho2
 have hl1 := b4a (Nm.val a.num) 1000000
 have hl2 := b4a (Nm.val a.den) 1000
 unfold j4
 generalize decide a.G5 = g at *
 generalize Nm.enc 1000000 = e1 at *
 generalize Nm.enc 1000 = e2 at *
 obtain ⟨neg, num, den⟩ := a
 obtain ⟨r1, r2⟩ := ha
 simp only [j6]
 simp only [rc, sb, ints] at *
 generalize Nm.a0f (Nm.val num) 1000000 = c1 at *
 generalize Nm.a0f (Nm.val den) 1000 = c2 at *
 simp only [<- hl1, <- hl2]
 have hi1 : decide ((num.length : Int) <= 3) = decide (num.length <= 3) := decide_eq_decide.2 (by omega)
 have hi2 : decide ((den.length : Int) <= 2) = decide (den.length <= 2) := decide_eq_decide.2 (by omega)
 (repeat first | refine uA ?_ | (refine uK ?_ ?_; focus first | omega | (intros; simp_all <;> omega)) | simp (disch := omega) only [go_sem, Nat.reduceBEq, Nat.reduceAdd, ww, D7, hi1, hi2] | (refine uB ho1 ?_ ?_; exact rfl) | (refine uB ho2 ?_ ?_; exact rfl) | (refine uB hc1 ?_ ?_; exact rfl) | (refine uB hc2 ?_ ?_; exact rfl) | (refine uD hg ?_ ?_ ?_; exact tz hw; exact rfl))
 exact S.done (j3.out rfl (Imp.refl rfl) rfl)
open Go Eng
def U6 : L9 := ⟨51, [.cell 4 true 4], .seq (.reg [OA 2 (.box 34 (TT 0)), OA 3 (.box 34 (TT 1)), OA 4 (.alloc 34 [.bool false, .bool false, .string ⟨#[]⟩, .string ⟨#[]⟩])]) (.seq (.F4 [.q, .q, .q, .q, .e none true, .e none true] [LL 7 4 2, OA 8
 (.call 178 [TT 7]), LL 9 4 3, OA 10 (.call 178 [TT 9]), OB (.store 4 (TT 2) (TT 8)), OB (.store 4 (TT 3) (TT 10))]) (.seq (.block 0 (.seq (.reg [FF 12 0 2, VV 13 12, MM 14 13, FG 15 0 3 14 true, VG 16 15 14 true, OA 17 (.pick
 (TT 14) (TT 16) (.const (.bool false))), MM 11 17]) (.cond (TT 11) (.seq (.reg [OA 18 (.call 157 [II 0]), OA 19 (.call 177 [TT 18]), OB (.store 4 (TT 4) (TT 19))]) .ret) (.seq (.reg [FF 21 0 2, VV 22 21, MM 20 22]) (.cond (TT
 20) (.seq (.reg [LL 23 4 3, OA 24 (.call 179 [TT 23]), OB (.store 4 (TT 4) (TT 24))]) .ret) (.seq (.reg [FF 26 0 3, VV 27 26, MM 25 27]) (.cond (TT 25) (.seq (.reg [LL 28 4 2, OA 29 (.call 179 [TT 28]), OB (.store 4 (TT 4) (TT
 29))]) .ret) .skip))))))) (.seq (.F4 [.q, .q, .q, .q, .q, .q, .q, .q, .q, .q, .q, .q, .q, .q, .q, .l, .a, .e (some 5) false, .q] [FF 31 1 2, LL 32 3 31, FF 33 1 3, LL 34 3 33, OA 35 (.call 163 [TT 32, TT 34]), OA 36 (.call 157
 [II 1]), FF 37 1 2, LL 38 3 37, FF 39 1 3, LL 40 3 39, OA 41 (.call 181 [TT 38, TT 40]), OA 42 (.call 103 [TT 36, TT 41]), OA 43 (.call 180 [TT 35, TT 42]), MM 30 43, OA 44 (.ext (TT 30) 0), OA 45 (.ext (TT 30) 1), OA 5 (.alloc
 28 [.bool false, .string ⟨#[]⟩, .string ⟨#[]⟩]), OB (.store 3 (TT 5) (TT 44)), MM 6 45]) (.seq (.seq (.reg [MM 46 6, OA 47 (.bin .neq (TT 46) (II 0))]) (.cond (TT 47) (.seq (.reg [OA 48 (.call 182 []), OB (.store 4 (TT 4) (TT
 48))]) .ret) .skip)) (.seq (.reg [LL 49 3 5, OA 50 (.call 177 [TT 49]), OB (.store 4 (TT 4) (TT 50))]) .ret)))))⟩
theorem b1t : J2 eff Tryz.prog Tryz.f118 = some U6 := by kernel_rfl
theorem b1z : Tryz.prog.funcs[118]? = some Tryz.f118 := Tryz.func118
def a6e : L9 := ⟨60, [.tmp 2], .seq (.reg [OA 1 (.box 60 (TT 0)), OA 2 (.mv (II 0))]) (.seq (.seq (.reg [FF 7 0 1, VV 8 7, OA 9 (.call 140 [TT 8]), OA 10 (.un .not (TT 9))]) (.cond (TT 10) (.seq (.reg [OA 2 (.mv (II 3))]) .ret) .skip)) (.seq
 (.seq (.reg [FF 11 11 1, VV 12 11, OA 13 (.len false (TT 12)), OA 14 (.bin .gtr (TT 13) (II 3))]) (.cond (TT 14) (.seq (.reg [OA 2 (.mv (II 2))]) .ret) .skip)) (.seq (.reg [FF 15 1 1, LL 16 10 15, OA 3 (.alloc 36 [.bool false,
 .string ⟨#[]⟩, .string ⟨#[]⟩, .bool false, .string ⟨#[]⟩, .string ⟨#[]⟩, .bool false, .bool false, .string ⟨#[]⟩, .string ⟨#[]⟩]), OB (.store 10 (TT 3) (TT 16))]) (.seq (.seq (.reg [FF 17 11 1, VV 18 17, OA 19 (.len false (TT
 18)), OA 20 (.bin .eql (TT 19) (II 0)), MM 21 20, FG 22 0 3 21 false, FG 23 0 22 21 false, LG 24 3 23 21 false, FG 25 0 3 21 false, FG 26 3 25 21 false, LG 27 3 26 21 false, FG 28 6 3 21 false, FG 29 1 28 21 false, LG 30 3 29 21
 false, OC 31 (.bsl 28 3 3 [.bool false, .string ⟨#[]⟩, .string ⟨#[]⟩] [(0, TT 24), (1, TT 27), (2, TT 30)]) 21 false, OC 32 (.call 141 [TT 31]) 21 false, OC 33 (.un .not (TT 32)) 21 false, OA 34 (.pick (TT 21) (.const (.bool
 true)) (TT 33)), MM 35 34, FG 36 6 3 35 false, FG 37 0 36 35 false, VG 38 37 35 false, MG 39 38 35 false, FG 40 6 3 39 true, FG 41 1 40 39 true, LG 42 3 41 39 true, OC 43 (.call 31 [TT 42]) 39 true, OC 44 (.bin .neq (TT 43) (II
 0)) 39 true, OC 45 (.pick (TT 39) (TT 44) (.const (.bool false))) 35 false, OA 46 (.pick (TT 35) (.const (.bool true)) (TT 45))]) (.cond (TT 46) (.seq (.reg [OA 2 (.mv (II 1))]) .ret) .skip)) (.seq (.seq (.reg [FF 47 11 1, VV 48
 47, OA 49 (.len false (TT 48)), OA 50 (.mv (II 0))]) (.block 0 (.loop (.seq (.reg [OA 51 (.bin .lss (TT 50) (TT 49))]) (.seq (.cond (TT 51) .skip (.exit 0)) (.seq (.block 1 (.seq (.reg [OA 52 (.p9 16 (TT 48) (TT 50)), LL 53
 16 52, OA 5 (.alloc 127 [.bool false, .string ⟨#[]⟩, .string ⟨#[]⟩, .bool false, .string ⟨#[]⟩, .string ⟨#[]⟩, .bool false, .string ⟨#[]⟩, .string ⟨#[]⟩, .bool false, .string ⟨#[]⟩, .string ⟨#[]⟩, .bool false, .string ⟨#[]⟩,
 .string ⟨#[]⟩, .slice none 0 0]), OB (.store 16 (TT 5) (TT 53))]) (.seq (.reg [LL 54 16 5, OA 55 (.call 142 [TT 54]), MM 6 55]) (.seq (.reg [MM 56 6, OA 57 (.bin .neq (TT 56) (II 0))]) (.cond (TT 57) (.seq (.reg [MM 58 6, MM 2
 58]) .ret) .skip))))) (.reg [OA 59 (.bin .add (TT 50) (II 1)), MM 50 59]))))))) (.seq (.reg [OA 2 (.mv (II 0))]) .ret))))))⟩
theorem b1L : J2 eff Tryz.prog Tryz.f49 = some a6e := by kernel_rfl
theorem b2x : Tryz.prog.funcs[49]? = some Tryz.f49 := Tryz.func49
def a6s : L9 := ⟨64, [.tmp 2], .seq (.reg [OA 1 (.box 127 (TT 0)), OA 2 (.mv (II 0))]) (.seq (.seq (.reg [FF 6 0 1, LL 7 3 6, FF 8 3 1, LL 9 3 8, FF 10 6 1, LL 11 3 10, FF 12 9 1, LL 13 3 12, FF 14 12 1, LL 15 3 14, OA 16 (.bsl 28 3 5 [.bool
 false, .string ⟨#[]⟩, .string ⟨#[]⟩] [(0, TT 7), (1, TT 9), (2, TT 11), (3, TT 13), (4, TT 15)]), OA 17 (.call 141 [TT 16]), OA 18 (.un .not (TT 17)), MM 19 18, FG 20 0 1 19 false, LG 21 3 20 19 false, OC 22 (.call 31 [TT 21])
 19 false, OC 23 (.bin .leq (TT 22) (II 0)) 19 false, OA 24 (.pick (TT 19) (.const (.bool true)) (TT 23)), MM 25 24, FG 26 3 1 25 false, LG 27 3 26 25 false, FG 28 6 1 25 false, LG 29 3 28 25 false, OC 30 (.call 29 [TT 27, TT
 29]) 25 false, OC 31 (.bin .geq (TT 30) (II 0)) 25 false, OA 32 (.pick (TT 25) (.const (.bool true)) (TT 31))]) (.cond (TT 32) (.seq (.reg [OA 2 (.mv (II 1))]) .ret) .skip)) (.seq (.seq (.reg [FF 33 9 1, LL 34 3 33, OA 35 (.call
 31 [TT 34]), OA 36 (.bin .leq (TT 35) (II 0)), MM 37 36, FG 38 12 1 37 false, LG 39 3 38 37 false, OC 40 (.call 31 [TT 39]) 37 false, OC 41 (.bin .leq (TT 40) (II 0)) 37 false, OA 42 (.pick (TT 37) (.const (.bool true)) (TT
 41))]) (.cond (TT 42) (.seq (.reg [OA 2 (.mv (II 1))]) .ret) .skip)) (.seq (.seq (.reg [FF 43 15 1, VV 44 43, OA 45 (.call 143 [TT 44]), MM 3 45]) (.seq (.reg [MM 46 3, OA 47 (.bin .neq (TT 46) (II 0))]) (.cond (TT 47) (.seq
 (.reg [MM 48 3, MM 2 48]) .ret) .skip))) (.seq (.seq (.reg [FF 49 15 1, VV 50 49, OA 51 (.len false (TT 50)), OA 52 (.mv (II 0))]) (.block 0 (.loop (.seq (.reg [OA 53 (.bin .lss (TT 52) (TT 51))]) (.seq (.cond (TT 53) .skip
 (.exit 0)) (.seq (.block 1 (.seq (.reg [OA 54 (.p9 6 (TT 50) (TT 52)), LL 55 6 54, OA 5 (.alloc 32 [.bool false, .string ⟨#[]⟩, .string ⟨#[]⟩, .bool false, .string ⟨#[]⟩, .string ⟨#[]⟩]), OB (.store 6 (TT 5) (TT 55))]) (.seq
 (.reg [FF 56 0 5, LL 57 3 56, FF 58 3 5, LL 59 3 58, OA 60 (.bsl 28 3 2 [.bool false, .string ⟨#[]⟩, .string ⟨#[]⟩] [(0, TT 57), (1, TT 59)]), OA 61 (.call 141 [TT 60]), OA 62 (.un .not (TT 61))]) (.cond (TT 62) (.seq (.reg [OA
 2 (.mv (II 1))]) .ret) .skip)))) (.reg [OA 63 (.bin .add (TT 52) (II 1)), MM 52 63]))))))) (.seq (.reg [OA 2 (.mv (II 0))]) .ret)))))⟩
theorem b1F : J2 eff Tryz.prog Tryz.f142 = some a6s := by kernel_rfl
theorem b1f : Tryz.prog.funcs[142]? = some Tryz.f142 := Tryz.func142
def tc (h : Bool) (a : Nm.Rt) : C := .agg [.v (.bool h), .v (.bool a.neg), sb a.num, sb a.den]
def tq (h : Bool) (q : Rat) : C := tc h (Nm.ofQ q)
theorem a5M (a : Nm.Rt) (ha : Rb 17179869184 a) : FZ 177 [rc a] (tq false (Nm.d9 a)) := by
 refine kW Tryz.func177 (by cbv) (by rfl) fun w O hw => ?_
 have hm := b2m a a ha ha
 have e : a0e (Nm.d9 a) (Nm.d9 a) = Nm.d9 a := by unfold a0e; split <;> rfl
 rw [e] at hm
 unfold rq tq at *
 generalize Nm.ofQ (Nm.d9 a) = r at *
 simp only [j6]
 simp only [rc, tc, sb] at *
 (repeat first | refine uA ?_ | (refine uK ?_ ?_; focus first | omega | (intros; simp_all <;> omega)) | simp (disch := omega) only [go_sem, Nat.reduceBEq, Nat.reduceAdd, ww] | (refine uD hm ?_ ?_ ?_; exact tz hw; exact rfl))
 (refine S.done ?_; simp only [q8, l9, go_sem, Nat.reduceBEq, Nat.reduceAdd, Nat.reduceLeDiff, Int.reduceToNat, Int.reducePow]; (repeat (refine ⟨?_, ?_⟩; focus first | trivial | omega | simp)); exact j3.out rfl (Imp.refl rfl) rfl)
theorem a9G {neg : Bool} {n d k m : Nat} (hd : d ≠ 0) (hn : (Nm.enc n).length <= k) (hdl : (Nm.enc d).length <= k) (hk : 1 <= k) (hm : k <= m) : Rb m (Nm.ofQ (mkRat (Nm.sgn neg n) d)) := by
 rw [<- Nm.a9l neg hd]
 split
 ·exact ⟨c1u _, c1s hk hm⟩
 ·exact ⟨c1s (Nm.a3Y (Nat.div_le_self _ _)) (c1s hn hm), c1s (Nm.a3Y (Nat.div_le_self _ _)) (c1s hdl hm)⟩
theorem b1P {k : Nat} {p : Rat} (h : Rb k (Nm.ofQ p)) : 1 <= k := by
 have h1 := h.2
 simp only [Nm.ofQ] at h1
 have : Nm.enc p.den ≠ [] := Nm.a5d p.den_nz
 have := List.length_pos_iff.2 this
 omega
theorem R6 {k m : Nat} {p q : Rat} (hp : Rb k (Nm.ofQ p)) (hq : Rb m (Nm.ofQ q)) : Rb (k + m + 1) (Nm.ofQ (p + q)) := by
 have h1 := b1P hp
 rw [<- Nm.a9S p q]
 have l1 := Nm.I5 hp.1 hq.2
 have l2 := Nm.I5 hq.1 hp.2
 have l3 := Nm.I5 hp.2 hq.2
 exact a9G (k := k + m + 1) (Nat.mul_ne_zero p.den_nz q.den_nz) (c1s (Nm.a3Y (Nm.a5A _ _ _ _)) (Nm.a4J l1 (by omega))) (by omega) (by omega) (c1w _)
theorem K4 {k m : Nat} {p q : Rat} (hp : Rb k (Nm.ofQ p)) (hq : Rb m (Nm.ofQ q)) : Rb (k + m) (Nm.ofQ (p * q)) := by
 have h1 := b1P hp
 rw [<- Nm.b1e p q]
 exact a9G (k := k + m) (Nat.mul_ne_zero p.den_nz q.den_nz) (Nm.I5 hp.1 hq.1) (Nm.I5 hp.2 hq.2) (by omega) (c1w _)
theorem a3B {k m : Nat} {p q : Rat} (h : q ≠ 0) (hp : Rb k (Nm.ofQ p)) (hq : Rb m (Nm.ofQ q)) : Rb (k + m) (Nm.ofQ (p / q)) := by
 have h1 := b1P hp
 rw [<- Nm.b2a p q h]
 have hn : q.num.natAbs ≠ 0 := fun e => h (Rat.num_eq_zero.1 (by omega))
 exact a9G (k := k + m) (Nat.mul_ne_zero p.den_nz hn) (Nm.I5 hp.1 hq.2) (Nm.I5 hp.2 hq.1) (by omega) (c1w _)
theorem a7d {k : Nat} {p : Rat} (hp : Rb k (Nm.ofQ p)) : Rb k (Nm.ofQ (-p)) := by
 rw [a8Z]; exact hp
theorem M9 {k m : Nat} {p q : Rat} (hp : Rb k (Nm.ofQ p)) (hq : Rb m (Nm.ofQ q)) : Rb (k + m + 1) (Nm.ofQ (p - q)) := by
 rw [Rat.sub_eq_add_neg]; exact R6 hp (a7d hq)
theorem Rb.mono {k m : Nat} {a : Nm.Rt} (h : Rb k a) (hm : k <= m) : Rb m a := ⟨c1s h.1 hm, c1s h.2 hm⟩
theorem b0Z (p q : Rat) (hp : Rb 17179869184 (Nm.ofQ p)) (hq : Rb 17179869184 (Nm.ofQ q)) : FZ 163 [rq p, rq q] (rq (p + q)) := by
 have := a2n (Nm.ofQ p) (Nm.ofQ q) hp hq
 rwa [Nm.E8, Nm.E8] at this
theorem b4E (p q : Rat) (hp : Rb 17179869184 (Nm.ofQ p)) (hq : Rb 17179869184 (Nm.ofQ q)) : FZ 103 [rq p, rq q] (rq (p - q)) := by
 have := a5e (Nm.ofQ p) (Nm.ofQ q) hp hq
 rwa [Nm.E8, Nm.E8] at this
theorem a8l (p q : Rat) (hp : Rb 17179869184 (Nm.ofQ p)) (hq : Rb 17179869184 (Nm.ofQ q)) : FZ 181 [rq p, rq q] (rq (p * q)) := by
 have := a6t (Nm.ofQ p) (Nm.ofQ q) hp hq
 rwa [Nm.E8, Nm.E8] at this
theorem b5f (p q : Rat) (hp : Rb 17179869184 (Nm.ofQ p)) (hq : Rb 17179869184 (Nm.ofQ q)) : FZ 180 [rq p, rq q] (.tup [rc (a0N p q), ints (a2k q)]) := by
 have := b5y (Nm.ofQ p) (Nm.ofQ q) hp hq
 rwa [Nm.E8, Nm.E8] at this
theorem b1p : FZ 182 [] (tq true 0) := by
 refine kW Tryz.func182 (by cbv) (by rfl) fun w O hw => ?_
 have ho := a4r 0 (by decide) (by decide)
 rw [show ((0 : Int) : Rat) = 0 from rfl] at ho
 unfold rq tq at *
 generalize Nm.ofQ 0 = r at *
 simp only [j6]
 simp only [rc, tc, sb, ints] at *
 (repeat first | refine uA ?_ | (refine uK ?_ ?_; focus first | omega | (intros; simp_all <;> omega)) | simp (disch := omega) only [go_sem, Nat.reduceBEq, Nat.reduceAdd, ww] | (refine uD ho ?_ ?_ ?_; exact tz hw; exact rfl))
 (refine S.done ?_; simp only [q8, l9, go_sem, Nat.reduceBEq, Nat.reduceAdd, Nat.reduceLeDiff, Int.reduceToNat, Int.reducePow]; (repeat (refine ⟨?_, ?_⟩; focus first | trivial | omega | simp)); exact j3.out rfl (Imp.refl rfl) rfl)
def u7 (h : Bool) (a : Nm.Rt) : Rat := if h then 0 else Nm.d9 a
theorem a6c (h : Bool) (a : Nm.Rt) (ha : Rb 17179869184 a) : FZ 178 [tc h a] (tq h (u7 h a)) := by
 refine kW Tryz.func178 (by cbv) (by rfl) fun w O hw => ?_
 have ho := b1p
 have hf := a5M a ha
 unfold u7 tq at *
 cases h
 ·simp only [c1X, if_false]
  generalize Nm.ofQ (Nm.d9 a) = r at *
  simp only [j6]
  simp only [rc, tc, sb, ints] at *
  (repeat first | refine uA ?_ | (refine uK ?_ ?_; focus first | omega | (intros; simp_all <;> omega)) | simp (disch := omega) only [go_sem, Nat.reduceBEq, Nat.reduceAdd, ww])
  exact S.cond rfl (fun hc => by cases hc) (fun _ => by
   (repeat first | refine uA ?_ | (refine uK ?_ ?_; focus first | omega | (intros; simp_all <;> omega)) | simp (disch := omega) only [go_sem, Nat.reduceBEq, Nat.reduceAdd, ww] | (refine uD hf ?_ ?_ ?_; exact tz hw; exact rfl))
   (refine S.done ?_; simp only [q8, l9, go_sem, Nat.reduceBEq, Nat.reduceAdd, Nat.reduceLeDiff, Int.reduceToNat, Int.reducePow]; (repeat (refine ⟨?_, ?_⟩; focus first | trivial | omega | simp)); exact j3.out rfl (Imp.refl rfl) rfl))
 ·simp only [if_true]
  generalize Nm.ofQ 0 = r at *
  simp only [j6]
  simp only [rc, tc, sb, ints] at *
  (repeat first | refine uA ?_ | (refine uK ?_ ?_; focus first | omega | (intros; simp_all <;> omega)) | simp (disch := omega) only [go_sem, Nat.reduceBEq, Nat.reduceAdd, ww])
  exact S.cond rfl (fun _ => by
   (repeat first | refine uA ?_ | (refine uK ?_ ?_; focus first | omega | (intros; simp_all <;> omega)) | simp (disch := omega) only [go_sem, Nat.reduceBEq, Nat.reduceAdd, ww] | (refine uD ho ?_ ?_ ?_; exact tz hw; exact rfl))
   (refine S.done ?_; simp only [q8, l9, go_sem, Nat.reduceBEq, Nat.reduceAdd, Nat.reduceLeDiff, Int.reduceToNat, Int.reducePow]; (repeat (refine ⟨?_, ?_⟩; focus first | trivial | omega | simp)); exact j3.out rfl (Imp.refl rfl) rfl)) (fun hc => by cases hc)
def R9 (h : Bool) (t : Rat) : Rat := if h then -1 else (1 - t * t) / (1 + t * t)
def S9 (t : Rat) : Rat := (t + t) / (1 + t * t)
theorem sq_nonneg (t : Rat) : 0 <= t * t := by
 rcases Rat.le_total (a := 0) (b := t) with h | h
 ·exact Rat.mul_nonneg h h
 ·have h1 : 0 <= -t := by grind
  have := Rat.mul_nonneg h1 h1
  grind
theorem a8G (t : Rat) : 1 + t * t ≠ 0 := by
 have := sq_nonneg t
 intro h
 have h1 : (0 : Rat) < 1 := by decide
 grind
theorem Z7 : Rb 8 (Nm.ofQ 1) := ⟨Nm.F8 (by decide), Nm.F8 (by decide)⟩
theorem c0d (h : Bool) (a : Nm.Rt) (ha : Rb 4294967296 a) : FZ 183 [tc h a] (rq (R9 h (u7 h a))) := by
 refine kW Tryz.func183 (by cbv) (by rfl) fun w O hw => ?_
 have hf := a6c h a (ha.mono (by decide))
 have ho := a4r 1 (by decide) (by decide)
 have hm1 := a4r (-1) (by decide) (by decide)
 rw [show ((1 : Int) : Rat) = 1 from rfl] at ho
 rw [show ((-1 : Int) : Rat) = -1 from rfl] at hm1
 have hk : Rb 4294967296 (Nm.ofQ (u7 h a)) := by
  unfold u7; cases h
  ·exact ha.fit (by decide)
  ·simp only [if_true]; rw [Nm.a2y]; exact ⟨by decide, by decide⟩
 generalize u7 h a = t at *
 have hsq := a8l t t (hk.mono (by decide)) (hk.mono (by decide))
 have k2 := K4 hk hk
 have hs := b4E 1 (t * t) (Z7.mono (by decide)) (k2.mono (by decide))
 have hp := b0Z 1 (t * t) (Z7.mono (by decide)) (k2.mono (by decide))
 have hd := b5f (1 - t * t) (1 + t * t) ((M9 Z7 k2).mono (by decide)) ((R6 Z7 k2).mono (by decide))
 rw [show a0N (1 - t * t) (1 + t * t) = Nm.ofQ ((1 - t * t) / (1 + t * t)) by unfold a0N; rw [if_neg (a8G t)]] at hd
 unfold R9
 cases h
 ·simp only [c1X, if_false]
  generalize (1 - t * t) / (1 + t * t) = r at *
  unfold tq rq at *
  generalize Nm.ofQ t = rt at *
  generalize Nm.ofQ (t * t) = rs at *
  generalize Nm.ofQ (1 - t * t) = r1 at *
  generalize Nm.ofQ (1 + t * t) = r2 at *
  generalize Nm.ofQ r = r3 at *
  generalize Nm.ofQ 1 = r4 at *
  simp only [j6]
  simp only [rc, tc, sb, ints] at *
  (repeat first | refine uA ?_ | (refine uK ?_ ?_; focus first | omega | (intros; simp_all <;> omega)) | simp (disch := omega) only [go_sem, Nat.reduceBEq, Nat.reduceAdd, ww] | (refine uD hf ?_ ?_ ?_; exact tz hw; exact rfl))
  refine S.cond rfl (fun hc => by cases hc) (fun _ => ?_)
  (repeat first | refine uA ?_ | (refine uK ?_ ?_; focus first | omega | (intros; simp_all <;> omega)) | simp (disch := omega) only [go_sem, Nat.reduceBEq, Nat.reduceAdd, ww] | (refine uD hsq ?_ ?_ ?_; exact tz hw; exact rfl) | (refine uD ho ?_ ?_ ?_; exact tz hw; exact rfl) | (refine uD hs ?_ ?_ ?_; exact tz hw; exact rfl) | (refine uD hp ?_ ?_ ?_; exact tz hw; exact rfl) | (refine uD hd ?_ ?_ ?_; exact tz hw; exact rfl))
  (refine S.done ?_; simp only [q8, l9, go_sem, Nat.reduceBEq, Nat.reduceAdd, Nat.reduceLeDiff, Int.reduceToNat, Int.reducePow]; (repeat (refine ⟨?_, ?_⟩; focus first | trivial | omega | simp)); exact j3.out rfl (Imp.refl rfl) rfl)
 ·simp only [if_true]
  unfold tq rq at *
  generalize Nm.ofQ t = rt at *
  generalize Nm.ofQ (-1) = r4 at *
  simp only [j6]
  simp only [rc, tc, sb, ints] at *
  (repeat first | refine uA ?_ | (refine uK ?_ ?_; focus first | omega | (intros; simp_all <;> omega)) | simp (disch := omega) only [go_sem, Nat.reduceBEq, Nat.reduceAdd, ww] | (refine uD hf ?_ ?_ ?_; exact tz hw; exact rfl))
  refine S.cond rfl (fun _ => ?_) (fun hc => by cases hc)
  (repeat first | refine uA ?_ | (refine uK ?_ ?_; focus first | omega | (intros; simp_all <;> omega)) | simp (disch := omega) only [go_sem, Nat.reduceBEq, Nat.reduceAdd, ww] | (refine uD hm1 ?_ ?_ ?_; exact tz hw; exact rfl))
  (refine S.done ?_; simp only [q8, l9, go_sem, Nat.reduceBEq, Nat.reduceAdd, Nat.reduceLeDiff, Int.reduceToNat, Int.reducePow]; (repeat (refine ⟨?_, ?_⟩; focus first | trivial | omega | simp)); exact j3.out rfl (Imp.refl rfl) rfl)
theorem U8 {k : Nat} {h : Bool} {a : Nm.Rt} (ha : Rb k a) (hk : 1 <= k) : Rb k (Nm.ofQ (u7 h a)) := by
 unfold u7; cases h
 ·exact ha.fit hk
 ·simp only [if_true]; rw [Nm.a2y]; exact ⟨c1u _, hk⟩
theorem c0w (h : Bool) (a : Nm.Rt) (ha : Rb 4294967296 a) : FZ 184 [tc h a] (rq (S9 (u7 h a))) := by
 refine kW Tryz.func184 (by cbv) (by rfl) fun w O hw => ?_
 have hf := a6c h a (ha.mono (by decide))
 have ho := a4r 1 (by decide) (by decide)
 rw [show ((1 : Int) : Rat) = 1 from rfl] at ho
 have hk : Rb 4294967296 (Nm.ofQ (u7 h a)) := U8 ha (by decide)
 generalize u7 h a = t at *
 have hsq := a8l t t (hk.mono (by decide)) (hk.mono (by decide))
 have k2 := K4 hk hk
 have hs := b0Z t t (hk.mono (by decide)) (hk.mono (by decide))
 have hp := b0Z 1 (t * t) (Z7.mono (by decide)) (k2.mono (by decide))
 have hd := b5f (t + t) (1 + t * t) ((R6 hk hk).mono (by decide)) ((R6 Z7 k2).mono (by decide))
 rw [show a0N (t + t) (1 + t * t) = Nm.ofQ ((t + t) / (1 + t * t)) by unfold a0N; rw [if_neg (a8G t)]] at hd
 unfold S9
 generalize (t + t) / (1 + t * t) = r at *
 unfold tq rq at *
 generalize Nm.ofQ t = rt at *
 generalize Nm.ofQ (t * t) = rs at *
 generalize Nm.ofQ (t + t) = r1 at *
 generalize Nm.ofQ (1 + t * t) = r2 at *
 generalize Nm.ofQ r = r3 at *
 generalize Nm.ofQ 1 = r4 at *
 simp only [j6]
 simp only [rc, tc, sb, ints] at *
 (repeat first | refine uA ?_ | (refine uK ?_ ?_; focus first | omega | (intros; simp_all <;> omega)) | simp (disch := omega) only [go_sem, Nat.reduceBEq, Nat.reduceAdd, ww] | (refine uD hf ?_ ?_ ?_; exact tz hw; exact rfl) | (refine uD hsq ?_ ?_ ?_; exact tz hw; exact rfl) | (refine uD ho ?_ ?_ ?_; exact tz hw; exact rfl) | (refine uD hs ?_ ?_ ?_; exact tz hw; exact rfl) | (refine uD hp ?_ ?_ ?_; exact tz hw; exact rfl) | (refine uD hd ?_ ?_ ?_; exact tz hw; exact rfl))
 (refine S.done ?_; simp only [q8, l9, go_sem, Nat.reduceBEq, Nat.reduceAdd, Nat.reduceLeDiff, Int.reduceToNat, Int.reducePow]; (repeat (refine ⟨?_, ?_⟩; focus first | trivial | omega | simp)); exact j3.out rfl (Imp.refl rfl) rfl)
def vc (x y : Nm.Rt) : C := .agg [.v (.bool x.neg), sb x.num, sb x.den, .v (.bool y.neg), sb y.num, sb y.den]
def vq (x y : Rat) : C := vc (Nm.ofQ x) (Nm.ofQ y)
theorem b6K (a b c d : Nm.Rt) (ha : Rb 17179869184 a) (hb : Rb 17179869184 b) (hc : Rb 17179869184 c) (hd : Rb 17179869184 d) :
  FZ 101 [vc a b, vc c d] (vq (Nm.d9 a + Nm.d9 c) (Nm.d9 b + Nm.d9 d)) := by
 refine kW Tryz.func101 (by cbv) (by rfl) fun w O hw => ?_
 have h1 := a2n a c ha hc
 have h2 := a2n b d hb hd
 unfold vq rq at *
 generalize Nm.ofQ (Nm.d9 a + Nm.d9 c) = r1 at *
 generalize Nm.ofQ (Nm.d9 b + Nm.d9 d) = r2 at *
 simp only [j6]
 simp only [rc, vc, sb] at *
 (repeat first | refine uA ?_ | (refine uK ?_ ?_; focus first | omega | (intros; simp_all <;> omega)) | simp (disch := omega) only [go_sem, Nat.reduceBEq, Nat.reduceAdd, ww] | (refine uD h1 ?_ ?_ ?_; exact tz hw; exact rfl) | (refine uD h2 ?_ ?_ ?_; exact tz hw; exact rfl))
 (refine S.done ?_; simp only [q8, l9, go_sem, Nat.reduceBEq, Nat.reduceAdd, Nat.reduceLeDiff, Int.reduceToNat, Int.reducePow]; (repeat (refine ⟨?_, ?_⟩; focus first | trivial | omega | simp)); exact j3.out rfl (Imp.refl rfl) rfl)
theorem b1g (a b c d : Nm.Rt) (ha : Rb 17179869184 a) (hb : Rb 17179869184 b) (hc : Rb 17179869184 c) (hd : Rb 17179869184 d) :
  FZ 121 [vc a b, vc c d] (vq (Nm.d9 a - Nm.d9 c) (Nm.d9 b - Nm.d9 d)) := by
 refine kW Tryz.func121 (by cbv) (by rfl) fun w O hw => ?_
 have h1 := a5e a c ha hc
 have h2 := a5e b d hb hd
 unfold vq rq at *
 generalize Nm.ofQ (Nm.d9 a - Nm.d9 c) = r1 at *
 generalize Nm.ofQ (Nm.d9 b - Nm.d9 d) = r2 at *
 simp only [j6]
 simp only [rc, vc, sb] at *
 (repeat first | refine uA ?_ | (refine uK ?_ ?_; focus first | omega | (intros; simp_all <;> omega)) | simp (disch := omega) only [go_sem, Nat.reduceBEq, Nat.reduceAdd, ww] | (refine uD h1 ?_ ?_ ?_; exact tz hw; exact rfl) | (refine uD h2 ?_ ?_ ?_; exact tz hw; exact rfl))
 (refine S.done ?_; simp only [q8, l9, go_sem, Nat.reduceBEq, Nat.reduceAdd, Nat.reduceLeDiff, Int.reduceToNat, Int.reducePow]; (repeat (refine ⟨?_, ?_⟩; focus first | trivial | omega | simp)); exact j3.out rfl (Imp.refl rfl) rfl)
theorem a9d {k : Nat} {t : Rat} (h : Bool) (ht : Rb k (Nm.ofQ t)) : Rb (4 * k + 18) (Nm.ofQ (R9 h t)) := by
 unfold R9
 have h1 := K4 ht ht
 have h2 := M9 Z7 h1
 have h3 := R6 Z7 h1
 cases h
 ·exact (a3B (a8G t) h2 h3).mono (by omega)
 ·exact (a7d Z7).mono (by omega)
theorem a8r {k : Nat} {t : Rat} (ht : Rb k (Nm.ofQ t)) : Rb (4 * k + 18) (Nm.ofQ (S9 t)) := by
 unfold S9
 exact (a3B (a8G t) (R6 ht ht) (R6 Z7 (K4 ht ht))).mono (by omega)
theorem b4k (a b t : Nm.Rt) (h : Bool) (ha : Rb 268435456 a) (hb : Rb 268435456 b) (ht : Rb 268435456 t) :
  FZ 120 [vc a b, tc h t] (vq (Nm.d9 a * R9 h (u7 h t) - Nm.d9 b * S9 (u7 h t)) (Nm.d9 a * S9 (u7 h t) + Nm.d9 b * R9 h (u7 h t))) := by
 refine kW Tryz.func120 (by cbv) (by rfl) fun w O hw => ?_
 have k1 := c0d h t (ht.mono (by decide))
 have k2 := c0w h t (ht.mono (by decide))
 have ft := U8 (h := h) ht (by decide)
 have rc1 := a9d h ft
 have rs1 := a8r ft
 have fa := ha.fit (by decide)
 have fb := hb.fit (by decide)
 have m1 := a6t a (Nm.ofQ (R9 h (u7 h t))) (ha.mono (by decide)) (rc1.mono (by decide))
 have m2 := a6t b (Nm.ofQ (S9 (u7 h t))) (hb.mono (by decide)) (rs1.mono (by decide))
 have m3 := a6t a (Nm.ofQ (S9 (u7 h t))) (ha.mono (by decide)) (rs1.mono (by decide))
 have m4 := a6t b (Nm.ofQ (R9 h (u7 h t))) (hb.mono (by decide)) (rc1.mono (by decide))
 simp only [Nm.E8] at m1 m2 m3 m4
 have s1 := a5e (Nm.ofQ (Nm.d9 a * R9 h (u7 h t))) (Nm.ofQ (Nm.d9 b * S9 (u7 h t))) ((K4 fa rc1).mono (by decide)) ((K4 fb rs1).mono (by decide))
 have s2 := a2n (Nm.ofQ (Nm.d9 a * S9 (u7 h t))) (Nm.ofQ (Nm.d9 b * R9 h (u7 h t))) ((K4 fa rs1).mono (by decide)) ((K4 fb rc1).mono (by decide))
 simp only [Nm.E8] at s1 s2
 unfold vq rq at *
 generalize Nm.ofQ (Nm.d9 a * R9 h (u7 h t) - Nm.d9 b * S9 (u7 h t)) = r1 at *
 generalize Nm.ofQ (Nm.d9 a * S9 (u7 h t) + Nm.d9 b * R9 h (u7 h t)) = r2 at *
 generalize Nm.ofQ (Nm.d9 a * R9 h (u7 h t)) = p1 at *
 generalize Nm.ofQ (Nm.d9 b * S9 (u7 h t)) = p2 at *
 generalize Nm.ofQ (Nm.d9 a * S9 (u7 h t)) = p3 at *
 generalize Nm.ofQ (Nm.d9 b * R9 h (u7 h t)) = p4 at *
 generalize Nm.ofQ (R9 h (u7 h t)) = c at *
 generalize Nm.ofQ (S9 (u7 h t)) = s at *
 simp only [j6]
 simp only [rc, vc, tc, sb] at *
 (repeat first | refine uA ?_ | (refine uK ?_ ?_; focus first | omega | (intros; simp_all <;> omega)) | simp (disch := omega) only [go_sem, Nat.reduceBEq, Nat.reduceAdd, ww] | (refine uD k1 ?_ ?_ ?_; exact tz hw; exact rfl) | (refine uD k2 ?_ ?_ ?_; exact tz hw; exact rfl) | (refine uD m1 ?_ ?_ ?_; exact tz hw; exact rfl) | (refine uD m2 ?_ ?_ ?_; exact tz hw; exact rfl) | (refine uD m3 ?_ ?_ ?_; exact tz hw; exact rfl) | (refine uD m4 ?_ ?_ ?_; exact tz hw; exact rfl) | (refine uD s1 ?_ ?_ ?_; exact tz hw; exact rfl) | (refine uD s2 ?_ ?_ ?_; exact tz hw; exact rfl))
 (refine S.done ?_; simp only [q8, l9, go_sem, Nat.reduceBEq, Nat.reduceAdd, Nat.reduceLeDiff, Int.reduceToNat, Int.reducePow]; (repeat (refine ⟨?_, ?_⟩; focus first | trivial | omega | simp)); exact j3.out rfl (Imp.refl rfl) rfl)
structure Vt where
 x : Nm.Rt
 y : Nm.Rt
def Vt.enc (v : Vt) : List C := [.v (.bool v.x.neg), sb v.x.num, sb v.x.den, .v (.bool v.y.neg), sb v.y.num, sb v.y.den]
def Vt.c (v : Vt) : C := .agg v.enc
def Vt.zero : Vt := ⟨⟨false, [], []⟩, ⟨false, [], []⟩⟩
def Vb (k : Nat) (v : Vt) : Prop := Rb k v.x /\ Rb k v.y
theorem Vb.mono {k m : Nat} {v : Vt} (h : Vb k v) (hm : k <= m) : Vb m v := ⟨h.1.mono hm, h.2.mono hm⟩
theorem b7j (a b c d : Rat) (ha : Rb 4294967296 (Nm.ofQ a)) (hb : Rb 4294967296 (Nm.ofQ b)) (hc : Rb 4294967296 (Nm.ofQ c)) (hd : Rb 4294967296 (Nm.ofQ d)) :
  FZ 228 [vq a b, vq c d] (rq (a * d - b * c)) := by
 refine kW Tryz.func228 (by cbv) (by rfl) fun w O hw => ?_
 have h1 := a8l a d (ha.mono (by decide)) (hd.mono (by decide))
 have h2 := a8l b c (hb.mono (by decide)) (hc.mono (by decide))
 have h3 := b4E (a * d) (b * c) ((K4 ha hd).mono (by decide)) ((K4 hb hc).mono (by decide))
 unfold vq rq at *
 generalize Nm.ofQ (a * d - b * c) = r3 at *
 generalize Nm.ofQ (a * d) = r1 at *
 generalize Nm.ofQ (b * c) = r2 at *
 generalize Nm.ofQ a = ra at *
 generalize Nm.ofQ b = rb at *
 generalize Nm.ofQ c = r at *
 generalize Nm.ofQ d = rd at *
 simp only [j6]
 simp only [rc, vc, sb] at *
 (repeat first | refine uA ?_ | (refine uK ?_ ?_; focus first | omega | (intros; simp_all <;> omega)) | simp (disch := omega) only [go_sem, Nat.reduceBEq, Nat.reduceAdd, ww] | (refine uD h1 ?_ ?_ ?_; exact tz hw; exact rfl) | (refine uD h2 ?_ ?_ ?_; exact tz hw; exact rfl) | (refine uD h3 ?_ ?_ ?_; exact tz hw; exact rfl))
 (refine S.done ?_; simp only [q8, l9, go_sem, Nat.reduceBEq, Nat.reduceAdd, Nat.reduceLeDiff, Int.reduceToNat, Int.reducePow]; (repeat (refine ⟨?_, ?_⟩; focus first | trivial | omega | simp)); exact j3.out rfl (Imp.refl rfl) rfl)
def a7e (a b c : Vt) : Int := F3 ((Nm.d9 b.x - Nm.d9 a.x) * (Nm.d9 c.y - Nm.d9 a.y) - (Nm.d9 b.y - Nm.d9 a.y) * (Nm.d9 c.x - Nm.d9 a.x))
theorem b9V (a b c : Vt) (ha : Vb 1073741824 a) (hb : Vb 1073741824 b) (hc : Vb 1073741824 c) : FZ 213 [a.c, b.c, c.c] (ints (a7e a b c)) := by
 refine kW Tryz.func213 (by cbv) (by rfl) fun w O hw => ?_
 have h1 := b1g b.x b.y a.x a.y (hb.1.mono (by decide)) (hb.2.mono (by decide)) (ha.1.mono (by decide)) (ha.2.mono (by decide))
 have h2 := b1g c.x c.y a.x a.y (hc.1.mono (by decide)) (hc.2.mono (by decide)) (ha.1.mono (by decide)) (ha.2.mono (by decide))
 have g1 := M9 (hb.1.fit (by decide)) (ha.1.fit (by decide))
 have g2 := M9 (hb.2.fit (by decide)) (ha.2.fit (by decide))
 have g3 := M9 (hc.1.fit (by decide)) (ha.1.fit (by decide))
 have g4 := M9 (hc.2.fit (by decide)) (ha.2.fit (by decide))
 unfold a7e
 generalize Nm.d9 b.x - Nm.d9 a.x = p1 at *
 generalize Nm.d9 b.y - Nm.d9 a.y = p2 at *
 generalize Nm.d9 c.x - Nm.d9 a.x = p3 at *
 generalize Nm.d9 c.y - Nm.d9 a.y = p4 at *
 have h3 := b7j p1 p2 p3 p4 (g1.mono (by decide)) (g2.mono (by decide)) (g3.mono (by decide)) (g4.mono (by decide))
 have g5 := M9 (K4 g1 g4) (K4 g2 g3)
 have h4 := Z4 (Nm.ofQ (p1 * p4 - p2 * p3)) (g5.mono (by decide))
 rw [Nm.E8] at h4
 generalize p1 * p4 - p2 * p3 = p5 at *
 unfold vq rq at *
 generalize Nm.ofQ p1 = r1 at *
 generalize Nm.ofQ p2 = r2 at *
 generalize Nm.ofQ p3 = r3 at *
 generalize Nm.ofQ p4 = r4 at *
 generalize Nm.ofQ p5 = r5 at *
 simp only [j6]
 simp only [rc, vc, sb, Vt.c, Vt.enc] at *
 (repeat first | refine uA ?_ | (refine uK ?_ ?_; focus first | omega | (intros; simp_all <;> omega)) | simp (disch := omega) only [go_sem, Nat.reduceBEq, Nat.reduceAdd, ww] | (refine uD h1 ?_ ?_ ?_; exact tz hw; exact rfl) | (refine uD h2 ?_ ?_ ?_; exact tz hw; exact rfl) | (refine uD h3 ?_ ?_ ?_; exact tz hw; exact rfl) | (refine uD h4 ?_ ?_ ?_; exact tz hw; exact rfl))
 (refine S.done ?_; simp only [q8, l9, go_sem, Nat.reduceBEq, Nat.reduceAdd, Nat.reduceLeDiff, Int.reduceToNat, Int.reducePow]; (repeat (refine ⟨?_, ?_⟩; focus first | trivial | omega | simp)); exact j3.out rfl (Imp.refl rfl) rfl)
def G9 {α : Type} (f : α -> Int) : List α -> Int
 | [] => 0
 | x :: r => if f x = 0 then G9 f r else f x
def u6 {α σ : Type} (f : σ -> α -> Int × σ) : σ -> List α -> Int × σ
 | s, [] => (0, s)
 | s, x :: r => if (f s x).1 = 0 then u6 f (f s x).2 r else f s x
theorem drop_at {α : Type} {l : List α} {i : Nat} {x : α} (h : l[i]? = some x) : l.drop i = x :: l.drop (i + 1) := by
 obtain ⟨hi, rfl⟩ := c1r.1 h
 exact List.drop_eq_getElem_cons hi
theorem a1B {α : Type} {f : α -> Int} {l : List α} {i : Nat} {x : α} (h : l[i]? = some x) (h0 : f x ≠ 0) : G9 f (l.drop i) = f x := by
 rw [drop_at h, G9, if_neg h0]
theorem a1y {α : Type} {f : α -> Int} {l : List α} {i : Nat} {x : α} (h : l[i]? = some x) (h0 : f x = 0) : G9 f (l.drop i) = G9 f (l.drop (i + 1)) := by
 rw [drop_at h, G9, if_pos h0]
theorem a2b {α : Type} {f : α -> Int} {l : List α} {i : Nat} (h : l.length <= i) : G9 f (l.drop i) = 0 := by
 rw [List.drop_eq_nil_of_le h, G9]
theorem a2m {α σ : Type} {f : σ -> α -> Int × σ} {s : σ} {l : List α} {i : Nat} {x : α} (h : l[i]? = some x) (h0 : (f s x).1 ≠ 0) : u6 f s (l.drop i) = f s x := by
 rw [drop_at h, u6, if_neg h0]
theorem a2l {α σ : Type} {f : σ -> α -> Int × σ} {s : σ} {l : List α} {i : Nat} {x : α} (h : l[i]? = some x) (h0 : (f s x).1 = 0) : u6 f s (l.drop i) = u6 f (f s x).2 (l.drop (i + 1)) := by
 rw [drop_at h, u6, if_pos h0]
theorem a2T {α σ : Type} {f : σ -> α -> Int × σ} {s : σ} {l : List α} {i : Nat} (h : l.length <= i) : u6 f s (l.drop i) = (0, s) := by
 rw [List.drop_eq_nil_of_le h, u6]
structure Fr where
 x : Nm.Rt
 y : Nm.Rt
 half : Bool
 t : Nm.Rt
structure Lk where
 length : Nm.Rt
 low : Nm.Rt
 high : Nm.Rt
 speed : Nm.Rt
 brake : Nm.Rt
 shape : List Vt
structure Am where
 name : List UInt8
 base : Fr
 links : List Lk
structure Pt where
 name : List UInt8
 shape : List Vt
 grasp : Fr
structure Sl where
 name : List UInt8
 frame : Fr
 within : Nm.Rt
structure Gt where
 name : List UInt8
 low : Vt
 high : Vt
structure Wk where
 arms : List Am
 walls : List (List Vt)
 parts : List Pt
 slots : List Sl
 gates : List Gt
 walk : Nm.Rt
def rcs (a : Nm.Rt) : List C := [.v (.bool a.neg), sb a.num, sb a.den]
def Fr.enc (f : Fr) : List C := [.v (.bool f.x.neg), sb f.x.num, sb f.x.den, .v (.bool f.y.neg), sb f.y.num, sb f.y.den, .v (.bool f.half), .v (.bool f.t.neg), sb f.t.num, sb f.t.den]
def Fr.c (f : Fr) : C := .agg f.enc
def vts (l : List Vt) : C := .sl 6 (l.map Vt.enc)
def Lk.enc (l : Lk) : List C := [.v (.bool l.length.neg), sb l.length.num, sb l.length.den, .v (.bool l.low.neg), sb l.low.num, sb l.low.den, .v (.bool l.high.neg), sb l.high.num, sb l.high.den, .v (.bool l.speed.neg), sb l.speed.num, sb l.speed.den, .v (.bool l.brake.neg), sb l.brake.num, sb l.brake.den, vts l.shape]
def Lk.c (l : Lk) : C := .agg l.enc
def lks (l : List Lk) : C := .sl 16 (l.map Lk.enc)
def Am.enc (a : Am) : List C := [sb a.name, .v (.bool a.base.x.neg), sb a.base.x.num, sb a.base.x.den, .v (.bool a.base.y.neg), sb a.base.y.num, sb a.base.y.den, .v (.bool a.base.half), .v (.bool a.base.t.neg), sb a.base.t.num, sb a.base.t.den, lks a.links]
def Am.c (a : Am) : C := .agg a.enc
def ams (l : List Am) : C := .sl 12 (l.map Am.enc)
def Pt.enc (p : Pt) : List C := [sb p.name, vts p.shape, .v (.bool p.grasp.x.neg), sb p.grasp.x.num, sb p.grasp.x.den, .v (.bool p.grasp.y.neg), sb p.grasp.y.num, sb p.grasp.y.den, .v (.bool p.grasp.half), .v (.bool p.grasp.t.neg), sb p.grasp.t.num, sb p.grasp.t.den]
def Pt.c (p : Pt) : C := .agg p.enc
def pts (l : List Pt) : C := .sl 12 (l.map Pt.enc)
def Sl.enc (s : Sl) : List C := [sb s.name, .v (.bool s.frame.x.neg), sb s.frame.x.num, sb s.frame.x.den, .v (.bool s.frame.y.neg), sb s.frame.y.num, sb s.frame.y.den, .v (.bool s.frame.half), .v (.bool s.frame.t.neg), sb s.frame.t.num, sb s.frame.t.den, .v (.bool s.within.neg), sb s.within.num, sb s.within.den]
def Sl.c (s : Sl) : C := .agg s.enc
def sls (l : List Sl) : C := .sl 14 (l.map Sl.enc)
def Gt.enc (g : Gt) : List C := [sb g.name, .v (.bool g.low.x.neg), sb g.low.x.num, sb g.low.x.den, .v (.bool g.low.y.neg), sb g.low.y.num, sb g.low.y.den, .v (.bool g.high.x.neg), sb g.high.x.num, sb g.high.x.den, .v (.bool g.high.y.neg), sb g.high.y.num, sb g.high.y.den]
def Gt.c (g : Gt) : C := .agg g.enc
def gts (l : List Gt) : C := .sl 13 (l.map Gt.enc)
def wls (l : List (List Vt)) : C := .sl 1 (l.map fun s => [vts s])
def Wk.enc (w : Wk) : List C := [ams w.arms, wls w.walls, pts w.parts, sls w.slots, gts w.gates, .v (.bool w.walk.neg), sb w.walk.num, sb w.walk.den]
def Wk.c (w : Wk) : C := .agg w.enc
def Fb (k : Nat) (f : Fr) : Prop := Rb k f.x /\ Rb k f.y /\ Rb k f.t
def Vbs (k : Nat) (l : List Vt) : Prop := l.length <= k /\ ∀ v ∈ l, Vb k v
def Lb (k : Nat) (l : Lk) : Prop := Rb k l.length /\ Rb k l.low /\ Rb k l.high /\ Rb k l.speed /\ Rb k l.brake /\ Vbs k l.shape
def Ab (k : Nat) (a : Am) : Prop := a.name.length <= k /\ Fb k a.base /\ a.links.length <= k /\ ∀ l ∈ a.links, Lb k l
def Pb (k : Nat) (p : Pt) : Prop := p.name.length <= k /\ Vbs k p.shape /\ Fb k p.grasp
def Sb (k : Nat) (s : Sl) : Prop := s.name.length <= k /\ Fb k s.frame /\ Rb k s.within
def Gb (k : Nat) (g : Gt) : Prop := g.name.length <= k /\ Vb k g.low /\ Vb k g.high
structure Wb (k : Nat) (w : Wk) : Prop where
 arms : w.arms.length <= k /\ ∀ x ∈ w.arms, Ab k x
 walls : w.walls.length <= k /\ ∀ x ∈ w.walls, Vbs k x
 parts : w.parts.length <= k /\ ∀ x ∈ w.parts, Pb k x
 slots : w.slots.length <= k /\ ∀ x ∈ w.slots, Sb k x
 gates : w.gates.length <= k /\ ∀ x ∈ w.gates, Gb k x
 walk : Rb k w.walk
def a1n (s : List UInt8) : Bool := (s.all fun b => decide (97 <= b.toNat) && decide (b.toNat <= 122)) && decide (1 <= s.length) && decide (s.length <= 12)
def a2h (l : List Vt) (i k : Nat) : Int := a7e (l.getD i Vt.zero) (l.getD ((i + 1) % l.length) Vt.zero) (l.getD ((i + k) % l.length) Vt.zero)
def R4 (l : List Vt) (most : Nat) : Int :=
 if most < l.length then 2 else if l.length < 3 then 3 else
 if (List.range l.length).all fun i => (List.range l.length).all fun k => decide (k < 2) || decide (0 < a2h l i k) then 0 else 3
def a4z (h : Bool) (t : Nm.Rt) : Bool := h && !decide (F3 (Nm.d9 t) = 0)
def M7 (l : Lk) : Int :=
 if (j4 l.length && j4 l.low && j4 l.high && j4 l.speed && j4 l.brake) = false \/ F3 (Nm.d9 l.length) <= 0 \/ 0 <= Nm.C8 (Nm.d9 l.low) (Nm.d9 l.high) then 1 else
 if F3 (Nm.d9 l.speed) <= 0 \/ F3 (Nm.d9 l.brake) <= 0 then 1 else
 if R4 l.shape 8 ≠ 0 then R4 l.shape 8 else
 if (l.shape.all fun v => j4 v.x && j4 v.y) then 0 else 1
def J6 (a : Am) : Int :=
 if a1n a.name = false then 3 else
 if 3 < a.links.length then 2 else
 if a.links.length = 0 \/ (j4 a.base.x && j4 a.base.y && j4 a.base.t) = false \/ a4z a.base.half a.base.t = true then 1 else
 G9 M7 a.links
def a1q (a : Am) (q : List Nm.Rt) : Int :=
 if J6 a ≠ 0 then J6 a else if q.length ≠ a.links.length then 1 else
 G9 (fun x : Lk × Nm.Rt => if Nm.C8 (Nm.d9 x.2) (Nm.d9 x.1.low) < 0 \/ 0 < Nm.C8 (Nm.d9 x.2) (Nm.d9 x.1.high) then 17 else 0) (a.links.zip q)
abbrev Nms := List (List UInt8)
def K6 (n : Nms) (s : List UInt8) : Int × Nms := if a1n s = false then (3, n) else if n.contains s then (5, n) else (0, n ++ [s])
def okV (v : Vt) : Bool := decide v.x.G5 && decide v.y.G5 && j4 v.x && j4 v.y
def okF (f : Fr) : Bool := okV ⟨f.x, f.y⟩ && decide f.t.G5 && j4 f.t && !a4z f.half f.t
def J8 (l : List Vt) : Int := if R4 l 8 ≠ 0 then R4 l 8 else if l.all okV then 0 else 1
def a1N (n : Nms) (a : Am) : Int × Nms := if J6 a ≠ 0 then (J6 a, n) else K6 n a.name
def a0E (n : Nms) (p : Pt) : Int × Nms :=
 if (K6 n p.name).1 ≠ 0 then K6 n p.name else
 if J8 p.shape ≠ 0 then (J8 p.shape, (K6 n p.name).2) else
 (if okF p.grasp then 0 else 1, (K6 n p.name).2)
def a0y (n : Nms) (s : Sl) : Int × Nms :=
 if (K6 n s.name).1 ≠ 0 then K6 n s.name else
 (if okF s.frame && decide s.within.G5 && j4 s.within && decide (0 < F3 (Nm.d9 s.within)) then 0 else 1, (K6 n s.name).2)
def a0C (n : Nms) (g : Gt) : Int × Nms :=
 if (K6 n g.name).1 ≠ 0 then K6 n g.name else
 (if okV g.low && okV g.high && decide (Nm.C8 (Nm.d9 g.low.x) (Nm.d9 g.high.x) <= 0) && decide (Nm.C8 (Nm.d9 g.low.y) (Nm.d9 g.high.y) <= 0) then 0 else 1, (K6 n g.name).2)
def b1c (a : Nm.Rt) : Int := if decide a.G5 && j4 a && decide (0 <= F3 (Nm.d9 a)) then 0 else 1
def a6h (w : Wk) : List Int :=
 let a := u6 a1N [] w.arms
 let p := u6 a0E a.2 w.parts
 let s := u6 a0y p.2 w.slots
 let g := u6 a0C s.2 w.gates
 [a.1, G9 J8 w.walls, p.1, s.1, g.1]
def a0p (w : Wk) : Int :=
 if 4 < w.arms.length \/ 10 < w.walls.length \/ 6 < w.parts.length \/ 8 < w.slots.length \/ 4 < w.gates.length then 2 else
 if w.arms.length = 0 then 4 else
 if G9 id (a6h w) ≠ 0 then G9 id (a6h w) else b1c w.walk
def nmE (n : Nms) : List (Value × Value) := n.map fun s => (.string (bs s), .bool true)
theorem b9m (n : Nms) (s : List UInt8) : a0U (.string (bs s)) (nmE n) = if n.contains s then some (.bool true) else none := by
 induction n with
 | nil => rfl
 | cons a n ih =>
  simp only [nmE, c1F, a0U, a0S]
  simp only [nmE] at ih
  rw [ih]
  by_cases h : s = a
  ·subst h; simp
  ·have h1 : ¬ bs s = bs a := fun e => h (b1B e)
   have h2 : (s == a) = false := by simpa using h
   rw [List.contains_cons]
   simp only [h2, Bool.false_or, decide_eq_false h1, c1X, if_false]
theorem c0r (n : Nms) (s : List UInt8) (h : n.contains s = false) : a0M (.string (bs s)) (.bool true) (nmE n) = nmE (n ++ [s]) := by
 induction n with
 | nil => rfl
 | cons a n ih =>
  rw [List.contains_cons, c1J] at h
  have h1 : ¬ bs s = bs a := fun e => by have := b1B e; subst this; simp at h
  have h3 := ih h.2
  simp only [nmE, c1F, List.cons_append, a0M, a0S, decide_eq_false h1, c1X, if_false] at h3 ⊢
  rw [h3]
def a9M (f : Fr) (c : Vt) : Rat := Nm.d9 f.x + (Nm.d9 c.x * R9 f.half (u7 f.half f.t) - Nm.d9 c.y * S9 (u7 f.half f.t))
def a9C (f : Fr) (c : Vt) : Rat := Nm.d9 f.y + (Nm.d9 c.x * S9 (u7 f.half f.t) + Nm.d9 c.y * R9 f.half (u7 f.half f.t))
theorem c0X (f : Fr) (c : Vt) (hx : Rb 4294967296 f.x) (hy : Rb 4294967296 f.y) (ht : Rb 268435456 f.t) (ha : Rb 268435456 c.x) (hb : Rb 268435456 c.y) :
  FZ 39 [f.c, c.c] (vq (a9M f c) (a9C f c)) := by
 refine kW Tryz.func39 (by cbv) (by rfl) fun w O hw => ?_
 obtain ⟨x, y, h, t⟩ := f
 obtain ⟨a, b⟩ := c
 simp only at hx hy ht ha hb
 have k1 := b4k a b t h ha hb ht
 have ft := U8 (h := h) ht (by decide)
 have rc1 := a9d h ft
 have rs1 := a8r ft
 have fa := ha.fit (by decide)
 have fb := hb.fit (by decide)
 have k2 := b6K x y (Nm.ofQ (Nm.d9 a * R9 h (u7 h t) - Nm.d9 b * S9 (u7 h t))) (Nm.ofQ (Nm.d9 a * S9 (u7 h t) + Nm.d9 b * R9 h (u7 h t))) (hx.mono (by decide)) (hy.mono (by decide)) ((M9 (K4 fa rc1) (K4 fb rs1)).mono (by decide)) ((R6 (K4 fa rs1) (K4 fb rc1)).mono (by decide))
 simp only [Nm.E8] at k2
 unfold a9M a9C
 simp only
 unfold vq at *
 generalize Nm.ofQ (Nm.d9 x + (Nm.d9 a * R9 h (u7 h t) - Nm.d9 b * S9 (u7 h t))) = r1 at *
 generalize Nm.ofQ (Nm.d9 y + (Nm.d9 a * S9 (u7 h t) + Nm.d9 b * R9 h (u7 h t))) = r2 at *
 generalize Nm.ofQ (Nm.d9 a * R9 h (u7 h t) - Nm.d9 b * S9 (u7 h t)) = p1 at *
 generalize Nm.ofQ (Nm.d9 a * S9 (u7 h t) + Nm.d9 b * R9 h (u7 h t)) = p2 at *
 simp only [j6]
 simp only [Fr.c, Fr.enc, Vt.c, Vt.enc, vc, tc, sb] at *
 (repeat first | refine uA ?_ | (refine uK ?_ ?_; focus first | omega | (intros; simp_all <;> omega)) | simp (disch := omega) only [go_sem, Nat.reduceBEq, Nat.reduceAdd, ww] | (refine uD k1 ?_ ?_ ?_; exact tz hw; exact rfl) | (refine uD k2 ?_ ?_ ?_; exact tz hw; exact rfl))
 (refine S.done ?_; simp only [q8, l9, go_sem, Nat.reduceBEq, Nat.reduceAdd, Nat.reduceLeDiff, Int.reduceToNat, Int.reducePow]; (repeat (refine ⟨?_, ?_⟩; focus first | trivial | omega | simp)); exact j3.out rfl (Imp.refl rfl) rfl)
theorem b9C (h : Bool) (a : Nm.Rt) (ha : Rb 4294967296 a) : FZ 119 [tc h a] (tq h (- u7 h a)) := by
 refine kW Tryz.func119 (by cbv) (by rfl) fun w O hw => ?_
 have hf := a6c h a (ha.mono (by decide))
 have hk : Rb 4294967296 (Nm.ofQ (u7 h a)) := U8 ha (by decide)
 generalize u7 h a = t at *
 have hn := b2D (Nm.ofQ t) (hk.mono (by decide))
 rw [Nm.E8] at hn
 unfold tq rq at *
 generalize Nm.ofQ t = rt at *
 generalize Nm.ofQ (-t) = rn at *
 simp only [j6]
 simp only [rc, tc, sb, ints] at *
 (repeat first | refine uA ?_ | (refine uK ?_ ?_; focus first | omega | (intros; simp_all <;> omega)) | simp (disch := omega) only [go_sem, Nat.reduceBEq, Nat.reduceAdd, ww] | (refine uD hf ?_ ?_ ?_; exact tz hw; exact rfl) | (refine uD hn ?_ ?_ ?_; exact tz hw; exact rfl))
 (refine S.done ?_; simp only [q8, l9, go_sem, Nat.reduceBEq, Nat.reduceAdd, Nat.reduceLeDiff, Int.reduceToNat, Int.reducePow]; (repeat (refine ⟨?_, ?_⟩; focus first | trivial | omega | simp)); exact j3.out rfl (Imp.refl rfl) rfl)
theorem b6p (h : Bool) (a : Nm.Rt) (ha : Rb 4294967296 a) : FZ 179 [tc h a] (if Nm.d9 a = 0 then tq true 0 else tq false (-1 / Nm.d9 a)) := by
 refine kW Tryz.func179 (by cbv) (by rfl) fun w O hw => ?_
 have hm1 := a4r (-1) (by decide) (by decide)
 rw [show ((-1 : Int) : Rat) = -1 from rfl] at hm1
 have kb : Rb 8 (Nm.ofQ (-1)) := ⟨Nm.F8 (by decide), Nm.F8 (by decide)⟩
 have hd := b5y (Nm.ofQ (-1)) a (kb.mono (by decide)) (ha.mono (by decide))
 rw [Nm.E8] at hd
 have hk := ha.fit (by decide)
 have hh := b1p
 by_cases h0 : Nm.d9 a = 0
 ·rw [if_pos h0]
  have e1 : a0N (-1) (Nm.d9 a) = ⟨false, [], []⟩ := by unfold a0N; rw [if_pos h0]
  have e2 : a2k (Nm.d9 a) = 12 := by unfold a2k; rw [if_pos h0]
  rw [e1, e2] at hd
  unfold rq tq at *
  generalize Nm.ofQ (-1) = r1 at *
  generalize Nm.ofQ 0 = r0 at *
  simp only [j6]
  simp only [rc, tc, sb, ints] at *
  (repeat first | refine uA ?_ | (refine uK ?_ ?_; focus first | omega | (intros; simp_all <;> omega)) | simp (disch := omega) only [go_sem, Nat.reduceBEq, Nat.reduceAdd, ww] | (refine uD hm1 ?_ ?_ ?_; exact tz hw; exact rfl) | (refine uD hd ?_ ?_ ?_; exact tz hw; exact rfl))
  refine S.cond rfl (fun _ => ?_) (fun hc => by simp at hc)
  (repeat first | refine uA ?_ | (refine uK ?_ ?_; focus first | omega | (intros; simp_all <;> omega)) | simp (disch := omega) only [go_sem, Nat.reduceBEq, Nat.reduceAdd, ww] | (refine uD hh ?_ ?_ ?_; exact tz hw; exact rfl))
  (refine S.done ?_; simp only [q8, l9, go_sem, Nat.reduceBEq, Nat.reduceAdd, Nat.reduceLeDiff, Int.reduceToNat, Int.reducePow]; (repeat (refine ⟨?_, ?_⟩; focus first | trivial | omega | simp)); exact j3.out rfl (Imp.refl rfl) rfl)
 ·rw [if_neg h0]
  have e1 : a0N (-1) (Nm.d9 a) = Nm.ofQ (-1 / Nm.d9 a) := by unfold a0N; rw [if_neg h0]
  have e2 : a2k (Nm.d9 a) = 0 := by unfold a2k; rw [if_neg h0]
  rw [e1, e2] at hd
  have hof := a5M (Nm.ofQ (-1 / Nm.d9 a)) ((a3B h0 kb hk).mono (by decide))
  rw [Nm.E8] at hof
  unfold rq tq at *
  generalize Nm.ofQ (-1) = r1 at *
  generalize Nm.ofQ (-1 / Nm.d9 a) = r2 at *
  simp only [j6]
  simp only [rc, tc, sb, ints] at *
  (repeat first | refine uA ?_ | (refine uK ?_ ?_; focus first | omega | (intros; simp_all <;> omega)) | simp (disch := omega) only [go_sem, Nat.reduceBEq, Nat.reduceAdd, ww] | (refine uD hm1 ?_ ?_ ?_; exact tz hw; exact rfl) | (refine uD hd ?_ ?_ ?_; exact tz hw; exact rfl))
  refine S.cond rfl (fun hc => by simp at hc) (fun _ => ?_)
  (repeat first | refine uA ?_ | (refine uK ?_ ?_; focus first | omega | (intros; simp_all <;> omega)) | simp (disch := omega) only [go_sem, Nat.reduceBEq, Nat.reduceAdd, ww] | (refine uD hof ?_ ?_ ?_; exact tz hw; exact rfl))
  (refine S.done ?_; simp only [q8, l9, go_sem, Nat.reduceBEq, Nat.reduceAdd, Nat.reduceLeDiff, Int.reduceToNat, Int.reducePow]; (repeat (refine ⟨?_, ?_⟩; focus first | trivial | omega | simp)); exact j3.out rfl (Imp.refl rfl) rfl)
def a1Y (h1 : Bool) (t1 : Rat) (h2 : Bool) (t2 : Rat) : Bool × Rat :=
 if h1 && h2 then (false, 0) else if h1 then (if t2 = 0 then (true, 0) else (false, -1 / t2)) else if h2 then (if t1 = 0 then (true, 0) else (false, -1 / t1)) else if 1 - t1 * t2 = 0 then (true, 0) else (false, (t1 + t2) / (1 - t1 * t2))
theorem b8X (h1 : Bool) (a : Nm.Rt) (h2 : Bool) (b : Nm.Rt) (ha : Rb 1073741824 a) (hb : Rb 1073741824 b) :
  FZ 118 [tc h1 a, tc h2 b] (tq (a1Y h1 (u7 h1 a) h2 (u7 h2 b)).1 (a1Y h1 (u7 h1 a) h2 (u7 h2 b)).2) := by
 refine kW b1z b1t (by rfl) fun w O hw => ?_
 have hf := a6c h1 a (ha.mono (by decide))
 have hg := a6c h2 b (hb.mono (by decide))
 have hk : Rb 1073741824 (Nm.ofQ (u7 h1 a)) := U8 ha (by decide)
 have hl : Rb 1073741824 (Nm.ofQ (u7 h2 b)) := U8 hb (by decide)
 have ho0 := a4r 0 (by decide) (by decide)
 have ho1 := a4r 1 (by decide) (by decide)
 rw [show ((0 : Int) : Rat) = 0 from rfl] at ho0
 rw [show ((1 : Int) : Rat) = 1 from rfl] at ho1
 have hz := a5M (Nm.ofQ 0) (by rw [Nm.a2y]; exact ⟨by decide, by decide⟩)
 rw [Nm.E8] at hz
 have hh := b1p
 generalize u7 h1 a = s at *
 generalize u7 h2 b = t at *
 have o1 := b6p false (Nm.ofQ s) (hk.mono (by decide))
 have o2 := b6p false (Nm.ofQ t) (hl.mono (by decide))
 rw [Nm.E8] at o1 o2
 have kst := K4 hk hl
 have m1 := a8l s t (hk.mono (by decide)) (hl.mono (by decide))
 have m2 := b0Z s t (hk.mono (by decide)) (hl.mono (by decide))
 have m3 := b4E 1 (s * t) (Z7.mono (by decide)) (kst.mono (by decide))
 have m4 := b5f (s + t) (1 - s * t) ((R6 hk hl).mono (by decide)) ((M9 Z7 kst).mono (by decide))
 cases h1 <;> cases h2
 ·simp only [a1Y, Bool.and_false, c1X, if_false]
  clear o1 o2 hz
  by_cases h0 : 1 - s * t = 0
  ·rw [if_pos h0]
   rw [show a0N (s + t) (1 - s * t) = ⟨false, [], []⟩ by unfold a0N; rw [if_pos h0], show a2k (1 - s * t) = 12 by unfold a2k; rw [if_pos h0]] at m4
   unfold rq tq at *
   simp only [U6, j6, TT, II, OA, OB, OC, MM, LL, VV, FF, MG, LG, VG, FG]
   generalize Nm.ofQ s = r0 at *
   generalize Nm.ofQ t = r1 at *
   generalize Nm.ofQ (s * t) = r2 at *
   generalize Nm.ofQ (s + t) = r3 at *
   generalize Nm.ofQ (1 - s * t) = r4 at *
   generalize Nm.ofQ 0 = r5 at *
   generalize Nm.ofQ 1 = r6 at *
   simp only [rc, tc, sb, ints] at *
   (repeat first | refine uA ?_ | (refine uK ?_ ?_; focus first | omega | (intros; simp_all <;> omega)) | simp (disch := omega) only [go_sem, Nat.reduceBEq, Nat.reduceAdd, ww] | (refine uD hf ?_ ?_ ?_; exact tz hw; exact rfl) | (refine uD hg ?_ ?_ ?_; exact tz hw; exact rfl))
   refine S.cond rfl (fun hc => by simp at hc) (fun _ => ?_)
   (repeat first | refine uA ?_ | (refine uK ?_ ?_; focus first | omega | (intros; simp_all <;> omega)) | simp (disch := omega) only [go_sem, Nat.reduceBEq, Nat.reduceAdd, ww])
   refine S.cond rfl (fun hc => by simp at hc) (fun _ => ?_)
   (repeat first | refine uA ?_ | (refine uK ?_ ?_; focus first | omega | (intros; simp_all <;> omega)) | simp (disch := omega) only [go_sem, Nat.reduceBEq, Nat.reduceAdd, ww])
   refine S.cond rfl (fun hc => by simp at hc) (fun _ => ?_)
   (repeat first | refine uA ?_ | (refine uK ?_ ?_; focus first | omega | (intros; simp_all <;> omega)) | simp (disch := omega) only [go_sem, Nat.reduceBEq, Nat.reduceAdd, ww] | (refine uD m1 ?_ ?_ ?_; exact tz hw; exact rfl) | (refine uD m2 ?_ ?_ ?_; exact tz hw; exact rfl) | (refine uD m3 ?_ ?_ ?_; exact tz hw; exact rfl) | (refine uD m4 ?_ ?_ ?_; exact tz hw; exact rfl) | (refine uD ho1 ?_ ?_ ?_; exact tz hw; exact rfl))
   refine S.cond rfl (fun _ => ?_) (fun hc => by simp at hc)
   (repeat first | refine uA ?_ | (refine uK ?_ ?_; focus first | omega | (intros; simp_all <;> omega)) | simp (disch := omega) only [go_sem, Nat.reduceBEq, Nat.reduceAdd, ww] | (refine uD hh ?_ ?_ ?_; exact tz hw; exact rfl))
   (refine S.done ?_; simp only [q8, l9, go_sem, Nat.reduceBEq, Nat.reduceAdd, Nat.reduceLeDiff, Int.reduceToNat, Int.reducePow]; (repeat (refine ⟨?_, ?_⟩; focus first | trivial | omega | simp)); exact j3.out rfl (Imp.refl rfl) rfl)
  ·rw [if_neg h0]
   rw [show a0N (s + t) (1 - s * t) = Nm.ofQ ((s + t) / (1 - s * t)) by unfold a0N; rw [if_neg h0], show a2k (1 - s * t) = 0 by unfold a2k; rw [if_neg h0]] at m4
   have hq := a5M (Nm.ofQ ((s + t) / (1 - s * t))) ((a3B h0 (R6 hk hl) (M9 Z7 kst)).mono (by decide))
   rw [Nm.E8] at hq
   unfold rq tq at *
   simp only [U6, j6, TT, II, OA, OB, OC, MM, LL, VV, FF, MG, LG, VG, FG]
   generalize Nm.ofQ s = r0 at *
   generalize Nm.ofQ t = r1 at *
   generalize Nm.ofQ (s * t) = r2 at *
   generalize Nm.ofQ (s + t) = r3 at *
   generalize Nm.ofQ (1 - s * t) = r4 at *
   generalize Nm.ofQ ((s + t) / (1 - s * t)) = r5 at *
   generalize Nm.ofQ 0 = r6 at *
   generalize Nm.ofQ 1 = r7 at *
   simp only [rc, tc, sb, ints] at *
   (repeat first | refine uA ?_ | (refine uK ?_ ?_; focus first | omega | (intros; simp_all <;> omega)) | simp (disch := omega) only [go_sem, Nat.reduceBEq, Nat.reduceAdd, ww] | (refine uD hf ?_ ?_ ?_; exact tz hw; exact rfl) | (refine uD hg ?_ ?_ ?_; exact tz hw; exact rfl))
   refine S.cond rfl (fun hc => by simp at hc) (fun _ => ?_)
   (repeat first | refine uA ?_ | (refine uK ?_ ?_; focus first | omega | (intros; simp_all <;> omega)) | simp (disch := omega) only [go_sem, Nat.reduceBEq, Nat.reduceAdd, ww])
   refine S.cond rfl (fun hc => by simp at hc) (fun _ => ?_)
   (repeat first | refine uA ?_ | (refine uK ?_ ?_; focus first | omega | (intros; simp_all <;> omega)) | simp (disch := omega) only [go_sem, Nat.reduceBEq, Nat.reduceAdd, ww])
   refine S.cond rfl (fun hc => by simp at hc) (fun _ => ?_)
   (repeat first | refine uA ?_ | (refine uK ?_ ?_; focus first | omega | (intros; simp_all <;> omega)) | simp (disch := omega) only [go_sem, Nat.reduceBEq, Nat.reduceAdd, ww] | (refine uD m1 ?_ ?_ ?_; exact tz hw; exact rfl) | (refine uD m2 ?_ ?_ ?_; exact tz hw; exact rfl) | (refine uD m3 ?_ ?_ ?_; exact tz hw; exact rfl) | (refine uD m4 ?_ ?_ ?_; exact tz hw; exact rfl) | (refine uD ho1 ?_ ?_ ?_; exact tz hw; exact rfl))
   refine S.cond rfl (fun hc => by simp at hc) (fun _ => ?_)
   (repeat first | refine uA ?_ | (refine uK ?_ ?_; focus first | omega | (intros; simp_all <;> omega)) | simp (disch := omega) only [go_sem, Nat.reduceBEq, Nat.reduceAdd, ww] | (refine uD hq ?_ ?_ ?_; exact tz hw; exact rfl))
   (refine S.done ?_; simp only [q8, l9, go_sem, Nat.reduceBEq, Nat.reduceAdd, Nat.reduceLeDiff, Int.reduceToNat, Int.reducePow]; (repeat (refine ⟨?_, ?_⟩; focus first | trivial | omega | simp)); exact j3.out rfl (Imp.refl rfl) rfl)
 ·simp only [a1Y, Bool.and_false, Bool.and_true, c1X, if_false, if_true]
  by_cases h0 : s = 0
  ·rw [if_pos h0] at o1 ⊢
   unfold rq tq at *
   simp only [U6, j6, TT, II, OA, OB, OC, MM, LL, VV, FF, MG, LG, VG, FG]
   generalize Nm.ofQ s = r0 at *
   generalize Nm.ofQ t = r1 at *
   generalize Nm.ofQ (s * t) = r2 at *
   generalize Nm.ofQ (s + t) = r3 at *
   generalize Nm.ofQ (1 - s * t) = r4 at *
   generalize Nm.ofQ 0 = r5 at *
   generalize Nm.ofQ 1 = r6 at *
   simp only [rc, tc, sb, ints] at *
   (repeat first | refine uA ?_ | (refine uK ?_ ?_; focus first | omega | (intros; simp_all <;> omega)) | simp (disch := omega) only [go_sem, Nat.reduceBEq, Nat.reduceAdd, ww] | (refine uD hf ?_ ?_ ?_; exact tz hw; exact rfl) | (refine uD hg ?_ ?_ ?_; exact tz hw; exact rfl))
   refine S.cond rfl (fun hc => by simp at hc) (fun _ => ?_)
   (repeat first | refine uA ?_ | (refine uK ?_ ?_; focus first | omega | (intros; simp_all <;> omega)) | simp (disch := omega) only [go_sem, Nat.reduceBEq, Nat.reduceAdd, ww])
   refine S.cond rfl (fun hc => by simp at hc) (fun _ => ?_)
   (repeat first | refine uA ?_ | (refine uK ?_ ?_; focus first | omega | (intros; simp_all <;> omega)) | simp (disch := omega) only [go_sem, Nat.reduceBEq, Nat.reduceAdd, ww])
   refine S.cond rfl (fun _ => ?_) (fun hc => by simp at hc)
   (repeat first | refine uA ?_ | (refine uK ?_ ?_; focus first | omega | (intros; simp_all <;> omega)) | simp (disch := omega) only [go_sem, Nat.reduceBEq, Nat.reduceAdd, ww] | (refine uD o1 ?_ ?_ ?_; exact tz hw; exact rfl))
   (refine S.done ?_; simp only [q8, l9, go_sem, Nat.reduceBEq, Nat.reduceAdd, Nat.reduceLeDiff, Int.reduceToNat, Int.reducePow]; (repeat (refine ⟨?_, ?_⟩; focus first | trivial | omega | simp)); exact j3.out rfl (Imp.refl rfl) rfl)
  ·rw [if_neg h0] at o1 ⊢
   unfold rq tq at *
   simp only [U6, j6, TT, II, OA, OB, OC, MM, LL, VV, FF, MG, LG, VG, FG]
   generalize Nm.ofQ s = r0 at *
   generalize Nm.ofQ t = r1 at *
   generalize Nm.ofQ (s * t) = r2 at *
   generalize Nm.ofQ (s + t) = r3 at *
   generalize Nm.ofQ (1 - s * t) = r4 at *
   generalize Nm.ofQ (-1 / s) = r5 at *
   generalize Nm.ofQ 0 = r6 at *
   generalize Nm.ofQ 1 = r7 at *
   simp only [rc, tc, sb, ints] at *
   (repeat first | refine uA ?_ | (refine uK ?_ ?_; focus first | omega | (intros; simp_all <;> omega)) | simp (disch := omega) only [go_sem, Nat.reduceBEq, Nat.reduceAdd, ww] | (refine uD hf ?_ ?_ ?_; exact tz hw; exact rfl) | (refine uD hg ?_ ?_ ?_; exact tz hw; exact rfl))
   refine S.cond rfl (fun hc => by simp at hc) (fun _ => ?_)
   (repeat first | refine uA ?_ | (refine uK ?_ ?_; focus first | omega | (intros; simp_all <;> omega)) | simp (disch := omega) only [go_sem, Nat.reduceBEq, Nat.reduceAdd, ww])
   refine S.cond rfl (fun hc => by simp at hc) (fun _ => ?_)
   (repeat first | refine uA ?_ | (refine uK ?_ ?_; focus first | omega | (intros; simp_all <;> omega)) | simp (disch := omega) only [go_sem, Nat.reduceBEq, Nat.reduceAdd, ww])
   refine S.cond rfl (fun _ => ?_) (fun hc => by simp at hc)
   (repeat first | refine uA ?_ | (refine uK ?_ ?_; focus first | omega | (intros; simp_all <;> omega)) | simp (disch := omega) only [go_sem, Nat.reduceBEq, Nat.reduceAdd, ww] | (refine uD o1 ?_ ?_ ?_; exact tz hw; exact rfl))
   (refine S.done ?_; simp only [q8, l9, go_sem, Nat.reduceBEq, Nat.reduceAdd, Nat.reduceLeDiff, Int.reduceToNat, Int.reducePow]; (repeat (refine ⟨?_, ?_⟩; focus first | trivial | omega | simp)); exact j3.out rfl (Imp.refl rfl) rfl)
 ·simp only [a1Y, Bool.and_false, Bool.and_true, c1X, if_false, if_true]
  by_cases h0 : t = 0
  ·rw [if_pos h0] at o2 ⊢
   unfold rq tq at *
   simp only [U6, j6, TT, II, OA, OB, OC, MM, LL, VV, FF, MG, LG, VG, FG]
   generalize Nm.ofQ s = r0 at *
   generalize Nm.ofQ t = r1 at *
   generalize Nm.ofQ (s * t) = r2 at *
   generalize Nm.ofQ (s + t) = r3 at *
   generalize Nm.ofQ (1 - s * t) = r4 at *
   generalize Nm.ofQ 0 = r5 at *
   generalize Nm.ofQ 1 = r6 at *
   simp only [rc, tc, sb, ints] at *
   (repeat first | refine uA ?_ | (refine uK ?_ ?_; focus first | omega | (intros; simp_all <;> omega)) | simp (disch := omega) only [go_sem, Nat.reduceBEq, Nat.reduceAdd, ww] | (refine uD hf ?_ ?_ ?_; exact tz hw; exact rfl) | (refine uD hg ?_ ?_ ?_; exact tz hw; exact rfl))
   refine S.cond rfl (fun hc => by simp at hc) (fun _ => ?_)
   (repeat first | refine uA ?_ | (refine uK ?_ ?_; focus first | omega | (intros; simp_all <;> omega)) | simp (disch := omega) only [go_sem, Nat.reduceBEq, Nat.reduceAdd, ww])
   refine S.cond rfl (fun _ => ?_) (fun hc => by simp at hc)
   (repeat first | refine uA ?_ | (refine uK ?_ ?_; focus first | omega | (intros; simp_all <;> omega)) | simp (disch := omega) only [go_sem, Nat.reduceBEq, Nat.reduceAdd, ww] | (refine uD o2 ?_ ?_ ?_; exact tz hw; exact rfl))
   (refine S.done ?_; simp only [q8, l9, go_sem, Nat.reduceBEq, Nat.reduceAdd, Nat.reduceLeDiff, Int.reduceToNat, Int.reducePow]; (repeat (refine ⟨?_, ?_⟩; focus first | trivial | omega | simp)); exact j3.out rfl (Imp.refl rfl) rfl)
  ·rw [if_neg h0] at o2 ⊢
   unfold rq tq at *
   simp only [U6, j6, TT, II, OA, OB, OC, MM, LL, VV, FF, MG, LG, VG, FG]
   generalize Nm.ofQ s = r0 at *
   generalize Nm.ofQ t = r1 at *
   generalize Nm.ofQ (s * t) = r2 at *
   generalize Nm.ofQ (s + t) = r3 at *
   generalize Nm.ofQ (1 - s * t) = r4 at *
   generalize Nm.ofQ (-1 / t) = r5 at *
   generalize Nm.ofQ 0 = r6 at *
   generalize Nm.ofQ 1 = r7 at *
   simp only [rc, tc, sb, ints] at *
   (repeat first | refine uA ?_ | (refine uK ?_ ?_; focus first | omega | (intros; simp_all <;> omega)) | simp (disch := omega) only [go_sem, Nat.reduceBEq, Nat.reduceAdd, ww] | (refine uD hf ?_ ?_ ?_; exact tz hw; exact rfl) | (refine uD hg ?_ ?_ ?_; exact tz hw; exact rfl))
   refine S.cond rfl (fun hc => by simp at hc) (fun _ => ?_)
   (repeat first | refine uA ?_ | (refine uK ?_ ?_; focus first | omega | (intros; simp_all <;> omega)) | simp (disch := omega) only [go_sem, Nat.reduceBEq, Nat.reduceAdd, ww])
   refine S.cond rfl (fun _ => ?_) (fun hc => by simp at hc)
   (repeat first | refine uA ?_ | (refine uK ?_ ?_; focus first | omega | (intros; simp_all <;> omega)) | simp (disch := omega) only [go_sem, Nat.reduceBEq, Nat.reduceAdd, ww] | (refine uD o2 ?_ ?_ ?_; exact tz hw; exact rfl))
   (refine S.done ?_; simp only [q8, l9, go_sem, Nat.reduceBEq, Nat.reduceAdd, Nat.reduceLeDiff, Int.reduceToNat, Int.reducePow]; (repeat (refine ⟨?_, ?_⟩; focus first | trivial | omega | simp)); exact j3.out rfl (Imp.refl rfl) rfl)
 ·simp only [a1Y, Bool.and_true, if_true]
  unfold rq tq at *
  simp only [U6, j6, TT, II, OA, OB, OC, MM, LL, VV, FF, MG, LG, VG, FG]
  generalize Nm.ofQ s = r0 at *
  generalize Nm.ofQ t = r1 at *
  generalize Nm.ofQ (s * t) = r2 at *
  generalize Nm.ofQ (s + t) = r3 at *
  generalize Nm.ofQ (1 - s * t) = r4 at *
  generalize Nm.ofQ 0 = r5 at *
  generalize Nm.ofQ 1 = r6 at *
  simp only [rc, tc, sb, ints] at *
  (repeat first | refine uA ?_ | (refine uK ?_ ?_; focus first | omega | (intros; simp_all <;> omega)) | simp (disch := omega) only [go_sem, Nat.reduceBEq, Nat.reduceAdd, ww] | (refine uD hf ?_ ?_ ?_; exact tz hw; exact rfl) | (refine uD hg ?_ ?_ ?_; exact tz hw; exact rfl))
  refine S.cond rfl (fun _ => ?_) (fun hc => by simp at hc)
  (repeat first | refine uA ?_ | (refine uK ?_ ?_; focus first | omega | (intros; simp_all <;> omega)) | simp (disch := omega) only [go_sem, Nat.reduceBEq, Nat.reduceAdd, ww] | (refine uD ho0 ?_ ?_ ?_; exact tz hw; exact rfl) | (refine uD hz ?_ ?_ ?_; exact tz hw; exact rfl))
  (refine S.done ?_; simp only [q8, l9, go_sem, Nat.reduceBEq, Nat.reduceAdd, Nat.reduceLeDiff, Int.reduceToNat, Int.reducePow]; (repeat (refine ⟨?_, ?_⟩; focus first | trivial | omega | simp)); exact j3.out rfl (Imp.refl rfl) rfl)
structure Ast where
 q : List Nm.Rt
 v : List Nm.Rt
 power : Bool
 holds : Int
structure Stt where
 tick : Int
 arms : List Ast
 parts : List Fr
 people : List Vt
 gates : List Bool
def rts (l : List Nm.Rt) : C := .sl 3 (l.map rcs)
def Ast.enc (x : Ast) : List C := [rts x.q, rts x.v, .v (.bool x.power), ints x.holds]
def Ast.c (x : Ast) : C := .agg x.enc
def J9 (l : List Ast) : C := .sl 4 (l.map Ast.enc)
def frs (l : List Fr) : C := .sl 10 (l.map Fr.enc)
def bls (l : List Bool) : C := .sl 1 (l.map fun b => [.v (.bool b)])
def Stt.enc (s : Stt) : List C := [ints s.tick, J9 s.arms, frs s.parts, vts s.people, bls s.gates]
def Stt.c (s : Stt) : C := .agg s.enc
def Rbs (k : Nat) (l : List Nm.Rt) : Prop := l.length <= k /\ ∀ a ∈ l, Rb k a
def Asb (k : Nat) (x : Ast) : Prop := Rbs k x.q /\ Rbs k x.v
structure Stb (k : Nat) (s : Stt) : Prop where
 arms : s.arms.length <= k /\ ∀ x ∈ s.arms, Asb k x
 parts : s.parts.length <= k /\ ∀ x ∈ s.parts, Fb k x
 people : Vbs k s.people
 gates : s.gates.length <= k
def G7 (q : Rat) : Rat := if q.num < 0 then -q else q
def a0o (x : Lk × Nm.Rt) : Int := if 0 < Nm.C8 (G7 (Nm.d9 x.2)) (Nm.d9 x.1.speed) then 1 else 0
def I7 (a : Nm.Rt) : Bool := decide a.G5
def a0c (a : Am) (x : Ast) (parts : Nat) : Int :=
 if (x.q.all I7 && x.v.all I7) = false then 3 else
 if a1q a x.q ≠ 0 then a1q a x.q else
 if x.v.length ≠ a.links.length \/ x.holds < -1 \/ (parts : Int) <= x.holds then 1 else
 G9 a0o (a.links.zip x.v)
def a6S (h : List Int) (n : Int) : List Int := if h.contains n then h else h ++ [n]
def hdE (h : List Int) : List (Value × Value) := h.map fun n => (.int .i64 n, .bool true)
def R5 (parts : Nat) (h : List Int) (x : Am × Ast) : Int × List Int :=
 if a0c x.1 x.2 parts ≠ 0 then (a0c x.1 x.2 parts, h) else
 if (decide (0 <= x.2.holds) && h.contains x.2.holds) = true then (10, h) else (0, a6S h x.2.holds)
def a0Q (f : Fr) : Bool := (I7 f.x && I7 f.y && I7 f.t) && !a4z f.half f.t
def a5u (v : Vt) : Bool := I7 v.x && I7 v.y
def N9 (w : Wk) (s : Stt) : Int :=
 if a0p w ≠ 0 then a0p w else
 if 4 < s.people.length then 2 else
 if s.tick < 0 \/ 2000 < s.tick \/ s.arms.length ≠ w.arms.length \/ s.parts.length ≠ w.parts.length \/ s.gates.length ≠ w.gates.length then 1 else
 if (u6 (R5 w.parts.length) [] (w.arms.zip s.arms)).1 ≠ 0 then (u6 (R5 w.parts.length) [] (w.arms.zip s.arms)).1 else
 if s.parts.all a0Q && s.people.all a5u then 0 else 3
theorem b8R (h : List Int) (n : Int) : a0U (.int .i64 n) (hdE h) = if h.contains n then some (.bool true) else none := by
 induction h with
 | nil => rfl
 | cons a h ih =>
  simp only [hdE, c1F, a0U, a0S]
  simp only [hdE] at ih
  rw [ih, List.contains_cons]
  by_cases e : n = a
  ·subst e; simp
  ·have e2 : (n == a) = false := by simpa using e
   simp only [e2, Bool.false_or, c1X, if_false]
theorem c0E (h : List Int) (n : Int) : a0M (.int .i64 n) (.bool true) (hdE h) = hdE (a6S h n) := by
 induction h with
 | nil => rfl
 | cons a h ih =>
  unfold a6S at ih ⊢
  rw [List.contains_cons]
  by_cases e : n = a
  ·subst e
   simp [hdE, a0M, a0S]
  ·have e2 : (n == a) = false := by simpa using e
   simp only [hdE, c1F, a0M, a0S, e2, Bool.false_or, c1X, if_false]
   simp only [hdE] at ih
   rw [ih]
   split <;> simp [hdE]
def a0I (l : Lk) : Nm.Rt := Nm.ofQ (a1v (Nm.d9 l.low) (a0e (Nm.d9 l.high) 0))
def U4 (a : Am) : Ast := ⟨a.links.map a0I, a.links.map fun _ => Nm.ofQ 0, false, -1⟩
def a2F : Fr := ⟨Nm.ofQ 0, Nm.ofQ 0, false, Nm.ofQ 0⟩
def a6B (w : Wk) (i : Nat) : Fr := if h : i < w.slots.length then (w.slots[i]).frame else a2F
def K7 (w : Wk) : Stt := ⟨0, w.arms.map U4, (List.range w.parts.length).map (a6B w), [], List.replicate w.gates.length false⟩
def nx (l : List Int) (n : Int) : Int := l.headD 0 % n
abbrev Q (n d : Int) : Nm.Rt := Nm.ofQ (mkRat n d.toNat)
def atV (x y : Int) : Vt := ⟨Q x 4, Q y 4⟩
def a4n (x y u v : Int) : List Vt := [atV x y, atV u y, atV u v, atV x v]
def a1i (w h k s : Int) : List Vt :=
 if k = 0 then [atV (-w) (-h), atV w (-h), atV w h, atV (-w) h] else
 if k = 1 then [atV (-w) (-h), atV w (-h), atV (s - w) h] else
 if k = 2 then [atV (-w - 1) (-h - 1), atV w (-h - 1), atV (w + 1) (-h), atV (w + 1) h, atV (-w - 1) h] else
 [atV (-w) 0, atV 0 (-h), atV w 0, atV 0 h]
def a1h (l : List Int) : List Vt × List Int :=
 let w := 1 + nx l 6
 let h := 1 + nx (l.drop 1) 6
 let k := nx (l.drop 2) 4
 if k = 1 then (a1i w h k (nx (l.drop 3) (2 * w + 1)), l.drop 4) else (a1i w h k 0, l.drop 3)
def a4k (a lo hi sp br tri : Int) : Lk :=
 ⟨Q (4 + 2 * a) 4, Q (-1 - lo) 3, Q (1 + hi) 3, Q 1 (4 + sp), Q 1 (10 + br), if tri = 2 then [atV (-1) (-1), atV (4 + 2 * a + 1) 0, atV (-1) 1] else a4n (-1) (-1) (4 + 2 * a + 1) 1⟩
def b4X (l : List Int) : Lk := a4k (nx l 4) (nx (l.drop 1) 6) (nx (l.drop 2) 6) (nx (l.drop 3) 8) (nx (l.drop 4) 20) (nx (l.drop 5) 3)
def a2d : Nat -> List Int -> List Lk
 | 0, _ => []
 | n + 1, l => b4X l :: a2d n (l.drop 6)
def a2G (k : Int) : Int := if k = 0 then 0 else if k = 2 then -1 else 1
def a3J (n : Nat) : List UInt8 := [[111, 110, 101], [116, 119, 111], [116, 104, 114, 101, 101], [102, 111, 117, 114]].getD n []
def a3l (l : List Int) : Nat := (1 + nx (l.drop 2) 3).toNat
def a9v (l : List Int) (n : Nat) : Am := ⟨a3J n, ⟨Q (40 * n) 4, Q 0 4, false, Q (a2G (nx l 4)) (1 + nx (l.drop 1) 3)⟩, a2d (a3l l) (l.drop 3)⟩
def a9q (l : List Int) : List Int := l.drop (3 + 6 * a3l l)
def a1D : Nat -> Nat -> List Int -> List Am
 | 0, _, _ => []
 | k + 1, n, l => a9v l n :: a1D k (n + 1) (a9q l)
def a5x : Nat -> List Int -> List Int
 | 0, l => l
 | k + 1, l => a5x k (a9q l)
def a0P (l : List Int) : Int := if nx (l.drop 2) 2 = 1 then -(12 + nx (l.drop 1) 30) - 6 else 12 + nx (l.drop 1) 30
def b1a (l : List Int) : List Vt :=
 a4n (nx l 80 - 30) (a0P l) (nx l 80 - 30 + 1 + nx (l.drop 3) 20) (a0P l + 1 + nx (l.drop 4) 5)
def a1A : Nat -> List Int -> List (List Vt)
 | 0, _ => []
 | k + 1, l => b1a l :: a1A k (l.drop 5)
def a3j (n : Nat) : List UInt8 := [[98, 111, 108, 116], [110, 117, 116]].getD n []
def b8p (l : List Int) (n : Nat) : Pt := ⟨a3j n, (a1h l).1, ⟨Q 0 4, Q 0 4, false, Q 0 1⟩⟩
def a0s : Nat -> Nat -> List Int -> List Pt
 | 0, _, _ => []
 | k + 1, n, l => b8p l n :: a0s k (n + 1) (a1h l).2
def a3L : Nat -> List Int -> List Int
 | 0, l => l
 | k + 1, l => a3L k (a1h l).2
def a4d (n : Nat) : List UInt8 := [[104, 101, 114, 101], [116, 104, 101, 114, 101], [98, 101, 121, 111, 110, 100]].getD n []
def b4x (l : List Int) (n : Nat) : Sl := ⟨a4d n, ⟨Q (nx l 40 - 20) 4, Q (nx (l.drop 1) 24 - 12) 4, false, Q (nx (l.drop 2) 5 - 2) 2⟩, Q 1 (8 + nx (l.drop 3) 20)⟩
def a0n : Nat -> Nat -> List Int -> List Sl
 | 0, _, _ => []
 | k + 1, n, l => b4x l n :: a0n k (n + 1) (l.drop 4)
def b5k (l : List Int) : Gt := ⟨[100, 111, 111, 114], atV (nx l 60 - 30) (nx (l.drop 1) 60 - 30), atV (nx l 60 - 30 + nx (l.drop 2) 12) (nx (l.drop 1) 60 - 30 + nx (l.drop 3) 12)⟩
def a0m : Nat -> List Int -> List Gt
 | 0, _ => []
 | k + 1, l => b5k l :: a0m k (l.drop 4)
def nA (l : List Int) : Nat := (1 + nx l 2).toNat
def l1 (l : List Int) : List Int := a5x (nA l) (l.drop 1)
def nW (l : List Int) : Nat := (nx (l1 l) 3).toNat
def l2 (l : List Int) : List Int := (l1 l).drop (1 + 5 * nW l)
def nP (l : List Int) : Nat := (nx (l2 l) 3).toNat
def l3 (l : List Int) : List Int := a3L (nP l) ((l2 l).drop 1)
def nS (l : List Int) : Nat := nP l + (nx (l3 l) 2).toNat
def l4 (l : List Int) : List Int := (l3 l).drop (1 + 4 * nS l)
def nG (l : List Int) : Nat := (nx (l4 l) 2).toNat
def l5 (l : List Int) : List Int := (l4 l).drop (1 + 4 * nG l)
def J5 (l : List Int) : Wk :=
 ⟨a1D (nA l) 0 (l.drop 1), a1A (nW l) ((l1 l).drop 1), a0s (nP l) 0 ((l2 l).drop 1), a0n (nS l) 0 ((l3 l).drop 1), a0m (nG l) ((l4 l).drop 1), Q (nx (l5 l) 4) 8⟩
theorem l7 (l : List Int) {n : Int} (h : 0 < n) : 0 <= nx l n := Int.emod_nonneg _ (by omega)
theorem C9 (l : List Int) {n : Int} (h : 0 < n) : nx l n < n := Int.emod_lt_of_pos _ h
set_option maxRecDepth 100000
theorem a8a (n d : Int) (hd : 1 <= d) : ∃ g : Nat, 0 < g /\ (∃ k : Int, n = g * k /\ (mkRat n d.toNat).num = k) /\ (mkRat n d.toNat).den <= d.toNat := by
 have hd0 : d.toNat ≠ 0 := by omega
 rw [Rat.num_mkRat, Rat.den_mkRat, if_neg hd0, if_neg hd0]
 have hg : 0 < Nat.gcd d.toNat n.natAbs := Nat.gcd_pos_of_pos_left _ (by omega)
 refine ⟨Nat.gcd d.toNat n.natAbs, hg, ?_, Nat.div_le_self _ _⟩
 have hdv : ((Nat.gcd d.toNat n.natAbs : Nat) : Int) ∣ n := Int.ofNat_dvd_left.2 (Nat.gcd_dvd_right ..)
 obtain ⟨k, hk⟩ := hdv
 refine ⟨k, hk, ?_⟩
 conv => lhs; arg 1; rw [hk]
 exact Int.mul_ediv_cancel_left _ (by omega)
theorem b7h (q : Rat) : F3 q = q.num.sign := by
 unfold F3
 by_cases h : q.num = 0
 ·rw [if_pos h, h]; rfl
 ·rw [if_neg h]
  by_cases h2 : q.num < 0
  ·rw [if_pos h2, Int.sign_eq_neg_one_of_neg h2]
  ·rw [if_neg h2, Int.sign_eq_one_of_pos (by omega)]
theorem a5a (n d : Int) (hd : 1 <= d) : F3 (mkRat n d.toNat) = n.sign := by
 obtain ⟨g, hg, ⟨k, h1, h2⟩, _⟩ := a8a n d hd
 rw [b7h, h2, h1, Int.sign_mul, Int.sign_eq_one_of_pos (show (0 : Int) < (g : Int) by omega), Int.one_mul]
theorem Q5 (n d : Int) (hn : -1000000 <= n /\ n <= 1000000) (hd : 1 <= d /\ d <= 1000) : j4 (Q n d) = true := by
 obtain ⟨g, hg, ⟨k, h1, h2⟩, h3⟩ := a8a n d hd.1
 have hk : k.natAbs <= 1000000 := by
  have : n.natAbs = g * k.natAbs := by rw [h1, Int.natAbs_mul]; simp
  have : k.natAbs <= g * k.natAbs := Nat.le_mul_of_pos_left _ hg
  omega
 unfold j4
 simp only [c1t, c1v]
 have e1 : (Q n d).num = Nm.enc k.natAbs := by unfold Q Nm.ofQ; rw [h2]
 have e2 : (Q n d).den = Nm.enc (mkRat n d.toNat).den := rfl
 rw [e1, e2, Nm.I9, Nm.I9]
 exact ⟨⟨⟨⟨Nm.F8 (by omega), Nm.F8 (by omega)⟩, Nm.a0L _⟩, hk⟩, by omega⟩
theorem a3Z (n d : Int) : (Q n d).G5 := Nm.a0L _
theorem a2L (n d : Int) : Nm.d9 (Q n d) = mkRat n d.toNat := Nm.E8 _
theorem a4U (a b : Int) {n : Nat} (hn : n ≠ 0) : mkRat a n - mkRat b n = mkRat (a - b) n := by
 rw [Rat.sub_eq_add_neg, Rat.neg_mkRat, Rat.mkRat_add_mkRat _ _ hn hn, <- Int.add_mul, Rat.mkRat_mul_right hn]
 rw [Int.sub_eq_add_neg]
theorem mk_pos (a : Int) {n : Nat} (hn : n ≠ 0) : 0 < mkRat a n <-> 0 < a := by
 have h := a5a a (n : Int) (by omega)
 rw [c1x] at h
 have hnp : 0 < mkRat a n <-> 0 < (mkRat a n).num := by
  rw [<- Rat.not_le, <- Int.not_le]
  refine not_congr ?_
  rw [Rat.le_iff]
  simp
 rw [hnp]
 unfold F3 at h
 rcases Int.lt_trichotomy a 0 with h1 | h1 | h1
 ·rw [Int.sign_eq_neg_one_of_neg h1] at h
  split at h
  ·cases h
  ·split at h
   ·omega
   ·cases h
 ·subst h1
  simp at h ⊢
 ·rw [Int.sign_eq_one_of_pos h1] at h
  split at h
  ·cases h
  ·split at h
   ·cases h
   ·omega
theorem b6M {a b : Int} {n : Nat} (hn : n ≠ 0) (h : a < b) : Nm.C8 (mkRat a n) (mkRat b n) = -1 := by
 unfold Nm.C8
 rw [if_pos]
 have h1 := (mk_pos (b - a) hn).2 (by omega)
 rw [<- a4U b a hn] at h1
 grind
theorem b5V {a b : Int} {n : Nat} (hn : n ≠ 0) (h : a <= b) : Nm.C8 (mkRat a n) (mkRat b n) <= 0 := by
 rcases Int.lt_or_eq_of_le h with h1 | h1
 ·rw [b6M hn h1]; decide
 ·subst h1
  unfold Nm.C8
  rw [if_neg (Rat.lt_irrefl), if_pos rfl]
  exact Int.le_refl _
def a6d (p q r : Int × Int) : Int := (q.1 - p.1) * (r.2 - p.2) - (q.2 - p.2) * (r.1 - p.1)
theorem left_at (p q r : Int × Int) : a7e (atV p.1 p.2) (atV q.1 q.2) (atV r.1 r.2) = (a6d p q r).sign := by
 unfold a7e atV a6d
 simp only [a2L]
 rw [show Int.toNat 4 = 4 from rfl, a4U _ _ (by decide), a4U _ _ (by decide), a4U _ _ (by decide), a4U _ _ (by decide), Rat.mkRat_mul_mkRat, Rat.mkRat_mul_mkRat, a4U _ _ (by decide)]
 exact a5a _ 16 (by decide)
def a6R (l : List (Int × Int)) : Bool := (List.range l.length).all fun i => (List.range l.length).all fun k => decide (k < 2) || decide (0 < a6d (l.getD i (0, 0)) (l.getD ((i + 1) % l.length) (0, 0)) (l.getD ((i + k) % l.length) (0, 0)))
def a4a (l : List (Int × Int)) : List Vt := l.map fun p => atV p.1 p.2
theorem a7X (l : List (Int × Int)) (i : Nat) (h : i < l.length) : (a4a l).getD i Vt.zero = atV (l.getD i (0, 0)).1 (l.getD i (0, 0)).2 := by
 rw [c1z, c1z, a4a, c1Z, c1n h]
 rfl
theorem b8D (l : List (Int × Int)) (h3 : 3 <= l.length) (h8 : l.length <= 8) (h : a6R l = true) : R4 (a4a l) 8 = 0 := by
 have hl : (a4a l).length = l.length := by simp [a4a]
 unfold R4
 rw [if_neg (by omega), if_neg (by omega), if_pos]
 rw [hl, <- h]
 unfold a6R
 have key : ∀ i, i < l.length -> ∀ k, decide (0 < a2h (a4a l) i k) = decide (0 < a6d (l.getD i (0, 0)) (l.getD ((i + 1) % l.length) (0, 0)) (l.getD ((i + k) % l.length) (0, 0))) := by
  intro i hi k
  unfold a2h
  rw [hl, a7X l i hi, a7X l _ (Nat.mod_lt _ (by omega)), a7X l _ (Nat.mod_lt _ (by omega)), left_at]
  refine decide_eq_decide.2 ?_
  exact Int.sign_pos_iff
 rw [Bool.eq_iff_iff, List.all_eq_true, List.all_eq_true]
 refine forall_congr' fun i => ?_
 refine imp_congr_right fun hi => ?_
 rw [List.all_eq_true, List.all_eq_true]
 refine forall_congr' fun k => ?_
 refine imp_congr_right fun hk => ?_
 rw [key i (List.mem_range.1 hi) k]
theorem b5Q (x y u v : Int) (h1 : x < u) (h2 : y < v) : a6R [(x, y), (u, y), (u, v), (x, v)] = true := by
 have hp : 0 < (u - x) * (v - y) := Int.mul_pos (by omega) (by omega)
 unfold a6R
 simp only [c1I, List.length_nil, show List.range (0 + 1 + 1 + 1 + 1) = [0, 1, 2, 3] from rfl, List.all_cons, List.all_nil, Bool.and_true, c1t, c2d, c1v]
 refine ⟨⟨.inl (by decide), .inl (by decide), .inr ?_, .inr ?_⟩, ⟨.inl (by decide), .inl (by decide), .inr ?_, .inr ?_⟩, ⟨.inl (by decide), .inl (by decide), .inr ?_, .inr ?_⟩, ⟨.inl (by decide), .inl (by decide), .inr ?_, .inr ?_⟩⟩ <;>
 ·simp [a6d]
  grind
theorem a7S (l : List (Int × Int)) (h3 : 3 <= l.length) (h8 : l.length <= 8) (h : a6R l = true) (hb : ∀ p ∈ l, (-1000000 <= p.1 /\ p.1 <= 1000000) /\ -1000000 <= p.2 /\ p.2 <= 1000000) : J8 (a4a l) = 0 /\ (a4a l).all (fun v => j4 v.x && j4 v.y) = true := by
 have hs : ∀ v ∈ a4a l, j4 v.x = true /\ j4 v.y = true /\ v.x.G5 /\ v.y.G5 := by
  intro v hv
  obtain ⟨p, hp, rfl⟩ := List.mem_map.1 hv
  have := hb p hp
  exact ⟨Q5 _ _ this.1 (by decide), Q5 _ _ this.2 (by decide), a3Z _ _, a3Z _ _⟩
 refine ⟨?_, ?_⟩
 ·unfold J8
  rw [b8D l h3 h8 h, if_neg (by decide), if_pos]
  rw [List.all_eq_true]
  intro v hv
  obtain ⟨a1, a2, a3, a4⟩ := hs v hv
  unfold okV
  simp [a1, a2, a3, a4]
 ·rw [List.all_eq_true]
  intro v hv
  obtain ⟨a1, a2, a3, a4⟩ := hs v hv
  simp [a1, a2]
def a1V (w h k s : Int) : List (Int × Int) :=
 if k = 0 then [(-w, -h), (w, -h), (w, h), (-w, h)] else
 if k = 1 then [(-w, -h), (w, -h), (s - w, h)] else
 if k = 2 then [(-w - 1, -h - 1), (w, -h - 1), (w + 1, -h), (w + 1, h), (-w - 1, h)] else
 [(-w, 0), (0, -h), (w, 0), (0, h)]
theorem b6x (w h k s : Int) : a1i w h k s = a4a (a1V w h k s) := by
 unfold a1i a1V
 split
 ·rfl
 split
 ·rfl
 split <;> rfl
theorem b6D : ∀ w h : Fin 6, ∀ k : Fin 4, ∀ s : Fin 13, (s : Nat) <= 2 * (w + 1 : Nat) -> a6R (a1V ((w : Nat) + 1 : Int) ((h : Nat) + 1 : Int) ((k : Nat) : Int) ((s : Nat) : Int)) = true := by decide +kernel
theorem b8b (w h k s : Int) : 3 <= (a1V w h k s).length /\ (a1V w h k s).length <= 8 := by
 unfold a1V
 split
 ·simp
 split
 ·simp
 split <;> simp
theorem b5q {w h k s : Int} (hw : 1 <= w /\ w <= 6) (hh : 1 <= h /\ h <= 6) (hs : 0 <= s /\ s <= 12) : ∀ p ∈ a1V w h k s, (-1000000 <= p.1 /\ p.1 <= 1000000) /\ -1000000 <= p.2 /\ p.2 <= 1000000 := by
 unfold a1V
 intro p hp
 split at hp
 ·simp at hp; rcases hp with rfl | rfl | rfl | rfl <;> simp only <;> omega
 split at hp
 ·simp at hp; rcases hp with rfl | rfl | rfl <;> simp only <;> omega
 split at hp
 ·simp at hp; rcases hp with rfl | rfl | rfl | rfl | rfl <;> simp only <;> omega
 ·simp at hp; rcases hp with rfl | rfl | rfl | rfl <;> simp only <;> omega
theorem b1i {w h k s : Int} (hw : 1 <= w /\ w <= 6) (hh : 1 <= h /\ h <= 6) (hk : 0 <= k /\ k <= 3) (hs : 0 <= s /\ s <= 2 * w) : J8 (a1i w h k s) = 0 /\ (a1i w h k s).length <= 8 := by
 have hc := b6D ⟨(w - 1).toNat, by omega⟩ ⟨(h - 1).toNat, by omega⟩ ⟨k.toNat, by omega⟩ ⟨s.toNat, by omega⟩ (by simp only; omega)
 simp only at hc
 rw [show (((w - 1).toNat : Nat) + 1 : Int) = w by omega, show (((h - 1).toNat : Nat) + 1 : Int) = h by omega, show ((k.toNat : Nat) : Int) = k by omega, show ((s.toNat : Nat) : Int) = s by omega] at hc
 rw [b6x]
 obtain ⟨l1, l2⟩ := b8b w h k s
 exact ⟨(a7S _ l1 l2 hc (b5q hw hh (by omega))).1, by simpa [a4a] using l2⟩
theorem b2v (l : List Int) : J8 (a1h l).1 = 0 /\ (a1h l).1.length <= 8 := by
 have b1 := l7 l (n := 6) (by decide)
 have b2 := C9 l (n := 6) (by decide)
 have b3 := l7 (l.drop 1) (n := 6) (by decide)
 have b4 := C9 (l.drop 1) (n := 6) (by decide)
 have b5 := l7 (l.drop 2) (n := 4) (by decide)
 have b6 := C9 (l.drop 2) (n := 4) (by decide)
 unfold a1h
 simp only
 split
 ·rename_i h
  have b7 := l7 (l.drop 3) (n := 2 * (1 + nx l 6) + 1) (by omega)
  have b8 := C9 (l.drop 3) (n := 2 * (1 + nx l 6) + 1) (by omega)
  exact b1i (by omega) (by omega) (by omega) (by omega)
 ·exact b1i (by omega) (by omega) (by omega) (by omega)
theorem b3T {x y u v : Int} (h1 : x < u) (h2 : y < v) (hb : -1000000 <= x /\ u <= 1000000 /\ -1000000 <= y /\ v <= 1000000) : J8 (a4n x y u v) = 0 /\ (a4n x y u v).all (fun v => j4 v.x && j4 v.y) = true :=
 a7S [(x, y), (u, y), (u, v), (x, v)] (by simp) (by simp) (b5Q x y u v h1 h2) (fun p hp => by simp at hp; rcases hp with rfl | rfl | rfl | rfl <;> simp only <;> omega)
theorem a4D {l : List Vt} (h : J8 l = 0) : R4 l 8 = 0 := by
 unfold J8 at h
 split at h
 ·rename_i h1; exact absurd h h1
 ·rename_i h1; exact Classical.not_not.1 h1
theorem b8H {a lo hi sp br tri : Int} (ha : 0 <= a /\ a < 4) (h1 : 0 <= lo /\ lo < 6) (h2 : 0 <= hi /\ hi < 6) (h3 : 0 <= sp /\ sp < 8) (h4 : 0 <= br /\ br < 20) : M7 (a4k a lo hi sp br tri) = 0 := by
 have hs : ∀ n d : Int, 0 < n -> 1 <= d -> F3 (Nm.d9 (Q n d)) = 1 := fun n d hn hd => by rw [a2L, a5a _ _ hd, Int.sign_eq_one_of_pos hn]
 have hsh : J8 (a4k a lo hi sp br tri).shape = 0 /\ (a4k a lo hi sp br tri).shape.all (fun v => j4 v.x && j4 v.y) = true := by
  unfold a4k
  simp only
  split
  ·refine a7S [(-1, -1), (4 + 2 * a + 1, 0), (-1, 1)] (by simp) (by simp) ?_ (fun p hp => by simp at hp; rcases hp with rfl | rfl | rfl <;> simp only <;> omega)
   have : a = 0 \/ a = 1 \/ a = 2 \/ a = 3 := by omega
   rcases this with rfl | rfl | rfl | rfl <;> decide
  ·exact b3T (by omega) (by omega) (by omega)
 have hpe := a4D hsh.1
 unfold M7
 rw [hpe, hsh.2, if_neg, if_neg, if_neg (by decide), if_pos rfl]
 ·unfold a4k
  simp only
  rw [hs 1 (4 + sp) (by decide) (by omega), hs 1 (10 + br) (by decide) (by omega)]
  decide
 ·unfold a4k
  simp only
  rw [Q5 _ _ (by omega) (by omega), Q5 _ _ (by omega) (by omega), Q5 _ _ (by omega) (by omega), Q5 _ _ (by omega) (by omega), Q5 _ _ (by omega) (by omega), hs (4 + 2 * a) 4 (by omega) (by decide), a2L, a2L, b6M (by decide) (by omega)]
  decide
theorem a7N : ∀ (n : Nat) (l : List Int), G9 M7 (a2d n l) = 0 /\ (a2d n l).length = n
 | 0, _ => ⟨rfl, rfl⟩
 | n + 1, l => by
  have h := b8H (a := nx l 4) (lo := nx (l.drop 1) 6) (hi := nx (l.drop 2) 6) (sp := nx (l.drop 3) 8) (br := nx (l.drop 4) 20) (tri := nx (l.drop 5) 3)
   ⟨l7 _ (by decide), C9 _ (by decide)⟩ ⟨l7 _ (by decide), C9 _ (by decide)⟩ ⟨l7 _ (by decide), C9 _ (by decide)⟩ ⟨l7 _ (by decide), C9 _ (by decide)⟩ ⟨l7 _ (by decide), C9 _ (by decide)⟩
  have e : M7 (b4X l) = 0 := h
  simp only [a2d, G9, c1I]
  rw [if_pos e]
  exact ⟨(a7N n _).1, by rw [(a7N n _).2]⟩
theorem b4s (k : Int) : -1 <= a2G k /\ a2G k <= 1 := by unfold a2G; split; omega; split <;> omega
theorem c0p (l : List Int) (n : Nat) (hn : n <= 3) : J6 (a9v l n) = 0 := by
 have a3 := l7 (l.drop 1) (n := 3) (by decide)
 have a4 := C9 (l.drop 1) (n := 3) (by decide)
 have a5 := l7 (l.drop 2) (n := 3) (by decide)
 have a6 := C9 (l.drop 2) (n := 3) (by decide)
 have ht := b4s (nx l 4)
 obtain ⟨g1, g2⟩ := a7N (a3l l) (l.drop 3)
 have hc : a3l l = (1 + nx (l.drop 2) 3).toNat := rfl
 have hnm : a1n (a3J n) = true := by
  have : n = 0 \/ n = 1 \/ n = 2 \/ n = 3 := by omega
  rcases this with rfl | rfl | rfl | rfl <;> decide
 unfold J6 a9v
 simp only
 rw [g1, hnm, if_neg (by decide), if_neg (by rw [g2]; omega), if_neg]
 rw [g2, Q5 _ _ (by omega) (by decide), Q5 _ _ (by omega) (by decide), Q5 _ _ (by omega) (by omega)]
 rintro (h | h | h)
 ·omega
 ·cases h
 ·cases h
theorem b1q : ∀ (l : List Am) (n : Nms), (∀ a ∈ l, J6 a = 0) -> u6 a1N n l = u6 K6 n (l.map Am.name)
 | [], _, _ => rfl
 | a :: l, n, h => by
  have h0 := h a (by simp)
  have e : a1N n a = K6 n a.name := by unfold a1N; rw [h0, if_neg (by decide)]
  simp only [u6, c1F, e]
  split
  ·exact b1q l _ fun x hx => h x (by simp [hx])
  ·rfl
theorem b0t : ∀ (l : List Pt) (n : Nms), (∀ a ∈ l, J8 a.shape = 0 /\ okF a.grasp = true) -> u6 a0E n l = u6 K6 n (l.map Pt.name)
 | [], _, _ => rfl
 | a :: l, n, h => by
  obtain ⟨h0, h1⟩ := h a (by simp)
  have e : a0E n a = K6 n a.name := by
   unfold a0E
   by_cases h2 : (K6 n a.name).1 = 0
   ·rw [if_neg (by rw [h2]; decide), h0, if_neg (by decide), h1, if_pos rfl]
    rw [<- h2]
   ·rw [if_pos h2]
  simp only [u6, c1F, e]
  split
  ·exact b0t l _ fun x hx => h x (by simp [hx])
  ·rfl
theorem b0c : ∀ (l : List Sl) (n : Nms), (∀ s ∈ l, (okF s.frame && decide s.within.G5 && j4 s.within && decide (0 < F3 (Nm.d9 s.within))) = true) -> u6 a0y n l = u6 K6 n (l.map Sl.name)
 | [], _, _ => rfl
 | a :: l, n, h => by
  have h1 := h a (by simp)
  have e : a0y n a = K6 n a.name := by
   unfold a0y
   by_cases h2 : (K6 n a.name).1 = 0
   ·rw [if_neg (by rw [h2]; decide), h1, if_pos rfl]
    rw [<- h2]
   ·rw [if_pos h2]
  simp only [u6, c1F, e]
  split
  ·exact b0c l _ fun x hx => h x (by simp [hx])
  ·rfl
theorem b0C : ∀ (l : List Gt) (n : Nms), (∀ g ∈ l, (okV g.low && okV g.high && decide (Nm.C8 (Nm.d9 g.low.x) (Nm.d9 g.high.x) <= 0) && decide (Nm.C8 (Nm.d9 g.low.y) (Nm.d9 g.high.y) <= 0)) = true) -> u6 a0C n l = u6 K6 n (l.map Gt.name)
 | [], _, _ => rfl
 | a :: l, n, h => by
  have h1 := h a (by simp)
  have e : a0C n a = K6 n a.name := by
   unfold a0C
   by_cases h2 : (K6 n a.name).1 = 0
   ·rw [if_neg (by rw [h2]; decide), h1, if_pos rfl]
    rw [<- h2]
   ·rw [if_pos h2]
  simp only [u6, c1F, e]
  split
  ·exact b0C l _ fun x hx => h x (by simp [hx])
  ·rfl
theorem a1o {α : Type} {f : α -> Int} : ∀ {l : List α}, (∀ x ∈ l, f x = 0) -> G9 f l = 0
 | [], _ => rfl
 | x :: l, h => by rw [G9, if_pos (h x (by simp))]; exact a1o fun y hy => h y (by simp [hy])
theorem a5B : ∀ (c n : Nat) (l : List Int), n + c <= 4 -> ∀ a ∈ a1D c n l, J6 a = 0
 | 0, _, _, _, a, ha => by cases ha
 | c + 1, n, l, h, a, ha => by
  rcases List.mem_cons.1 ha with rfl | ha
  ·exact c0p l n (by omega)
  ·exact a5B c (n + 1) _ (by omega) a ha
theorem a7F : ∀ (c n : Nat) (l : List Int), (a1D c n l).map Am.name = (List.range c).map fun i => a3J (n + i)
 | 0, _, _ => rfl
 | c + 1, n, l => by
  rw [a1D, c1F, a7F c, List.range_succ_eq_map, c1F, List.map_map]
  congr 1
  refine List.map_congr_left fun i _ => ?_
  simp only [Function.comp]
  congr 1
  omega
theorem a6C : ∀ (c n : Nat) (l : List Int), (a1D c n l).length = c
 | 0, _, _ => rfl
 | c + 1, n, l => by rw [a1D, c1I, a6C]
theorem b7C (l : List Int) : J8 (b1a l) = 0 /\ (b1a l).all (fun v => j4 v.x && j4 v.y) = true := by
 have a1 := l7 l (n := 80) (by decide)
 have a2 := C9 l (n := 80) (by decide)
 have a3 := l7 (l.drop 1) (n := 30) (by decide)
 have a4 := C9 (l.drop 1) (n := 30) (by decide)
 have a5 := l7 (l.drop 3) (n := 20) (by decide)
 have a6 := C9 (l.drop 3) (n := 20) (by decide)
 have a7 := l7 (l.drop 4) (n := 5) (by decide)
 have a8 := C9 (l.drop 4) (n := 5) (by decide)
 have hy : -1000 <= a0P l /\ a0P l <= 1000 := by unfold a0P; split <;> omega
 exact b3T (by omega) (by omega) (by omega)
theorem a4j : ∀ (c : Nat) (l : List Int), (∀ x ∈ a1A c l, J8 x = 0 /\ x.all (fun v => j4 v.x && j4 v.y) = true) /\ (a1A c l).length = c
 | 0, _ => ⟨fun x hx => (by cases hx), rfl⟩
 | c + 1, l => by
  refine ⟨fun x hx => ?_, by rw [a1A, c1I, (a4j c _).2]⟩
  rcases List.mem_cons.1 hx with rfl | hx
  ·exact b7C l
  ·exact (a4j c _).1 x hx
theorem b4W {a b c d : Int} (ha : -1000000 <= a /\ a <= 1000000) (hb : 1 <= b /\ b <= 1000) (hc : -1000000 <= c /\ c <= 1000000) (hd : 1 <= d /\ d <= 1000) : okV ⟨Q a b, Q c d⟩ = true := by
 unfold okV
 simp only [Q5 _ _ ha hb, Q5 _ _ hc hd, decide_eq_true (a3Z a b), decide_eq_true (a3Z c d), Bool.and_self]
theorem b8l {a c e f : Int} (ha : -1000000 <= a /\ a <= 1000000) (hc : -1000000 <= c /\ c <= 1000000) (he : -1000000 <= e /\ e <= 1000000) (hf : 1 <= f /\ f <= 1000) : okF ⟨Q a 4, Q c 4, false, Q e f⟩ = true := by
 unfold okF a4z
 simp only [b4W ha (show (1 : Int) <= 4 /\ (4 : Int) <= 1000 by decide) hc (show (1 : Int) <= 4 /\ (4 : Int) <= 1000 by decide), Q5 _ _ he hf, decide_eq_true (a3Z e f), Bool.false_and, Bool.not_false, Bool.and_self]
theorem a6p : ∀ (c n : Nat) (l : List Int), (∀ p ∈ a0s c n l, (J8 p.shape = 0 /\ okF p.grasp = true) /\ p.shape.length <= 8) /\ (a0s c n l).length = c /\ (a0s c n l).map Pt.name = (List.range c).map fun i => a3j (n + i)
 | 0, _, _ => ⟨fun x hx => (by cases hx), rfl, rfl⟩
 | c + 1, n, l => by
  obtain ⟨h1, h2, h3⟩ := a6p c (n + 1) (a1h l).2
  refine ⟨fun x hx => ?_, by rw [a0s, c1I, h2], ?_⟩
  ·rcases List.mem_cons.1 hx with rfl | hx
   ·exact ⟨⟨(b2v l).1, b8l (by decide) (by decide) (by decide) (by decide)⟩, (b2v l).2⟩
   ·exact h1 x hx
  ·rw [a0s, c1F, h3, List.range_succ_eq_map, c1F, List.map_map]
   congr 1
   refine List.map_congr_left fun i _ => ?_
   simp only [Function.comp]
   congr 1
   omega
theorem a4t : ∀ (c n : Nat) (l : List Int), (∀ s ∈ a0n c n l, (okF s.frame && decide s.within.G5 && j4 s.within && decide (0 < F3 (Nm.d9 s.within))) = true) /\ (a0n c n l).length = c /\ (a0n c n l).map Sl.name = (List.range c).map fun i => a4d (n + i)
 | 0, _, _ => ⟨fun x hx => (by cases hx), rfl, rfl⟩
 | c + 1, n, l => by
  obtain ⟨h1, h2, h3⟩ := a4t c (n + 1) (l.drop 4)
  have a1 := l7 l (n := 40) (by decide)
  have a2 := C9 l (n := 40) (by decide)
  have a3 := l7 (l.drop 1) (n := 24) (by decide)
  have a4 := C9 (l.drop 1) (n := 24) (by decide)
  have a5 := l7 (l.drop 2) (n := 5) (by decide)
  have a6 := C9 (l.drop 2) (n := 5) (by decide)
  have a7 := l7 (l.drop 3) (n := 20) (by decide)
  have a8 := C9 (l.drop 3) (n := 20) (by decide)
  refine ⟨fun x hx => ?_, by rw [a0n, c1I, h2], ?_⟩
  ·rcases List.mem_cons.1 hx with rfl | hx
   ·unfold b4x
    simp only
    rw [b8l (by omega) (by omega) (by omega) (by decide), Q5 _ _ (by decide) (by omega), decide_eq_true (a3Z _ _), a2L, a5a _ _ (by omega)]
    decide
   ·exact h1 x hx
  ·rw [a0n, c1F, h3, List.range_succ_eq_map, c1F, List.map_map]
   congr 1
   refine List.map_congr_left fun i _ => ?_
   simp only [Function.comp]
   congr 1
   omega
theorem a5Z : ∀ (c : Nat) (l : List Int), (∀ g ∈ a0m c l, (okV g.low && okV g.high && decide (Nm.C8 (Nm.d9 g.low.x) (Nm.d9 g.high.x) <= 0) && decide (Nm.C8 (Nm.d9 g.low.y) (Nm.d9 g.high.y) <= 0)) = true) /\ (a0m c l).length = c /\ (a0m c l).map Gt.name = List.replicate c [100, 111, 111, 114]
 | 0, _ => ⟨fun x hx => (by cases hx), rfl, rfl⟩
 | c + 1, l => by
  obtain ⟨h1, h2, h3⟩ := a5Z c (l.drop 4)
  have a1 := l7 l (n := 60) (by decide)
  have a2 := C9 l (n := 60) (by decide)
  have a3 := l7 (l.drop 1) (n := 60) (by decide)
  have a4 := C9 (l.drop 1) (n := 60) (by decide)
  have a5 := l7 (l.drop 2) (n := 12) (by decide)
  have a6 := C9 (l.drop 2) (n := 12) (by decide)
  have a7 := l7 (l.drop 3) (n := 12) (by decide)
  have a8 := C9 (l.drop 3) (n := 12) (by decide)
  refine ⟨fun x hx => ?_, by rw [a0m, c1I, h2], ?_⟩
  ·rcases List.mem_cons.1 hx with rfl | hx
   ·unfold b5k atV
    simp only
    rw [b4W (by omega) (by decide) (by omega) (by decide), b4W (by omega) (by decide) (by omega) (by decide), a2L, a2L, a2L, a2L, decide_eq_true (b5V (by decide) (by omega)), decide_eq_true (b5V (by decide) (by omega))]
    decide
   ·exact h1 x hx
  ·rw [a0m, c1F, h3, List.replicate_succ]
   rfl
theorem counts (l : List Int) : (1 <= nA l /\ nA l <= 2) /\ nW l <= 2 /\ nP l <= 2 /\ (nP l <= nS l /\ nS l <= nP l + 1) /\ nG l <= 1 := by
 have a1 := l7 l (n := 2) (by decide)
 have a2 := C9 l (n := 2) (by decide)
 have a3 := l7 (l1 l) (n := 3) (by decide)
 have a4 := C9 (l1 l) (n := 3) (by decide)
 have a5 := l7 (l2 l) (n := 3) (by decide)
 have a6 := C9 (l2 l) (n := 3) (by decide)
 have a7 := l7 (l3 l) (n := 2) (by decide)
 have a8 := C9 (l3 l) (n := 2) (by decide)
 have a9 := l7 (l4 l) (n := 2) (by decide)
 have a10 := C9 (l4 l) (n := 2) (by decide)
 unfold nS
 unfold nA nW nP nG
 omega
theorem b7e : ∀ a w p s g : Nat, (1 <= a /\ a <= 2) -> p <= 2 -> (p <= s /\ s <= p + 1) -> g <= 1 ->
  (u6 K6 [] ((List.range a).map fun i => a3J (0 + i))).1 = 0 /\
  (u6 K6 (u6 K6 [] ((List.range a).map fun i => a3J (0 + i))).2 ((List.range p).map fun i => a3j (0 + i))).1 = 0 /\
  (u6 K6 (u6 K6 (u6 K6 [] ((List.range a).map fun i => a3J (0 + i))).2 ((List.range p).map fun i => a3j (0 + i))).2 ((List.range s).map fun i => a4d (0 + i))).1 = 0 /\
  (u6 K6 (u6 K6 (u6 K6 (u6 K6 [] ((List.range a).map fun i => a3J (0 + i))).2 ((List.range p).map fun i => a3j (0 + i))).2 ((List.range s).map fun i => a4d (0 + i))).2 (List.replicate g [100, 111, 111, 114])).1 = 0 := by
 intro a w p s g ha hp hs hg
 have h1 : a = 1 \/ a = 2 := by omega
 have h2 : p = 0 \/ p = 1 \/ p = 2 := by omega
 have h3 : s = p \/ s = p + 1 := by omega
 have h4 : g = 0 \/ g = 1 := by omega
 rcases h1 with rfl | rfl <;> rcases h2 with rfl | rfl | rfl <;> rcases h3 with rfl | rfl <;> rcases h4 with rfl | rfl <;> decide
theorem b1A (l : List Int) : a0p (J5 l) = 0 := by
 obtain ⟨c1, c2, c3, c4, c5⟩ := counts l
 have x1 := a5B (nA l) 0 (l.drop 1) (by omega)
 have x2 := a4j (nW l) ((l1 l).drop 1)
 have x3 := a6p (nP l) 0 ((l2 l).drop 1)
 have x4 := a4t (nS l) 0 ((l3 l).drop 1)
 have x5 := a5Z (nG l) ((l4 l).drop 1)
 have hn := b7e (nA l) 0 (nP l) (nS l) (nG l) c1 c3 c4 c5
 have a1 := l7 (l5 l) (n := 4) (by decide)
 have a2 := C9 (l5 l) (n := 4) (by decide)
 have hw : b1c (Q (nx (l5 l) 4) 8) = 0 := by
  unfold b1c
  rw [Q5 _ _ (by omega) (by decide), decide_eq_true (a3Z _ _), a2L, a5a _ _ (by decide)]
  have : 0 <= (nx (l5 l) 4).sign := by
   rcases Int.lt_or_eq_of_le a1 with h | h
   ·rw [Int.sign_eq_one_of_pos h]; decide
   ·rw [<- h]; decide
  simp [this]
 have hL : a6h (J5 l) = [0, 0, 0, 0, 0] := by
  unfold a6h J5
  simp only
  rw [b1q _ _ x1, a7F, b0t _ _ (fun a ha => (x3.1 a ha).1), x3.2.2, b0c _ _ x4.1, x4.2.2, b0C _ _ x5.1, x5.2.2, a1o (fun a ha => (x2.1 a ha).1), hn.1, hn.2.1, hn.2.2.1, hn.2.2.2]
 unfold a0p
 rw [hL]
 have l1' : (J5 l).arms.length = nA l := a6C ..
 have l2' : (J5 l).walls.length = nW l := x2.2
 have l3' : (J5 l).parts.length = nP l := x3.2.1
 have l4' : (J5 l).slots.length = nS l := x4.2.1
 have l5' : (J5 l).gates.length = nG l := x5.2.1
 rw [if_neg (by omega), if_neg (by omega), if_neg (by decide)]
 exact hw
set_option maxRecDepth 10000
theorem b6A {l : List Vt} {most i k : Nat} (h1 : ¬ most < l.length) (h2 : ¬ l.length < 3) (hi : i < l.length) (hk2 : 2 <= k) (hk : k < l.length) (h : ¬ 0 < a2h l i k) : R4 l most = 3 := by
 unfold R4
 rw [if_neg h1, if_neg h2, if_neg]
 intro ha
 rw [List.all_eq_true] at ha
 have h3 := ha i (List.mem_range.2 hi)
 rw [List.all_eq_true] at h3
 have h4 := h3 k (List.mem_range.2 hk)
 rw [c2d, c1v, c1v] at h4
 omega
theorem b4w {l : List Vt} {most : Nat} (h1 : ¬ most < l.length) (h2 : ¬ l.length < 3) (h : ∀ i, i < l.length -> ∀ k, 2 <= k -> k < l.length -> 0 < a2h l i k) : R4 l most = 0 := by
 unfold R4
 rw [if_neg h1, if_neg h2, if_pos]
 rw [List.all_eq_true]
 intro i hi
 rw [List.all_eq_true]
 intro k hk
 rw [c2d, c1v, c1v]
 rcases c1Q k 2 with h3 | h3
 ·exact .inl h3
 ·exact .inr (h i (List.mem_range.1 hi) k h3 (List.mem_range.1 hk))
theorem b6s {l : List Vt} {i k : Nat} {x y z : Vt} (hx : l[i]? = some x) (hy : l[(i + 1) % l.length]? = some y) (hz : l[(i + k) % l.length]? = some z) : a2h l i k = a7e x y z := by
 unfold a2h
 rw [c1z, c1z, c1z, hx, hy, hz]
 rfl
theorem b7O (i k n : Nat) : Int.tmod ((i : Int) + (k : Int)) (n : Int) = (((i + k) % n : Nat) : Int) := rfl
theorem tmod_one (i n : Nat) : Int.tmod ((i : Int) + 1) (n : Int) = (((i + 1) % n : Nat) : Int) := rfl
theorem c0f (v : Vt) : v.enc.length = 6 := rfl
theorem b7v (l : List Vt) (most : Nat) (hl : Vbs 1073741824 l) (hm : most <= 1000000) : FZ 194 [vts l, ints most] (ints (R4 l most)) := by
 refine kW Tryz.func194 (by cbv) (by rfl) fun w O hw => ?_
 obtain ⟨hn, hb⟩ := hl
 simp only [j6, ints, vts]
 (repeat first | refine uA ?_ | (refine uK ?_ ?_; focus first | omega | trivial | (intros; simp_all <;> omega)) | simp (disch := omega) only [go_sem, Nat.reduceBEq, Nat.reduceAdd, Nat.reduceLeDiff, Int.reduceToNat, Int.reducePow, ww, c1o])
 (refine uJ rfl (fun hc => ?_) fun hc => ?_)
 ·have he : R4 l most = 2 := by unfold R4; rw [if_pos (by omega)]
  rw [he]
  (repeat first | refine uA ?_ | (refine uK ?_ ?_; focus first | omega | trivial | (intros; simp_all <;> omega)) | simp (disch := omega) only [go_sem, Nat.reduceBEq, Nat.reduceAdd, Nat.reduceLeDiff, Int.reduceToNat, Int.reducePow, ww])
  exact S.done (j3.out rfl (Imp.refl rfl) rfl)
 have h1 : ¬ most < l.length := by omega
 (repeat first | refine uA ?_ | (refine uK ?_ ?_; focus first | omega | trivial | (intros; simp_all <;> omega)) | simp (disch := omega) only [go_sem, Nat.reduceBEq, Nat.reduceAdd, Nat.reduceLeDiff, Int.reduceToNat, Int.reducePow, ww, c1o])
 (refine uJ rfl (fun hc => ?_) fun hc => ?_)
 ·have he : R4 l most = 3 := by unfold R4; rw [if_neg h1, if_pos (by omega)]
  rw [he]
  (repeat first | refine uA ?_ | (refine uK ?_ ?_; focus first | omega | trivial | (intros; simp_all <;> omega)) | simp (disch := omega) only [go_sem, Nat.reduceBEq, Nat.reduceAdd, Nat.reduceLeDiff, Int.reduceToNat, Int.reducePow, ww])
  exact S.done (j3.out rfl (Imp.refl rfl) rfl)
 have h2 : ¬ l.length < 3 := by omega
 (repeat first | refine uA ?_ | (refine uK ?_ ?_; focus first | omega | trivial | (intros; simp_all <;> omega)) | simp (disch := omega) only [go_sem, Nat.reduceBEq, Nat.reduceAdd, Nat.reduceLeDiff, Int.reduceToNat, Int.reducePow, ww, c1o])
 refine S.loop (X := Nat) (fun i => ⟨[(0, vts l), (5, ints l.length), (18, vts l), (19, ints l.length), (20, ints i)], []⟩)
  (fun i => i <= l.length /\ ∀ j, j < i -> ∀ k, 2 <= k -> k < l.length -> 0 < a2h l j k) (fun i => l.length - i) 0 ⟨c1u _, fun _ h => absurd h (Nat.not_lt_zero _)⟩ (by (repeat first | refine uA ?_ | (refine ⟨?_, ?_⟩; focus first | rfl | trivial | (simp [slot]; done)) | rfl | trivial | simp)) ?_
 rintro i ⟨hi, hg⟩
 simp only [ints, vts] at hi ⊢
 (repeat first | refine uA ?_ | (refine uK ?_ ?_; focus first | omega | trivial | (intros; simp_all <;> omega)) | simp (disch := omega) only [go_sem, Nat.reduceBEq, Nat.reduceAdd, Nat.reduceLeDiff, Int.reduceToNat, Int.reducePow, ww])
 (refine uJ rfl (fun hc => ?_) fun hc => ?_)
 ·have hi' : i < l.length := by omega
  have hgi := c1n hi'
  generalize l[i] = x at hgi
  (repeat first | refine uA ?_ | (refine uK ?_ ?_; focus first | omega | trivial | (intros; simp_all <;> omega)) | simp (disch := omega) only [go_sem, Nat.reduceBEq, Nat.reduceAdd, Nat.reduceLeDiff, Int.reduceToNat, Int.reducePow, ww, hgi, c1p, c1o, c0f])
  refine S.loop (X := Nat) (fun k => ⟨[(0, vts l), (5, ints l.length), (6, ints i), (7, .bp 0 0), (8, ints k), (18, vts l), (19, ints l.length), (20, ints i)], [.box 32 x.enc]⟩)
   (fun k => 2 <= k /\ k <= l.length /\ ∀ k', 2 <= k' -> k' < k -> 0 < a2h l i k') (fun k => l.length - k) 2 ⟨c1w _, by omega, fun _ h h' => by omega⟩ (by (repeat first | refine uA ?_ | (refine ⟨?_, ?_⟩; focus first | rfl | trivial | (simp [slot]; done)) | rfl | trivial | simp)) ?_
  rintro k ⟨hk2, hk, hgk⟩
  simp only [ints, vts] at hk ⊢
  (repeat first | refine uA ?_ | (refine uK ?_ ?_; focus first | omega | trivial | (intros; simp_all <;> omega)) | simp (disch := omega) only [go_sem, Nat.reduceBEq, Nat.reduceAdd, Nat.reduceLeDiff, Int.reduceToNat, Int.reducePow, ww])
  (refine uJ rfl (fun hc => ?_) fun hc => ?_)
  ·have hk' : k < l.length := by omega
   have hy := c1n (show (i + 1) % l.length < l.length from Nat.mod_lt _ (by omega))
   have hz := c1n (show (i + k) % l.length < l.length from Nat.mod_lt _ (by omega))
   have hylt : (i + 1) % l.length < l.length := Nat.mod_lt _ (by omega)
   have hzlt : (i + k) % l.length < l.length := Nat.mod_lt _ (by omega)
   generalize l[(i + 1) % l.length]'_ = y at hy
   generalize l[(i + k) % l.length]'_ = z at hz
   have hla := b6s hgi hy hz
   have hcall := b9V x y z (hb x (c1q hgi)) (hb y (c1q hy)) (hb z (c1q hz))
   rw [<- hla] at hcall
   simp only [Vt.c, Vt.enc, sb, ints] at hcall
   (repeat first | refine uA ?_ | (refine uK ?_ ?_; focus first | omega | trivial | (intros; simp_all <;> omega)) | simp (disch := omega) only [go_sem, Nat.reduceBEq, Nat.reduceAdd, Nat.reduceLeDiff, Int.reduceToNat, Int.reducePow, ww, hy, hz, c1p, b7O, tmod_one, c1o, Vt.enc, sb, c1x] | (refine uD hcall ?_ ?_ ?_; exact tz hw; exact rfl))
   (refine uJ rfl (fun hc => ?_) fun hc => ?_)
   ·rw [b6A h1 h2 hi' hk2 hk' (by omega)]
    (repeat first | refine uA ?_ | (refine uK ?_ ?_; focus first | omega | trivial | (intros; simp_all <;> omega)) | simp (disch := omega) only [go_sem, Nat.reduceBEq, Nat.reduceAdd, Nat.reduceLeDiff, Int.reduceToNat, Int.reducePow, ww])
    exact S.done (j3.out rfl (Imp.refl rfl) rfl)
   ·(repeat first | refine uA ?_ | (refine uK ?_ ?_; focus first | omega | trivial | (intros; simp_all <;> omega)) | simp (disch := omega) only [go_sem, Nat.reduceBEq, Nat.reduceAdd, Nat.reduceLeDiff, Int.reduceToNat, Int.reducePow, ww])
    refine S.next (k + 1) ⟨by omega, by omega, fun k' hk1 hk3 => ?_⟩ (by omega) (by (repeat first | refine uA ?_ | (refine ⟨?_, ?_⟩; focus first | rfl | trivial | (simp [slot]; done)) | rfl | trivial | simp))
    rcases c1Q k' k with h | h
    ·exact hgk k' hk1 h
    ·have : k' = k := by omega
     subst this
     omega
  ·have hk' : k = l.length := by omega
   subst hk'
   (repeat first | refine uA ?_ | (refine uK ?_ ?_; focus first | omega | trivial | (intros; simp_all <;> omega)) | simp (disch := omega) only [go_sem, Nat.reduceBEq, Nat.reduceAdd, Nat.reduceLeDiff, Int.reduceToNat, Int.reducePow, ww])
   refine S.next (i + 1) ⟨by omega, fun j hj => ?_⟩ (by omega) (by (repeat first | refine uA ?_ | (refine ⟨?_, ?_⟩; focus first | rfl | trivial | (simp [slot]; done)) | rfl | trivial | simp))
   rcases c1Q j i with h | h
   ·exact hg j h
   ·have : j = i := by omega
    subst this
    exact hgk
 ·have hi' : i = l.length := by omega
  subst hi'
  rw [b4w h1 h2 hg]
  (repeat first | refine uA ?_ | (refine uK ?_ ?_; focus first | omega | trivial | (intros; simp_all <;> omega)) | simp (disch := omega) only [go_sem, Nat.reduceBEq, Nat.reduceAdd, Nat.reduceLeDiff, Int.reduceToNat, Int.reducePow, ww])
  exact S.done (j3.out rfl (Imp.refl rfl) rfl)
theorem a7u (l : List Vt) (hl : Vbs 1073741824 l) : FZ 143 [vts l] (ints (R4 l 8)) := by
 refine kW Tryz.func143 (by cbv) (by rfl) fun w O hw => ?_
 have h := b7v l 8 hl (by decide)
 simp only [j6]
 simp only [vts, ints] at *
 generalize R4 l 8 = e at *
 rw [show ((8 : Nat) : Int) = 8 from rfl] at h
 (repeat first | refine uA ?_ | (refine uK ?_ ?_; focus first | omega | trivial | (intros; simp_all <;> omega)) | simp (disch := omega) only [go_sem, Nat.reduceBEq, Nat.reduceAdd, Nat.reduceLeDiff, Int.reduceToNat, Int.reducePow, ww] | (refine uD h ?_ ?_ ?_; exact tz hw; exact rfl))
 exact S.done (j3.out rfl (Imp.refl rfl) rfl)
end Go.Proofs.YtpjjiegfigpgnaaGreatDoor
