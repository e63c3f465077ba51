/- A part of the proof: lemmas only, with the conditions that each names. -/
import Derived.Test.YtogfpjohjphngaaGreatDoorProg
import Derived.KernelRfl
import Derived.Shelf.Strings.SlTrimAscii
import Derived.Test.YtogfpjohjphngaaGreatDoorPk3
set_option linter.all false
namespace Go.Proofs.YtogfpjohjphngaaGreatDoor
open Go Go.RowKit Eng
set_option maxRecDepth 10000
set_option maxHeartbeats 4000000
namespace Nm
def G7 (l : List Nat) : List Nat := (l.reverse.dropWhile (· == 0)).reverse
theorem a6p (l : List Nat) : G7 (l ++ [0]) = G7 l := by simp [G7]
theorem a3J {l : List Nat} {x : Nat} (h : x ≠ 0) : G7 (l ++ [x]) = l ++ [x] := by simp [G7, h]
theorem a6N : G7 [] = [] := rfl
theorem a4V (l : List Nat) : G7 l = l.take (G7 l).length /\ (G7 l).length <= l.length /\ (∀ B, wv B (G7 l) = wv B l) /\ (∀ h : G7 l ≠ [], (G7 l).getLast h ≠ 0) := by
  obtain ⟨r, rfl⟩ : ∃ r, l = r.reverse := ⟨l.reverse, by simp⟩
  induction r with
  | nil => simp [a6N]
  | cons x r ih =>
    rw [List.reverse_cons]
    by_cases hx : x = 0
    · subst hx
      rw [a6p]
      obtain ⟨h1, h2, h3, h4⟩ := ih
      refine ⟨?_, by rw [List.length_append]; omega, fun B => ?_, h4⟩
      · rw [List.take_append_of_le_length h2]; exact h1
      · rw [h3, a7B]; simp
    · rw [a3J hx]
      refine ⟨by rw [List.take_length], Nat.le_refl _, fun B => rfl, fun h => ?_⟩
      rw [List.getLast_concat]; exact hx
theorem b7Q (l : List Nat) : (G7 l).length <= l.length := (a4V l).2.1
theorem b9l (B : Nat) (l : List Nat) : wv B (G7 l) = wv B l := (a4V l).2.2.1 B
theorem b5q (l : List Nat) : l.take (G7 l).length = G7 l := (a4V l).1.symm
theorem a9L (l : List Nat) (h : G7 l ≠ []) : (G7 l).getLast h ≠ 0 := (a4V l).2.2.2 h
end Nm
def rw2 (s : Bool) (u o : List Nat) : List Res := match s with
  | true => [.row 189 1 (ls u), .row 189 1 (ls o)]
  | false => [.row 189 1 (ls o), .row 189 1 (ls u)]
section
variable {rs rs' l : List Res} {u o : List Nat} {r : Res}
instance : Sb (M8 rs rs' (rw2 true u o) l) (M8 rs rs' [.row 189 1 (ls u), .row 189 1 (ls o)] l) := ⟨id⟩
instance : Sb (M8 rs rs' (rw2 false u o) l) (M8 rs rs' [.row 189 1 (ls o), .row 189 1 (ls u)] l) := ⟨id⟩
instance : Sb (M8 rs rs' (r :: l) (rw2 true u o)) (M8 rs rs' (r :: l) [.row 189 1 (ls u), .row 189 1 (ls o)]) := ⟨id⟩
instance : Sb (M8 rs rs' (r :: l) (rw2 false u o)) (M8 rs rs' (r :: l) [.row 189 1 (ls o), .row 189 1 (ls u)]) := ⟨id⟩
end
def kx (s : Bool) : Nat := match s with
  | true => 0
  | false => 1
theorem a7E {E : Ctx} (hP : E.P = Tryz.prog) (s : Bool) (u o : List Nat) (lo n : Nat) (hl : u.length <= 274877906944) (hn : lo + n <= u.length) (hlo : lo < u.length) :
    j6 E (rw2 s u o) 256 [.wv (kx s) 1 lo n] (.wv (kx s) 1 lo (Nm.G7 ((u.drop lo).take n)).length) (rw2 s u o) [] := by
  obtain ⟨P, eff', N, w0, p9, av0, nu0, pk0⟩ := E
  simp only at hP
  subst hP
  cases s
  all_goals
    refine j6.of (eff := eff) Tryz.func256 (by conv => { lhs; cbv }) (by exact Nat.le_of_ble_eq_true rfl) fun w own av ν hν => ?_
    simp only [l6, rw2, kx]
    have hν0 : ν.length <= 2 := by rw [hν]; exact Nat.le_refl _
    (repeat first | refine uA ?_ | (refine uK ?_ ?_; focus first | omega | (intros; simp_all <;> omega)) | simp (disch := omega) only [go_sem, Nat.reduceBEq, Nat.reduceAdd, ww])
  · refine S.loop (X := Nat) (fun m => ⟨[(0, .wv 1 1 lo m)], [.row 189 1 (ls o), .row 189 1 (ls u)]⟩) (fun m => m <= n /\ Nm.G7 ((u.drop lo).take m) = Nm.G7 ((u.drop lo).take n)) (fun m => m) n ⟨Nat.le_refl _, rfl⟩ (Ent.mk _ _ (by (repeat first | refine uA ?_ | (refine ⟨?_, ?_⟩; focus first | rfl | simp [slot]) | rfl | simp)) (by (repeat first | refine uA ?_ | (refine ⟨?_, ?_⟩; focus first | rfl | simp [slot]) | rfl | simp)) hν0) ?_
    rintro m ⟨hm, ht⟩
    have hq : lo + ((m : Int) - 1).toNat < u.length := by omega
    have hg : u[lo + ((m : Int) - 1).toNat]? = some (u[lo + ((m : Int) - 1).toNat]'hq) := List.getElem?_eq_getElem hq
    have hsn : 0 < m -> (u.drop lo).take m = (u.drop lo).take (m - 1) ++ [u[lo + ((m : Int) - 1).toNat]'hq] := fun h => by
      have e1 : (u.drop lo)[m - 1]? = some (u[lo + ((m : Int) - 1).toNat]'hq) := by
        rw [List.getElem?_drop, <- hg]; congr 1; omega
      conv => lhs; rw [show m = m - 1 + 1 by omega, List.take_add_one, e1]
      rfl
    generalize u[lo + ((m : Int) - 1).toNat]'hq = c at *
    (repeat first | refine uA ?_ | (refine uK ?_ ?_; focus first | omega | (intros; simp_all <;> omega)) | simp (disch := omega) only [go_sem, Nat.reduceBEq, Nat.reduceAdd, ww, u7, I6, hg, Option.map_some, lm])
    (refine uJ rfl (fun hc => ?_) fun hc => ?_)
    · obtain ⟨h0, h1⟩ := hc
      have hc0 : c = 0 := by omega
      have hm1 : ((m : Int) - 1) = ((m - 1 : Nat) : Int) := by omega
      rw [hsn (by omega), hc0, Nm.a6p] at ht
      have hm2 : ((m : Int) - 1).toNat = m - 1 := by omega
      (repeat first | refine uA ?_ | (refine uK ?_ ?_; focus first | omega | (intros; simp_all <;> omega)) | simp (disch := omega) only [go_sem, Nat.reduceBEq, Nat.reduceAdd, ww, u7, hm2, Nat.add_zero, Nat.sub_zero, Int.toNat_zero])
      refine S.next (x := m) (m - 1) ⟨by omega, ht⟩ (by omega) (Ent.mk _ _ (by (repeat first | refine uA ?_ | (refine ⟨?_, ?_⟩; focus first | rfl | simp [slot]) | rfl | simp)) (by (repeat first | refine uA ?_ | (refine ⟨?_, ?_⟩; focus first | rfl | simp [slot]) | rfl | simp)) hν0)
    · have hmt : (Nm.G7 ((u.drop lo).take n)).length = m := by
        rw [<- ht]
        rcases Nat.eq_zero_or_pos m with h0 | h0
        · subst h0; simp [Nm.a6N]
        · have hcn : c ≠ 0 := by omega
          rw [hsn h0, Nm.a3J hcn, List.length_append, List.length_take, List.length_drop, List.length_singleton]
          omega
      rw [hmt]
      (repeat first | refine uA ?_ | (refine uK ?_ ?_; focus first | omega | (intros; simp_all <;> omega)) | simp (disch := omega) only [go_sem, Nat.reduceBEq, Nat.reduceAdd, ww])
      exact S.done (d9.own rfl)
  · refine S.loop (X := Nat) (fun m => ⟨[(0, .wv 0 1 lo m)], [.row 189 1 (ls u), .row 189 1 (ls o)]⟩) (fun m => m <= n /\ Nm.G7 ((u.drop lo).take m) = Nm.G7 ((u.drop lo).take n)) (fun m => m) n ⟨Nat.le_refl _, rfl⟩ (Ent.mk _ _ (by (repeat first | refine uA ?_ | (refine ⟨?_, ?_⟩; focus first | rfl | simp [slot]) | rfl | simp)) (by (repeat first | refine uA ?_ | (refine ⟨?_, ?_⟩; focus first | rfl | simp [slot]) | rfl | simp)) hν0) ?_
    rintro m ⟨hm, ht⟩
    have hq : lo + ((m : Int) - 1).toNat < u.length := by omega
    have hg : u[lo + ((m : Int) - 1).toNat]? = some (u[lo + ((m : Int) - 1).toNat]'hq) := List.getElem?_eq_getElem hq
    have hsn : 0 < m -> (u.drop lo).take m = (u.drop lo).take (m - 1) ++ [u[lo + ((m : Int) - 1).toNat]'hq] := fun h => by
      have e1 : (u.drop lo)[m - 1]? = some (u[lo + ((m : Int) - 1).toNat]'hq) := by
        rw [List.getElem?_drop, <- hg]; congr 1; omega
      conv => lhs; rw [show m = m - 1 + 1 by omega, List.take_add_one, e1]
      rfl
    generalize u[lo + ((m : Int) - 1).toNat]'hq = c at *
    (repeat first | refine uA ?_ | (refine uK ?_ ?_; focus first | omega | (intros; simp_all <;> omega)) | simp (disch := omega) only [go_sem, Nat.reduceBEq, Nat.reduceAdd, ww, u7, I6, hg, Option.map_some, lm])
    (refine uJ rfl (fun hc => ?_) fun hc => ?_)
    · obtain ⟨h0, h1⟩ := hc
      have hc0 : c = 0 := by omega
      have hm1 : ((m : Int) - 1) = ((m - 1 : Nat) : Int) := by omega
      rw [hsn (by omega), hc0, Nm.a6p] at ht
      have hm2 : ((m : Int) - 1).toNat = m - 1 := by omega
      (repeat first | refine uA ?_ | (refine uK ?_ ?_; focus first | omega | (intros; simp_all <;> omega)) | simp (disch := omega) only [go_sem, Nat.reduceBEq, Nat.reduceAdd, ww, u7, hm2, Nat.add_zero, Nat.sub_zero, Int.toNat_zero])
      refine S.next (x := m) (m - 1) ⟨by omega, ht⟩ (by omega) (Ent.mk _ _ (by (repeat first | refine uA ?_ | (refine ⟨?_, ?_⟩; focus first | rfl | simp [slot]) | rfl | simp)) (by (repeat first | refine uA ?_ | (refine ⟨?_, ?_⟩; focus first | rfl | simp [slot]) | rfl | simp)) hν0)
    · have hmt : (Nm.G7 ((u.drop lo).take n)).length = m := by
        rw [<- ht]
        rcases Nat.eq_zero_or_pos m with h0 | h0
        · subst h0; simp [Nm.a6N]
        · have hcn : c ≠ 0 := by omega
          rw [hsn h0, Nm.a3J hcn, List.length_append, List.length_take, List.length_drop, List.length_singleton]
          omega
      rw [hmt]
      (repeat first | refine uA ?_ | (refine uK ?_ ?_; focus first | omega | (intros; simp_all <;> omega)) | simp (disch := omega) only [go_sem, Nat.reduceBEq, Nat.reduceAdd, ww])
      exact S.done (d9.own rfl)
theorem c0R {E : Ctx} (hP : E.P = Tryz.prog) (s : Bool) (u o : List Nat) (lo n lo2 n2 : Nat) (hl : u.length <= 274877906944) (hlo2 : o.length <= 274877906944) (hn : lo + n <= u.length) (hlo : lo < u.length) (hn2 : lo2 + n2 <= o.length) (hnn : n2 <= n)
    (hu : Nm.K8 u) (ho : Nm.K8 o) {X Y : Nat} (hX : X = Nm.wv 18446744073709551616 ((u.drop lo).take n)) (hY : Y = Nm.wv 18446744073709551616 ((o.drop lo2).take n2)) (hle : Y <= X) :
    j6 E (rw2 s u o) 242 [.wv (kx s) 1 lo n, .wv (kx !s) 1 lo2 n2] (.wv (kx s) 1 lo (Nm.G7 (Nm.dig 18446744073709551616 n (X - Y))).length) (rw2 s (put u lo (Nm.dig 18446744073709551616 n (X - Y))) o) [] := by
  obtain ⟨P, eff', N, w0, p9, av0, nu0, pk0⟩ := E
  simp only at hP
  subst hP
  have hul : ((u.drop lo).take n).length = n := by rw [List.length_take, List.length_drop]; omega
  have hol2 : ((o.drop lo2).take n2).length = n2 := by rw [List.length_take, List.length_drop]; omega
  have hua : Nm.K8 ((u.drop lo).take n) := (hu.drop lo).take _
  have hoa : Nm.K8 ((o.drop lo2).take n2) := (ho.drop lo2).take _
  have hps : put u lo ((u.drop lo).take n) = u := a4s hn
  have hgo2 : ∀ i, i < n2 -> o[lo2 + i]? = ((o.drop lo2).take n2)[i]? := fun i hi => by rw [List.getElem?_take_of_lt hi, List.getElem?_drop]
  generalize (u.drop lo).take n = x at *
  generalize (o.drop lo2).take n2 = y at *
  cases s
  all_goals
    refine j6.of (eff := eff) Tryz.func242 (by conv => { lhs; cbv }) (by exact Nat.le_of_ble_eq_true rfl) fun w own av ν hν => ?_
    simp only [l6, rw2, kx, Bool.not_true, Bool.not_false]
    have hν0 : ν.length <= 2 := by rw [hν]; exact Nat.le_refl _
    (repeat first | refine uA ?_ | (refine uK ?_ ?_; focus first | omega | (intros; simp_all <;> omega)) | simp (disch := omega) only [go_sem, Nat.reduceBEq, Nat.reduceAdd, ww])
  · refine S.loop (X := Nat × List Nat × Nat) (fun s => ⟨[(0, .wv 1 1 lo n), (1, .wv 0 1 lo2 n2), (5, .v (.int .u64 (s.2.2 : Int))), (8, .wv 1 1 lo n), (9, ints n), (10, ints s.1)], [.row 189 1 (ls o), .row 189 1 (ls (put u lo s.2.1))]⟩) (fun s => s.1 <= n /\ Nm.a2K x y s.1 s.2.1 s.2.2) (fun s => n - s.1) (0, x, 0) ⟨Nat.zero_le _, Nm.a6x y hua⟩ (by simp only [hps]; exact Ent.mk _ _ (by (repeat first | refine uA ?_ | (refine ⟨?_, ?_⟩; focus first | rfl | simp [slot]) | rfl | simp)) (by (repeat first | refine uA ?_ | (refine ⟨?_, ?_⟩; focus first | rfl | simp [slot]) | rfl | simp)) hν0) ?_
    rintro ⟨i, out, c⟩ ⟨hi, hinv⟩
    simp only [ints] at hi hinv ⊢
    have hol := hinv.1
    have hc1 := hinv.2.2.1
    have hpl : (put u lo out).length = u.length := Z4 (by omega)
    (repeat first | refine uA ?_ | (refine uK ?_ ?_; focus first | omega | (intros; simp_all <;> omega)) | simp (disch := omega) only [go_sem, Nat.reduceBEq, Nat.reduceAdd, ww])
    (refine uJ rfl (fun hc => ?_) fun hc => ?_)
    · have hi' : i < n := by omega
      have hix : i < x.length := by omega
      have hgx : x[i]? = some (x[i]'hix) := List.getElem?_eq_getElem hix
      have hgo : (put u lo out)[lo + i]? = some (x[i]'hix) := by rw [Q8 (by omega) (by omega), Nm.a0g hinv.2.2.2.1, hgx]
      have hx64 := hua _ (List.getElem_mem hix)
      have hk := fun t c' h1 h2 h3 => Nm.a6A (t := t) (c' := c') hinv hix h1 h2 h3
      generalize x[i]'hix = xi at *
      have hsub : ∀ d : Nat, d < 18446744073709551616 -> ∃ t c' : Nat, ((xi : Int) + 18446744073709551616 - (d : Int) - (c : Int)) % 18446744073709551616 = (t : Int) /\ (if (xi : Int) < (d : Int) + (c : Int) then (1 : Int) else 0) = (c' : Int) /\ t < 18446744073709551616 /\ c' <= 1 /\ t + c + d = xi + 18446744073709551616 * c' := fun d hd => by
        by_cases h : xi < d + c
        · exact ⟨xi + 18446744073709551616 - d - c, 1, by omega, by rw [if_pos (by omega)]; rfl, by omega, by omega, by omega⟩
        · exact ⟨xi - d - c, 0, by omega, by rw [if_neg (by omega)]; rfl, by omega, by omega, by omega⟩
      have hsl : ∀ t, (put u lo out).set (lo + i) t = put u lo (out.set i t) := fun t => Y8 (by omega) (by omega)
      (repeat first | refine uA ?_ | (refine uK ?_ ?_; focus first | omega | (intros; simp_all <;> omega)) | simp (disch := omega) only [go_sem, Nat.reduceBEq, Nat.reduceAdd, ww, u7])
      (refine uJ rfl (fun hc => ?_) fun hc => ?_)
      · have hiy : i < y.length := by omega
        have hgy : y[i]? = some (y[i]'hiy) := List.getElem?_eq_getElem hiy
        have hgy2 := (hgo2 i (by omega)).trans hgy
        have hy64 := hoa _ (List.getElem_mem hiy)
        rw [Nm.getD_lt hiy] at hk
        generalize y[i]'hiy = yi at *
        obtain ⟨t, c', e1, e2, h1, h2, h3⟩ := hsub yi hy64
        have hk := hk t c' h1 h2 h3
        (repeat first | refine uA ?_ | (refine uK ?_ ?_; focus first | omega | (intros; simp_all <;> omega)) | simp (disch := omega) only [go_sem, Nat.reduceBEq, Nat.reduceAdd, ww, u7, I6, hgo, hgy2, hpl, Option.map_some, lm, e1, e2, V7, hsl])
        refine S.next (x := (i, out, c)) (i + 1, _, _) ⟨hi', hk⟩ (by simp only; omega) (Ent.mk _ _ (by (repeat first | refine uA ?_ | (refine ⟨?_, ?_⟩; focus first | rfl | simp [slot]) | rfl | simp)) (by (repeat first | refine uA ?_ | (refine ⟨?_, ?_⟩; focus first | rfl | simp [slot]) | rfl | simp)) hν0)
      · have hy0 : y.getD i 0 = 0 := by rw [List.getD_eq_getElem?_getD, List.getElem?_eq_none (by omega)]; rfl
        rw [hy0] at hk
        obtain ⟨t, c', e1, e2, h1, h2, h3⟩   := hsub 0 (by decide)
        rw [show ((0 : Nat) : Int) = 0 from rfl] at e1 e2
        have hk := hk t c' h1 h2 h3
        (repeat first | refine uA ?_ | (refine uK ?_ ?_; focus first | omega | (intros; simp_all <;> omega)) | simp (disch := omega) only [go_sem, Nat.reduceBEq, Nat.reduceAdd, ww, u7, I6, hgo, hpl, Option.map_some, lm, e1, e2, V7, hsl])
        refine S.next (x := (i, out, c)) (i + 1, _, _) ⟨hi', hk⟩ (by simp only; omega) (Ent.mk _ _ (by (repeat first | refine uA ?_ | (refine ⟨?_, ?_⟩; focus first | rfl | simp [slot]) | rfl | simp)) (by (repeat first | refine uA ?_ | (refine ⟨?_, ?_⟩; focus first | rfl | simp [slot]) | rfl | simp)) hν0)
    · have hi' : i = n := by omega
      subst hi'
      rw [<- hul] at hinv
      obtain ⟨he1, he2⟩ := Nm.a7b hinv (by omega) (by omega)
      have hd : out = Nm.dig 18446744073709551616 i (X - Y) := Nm.U7 (by decide) hinv.2.1 (by omega) (by omega)
      rw [<- hd]
      have hcut := fun (E : Ctx) (hP : E.P = Tryz.prog) => a7E (E := E) hP (match 1 with | 0 => true | _ => false) (put u lo out) o lo i (by omega) (by omega) (by omega)
      rw [a1U (by omega) (by omega)] at hcut
      (repeat first | refine uA ?_ | (refine uK ?_ ?_; focus first | omega | (intros; simp_all <;> omega)) | simp (disch := omega) only [go_sem, Nat.reduceBEq, Nat.reduceAdd, ww] | refine l9.t (hcut _ rfl) ?_)
      exact S.done (d9.own rfl)
  · refine S.loop (X := Nat × List Nat × Nat) (fun s => ⟨[(0, .wv 0 1 lo n), (1, .wv 1 1 lo2 n2), (5, .v (.int .u64 (s.2.2 : Int))), (8, .wv 0 1 lo n), (9, ints n), (10, ints s.1)], [.row 189 1 (ls (put u lo s.2.1)), .row 189 1 (ls o)]⟩) (fun s => s.1 <= n /\ Nm.a2K x y s.1 s.2.1 s.2.2) (fun s => n - s.1) (0, x, 0) ⟨Nat.zero_le _, Nm.a6x y hua⟩ (by simp only [hps]; exact Ent.mk _ _ (by (repeat first | refine uA ?_ | (refine ⟨?_, ?_⟩; focus first | rfl | simp [slot]) | rfl | simp)) (by (repeat first | refine uA ?_ | (refine ⟨?_, ?_⟩; focus first | rfl | simp [slot]) | rfl | simp)) hν0) ?_
    rintro ⟨i, out, c⟩ ⟨hi, hinv⟩
    simp only [ints] at hi hinv ⊢
    have hol := hinv.1
    have hc1 := hinv.2.2.1
    have hpl : (put u lo out).length = u.length := Z4 (by omega)
    (repeat first | refine uA ?_ | (refine uK ?_ ?_; focus first | omega | (intros; simp_all <;> omega)) | simp (disch := omega) only [go_sem, Nat.reduceBEq, Nat.reduceAdd, ww])
    (refine uJ rfl (fun hc => ?_) fun hc => ?_)
    · have hi' : i < n := by omega
      have hix : i < x.length := by omega
      have hgx : x[i]? = some (x[i]'hix) := List.getElem?_eq_getElem hix
      have hgo : (put u lo out)[lo + i]? = some (x[i]'hix) := by rw [Q8 (by omega) (by omega), Nm.a0g hinv.2.2.2.1, hgx]
      have hx64 := hua _ (List.getElem_mem hix)
      have hk := fun t c' h1 h2 h3 => Nm.a6A (t := t) (c' := c') hinv hix h1 h2 h3
      generalize x[i]'hix = xi at *
      have hsub : ∀ d : Nat, d < 18446744073709551616 -> ∃ t c' : Nat, ((xi : Int) + 18446744073709551616 - (d : Int) - (c : Int)) % 18446744073709551616 = (t : Int) /\ (if (xi : Int) < (d : Int) + (c : Int) then (1 : Int) else 0) = (c' : Int) /\ t < 18446744073709551616 /\ c' <= 1 /\ t + c + d = xi + 18446744073709551616 * c' := fun d hd => by
        by_cases h : xi < d + c
        · exact ⟨xi + 18446744073709551616 - d - c, 1, by omega, by rw [if_pos (by omega)]; rfl, by omega, by omega, by omega⟩
        · exact ⟨xi - d - c, 0, by omega, by rw [if_neg (by omega)]; rfl, by omega, by omega, by omega⟩
      have hsl : ∀ t, (put u lo out).set (lo + i) t = put u lo (out.set i t) := fun t => Y8 (by omega) (by omega)
      (repeat first | refine uA ?_ | (refine uK ?_ ?_; focus first | omega | (intros; simp_all <;> omega)) | simp (disch := omega) only [go_sem, Nat.reduceBEq, Nat.reduceAdd, ww, u7])
      (refine uJ rfl (fun hc => ?_) fun hc => ?_)
      · have hiy : i < y.length := by omega
        have hgy : y[i]? = some (y[i]'hiy) := List.getElem?_eq_getElem hiy
        have hgy2 := (hgo2 i (by omega)).trans hgy
        have hy64 := hoa _ (List.getElem_mem hiy)
        rw [Nm.getD_lt hiy] at hk
        generalize y[i]'hiy = yi at *
        obtain ⟨t, c', e1, e2, h1, h2, h3⟩ := hsub yi hy64
        have hk := hk t c' h1 h2 h3
        (repeat first | refine uA ?_ | (refine uK ?_ ?_; focus first | omega | (intros; simp_all <;> omega)) | simp (disch := omega) only [go_sem, Nat.reduceBEq, Nat.reduceAdd, ww, u7, I6, hgo, hgy2, hpl, Option.map_some, lm, e1, e2, V7, hsl])
        refine S.next (x := (i, out, c)) (i + 1, _, _) ⟨hi', hk⟩ (by simp only; omega) (Ent.mk _ _ (by (repeat first | refine uA ?_ | (refine ⟨?_, ?_⟩; focus first | rfl | simp [slot]) | rfl | simp)) (by (repeat first | refine uA ?_ | (refine ⟨?_, ?_⟩; focus first | rfl | simp [slot]) | rfl | simp)) hν0)
      · have hy0 : y.getD i 0 = 0 := by rw [List.getD_eq_getElem?_getD, List.getElem?_eq_none (by omega)]; rfl
        rw [hy0] at hk
        obtain ⟨t, c', e1, e2, h1, h2, h3⟩   := hsub 0 (by decide)
        rw [show ((0 : Nat) : Int) = 0 from rfl] at e1 e2
        have hk := hk t c' h1 h2 h3
        (repeat first | refine uA ?_ | (refine uK ?_ ?_; focus first | omega | (intros; simp_all <;> omega)) | simp (disch := omega) only [go_sem, Nat.reduceBEq, Nat.reduceAdd, ww, u7, I6, hgo, hpl, Option.map_some, lm, e1, e2, V7, hsl])
        refine S.next (x := (i, out, c)) (i + 1, _, _) ⟨hi', hk⟩ (by simp only; omega) (Ent.mk _ _ (by (repeat first | refine uA ?_ | (refine ⟨?_, ?_⟩; focus first | rfl | simp [slot]) | rfl | simp)) (by (repeat first | refine uA ?_ | (refine ⟨?_, ?_⟩; focus first | rfl | simp [slot]) | rfl | simp)) hν0)
    · have hi' : i = n := by omega
      subst hi'
      rw [<- hul] at hinv
      obtain ⟨he1, he2⟩ := Nm.a7b hinv (by omega) (by omega)
      have hd : out = Nm.dig 18446744073709551616 i (X - Y) := Nm.U7 (by decide) hinv.2.1 (by omega) (by omega)
      rw [<- hd]
      have hcut := fun (E : Ctx) (hP : E.P = Tryz.prog) => a7E (E := E) hP (match 0 with | 0 => true | _ => false) (put u lo out) o lo i (by omega) (by omega) (by omega)
      rw [a1U (by omega) (by omega)] at hcut
      (repeat first | refine uA ?_ | (refine uK ?_ ?_; focus first | omega | (intros; simp_all <;> omega)) | simp (disch := omega) only [go_sem, Nat.reduceBEq, Nat.reduceAdd, ww] | refine l9.t (hcut _ rfl) ?_)
      exact S.done (d9.own rfl)
theorem c1H (i : Nat) (h : i <= 70368744177664) : IntKind.i64.wrap ((i : Int).tdiv 64) = ((i / 64 : Nat) : Int) := by
  have : (i : Int).tdiv 64 = ((i / 64 : Nat) : Int) := rfl
  rw [this, Eng.wrap_i64 (by omega)]
theorem c0A (i : Nat) : (i : Int).tmod 64 = ((i % 64 : Nat) : Int) := rfl
theorem b1Z (o n : Nat) (ho : o < 18446744073709551616) : bits .or .u64 (o : Int) (((n % 18446744073709551616 : Nat)) : Int) = ((o ||| n % 18446744073709551616 : Nat) : Int) := a9M _ _ ho (Nat.mod_lt _ (by decide))
theorem b0O (x r : Nat) (hr : r <= 64) : IntKind.u64.wrap ((x : Int) * 2 ^ min r 64) = ((x * 2 ^ r % 18446744073709551616 : Nat) : Int) := by
  rw [show min r 64 = r by omega, <- a4r]; congr 1
theorem a7L {E : Ctx} (hP : E.P = Tryz.prog) (s : Bool) (u o : List Nat) (lo n by' z : Nat) (hl : u.length <= 274877906944) (hn : lo + n <= u.length) (hb : by' <= 70368744177664)
    (hu : Nm.K8 u) (hz : z ≠ 0) (hX : Nm.wv 18446744073709551616 ((u.drop lo).take n) = z * 2 ^ by') :
    by' / 64 < n /\ z < 18446744073709551616 ^ (n - by' / 64) /\ j6 E (rw2 s u o) 240 [.wv (kx s) 1 lo n, ints by'] (.wv (kx s) 1 (lo + by' / 64) (Nm.G7 (Nm.dig 18446744073709551616 (n - by' / 64) z)).length) (rw2 s (put u (lo + by' / 64) (Nm.dig 18446744073709551616 (n - by' / 64) z)) o) [] := by
  have hul : ((u.drop lo).take n).length = n := by rw [List.length_take, List.length_drop]; omega
  have hua : Nm.K8 ((u.drop lo).take n) := (hu.drop lo).take _
  have e2 : 2 ^ by' = 18446744073709551616 ^ (by' / 64) * 2 ^ (by' % 64) := by
    rw [show (18446744073709551616 : Nat) = 2 ^ 64 by decide, <- Nat.pow_mul, <- Nat.pow_add]; congr 1; omega
  have hjn : by' / 64 < n := by
    rcases Nat.lt_or_ge (by' / 64) n with h | h
    · exact h
    · exfalso
      have h1 := Nm.K7 18446744073709551616 hua
      have h2 : 18446744073709551616 ^ n <= 18446744073709551616 ^ (by' / 64) := Nat.pow_le_pow_right (by decide) h
      have h3 : 18446744073709551616 ^ (by' / 64) <= 2 ^ by' := by rw [e2]; exact Nat.le_mul_of_pos_right _ (Nat.pow_pos (by decide))
      have h4 : 2 ^ by' <= z * 2 ^ by' := Nat.le_mul_of_pos_left _ (by omega)
      rw [hul] at h1
      omega
  have hdr : ((u.drop lo).take n).drop (by' / 64) = (u.drop (lo + by' / 64)).take (n - by' / 64) := by
    rw [List.drop_take, List.drop_drop]
  have hW1 : Nm.wv 18446744073709551616 ((u.drop (lo + by' / 64)).take (n - by' / 64)) = z * 2 ^ (by' % 64) := by
    rw [<- hdr, Nm.b4R hua (by omega), hX, e2, <- Nat.mul_assoc, Nat.mul_comm z, Nat.mul_assoc, Nat.mul_comm (18446744073709551616 ^ _) (z * _), Nat.mul_div_cancel _ (Nat.pow_pos (by decide))]
  have hb64 : by' % 64 < 64 := Nat.mod_lt _ (by decide)
  have hjb : by' / 64 <= 1099511627776 := by omega
  clear hdr hX e2
  have hq1 := c1H by' hb
  have hq2 := c0A by'
  generalize by' / 64 = j at *
  generalize by' % 64 = b at *
  generalize hp : n - j = p at *
  generalize hl1 : lo + j = l1 at *
  have hlp : l1 + p <= u.length := by omega
  have hp0 : 0 < p := by omega
  have hpn : n - j = p := hp
  have hua1 : Nm.K8 ((u.drop l1).take p) := (hu.drop l1).take _
  have hps : put u l1 ((u.drop l1).take p) = u := a4s hlp
  have hrl : ((u.drop l1).take p).length = p := by rw [List.length_take, List.length_drop]; omega
  generalize (u.drop l1).take p = r0 at *
  have hzl : z < 18446744073709551616 ^ p := by
    have h1 := Nm.K7 18446744073709551616 hua1
    rw [hrl, hW1] at h1
    exact Nat.lt_of_le_of_lt (Nat.le_mul_of_pos_right _ (Nat.pow_pos (by decide))) h1
  refine ⟨hjn, hzl, ?_⟩
  clear hul hua
  obtain ⟨P, eff', N, w0, p9, av0, nu0, pk0⟩ := E
  simp only at hP
  subst hP
  cases s
  all_goals
    refine j6.of (eff := eff) Tryz.func240 (by conv => { lhs; cbv }) (by exact Nat.le_of_ble_eq_true rfl) fun w own av ν hν => ?_
    simp only [l6, rw2, kx, ints]
    have hν0 : ν.length <= 2 := by rw [hν]; exact Nat.le_refl _
    (repeat first | refine uA ?_ | (apply S.exit; exact rfl) | (refine uK ?_ ?_; focus first | omega | trivial | exact id | (intro h; rw [h]; rfl) | (intro h h2; rw [h, h2]; rfl) | (intro h; (try simp at h); omega) | (intros; simp_all <;> omega)) | simp only [go_sem, Nat.reduceBEq, Nat.reduceAdd, Nat.reduceLeDiff, Int.reduceToNat, Int.reducePow, hq1, hq2, u7, hl1, hpn] | simp (disch := omega) only [ww, hq1, hq2, u7, hl1, hpn])
    (refine uJ rfl (fun hc => ?_) fun hc => ?_)
  · (repeat first | refine uA ?_ | (apply S.exit; exact rfl) | (refine uK ?_ ?_; focus first | omega | trivial | exact id | (intro h; rw [h]; rfl) | (intro h h2; rw [h, h2]; rfl) | (intro h; (try simp at h); omega) | (intros; simp_all <;> omega)) | simp only [go_sem, Nat.reduceBEq, Nat.reduceAdd, Nat.reduceLeDiff, Int.reduceToNat, Int.reducePow] | simp (disch := omega) only [ww])
    refine S.loop (X := Nat × List Nat) (fun s => ⟨[(0, .wv 1 1 l1 p), (1, ints b), (15, ints p), (16, ints s.1)], [.row 189 1 (ls o), .row 189 1 (ls (put u l1 s.2))]⟩) (fun s => s.1 <= p /\ Nm.a1m r0 (2 ^ b) s.1 s.2) (fun s => p - s.1) (0, r0) ⟨Nat.zero_le _, Nm.a4J hua1⟩ (by simp only [hps]; exact Ent.mk _ _ (by (repeat first | refine uA ?_ | (refine ⟨?_, ?_⟩; focus first | rfl | trivial | (simp [slot]; done)) | rfl | trivial | simp)) (by (repeat first | refine uA ?_ | (refine ⟨?_, ?_⟩; focus first | rfl | trivial | (simp [slot]; done)) | rfl | trivial | simp)) hν0) ?_
    rintro ⟨i, out⟩ ⟨hi, hri⟩
    simp only [ints] at hi hri ⊢
    have hol := hri.1
    have hpl : (put u l1 out).length = u.length := Z4 (by omega)
    (repeat first | refine uA ?_ | (apply S.exit; exact rfl) | (refine uK ?_ ?_; focus first | omega | trivial | exact id | (intro h; rw [h]; rfl) | (intro h h2; rw [h, h2]; rfl) | (intro h; (try simp at h); omega) | (intros; simp_all <;> omega)) | simp only [go_sem, Nat.reduceBEq, Nat.reduceAdd, Nat.reduceLeDiff, Int.reduceToNat, Int.reducePow] | simp (disch := omega) only [ww])
    (refine uJ rfl (fun hc => ?_) fun hc => ?_)
    · have hi' : i < p := by omega
      have hir : i < r0.length := by omega
      have hgr : r0[i]? = some (r0[i]'hir) := List.getElem?_eq_getElem hir
      have hgo : (put u l1 out)[l1 + i]? = some (r0[i]'hir) := by
        rw [Q8 (by omega) (by omega), Nm.a0g hri.2.2.1, hgr]
      have hr32' := hua1 _ (List.getElem_mem hir)
      have hk := fun t ht => Nm.a5a (t := t) hri hb64 hir hua1 ht
      have hset : ∀ a, (put u l1 out).set (l1 + i) a = put u l1 (out.set i a) := fun a => Y8 (by omega) (by omega)
      generalize r0[i]'hir = ri at *
      have hsh : Int.fdiv (ri : Int) (2 ^ min b 64) = ((ri / 2 ^ b : Nat) : Int) := by
        rw [show min b 64 = b by omega, <- a1L]; congr 1
      have hrb : ri / 2 ^ b < 18446744073709551616 := Nat.lt_of_le_of_lt (Nat.div_le_self _ _) hr32'
      generalize ri / 2 ^ b = rs at *
      (repeat first | refine uA ?_ | (apply S.exit; exact rfl) | (refine uK ?_ ?_; focus first | omega | trivial | exact id | (intro h; rw [h]; rfl) | (intro h h2; rw [h, h2]; rfl) | (intro h; (try simp at h); omega) | (intros; simp_all <;> omega)) | simp only [go_sem, Nat.reduceBEq, Nat.reduceAdd, Nat.reduceLeDiff, Int.reduceToNat, Int.reducePow, u7, I6, hgo, hpl, Option.map_some, lm, V7, hsh, hset] | simp (disch := omega) only [ww, u7, I6, hgo, hpl, Option.map_some, lm, V7, hsh, hset])
      (refine uJ rfl (fun hc => ?_) fun hc => ?_)
      · have hi1 : i + 1 < r0.length := by omega
        have hpl1 : (put u l1 (out.set i rs)).length = u.length := Z4 (by rw [List.length_set]; omega)
        have hg1 : (put u l1 (out.set i rs))[l1 + i]? = some rs := by
          rw [<- hset, List.getElem?_set_self (by omega)]
        have hg3 : r0[i + 1]? = some (r0[i + 1]'hi1) := List.getElem?_eq_getElem hi1
        have hg2 : (put u l1 (out.set i rs))[l1 + (i + 1)]? = some (r0[i + 1]'hi1) := by
          have := Q8 (us := u) (out := out) (k := l1) (i := i + 1) (by omega) (by omega)
          rw [<- hset, List.getElem?_set_ne (by omega), this]
          have h3 := congrArg (fun l => l[1]?) hri.2.2.1
          simp only [List.getElem?_drop] at h3
          rw [h3, hg3]
        have hn32 := hua1 _ (List.getElem_mem hi1)
        have hgd : r0.getD (i + 1) 0 = r0[i + 1]'hi1 := Nm.getD_lt hi1
        rw [hgd] at hk
        generalize r0[i + 1]'hi1 = rn at *
        have hshl := b0O rn (64 - b) (by omega)
        have hrr : ((64 : Int) - (b : Int)).toNat = 64 - b := by omega
        have horl := b1Z rs (rn * 2 ^ (64 - b)) hrb
        have hk := hk _ rfl
        rw [if_pos (by omega)] at hk
        generalize rn * 2 ^ (64 - b) = sh at *
        generalize hto : rs ||| sh % 18446744073709551616 = to at *
        have hset2 : (put u l1 (out.set i rs)).set (l1 + i) to = put u l1 (out.set i to) := by
          have := Y8 (us := u) (out := out.set i rs) (k := l1) (i := i) (v := to) (by rw [List.length_set]; omega) (by rw [List.length_set]; omega)
          rwa [List.set_set] at this
        have hi1n : ((i : Int) + 1).toNat = i + 1 := by omega
        (repeat first | refine uA ?_ | (apply S.exit; exact rfl) | (refine uK ?_ ?_; focus first | omega | trivial | exact id | (intro h; rw [h]; rfl) | (intro h h2; rw [h, h2]; rfl) | (intro h; (try simp at h); omega) | (intros; simp_all <;> omega)) | simp only [go_sem, Nat.reduceBEq, Nat.reduceAdd, Nat.reduceLeDiff, Int.reduceToNat, Int.reducePow, u7, I6, hg1, hg2, hpl1, Option.map_some, lm, hrr, hi1n, hshl, horl, V7, hset2] | simp (disch := omega) only [ww, u7, I6, hg1, hg2, hpl1, Option.map_some, lm, hrr, hi1n, hshl, horl, V7, hset2])
        refine S.next (x := (i, out)) (i + 1, _) ⟨hi', hk.1⟩ (by simp only; omega) (Ent.mk _ _ (by (repeat first | refine uA ?_ | (refine ⟨?_, ?_⟩; focus first | rfl | trivial | (simp [slot]; done)) | rfl | trivial | simp)) (by (repeat first | refine uA ?_ | (refine ⟨?_, ?_⟩; focus first | rfl | trivial | (simp [slot]; done)) | rfl | trivial | simp)) hν0)
      · have hk := hk _ rfl
        rw [if_neg (by omega)] at hk
        (repeat first | refine uA ?_ | (apply S.exit; exact rfl) | (refine uK ?_ ?_; focus first | omega | trivial | exact id | (intro h; rw [h]; rfl) | (intro h h2; rw [h, h2]; rfl) | (intro h; (try simp at h); omega) | (intros; simp_all <;> omega)) | simp only [go_sem, Nat.reduceBEq, Nat.reduceAdd, Nat.reduceLeDiff, Int.reduceToNat, Int.reducePow] | simp (disch := omega) only [ww])
        refine S.next (x := (i, out)) (i + 1, _) ⟨hi', hk.1⟩ (by simp only; omega) (Ent.mk _ _ (by (repeat first | refine uA ?_ | (refine ⟨?_, ?_⟩; focus first | rfl | trivial | (simp [slot]; done)) | rfl | trivial | simp)) (by (repeat first | refine uA ?_ | (refine ⟨?_, ?_⟩; focus first | rfl | trivial | (simp [slot]; done)) | rfl | trivial | simp)) hν0)
    · have hi' : i = p := by omega
      subst hi'
      rw [<- hrl] at hri
      have he := Nm.a5r hri (by omega) hW1
      have hd : out = Nm.dig 18446744073709551616 i z := Nm.U7 (by decide) hri.2.1 (by omega) he
      rw [<- hd]
      have hcut := fun (E : Ctx) (hP : E.P = Tryz.prog) => a7E (E := E) hP (match 1 with | 0 => true | _ => false) (put u l1 out) o l1 i (by omega) (by omega) (by omega)
      rw [a1U (by omega) (by omega)] at hcut
      (repeat first | refine uA ?_ | (apply S.exit; exact rfl) | (refine uK ?_ ?_; focus first | omega | trivial | exact id | (intro h; rw [h]; rfl) | (intro h h2; rw [h, h2]; rfl) | (intro h; (try simp at h); omega) | (intros; simp_all <;> omega)) | simp only [go_sem, Nat.reduceBEq, Nat.reduceAdd, Nat.reduceLeDiff, Int.reduceToNat, Int.reducePow] | simp (disch := omega) only [ww] | refine l9.t (hcut _ rfl) ?_)
      exact S.done (d9.own rfl)
  · have hb0 : b = 0 := by omega
    subst hb0
    rw [Nat.pow_zero, Nat.mul_one] at hW1
    have hd : r0 = Nm.dig 18446744073709551616 p z := Nm.U7 (by decide) hua1 hrl hW1
    have hcut := fun (E : Ctx) (hP : E.P = Tryz.prog) => a7E (E := E) hP (match 1 with | 0 => true | _ => false) u o l1 p (by omega) (by omega) (by omega)
    have hw : (u.drop l1).take p = r0 := by rw [<- hps]; exact a1U hrl.symm (by omega)
    rw [hw] at hcut
    rw [<- hd, hps]
    (repeat first | refine uA ?_ | (apply S.exit; exact rfl) | (refine uK ?_ ?_; focus first | omega | trivial | exact id | (intro h; rw [h]; rfl) | (intro h h2; rw [h, h2]; rfl) | (intro h; (try simp at h); omega) | (intros; simp_all <;> omega)) | simp only [go_sem, Nat.reduceBEq, Nat.reduceAdd, Nat.reduceLeDiff, Int.reduceToNat, Int.reducePow] | simp (disch := omega) only [ww] | refine l9.t (hcut _ rfl) ?_)
    exact S.done (d9.own rfl)
  · (repeat first | refine uA ?_ | (apply S.exit; exact rfl) | (refine uK ?_ ?_; focus first | omega | trivial | exact id | (intro h; rw [h]; rfl) | (intro h h2; rw [h, h2]; rfl) | (intro h; (try simp at h); omega) | (intros; simp_all <;> omega)) | simp only [go_sem, Nat.reduceBEq, Nat.reduceAdd, Nat.reduceLeDiff, Int.reduceToNat, Int.reducePow] | simp (disch := omega) only [ww])
    refine S.loop (X := Nat × List Nat) (fun s => ⟨[(0, .wv 0 1 l1 p), (1, ints b), (15, ints p), (16, ints s.1)], [.row 189 1 (ls (put u l1 s.2)), .row 189 1 (ls o)]⟩) (fun s => s.1 <= p /\ Nm.a1m r0 (2 ^ b) s.1 s.2) (fun s => p - s.1) (0, r0) ⟨Nat.zero_le _, Nm.a4J hua1⟩ (by simp only [hps]; exact Ent.mk _ _ (by (repeat first | refine uA ?_ | (refine ⟨?_, ?_⟩; focus first | rfl | trivial | (simp [slot]; done)) | rfl | trivial | simp)) (by (repeat first | refine uA ?_ | (refine ⟨?_, ?_⟩; focus first | rfl | trivial | (simp [slot]; done)) | rfl | trivial | simp)) hν0) ?_
    rintro ⟨i, out⟩ ⟨hi, hri⟩
    simp only [ints] at hi hri ⊢
    have hol := hri.1
    have hpl : (put u l1 out).length = u.length := Z4 (by omega)
    (repeat first | refine uA ?_ | (apply S.exit; exact rfl) | (refine uK ?_ ?_; focus first | omega | trivial | exact id | (intro h; rw [h]; rfl) | (intro h h2; rw [h, h2]; rfl) | (intro h; (try simp at h); omega) | (intros; simp_all <;> omega)) | simp only [go_sem, Nat.reduceBEq, Nat.reduceAdd, Nat.reduceLeDiff, Int.reduceToNat, Int.reducePow] | simp (disch := omega) only [ww])
    (refine uJ rfl (fun hc => ?_) fun hc => ?_)
    · have hi' : i < p := by omega
      have hir : i < r0.length := by omega
      have hgr : r0[i]? = some (r0[i]'hir) := List.getElem?_eq_getElem hir
      have hgo : (put u l1 out)[l1 + i]? = some (r0[i]'hir) := by
        rw [Q8 (by omega) (by omega), Nm.a0g hri.2.2.1, hgr]
      have hr32' := hua1 _ (List.getElem_mem hir)
      have hk := fun t ht => Nm.a5a (t := t) hri hb64 hir hua1 ht
      have hset : ∀ a, (put u l1 out).set (l1 + i) a = put u l1 (out.set i a) := fun a => Y8 (by omega) (by omega)
      generalize r0[i]'hir = ri at *
      have hsh : Int.fdiv (ri : Int) (2 ^ min b 64) = ((ri / 2 ^ b : Nat) : Int) := by
        rw [show min b 64 = b by omega, <- a1L]; congr 1
      have hrb : ri / 2 ^ b < 18446744073709551616 := Nat.lt_of_le_of_lt (Nat.div_le_self _ _) hr32'
      generalize ri / 2 ^ b = rs at *
      (repeat first | refine uA ?_ | (apply S.exit; exact rfl) | (refine uK ?_ ?_; focus first | omega | trivial | exact id | (intro h; rw [h]; rfl) | (intro h h2; rw [h, h2]; rfl) | (intro h; (try simp at h); omega) | (intros; simp_all <;> omega)) | simp only [go_sem, Nat.reduceBEq, Nat.reduceAdd, Nat.reduceLeDiff, Int.reduceToNat, Int.reducePow, u7, I6, hgo, hpl, Option.map_some, lm, V7, hsh, hset] | simp (disch := omega) only [ww, u7, I6, hgo, hpl, Option.map_some, lm, V7, hsh, hset])
      (refine uJ rfl (fun hc => ?_) fun hc => ?_)
      · have hi1 : i + 1 < r0.length := by omega
        have hpl1 : (put u l1 (out.set i rs)).length = u.length := Z4 (by rw [List.length_set]; omega)
        have hg1 : (put u l1 (out.set i rs))[l1 + i]? = some rs := by
          rw [<- hset, List.getElem?_set_self (by omega)]
        have hg3 : r0[i + 1]? = some (r0[i + 1]'hi1) := List.getElem?_eq_getElem hi1
        have hg2 : (put u l1 (out.set i rs))[l1 + (i + 1)]? = some (r0[i + 1]'hi1) := by
          have := Q8 (us := u) (out := out) (k := l1) (i := i + 1) (by omega) (by omega)
          rw [<- hset, List.getElem?_set_ne (by omega), this]
          have h3 := congrArg (fun l => l[1]?) hri.2.2.1
          simp only [List.getElem?_drop] at h3
          rw [h3, hg3]
        have hn32 := hua1 _ (List.getElem_mem hi1)
        have hgd : r0.getD (i + 1) 0 = r0[i + 1]'hi1 := Nm.getD_lt hi1
        rw [hgd] at hk
        generalize r0[i + 1]'hi1 = rn at *
        have hshl := b0O rn (64 - b) (by omega)
        have hrr : ((64 : Int) - (b : Int)).toNat = 64 - b := by omega
        have horl := b1Z rs (rn * 2 ^ (64 - b)) hrb
        have hk := hk _ rfl
        rw [if_pos (by omega)] at hk
        generalize rn * 2 ^ (64 - b) = sh at *
        generalize hto : rs ||| sh % 18446744073709551616 = to at *
        have hset2 : (put u l1 (out.set i rs)).set (l1 + i) to = put u l1 (out.set i to) := by
          have := Y8 (us := u) (out := out.set i rs) (k := l1) (i := i) (v := to) (by rw [List.length_set]; omega) (by rw [List.length_set]; omega)
          rwa [List.set_set] at this
        have hi1n : ((i : Int) + 1).toNat = i + 1 := by omega
        (repeat first | refine uA ?_ | (apply S.exit; exact rfl) | (refine uK ?_ ?_; focus first | omega | trivial | exact id | (intro h; rw [h]; rfl) | (intro h h2; rw [h, h2]; rfl) | (intro h; (try simp at h); omega) | (intros; simp_all <;> omega)) | simp only [go_sem, Nat.reduceBEq, Nat.reduceAdd, Nat.reduceLeDiff, Int.reduceToNat, Int.reducePow, u7, I6, hg1, hg2, hpl1, Option.map_some, lm, hrr, hi1n, hshl, horl, V7, hset2] | simp (disch := omega) only [ww, u7, I6, hg1, hg2, hpl1, Option.map_some, lm, hrr, hi1n, hshl, horl, V7, hset2])
        refine S.next (x := (i, out)) (i + 1, _) ⟨hi', hk.1⟩ (by simp only; omega) (Ent.mk _ _ (by (repeat first | refine uA ?_ | (refine ⟨?_, ?_⟩; focus first | rfl | trivial | (simp [slot]; done)) | rfl | trivial | simp)) (by (repeat first | refine uA ?_ | (refine ⟨?_, ?_⟩; focus first | rfl | trivial | (simp [slot]; done)) | rfl | trivial | simp)) hν0)
      · have hk := hk _ rfl
        rw [if_neg (by omega)] at hk
        (repeat first | refine uA ?_ | (apply S.exit; exact rfl) | (refine uK ?_ ?_; focus first | omega | trivial | exact id | (intro h; rw [h]; rfl) | (intro h h2; rw [h, h2]; rfl) | (intro h; (try simp at h); omega) | (intros; simp_all <;> omega)) | simp only [go_sem, Nat.reduceBEq, Nat.reduceAdd, Nat.reduceLeDiff, Int.reduceToNat, Int.reducePow] | simp (disch := omega) only [ww])
        refine S.next (x := (i, out)) (i + 1, _) ⟨hi', hk.1⟩ (by simp only; omega) (Ent.mk _ _ (by (repeat first | refine uA ?_ | (refine ⟨?_, ?_⟩; focus first | rfl | trivial | (simp [slot]; done)) | rfl | trivial | simp)) (by (repeat first | refine uA ?_ | (refine ⟨?_, ?_⟩; focus first | rfl | trivial | (simp [slot]; done)) | rfl | trivial | simp)) hν0)
    · have hi' : i = p := by omega
      subst hi'
      rw [<- hrl] at hri
      have he := Nm.a5r hri (by omega) hW1
      have hd : out = Nm.dig 18446744073709551616 i z := Nm.U7 (by decide) hri.2.1 (by omega) he
      rw [<- hd]
      have hcut := fun (E : Ctx) (hP : E.P = Tryz.prog) => a7E (E := E) hP (match 0 with | 0 => true | _ => false) (put u l1 out) o l1 i (by omega) (by omega) (by omega)
      rw [a1U (by omega) (by omega)] at hcut
      (repeat first | refine uA ?_ | (apply S.exit; exact rfl) | (refine uK ?_ ?_; focus first | omega | trivial | exact id | (intro h; rw [h]; rfl) | (intro h h2; rw [h, h2]; rfl) | (intro h; (try simp at h); omega) | (intros; simp_all <;> omega)) | simp only [go_sem, Nat.reduceBEq, Nat.reduceAdd, Nat.reduceLeDiff, Int.reduceToNat, Int.reducePow] | simp (disch := omega) only [ww] | refine l9.t (hcut _ rfl) ?_)
      exact S.done (d9.own rfl)
  · have hb0 : b = 0 := by omega
    subst hb0
    rw [Nat.pow_zero, Nat.mul_one] at hW1
    have hd : r0 = Nm.dig 18446744073709551616 p z := Nm.U7 (by decide) hua1 hrl hW1
    have hcut := fun (E : Ctx) (hP : E.P = Tryz.prog) => a7E (E := E) hP (match 0 with | 0 => true | _ => false) u o l1 p (by omega) (by omega) (by omega)
    have hw : (u.drop l1).take p = r0 := by rw [<- hps]; exact a1U hrl.symm (by omega)
    rw [hw] at hcut
    rw [<- hd, hps]
    (repeat first | refine uA ?_ | (apply S.exit; exact rfl) | (refine uK ?_ ?_; focus first | omega | trivial | exact id | (intro h; rw [h]; rfl) | (intro h h2; rw [h, h2]; rfl) | (intro h; (try simp at h); omega) | (intros; simp_all <;> omega)) | simp only [go_sem, Nat.reduceBEq, Nat.reduceAdd, Nat.reduceLeDiff, Int.reduceToNat, Int.reducePow] | simp (disch := omega) only [ww] | refine l9.t (hcut _ rfl) ?_)
    exact S.done (d9.own rfl)
structure Win (u : List Nat) (lo n v : Nat) : Prop where
  hn : lo + n <= u.length
  hlo : lo < u.length
  hl : u.length <= 17179869184
  ha : Nm.K8 u
  hv : Nm.wv 18446744073709551616 ((u.drop lo).take n) = v
  ht : Nm.G7 ((u.drop lo).take n) = (u.drop lo).take n
theorem Win.len {u : List Nat} {lo n v : Nat} (h : Win u lo n v) : ((u.drop lo).take n).length = n := by
  have := h.hn
  rw [List.length_take, List.length_drop]; omega
theorem b6P {us a : List Nat} {k : Nat} (hu : Nm.K8 us) (ha : Nm.K8 a) : Nm.K8 (put us k a) := fun w hw => by
  simp only [put, List.mem_append] at hw
  rcases hw with (hw | hw) | hw
  · exact hu w (List.mem_of_mem_take hw)
  · exact ha w hw
  · exact hu w (List.mem_of_mem_drop hw)
theorem Win.put {u : List Nat} {l1 p z : Nat} (h1 : l1 + p <= u.length) (h2 : l1 < u.length) (hl : u.length <= 17179869184) (ha : Nm.K8 u) (hz : z < 18446744073709551616 ^ p) :
    Win (put u l1 (Nm.dig 18446744073709551616 p z)) l1 (Nm.G7 (Nm.dig 18446744073709551616 p z)).length z := by
  have hpl : (Go.Proofs.YtogfpjohjphngaaGreatDoor.put u l1 (Nm.dig 18446744073709551616 p z)).length = u.length := Z4 (by rw [Nm.I7]; omega)
  have htl := Nm.b7Q (Nm.dig 18446744073709551616 p z)
  rw [Nm.I7] at htl
  have hw : ((Go.Proofs.YtogfpjohjphngaaGreatDoor.put u l1 (Nm.dig 18446744073709551616 p z)).drop l1).take (Nm.G7 (Nm.dig 18446744073709551616 p z)).length = Nm.G7 (Nm.dig 18446744073709551616 p z) := by
    have e := a1U (us := u) (k := l1) (a := Nm.dig 18446744073709551616 p z) (n := p) (Nm.I7 _ _ _).symm (by rw [Nm.I7]; omega)
    have e2 := congrArg (List.take (Nm.G7 (Nm.dig 18446744073709551616 p z)).length) e
    rw [List.take_take, Nat.min_eq_left htl, Nm.b5q] at e2
    exact e2
  refine ⟨by rw [hpl]; omega, by rw [hpl]; exact h2, by rw [hpl]; exact hl, b6P ha (Nm.a0I (by decide) _ _), ?_, ?_⟩
  · rw [hw, Nm.b9l, Nm.U5 hz]
  · rw [hw]
    have h4 : ∀ l, Nm.G7 (Nm.G7 l) = Nm.G7 l := fun l => by
      by_cases h : Nm.G7 l = []
      · rw [h]; rfl
      · have h5 := Nm.a9L l h
        have h6 : Nm.G7 l = (Nm.G7 l).dropLast ++ [(Nm.G7 l).getLast h] := (List.dropLast_concat_getLast h).symm
        rw [h6, Nm.a3J h5]
    exact h4 _
theorem Win.last {u : List Nat} {lo n v : Nat} (h : Win u lo n v) : ∀ hh : (u.drop lo).take n ≠ [], ((u.drop lo).take n).getLast hh ≠ 0 := by
  have ht := h.ht
  generalize (u.drop lo).take n = x at *
  intro hh
  have := Nm.a9L x (by rw [ht]; exact hh)
  simpa only [ht] using this
theorem Win.all {u : List Nat} {lo n v : Nat} (h : Win u lo n v) : Nm.K8 ((u.drop lo).take n) := (h.ha.drop lo).take n
theorem Win.zero {u : List Nat} {lo n v : Nat} (h : Win u lo n v) (h0 : v = 0) : n = 0 := by
  rcases Nat.eq_zero_or_pos n with h1 | h1
  · exact h1
  · exfalso
    have hl := h.len
    have hla := h.last
    have hv := h.hv
    generalize (u.drop lo).take n = x at *
    have hne : x ≠ [] := fun e => by subst e; simp at hl; omega
    have h2 := Nm.b3k (B := 18446744073709551616) (l := x.dropLast) (hla hne)
    rw [List.dropLast_concat_getLast hne] at h2
    have := Nat.pow_pos (n := x.dropLast.length) (show 0 < 18446744073709551616 by decide)
    omega
theorem Win.nonzero {u : List Nat} {lo n v : Nat} (h : Win u lo n v) (h0 : n = 0) : v = 0 := by
  have := h.hv; subst h0; rw [<- this]; rfl
theorem Win.le {u o : List Nat} {lo n v lo2 n2 v2 : Nat} (h : Win u lo n v) (h2 : Win o lo2 n2 v2) (hle : v2 <= v) : n2 <= n := by
  rcases Nat.lt_or_ge n n2 with h1 | h1
  · exfalso
    have hl := h2.len
    have hla := h2.last
    have hv := h2.hv
    have hl1 := Nm.K7 18446744073709551616 h.all
    rw [h.len, h.hv] at hl1
    generalize (o.drop lo2).take n2 = x at *
    have hne : x ≠ [] := fun e => by subst e; simp at hl; omega
    have h3 := Nm.b3k (B := 18446744073709551616) (l := x.dropLast) (hla hne)
    rw [List.dropLast_concat_getLast hne, List.length_dropLast] at h3
    have h4 : 18446744073709551616 ^ n <= 18446744073709551616 ^ (x.length - 1) := Nat.pow_le_pow_right (by decide) (by omega)
    omega
  · exact h1
theorem Win.v2 {u : List Nat} {lo n v : Nat} (h : Win u lo n v) (h0 : v ≠ 0) : Nm.v2 v <= 70368744177664 := by
  obtain ⟨q, h1, h2⟩ := Nm.a2L h0
  have hl1 := Nm.K7 18446744073709551616 h.all
  rw [h.len, h.hv] at hl1
  have h3 : 2 ^ Nm.v2 v <= v := by
    conv => rhs; rw [h1]
    exact Nat.le_mul_of_pos_right _ (by omega)
  have h4 : 2 ^ Nm.v2 v < 2 ^ (64 * n) := by rw [Nat.pow_mul]; exact Nat.lt_of_le_of_lt h3 hl1
  have h5 := (Nat.pow_lt_pow_iff_right (by decide : 1 < 2)).1 h4
  have := h.hn; have := h.hl
  omega
namespace Nm
theorem c0K (n k : Nat) (h : k < 8) : (be8 n)[k]? = some (oB (n / 2 ^ (56 - 8 * k))) := by
  have : k = 0 \/ k = 1 \/ k = 2 \/ k = 3 \/ k = 4 \/ k = 5 \/ k = 6 \/ k = 7 := by omega
  rcases this with rfl | rfl | rfl | rfl | rfl | rfl | rfl | rfl <;> simp [be8]
theorem a7N (n : Nat) : (be8 n).length = 8 := rfl
def a1E (l : List Nat) : List UInt8 := (l.reverse.map be8).flatten
theorem a9o (l : List Nat) (x : Nat) : a1E (l ++ [x]) = be8 x ++ a1E l := by simp [a1E]
theorem b0V (r : List Nat) (h : K8 r.reverse) : (a1E r.reverse).length = 8 * r.length /\ val (a1E r.reverse) = wv 18446744073709551616 r.reverse := by
  induction r with
  | nil => exact ⟨rfl, rfl⟩
  | cons x r ih =>
    rw [List.reverse_cons] at h ⊢
    obtain ⟨h1, h2⟩ := ih fun w hw => h w (List.mem_append_left _ hw)
    rw [a9o, a7B, b4Q, h1, h2, b5j (h x (by simp)), List.length_reverse, List.length_append, a7N, h1, List.length_cons]
    refine ⟨by omega, ?_⟩
    rw [Nat.pow_mul, show (256 : Nat) ^ 8 = 18446744073709551616 by decide, Nat.mul_comm x, Nat.add_comm]
theorem b1B {l : List Nat} (h : K8 l) : (a1E l).length = 8 * l.length := by
  have := (b0V l.reverse (by simpa using h)).1
  simpa using this
theorem b8B {l : List Nat} (h : K8 l) : val (a1E l) = wv 18446744073709551616 l := by
  have := (b0V l.reverse (by simpa using h)).2
  simpa using this
def a1u (l : List Nat) (i k : Nat) : List UInt8 := List.replicate (8 * (l.length - 1 - i)) 0 ++ ((be8 (l.getD i 0)).take k ++ List.replicate (8 - k) 0) ++ a1E (l.take i)
def a4e (l : List Nat) (i : Nat) : List UInt8 := List.replicate (8 * (l.length - i)) 0 ++ a1E (l.take i)
theorem b7y (l : List Nat) : a4e l 0 = List.replicate (8 * l.length) 0 := by simp [a4e, a1E]
theorem b2K (l : List Nat) : a4e l l.length = a1E l := by simp [a4e]
theorem b1s {l : List Nat} {i : Nat} (h : i < l.length) : a1u l i 0 = a4e l i := by
  rw [a1u, a4e, List.take_zero, List.nil_append, Nat.sub_zero, List.replicate_append_replicate]
  congr 2; omega
theorem a9B {l : List Nat} {i : Nat} (h : i < l.length) : a1u l i 8 = a4e l (i + 1) := by
  have e : l.take (i + 1) = l.take i ++ [l.getD i 0] := by
    rw [List.take_add_one, List.getD_eq_getElem?_getD, List.getElem?_eq_getElem h]; rfl
  rw [a1u, a4e, e, a9o, List.take_of_length_le (by rw [a7N]; exact Nat.le_refl _), Nat.sub_self, List.replicate_zero, List.append_nil, List.append_assoc]
  congr 3; omega
theorem b3j {l : List Nat} (hl : K8 l) {i k : Nat} (h : i < l.length) (hk : k <= 8) : (a1u l i k).length = 8 * l.length := by
  simp only [a1u, List.length_append, List.length_replicate, List.length_take, a7N, b1B (hl.take i), List.length_take]
  omega
theorem b1g {l : List Nat} {i k : Nat} (hk : k < 8) : (a1u l i k).set (8 * (l.length - 1 - i) + k) (oB (l.getD i 0 / 2 ^ (56 - 8 * k))) = a1u l i (k + 1) := by
  have e : (be8 (l.getD i 0)).take (k + 1) = (be8 (l.getD i 0)).take k ++ [oB (l.getD i 0 / 2 ^ (56 - 8 * k))] := by
    rw [List.take_add_one, c0K _ _ hk]; rfl
  have e2 : List.replicate (8 - k) (0 : UInt8) = 0 :: List.replicate (8 - (k + 1)) 0 := by rw [<- List.replicate_succ]; congr 1; omega
  have hlk : ((be8 (l.getD i 0)).take k).length = k := by rw [List.length_take, a7N]; omega
  rw [a1u, a1u, e, e2, List.set_append_left _ _ (by simp only [List.length_append, List.length_replicate, hlk, List.length_cons]; omega), List.set_append_right _ _ (by simp), List.length_replicate, Nat.add_sub_cancel_left, List.set_append_right _ _ (by omega), hlk, Nat.sub_self, List.set_cons_zero, List.append_assoc (List.take k _), List.singleton_append]
theorem b7r (n : Nat) : val (oB (2 ^ (n % 8)) :: List.replicate (n / 8) 0) = 2 ^ n := by
  have h0 : val (List.replicate (n / 8) (0 : UInt8)) = 0 := by
    generalize n / 8 = k
    induction k with
    | zero => rfl
    | succ k ih => rw [List.replicate_succ, Y1, ih]; simp
  have h1 : 2 ^ (n % 8) < 256 := by
    have : 2 ^ (n % 8) <= 2 ^ 7 := Nat.pow_le_pow_right (by decide) (by omega)
    omega
  rw [Y1, h0, a1z, Nat.mod_eq_of_lt h1, List.length_replicate, Nat.add_zero, show (256 : Nat) = 2 ^ 8 by decide, <- Nat.pow_mul, <- Nat.pow_add]
  congr 1; omega
end Nm
structure Hv where
  s : Bool
  u : List Nat
  lo : Nat
  n : Nat
  v : Nat
  o : List Nat
  lo2 : Nat
  n2 : Nat
  v2 : Nat
theorem b8W (a b : List UInt8) (ha : a.length <= 68719476736) (hb : b.length <= 68719476736) (h0a : Nm.val a ≠ 0) (h0b : Nm.val b ≠ 0) : FZ 222 [sb a, sb b] (sb (Nm.enc (Nat.gcd (Nm.val a) (Nm.val b)))) := by
  refine q9.of (eff := eff) Tryz.func222 (by conv => { lhs; cbv }) (by exact Nat.le_of_ble_eq_true rfl) fun w O hw => ?_
  simp only [l6, sb]
  have hla := b5a a (by omega)
  have hlb := b5a b (by omega)
  have hva := Nm.a9K a
  have hvb := Nm.a9K b
  have haa := Nm.a9Y a
  have hab := Nm.a9Y b
  have hna := Nm.a8l a
  have hnb := Nm.a8l b
  obtain ⟨za, hza, hoa⟩ := Nm.a2L h0a
  obtain ⟨zb, hzb, hob⟩ := Nm.a2L h0b
  have hG : Nat.gcd (Nm.val a) (Nm.val b) = 2 ^ (min (Nm.v2 (Nm.val a)) (Nm.v2 (Nm.val b))) * Nat.gcd za zb := by
    conv => lhs; rw [hza, hzb]
    exact Nm.b9x hoa hob
  rw [hG]
  have fea := a7D (Nm.O7 a) (by omega) haa (by rw [hva]; exact h0a)
  have feb := a7D (Nm.O7 b) (by omega) hab (by rw [hvb]; exact h0b)
  rw [hva] at fea
  rw [hvb] at feb
  have hba : Nm.v2 (Nm.val a) <= 549755813888 := by
    have h1 := Nm.X8 a
    have h3 : 2 ^ Nm.v2 (Nm.val a) <= Nm.val a := by
      conv => rhs; rw [hza]
      exact Nat.le_mul_of_pos_right _ (by omega)
    have h4 : 2 ^ Nm.v2 (Nm.val a) < 2 ^ (8 * a.length) := by rw [Nat.pow_mul]; exact Nat.lt_of_le_of_lt h3 h1
    have h5 := (Nat.pow_lt_pow_iff_right (by decide : 1 < 2)).1 h4
    omega
  have hbb : Nm.v2 (Nm.val b) <= 549755813888 := by
    have h1 := Nm.X8 b
    have h3 : 2 ^ Nm.v2 (Nm.val b) <= Nm.val b := by
      conv => rhs; rw [hzb]
      exact Nat.le_mul_of_pos_right _ (by omega)
    have h4 : 2 ^ Nm.v2 (Nm.val b) < 2 ^ (8 * b.length) := by rw [Nat.pow_mul]; exact Nat.lt_of_le_of_lt h3 h1
    have h5 := (Nat.pow_lt_pow_iff_right (by decide : 1 < 2)).1 h4
    omega
  have hla0 : 0 < (Nm.O7 a).length := by
    rcases Nat.eq_zero_or_pos (Nm.O7 a).length with h | h
    · have := List.length_eq_zero_iff.1 h
      rw [this] at hva; exact absurd hva.symm h0a
    · exact h
  have hlb0 : 0 < (Nm.O7 b).length := by
    rcases Nat.eq_zero_or_pos (Nm.O7 b).length with h | h
    · have := List.length_eq_zero_iff.1 h
      rw [this] at hvb; exact absurd hvb.symm h0b
    · exact h
  generalize Nm.v2 (Nm.val a) = p at *
  generalize Nm.v2 (Nm.val b) = q at *
  have hwa : Nm.wv 18446744073709551616 (((Nm.O7 a).drop 0).take (Nm.O7 a).length) = za * 2 ^ p := by
    rw [List.drop_zero, List.take_length, hva, hza, Nat.mul_comm]
  have hwb : Nm.wv 18446744073709551616 (((Nm.O7 b).drop 0).take (Nm.O7 b).length) = zb * 2 ^ q := by
    rw [List.drop_zero, List.take_length, hvb, hzb, Nat.mul_comm]
  clear hG hza hzb hva hvb h0a h0b
  generalize hA : Nm.O7 a = A at *
  generalize hB : Nm.O7 b = B at *
  have hr1 := fun (E : Ctx) (hP : E.P = Tryz.prog) => a7L (E := E) hP true A B 0 A.length p za (by omega) (by omega) (by omega) haa (by omega) hwa
  obtain ⟨hj1, hz1, _⟩ := hr1 ⟨Tryz.prog, eff, 0, w, fun _ => False, O, [], []⟩ rfl
  have hr1 := fun E hP => (hr1 E hP).2.2
  have hW1 := Win.put (u := A) (l1 := 0 + p / 64) (p := A.length - p / 64) (z := za) (by omega) (by omega) (by omega) haa hz1
  generalize hA1 : put A (0 + p / 64) (Nm.dig 18446744073709551616 (A.length - p / 64) za) = A1 at *
  generalize 0 + p / 64 = la at *
  generalize (Nm.G7 (Nm.dig 18446744073709551616 (A.length - p / 64) za)).length = na at *
  have hr2 := fun (E : Ctx) (hP : E.P = Tryz.prog) => a7L (E := E) hP false B A1 0 B.length q zb (by omega) (by omega) (by omega) hab (by omega) hwb
  obtain ⟨hj2, hz2, _⟩ := hr2 ⟨Tryz.prog, eff, 0, w, fun _ => False, O, [], []⟩ rfl
  have hr2 := fun E hP => (hr2 E hP).2.2
  have hW2 := Win.put (u := B) (l1 := 0 + q / 64) (p := B.length - q / 64) (z := zb) (by omega) (by omega) (by omega) hab hz2
  generalize hB1 : put B (0 + q / 64) (Nm.dig 18446744073709551616 (B.length - q / 64) zb) = B1 at *
  generalize 0 + q / 64 = lb at *
  generalize (Nm.G7 (Nm.dig 18446744073709551616 (B.length - q / 64) zb)).length = nb at *
  have hr1' : ∀ (E : Ctx), E.P = Tryz.prog -> j6 E [.row 189 1 (ls A), .row 189 1 (ls B)] 240 [.rv 0, ints p] (.wv 0 1 la na) [.row 189 1 (ls A1), .row 189 1 (ls B)] [] := fun E hP => j6.imp (hr1 E hP) (p8.cons (Imp.win (k := 0) (e := 189) (sz := 1) (es := ls A) rfl (u7 _).symm (by simp)) (p8.cons (Imp.refl rfl) p8.nil))
  have hr2' : ∀ (E : Ctx), E.P = Tryz.prog -> j6 E [.row 189 1 (ls A1), .row 189 1 (ls B)] 240 [.rv 1, ints q] (.wv 1 1 lb nb) [.row 189 1 (ls A1), .row 189 1 (ls B1)] [] := fun E hP => j6.imp (hr2 E hP) (p8.cons (Imp.win (k := 1) (e := 189) (sz := 1) (es := ls B) rfl (u7 _).symm (by simp)) (p8.cons (Imp.refl rfl) p8.nil))
  (repeat first | refine uA ?_ | (apply S.exit; exact rfl) | (refine uK ?_ ?_; focus first | omega | trivial | exact id | (intro h; rw [h]; rfl) | (intro h h2; rw [h, h2]; rfl) | (intro h; (try simp at h); omega) | (intros; simp_all <;> omega)) | simp only [go_sem, Nat.reduceBEq, Nat.reduceAdd, Nat.reduceLeDiff, Int.reduceToNat, Int.reducePow] | simp (disch := omega) only [ww] | refine l9.t (FNew.t hla rfl) ?_ | refine l9.t (FNew.t hlb rfl) ?_ | refine l9.t (hr1' _ rfl) ?_ | refine l9.t (hr2' _ rfl) ?_ | (refine uE fea ?_ ?_ ?_ ?_; exact tz hw; exact rfl; focus (repeat' first | exact p8.nil | exact Imp.refl rfl | exact Imp.frz rfl rfl rfl | (refine Imp.P6 rfl rfl ?_ ?_; (focus ((try simp only [List.length_append]); omega)); (focus first | rfl | assumption)) | refine p8.cons ?_ ?_); done) | (refine uE feb ?_ ?_ ?_ ?_; exact tz hw; exact rfl; focus (repeat' first | exact p8.nil | exact Imp.refl rfl | exact Imp.frz rfl rfl rfl | (refine Imp.P6 rfl rfl ?_ ?_; (focus ((try simp only [List.length_append]); omega)); (focus first | rfl | assumption)) | refine p8.cons ?_ ?_); done))
  clear hr1 hr2 hr1' hr2' hla hlb fea feb hwa hwb hA hB hA1 hB1 hz1 hz2 hj1 hj2 haa hab hla0 hlb0 hna hnb
  have hmin : min p q <= 549755813888 := by omega
  generalize hG : Nat.gcd za zb = G at *
  refine S.c0e (Y := Hv) (fun x => ⟨[(5, .wv (kx x.s) 1 x.lo x.n), (6, .wv (kx !x.s) 1 x.lo2 x.n2), (7, ints p), (8, ints q)], rw2 x.s x.u x.o⟩)
    (fun x => Win x.u x.lo x.n x.v /\ Win x.o x.lo2 x.n2 x.v2 /\ ((x.n = 0 /\ x.v2 = G) \/ (x.n = 1 /\ x.n2 = 1 /\ Nat.gcd x.v x.v2 = G))) ?_ ?_
  · refine S.loop (X := Hv) (fun x => ⟨[(5, .wv (kx x.s) 1 x.lo x.n), (6, .wv (kx !x.s) 1 x.lo2 x.n2), (7, ints p), (8, ints q)], rw2 x.s x.u x.o⟩)
      (fun x => Win x.u x.lo x.n x.v /\ Win x.o x.lo2 x.n2 x.v2 /\ x.v % 2 = 1 /\ x.v2 % 2 = 1 /\ Nat.gcd x.v x.v2 = G) (fun x => x.v + x.v2) ⟨true, A1, la, na, za, B1, lb, nb, zb⟩ ⟨hW1, hW2, hoa, hob, hG⟩ (by (repeat first | refine uA ?_ | (refine ⟨?_, ?_⟩; focus first | rfl | trivial | (simp [slot]; done)) | rfl | trivial | simp)) ?_
    clear hW1 hW2 hG hoa hob
    rintro ⟨s, u, lo, n, v, o, lo2, n2, v2⟩ ⟨hW1, hW2, hoa, hob, hG⟩
    simp only [ints] at hW1 hW2 hoa hob hG ⊢
    (repeat first | refine uA ?_ | (apply S.exit; exact rfl) | (refine uK ?_ ?_; focus first | omega | trivial | exact id | (intro h; rw [h]; rfl) | (intro h h2; rw [h, h2]; rfl) | (intro h; (try simp at h); omega) | (intros; simp_all <;> omega)) | simp only [go_sem, Nat.reduceBEq, Nat.reduceAdd, Nat.reduceLeDiff, Int.reduceToNat, Int.reducePow] | simp (disch := omega) only [ww])
    (refine uJ rfl (fun hc => ?_) fun hc => ?_)
    · refine S.skip ?_
      refine S.block ?_
      refine S.seq ?_
      have hl1 := hW1.hl
      have hl2 := hW2.hl
      have hn1 := hW1.hn
      have hn2 := hW2.hn
      have hwl : ∀ (u : List Nat) lo n, ls ((u.drop lo).take n) = ((ls u).drop lo).take n := fun u lo n => by simp [ls, List.map_drop, List.map_take]
      refine S.join (Y := Hv) (fun x => ⟨[(5, .wv (kx x.s) 1 x.lo x.n), (6, .wv (kx !x.s) 1 x.lo2 x.n2), (7, ints p), (8, ints q)], rw2 x.s x.u x.o⟩)
        (fun x => Win x.u x.lo x.n x.v /\ Win x.o x.lo2 x.n2 x.v2 /\ x.v % 2 = 1 /\ x.v2 % 2 = 1 /\ Nat.gcd x.v x.v2 = G /\ x.v2 <= x.v /\ x.v + x.v2 = v + v2) ?_ ?_
      · have hb := c0H ((u.drop lo).take n) ((o.drop lo2).take n2) (by rw [hW1.len]; omega) (by rw [hW2.len]; omega) hW1.all hW2.all hW1.last hW2.last
        rw [hwl, hwl, hW1.hv, hW2.hv] at hb
        cases s
        all_goals
          simp only [rw2, kx, Bool.not_true, Bool.not_false]
          (repeat first | refine uA ?_ | (apply S.exit; exact rfl) | (refine uK ?_ ?_; focus first | omega | trivial | exact id | (intro h; rw [h]; rfl) | (intro h h2; rw [h, h2]; rfl) | (intro h; (try simp at h); omega) | (intros; simp_all <;> omega)) | simp only [go_sem, Nat.reduceBEq, Nat.reduceAdd, Nat.reduceLeDiff, Int.reduceToNat, Int.reducePow, u7] | simp (disch := omega) only [ww, u7] | (refine uC hb ?_ ?_ ?_; exact rfl; focus (repeat' first | exact p8.nil | exact Imp.refl rfl | exact Imp.frz rfl rfl rfl | (refine Imp.P6 rfl rfl ?_ ?_; (focus ((try simp only [List.length_append, u7]); omega)); (focus first | rfl | assumption)) | refine p8.cons ?_ ?_); done))
          refine S.cond rfl (fun hc => ?_) (fun hc => ?_)
          all_goals simp only [decide_eq_true_eq, decide_eq_false_iff_not] at hc
        · (repeat first | refine uA ?_ | (apply S.exit; exact rfl) | (refine uK ?_ ?_; focus first | omega | trivial | exact id | (intro h; rw [h]; rfl) | (intro h h2; rw [h, h2]; rfl) | (intro h; (try simp at h); omega) | (intros; simp_all <;> omega)) | simp only [go_sem, Nat.reduceBEq, Nat.reduceAdd, Nat.reduceLeDiff, Int.reduceToNat, Int.reducePow] | simp (disch := omega) only [ww])
          exact S.met ⟨true, o, lo2, n2, v2, u, lo, n, v⟩ ⟨hW2, hW1, hob, hoa, by rw [Nat.gcd_comm]; exact hG, by simp only; omega, by simp only; omega⟩ (by (repeat first | refine uA ?_ | (refine ⟨?_, ?_⟩; focus first | rfl | trivial | (simp [slot]; done)) | rfl | trivial | simp))
        · (repeat first | refine uA ?_ | (apply S.exit; exact rfl) | (refine uK ?_ ?_; focus first | omega | trivial | exact id | (intro h; rw [h]; rfl) | (intro h h2; rw [h, h2]; rfl) | (intro h; (try simp at h); omega) | (intros; simp_all <;> omega)) | simp only [go_sem, Nat.reduceBEq, Nat.reduceAdd, Nat.reduceLeDiff, Int.reduceToNat, Int.reducePow] | simp (disch := omega) only [ww])
          exact S.met ⟨false, u, lo, n, v, o, lo2, n2, v2⟩ ⟨hW1, hW2, hoa, hob, hG, by simp only; omega, rfl⟩ (by (repeat first | refine uA ?_ | (refine ⟨?_, ?_⟩; focus first | rfl | trivial | (simp [slot]; done)) | rfl | trivial | simp))
        · (repeat first | refine uA ?_ | (apply S.exit; exact rfl) | (refine uK ?_ ?_; focus first | omega | trivial | exact id | (intro h; rw [h]; rfl) | (intro h h2; rw [h, h2]; rfl) | (intro h; (try simp at h); omega) | (intros; simp_all <;> omega)) | simp only [go_sem, Nat.reduceBEq, Nat.reduceAdd, Nat.reduceLeDiff, Int.reduceToNat, Int.reducePow] | simp (disch := omega) only [ww])
          exact S.met ⟨false, o, lo2, n2, v2, u, lo, n, v⟩ ⟨hW2, hW1, hob, hoa, by rw [Nat.gcd_comm]; exact hG, by simp only; omega, by simp only; omega⟩ (by (repeat first | refine uA ?_ | (refine ⟨?_, ?_⟩; focus first | rfl | trivial | (simp [slot]; done)) | rfl | trivial | simp))
        · (repeat first | refine uA ?_ | (apply S.exit; exact rfl) | (refine uK ?_ ?_; focus first | omega | trivial | exact id | (intro h; rw [h]; rfl) | (intro h h2; rw [h, h2]; rfl) | (intro h; (try simp at h); omega) | (intros; simp_all <;> omega)) | simp only [go_sem, Nat.reduceBEq, Nat.reduceAdd, Nat.reduceLeDiff, Int.reduceToNat, Int.reducePow] | simp (disch := omega) only [ww])
          exact S.met ⟨true, u, lo, n, v, o, lo2, n2, v2⟩ ⟨hW1, hW2, hoa, hob, hG, by simp only; omega, rfl⟩ (by (repeat first | refine uA ?_ | (refine ⟨?_, ?_⟩; focus first | rfl | trivial | (simp [slot]; done)) | rfl | trivial | simp))
      clear hl1 hl2 hn1 hn2 hW1 hW2 hoa hob hG hc
      rintro ⟨s, u1, lo1, n1, x1, o1, lo3, n3, x3⟩ ⟨hW1, hW2, hoa, hob, hG, hle, hsum⟩
      simp only [ints] at hW1 hW2 hoa hob hG hle hsum ⊢
      have hl1 := hW1.hl
      have hl2 := hW2.hl
      have hn1 := hW1.hn
      have hn2 := hW2.hn
      have hlo1 := hW1.hlo
      have hlt1 : x1 < 18446744073709551616 ^ n1 := by
        have := Nm.K7 18446744073709551616 hW1.all
        rwa [hW1.len, hW1.hv] at this
      have hmin := fun (E : Ctx) (hP : E.P = Tryz.prog) (s : Bool) => c0R (E := E) hP s u1 o1 lo1 n1 lo3 n3 (by omega) (by omega) hn1 hlo1 hn2 (hW1.le hW2 hle) hW1.ha hW2.ha hW1.hv.symm hW2.hv.symm hle
      have hW3 := Win.put (u := u1) (l1 := lo1) (p := n1) (z := x1 - x3) hn1 hlo1 hl1 hW1.ha (by omega)
      generalize put u1 lo1 (Nm.dig 18446744073709551616 n1 (x1 - x3)) = u2 at *
      generalize (Nm.G7 (Nm.dig 18446744073709551616 n1 (x1 - x3))).length = m1 at *
      have hl3 := hW3.hl
      have hn3 := hW3.hn
      have hmt : ∀ E : Ctx, E.P = Tryz.prog -> j6 E [.row 189 1 (ls u1), .row 189 1 (ls o1)] 242 [.wv 0 1 lo1 n1, .wv 1 1 lo3 n3] (.wv 0 1 lo1 m1) [.row 189 1 (ls u2), .row 189 1 (ls o1)] [] := fun E hP => hmin E hP true
      have hmf : ∀ E : Ctx, E.P = Tryz.prog -> j6 E [.row 189 1 (ls o1), .row 189 1 (ls u1)] 242 [.wv 1 1 lo1 n1, .wv 0 1 lo3 n3] (.wv 1 1 lo1 m1) [.row 189 1 (ls o1), .row 189 1 (ls u2)] [] := fun E hP => hmin E hP false
      clear hmin
      cases s
      all_goals
        simp only [rw2, kx, Bool.not_true, Bool.not_false]
        (repeat first | refine uA ?_ | (apply S.exit; exact rfl) | (refine uK ?_ ?_; focus first | omega | trivial | exact id | (intro h; rw [h]; rfl) | (intro h h2; rw [h, h2]; rfl) | (intro h; (try simp at h); omega) | (intros; simp_all <;> omega)) | simp only [go_sem, Nat.reduceBEq, Nat.reduceAdd, Nat.reduceLeDiff, Int.reduceToNat, Int.reducePow, u7] | simp (disch := omega) only [ww, u7] | refine l9.t (hmt _ rfl) ?_ | refine l9.t (hmf _ rfl) ?_)
        (refine uJ rfl (fun hc => ?_) fun hc => ?_)
      · (repeat first | refine uA ?_ | (apply S.exit; exact rfl) | (refine uK ?_ ?_; focus first | omega | trivial | exact id | (intro h; rw [h]; rfl) | (intro h h2; rw [h, h2]; rfl) | (intro h; (try simp at h); omega) | (intros; simp_all <;> omega)) | simp only [go_sem, Nat.reduceBEq, Nat.reduceAdd, Nat.reduceLeDiff, Int.reduceToNat, Int.reducePow] | simp (disch := omega) only [ww])
        have h0 := hW3.nonzero (by omega)
        have h1 : x1 = x3 := by omega
        subst h1
        rw [Nat.gcd_self] at hG
        exact S.met ⟨false, u2, lo1, m1, x1 - x1, o1, lo3, n3, x1⟩ ⟨hW3, hW2, .inl ⟨by simp only; omega, hG⟩⟩ (by (repeat first | refine uA ?_ | (refine ⟨?_, ?_⟩; focus first | rfl | trivial | (simp [slot]; done)) | rfl | trivial | simp))
      · have h0 : x1 - x3 ≠ 0 := fun h => by have := hW3.zero h; omega
        obtain ⟨z, hz, hoz⟩ := Nm.a2L h0
        have hev := a7D ((u2.drop lo1).take m1) (by rw [hW3.len]; omega) hW3.all (by rw [hW3.hv]; exact h0)
        rw [hwl, hW3.hv] at hev
        have heb := hW3.v2 h0
        generalize Nm.v2 (x1 - x3) = e at *
        have hrg := fun (E : Ctx) (hP : E.P = Tryz.prog) => a7L (E := E) hP false u2 o1 lo1 m1 e z (by omega) hn3 heb hW3.ha (by omega) (by rw [hW3.hv, hz, Nat.mul_comm])
        obtain ⟨hj, hz2, _⟩ := hrg ⟨Tryz.prog, eff, 0, w, fun _ => False, O, [], []⟩ rfl
        have hrg := fun E hP => (hrg E hP).2.2
        have hW4 := Win.put (u := u2) (l1 := lo1 + e / 64) (p := m1 - e / 64) (z := z) (by omega) (by omega) hl3 hW3.ha hz2
        generalize put u2 (lo1 + e / 64) (Nm.dig 18446744073709551616 (m1 - e / 64) z) = u4 at *
        generalize lo1 + e / 64 = lo4 at *
        generalize (Nm.G7 (Nm.dig 18446744073709551616 (m1 - e / 64) z)).length = m4 at *
        have hrg' : ∀ (E : Ctx), E.P = Tryz.prog -> j6 E [.row 189 1 (ls o1), .row 189 1 (ls u2)] 240 [.wv 1 1 lo1 m1, ints e] (.wv 1 1 lo4 m4) [.row 189 1 (ls o1), .row 189 1 (ls u4)] [] := fun E hP => hrg E hP
        have hgz : Nat.gcd z x3 = G := by
          have h1 := Nm.a6h (d := z) hob e
          rw [<- h1, <- hz, Nm.b1e hle, hG]
        have hzle : z <= x1 - x3 := by
          conv => rhs; rw [hz]
          exact Nat.le_mul_of_pos_left _ (Nat.pow_pos (by decide))
        (repeat first | refine uA ?_ | (apply S.exit; exact rfl) | (refine uK ?_ ?_; focus first | omega | trivial | exact id | (intro h; rw [h]; rfl) | (intro h h2; rw [h, h2]; rfl) | (intro h; (try simp at h); omega) | (intros; simp_all <;> omega)) | simp only [go_sem, Nat.reduceBEq, Nat.reduceAdd, Nat.reduceLeDiff, Int.reduceToNat, Int.reducePow, u7] | simp (disch := omega) only [ww, u7] | refine l9.t (hrg' _ rfl) ?_ | (refine uE hev ?_ ?_ ?_ ?_; exact tz hw; exact rfl; focus (repeat' first | exact p8.nil | exact Imp.refl rfl | exact Imp.frz rfl rfl rfl | (refine Imp.P6 rfl rfl ?_ ?_; (focus ((try simp only [List.length_append, u7]); omega)); (focus first | rfl | assumption)) | refine p8.cons ?_ ?_); done))
        refine S.next (x := (⟨true, u, lo, n, v, o, lo2, n2, v2⟩ : Hv)) (⟨false, u4, lo4, m4, z, o1, lo3, n3, x3⟩ : Hv) ⟨hW4, hW2, hoz, hob, hgz⟩ (by simp only; omega) (by (repeat first | refine uA ?_ | (refine ⟨?_, ?_⟩; focus first | rfl | trivial | (simp [slot]; done)) | rfl | trivial | simp))
      · (repeat first | refine uA ?_ | (apply S.exit; exact rfl) | (refine uK ?_ ?_; focus first | omega | trivial | exact id | (intro h; rw [h]; rfl) | (intro h h2; rw [h, h2]; rfl) | (intro h; (try simp at h); omega) | (intros; simp_all <;> omega)) | simp only [go_sem, Nat.reduceBEq, Nat.reduceAdd, Nat.reduceLeDiff, Int.reduceToNat, Int.reducePow] | simp (disch := omega) only [ww])
        have h0 := hW3.nonzero (by omega)
        have h1 : x1 = x3 := by omega
        subst h1
        rw [Nat.gcd_self] at hG
        exact S.met ⟨true, u2, lo1, m1, x1 - x1, o1, lo3, n3, x1⟩ ⟨hW3, hW2, .inl ⟨by simp only; omega, hG⟩⟩ (by (repeat first | refine uA ?_ | (refine ⟨?_, ?_⟩; focus first | rfl | trivial | (simp [slot]; done)) | rfl | trivial | simp))
      · have h0 : x1 - x3 ≠ 0 := fun h => by have := hW3.zero h; omega
        obtain ⟨z, hz, hoz⟩ := Nm.a2L h0
        have hev := a7D ((u2.drop lo1).take m1) (by rw [hW3.len]; omega) hW3.all (by rw [hW3.hv]; exact h0)
        rw [hwl, hW3.hv] at hev
        have heb := hW3.v2 h0
        generalize Nm.v2 (x1 - x3) = e at *
        have hrg := fun (E : Ctx) (hP : E.P = Tryz.prog) => a7L (E := E) hP true u2 o1 lo1 m1 e z (by omega) hn3 heb hW3.ha (by omega) (by rw [hW3.hv, hz, Nat.mul_comm])
        obtain ⟨hj, hz2, _⟩ := hrg ⟨Tryz.prog, eff, 0, w, fun _ => False, O, [], []⟩ rfl
        have hrg := fun E hP => (hrg E hP).2.2
        have hW4 := Win.put (u := u2) (l1 := lo1 + e / 64) (p := m1 - e / 64) (z := z) (by omega) (by omega) hl3 hW3.ha hz2
        generalize put u2 (lo1 + e / 64) (Nm.dig 18446744073709551616 (m1 - e / 64) z) = u4 at *
        generalize lo1 + e / 64 = lo4 at *
        generalize (Nm.G7 (Nm.dig 18446744073709551616 (m1 - e / 64) z)).length = m4 at *
        have hrg' : ∀ (E : Ctx), E.P = Tryz.prog -> j6 E [.row 189 1 (ls u2), .row 189 1 (ls o1)] 240 [.wv 0 1 lo1 m1, ints e] (.wv 0 1 lo4 m4) [.row 189 1 (ls u4), .row 189 1 (ls o1)] [] := fun E hP => hrg E hP
        have hgz : Nat.gcd z x3 = G := by
          have h1 := Nm.a6h (d := z) hob e
          rw [<- h1, <- hz, Nm.b1e hle, hG]
        have hzle : z <= x1 - x3 := by
          conv => rhs; rw [hz]
          exact Nat.le_mul_of_pos_left _ (Nat.pow_pos (by decide))
        (repeat first | refine uA ?_ | (apply S.exit; exact rfl) | (refine uK ?_ ?_; focus first | omega | trivial | exact id | (intro h; rw [h]; rfl) | (intro h h2; rw [h, h2]; rfl) | (intro h; (try simp at h); omega) | (intros; simp_all <;> omega)) | simp only [go_sem, Nat.reduceBEq, Nat.reduceAdd, Nat.reduceLeDiff, Int.reduceToNat, Int.reducePow, u7] | simp (disch := omega) only [ww, u7] | refine l9.t (hrg' _ rfl) ?_ | (refine uE hev ?_ ?_ ?_ ?_; exact tz hw; exact rfl; focus (repeat' first | exact p8.nil | exact Imp.refl rfl | exact Imp.frz rfl rfl rfl | (refine Imp.P6 rfl rfl ?_ ?_; (focus ((try simp only [List.length_append, u7]); omega)); (focus first | rfl | assumption)) | refine p8.cons ?_ ?_); done))
        refine S.next (x := (⟨true, u, lo, n, v, o, lo2, n2, v2⟩ : Hv)) (⟨true, u4, lo4, m4, z, o1, lo3, n3, x3⟩ : Hv) ⟨hW4, hW2, hoz, hob, hgz⟩ (by simp only; omega) (by (repeat first | refine uA ?_ | (refine ⟨?_, ?_⟩; focus first | rfl | trivial | (simp [slot]; done)) | rfl | trivial | simp))
    · (repeat first | refine uA ?_ | (apply S.exit; exact rfl) | (refine uK ?_ ?_; focus first | omega | trivial | exact id | (intro h; rw [h]; rfl) | (intro h h2; rw [h, h2]; rfl) | (intro h; (try simp at h); omega) | (intros; simp_all <;> omega)) | simp only [go_sem, Nat.reduceBEq, Nat.reduceAdd, Nat.reduceLeDiff, Int.reduceToNat, Int.reducePow] | simp (disch := omega) only [ww])
      have ha1 : n <= 1 /\ n2 <= 1 := by omega
      have hz1 : n ≠ 0 := fun h => by have := hW1.nonzero h; omega
      have hz2 : n2 ≠ 0 := fun h => by have := hW2.nonzero h; omega
      exact S.met ⟨s, u, lo, n, v, o, lo2, n2, v2⟩ ⟨hW1, hW2,   .inr ⟨by simp only; omega, by simp only; omega, hG⟩⟩ (by cases s <;> exact (by (repeat first | refine uA ?_ | (refine ⟨?_, ?_⟩; focus first | rfl | trivial | (simp [slot]; done)) | rfl | trivial | simp)))
  clear hW1 hW2 hG hoa hob
  rintro ⟨s, u, lo, n, v, o, lo2, n2, v2⟩ ⟨hW1, hW2, hcs⟩
  simp only [ints] at hW1 hW2 hcs ⊢
  refine S.seq ?_
  have hl1 := hW1.hl
  have hl2 := hW2.hl
  have hn1 := hW1.hn
  have hn2 := hW2.hn
  have hlo1 := hW1.hlo
  have hlo2 := hW2.hlo
  refine S.join (Y := Bool × List Nat × List Nat) (fun x => ⟨[(6, .wv (kx !x.1) 1 lo2 n2), (7, ints p), (8, ints q)], rw2 x.1 x.2.1 x.2.2⟩)
    (fun x => x.2.2.length = o.length /\ Nm.K8 x.2.2 /\ Nm.wv 18446744073709551616 ((x.2.2.drop lo2).take n2) = G) ?_ ?_
  · have one : ∀ {u : List Nat} {lo v : Nat}, Win u lo 1 v -> u[lo]? = some v /\ v < 18446744073709551616 := fun {u lo v} h => by
      have hg : u[lo]? = some (u[lo]'h.hlo) := List.getElem?_eq_getElem h.hlo
      have h1 := h.hv
      have h2 : (u.drop lo).take 1 = [u[lo]'h.hlo] := by rw [List.drop_eq_getElem_cons h.hlo]; rfl
      rw [h2] at h1
      simp only [Nm.wv] at h1
      have h3 := h.ha _ (List.getElem_mem h.hlo)
      rw [Nat.mul_zero, Nat.add_zero] at h1
      rw [hg, h1]
      exact ⟨rfl, by omega⟩
    (repeat first | refine uA ?_ | (apply S.exit; exact rfl) | (refine uK ?_ ?_; focus first | omega | trivial | exact id | (intro h; rw [h]; rfl) | (intro h h2; rw [h, h2]; rfl) | (intro h; (try simp at h); omega) | (intros; simp_all <;> omega)) | simp only [go_sem, Nat.reduceBEq, Nat.reduceAdd, Nat.reduceLeDiff, Int.reduceToNat, Int.reducePow] | simp (disch := omega) only [ww])
    (refine uJ rfl (fun hc => ?_) fun hc => ?_)
    · have hn : n = 1 := by omega
      have hm : n2 = 1 := by omega
      subst hn hm
      obtain ⟨g1, b1⟩ := one hW1
      obtain ⟨g2, b2⟩ := one hW2
      have hg : Nat.gcd v v2 = G := by rcases hcs with h | h; exact absurd h.1 (by decide); exact h.2.2
      have hco := b2E v v2 b1 b2
      rw [hg] at hco
      have hres : Nm.wv 18446744073709551616 (((o.set lo2 G).drop lo2).take 1) = G := by
        rw [List.drop_eq_getElem_cons (by rw [List.length_set]; exact hlo2), List.getElem_set_self]
        simp [Nm.wv]
      have hG64 : G < 18446744073709551616 := by
        have : v2 ≠ 0 := fun h => by have := hW2.zero h; omega
        have := Nat.gcd_le_right v (show 0 < v2 by omega)
        omega
      cases s
      all_goals
        simp only [rw2, kx, Bool.not_true, Bool.not_false]
        (repeat first | refine uA ?_ | (apply S.exit; exact rfl) | (refine uK ?_ ?_; focus first | omega | trivial | exact id | (intro h; rw [h]; rfl) | (intro h h2; rw [h, h2]; rfl) | (intro h; (try simp at h); omega) | (intros; simp_all <;> omega)) | simp only [go_sem, Nat.reduceBEq, Nat.reduceAdd, Nat.reduceLeDiff, Int.reduceToNat, Int.reducePow, u7, I6, g1, g2, Option.map_some, lm, Nat.add_zero, V7] | simp (disch := omega) only [ww, u7, I6, g1, g2, Option.map_some, lm, Nat.add_zero, V7] | (refine uB hco ?_ ?_; exact rfl))
      · exact S.met (⟨false, u, o.set lo2 G⟩ : Bool × List Nat × List Nat) ⟨by simp, fun w hw => by
          rcases Nm.mem_set hw with rfl | hw
          · exact hG64
          · exact hW2.ha w hw, hres⟩ (by (repeat first | refine uA ?_ | (refine ⟨?_, ?_⟩; focus first | rfl | trivial | (simp [slot]; done)) | rfl | trivial | simp))
      · exact S.met (⟨true, u, o.set lo2 G⟩ : Bool × List Nat × List Nat) ⟨by simp, fun w hw => by
          rcases Nm.mem_set hw with rfl | hw
          · exact hG64
          · exact hW2.ha w hw, hres⟩ (by (repeat first | refine uA ?_ | (refine ⟨?_, ?_⟩; focus first | rfl | trivial | (simp [slot]; done)) | rfl | trivial | simp))
    · (repeat first | refine uA ?_ | (apply S.exit; exact rfl) | (refine uK ?_ ?_; focus first | omega | trivial | exact id | (intro h; rw [h]; rfl) | (intro h h2; rw [h, h2]; rfl) | (intro h; (try simp at h); omega) | (intros; simp_all <;> omega)) | simp only [go_sem, Nat.reduceBEq, Nat.reduceAdd, Nat.reduceLeDiff, Int.reduceToNat, Int.reducePow] | simp (disch := omega) only [ww])
      have hg : v2 = G := by
        rcases hcs with h | h
        · exact h.2
        · omega
      exact S.met (⟨s, u, o⟩ : Bool × List Nat × List Nat) ⟨rfl, hW2.ha, by rw [<- hg]; exact hW2.hv⟩ (by cases s <;> exact (by (repeat first | refine uA ?_ | (refine ⟨?_, ?_⟩; focus first | rfl | trivial | (simp [slot]; done)) | rfl | trivial | simp)))
  rintro ⟨s', u', o'⟩ ⟨ho1, ho2, ho3⟩
  simp only [ints] at ho1 ho2 ho3 ⊢
  have hul : ((o'.drop lo2).take n2).length = n2 := by rw [List.length_take, List.length_drop]; omega
  have hua : Nm.K8 ((o'.drop lo2).take n2) := (ho2.drop lo2).take _
  have hgw : ∀ i, i < n2 -> o'[lo2 + i]? = ((o'.drop lo2).take n2)[i]? := fun i hi => by rw [List.getElem?_take_of_lt hi, List.getElem?_drop]
  generalize (o'.drop lo2).take n2 = W at *
  have hfm := a4H (Nm.a1E W) (Nm.oB (2 ^ (min p q % 8)) :: List.replicate (min p q / 8) 0) (by rw [Nm.b1B hua]; omega) (by rw [List.length_cons, List.length_replicate]; omega)
  rw [Nm.b7r, Nm.b8B hua, ho3, Nat.mul_comm] at hfm
  have hWl : W.length <= 17179869184 := by omega
  have hz8 : List.replicate (8 * (n2 : Int)).toNat [C.v (.int .u8 0)] = (Nm.a4e W 0).map G8 := by
    rw [Nm.b7y, <- a2M, show (8 * (n2 : Int)).toNat = 8 * W.length by omega]
  have hqm : IntKind.i64.wrap (((min p q : Nat) : Int).tdiv 8) = ((min p q / 8 : Nat) : Int) := b6E _ (by omega)
  have hmn : (if (q : Int) < (p : Int) then (q : Int) else (p : Int)) = ((min p q : Nat) : Int) := by split <;> omega
  generalize min p q = r at *
  clear hW1 hW2 hcs hn1 hl1 hlo1 ho3
  cases s'
  all_goals
    simp only [rw2, kx, Bool.not_true, Bool.not_false]
    (repeat first | refine uA ?_ | (apply S.exit; exact rfl) | (refine uK ?_ ?_; focus first | omega | trivial | exact id | (intro h; rw [h]; rfl) | (intro h h2; rw [h, h2]; rfl) | (intro h; (try simp at h); omega) | (intros; simp_all <;> omega)) | simp only [go_sem, Nat.reduceBEq, Nat.reduceAdd, Nat.reduceLeDiff, Int.reduceToNat, Int.reducePow, u7, hz8] | simp (disch := omega) only [ww, u7, hz8])
  · refine S.loop (X := Nat) (fun i => ⟨[(6, .wv 0 1 lo2 n2), (7, ints p), (8, ints q), (9, .rv 2), (72, .wv 0 1 lo2 n2), (73, ints n2), (74, ints i)], [.row 189 1 (ls o'), .row 189 1 (ls u')] ++ [.row 5 1 ((Nm.a4e W i).map G8)]⟩) (fun i => i <= n2) (fun i => n2 - i) 0 (Nat.zero_le _) (by (repeat first | refine uA ?_ | (refine ⟨?_, ?_⟩; focus first | rfl | trivial | (simp [slot]; done)) | rfl | trivial | simp)) ?_
    intro i hi
    simp only [ints, List.cons_append, List.nil_append]
    (repeat first | refine uA ?_ | (apply S.exit; exact rfl) | (refine uK ?_ ?_; focus first | omega | trivial | exact id | (intro h; rw [h]; rfl) | (intro h h2; rw [h, h2]; rfl) | (intro h; (try simp at h); omega) | (intros; simp_all <;> omega)) | simp only [go_sem, Nat.reduceBEq, Nat.reduceAdd, Nat.reduceLeDiff, Int.reduceToNat, Int.reducePow] | simp (disch := omega) only [ww])
    (refine uJ rfl (fun hc => ?_) fun hc => ?_)
    · have hi' : i < n2 := by omega
      have hiW : i < W.length := by omega
      have hgo : o'[lo2 + i]? = some (W[i]'hiW) := by rw [hgw i hi', List.getElem?_eq_getElem hiW]
      have hgd : W.getD i 0 = W[i]'hiW := Nm.getD_lt hiW
      (repeat first | refine uA ?_ | (apply S.exit; exact rfl) | (refine uK ?_ ?_; focus first | omega | trivial | exact id | (intro h; rw [h]; rfl) | (intro h h2; rw [h, h2]; rfl) | (intro h; (try simp at h); omega) | (intros; simp_all <;> omega)) | simp only [go_sem, Nat.reduceBEq, Nat.reduceAdd, Nat.reduceLeDiff, Int.reduceToNat, Int.reducePow, u7, I6, hgo, Option.map_some, lm] | simp (disch := omega) only [ww, u7, I6, hgo, Option.map_some, lm])
      rw [<- Nm.b1s hiW]
      refine S.loop (X := Nat) (fun k => ⟨[(6, .wv 0 1 lo2 n2), (7, ints p), (8, ints q), (9, .rv 2), (72, .wv 0 1 lo2 n2), (73, ints n2), (74, ints i), (10, ints i), (11, .v (.int .u64 (W[i]'hiW : Int))), (79, ints k)], [.row 189 1 (ls o'), .row 189 1 (ls u')] ++ [.row 5 1 ((Nm.a1u W i k).map G8)]⟩) (fun k => k <= 8) (fun k => 8 - k) 0 (Nat.zero_le _) (by (repeat first | refine uA ?_ | (refine ⟨?_, ?_⟩; focus first | rfl | trivial | (simp [slot]; done)) | rfl | trivial | simp)) ?_
      intro k hk
      simp only [ints, List.cons_append, List.nil_append]
      have hlk := Nm.b3j hua hiW hk
      (repeat first | refine uA ?_ | (apply S.exit; exact rfl) | (refine uK ?_ ?_; focus first | omega | trivial | exact id | (intro h; rw [h]; rfl) | (intro h h2; rw [h, h2]; rfl) | (intro h; (try simp at h); omega) | (intros; simp_all <;> omega)) | simp only [go_sem, Nat.reduceBEq, Nat.reduceAdd, Nat.reduceLeDiff, Int.reduceToNat, Int.reducePow] | simp (disch := omega) only [ww])
      (refine uJ rfl (fun hc => ?_) fun hc => ?_)
      · have hk' : k < 8 := by omega
        have hst := Nm.b1g (l := W) (i := i) hk'
        rw [hgd] at hst
        have hbv : IntKind.u8.wrap (Int.fdiv ((W[i]'hiW : Nat) : Int) (2 ^ min (56 - 8 * (k : Int)).toNat 64)) = (((Nm.oB ((W[i]'hiW) / 2 ^ (56 - 8 * k))).toNat : Nat) : Int) := by
          rw [<- a6q, show min (56 - 8 * (k : Int)).toNat 64 = 56 - 8 * k by omega]
          congr 2
        have hix : (8 * ((n2 : Int) - 1 - (i : Int)) + (k : Int)).toNat = 8 * (W.length - 1 - i) + k := by omega
        have hgk : (Nm.a1u W i k)[8 * (W.length - 1 - i) + k]? = some ((Nm.a1u W i k)[8 * (W.length - 1 - i) + k]'(by omega)) := List.getElem?_eq_getElem (by omega)
        (repeat first | refine uA ?_ | (apply S.exit; exact rfl) | (refine uK ?_ ?_; focus first | omega | trivial | exact id | (intro h; rw [h]; rfl) | (intro h h2; rw [h, h2]; rfl) | (intro h; (try simp at h); omega) | (intros; simp_all <;> omega)) | simp only [go_sem, Nat.reduceBEq, Nat.reduceAdd, Nat.reduceLeDiff, Int.reduceToNat, Int.reducePow, u7, List.length_map, hbv, hix, List.getElem?_map, hgk, Option.map_some, G8, a3g, hst] | simp (disch := omega) only [ww, u7, List.length_map, hbv, hix, List.getElem?_map, hgk, Option.map_some, G8, a3g, hst])
        refine S.next (x := k) (k + 1) hk' (by omega) (by (repeat first | refine uA ?_ | (refine ⟨?_, ?_⟩; focus first | rfl | trivial | (simp [slot]; done)) | rfl | trivial | simp))
      · have hk8 : k = 8 := by omega
        subst hk8
        rw [Nm.a9B hiW]
        (repeat first | refine uA ?_ | (apply S.exit; exact rfl) | (refine uK ?_ ?_; focus first | omega | trivial | exact id | (intro h; rw [h]; rfl) | (intro h h2; rw [h, h2]; rfl) | (intro h; (try simp at h); omega) | (intros; simp_all <;> omega)) | simp only [go_sem, Nat.reduceBEq, Nat.reduceAdd, Nat.reduceLeDiff, Int.reduceToNat, Int.reducePow] | simp (disch := omega) only [ww])
        refine S.next (x := i) (i + 1) hi' (by omega) (by (repeat first | refine uA ?_ | (refine ⟨?_, ?_⟩; focus first | rfl | trivial | (simp [slot]; done)) | rfl | trivial | simp))
    · have hi' : i = n2 := by omega
      subst hi'
      rw [<- hul, Nm.b2K]
      have hr1 : ((r / 8 : Nat) : Int) + 1 = ((r / 8 + 1 : Nat) : Int) := by omega
      have hrep : List.replicate (((r / 8 + 1 : Nat) : Int)).toNat [C.v (.int .u8 0)] = (List.replicate (r / 8 + 1) (0 : UInt8)).map G8 := by rw [<- a2M]; rfl
      have hrm : (r : Int).tmod 8 = ((r % 8 : Nat) : Int) := a9P r
      have hpw : IntKind.u8.wrap (1 * 2 ^ min (r % 8) 8) = (((Nm.oB (2 ^ (r % 8))).toNat : Nat) : Int) := by
        rw [show min (r % 8) 8 = r % 8 by omega, Nm.a1z, <- a1w]; congr 1; simp
      have hby : V8 ([C.v (.int .u8 (((Nm.oB (2 ^ (r % 8))).toNat : Nat) : Int))] :: List.replicate (r / 8) [C.v (.int .u8 0)]) = some (Nm.oB (2 ^ (r % 8)) :: List.replicate (r / 8) 0) := by
        rw [a2M]; exact Q0 (Nm.oB (2 ^ (r % 8)) :: List.replicate (r / 8) 0)
      (repeat first | refine uA ?_ | (apply S.exit; exact rfl) | (refine uK ?_ ?_; focus first | omega | trivial | exact id | (intro h; rw [h]; rfl) | (intro h h2; rw [h, h2]; rfl) | (intro h; (try simp at h); omega) | (intros; simp_all <;> omega)) | simp only [go_sem, Nat.reduceBEq, Nat.reduceAdd, Nat.reduceLeDiff, Int.reduceToNat, Int.reducePow, hmn, hqm, hr1, hrep, hrm, hpw, hby, Q0, a2t, G8, Int.toNat_natCast] | simp (disch := omega) only [ww, hmn, hqm, hr1, hrep, hrm, hpw, hby, Q0, a2t, G8, Int.toNat_natCast] | (refine uB hfm ?_ ?_; exact rfl))
      exact S.done (d9.out rfl (Imp.refl rfl) rfl)
  · refine S.loop (X := Nat) (fun i => ⟨[(6, .wv 1 1 lo2 n2), (7, ints p), (8, ints q), (9, .rv 2), (72, .wv 1 1 lo2 n2), (73, ints n2), (74, ints i)], [.row 189 1 (ls u'), .row 189 1 (ls o')] ++ [.row 5 1 ((Nm.a4e W i).map G8)]⟩) (fun i => i <= n2) (fun i => n2 - i) 0 (Nat.zero_le _) (by (repeat first | refine uA ?_ | (refine ⟨?_, ?_⟩; focus first | rfl | trivial | (simp [slot]; done)) | rfl | trivial | simp)) ?_
    intro i hi
    simp only [ints, List.cons_append, List.nil_append]
    (repeat first | refine uA ?_ | (apply S.exit; exact rfl) | (refine uK ?_ ?_; focus first | omega | trivial | exact id | (intro h; rw [h]; rfl) | (intro h h2; rw [h, h2]; rfl) | (intro h; (try simp at h); omega) | (intros; simp_all <;> omega)) | simp only [go_sem, Nat.reduceBEq, Nat.reduceAdd, Nat.reduceLeDiff, Int.reduceToNat, Int.reducePow] | simp (disch := omega) only [ww])
    (refine uJ rfl (fun hc => ?_) fun hc => ?_)
    · have hi' : i < n2 := by omega
      have hiW : i < W.length := by omega
      have hgo : o'[lo2 + i]? = some (W[i]'hiW) := by rw [hgw i hi', List.getElem?_eq_getElem hiW]
      have hgd : W.getD i 0 = W[i]'hiW := Nm.getD_lt hiW
      (repeat first | refine uA ?_ | (apply S.exit; exact rfl) | (refine uK ?_ ?_; focus first | omega | trivial | exact id | (intro h; rw [h]; rfl) | (intro h h2; rw [h, h2]; rfl) | (intro h; (try simp at h); omega) | (intros; simp_all <;> omega)) | simp only [go_sem, Nat.reduceBEq, Nat.reduceAdd, Nat.reduceLeDiff, Int.reduceToNat, Int.reducePow, u7, I6, hgo, Option.map_some, lm] | simp (disch := omega) only [ww, u7, I6, hgo, Option.map_some, lm])
      rw [<- Nm.b1s hiW]
      refine S.loop (X := Nat) (fun k => ⟨[(6, .wv 1 1 lo2 n2), (7, ints p), (8, ints q), (9, .rv 2), (72, .wv 1 1 lo2 n2), (73, ints n2), (74, ints i), (10, ints i), (11, .v (.int .u64 (W[i]'hiW : Int))), (79, ints k)], [.row 189 1 (ls u'), .row 189 1 (ls o')] ++ [.row 5 1 ((Nm.a1u W i k).map G8)]⟩) (fun k => k <= 8) (fun k => 8 - k) 0 (Nat.zero_le _) (by (repeat first | refine uA ?_ | (refine ⟨?_, ?_⟩; focus first | rfl | trivial | (simp [slot]; done)) | rfl | trivial | simp)) ?_
      intro k hk
      simp only [ints, List.cons_append, List.nil_append]
      have hlk := Nm.b3j hua hiW hk
      (repeat first | refine uA ?_ | (apply S.exit; exact rfl) | (refine uK ?_ ?_; focus first | omega | trivial | exact id | (intro h; rw [h]; rfl) | (intro h h2; rw [h, h2]; rfl) | (intro h; (try simp at h); omega) | (intros; simp_all <;> omega)) | simp only [go_sem, Nat.reduceBEq, Nat.reduceAdd, Nat.reduceLeDiff, Int.reduceToNat, Int.reducePow] | simp (disch := omega) only [ww])
      (refine uJ rfl (fun hc => ?_) fun hc => ?_)
      · have hk' : k < 8 := by omega
        have hst := Nm.b1g (l := W) (i := i) hk'
        rw [hgd] at hst
        have hbv : IntKind.u8.wrap (Int.fdiv ((W[i]'hiW : Nat) : Int) (2 ^ min (56 - 8 * (k : Int)).toNat 64)) = (((Nm.oB ((W[i]'hiW) / 2 ^ (56 - 8 * k))).toNat : Nat) : Int) := by
          rw [<- a6q, show min (56 - 8 * (k : Int)).toNat 64 = 56 - 8 * k by omega]
          congr 2
        have hix : (8 * ((n2 : Int) - 1 - (i : Int)) + (k : Int)).toNat = 8 * (W.length - 1 - i) + k := by omega
        have hgk : (Nm.a1u W i k)[8 * (W.length - 1 - i) + k]? = some ((Nm.a1u W i k)[8 * (W.length - 1 - i) + k]'(by omega)) := List.getElem?_eq_getElem (by omega)
        (repeat first | refine uA ?_ | (apply S.exit; exact rfl) | (refine uK ?_ ?_; focus first | omega | trivial | exact id | (intro h; rw [h]; rfl) | (intro h h2; rw [h, h2]; rfl) | (intro h; (try simp at h); omega) | (intros; simp_all <;> omega)) | simp only [go_sem, Nat.reduceBEq, Nat.reduceAdd, Nat.reduceLeDiff, Int.reduceToNat, Int.reducePow, u7, List.length_map, hbv, hix, List.getElem?_map, hgk, Option.map_some, G8, a3g, hst] | simp (disch := omega) only [ww, u7, List.length_map, hbv, hix, List.getElem?_map, hgk, Option.map_some, G8, a3g, hst])
        refine S.next (x := k) (k + 1) hk' (by omega) (by (repeat first | refine uA ?_ | (refine ⟨?_, ?_⟩; focus first | rfl | trivial | (simp [slot]; done)) | rfl | trivial | simp))
      · have hk8 : k = 8 := by omega
        subst hk8
        rw [Nm.a9B hiW]
        (repeat first | refine uA ?_ | (apply S.exit; exact rfl) | (refine uK ?_ ?_; focus first | omega | trivial | exact id | (intro h; rw [h]; rfl) | (intro h h2; rw [h, h2]; rfl) | (intro h; (try simp at h); omega) | (intros; simp_all <;> omega)) | simp only [go_sem, Nat.reduceBEq, Nat.reduceAdd, Nat.reduceLeDiff, Int.reduceToNat, Int.reducePow] | simp (disch := omega) only [ww])
        refine S.next (x := i) (i + 1) hi' (by omega) (by (repeat first | refine uA ?_ | (refine ⟨?_, ?_⟩; focus first | rfl | trivial | (simp [slot]; done)) | rfl | trivial | simp))
    · have hi' : i = n2 := by omega
      subst hi'
      rw [<- hul, Nm.b2K]
      have hr1 : ((r / 8 : Nat) : Int) + 1 = ((r / 8 + 1 : Nat) : Int) := by omega
      have hrep : List.replicate (((r / 8 + 1 : Nat) : Int)).toNat [C.v (.int .u8 0)] = (List.replicate (r / 8 + 1) (0 : UInt8)).map G8 := by rw [<- a2M]; rfl
      have hrm : (r : Int).tmod 8 = ((r % 8 : Nat) : Int) := a9P r
      have hpw : IntKind.u8.wrap (1 * 2 ^ min (r % 8) 8) = (((Nm.oB (2 ^ (r % 8))).toNat : Nat) : Int) := by
        rw [show min (r % 8) 8 = r % 8 by omega, Nm.a1z, <- a1w]; congr 1; simp
      have hby : V8 ([C.v (.int .u8 (((Nm.oB (2 ^ (r % 8))).toNat : Nat) : Int))] :: List.replicate (r / 8) [C.v (.int .u8 0)]) = some (Nm.oB (2 ^ (r % 8)) :: List.replicate (r / 8) 0) := by
        rw [a2M]; exact Q0 (Nm.oB (2 ^ (r % 8)) :: List.replicate (r / 8) 0)
      (repeat first | refine uA ?_ | (apply S.exit; exact rfl) | (refine uK ?_ ?_; focus first | omega | trivial | exact id | (intro h; rw [h]; rfl) | (intro h h2; rw [h, h2]; rfl) | (intro h; (try simp at h); omega) | (intros; simp_all <;> omega)) | simp only [go_sem, Nat.reduceBEq, Nat.reduceAdd, Nat.reduceLeDiff, Int.reduceToNat, Int.reducePow, hmn, hqm, hr1, hrep, hrm, hpw, hby, Q0, a2t, G8, Int.toNat_natCast] | simp (disch := omega) only [ww, hmn, hqm, hr1, hrep, hrm, hpw, hby, Q0, a2t, G8, Int.toNat_natCast] | (refine uB hfm ?_ ?_; exact rfl))
      exact S.done (d9.out rfl (Imp.refl rfl) rfl)
theorem c0f (a b : List UInt8) (ha : a.length <= 68719476736) (hb : b.length <= 68719476736) : FZ 167 [sb a, sb b] (sb (Nm.enc (Nat.gcd (Nm.val a) (Nm.val b)))) := by
  refine q9.of (eff := eff) Tryz.func167 (by conv => { lhs; cbv }) (by exact Nat.le_of_ble_eq_true rfl) fun w O hw => ?_
  simp only [l6, sb]
  have hta := Nm.U9 a
  have htb := Nm.U9 b
  have hva := Nm.O1 a
  have hvb := Nm.O1 b
  have hca := Nm.T9 a
  have hcb := Nm.T9 b
  have fta := a0v a (by omega)
  have ftb := a0v b (by omega)
  rw [<- hva, <- hvb]
  clear hva hvb
  generalize Nm.trim a = x at *
  generalize Nm.trim b = y at *
  generalize hG : Nat.gcd (Nm.val x) (Nm.val y) = G at *
  (repeat first | refine uA ?_ | (refine uK ?_ ?_; focus first | omega | (intros; simp_all <;> omega)) | simp (disch := omega) only [go_sem, Nat.reduceBEq, Nat.reduceAdd, ww] | (refine uB fta ?_ ?_; exact rfl) | (refine uB ftb ?_ ?_; exact rfl))
  refine S.loop (X := List UInt8 × List UInt8) (fun s => ⟨[(0, sb s.1), (1, sb s.2)], []⟩) (fun s => Nm.canon s.1 /\ Nm.canon s.2 /\ s.1.length <= 68719476736 /\ s.2.length <= 68719476736 /\ Nat.gcd (Nm.val s.1) (Nm.val s.2) = G) (fun s => Nm.val s.1 + Nm.val s.2) (x, y) ⟨hca, hcb, by simp only; omega, by simp only; omega, hG⟩ (by (repeat first | refine uA ?_ | (refine ⟨?_, ?_⟩; focus first | rfl | simp [slot]) | rfl | simp)) ?_
  clear fta ftb hca hcb hta htb hG
  rintro ⟨x, y⟩ ⟨hcx, hcy, hlx, hly, hG⟩
  simp only [sb] at hcx hcy hlx hly hG ⊢
  (repeat first | refine uA ?_ | (refine uK ?_ ?_; focus first | omega | (intros; simp_all <;> omega)) | simp (disch := omega) only [go_sem, Nat.reduceBEq, Nat.reduceAdd, ww])
  (refine uJ rfl (fun hc => ?_) fun hc => ?_)
  · rw [a0r, a0r] at hc
    have hne := hc
    refine S.skip ?_
    refine S.block ?_
    refine S.seq ?_
    refine S.join (Y := List UInt8 × List UInt8) (fun s => ⟨[(0, sb s.1), (1, sb s.2)], []⟩) (fun s => Nm.canon s.1 /\ Nm.canon s.2 /\ s.1.length <= 68719476736 /\ s.2.length <= s.1.length /\ Nat.gcd (Nm.val s.1) (Nm.val s.2) = G /\ s.1 ≠ [] /\ s.2 ≠ [] /\ Nm.val s.1 + Nm.val s.2 = Nm.val x + Nm.val y) ?_ ?_
    · (repeat first | refine uA ?_ | (refine uK ?_ ?_; focus first | omega | (intros; simp_all <;> omega)) | simp (disch := omega) only [go_sem, Nat.reduceBEq, Nat.reduceAdd, ww, w9])
      (refine uJ rfl (fun hc => ?_) fun hc => ?_)
      · (repeat first | refine uA ?_ | (refine uK ?_ ?_; focus first | omega | (intros; simp_all <;> omega)) | simp (disch := omega) only [go_sem, Nat.reduceBEq, Nat.reduceAdd, ww])
        exact S.met (⟨y, x⟩ : List UInt8 × List UInt8) ⟨hcy, hcx, hly, by simp only; omega, by rw [Nat.gcd_comm]; exact hG, hne.2, hne.1, by simp only; omega⟩ (by (repeat first | refine uA ?_ | (refine ⟨?_, ?_⟩; focus first | rfl | simp [slot]) | rfl | simp))
      · (repeat first | refine uA ?_ | (refine uK ?_ ?_; focus first | omega | (intros; simp_all <;> omega)) | simp (disch := omega) only [go_sem, Nat.reduceBEq, Nat.reduceAdd, ww])
        exact S.met (⟨x, y⟩ : List UInt8 × List UInt8) ⟨hcx, hcy, hlx, by simp only; omega, hG, hne.1, hne.2, rfl⟩ (by (repeat first | refine uA ?_ | (refine ⟨?_, ?_⟩; focus first | rfl | simp [slot]) | rfl | simp))
    clear hcx hcy hlx hly hG hc hne
    rintro ⟨p, q⟩ ⟨hcx, hcy, hlx, hly, hG, hp0, hq0, hsum⟩
    simp only [sb] at hcx hcy hlx hly hG hp0 hq0 hsum ⊢
    have hvp : Nm.val p ≠ 0 := fun h => hp0 ((Nm.val_zero hcx).1 h)
    have hvq : Nm.val q ≠ 0 := fun h => hq0 ((Nm.val_zero hcy).1 h)
    (repeat first | refine uA ?_ | (refine uK ?_ ?_; focus first | omega | (intros; simp_all <;> omega)) | simp (disch := omega) only [go_sem, Nat.reduceBEq, Nat.reduceAdd, ww, w9])
    (refine uJ rfl (fun hc => ?_) fun hc => ?_)
    · have hx7 := Nm.Z9 (l := p) (k := 8) (by omega)
      have hy7 := Nm.Z9 (l := q) (k := 8) (by omega)
      have e1 : Nm.val p % 18446744073709551616 = Nm.val p := Nat.mod_eq_of_lt (by omega)
      have e2 : Nm.val q % 18446744073709551616 = Nm.val q := Nat.mod_eq_of_lt (by omega)
      have fx := a2e p (by omega)
      have fy := a2e q (by omega)
      rw [e1] at fx
      rw [e2] at fy
      have hco := b2E (Nm.val p) (Nm.val q) (by omega) (by omega)
      rw [hG] at hco
      have hle : G <= Nm.val q := by rw [<- hG]; exact Nat.gcd_le_right _ (by omega)
      have hf := a0i G (by omega)
      (repeat first | refine uA ?_ | (refine uK ?_ ?_; focus first | omega | (intros; simp_all <;> omega)) | simp (disch := omega) only [go_sem, Nat.reduceBEq, Nat.reduceAdd, ww] | (refine uB fx ?_ ?_; exact rfl) | (refine uB fy ?_ ?_; exact rfl) | (refine uB hco ?_ ?_; exact rfl) | (refine uB hf ?_ ?_; exact rfl))
      exact S.done (d9.out rfl (Imp.refl rfl) rfl)
    (repeat first | refine uA ?_ | (refine uK ?_ ?_; focus first | omega | (intros; simp_all <;> omega)) | simp (disch := omega) only [go_sem, Nat.reduceBEq, Nat.reduceAdd, ww, w9])
    (refine uJ rfl (fun hc => ?_) fun hc => ?_)
    · have hh := b8W p q hlx (by omega) hvp hvq
      rw [hG] at hh
      (repeat first | refine uA ?_ | (refine uK ?_ ?_; focus first | omega | (intros; simp_all <;> omega)) | simp (disch := omega) only [go_sem, Nat.reduceBEq, Nat.reduceAdd, ww] | (refine uD hh ?_ ?_ ?_; exact tz hw; exact rfl))
      exact S.done (d9.out rfl (Imp.refl rfl) rfl)
    · have hd := b6I p q (by omega) (by omega) hvq
      have hlt : Nm.val p % Nm.val q < Nm.val q := Nat.mod_lt _ (by omega)
      have hlq := Nm.X8 q
      have hpq := Nm.a2w hcx (a := q) (b := p) (by omega)
      have hrl : (Nm.enc (Nm.val p % Nm.val q)).length <= q.length := Nm.L6 (by omega)
      (repeat first | refine uA ?_ | (refine uK ?_ ?_; focus first | omega | (intros; simp_all <;> omega)) | simp (disch := omega) only [go_sem, Nat.reduceBEq, Nat.reduceAdd, ww] | (refine uB hd ?_ ?_; exact rfl))
      refine S.next (x := (x, y)) (q, Nm.enc (Nm.val p % Nm.val q)) ⟨hcy, Nm.a3h _, by simp only; omega, by simp only; omega, ?_⟩ (by simp only [Nm.J5]; omega) (by (repeat first | refine uA ?_ | (refine ⟨?_, ?_⟩; focus first | rfl | simp [slot]) | rfl | simp))
      simp only [Nm.J5]
      rw [Nat.gcd_comm, <- Nat.gcd_rec, Nat.gcd_comm]; exact hG
  · have hr : Nm.enc G = x ++ y := by
      rw [a0r, a0r] at hc
      rcases Classical.em (x = []) with h | h
      · subst h
        rw [Nm.b0D, Nat.gcd_zero_left] at hG
        rw [<- hG, Nm.a1a hcy]; rfl
      · have hy : y = [] := by
          rcases hc with hc | hc
          · exact absurd hc h
          · exact hc
        subst hy
        rw [Nm.b0D, Nat.gcd_zero_right] at hG
        rw [<- hG, Nm.a1a hcx, List.append_nil]
    rw [hr]
    (repeat first | refine uA ?_ | (refine uK ?_ ?_; focus first | omega | (intros; simp_all <;> omega)) | simp (disch := omega) only [go_sem, Nat.reduceBEq, Nat.reduceAdd, ww, Z5, w9])
    exact S.done (d9.out rfl (Imp.refl rfl) rfl)
def rc (a : Nm.Rt) : C := .agg [.v (.bool a.neg), sb a.num, sb a.den]
def rq (q : Rat) : C := rc (Nm.ofQ q)
def Rb (k : Nat) (a : Nm.Rt) : Prop := a.num.length <= k /\ a.den.length <= k
theorem a5y (l : List UInt8) : (bs l = (⟨#[1]⟩ : ByteArray)) = (l = [1]) := a1q l [1]
theorem b1c (l : List UInt8) : Nm.canon l <-> (l = [] \/ l.getD 0 0 ≠ 0) := by
  cases l with
  | nil => simp [Nm.a7g]
  | cons b r =>
    simp only [List.getD_cons_zero, reduceCtorEq, false_or]
    constructor
    · intro h h0; exact h r (by rw [h0])
    · intro h q e; injection e with e1 _; exact h e1
theorem a1x (a : Nm.Rt) (ha : Rb 68719476736 a) : FZ 62 [rc a] (.v (.bool (decide a.F3))) := by
  refine q9.of (eff := eff) Tryz.func62 (by conv => { lhs; cbv }) (by exact Nat.le_of_ble_eq_true rfl) fun w O hw => ?_
  obtain ⟨neg, num, den⟩ := a
  obtain ⟨hn, hd⟩ := ha
  simp only [rc] at hn hd ⊢
  simp only [l6, sb]
  have hg := c0f num den (by omega) (by omega)
  have hgood : Nm.Rt.F3 ⟨neg, num, den⟩ <-> den ≠ [] /\ Nm.canon den /\ Nm.canon num /\ (num = [] -> neg = false /\ den = [1]) /\ (den = [1] \/ Nat.gcd (Nm.val num) (Nm.val den) = 1) := Iff.rfl
  rw [b1c, b1c] at hgood
  have hdl : (!decide (den = [])) = true -> 0 < (den.length : Int) := fun h => by
    have : den ≠ [] := by simpa using h
    have := List.length_pos_iff.2 this
    omega
  have hnl : num ≠ [] -> 0 < (num.length : Int) := fun h => by
    have := List.length_pos_iff.2 h
    omega
  have hgb0 : ∀ {p : Prop} [Decidable p], (Nm.Rt.F3 ⟨neg, num, den⟩ <-> p) -> decide (Nm.Rt.F3 ⟨neg, num, den⟩) = decide p := fun h => decide_eq_decide.2 h
  have hgb := hgb0 hgood
  clear hgood hgb0
  generalize decide (Nm.Rt.F3 ⟨neg, num, den⟩) = gb at *
  (repeat first | refine uA ?_ | (apply S.exit; exact rfl) | (refine uK ?_ ?_; focus first | omega | trivial | exact id | (intro h; rw [h]; rfl) | (intro h h2; rw [h, h2]; rfl) | (intro h; (try simp at h); omega) | (intros; simp_all <;> omega)) | simp only [go_sem, Nat.reduceBEq, Nat.reduceAdd, Nat.reduceLeDiff, Int.reduceToNat, Int.reducePow, w9, O5, a7y, a0r, a5y] | simp (disch := omega) only [ww, w9, O5, a7y, a0r, a5y])
  refine S.cond rfl (fun hc => ?_) (fun hc => ?_)
  · have : gb = false := by
      rw [hgb, decide_eq_false_iff_not]
      simp only [Bool.or_eq_true, Bool.and_eq_true, decide_eq_true_eq, Bool.not_eq_true', decide_eq_false_iff_not] at hc
      grind
    rw [this]
    (repeat first | refine uA ?_ | (apply S.exit; exact rfl) | (refine uK ?_ ?_; focus first | omega | trivial | exact id | (intro h; rw [h]; rfl) | (intro h h2; rw [h, h2]; rfl) | (intro h; (try simp at h); omega) | (intros; simp_all <;> omega)) | simp only [go_sem, Nat.reduceBEq, Nat.reduceAdd, Nat.reduceLeDiff, Int.reduceToNat, Int.reducePow] | simp (disch := omega) only [ww])
    exact S.done (d9.out rfl (Imp.refl rfl) rfl)
  · have hone : (Nm.enc (Nat.gcd (Nm.val num) (Nm.val den)) = [1]) = (Nat.gcd (Nm.val num) (Nm.val den) = 1) := by
      rw [<- Nm.a2c]
      exact propext ⟨Nm.b0n, fun h => by rw [h]⟩
    have : gb = (decide (den = [1]) || decide (Nat.gcd (Nm.val num) (Nm.val den) = 1)) := by
      rw [hgb, <- Bool.decide_or]
      simp only [Bool.or_eq_false_iff, Bool.and_eq_false_iff, decide_eq_true_eq, Bool.not_eq_false', decide_eq_false_iff_not] at hc
      refine decide_eq_decide.2 ⟨fun h => h.2.2.2.2, fun h => ?_⟩
      grind
    rw [this]
    (repeat first | refine uA ?_ | (apply S.exit; exact rfl) | (refine uK ?_ ?_; focus first | omega | trivial | exact id | (intro h; rw [h]; rfl) | (intro h h2; rw [h, h2]; rfl) | (intro h; (try simp at h); omega) | (intros; simp_all <;> omega)) | simp only [go_sem, Nat.reduceBEq, Nat.reduceAdd, Nat.reduceLeDiff, Int.reduceToNat, Int.reducePow, a0r, a5y, hone] | simp (disch := omega) only [ww, a0r, a5y, hone] | (refine uD hg ?_ ?_ ?_; exact tz hw; exact rfl))
    exact S.done (d9.out rfl (Imp.refl rfl) rfl)
theorem b7R : l7 Tryz.prog 181 [] (rc Nm.a2W) := by
  refine l7.of b4x b3R (by exact Nat.le_of_ble_eq_true rfl) fun w O => ?_
  simp only [a8z, l6, TT, II, OA, OB, OC, MM, LL, VV, FF, MG, LG, VG, FG, rc, Nm.a2W, sb]
  (repeat first | refine uA ?_ | (refine uK ?_ ?_; focus first | omega | (intros; simp_all <;> omega)) | simp (disch := omega) only [go_sem, Nat.reduceBEq, Nat.reduceAdd, ww])
  (refine S.done ?_; simp only [D8, x9, go_sem, Nat.reduceBEq, Nat.reduceAdd, Nat.reduceLeDiff, Int.reduceToNat, Int.reducePow]; (repeat (refine ⟨?_, ?_⟩; focus first | trivial | omega | simp)); exact d9.out rfl (Imp.refl rfl) rfl)
theorem c2Y (a : Nm.Rt) (ha : Rb 68719476736 a) : FZ 76 [rc a] (rq (Nm.j3 a)) := by
  refine q9.of b6l b6a (by exact Nat.le_of_ble_eq_true rfl) fun w O hw => ?_
  have hg := a1x a ha
  have fz := b7R
  unfold rq
  by_cases h : a.F3
  · rw [Nm.a7d h]
    rw [show decide a.F3 = true from decide_eq_true h] at hg
    simp only [a6f, l6, TT, II, OA, OB, OC, MM, LL, VV, FF, MG, LG, VG, FG, rc, sb] at hg ⊢
    (repeat first | refine uA ?_ | (refine uK ?_ ?_; focus first | omega | (intros; simp_all <;> omega)) | simp (disch := omega) only [go_sem, Nat.reduceBEq, Nat.reduceAdd, ww] | (refine uD hg ?_ ?_ ?_; exact tz hw; exact rfl))
    exact S.cond rfl (fun hc => by cases hc) (fun _ => by
      (repeat first | refine uA ?_ | (refine uK ?_ ?_; focus first | omega | (intros; simp_all <;> omega)) | simp (disch := omega) only [go_sem, Nat.reduceBEq, Nat.reduceAdd, ww])
      (refine S.done ?_; simp only [D8, x9, go_sem, Nat.reduceBEq, Nat.reduceAdd, Nat.reduceLeDiff, Int.reduceToNat, Int.reducePow]; (repeat (refine ⟨?_, ?_⟩; focus first | trivial | omega | simp)); exact d9.out rfl (Imp.refl rfl) rfl))
  · have e : Nm.ofQ (Nm.j3 a) = Nm.a2W := by unfold Nm.j3; rw [if_neg h, Nm.a8N]
    rw [e]
    rw [show decide a.F3 = false from decide_eq_false h] at hg
    simp only [a6f, l6, TT, II, OA, OB, OC, MM, LL, VV, FF, MG, LG, VG, FG, rc, sb, Nm.a2W] at hg fz ⊢
    (repeat first | refine uA ?_ | (refine uK ?_ ?_; focus first | omega | (intros; simp_all <;> omega)) | simp (disch := omega) only [go_sem, Nat.reduceBEq, Nat.reduceAdd, ww] | (refine uD hg ?_ ?_ ?_; exact tz hw; exact rfl))
    exact S.cond rfl (fun _ => by
      (repeat first | refine uA ?_ | (refine uK ?_ ?_; focus first | omega | (intros; simp_all <;> omega)) | simp (disch := omega) only [go_sem, Nat.reduceBEq, Nat.reduceAdd, ww] | (refine uB fz ?_ ?_; exact rfl))
      (refine S.done ?_; simp only [D8, x9, go_sem, Nat.reduceBEq, Nat.reduceAdd, Nat.reduceLeDiff, Int.reduceToNat, Int.reducePow]; (repeat (refine ⟨?_, ?_⟩; focus first | trivial | omega | simp)); exact d9.out rfl (Imp.refl rfl) rfl)) (fun hc => by cases hc)
theorem c0z {n d k : Nat} (hd : 0 < d) (h : (Nm.enc d).length <= k) : (Nm.enc (Nat.gcd n d)).length <= k := Nm.L6 (Nat.lt_of_le_of_lt (Nat.gcd_le_right n hd) (Nm.Y9 h))
theorem a6Q (neg : Bool) (n d : Nat) (hd : d ≠ 0) (hn : (Nm.enc n).length <= 68719476736) (hdl : (Nm.enc d).length <= 68719476736) :
    FZ 78 [.v (.bool neg), sb (Nm.enc n), sb (Nm.enc d)] (rq (mkRat (Nm.sgn neg n) d)) := by
  refine q9.of (eff := eff) Tryz.func78 (by conv => { lhs; cbv }) (by exact Nat.le_of_ble_eq_true rfl) fun w O hw => ?_
  have fz := b7R
  have hg := c0f (Nm.enc n) (Nm.enc d) hn hdl
  rw [Nm.J5, Nm.J5] at hg
  unfold rq
  rw [<- Nm.b0d neg hd]
  have hz : (Nm.enc n = []) = (n = 0) := propext ⟨fun h => Classical.byContradiction fun h0 => Nm.a5C h0 h, fun h => by rw [h, Nm.a0Z]⟩
  have h1 : ∀ d, (Nm.enc d = [1]) = (d = 1) := fun d => by
    rw [<- Nm.a2c]; exact propext ⟨Nm.b0n, fun h => by rw [h]⟩
  have hgp : Nat.gcd n d ≠ 0 := fun h => hd (Nat.eq_zero_of_gcd_eq_zero_right h)
  have hgl : (Nm.enc (Nat.gcd n d)).length <= 68719476736 := by
    exact c0z (by omega) hdl
  have hd1 := b6I (Nm.enc n) (Nm.enc (Nat.gcd n d)) (by omega) (by omega) (by rw [Nm.J5]; exact hgp)
  have hd2 := b6I (Nm.enc d) (Nm.enc (Nat.gcd n d)) (by omega) (by omega) (by rw [Nm.J5]; exact hgp)
  simp only [Nm.J5] at hd1 hd2
  generalize hgg : Nat.gcd n d = g at *
  simp only [l6, sb]
  (repeat first | refine uA ?_ | (refine uK ?_ ?_; focus first | omega | (intros; simp_all <;> omega)) | simp (disch := omega) only [go_sem, Nat.reduceBEq, Nat.reduceAdd, ww, a0r, hz])
  (refine uJ rfl (fun hc => ?_) fun hc => ?_)
  · rw [if_pos hc]
    simp only [rc, Nm.a2W, sb] at fz ⊢
    (repeat first | refine uA ?_ | (refine uK ?_ ?_; focus first | omega | (intros; simp_all <;> omega)) | simp (disch := omega) only [go_sem, Nat.reduceBEq, Nat.reduceAdd, ww] | (refine uB fz ?_ ?_; exact rfl))
    (refine S.done ?_; simp only [D8, x9, go_sem, Nat.reduceBEq, Nat.reduceAdd, Nat.reduceLeDiff, Int.reduceToNat, Int.reducePow]; (repeat (refine ⟨?_, ?_⟩; focus first | trivial | omega | simp)); exact d9.out rfl (Imp.refl rfl) rfl)
  rw [if_neg hc]
  simp only [rc, sb]
  (repeat first | refine uA ?_ | (refine uK ?_ ?_; focus first | omega | (intros; simp_all <;> omega)) | simp (disch := omega) only [go_sem, Nat.reduceBEq, Nat.reduceAdd, ww, a5y, h1])
  (refine uJ rfl (fun hc => ?_) fun hc => ?_)
  · (repeat first | refine uA ?_ | (refine uK ?_ ?_; focus first | omega | (intros; simp_all <;> omega)) | simp (disch := omega) only [go_sem, Nat.reduceBEq, Nat.reduceAdd, ww, a5y, h1] | (refine uD hg ?_ ?_ ?_; exact tz hw; exact rfl))
    (refine uJ rfl (fun hc => ?_) fun hc => ?_)
    · (repeat first | refine uA ?_ | (refine uK ?_ ?_; focus first | omega | (intros; simp_all <;> omega)) | simp (disch := omega) only [go_sem, Nat.reduceBEq, Nat.reduceAdd, ww] | (refine uB hd1 ?_ ?_; exact rfl) | (refine uB hd2 ?_ ?_; exact rfl))
      (refine S.done ?_; simp only [D8, x9, go_sem, Nat.reduceBEq, Nat.reduceAdd, Nat.reduceLeDiff, Int.reduceToNat, Int.reducePow]; (repeat (refine ⟨?_, ?_⟩; focus first | trivial | omega | simp)); exact d9.out rfl (Imp.refl rfl) rfl)
    · rw [hc, Nat.div_one, Nat.div_one]
      (repeat first | refine uA ?_ | (refine uK ?_ ?_; focus first | omega | (intros; simp_all <;> omega)) | simp (disch := omega) only [go_sem, Nat.reduceBEq, Nat.reduceAdd, ww])
      (refine S.done ?_; simp only [D8, x9, go_sem, Nat.reduceBEq, Nat.reduceAdd, Nat.reduceLeDiff, Int.reduceToNat, Int.reducePow]; (repeat (refine ⟨?_, ?_⟩; focus first | trivial | omega | simp)); exact d9.out rfl (Imp.refl rfl) rfl)
  · rw [hc, Nat.gcd_one_right] at hgg
    subst hgg
    rw [hc, Nat.div_one, Nat.div_one]
    (repeat first | refine uA ?_ | (refine uK ?_ ?_; focus first | omega | (intros; simp_all <;> omega)) | simp (disch := omega) only [go_sem, Nat.reduceBEq, Nat.reduceAdd, ww])
    (refine S.done ?_; simp only [D8, x9, go_sem, Nat.reduceBEq, Nat.reduceAdd, Nat.reduceLeDiff, Int.reduceToNat, Int.reducePow]; (repeat (refine ⟨?_, ?_⟩; focus first | trivial | omega | simp)); exact d9.out rfl (Imp.refl rfl) rfl)
theorem b2g (neg mi : Bool) (a b : List UInt8) (ha : a.length <= 68719476736) (hb : b.length <= 68719476736) :
    l7 Tryz.prog 77 [.v (.bool neg), sb a, .v (.bool mi), sb b] (.tup [.v (.bool (Nm.K9 neg (Nm.val a) mi (Nm.val b)).1), sb (Nm.enc (Nm.K9 neg (Nm.val a) mi (Nm.val b)).2)]) := by
  refine l7.of (eff := eff) Tryz.func77 (by conv => { lhs; cbv }) (by exact Nat.le_of_ble_eq_true rfl) fun w O => ?_
  have hadd := f_add a b (by omega) (by omega)
  have hs1 := c0i a b (by omega) (by omega)
  have hs2 := c0i b a (by omega) (by omega)
  simp only [l6, sb]
  (repeat first | refine uA ?_ | (refine uK ?_ ?_; focus first | omega | (intros; simp_all <;> omega)) | simp (disch := omega) only [go_sem, Nat.reduceBEq, Nat.reduceAdd, ww])
  refine S.cond rfl (fun hc => ?_) (fun hc => ?_)
  · have e : neg = mi := by simpa using hc
    subst e
    unfold Nm.K9
    rw [if_pos rfl]
    (repeat first | refine uA ?_ | (refine uK ?_ ?_; focus first | omega | (intros; simp_all <;> omega)) | simp (disch := omega) only [go_sem, Nat.reduceBEq, Nat.reduceAdd, ww] | (refine uB hadd ?_ ?_; exact rfl))
    exact S.done (d9.out rfl (Imp.refl rfl) rfl)
  · have e : neg ≠ mi := by simpa using hc
    unfold Nm.K9
    rw [if_neg e]
    by_cases h : Nm.val b <= Nm.val a
    · rw [if_pos h]
      have e1 : F9 (Nm.val a) (Nm.val b) = Nm.enc (Nm.val a - Nm.val b) := by unfold F9; rw [if_pos h]
      have e2 : a4b (Nm.val a) (Nm.val b) = 0 := by unfold a4b; rw [if_pos h]
      rw [e1, e2] at hs1
      (repeat first | refine uA ?_ | (refine uK ?_ ?_; focus first | omega | (intros; simp_all <;> omega)) | simp (disch := omega) only [go_sem, Nat.reduceBEq, Nat.reduceAdd, ww] | (refine uB hs1 ?_ ?_; exact rfl))
      refine S.cond rfl (fun hc => ?_) (fun hc => ?_)
      · (repeat first | refine uA ?_ | (refine uK ?_ ?_; focus first | omega | (intros; simp_all <;> omega)) | simp (disch := omega) only [go_sem, Nat.reduceBEq, Nat.reduceAdd, ww])
        exact S.done (d9.out rfl (Imp.refl rfl) rfl)
      · simp at hc
    · rw [if_neg h]
      have e1 : F9 (Nm.val a) (Nm.val b) = [] := by unfold F9; rw [if_neg h]
      have e2 : a4b (Nm.val a) (Nm.val b) = 1 := by unfold a4b; rw [if_neg h]
      have e3 : F9 (Nm.val b) (Nm.val a) = Nm.enc (Nm.val b - Nm.val a) := by unfold F9; rw [if_pos (by omega)]
      have e4 : a4b (Nm.val b) (Nm.val a) = 0 := by unfold a4b; rw [if_pos (by omega)]
      rw [e1, e2] at hs1
      rw [e3, e4] at hs2
      (repeat first | refine uA ?_ | (refine uK ?_ ?_; focus first | omega | (intros; simp_all <;> omega)) | simp (disch := omega) only [go_sem, Nat.reduceBEq, Nat.reduceAdd, ww] | (refine uB hs1 ?_ ?_; exact rfl))
      refine S.cond rfl (fun hc => ?_) (fun hc => ?_)
      · simp at hc
      · (repeat first | refine uA ?_ | (refine uK ?_ ?_; focus first | omega | (intros; simp_all <;> omega)) | simp (disch := omega) only [go_sem, Nat.reduceBEq, Nat.reduceAdd, ww] | (refine uB hs2 ?_ ?_; exact rfl))
        exact S.done (d9.out rfl (Imp.refl rfl) rfl)
namespace Nm
theorem M4 {a b k m : Nat} (ha : (enc a).length <= k) (hb : (enc b).length <= m) : (enc (a * b)).length <= k + m := by
  refine L6 ?_
  rw [Nat.pow_add]
  exact Nat.mul_lt_mul'' (Y9 ha) (Y9 hb)
theorem a5j {a b k : Nat} (ha : (enc a).length <= k) (hb : (enc b).length <= k) : (enc (a + b)).length <= k + 1 := by
  refine L6 ?_
  have h1 := Y9 ha
  have h2 := Y9 hb
  rw [Nat.pow_succ]; omega
theorem a4D {a b : Nat} (h : a <= b) : (enc a).length <= (enc b).length := L6 (Nat.lt_of_le_of_lt h (Y9 (Nat.le_refl _)))
theorem a6g (neg : Bool) (a : Nat) (mi : Bool) (b : Nat) : (K9 neg a mi b).2 <= a + b := by
  unfold K9; repeat' split
  all_goals simp only; omega
theorem add_same {p q : Rat} (h : p.den = q.den) : p + q = mkRat (p.num + q.num) p.den := by
  rw [Rat.add_def', <- h, <- Int.add_mul, Rat.mkRat_mul_right p.den_nz]
theorem a7J (p : Rat) : sgn (decide (p.num < 0)) p.num.natAbs = p.num := b4K p
theorem b8L {p q : Rat} (h : p.den = q.den) : mkRat (sgn (K9 (decide (p.num < 0)) p.num.natAbs (decide (q.num < 0)) q.num.natAbs).1 (K9 (decide (p.num < 0)) p.num.natAbs (decide (q.num < 0)) q.num.natAbs).2) p.den = p + q := by
  rw [b0Z, a7J, a7J, add_same h]
theorem b1p (p q : Rat) : mkRat (sgn (K9 (decide (p.num < 0)) (p.num.natAbs * q.den) (decide (q.num < 0)) (q.num.natAbs * p.den)).1 (K9 (decide (p.num < 0)) (p.num.natAbs * q.den) (decide (q.num < 0)) (q.num.natAbs * p.den)).2) (p.den * q.den) = p + q := by
  rw [b0Z, a8u, a8u, a7J, a7J, Rat.add_def']
theorem b2y (p q : Rat) : mkRat (sgn (decide (p.num < 0) != decide (q.num < 0)) (p.num.natAbs * q.num.natAbs)) (p.den * q.den) = p * q := by
  rw [c1o, a7J, a7J, Rat.mul_def']
end Nm
theorem Rb.fit {k : Nat} {a : Nm.Rt} (h : Rb k a) (hk : 1 <= k) : Rb k (Nm.ofQ (Nm.j3 a)) := by
  by_cases hg : a.F3
  · rw [Nm.a7d hg]; exact h
  · have e : Nm.ofQ (Nm.j3 a) = Nm.a2W := by unfold Nm.j3; rw [if_neg hg, Nm.a8N]
    rw [e]; exact ⟨Nat.zero_le _, hk⟩
theorem X7 (a : Nm.Rt) (ha : Rb 17179869184 a) : FZ 76 [rc a] (rq (Nm.j3 a)) := c2Y a ⟨by have := ha.1; omega, by have := ha.2; omega⟩
theorem c0S (a b : Nat) : (Nm.enc a = Nm.enc b) = (a = b) := propext ⟨Nm.b0n, fun h => by rw [h]⟩
theorem b1l (n : Nat) : (Nm.enc n = []) = (n = 0) := propext ⟨fun h => Classical.byContradiction fun h0 => Nm.a5C h0 h, fun h => by rw [h, Nm.a0Z]⟩
theorem c2T (n : Int) (h1 : -9223372036854775808 <= n) (h2 : n <= 9223372036854775807) : FZ 71 [ints n] (rq (n : Rat)) := by
  refine q9.of b7D b7L (by exact Nat.le_of_ble_eq_true rfl) fun w O hw => ?_
  have hb : ∀ k : Nat, k <= 9223372036854775808 -> (Nm.enc k).length <= 8 := fun k hk => Nm.L6 (by omega)
  have e1 : sb [1] = sb (Nm.enc 1) := by rw [Nm.a2c]
  simp only [b0P, l6, TT, II, OA, OB, OC, MM, LL, VV, FF, MG, LG, VG, FG, ints]
  (repeat first | refine uA ?_ | (refine uK ?_ ?_; focus first | omega | (intros; simp_all <;> omega)) | simp (disch := omega) only [go_sem, Nat.reduceBEq, Nat.reduceAdd, ww])
  (refine uJ rfl (fun hc => ?_) fun hc => ?_)
  · have hof := b6y n (by omega)
    have hm := a6Q false n.toNat 1 (by decide) (by have := hb n.toNat (by omega); omega) (by have := hb 1 (by decide); omega)
    have e : mkRat (Nm.sgn false n.toNat) 1 = (n : Rat) := by
      rw [Rat.mkRat_one]; congr 1; unfold Nm.sgn; simp; omega
    rw [e, Nm.a2c] at hm
    simp only [rq, rc, sb, ints] at hm hof ⊢
    (repeat first | refine uA ?_ | (refine uK ?_ ?_; focus first | omega | (intros; simp_all <;> omega)) | simp (disch := omega) only [go_sem, Nat.reduceBEq, Nat.reduceAdd, ww] | (refine uB hof ?_ ?_; exact rfl) | (refine uD hm ?_ ?_ ?_; exact tz hw; exact rfl))
    (refine S.done ?_; simp only [D8, x9, go_sem, Nat.reduceBEq, Nat.reduceAdd, Nat.reduceLeDiff, Int.reduceToNat, Int.reducePow]; (repeat (refine ⟨?_, ?_⟩; focus first | trivial | omega | simp)); exact d9.out rfl (Imp.refl rfl) rfl)
  · have hof := b6y (-(n + 1)) (by omega)
    have hadd := f_add (Nm.enc (-(n + 1)).toNat) [1] (by have := hb (-(n + 1)).toNat (by omega); omega) (by decide)
    have hm := a6Q true ((-(n + 1)).toNat + 1) 1 (by decide) (by have := hb ((-(n + 1)).toNat + 1) (by omega); omega) (by have := hb 1 (by decide); omega)
    have e : mkRat (Nm.sgn true ((-(n + 1)).toNat + 1)) 1 = (n : Rat) := by
      rw [Rat.mkRat_one]; congr 1; unfold Nm.sgn; simp; omega
    rw [Nm.J5, show Nm.val [1] = 1 from rfl] at hadd
    rw [e, Nm.a2c] at hm
    have hneg : IntKind.i64.wrap (0 - (n + 1)) = -(n + 1) := by rw [Eng.wrap_i64 (by omega)]; omega
    simp only [rq, rc, sb, ints] at hm hof hadd ⊢
    (repeat first | refine uA ?_ | (refine uK ?_ ?_; focus first | omega | (intros; simp_all <;> omega)) | simp (disch := omega) only [go_sem, Nat.reduceBEq, Nat.reduceAdd, ww, hneg] | (refine uB hof ?_ ?_; exact rfl) | (refine uB hadd ?_ ?_; exact rfl) | (refine uD hm ?_ ?_ ?_; exact tz hw; exact rfl))
    (refine S.done ?_; simp only [D8, x9, go_sem, Nat.reduceBEq, Nat.reduceAdd, Nat.reduceLeDiff, Int.reduceToNat, Int.reducePow]; (repeat (refine ⟨?_, ?_⟩; focus first | trivial | omega | simp)); exact d9.out rfl (Imp.refl rfl) rfl)
theorem c1I (a b : Nm.Rt) (ha : Rb 17179869184 a) (hb : Rb 17179869184 b) : FZ 16 [rc a, rc b] (rq (Nm.j3 a + Nm.j3 b)) := by
  refine q9.of (eff := eff) Tryz.func16 (by conv => { lhs; cbv }) (by exact Nat.le_of_ble_eq_true rfl) fun w O hw => ?_
  have hfa := X7 a ha
  have hfb := X7 b hb
  obtain ⟨n1, d1⟩ := ha.fit (by decide)
  obtain ⟨n2, d2⟩ := hb.fit (by decide)
  generalize Nm.j3 a = p at *
  generalize Nm.j3 b = q at *
  simp only [Nm.ofQ] at n1 d1 n2 d2
  have hp := p.den_nz
  have hq := q.den_nz
  have l1 := Nm.M4 n1 d2
  have l2 := Nm.M4 n2 d1
  have l3 := Nm.M4 d1 d2
  have s1 := b2g (decide (p.num < 0)) (decide (q.num < 0)) (Nm.enc p.num.natAbs) (Nm.enc q.num.natAbs) (by omega) (by omega)
  have m1 := a4H (Nm.enc p.num.natAbs) (Nm.enc q.den) (by omega) (by omega)
  have m2 := a4H (Nm.enc q.num.natAbs) (Nm.enc p.den) (by omega) (by omega)
  have m3 := a4H (Nm.enc p.den) (Nm.enc q.den) (by omega) (by omega)
  simp only [Nm.J5] at s1 m1 m2 m3
  have s2 := b2g (decide (p.num < 0)) (decide (q.num < 0)) (Nm.enc (p.num.natAbs * q.den)) (Nm.enc (q.num.natAbs * p.den)) (by omega) (by omega)
  simp only [Nm.J5] at s2
  have k1 : (Nm.enc (Nm.K9 (decide (p.num < 0)) p.num.natAbs (decide (q.num < 0)) q.num.natAbs).2).length <= 17179869185 := Nat.le_trans (Nm.a4D (Nm.a6g _ _ _ _)) (Nm.a5j n1 n2)
  have k2 : (Nm.enc (Nm.K9 (decide (p.num < 0)) (p.num.natAbs * q.den) (decide (q.num < 0)) (q.num.natAbs * p.den)).2).length <= 34359738369 := Nat.le_trans (Nm.a4D (Nm.a6g _ _ _ _)) (Nm.a5j l1 l2)
  have v1 := a6Q (Nm.K9 (decide (p.num < 0)) p.num.natAbs (decide (q.num < 0)) q.num.natAbs).1 (Nm.K9 (decide (p.num < 0)) p.num.natAbs (decide (q.num < 0)) q.num.natAbs).2 p.den hp (by omega) (by omega)
  have v2 := a6Q (Nm.K9 (decide (p.num < 0)) (p.num.natAbs * q.den) (decide (q.num < 0)) (q.num.natAbs * p.den)).1 (Nm.K9 (decide (p.num < 0)) (p.num.natAbs * q.den) (decide (q.num < 0)) (q.num.natAbs * p.den)).2 (p.den * q.den) (Nat.mul_ne_zero hp hq) (by omega) (by omega)
  rw [Nm.b1p] at v2
  have hsame := fun h => Nm.b8L (p := p) (q := q) h
  generalize p + q = r at *
  generalize Nm.K9 (decide (p.num < 0)) p.num.natAbs (decide (q.num < 0)) q.num.natAbs = t1 at *
  generalize Nm.K9 (decide (p.num < 0)) (p.num.natAbs * q.den) (decide (q.num < 0)) (q.num.natAbs * p.den) = t2 at *
  simp only [l6]
  simp only [rq, rc, sb, Nm.ofQ] at *
  (repeat first | refine uA ?_ | (refine uK ?_ ?_; focus first | omega | (intros; simp_all <;> omega)) | simp (disch := omega) only [go_sem, Nat.reduceBEq, Nat.reduceAdd, ww, a1q, c0S] | (refine uD hfa ?_ ?_ ?_; exact tz hw; exact rfl) | (refine uD hfb ?_ ?_ ?_; exact tz hw; exact rfl))
  (refine uJ rfl (fun hc => ?_) fun hc => ?_)
  · rw [hsame hc] at v1
    (repeat first | refine uA ?_ | (refine uK ?_ ?_; focus first | omega | (intros; simp_all <;> omega)) | simp (disch := omega) only [go_sem, Nat.reduceBEq, Nat.reduceAdd, ww] | (refine uB s1 ?_ ?_; exact rfl) | (refine uD v1 ?_ ?_ ?_; exact tz hw; exact rfl))
    (refine S.done ?_; simp only [D8, x9, go_sem, Nat.reduceBEq, Nat.reduceAdd, Nat.reduceLeDiff, Int.reduceToNat, Int.reducePow]; (repeat (refine ⟨?_, ?_⟩; focus first | trivial | omega | simp)); exact d9.out rfl (Imp.refl rfl) rfl)
  · (repeat first | refine uA ?_ | (refine uK ?_ ?_; focus first | omega | (intros; simp_all <;> omega)) | simp (disch := omega) only [go_sem, Nat.reduceBEq, Nat.reduceAdd, ww] | (refine uB m1 ?_ ?_; exact rfl) | (refine uB m2 ?_ ?_; exact rfl) | (refine uB m3 ?_ ?_; exact rfl) | (refine uB s2 ?_ ?_; exact rfl) | (refine uD v2 ?_ ?_ ?_; exact tz hw; exact rfl))
    (refine S.done ?_; simp only [D8, x9, go_sem, Nat.reduceBEq, Nat.reduceAdd, Nat.reduceLeDiff, Int.reduceToNat, Int.reducePow]; (repeat (refine ⟨?_, ?_⟩; focus first | trivial | omega | simp)); exact d9.out rfl (Imp.refl rfl) rfl)
theorem c2F (a b : Nm.Rt) (ha : Rb 17179869184 a) (hb : Rb 17179869184 b) : FZ 172 [rc a, rc b] (rq (Nm.j3 a * Nm.j3 b)) := by
  refine q9.of (eff := eff) Tryz.func172 (by conv => { lhs; cbv }) (by exact Nat.le_of_ble_eq_true rfl) fun w O hw => ?_
  have hfa := X7 a ha
  have hfb := X7 b hb
  obtain ⟨n1, d1⟩ := ha.fit (by decide)
  obtain ⟨n2, d2⟩ := hb.fit (by decide)
  generalize Nm.j3 a = p at *
  generalize Nm.j3 b = q at *
  simp only [Nm.ofQ] at n1 d1 n2 d2
  have hp := p.den_nz
  have hq := q.den_nz
  have l1 := Nm.M4 n1 n2
  have l3 := Nm.M4 d1 d2
  have m1 := a4H (Nm.enc p.num.natAbs) (Nm.enc q.num.natAbs) (by omega) (by omega)
  have m3 := a4H (Nm.enc p.den) (Nm.enc q.den) (by omega) (by omega)
  simp only [Nm.J5] at m1 m3
  have v2 := a6Q (decide (p.num < 0) != decide (q.num < 0)) (p.num.natAbs * q.num.natAbs) (p.den * q.den) (Nat.mul_ne_zero hp hq) (by omega) (by omega)
  rw [Nm.b2y] at v2
  generalize p * q = r at *
  simp only [l6]
  simp only [rq, rc, sb, Nm.ofQ] at *
  (repeat first | refine uA ?_ | (refine uK ?_ ?_; focus first | omega | (intros; simp_all <;> omega)) | simp (disch := omega) only [go_sem, Nat.reduceBEq, Nat.reduceAdd, ww] | (refine uB m1 ?_ ?_; exact rfl) | (refine uB m3 ?_ ?_; exact rfl) | (refine uD hfa ?_ ?_ ?_; exact tz hw; exact rfl) | (refine uD hfb ?_ ?_ ?_; exact tz hw; exact rfl) | (refine uD v2 ?_ ?_ ?_; exact tz hw; exact rfl))
  (refine S.done ?_; simp only [D8, x9, go_sem, Nat.reduceBEq, Nat.reduceAdd, Nat.reduceLeDiff, Int.reduceToNat, Int.reducePow]; (repeat (refine ⟨?_, ?_⟩; focus first | trivial | omega | simp)); exact d9.out rfl (Imp.refl rfl) rfl)
def A8 (q : Rat) : Int := if q.num = 0 then 0 else if q.num < 0 then -1 else 1
theorem a9Q (p : Rat) : Nm.ofQ (-p) = ⟨!decide (p.num < 0) && !decide (p.num.natAbs = 0), Nm.enc p.num.natAbs, Nm.enc p.den⟩ := by
  unfold Nm.ofQ
  rw [Rat.neg_num, Rat.neg_den, Int.natAbs_neg]
  congr 1
  by_cases h : p.num < 0
  · simp [h]; omega
  · by_cases h0 : p.num = 0
    · simp [h0]
    · have : ¬ p.num.natAbs = 0 := by omega
      simp [h, this]; omega
theorem b7u (a : Nm.Rt) (ha : Rb 17179869184 a) : FZ 142 [rc a] (rq (- Nm.j3 a)) := by
  refine q9.of b6u b5Y (by exact Nat.le_of_ble_eq_true rfl) fun w O hw => ?_
  have hfa := X7 a ha
  generalize Nm.j3 a = p at *
  simp only [a9v, l6, TT, II, OA, OB, OC, MM, LL, VV, FF, MG, LG, VG, FG]
  unfold rq at *
  rw [a9Q]
  simp only [rc, sb, Nm.ofQ] at *
  (repeat first | refine uA ?_ | (refine uK ?_ ?_; focus first | omega | (intros; simp_all <;> omega)) | simp (disch := omega) only [go_sem, Nat.reduceBEq, Nat.reduceAdd, ww, a0r, b1l] | (refine uD hfa ?_ ?_ ?_; exact tz hw; exact rfl))
  (refine S.done ?_; simp only [D8, x9, go_sem, Nat.reduceBEq, Nat.reduceAdd, Nat.reduceLeDiff, Int.reduceToNat, Int.reducePow]; (repeat (refine ⟨?_, ?_⟩; focus first | trivial | omega | simp)); exact d9.out rfl (Imp.refl rfl) rfl)
theorem b8e {k : Nat} {a : Nm.Rt} (h : Rb k a) (hk : 1 <= k) : Rb k (Nm.ofQ (- Nm.j3 a)) := by
  obtain ⟨h1, h2⟩ := h.fit hk
  rw [a9Q]
  exact ⟨h1, h2⟩
theorem b3a (a b : Nm.Rt) (ha : Rb 17179869184 a) (hb : Rb 17179869184 b) : FZ 158 [rc a, rc b] (rq (Nm.j3 a - Nm.j3 b)) := by
  refine q9.of b5A b6f (by exact Nat.le_of_ble_eq_true rfl) fun w O hw => ?_
  have hn := b7u b hb
  have hadd := c1I a (Nm.ofQ (- Nm.j3 b)) ha (b8e hb (by decide))
  rw [Nm.a0b, <- Rat.sub_eq_add_neg] at hadd
  unfold rq at *
  generalize Nm.ofQ (- Nm.j3 b) = c at *
  generalize Nm.ofQ (Nm.j3 a - Nm.j3 b) = d at *
  simp only [a9F, l6, TT, II, OA, OB, OC, MM, LL, VV, FF, MG, LG, VG, FG]
  simp only [rc, sb] at *
  (repeat first | refine uA ?_ | (refine uK ?_ ?_; focus first | omega | (intros; simp_all <;> omega)) | simp (disch := omega) only [go_sem, Nat.reduceBEq, Nat.reduceAdd, ww] | (refine uD hn ?_ ?_ ?_; exact tz hw; exact rfl) | (refine uD hadd ?_ ?_ ?_; exact tz hw; exact rfl))
  (refine S.done ?_; simp only [D8, x9, go_sem, Nat.reduceBEq, Nat.reduceAdd, Nat.reduceLeDiff, Int.reduceToNat, Int.reducePow]; (repeat (refine ⟨?_, ?_⟩; focus first | trivial | omega | simp)); exact d9.out rfl (Imp.refl rfl) rfl)
theorem O3 (a : Nm.Rt) (ha : Rb 17179869184 a) : FZ 15 [rc a] (ints (A8 (Nm.j3 a))) := by
  refine q9.of b3W b4h (by exact Nat.le_of_ble_eq_true rfl) fun w O hw => ?_
  have hfa := X7 a ha
  generalize Nm.j3 a = p at *
  simp only [a8t, l6, TT, II, OA, OB, OC, MM, LL, VV, FF, MG, LG, VG, FG]
  simp only [rq, rc, sb, Nm.ofQ, ints] at *
  (repeat first | refine uA ?_ | (refine uK ?_ ?_; focus first | omega | (intros; simp_all <;> omega)) | simp (disch := omega) only [go_sem, Nat.reduceBEq, Nat.reduceAdd, ww, a0r, b1l] | (refine uD hfa ?_ ?_ ?_; exact tz hw; exact rfl))
  (refine uJ rfl (fun hc => ?_) fun hc => ?_)
  · have : A8 p = 0 := by unfold A8; rw [if_pos (by omega)]
    rw [this]
    (repeat first | refine uA ?_ | (refine uK ?_ ?_; focus first | omega | (intros; simp_all <;> omega)) | simp (disch := omega) only [go_sem, Nat.reduceBEq, Nat.reduceAdd, ww])
    exact S.done (d9.out rfl (Imp.refl rfl) rfl)
  (repeat first | refine uA ?_ | (refine uK ?_ ?_; focus first | omega | (intros; simp_all <;> omega)) | simp (disch := omega) only [go_sem, Nat.reduceBEq, Nat.reduceAdd, ww])
  (refine uJ rfl (fun hc => ?_) fun hc => ?_)
  · have : A8 p = -1 := by unfold A8; rw [if_neg (by omega), if_pos hc]
    rw [this]
    (repeat first | refine uA ?_ | (refine uK ?_ ?_; focus first | omega | (intros; simp_all <;> omega)) | simp (disch := omega) only [go_sem, Nat.reduceBEq, Nat.reduceAdd, ww])
    exact S.done (d9.out rfl (Imp.refl rfl) rfl)
  · have : A8 p = 1 := by unfold A8; rw [if_neg (by omega), if_neg hc]
    rw [this]
    (repeat first | refine uA ?_ | (refine uK ?_ ?_; focus first | omega | (intros; simp_all <;> omega)) | simp (disch := omega) only [go_sem, Nat.reduceBEq, Nat.reduceAdd, ww])
    exact S.done (d9.out rfl (Imp.refl rfl) rfl)
theorem a9D (a b : Nat) : -1 <= Nm.a0l a b /\ Nm.a0l a b <= 1 := by
  unfold Nm.a0l
  by_cases h : a < b
  · rw [if_pos h]; omega
  · rw [if_neg h]; split <;> omega
theorem a0J (a b : Nm.Rt) (ha : Rb 17179869184 a) (hb : Rb 17179869184 b) : FZ 52 [rc a, rc b] (ints (Nm.E5 (Nm.j3 a) (Nm.j3 b))) := by
  refine q9.of (eff := eff) Tryz.func52 (by conv => { lhs; cbv }) (by exact Nat.le_of_ble_eq_true rfl) fun w O hw => ?_
  have hfa := X7 a ha
  have hfb := X7 b hb
  obtain ⟨n1, d1⟩ := ha.fit (by decide)
  obtain ⟨n2, d2⟩ := hb.fit (by decide)
  generalize Nm.j3 a = p at *
  generalize Nm.j3 b = q at *
  rw [Nm.c0I]
  simp only [Nm.ofQ] at n1 d1 n2 d2
  have l1 := Nm.M4 n1 d2
  have l2 := Nm.M4 n2 d1
  have m1 := a4H (Nm.enc p.num.natAbs) (Nm.enc q.den) (by omega) (by omega)
  have m2 := a4H (Nm.enc q.num.natAbs) (Nm.enc p.den) (by omega) (by omega)
  simp only [Nm.J5] at m1 m2
  have hcmp := a9W (Nm.enc (p.num.natAbs * q.den)) (Nm.enc (q.num.natAbs * p.den)) (by omega) (by omega)
  simp only [Nm.J5] at hcmp
  have hcr := a9D (p.num.natAbs * q.den) (q.num.natAbs * p.den)
  generalize Nm.a0l (p.num.natAbs * q.den) (q.num.natAbs * p.den) = cn at *
  simp only [l6]
  simp only [rq, rc, sb, Nm.ofQ, ints] at *
  generalize decide (p.num < 0) = bp at *
  generalize decide (q.num < 0) = bq at *
  (repeat first | refine uA ?_ | (refine uK ?_ ?_; focus first | omega | (intros; simp_all <;> omega)) | simp (disch := omega) only [go_sem, Nat.reduceBEq, Nat.reduceAdd, ww] | (refine uD hfa ?_ ?_ ?_; exact tz hw; exact rfl) | (refine uD hfb ?_ ?_ ?_; exact tz hw; exact rfl))
  refine S.cond rfl (fun hc => ?_) (fun hc => ?_)
  · have hne : bp ≠ bq := by simpa using hc
    rw [if_pos hne]
    (repeat first | refine uA ?_ | (refine uK ?_ ?_; focus first | omega | (intros; simp_all <;> omega)) | simp (disch := omega) only [go_sem, Nat.reduceBEq, Nat.reduceAdd, ww])
    refine S.cond rfl (fun hc => ?_) (fun hc => ?_)
    · rw [if_pos hc]
      (repeat first | refine uA ?_ | (refine uK ?_ ?_; focus first | omega | (intros; simp_all <;> omega)) | simp (disch := omega) only [go_sem, Nat.reduceBEq, Nat.reduceAdd, ww])
      exact S.done (d9.out rfl (Imp.refl rfl) rfl)
    · rw [if_neg (by simp [hc])]
      (repeat first | refine uA ?_ | (refine uK ?_ ?_; focus first | omega | (intros; simp_all <;> omega)) | simp (disch := omega) only [go_sem, Nat.reduceBEq, Nat.reduceAdd, ww])
      exact S.done (d9.out rfl (Imp.refl rfl) rfl)
  · have he : bp = bq := by simpa using hc
    rw [if_neg (by simp [he])]
    (repeat first | refine uA ?_ | (refine uK ?_ ?_; focus first | omega | (intros; simp_all <;> omega)) | simp (disch := omega) only [go_sem, Nat.reduceBEq, Nat.reduceAdd, ww] | (refine uB m1 ?_ ?_; exact rfl) | (refine uB m2 ?_ ?_; exact rfl) | (refine uB hcmp ?_ ?_; exact rfl))
    refine S.cond rfl (fun hc => ?_) (fun hc => ?_)
    · rw [if_pos hc]
      have hneg : IntKind.i64.wrap (0 - cn) = - cn := by rw [Eng.wrap_i64 (by omega)]; omega
      (repeat first | refine uA ?_ | (refine uK ?_ ?_; focus first | omega | (intros; simp_all <;> omega)) | simp (disch := omega) only [go_sem, Nat.reduceBEq, Nat.reduceAdd, ww, hneg])
      exact S.done (d9.out rfl (Imp.refl rfl) rfl)
    · rw [if_neg (by simp [hc])]
      (repeat first | refine uA ?_ | (refine uK ?_ ?_; focus first | omega | (intros; simp_all <;> omega)) | simp (disch := omega) only [go_sem, Nat.reduceBEq, Nat.reduceAdd, ww])
      exact S.done (d9.out rfl (Imp.refl rfl) rfl)
def a1Q (p q : Rat) : Rat := if Nm.E5 p q <= 0 then p else q
def a6s (p q : Rat) : Rat := if Nm.E5 p q >= 0 then p else q
theorem b7k (a b : Nm.Rt) (ha : Rb 17179869184 a) (hb : Rb 17179869184 b) : FZ 153 [rc a, rc b] (rq (a1Q (Nm.j3 a) (Nm.j3 b))) := by
  refine q9.of b5Q b6e (by exact Nat.le_of_ble_eq_true rfl) fun w O hw => ?_
  have hfa := X7 a ha
  have hfb := X7 b hb
  have hc := a0J a b ha hb
  unfold a1Q
  generalize Nm.E5 (Nm.j3 a) (Nm.j3 b) = cn at *
  simp only [a9g, l6, TT, II, OA, OB, OC, MM, LL, VV, FF, MG, LG, VG, FG]
  unfold rq at *
  generalize Nm.j3 a = p at *
  generalize Nm.j3 b = q at *
  simp only [rc, sb, ints] at *
  (repeat first | refine uA ?_ | (refine uK ?_ ?_; focus first | omega | (intros; simp_all <;> omega)) | simp (disch := omega) only [go_sem, Nat.reduceBEq, Nat.reduceAdd, ww] | (refine uD hc ?_ ?_ ?_; exact tz hw; exact rfl))
  (refine uJ rfl (fun hc => ?_) fun hc => ?_)
  · rw [if_pos hc]
    (repeat first | refine uA ?_ | (refine uK ?_ ?_; focus first | omega | (intros; simp_all <;> omega)) | simp (disch := omega) only [go_sem, Nat.reduceBEq, Nat.reduceAdd, ww] | (refine uD hfa ?_ ?_ ?_; exact tz hw; exact rfl))
    (refine S.done ?_; simp only [D8, x9, go_sem, Nat.reduceBEq, Nat.reduceAdd, Nat.reduceLeDiff, Int.reduceToNat, Int.reducePow]; (repeat (refine ⟨?_, ?_⟩; focus first | trivial | omega | simp)); exact d9.out rfl (Imp.refl rfl) rfl)
  · rw [if_neg hc]
    (repeat first | refine uA ?_ | (refine uK ?_ ?_; focus first | omega | (intros; simp_all <;> omega)) | simp (disch := omega) only [go_sem, Nat.reduceBEq, Nat.reduceAdd, ww] | (refine uD hfb ?_ ?_ ?_; exact tz hw; exact rfl))
    (refine S.done ?_; simp only [D8, x9, go_sem, Nat.reduceBEq, Nat.reduceAdd, Nat.reduceLeDiff, Int.reduceToNat, Int.reducePow]; (repeat (refine ⟨?_, ?_⟩; focus first | trivial | omega | simp)); exact d9.out rfl (Imp.refl rfl) rfl)
theorem c2I (a b : Nm.Rt) (ha : Rb 17179869184 a) (hb : Rb 17179869184 b) : FZ 74 [rc a, rc b] (rq (a6s (Nm.j3 a) (Nm.j3 b))) := by
  refine q9.of b6k b6L (by exact Nat.le_of_ble_eq_true rfl) fun w O hw => ?_
  have hfa := X7 a ha
  have hfb := X7 b hb
  have hc := a0J a b ha hb
  unfold a6s
  generalize Nm.E5 (Nm.j3 a) (Nm.j3 b) = cn at *
  simp only [a9O, l6, TT, II, OA, OB, OC, MM, LL, VV, FF, MG, LG, VG, FG]
  unfold rq at *
  generalize Nm.j3 a = p at *
  generalize Nm.j3 b = q at *
  simp only [rc, sb, ints] at *
  (repeat first | refine uA ?_ | (refine uK ?_ ?_; focus first | omega | (intros; simp_all <;> omega)) | simp (disch := omega) only [go_sem, Nat.reduceBEq, Nat.reduceAdd, ww] | (refine uD hc ?_ ?_ ?_; exact tz hw; exact rfl))
  (refine uJ rfl (fun hc => ?_) fun hc => ?_)
  · rw [if_pos hc]
    (repeat first | refine uA ?_ | (refine uK ?_ ?_; focus first | omega | (intros; simp_all <;> omega)) | simp (disch := omega) only [go_sem, Nat.reduceBEq, Nat.reduceAdd, ww] | (refine uD hfa ?_ ?_ ?_; exact tz hw; exact rfl))
    (refine S.done ?_; simp only [D8, x9, go_sem, Nat.reduceBEq, Nat.reduceAdd, Nat.reduceLeDiff, Int.reduceToNat, Int.reducePow]; (repeat (refine ⟨?_, ?_⟩; focus first | trivial | omega | simp)); exact d9.out rfl (Imp.refl rfl) rfl)
  · rw [if_neg hc]
    (repeat first | refine uA ?_ | (refine uK ?_ ?_; focus first | omega | (intros; simp_all <;> omega)) | simp (disch := omega) only [go_sem, Nat.reduceBEq, Nat.reduceAdd, ww] | (refine uD hfb ?_ ?_ ?_; exact tz hw; exact rfl))
    (refine S.done ?_; simp only [D8, x9, go_sem, Nat.reduceBEq, Nat.reduceAdd, Nat.reduceLeDiff, Int.reduceToNat, Int.reducePow]; (repeat (refine ⟨?_, ?_⟩; focus first | trivial | omega | simp)); exact d9.out rfl (Imp.refl rfl) rfl)
theorem c2G (a : Nm.Rt) (ha : Rb 17179869184 a) : FZ 75 [rc a] (rc ⟨false, Nm.enc (Nm.j3 a).num.natAbs, Nm.enc (Nm.j3 a).den⟩) := by
  refine q9.of b5W b6m (by exact Nat.le_of_ble_eq_true rfl) fun w O hw => ?_
  have hfa := X7 a ha
  generalize Nm.j3 a = p at *
  simp only [a9T, l6, TT, II, OA, OB, OC, MM, LL, VV, FF, MG, LG, VG, FG]
  unfold rq at *
  simp only [rc, sb, Nm.ofQ] at *
  (repeat first | refine uA ?_ | (refine uK ?_ ?_; focus first | omega | (intros; simp_all <;> omega)) | simp (disch := omega) only [go_sem, Nat.reduceBEq, Nat.reduceAdd, ww] | (refine uD hfa ?_ ?_ ?_; exact tz hw; exact rfl))
  (refine S.done ?_; simp only [D8, x9, go_sem, Nat.reduceBEq, Nat.reduceAdd, Nat.reduceLeDiff, Int.reduceToNat, Int.reducePow]; (repeat (refine ⟨?_, ?_⟩; focus first | trivial | omega | simp)); exact d9.out rfl (Imp.refl rfl) rfl)
def j4 (a : Nm.Rt) : Bool := decide (a.num.length <= 3) && decide (a.den.length <= 2) && decide a.F3 && decide (Nm.val a.num <= 1000000) && decide (Nm.val a.den <= 1000)
theorem b4I (a b : Nat) : (Nm.a0l a b <= 0) = (a <= b) := by
  unfold Nm.a0l
  by_cases h : a < b
  · rw [if_pos h]; simp; omega
  · rw [if_neg h]; split
    · simp; omega
    · simp; omega
theorem a2Q (a : Nm.Rt) (ha : Rb 17179869184 a) : FZ 84 [rc a] (.v (.bool (j4 a))) := by
  refine q9.of (eff := eff) Tryz.func84 (by conv => { lhs; cbv }) (by exact Nat.le_of_ble_eq_true rfl) fun w O hw => ?_
  have hg := a1x a ⟨by have := ha.1; omega, by have := ha.2; omega⟩
  have ho1 := b6y 1000000 (by decide)
  have ho2 := b6y 1000 (by decide)
  have hb : ∀ k : Nat, k <= 1000000 -> (Nm.enc k).length <= 8 := fun k hk => Nm.L6 (by omega)
  have hb1 := hb 1000000 (by decide)
  have hb2 := hb 1000 (by decide)
  have hc1 := a9W a.num (Nm.enc 1000000) (by have := ha.1; omega) (by omega)
  have hc2 := a9W a.den (Nm.enc 1000) (by have := ha.2; omega) (by omega)
  rw [Nm.J5] at hc1 hc2
  rw [show (1000000 : Int).toNat = 1000000 from rfl] at ho1
  rw [show (1000 : Int).toNat = 1000 from rfl] at ho2
  have hl1 := b4I (Nm.val a.num) 1000000
  have hl2 := b4I (Nm.val a.den) 1000
  unfold j4
  generalize decide a.F3 = g at *
  generalize Nm.enc 1000000 = e1 at *
  generalize Nm.enc 1000 = e2 at *
  obtain ⟨neg, num, den⟩ := a
  obtain ⟨r1, r2⟩ := ha
  simp only [l6]
  simp only [rc, sb, ints] at *
  generalize Nm.a0l (Nm.val num) 1000000 = c1 at *
  generalize Nm.a0l (Nm.val den) 1000 = c2 at *
  simp only [<- hl1, <- hl2]
  have hi1 : decide ((num.length : Int) <= 3) = decide (num.length <= 3) := decide_eq_decide.2 (by omega)
  have hi2 : decide ((den.length : Int) <= 2) = decide (den.length <= 2) := decide_eq_decide.2 (by omega)
  (repeat first | refine uA ?_ | (refine uK ?_ ?_; focus first | omega | (intros; simp_all <;> omega)) | simp (disch := omega) only [go_sem, Nat.reduceBEq, Nat.reduceAdd, ww, w9, hi1, hi2] | (refine uB ho1 ?_ ?_; exact rfl) | (refine uB ho2 ?_ ?_; exact rfl) | (refine uB hc1 ?_ ?_; exact rfl) | (refine uB hc2 ?_ ?_; exact rfl) | (refine uD hg ?_ ?_ ?_; exact tz hw; exact rfl))
  exact S.done (d9.out rfl (Imp.refl rfl) rfl)
open Go Eng
def a9c : F5 := ⟨16, [.cell 4 true 6], .seq (.reg [OA 2 (.box 51 (TT 0)), OA 3 (.box 51 (TT 1)), OA 4 (.alloc 51 [.bool false, .string ⟨#[]⟩, .string ⟨#[]⟩, .bool false, .string ⟨#[]⟩, .string ⟨#[]⟩])]) (.seq (.K3 [.q, .q, .q, .q, .q, .q, .q,
  .q, .q, .q, .q, .e none true] [FF 5 0 2, LL 6 3 5, FF 7 0 3, LL 8 3 7, OA 9 (.call 158 [TT 6, TT 8]), FF 10 3 2, LL 11 3 10, FF 12 3 3, LL 13 3 12, OA 14 (.call 158 [TT 11, TT 13]), OA 15 (.build [.bool false, .string ⟨#[]⟩,
  .string ⟨#[]⟩, .bool false, .string ⟨#[]⟩, .string ⟨#[]⟩] [(0, (3, TT 9)), (3, (3, TT 14))]), OB (.store 6 (TT 4) (TT 15))]) .ret)⟩
theorem b5y : C8 eff Tryz.prog Tryz.f72 = some a9c := by kernel_rfl
theorem b6J : Tryz.prog.funcs[72]? = some Tryz.f72 := Tryz.func72
def a6H : F5 := ⟨16, [.cell 4 true 3], .seq (.reg [OA 2 (.box 51 (TT 0)), OA 3 (.box 51 (TT 1)), OA 4 (.alloc 29 [.bool false, .string ⟨#[]⟩, .string ⟨#[]⟩])]) (.seq (.K3 [.q, .q, .q, .q, .q, .q, .q, .q, .q, .q, .q, .e none true] [FF 5 0 2, LL
  6 3 5, FF 7 3 3, LL 8 3 7, OA 9 (.call 172 [TT 6, TT 8]), FF 10 3 2, LL 11 3 10, FF 12 0 3, LL 13 3 12, OA 14 (.call 172 [TT 11, TT 13]), OA 15 (.call 158 [TT 9, TT 14]), OB (.store 3 (TT 4) (TT 15))]) .ret)⟩
theorem b3q : C8 eff Tryz.prog Tryz.f263 = some a6H := by kernel_rfl
theorem b3s : Tryz.prog.funcs[263]? = some Tryz.f263 := Tryz.func263
def a9m : F5 := ⟨7, [.cell 2 true 4], .seq (.reg [OA 1 (.box 29 (TT 0)), OA 2 (.alloc 53 [.bool false, .bool false, .string ⟨#[]⟩, .string ⟨#[]⟩])]) (.seq (.reg [LL 3 3 1, LL 4 3 1, OA 5 (.call 153 [TT 3, TT 4]), OA 6 (.build [.bool false, .bool
  false, .string ⟨#[]⟩, .string ⟨#[]⟩] [(1, (3, TT 5))]), OB (.store 4 (TT 2) (TT 6))]) .ret)⟩
theorem b6r : C8 eff Tryz.prog Tryz.f213 = some a9m := by kernel_rfl
theorem b5x : Tryz.prog.funcs[213]? = some Tryz.f213 := Tryz.func213
def a6C : F5 := ⟨5, [.tmp 2], .seq (.reg [OA 2 (.mv (II 0))]) (.seq (.reg [MM 3 0, OA 4 (.call 232 [TT 3, II 8]), MM 2 4]) .ret)⟩
theorem b1L : C8 eff Tryz.prog Tryz.f201 = some a6C := by kernel_rfl
theorem b1J : Tryz.prog.funcs[201]? = some Tryz.f201 := Tryz.func201
def a7v : F5 := ⟨15, [.tmp 6], .seq (.reg [OA 3 (.box 51 (TT 0)), OA 4 (.box 51 (TT 1)), OA 5 (.box 51 (TT 2)), OA 6 (.mv (II 0))]) (.seq (.K3 [.q, .q, .q, .q, .q, .q, .q, .q, .q] [LL 7 6 4, LL 8 6 3, OA 9 (.call 72 [TT 7, TT 8]), LL 10 6 5, LL
  11 6 3, OA 12 (.call 72 [TT 10, TT 11]), OA 13 (.call 263 [TT 9, TT 12]), OA 14 (.call 15 [TT 13]), MM 6 14]) .ret)⟩
theorem b2T : C8 eff Tryz.prog Tryz.f251 = some a7v := by kernel_rfl
theorem b2r : Tryz.prog.funcs[251]? = some Tryz.f251 := Tryz.func251
def a9X : F5 := ⟨16, [.tmp 4], .seq (.reg [OA 2 (.box 76 (TT 0)), OA 4 (.mv (II 0))]) (.seq (.seq (.reg [LL 6 12 2, OA 7 (.call 87 [TT 6]), MM 5 7]) (.seq (.reg [MM 8 5, OA 9 (.bin .neq (TT 8) (II 0))]) (.cond (TT 9) (.seq (.reg [MM 10 5, MM 4
  10]) .ret) .skip))) (.seq (.seq (.reg [MM 11 1, FF 12 11 2, VV 13 12, OA 14 (.len false (TT 13)), OA 15 (.bin .neq (TT 11) (TT 14))]) (.cond (TT 15) (.seq (.reg [OA 4 (.mv (II 1))]) .ret) .skip)) (.seq (.reg [OA 4 (.mv (II 0))])
  .ret)))⟩
theorem b6F : C8 eff Tryz.prog Tryz.f212 = some a9X := by kernel_rfl
theorem b5I : Tryz.prog.funcs[212]? = some Tryz.f212 := Tryz.func212
def tc (h : Bool) (a : Nm.Rt) : C := .agg [.v (.bool h), .v (.bool a.neg), sb a.num, sb a.den]
def tq (h : Bool) (q : Rat) : C := tc h (Nm.ofQ q)
theorem c3b (a : Nm.Rt) (ha : Rb 17179869184 a) : FZ 213 [rc a] (tq false (Nm.j3 a)) := by
  refine q9.of b5x b6r (by exact Nat.le_of_ble_eq_true rfl) fun w O hw => ?_
  have hm := b7k a a ha ha
  have e : a1Q (Nm.j3 a) (Nm.j3 a) = Nm.j3 a := by unfold a1Q; split <;> rfl
  rw [e] at hm
  unfold rq tq at *
  generalize Nm.ofQ (Nm.j3 a) = r at *
  simp only [a9m, l6, TT, II, OA, OB, OC, MM, LL, VV, FF, MG, LG, VG, FG]
  simp only [rc, tc, sb] at *
  (repeat first | refine uA ?_ | (refine uK ?_ ?_; focus first | omega | (intros; simp_all <;> omega)) | simp (disch := omega) only [go_sem, Nat.reduceBEq, Nat.reduceAdd, ww] | (refine uD hm ?_ ?_ ?_; exact tz hw; exact rfl))
  (refine S.done ?_; simp only [D8, x9, go_sem, Nat.reduceBEq, Nat.reduceAdd, Nat.reduceLeDiff, Int.reduceToNat, Int.reducePow]; (repeat (refine ⟨?_, ?_⟩; focus first | trivial | omega | simp)); exact d9.out rfl (Imp.refl rfl) rfl)
theorem b4O {neg : Bool} {n d k m : Nat} (hd : d ≠ 0) (hn : (Nm.enc n).length <= k) (hdl : (Nm.enc d).length <= k) (hk : 1 <= k) (hm : k <= m) : Rb m (Nm.ofQ (mkRat (Nm.sgn neg n) d)) := by
  rw [<- Nm.b0d neg hd]
  split
  · exact ⟨Nat.zero_le _, Nat.le_trans hk hm⟩
  · exact ⟨Nat.le_trans (Nm.a4D (Nat.div_le_self _ _)) (Nat.le_trans hn hm), Nat.le_trans (Nm.a4D (Nat.div_le_self _ _)) (Nat.le_trans hdl hm)⟩
theorem b7B {k : Nat} {p : Rat} (h : Rb k (Nm.ofQ p)) : 1 <= k := by
  have h1 := h.2
  simp only [Nm.ofQ] at h1
  have : Nm.enc p.den ≠ [] := Nm.a5C p.den_nz
  have := List.length_pos_iff.2 this
  omega
theorem c1Y {k m : Nat} {p q : Rat} (hp : Rb k (Nm.ofQ p)) (hq : Rb m (Nm.ofQ q)) : Rb (k + m + 1) (Nm.ofQ (p + q)) := by
  have h1 := b7B hp
  rw [<- Nm.b1p p q]
  have l1 := Nm.M4 hp.1 hq.2
  have l2 := Nm.M4 hq.1 hp.2
  have l3 := Nm.M4 hp.2 hq.2
  exact b4O (k := k + m + 1) (Nat.mul_ne_zero p.den_nz q.den_nz) (Nat.le_trans (Nm.a4D (Nm.a6g _ _ _ _)) (Nm.a5j l1 (by omega))) (by omega) (by omega) (Nat.le_refl _)
theorem a9U {k m : Nat} {p q : Rat} (hp : Rb k (Nm.ofQ p)) (hq : Rb m (Nm.ofQ q)) : Rb (k + m) (Nm.ofQ (p * q)) := by
  have h1 := b7B hp
  rw [<- Nm.b2y p q]
  exact b4O (k := k + m) (Nat.mul_ne_zero p.den_nz q.den_nz) (Nm.M4 hp.1 hq.1) (Nm.M4 hp.2 hq.2) (by omega) (Nat.le_refl _)
theorem c1G {k : Nat} {p : Rat} (hp : Rb k (Nm.ofQ p)) : Rb k (Nm.ofQ (-p)) := by
  rw [a9Q]; exact hp
theorem a7i {k m : Nat} {p q : Rat} (hp : Rb k (Nm.ofQ p)) (hq : Rb m (Nm.ofQ q)) : Rb (k + m + 1) (Nm.ofQ (p - q)) := by
  rw [Rat.sub_eq_add_neg]; exact c1Y hp (c1G hq)
theorem Rb.mono {k m : Nat} {a : Nm.Rt} (h : Rb k a) (hm : k <= m) : Rb m a := ⟨Nat.le_trans h.1 hm, Nat.le_trans h.2 hm⟩
theorem c3e (p q : Rat) (hp : Rb 17179869184 (Nm.ofQ p)) (hq : Rb 17179869184 (Nm.ofQ q)) : FZ 158 [rq p, rq q] (rq (p - q)) := by
  have := b3a (Nm.ofQ p) (Nm.ofQ q) hp hq
  rwa [Nm.a0b, Nm.a0b] at this
theorem c0g (p q : Rat) (hp : Rb 17179869184 (Nm.ofQ p)) (hq : Rb 17179869184 (Nm.ofQ q)) : FZ 172 [rq p, rq q] (rq (p * q)) := by
  have := c2F (Nm.ofQ p) (Nm.ofQ q) hp hq
  rwa [Nm.a0b, Nm.a0b] at this
def vc (x y : Nm.Rt) : C := .agg [.v (.bool x.neg), sb x.num, sb x.den, .v (.bool y.neg), sb y.num, sb y.den]
def vq (x y : Rat) : C := vc (Nm.ofQ x) (Nm.ofQ y)
theorem b7d (a b c d : Nm.Rt) (ha : Rb 17179869184 a) (hb : Rb 17179869184 b) (hc : Rb 17179869184 c) (hd : Rb 17179869184 d) :
    FZ 72 [vc a b, vc c d] (vq (Nm.j3 a - Nm.j3 c) (Nm.j3 b - Nm.j3 d)) := by
  refine q9.of b6J b5y (by exact Nat.le_of_ble_eq_true rfl) fun w O hw => ?_
  have h1 := b3a a c ha hc
  have h2 := b3a b d hb hd
  unfold vq rq at *
  generalize Nm.ofQ (Nm.j3 a - Nm.j3 c) = r1 at *
  generalize Nm.ofQ (Nm.j3 b - Nm.j3 d) = r2 at *
  simp only [a9c, l6, TT, II, OA, OB, OC, MM, LL, VV, FF, MG, LG, VG, FG]
  simp only [rc, vc, sb] at *
  (repeat first | refine uA ?_ | (refine uK ?_ ?_; focus first | omega | (intros; simp_all <;> omega)) | simp (disch := omega) only [go_sem, Nat.reduceBEq, Nat.reduceAdd, ww] | (refine uD h1 ?_ ?_ ?_; exact tz hw; exact rfl) | (refine uD h2 ?_ ?_ ?_; exact tz hw; exact rfl))
  (refine S.done ?_; simp only [D8, x9, go_sem, Nat.reduceBEq, Nat.reduceAdd, Nat.reduceLeDiff, Int.reduceToNat, Int.reducePow]; (repeat (refine ⟨?_, ?_⟩; focus first | trivial | omega | simp)); exact d9.out rfl (Imp.refl rfl) rfl)
structure Vt where
  x : Nm.Rt
  y : Nm.Rt
def Vt.enc (v : Vt) : List C := [.v (.bool v.x.neg), sb v.x.num, sb v.x.den, .v (.bool v.y.neg), sb v.y.num, sb v.y.den]
def Vt.c (v : Vt) : C := .agg v.enc
def Vt.zero : Vt := ⟨⟨false, [], []⟩, ⟨false, [], []⟩⟩
def Vb (k : Nat) (v : Vt) : Prop := Rb k v.x /\ Rb k v.y
theorem Vb.mono {k m : Nat} {v : Vt} (h : Vb k v) (hm : k <= m) : Vb m v := ⟨h.1.mono hm, h.2.mono hm⟩
theorem b9D (a b c d : Rat) (ha : Rb 4294967296 (Nm.ofQ a)) (hb : Rb 4294967296 (Nm.ofQ b)) (hc : Rb 4294967296 (Nm.ofQ c)) (hd : Rb 4294967296 (Nm.ofQ d)) :
    FZ 263 [vq a b, vq c d] (rq (a * d - b * c)) := by
  refine q9.of b3s b3q (by exact Nat.le_of_ble_eq_true rfl) fun w O hw => ?_
  have h1 := c0g a d (ha.mono (by decide)) (hd.mono (by decide))
  have h2 := c0g b c (hb.mono (by decide)) (hc.mono (by decide))
  have h3 := c3e (a * d) (b * c) ((a9U ha hd).mono (by decide)) ((a9U hb hc).mono (by decide))
  unfold vq rq at *
  generalize Nm.ofQ (a * d - b * c) = r3 at *
  generalize Nm.ofQ (a * d) = r1 at *
  generalize Nm.ofQ (b * c) = r2 at *
  generalize Nm.ofQ a = ra at *
  generalize Nm.ofQ b = rb at *
  generalize Nm.ofQ c = r at *
  generalize Nm.ofQ d = rd at *
  simp only [a6H, l6, TT, II, OA, OB, OC, MM, LL, VV, FF, MG, LG, VG, FG]
  simp only [rc, vc, sb] at *
  (repeat first | refine uA ?_ | (refine uK ?_ ?_; focus first | omega | (intros; simp_all <;> omega)) | simp (disch := omega) only [go_sem, Nat.reduceBEq, Nat.reduceAdd, ww] | (refine uD h1 ?_ ?_ ?_; exact tz hw; exact rfl) | (refine uD h2 ?_ ?_ ?_; exact tz hw; exact rfl) | (refine uD h3 ?_ ?_ ?_; exact tz hw; exact rfl))
  (refine S.done ?_; simp only [D8, x9, go_sem, Nat.reduceBEq, Nat.reduceAdd, Nat.reduceLeDiff, Int.reduceToNat, Int.reducePow]; (repeat (refine ⟨?_, ?_⟩; focus first | trivial | omega | simp)); exact d9.out rfl (Imp.refl rfl) rfl)
def a7F (a b c : Vt) : Int := A8 ((Nm.j3 b.x - Nm.j3 a.x) * (Nm.j3 c.y - Nm.j3 a.y) - (Nm.j3 b.y - Nm.j3 a.y) * (Nm.j3 c.x - Nm.j3 a.x))
theorem c2d (a b c : Vt) (ha : Vb 1073741824 a) (hb : Vb 1073741824 b) (hc : Vb 1073741824 c) : FZ 251 [a.c, b.c, c.c] (ints (a7F a b c)) := by
  refine q9.of b2r b2T (by exact Nat.le_of_ble_eq_true rfl) fun w O hw => ?_
  have h1 := b7d b.x b.y a.x a.y (hb.1.mono (by decide)) (hb.2.mono (by decide)) (ha.1.mono (by decide)) (ha.2.mono (by decide))
  have h2 := b7d c.x c.y a.x a.y (hc.1.mono (by decide)) (hc.2.mono (by decide)) (ha.1.mono (by decide)) (ha.2.mono (by decide))
  have g1 := a7i (hb.1.fit (by decide)) (ha.1.fit (by decide))
  have g2 := a7i (hb.2.fit (by decide)) (ha.2.fit (by decide))
  have g3 := a7i (hc.1.fit (by decide)) (ha.1.fit (by decide))
  have g4 := a7i (hc.2.fit (by decide)) (ha.2.fit (by decide))
  unfold a7F
  generalize Nm.j3 b.x - Nm.j3 a.x = p1 at *
  generalize Nm.j3 b.y - Nm.j3 a.y = p2 at *
  generalize Nm.j3 c.x - Nm.j3 a.x = p3 at *
  generalize Nm.j3 c.y - Nm.j3 a.y = p4 at *
  have h3 := b9D p1 p2 p3 p4 (g1.mono (by decide)) (g2.mono (by decide)) (g3.mono (by decide)) (g4.mono (by decide))
  have g5 := a7i (a9U g1 g4) (a9U g2 g3)
  have h4 := O3 (Nm.ofQ (p1 * p4 - p2 * p3)) (g5.mono (by decide))
  rw [Nm.a0b] at h4
  generalize p1 * p4 - p2 * p3 = p5 at *
  unfold vq rq at *
  generalize Nm.ofQ p1 = r1 at *
  generalize Nm.ofQ p2 = r2 at *
  generalize Nm.ofQ p3 = r3 at *
  generalize Nm.ofQ p4 = r4 at *
  generalize Nm.ofQ p5 = r5 at *
  simp only [a7v, l6, TT, II, OA, OB, OC, MM, LL, VV, FF, MG, LG, VG, FG]
  simp only [rc, vc, sb, Vt.c, Vt.enc] at *
  (repeat first | refine uA ?_ | (refine uK ?_ ?_; focus first | omega | (intros; simp_all <;> omega)) | simp (disch := omega) only [go_sem, Nat.reduceBEq, Nat.reduceAdd, ww] | (refine uD h1 ?_ ?_ ?_; exact tz hw; exact rfl) | (refine uD h2 ?_ ?_ ?_; exact tz hw; exact rfl) | (refine uD h3 ?_ ?_ ?_; exact tz hw; exact rfl) | (refine uD h4 ?_ ?_ ?_; exact tz hw; exact rfl))
  (refine S.done ?_; simp only [D8, x9, go_sem, Nat.reduceBEq, Nat.reduceAdd, Nat.reduceLeDiff, Int.reduceToNat, Int.reducePow]; (repeat (refine ⟨?_, ?_⟩; focus first | trivial | omega | simp)); exact d9.out rfl (Imp.refl rfl) rfl)
def F4 {α : Type} (f : α -> Int) : List α -> Int
  | [] => 0
  | x :: r => if f x = 0 then F4 f r else f x
def r9 {α σ : Type} (f : σ -> α -> Int × σ) : σ -> List α -> Int × σ
  | s, [] => (0, s)
  | s, x :: r => if (f s x).1 = 0 then r9 f (f s x).2 r else f s x
theorem drop_at {α : Type} {l : List α} {i : Nat} {x : α} (h : l[i]? = some x) : l.drop i = x :: l.drop (i + 1) := by
  obtain ⟨hi, rfl⟩ := List.getElem?_eq_some_iff.1 h
  exact List.drop_eq_getElem_cons hi
theorem a0f {α : Type} {f : α -> Int} {l : List α} {i : Nat} {x : α} (h : l[i]? = some x) (h0 : f x ≠ 0) : F4 f (l.drop i) = f x := by
  rw [drop_at h, F4, if_neg h0]
theorem a0k {α : Type} {f : α -> Int} {l : List α} {i : Nat} {x : α} (h : l[i]? = some x) (h0 : f x = 0) : F4 f (l.drop i) = F4 f (l.drop (i + 1)) := by
  rw [drop_at h, F4, if_pos h0]
theorem a0H {α : Type} {f : α -> Int} {l : List α} {i : Nat} (h : l.length <= i) : F4 f (l.drop i) = 0 := by
  rw [List.drop_eq_nil_of_le h, F4]
theorem U1 {α σ : Type} {f : σ -> α -> Int × σ} {s : σ} {l : List α} {i : Nat} {x : α} (h : l[i]? = some x) (h0 : (f s x).1 ≠ 0) : r9 f s (l.drop i) = f s x := by
  rw [drop_at h, r9, if_neg h0]
theorem U2 {α σ : Type} {f : σ -> α -> Int × σ} {s : σ} {l : List α} {i : Nat} {x : α} (h : l[i]? = some x) (h0 : (f s x).1 = 0) : r9 f s (l.drop i) = r9 f (f s x).2 (l.drop (i + 1)) := by
  rw [drop_at h, r9, if_pos h0]
theorem X6 {α σ : Type} {f : σ -> α -> Int × σ} {s : σ} {l : List α} {i : Nat} (h : l.length <= i) : r9 f s (l.drop i) = (0, s) := by
  rw [List.drop_eq_nil_of_le h, r9]
structure Fr where
  x : Nm.Rt
  y : Nm.Rt
  half : Bool
  t : Nm.Rt
structure Lk where
  length : Nm.Rt
  low : Nm.Rt
  high : Nm.Rt
  speed : Nm.Rt
  a0E : Nm.Rt
  shape : List Vt
structure Am where
  name : List UInt8
  base : Fr
  links : List Lk
structure Pt where
  name : List UInt8
  shape : List Vt
  X5 : Fr
structure Sl where
  name : List UInt8
  frame : Fr
  within : Nm.Rt
structure Gt where
  name : List UInt8
  low : Vt
  high : Vt
structure Wk where
  arms : List Am
  walls : List (List Vt)
  parts : List Pt
  slots : List Sl
  gates : List Gt
  walk : Nm.Rt
def rcs (a : Nm.Rt) : List C := [.v (.bool a.neg), sb a.num, sb a.den]
def Fr.enc (f : Fr) : List C := [.v (.bool f.x.neg), sb f.x.num, sb f.x.den, .v (.bool f.y.neg), sb f.y.num, sb f.y.den, .v (.bool f.half), .v (.bool f.t.neg), sb f.t.num, sb f.t.den]
def Fr.c (f : Fr) : C := .agg f.enc
def vts (l : List Vt) : C := .sl 6 (l.map Vt.enc)
def Lk.enc (l : Lk) : List C := [.v (.bool l.length.neg), sb l.length.num, sb l.length.den, .v (.bool l.low.neg), sb l.low.num, sb l.low.den, .v (.bool l.high.neg), sb l.high.num, sb l.high.den, .v (.bool l.speed.neg), sb l.speed.num, sb l.speed.den, .v (.bool l.a0E.neg), sb l.a0E.num, sb l.a0E.den, vts l.shape]
def Lk.c (l : Lk) : C := .agg l.enc
def lks (l : List Lk) : C := .sl 16 (l.map Lk.enc)
def Am.enc (a : Am) : List C := [sb a.name, .v (.bool a.base.x.neg), sb a.base.x.num, sb a.base.x.den, .v (.bool a.base.y.neg), sb a.base.y.num, sb a.base.y.den, .v (.bool a.base.half), .v (.bool a.base.t.neg), sb a.base.t.num, sb a.base.t.den, lks a.links]
def Am.c (a : Am) : C := .agg a.enc
def ams (l : List Am) : C := .sl 12 (l.map Am.enc)
def Pt.enc (p : Pt) : List C := [sb p.name, vts p.shape, .v (.bool p.X5.x.neg), sb p.X5.x.num, sb p.X5.x.den, .v (.bool p.X5.y.neg), sb p.X5.y.num, sb p.X5.y.den, .v (.bool p.X5.half), .v (.bool p.X5.t.neg), sb p.X5.t.num, sb p.X5.t.den]
def Pt.c (p : Pt) : C := .agg p.enc
def pts (l : List Pt) : C := .sl 12 (l.map Pt.enc)
def Sl.enc (s : Sl) : List C := [sb s.name, .v (.bool s.frame.x.neg), sb s.frame.x.num, sb s.frame.x.den, .v (.bool s.frame.y.neg), sb s.frame.y.num, sb s.frame.y.den, .v (.bool s.frame.half), .v (.bool s.frame.t.neg), sb s.frame.t.num, sb s.frame.t.den, .v (.bool s.within.neg), sb s.within.num, sb s.within.den]
def Sl.c (s : Sl) : C := .agg s.enc
def sls (l : List Sl) : C := .sl 14 (l.map Sl.enc)
def Gt.enc (g : Gt) : List C := [sb g.name, .v (.bool g.low.x.neg), sb g.low.x.num, sb g.low.x.den, .v (.bool g.low.y.neg), sb g.low.y.num, sb g.low.y.den, .v (.bool g.high.x.neg), sb g.high.x.num, sb g.high.x.den, .v (.bool g.high.y.neg), sb g.high.y.num, sb g.high.y.den]
def Gt.c (g : Gt) : C := .agg g.enc
def gts (l : List Gt) : C := .sl 13 (l.map Gt.enc)
def wls (l : List (List Vt)) : C := .sl 1 (l.map fun s => [vts s])
def Wk.enc (w : Wk) : List C := [ams w.arms, wls w.walls, pts w.parts, sls w.slots, gts w.gates, .v (.bool w.walk.neg), sb w.walk.num, sb w.walk.den]
def Wk.c (w : Wk) : C := .agg w.enc
def Fb (k : Nat) (f : Fr) : Prop := Rb k f.x /\ Rb k f.y /\ Rb k f.t
def Vbs (k : Nat) (l : List Vt) : Prop := l.length <= k /\ ∀ v ∈ l, Vb k v
def Lb (k : Nat) (l : Lk) : Prop := Rb k l.length /\ Rb k l.low /\ Rb k l.high /\ Rb k l.speed /\ Rb k l.a0E /\ Vbs k l.shape
def Ab (k : Nat) (a : Am) : Prop := a.name.length <= k /\ Fb k a.base /\ a.links.length <= k /\ ∀ l ∈ a.links, Lb k l
def Pb (k : Nat) (p : Pt) : Prop := p.name.length <= k /\ Vbs k p.shape /\ Fb k p.X5
def Sb (k : Nat) (s : Sl) : Prop := s.name.length <= k /\ Fb k s.frame /\ Rb k s.within
def Gb (k : Nat) (g : Gt) : Prop := g.name.length <= k /\ Vb k g.low /\ Vb k g.high
structure Wb (k : Nat) (w : Wk) : Prop where
  arms : w.arms.length <= k /\ ∀ x ∈ w.arms, Ab k x
  walls : w.walls.length <= k /\ ∀ x ∈ w.walls, Vbs k x
  parts : w.parts.length <= k /\ ∀ x ∈ w.parts, Pb k x
  slots : w.slots.length <= k /\ ∀ x ∈ w.slots, Sb k x
  gates : w.gates.length <= k /\ ∀ x ∈ w.gates, Gb k x
  walk : Rb k w.walk
def Z6 (s : List UInt8) : Bool := (s.all fun b => decide (97 <= b.toNat) && decide (b.toNat <= 122)) && decide (1 <= s.length) && decide (s.length <= 12)
def a2s (l : List Vt) (i k : Nat) : Int := a7F (l.getD i Vt.zero) (l.getD ((i + 1) % l.length) Vt.zero) (l.getD ((i + k) % l.length) Vt.zero)
def Q5 (l : List Vt) (most : Nat) : Int :=
  if most < l.length then 2 else if l.length < 3 then 3 else
  if (List.range l.length).all fun i => (List.range l.length).all fun k => decide (k < 2) || decide (0 < a2s l i k) then 0 else 3
def a1F (h : Bool) (t : Nm.Rt) : Bool := h && !decide (A8 (Nm.j3 t) = 0)
def X4 (l : Lk) : Int :=
  if (j4 l.length && j4 l.low && j4 l.high && j4 l.speed && j4 l.a0E) = false \/ A8 (Nm.j3 l.length) <= 0 \/ 0 <= Nm.E5 (Nm.j3 l.low) (Nm.j3 l.high) then 1 else
  if A8 (Nm.j3 l.speed) <= 0 \/ A8 (Nm.j3 l.a0E) <= 0 then 1 else
  if Q5 l.shape 8 ≠ 0 then Q5 l.shape 8 else
  if (l.shape.all fun v => j4 v.x && j4 v.y) then 0 else 1
def N8 (a : Am) : Int :=
  if Z6 a.name = false then 3 else
  if 3 < a.links.length then 2 else
  if a.links.length = 0 \/ (j4 a.base.x && j4 a.base.y && j4 a.base.t) = false \/ a1F a.base.half a.base.t = true then 1 else
  F4 X4 a.links
def a1H (a : Am) (q : List Nm.Rt) : Int :=
  if N8 a ≠ 0 then N8 a else if q.length ≠ a.links.length then 1 else
  F4 (fun x : Lk × Nm.Rt => if Nm.E5 (Nm.j3 x.2) (Nm.j3 x.1.low) < 0 \/ 0 < Nm.E5 (Nm.j3 x.2) (Nm.j3 x.1.high) then 17 else 0) (a.links.zip q)
abbrev Nms := List (List UInt8)
def F8 (n : Nms) (s : List UInt8) : Int × Nms := if Z6 s = false then (3, n) else if n.contains s then (5, n) else (0, n ++ [s])
def okV (v : Vt) : Bool := decide v.x.F3 && decide v.y.F3 && j4 v.x && j4 v.y
def okF (f : Fr) : Bool := okV ⟨f.x, f.y⟩ && decide f.t.F3 && j4 f.t && !a1F f.half f.t
def G6 (l : List Vt) : Int := if Q5 l 8 ≠ 0 then Q5 l 8 else if l.all okV then 0 else 1
def V3 (n : Nms) (a : Am) : Int × Nms := if N8 a ≠ 0 then (N8 a, n) else F8 n a.name
def R9 (n : Nms) (p : Pt) : Int × Nms :=
  if (F8 n p.name).1 ≠ 0 then F8 n p.name else
  if G6 p.shape ≠ 0 then (G6 p.shape, (F8 n p.name).2) else
  (if okF p.X5 then 0 else 1, (F8 n p.name).2)
def P5 (n : Nms) (s : Sl) : Int × Nms :=
  if (F8 n s.name).1 ≠ 0 then F8 n s.name else
  (if okF s.frame && decide s.within.F3 && j4 s.within && decide (0 < A8 (Nm.j3 s.within)) then 0 else 1, (F8 n s.name).2)
def U8 (n : Nms) (g : Gt) : Int × Nms :=
  if (F8 n g.name).1 ≠ 0 then F8 n g.name else
  (if okV g.low && okV g.high && decide (Nm.E5 (Nm.j3 g.low.x) (Nm.j3 g.high.x) <= 0) && decide (Nm.E5 (Nm.j3 g.low.y) (Nm.j3 g.high.y) <= 0) then 0 else 1, (F8 n g.name).2)
def a7K (a : Nm.Rt) : Int := if decide a.F3 && j4 a && decide (0 <= A8 (Nm.j3 a)) then 0 else 1
def a1y (w : Wk) : List Int :=
  let a := r9 V3 [] w.arms
  let p := r9 R9 a.2 w.parts
  let s := r9 P5 p.2 w.slots
  let g := r9 U8 s.2 w.gates
  [a.1, F4 G6 w.walls, p.1, s.1, g.1]
def I9 (w : Wk) : Int :=
  if 4 < w.arms.length \/ 10 < w.walls.length \/ 6 < w.parts.length \/ 8 < w.slots.length \/ 4 < w.gates.length then 2 else
  if w.arms.length = 0 then 4 else
  if F4 id (a1y w) ≠ 0 then F4 id (a1y w) else a7K w.walk
def nmE (n : Nms) : List (Value × Value) := n.map fun s => (.string (bs s), .bool true)
theorem c1k (n : Nms) (s : List UInt8) : a0X (.string (bs s)) (nmE n) = if n.contains s then some (.bool true) else none := by
  induction n with
  | nil => rfl
  | cons a n ih =>
    simp only [nmE, List.map_cons, a0X, a0U]
    simp only [nmE] at ih
    rw [ih]
    by_cases h : s = a
    · subst h; simp
    · have h1 : ¬ bs s = bs a := fun e => h (b2P e)
      have h2 : (s == a) = false := by simpa using h
      rw [List.contains_cons]
      simp only [h2, Bool.false_or, decide_eq_false h1, Bool.false_eq_true, if_false]
theorem c1L (n : Nms) (s : List UInt8) (h : n.contains s = false) : a0O (.string (bs s)) (.bool true) (nmE n) = nmE (n ++ [s]) := by
  induction n with
  | nil => rfl
  | cons a n ih =>
    rw [List.contains_cons, Bool.or_eq_false_iff] at h
    have h1 : ¬ bs s = bs a := fun e => by have := b2P e; subst this; simp at h
    have h3 := ih h.2
    simp only [nmE, List.map_cons, List.cons_append, a0O, a0U, decide_eq_false h1, Bool.false_eq_true, if_false] at h3 ⊢
    rw [h3]
structure Ast where
  q : List Nm.Rt
  v : List Nm.Rt
  power : Bool
  holds : Int
structure Stt where
  tick : Int
  arms : List Ast
  parts : List Fr
  people : List Vt
  gates : List Bool
def rts (l : List Nm.Rt) : C := .sl 3 (l.map rcs)
def Ast.enc (x : Ast) : List C := [rts x.q, rts x.v, .v (.bool x.power), ints x.holds]
def Ast.c (x : Ast) : C := .agg x.enc
def I8 (l : List Ast) : C := .sl 4 (l.map Ast.enc)
def frs (l : List Fr) : C := .sl 10 (l.map Fr.enc)
def bls (l : List Bool) : C := .sl 1 (l.map fun b => [.v (.bool b)])
def Stt.enc (s : Stt) : List C := [ints s.tick, I8 s.arms, frs s.parts, vts s.people, bls s.gates]
def Stt.c (s : Stt) : C := .agg s.enc
def Rbs (k : Nat) (l : List Nm.Rt) : Prop := l.length <= k /\ ∀ a ∈ l, Rb k a
def Asb (k : Nat) (x : Ast) : Prop := Rbs k x.q /\ Rbs k x.v
structure Stb (k : Nat) (s : Stt) : Prop where
  arms : s.arms.length <= k /\ ∀ x ∈ s.arms, Asb k x
  parts : s.parts.length <= k /\ ∀ x ∈ s.parts, Fb k x
  people : Vbs k s.people
  gates : s.gates.length <= k
def a2J (q : Rat) : Rat := if q.num < 0 then -q else q
def V6 (x : Lk × Nm.Rt) : Int := if 0 < Nm.E5 (a2J (Nm.j3 x.2)) (Nm.j3 x.1.speed) then 1 else 0
def G9 (a : Nm.Rt) : Bool := decide a.F3
def a1J (a : Am) (x : Ast) (parts : Nat) : Int :=
  if (x.q.all G9 && x.v.all G9) = false then 3 else
  if a1H a x.q ≠ 0 then a1H a x.q else
  if x.v.length ≠ a.links.length \/ x.holds < -1 \/ (parts : Int) <= x.holds then 1 else
  F4 V6 (a.links.zip x.v)
def a2z (h : List Int) (n : Int) : List Int := if h.contains n then h else h ++ [n]
def hdE (h : List Int) : List (Value × Value) := h.map fun n => (.int .i64 n, .bool true)
def X0 (parts : Nat) (h : List Int) (x : Am × Ast) : Int × List Int :=
  if a1J x.1 x.2 parts ≠ 0 then (a1J x.1 x.2 parts, h) else
  if (decide (0 <= x.2.holds) && h.contains x.2.holds) = true then (10, h) else (0, a2z h x.2.holds)
def Z8 (f : Fr) : Bool := (G9 f.x && G9 f.y && G9 f.t) && !a1F f.half f.t
def a3e (v : Vt) : Bool := G9 v.x && G9 v.y
def a0u (w : Wk) (s : Stt) : Int :=
  if I9 w ≠ 0 then I9 w else
  if 4 < s.people.length then 2 else
  if s.tick < 0 \/ 2000 < s.tick \/ s.arms.length ≠ w.arms.length \/ s.parts.length ≠ w.parts.length \/ s.gates.length ≠ w.gates.length then 1 else
  if (r9 (X0 w.parts.length) [] (w.arms.zip s.arms)).1 ≠ 0 then (r9 (X0 w.parts.length) [] (w.arms.zip s.arms)).1 else
  if s.parts.all Z8 && s.people.all a3e then 0 else 3
theorem c1z (h : List Int) (n : Int) : a0X (.int .i64 n) (hdE h) = if h.contains n then some (.bool true) else none := by
  induction h with
  | nil => rfl
  | cons a h ih =>
    simp only [hdE, List.map_cons, a0X, a0U]
    simp only [hdE] at ih
    rw [ih, List.contains_cons]
    by_cases e : n = a
    · subst e; simp
    · have e2 : (n == a) = false := by simpa using e
      simp only [e2, Bool.false_or, Bool.false_eq_true, if_false]
theorem c1Q (h : List Int) (n : Int) : a0O (.int .i64 n) (.bool true) (hdE h) = hdE (a2z h n) := by
  induction h with
  | nil => rfl
  | cons a h ih =>
    unfold a2z at ih ⊢
    rw [List.contains_cons]
    by_cases e : n = a
    · subst e
      simp [hdE, a0O, a0U]
    · have e2 : (n == a) = false := by simpa using e
      simp only [hdE, List.map_cons, a0O, a0U, e2, Bool.false_or, Bool.false_eq_true, if_false]
      simp only [hdE] at ih
      rw [ih]
      split <;> simp [hdE]
def Y3 (l : Lk) : Nm.Rt := Nm.ofQ (a6s (Nm.j3 l.low) (a1Q (Nm.j3 l.high) 0))
def M7 (a : Am) : Ast := ⟨a.links.map Y3, a.links.map fun _ => Nm.ofQ 0, false, -1⟩
def a1s : Fr := ⟨Nm.ofQ 0, Nm.ofQ 0, false, Nm.ofQ 0⟩
def a4n (w : Wk) (i : Nat) : Fr := if h : i < w.slots.length then (w.slots[i]).frame else a1s
def H8 (w : Wk) : Stt := ⟨0, w.arms.map M7, (List.range w.parts.length).map (a4n w), [], List.replicate w.gates.length false⟩
theorem b8g {l : List Vt} {most i k : Nat} (h1 : ¬ most < l.length) (h2 : ¬ l.length < 3) (hi : i < l.length) (hk2 : 2 <= k) (hk : k < l.length) (h : ¬ 0 < a2s l i k) : Q5 l most = 3 := by
  unfold Q5
  rw [if_neg h1, if_neg h2, if_neg]
  intro ha
  rw [List.all_eq_true] at ha
  have h3 := ha i (List.mem_range.2 hi)
  rw [List.all_eq_true] at h3
  have h4 := h3 k (List.mem_range.2 hk)
  rw [Bool.or_eq_true, decide_eq_true_eq, decide_eq_true_eq] at h4
  omega
theorem b6p {l : List Vt} {most : Nat} (h1 : ¬ most < l.length) (h2 : ¬ l.length < 3) (h : ∀ i, i < l.length -> ∀ k, 2 <= k -> k < l.length -> 0 < a2s l i k) : Q5 l most = 0 := by
  unfold Q5
  rw [if_neg h1, if_neg h2, if_pos]
  rw [List.all_eq_true]
  intro i hi
  rw [List.all_eq_true]
  intro k hk
  rw [Bool.or_eq_true, decide_eq_true_eq, decide_eq_true_eq]
  rcases Nat.lt_or_ge k 2 with h3 | h3
  · exact .inl h3
  · exact .inr (h i (List.mem_range.1 hi) k h3 (List.mem_range.1 hk))
theorem b8A {l : List Vt} {i k : Nat} {x y z : Vt} (hx : l[i]? = some x) (hy : l[(i + 1) % l.length]? = some y) (hz : l[(i + k) % l.length]? = some z) : a2s l i k = a7F x y z := by
  unfold a2s
  rw [List.getD_eq_getElem?_getD, List.getD_eq_getElem?_getD, List.getD_eq_getElem?_getD, hx, hy, hz]
  rfl
theorem b8O (i k n : Nat) : Int.tmod ((i : Int) + (k : Int)) (n : Int) = (((i + k) % n : Nat) : Int) := rfl
theorem tmod_one (i n : Nat) : Int.tmod ((i : Int) + 1) (n : Int) = (((i + 1) % n : Nat) : Int) := rfl
theorem c2a (v : Vt) : v.enc.length = 6 := rfl
theorem b9i (l : List Vt) (most : Nat) (hl : Vbs 1073741824 l) (hm : most <= 1000000) : FZ 232 [vts l, ints most] (ints (Q5 l most)) := by
  refine q9.of (eff := eff) Tryz.func232 (by conv => { lhs; cbv }) (by exact Nat.le_of_ble_eq_true rfl) fun w O hw => ?_
  obtain ⟨hn, hb⟩ := hl
  simp only [l6, ints, vts]
  (repeat first | refine uA ?_ | (apply S.exit; exact rfl) | (refine uK ?_ ?_; focus first | omega | trivial | exact id | (intros; simp_all <;> omega)) | simp (disch := omega) only [go_sem, Nat.reduceBEq, Nat.reduceAdd, Nat.reduceLeDiff, Int.reduceToNat, Int.reducePow, ww, List.length_map])
  (refine uJ rfl (fun hc => ?_) fun hc => ?_)
  · have he : Q5 l most = 2 := by unfold Q5; rw [if_pos (by omega)]
    rw [he]
    (repeat first | refine uA ?_ | (apply S.exit; exact rfl) | (refine uK ?_ ?_; focus first | omega | trivial | exact id | (intros; simp_all <;> omega)) | simp (disch := omega) only [go_sem, Nat.reduceBEq, Nat.reduceAdd, Nat.reduceLeDiff, Int.reduceToNat, Int.reducePow, ww])
    exact S.done (d9.out rfl (Imp.refl rfl) rfl)
  have h1 : ¬ most < l.length := by omega
  (repeat first | refine uA ?_ | (apply S.exit; exact rfl) | (refine uK ?_ ?_; focus first | omega | trivial | exact id | (intros; simp_all <;> omega)) | simp (disch := omega) only [go_sem, Nat.reduceBEq, Nat.reduceAdd, Nat.reduceLeDiff, Int.reduceToNat, Int.reducePow, ww, List.length_map])
  (refine uJ rfl (fun hc => ?_) fun hc => ?_)
  · have he : Q5 l most = 3 := by unfold Q5; rw [if_neg h1, if_pos (by omega)]
    rw [he]
    (repeat first | refine uA ?_ | (apply S.exit; exact rfl) | (refine uK ?_ ?_; focus first | omega | trivial | exact id | (intros; simp_all <;> omega)) | simp (disch := omega) only [go_sem, Nat.reduceBEq, Nat.reduceAdd, Nat.reduceLeDiff, Int.reduceToNat, Int.reducePow, ww])
    exact S.done (d9.out rfl (Imp.refl rfl) rfl)
  have h2 : ¬ l.length < 3 := by omega
  (repeat first | refine uA ?_ | (apply S.exit; exact rfl) | (refine uK ?_ ?_; focus first | omega | trivial | exact id | (intros; simp_all <;> omega)) | simp (disch := omega) only [go_sem, Nat.reduceBEq, Nat.reduceAdd, Nat.reduceLeDiff, Int.reduceToNat, Int.reducePow, ww, List.length_map])
  refine S.loop (X := Nat) (fun i => ⟨[(0, vts l), (5, ints l.length), (18, vts l), (19, ints l.length), (20, ints i)], []⟩)
    (fun i => i <= l.length /\ ∀ j, j < i -> ∀ k, 2 <= k -> k < l.length -> 0 < a2s l j k) (fun i => l.length - i) 0 ⟨Nat.zero_le _, fun _ h => absurd h (Nat.not_lt_zero _)⟩ (by (repeat first | refine uA ?_ | (refine ⟨?_, ?_⟩; focus first | rfl | trivial | (simp [slot]; done)) | rfl | trivial | simp)) ?_
  rintro i ⟨hi, hg⟩
  simp only [ints, vts] at hi ⊢
  (repeat first | refine uA ?_ | (apply S.exit; exact rfl) | (refine uK ?_ ?_; focus first | omega | trivial | exact id | (intros; simp_all <;> omega)) | simp (disch := omega) only [go_sem, Nat.reduceBEq, Nat.reduceAdd, Nat.reduceLeDiff, Int.reduceToNat, Int.reducePow, ww])
  (refine uJ rfl (fun hc => ?_) fun hc => ?_)
  · have hi' : i < l.length := by omega
    have hgi := List.getElem?_eq_getElem hi'
    generalize l[i] = x at hgi
    (repeat first | refine uA ?_ | (apply S.exit; exact rfl) | (refine uK ?_ ?_; focus first | omega | trivial | exact id | (intros; simp_all <;> omega)) | simp (disch := omega) only [go_sem, Nat.reduceBEq, Nat.reduceAdd, Nat.reduceLeDiff, Int.reduceToNat, Int.reducePow, ww, hgi, Option.map_some, List.length_map, c2a])
    refine S.loop (X := Nat) (fun k => ⟨[(0, vts l), (5, ints l.length), (6, ints i), (7, .bp 0 0), (8, ints k), (18, vts l), (19, ints l.length), (20, ints i)], [.box 51 x.enc]⟩)
      (fun k => 2 <= k /\ k <= l.length /\ ∀ k', 2 <= k' -> k' < k -> 0 < a2s l i k') (fun k => l.length - k) 2 ⟨Nat.le_refl _, by omega, fun _ h h' => by omega⟩ (by (repeat first | refine uA ?_ | (refine ⟨?_, ?_⟩; focus first | rfl | trivial | (simp [slot]; done)) | rfl | trivial | simp)) ?_
    rintro k ⟨hk2, hk, hgk⟩
    simp only [ints, vts] at hk ⊢
    (repeat first | refine uA ?_ | (apply S.exit; exact rfl) | (refine uK ?_ ?_; focus first | omega | trivial | exact id | (intros; simp_all <;> omega)) | simp (disch := omega) only [go_sem, Nat.reduceBEq, Nat.reduceAdd, Nat.reduceLeDiff, Int.reduceToNat, Int.reducePow, ww])
    (refine uJ rfl (fun hc => ?_) fun hc => ?_)
    · have hk' : k < l.length := by omega
      have hy := List.getElem?_eq_getElem (show (i + 1) % l.length < l.length from Nat.mod_lt _ (by omega))
      have hz := List.getElem?_eq_getElem (show (i + k) % l.length < l.length from Nat.mod_lt _ (by omega))
      have hylt : (i + 1) % l.length < l.length := Nat.mod_lt _ (by omega)
      have hzlt : (i + k) % l.length < l.length := Nat.mod_lt _ (by omega)
      generalize l[(i + 1) % l.length]'_ = y at hy
      generalize l[(i + k) % l.length]'_ = z at hz
      have hla := b8A hgi hy hz
      have hcall := c2d x y z (hb x (List.mem_of_getElem? hgi)) (hb y (List.mem_of_getElem? hy)) (hb z (List.mem_of_getElem? hz))
      rw [<- hla] at hcall
      simp only [Vt.c, Vt.enc, sb, ints] at hcall
      (repeat first | refine uA ?_ | (apply S.exit; exact rfl) | (refine uK ?_ ?_; focus first | omega | trivial | exact id | (intros; simp_all <;> omega)) | simp (disch := omega) only [go_sem, Nat.reduceBEq, Nat.reduceAdd, Nat.reduceLeDiff, Int.reduceToNat, Int.reducePow, ww, hy, hz, Option.map_some, b8O, tmod_one, List.length_map, Vt.enc, sb, Int.toNat_natCast] | (refine uD hcall ?_ ?_ ?_; exact tz hw; exact rfl))
      (refine uJ rfl (fun hc => ?_) fun hc => ?_)
      · rw [b8g h1 h2 hi' hk2 hk' (by omega)]
        (repeat first | refine uA ?_ | (apply S.exit; exact rfl) | (refine uK ?_ ?_; focus first | omega | trivial | exact id | (intros; simp_all <;> omega)) | simp (disch := omega) only [go_sem, Nat.reduceBEq, Nat.reduceAdd, Nat.reduceLeDiff, Int.reduceToNat, Int.reducePow, ww])
        exact S.done (d9.out rfl (Imp.refl rfl) rfl)
      · (repeat first | refine uA ?_ | (apply S.exit; exact rfl) | (refine uK ?_ ?_; focus first | omega | trivial | exact id | (intros; simp_all <;> omega)) | simp (disch := omega) only [go_sem, Nat.reduceBEq, Nat.reduceAdd, Nat.reduceLeDiff, Int.reduceToNat, Int.reducePow, ww])
        refine S.next (k + 1) ⟨by omega, by omega, fun k' hk1 hk3 => ?_⟩ (by omega) (by (repeat first | refine uA ?_ | (refine ⟨?_, ?_⟩; focus first | rfl | trivial | (simp [slot]; done)) | rfl | trivial | simp))
        rcases Nat.lt_or_ge k' k with h | h
        · exact hgk k' hk1 h
        · have : k' = k := by omega
          subst this
          omega
    · have hk' : k = l.length := by omega
      subst hk'
      (repeat first | refine uA ?_ | (apply S.exit; exact rfl) | (refine uK ?_ ?_; focus first | omega | trivial | exact id | (intros; simp_all <;> omega)) | simp (disch := omega) only [go_sem, Nat.reduceBEq, Nat.reduceAdd, Nat.reduceLeDiff, Int.reduceToNat, Int.reducePow, ww])
      refine S.next (i + 1) ⟨by omega, fun j hj => ?_⟩ (by omega) (by (repeat first | refine uA ?_ | (refine ⟨?_, ?_⟩; focus first | rfl | trivial | (simp [slot]; done)) | rfl | trivial | simp))
      rcases Nat.lt_or_ge j i with h | h
      · exact hg j h
      · have : j = i := by omega
        subst this
        exact hgk
  · have hi' : i = l.length := by omega
    subst hi'
    rw [b6p h1 h2 hg]
    (repeat first | refine uA ?_ | (apply S.exit; exact rfl) | (refine uK ?_ ?_; focus first | omega | trivial | exact id | (intros; simp_all <;> omega)) | simp (disch := omega) only [go_sem, Nat.reduceBEq, Nat.reduceAdd, Nat.reduceLeDiff, Int.reduceToNat, Int.reducePow, ww])
    exact S.done (d9.out rfl (Imp.refl rfl) rfl)
theorem a5k (l : List Vt) (hl : Vbs 1073741824 l) : FZ 201 [vts l] (ints (Q5 l 8)) := by
  refine q9.of b1J b1L (by exact Nat.le_of_ble_eq_true rfl) fun w O hw => ?_
  have h := b9i l 8 hl (by decide)
  simp only [a6C, l6, TT, II, OA, OB, OC, MM, LL, VV, FF, MG, LG, VG, FG]
  simp only [vts, ints] at *
  generalize Q5 l 8 = e at *
  rw [show ((8 : Nat) : Int) = 8 from rfl] at h
  (repeat first | refine uA ?_ | (apply S.exit; exact rfl) | (refine uK ?_ ?_; focus first | omega | trivial | exact id | (intros; simp_all <;> omega)) | simp (disch := omega) only [go_sem, Nat.reduceBEq, Nat.reduceAdd, Nat.reduceLeDiff, Int.reduceToNat, Int.reducePow, ww] | (refine uD h ?_ ?_ ?_; exact tz hw; exact rfl))
  exact S.done (d9.out rfl (Imp.refl rfl) rfl)
def a2G : F5 := ⟨89, [.tmp 2], .seq (.reg [OA 1 (.box 31 (TT 0)), OA 2 (.mv (II 0))]) (.seq (.seq (.reg [FF 7 0 1, VV 8 7, OA 9 (.len false (TT 8)), OA 10 (.bin .gtr (TT 9) (II 4)), MM 11 10, FG 12 1 1 11 false, VG 13 12 11 false, OC 14 (.len
  false (TT 13)) 11 false, OC 15 (.bin .gtr (TT 14) (II 10)) 11 false, OA 16 (.pick (TT 11) (.const (.bool true)) (TT 15)), MM 17 16, FG 18 2 1 17 false, VG 19 18 17 false, OC 20 (.len false (TT 19)) 17 false, OC 21 (.bin .gtr (TT
  20) (II 6)) 17 false, OA 22 (.pick (TT 17) (.const (.bool true)) (TT 21)), MM 23 22, FG 24 3 1 23 false, VG 25 24 23 false, OC 26 (.len false (TT 25)) 23 false, OC 27 (.bin .gtr (TT 26) (II 8)) 23 false, OA 28 (.pick (TT 23)
  (.const (.bool true)) (TT 27)), MM 29 28, FG 30 4 1 29 false, VG 31 30 29 false, OC 32 (.len false (TT 31)) 29 false, OC 33 (.bin .gtr (TT 32) (II 4)) 29 false, OA 34 (.pick (TT 29) (.const (.bool true)) (TT 33))]) (.cond (TT
  34) (.seq (.reg [OA 2 (.mv (II 2))]) .ret) .skip)) (.seq (.seq (.reg [FF 35 0 1, VV 36 35, OA 37 (.len false (TT 36)), OA 38 (.bin .eql (TT 37) (II 0))]) (.cond (TT 38) (.seq (.reg [OA 2 (.mv (II 4))]) .ret) .skip)) (.seq (.reg
  [OA 39 (.a3c true), OA 3 (.alloc 140 [.map none]), OB (.store 1 (TT 3) (TT 39))]) (.seq (.reg [OA 40 (.clo 86 [TT 3]), MM 4 40]) (.seq (.seq (.K3 [.q, .q, .q, .e none false, .l, .l, .q, .l, .l, .l, .l, .e none false, .l, .l,
  .l, .l, .e none false, .l, .l, .l, .l, .e none false, .q, .q, .l] [FF 41 0 1, VV 42 41, MM 43 4, OA 44 (.call 89 [TT 42, TT 43]), FF 45 1 1, VV 46 45, OA 47 (.call 90 [TT 46, .func 91]), FF 48 2 1, VV 49 48, VV 50 3, OA 51 (.bnd
  93 (TT 50)), OA 52 (.call 92 [TT 49, TT 51]), FF 53 3 1, VV 54 53, VV 55 3, OA 56 (.bnd 95 (TT 55)), OA 57 (.call 94 [TT 54, TT 56]), FF 58 4 1, VV 59 58, VV 60 3, OA 61 (.bnd 97 (TT 60)), OA 62 (.call 96 [TT 59, TT 61]), OA 63
  (.bsl 40 1 5 [.int .i64 0] [(0, TT 44), (1, TT 47), (2, TT 52), (3, TT 57), (4, TT 62)]), OA 64 (.len false (TT 63)), OA 65 (.mv (II 0))]) (.block 0 (.loop (.seq (.reg [OA 66 (.bin .lss (TT 65) (TT 64))]) (.seq (.cond (TT 66)
  .skip (.exit 0)) (.seq (.block 1 (.seq (.reg [OA 67 (.K5 1 (TT 63) (TT 65)), VV 68 67, MM 6 68]) (.seq (.reg [MM 69 6, OA 70 (.bin .neq (TT 69) (II 0))]) (.cond (TT 70) (.seq (.reg [MM 71 6, MM 2 71]) .ret) .skip)))) (.reg
  [OA 72 (.bin .add (TT 65) (II 1)), MM 65 72]))))))) (.seq (.seq (.reg [FF 73 5 1, LL 74 3 73, OA 75 (.call 62 [TT 74]), OA 76 (.un .not (TT 75)), MM 77 76, FG 78 5 1 77 false, LG 79 3 78 77 false, OC 80 (.call 84 [TT 79]) 77
  false, OC 81 (.un .not (TT 80)) 77 false, OA 82 (.pick (TT 77) (.const (.bool true)) (TT 81)), MM 83 82, FG 84 5 1 83 false, LG 85 3 84 83 false, OC 86 (.call 15 [TT 85]) 83 false, OC 87 (.bin .lss (TT 86) (II 0)) 83 false, OA
  88 (.pick (TT 83) (.const (.bool true)) (TT 87))]) (.cond (TT 88) (.seq (.reg [OA 2 (.mv (II 1))]) .ret) .skip)) (.seq (.reg [OA 2 (.mv (II 0))]) .ret)))))))⟩
theorem b0j : C8 eff Tryz.prog Tryz.f23 = some a2G := by kernel_rfl
theorem b0u : Tryz.prog.funcs[23]? = some Tryz.f23 := Tryz.func23
def a5v : F5 := ⟨6, [.tmp 2], .seq (.reg [OA 2 (.mv (.const (.bool false)))]) (.seq (.reg [MM 3 0, OA 4 (.call 137 [TT 3, .func 197]), OA 5 (.un .not (TT 4)), MM 2 5]) .ret)⟩
theorem b0y : C8 eff Tryz.prog Tryz.f83 = some a5v := by kernel_rfl
theorem b0o : Tryz.prog.funcs[83]? = some Tryz.f83 := Tryz.func83
def a4C : F5 := ⟨14, [.tmp 3], .seq (.reg [OA 2 (.box 76 (TT 0)), OA 3 (.mv (II 0))]) (.seq (.seq (.reg [LL 5 12 2, OA 6 (.call 87 [TT 5]), MM 4 6]) (.seq (.reg [MM 7 4, OA 8 (.bin .neq (TT 7) (II 0))]) (.cond (TT 8) (.seq (.reg [MM 9 4, MM 3 9])
  .ret) .skip))) (.seq (.reg [VV 10 1, FF 11 0 2, VV 12 11, OA 13 (.call 88 [TT 10, TT 12]), MM 3 13]) .ret))⟩
theorem a8J : C8 eff Tryz.prog Tryz.f86 = some a4C := by kernel_rfl
theorem a8M : Tryz.prog.funcs[86]? = some Tryz.f86 := Tryz.func86
def a5u : F5 := ⟨12, [.tmp 2], .seq (.reg [OA 2 (.mv (II 0))]) (.seq (.seq (.reg [MM 4 0, OA 5 (.call 201 [TT 4]), MM 3 5]) (.seq (.reg [MM 6 3, OA 7 (.bin .neq (TT 6) (II 0))]) (.cond (TT 7) (.seq (.reg [MM 8 3, MM 2 8]) .ret) .skip))) (.seq
  (.seq (.reg [MM 9 0, OA 10 (.call 83 [TT 9]), OA 11 (.un .not (TT 10))]) (.cond (TT 11) (.seq (.reg [OA 2 (.mv (II 1))]) .ret) .skip)) (.seq (.reg [OA 2 (.mv (II 0))]) .ret)))⟩
theorem b0A : C8 eff Tryz.prog Tryz.f91 = some a5u := by kernel_rfl
theorem b0c : Tryz.prog.funcs[91]? = some Tryz.f91 := Tryz.func91
def a3s : F5 := ⟨13, [.tmp 4], .seq (.reg [OA 4 (.mv (II 0))]) (.seq (.seq (.reg [MM 5 1, OA 6 (.call 19 [TT 5]), OA 7 (.un .not (TT 6))]) (.cond (TT 7) (.seq (.reg [OA 4 (.mv (II 3))]) .ret) .skip)) (.seq (.seq (.reg [MM 8 0, MM 9 1, OA 10 (.lkp
  true (.bool false) false (TT 8) (TT 9))]) (.cond (TT 10) (.seq (.reg [OA 4 (.mv (II 5))]) .ret) .skip)) (.seq (.reg [MM 11 0, MM 12 1, OB (.a5X true (TT 11) (TT 12) (.const (.bool true)))]) (.seq (.reg [OA 4 (.mv (II 0))])
  .ret))))⟩
theorem a7a : C8 eff Tryz.prog Tryz.f88 = some a3s := by kernel_rfl
theorem a6P : Tryz.prog.funcs[88]? = some Tryz.f88 := Tryz.func88
def a2C : F5 := ⟨91, [.cell 2 true 5, .tmp 3], .seq (.reg [OA 1 (.box 31 (TT 0)), OA 2 (.alloc 37 [.int .i64 0, .slice none 0 0, .slice none 0 0, .slice none 0 0, .slice none 0 0]), OA 3 (.mv (II 0))]) (.seq (.seq (.reg [LL 13 8 1, OA 14 (.call
  23 [TT 13]), MM 4 14]) (.seq (.reg [MM 15 4, OA 16 (.bin .neq (TT 15) (II 0))]) (.cond (TT 16) (.seq (.reg [OA 17 (.build [.int .i64 0, .slice none 0 0, .slice none 0 0, .slice none 0 0, .slice none 0 0] []), MM 18 4, OB (.store
  5 (TT 2) (TT 17)), MM 3 18]) .ret) .skip))) (.seq (.reg [OA 5 (.alloc 37 [.int .i64 0, .slice none 0 0, .slice none 0 0, .slice none 0 0, .slice none 0 0])]) (.seq (.seq (.reg [FF 19 0 1, VV 20 19, OA 21 (.len false (TT 20)), OA
  22 (.mv (II 0))]) (.block 0 (.loop (.seq (.reg [OA 23 (.bin .lss (TT 22) (TT 21))]) (.seq (.cond (TT 23) .skip (.exit 0)) (.seq (.block 1 (.seq (.reg [OA 24 (.K5 12 (TT 20) (TT 22)), LL 25 12 24, OA 7 (.alloc 76 [.string
  ⟨#[]⟩, .bool false, .string ⟨#[]⟩, .string ⟨#[]⟩, .bool false, .string ⟨#[]⟩, .string ⟨#[]⟩, .bool false, .bool false, .string ⟨#[]⟩, .string ⟨#[]⟩, .slice none 0 0]), OB (.store 12 (TT 7) (TT 25))]) (.seq (.reg [OA 26 (.build
  [.slice none 0 0, .slice none 0 0, .bool false, .int .i64 0] [(3, (1, II (-1)))]), OA 8 (.alloc 90 [.slice none 0 0, .slice none 0 0, .bool false, .int .i64 0]), OB (.store 4 (TT 8) (TT 26))]) (.seq (.seq (.reg [FF 27 11 7, VV
  28 27, OA 29 (.len false (TT 28)), OA 30 (.mv (II 0))]) (.block 2 (.loop (.seq (.reg [OA 31 (.bin .lss (TT 30) (TT 29))]) (.seq (.cond (TT 31) .skip (.exit 2)) (.seq (.block 3 (.seq (.reg [OA 32 (.K5 16 (TT 28) (TT 30)), LL
  33 16 32, OA 10 (.alloc 158 [.bool false, .string ⟨#[]⟩, .string ⟨#[]⟩, .bool false, .string ⟨#[]⟩, .string ⟨#[]⟩, .bool false, .string ⟨#[]⟩, .string ⟨#[]⟩, .bool false, .string ⟨#[]⟩, .string ⟨#[]⟩, .bool false, .string ⟨#[]⟩,
  .string ⟨#[]⟩, .slice none 0 0]), OB (.store 16 (TT 10) (TT 33))]) (.seq (.K3 [.q, .q, .q, .q, .q, .q, .q, .q, .q, .q, .e none true, .q, .e none true] [FF 34 0 8, VV 35 34, FF 36 3 10, LL 37 3 36, FF 38 6 10, LL 39 3 38, OA 40
  (.call 71 [II 0]), OA 41 (.call 153 [TT 39, TT 40]), OA 42 (.call 74 [TT 37, TT 41]), OA 43 (.bsl 29 3 1 [.bool false, .string ⟨#[]⟩, .string ⟨#[]⟩] [(0, TT 42)]), OA 44 (.app 29 3 40 (TT 35) (TT 43)), FF 45 0 8, OB (.store 1
  (TT 45) (TT 44))]) (.K3 [.q, .q, .q, .q, .e none true, .q, .e none true] [FF 46 1 8, VV 47 46, OA 48 (.call 71 [II 0]), OA 49 (.bsl 29 3 1 [.bool false, .string ⟨#[]⟩, .string ⟨#[]⟩] [(0, TT 48)]), OA 50 (.app 29 3 40 (TT 47)
  (TT 49)), FF 51 1 8, OB (.store 1 (TT 51) (TT 50))])))) (.reg [OA 52 (.bin .add (TT 30) (II 1)), MM 30 52]))))))) (.reg [FF 53 1 5, VV 54 53, LL 55 4 8, OA 56 (.bsl 90 4 1 [.slice none 0 0, .slice none 0 0, .bool false, .int
  .i64 0] [(0, TT 55)]), OA 57 (.app 90 4 64 (TT 54) (TT 56)), FF 58 1 5, OB (.store 1 (TT 58) (TT 57))]))))) (.reg [OA 59 (.bin .add (TT 22) (II 1)), MM 22 59]))))))) (.seq (.seq (.reg [FF 60 2 1, VV 61 60, OA 62 (.len false (TT
  61)), OA 63 (.mv (II 0))]) (.block 4 (.loop (.seq (.reg [OA 64 (.bin .lss (TT 63) (TT 62))]) (.seq (.cond (TT 64) .skip (.exit 4)) (.seq (.block 5 (.seq (.reg [MM 65 63, MM 11 65]) (.seq (.reg [OA 66 (.call 154 []), OA 12
  (.alloc 55 [.bool false, .string ⟨#[]⟩, .string ⟨#[]⟩, .bool false, .string ⟨#[]⟩, .string ⟨#[]⟩, .bool false, .bool false, .string ⟨#[]⟩, .string ⟨#[]⟩]), OB (.store 10 (TT 12) (TT 66))]) (.seq (.seq (.reg [MM 67 11, FF 68 3 1,
  VV 69 68, OA 70 (.len false (TT 69)), OA 71 (.bin .lss (TT 67) (TT 70))]) (.cond (TT 71) (.reg [FF 72 3 1, VV 73 72, MM 74 11, OA 75 (.K5 14 (TT 73) (TT 74)), FF 76 1 75, LL 77 10 76, OB (.store 10 (TT 12) (TT 77))]) .skip))
  (.reg [FF 78 2 5, VV 79 78, LL 80 10 12, OA 81 (.bsl 55 10 1 [.bool false, .string ⟨#[]⟩, .string ⟨#[]⟩, .bool false, .string ⟨#[]⟩, .string ⟨#[]⟩, .bool false, .bool false, .string ⟨#[]⟩, .string ⟨#[]⟩] [(0, TT 80)]), OA 82
  (.app 55 10 128 (TT 79) (TT 81)), FF 83 2 5, OB (.store 1 (TT 83) (TT 82))]))))) (.reg [OA 84 (.bin .add (TT 63) (II 1)), MM 63 84]))))))) (.seq (.reg [FF 85 4 1, VV 86 85, OA 87 (.len false (TT 86)), OA 88 (.a2H 4 1 [.bool
  false] (TT 87) (TT 87)), FF 89 4 5, OB (.store 1 (TT 89) (TT 88))]) (.seq (.reg [LL 90 5 5, OB (.store 5 (TT 2) (TT 90)), OA 3 (.mv (II 0))]) .ret))))))⟩
theorem a5K : C8 eff Tryz.prog Tryz.f46 = some a2C := by kernel_rfl
theorem a5P : Tryz.prog.funcs[46]? = some Tryz.f46 := Tryz.func46
def a4a : F5 := ⟨6, [.tmp 2], .seq (.reg [OA 1 (.box 55 (TT 0)), OA 2 (.mv (.const (.bool false)))]) (.seq (.reg [LL 3 10 1, OA 4 (.call 136 [TT 3]), OA 5 (.un .not (TT 4)), MM 2 5]) .ret)⟩
theorem a9a : C8 eff Tryz.prog Tryz.f135 = some a4a := by kernel_rfl
theorem a8P : Tryz.prog.funcs[135]? = some Tryz.f135 := Tryz.func135
def a4x : F5 := ⟨10, [.tmp 2], .seq (.reg [OA 1 (.box 51 (TT 0)), OA 2 (.mv (.const (.bool false)))]) (.seq (.reg [FF 3 0 1, LL 4 3 3, FF 5 3 1, LL 6 3 5, OA 7 (.bsl 29 3 2 [.bool false, .string ⟨#[]⟩, .string ⟨#[]⟩] [(0, TT 4), (1, TT 6)]), OA 8
  (.call 139 [TT 7]), OA 9 (.un .not (TT 8)), MM 2 9]) .ret)⟩
theorem a8D : C8 eff Tryz.prog Tryz.f138 = some a4x := by kernel_rfl
theorem a8O : Tryz.prog.funcs[138]? = some Tryz.f138 := Tryz.func138
def a6y : F5 := ⟨6, [.tmp 2], .seq (.reg [OA 2 (.mv (.const (.bool false)))]) (.seq (.reg [MM 3 0, OA 4 (.call 44 [TT 3, .func 211]), OA 5 (.un .not (TT 4)), MM 2 5]) .ret)⟩
theorem b1H : C8 eff Tryz.prog Tryz.f139 = some a6y := by kernel_rfl
theorem b1K : Tryz.prog.funcs[139]? = some Tryz.f139 := Tryz.func139
def a4U : F5 := ⟨6, [.tmp 2], .seq (.reg [OA 1 (.box 29 (TT 0)), OA 2 (.mv (.const (.bool false)))]) (.seq (.reg [LL 3 3 1, OA 4 (.call 62 [TT 3]), OA 5 (.un .not (TT 4)), MM 2 5]) .ret)⟩
theorem a9k : C8 eff Tryz.prog Tryz.f211 = some a4U := by kernel_rfl
theorem a9J : Tryz.prog.funcs[211]? = some Tryz.f211 := Tryz.func211
def a3C : F5 := ⟨14, [.tmp 4], .seq (.reg [OA 4 (.mv (II 0))]) (.seq (.reg [MM 5 0, MM 6 1, OA 7 (.bin .rem (TT 5) (TT 6)), MM 0 7]) (.seq (.seq (.reg [MM 8 0, OA 9 (.bin .lss (TT 8) (II 0))]) (.cond (TT 9) (.reg [MM 10 0, MM 11 1, OA 12 (.bin
  .add (TT 10) (TT 11)), MM 0 12]) .skip)) (.seq (.reg [MM 13 0, MM 4 13]) .ret)))⟩
theorem a8b : C8 eff Tryz.prog Tryz.f12 = some a3C := by kernel_rfl
theorem a7S : Tryz.prog.funcs[12]? = some Tryz.f12 := Tryz.func12
def a3B : F5 := ⟨159, [.cell 2 true 8], .seq (.reg [OA 2 (.alloc 31 [.slice none 0 0, .slice none 0 0, .slice none 0 0, .slice none 0 0, .slice none 0 0, .bool false, .string ⟨#[]⟩, .string ⟨#[]⟩])]) (.seq (.reg [MM 12 0, OA 13 (.build [.slice
  none 0 0] [(0, (1, TT 12))]), OA 14 (.box 225 (TT 13)), MM 3 14]) (.seq (.reg [OA 4 (.alloc 31 [.slice none 0 0, .slice none 0 0, .slice none 0 0, .slice none 0 0, .slice none 0 0, .bool false, .string ⟨#[]⟩, .string ⟨#[]⟩])])
  (.seq (.seq (.reg [MM 15 3, OA 16 (.call 173 [TT 15, II 2]), OA 17 (.bin .add (II 1) (TT 16)), OA 18 (.mv (II 0))]) (.block 0 (.loop (.seq (.reg [OA 19 (.bin .lss (TT 18) (TT 17))]) (.seq (.cond (TT 19) .skip (.exit 0)) (.seq
  (.block 1 (.seq (.reg [MM 20 18, MM 5 20]) (.K3 [.l, .l, .q, .q, .e none false, .q, .e none true, .q, .e none true] [FF 21 0 4, VV 22 21, MM 23 3, MM 24 5, OA 25 (.call 174 [TT 23, TT 24]), OA 26 (.bsl 76 12 1 [.string ⟨#[]⟩,
  .bool false, .string ⟨#[]⟩, .string ⟨#[]⟩, .bool false, .string ⟨#[]⟩, .string ⟨#[]⟩, .bool false, .bool false, .string ⟨#[]⟩, .string ⟨#[]⟩, .slice none 0 0] [(0, TT 25)]), OA 27 (.app 76 12 168 (TT 22) (TT 26)), FF 28 0 4, OB
  (.store 1 (TT 28) (TT 27))]))) (.reg [OA 29 (.bin .add (TT 18) (II 1)), MM 18 29]))))))) (.seq (.seq (.reg [MM 30 3, OA 31 (.call 173 [TT 30, II 3]), OA 32 (.mv (II 0))]) (.block 2 (.loop (.seq (.reg [OA 33 (.bin .lss (TT 32)
  (TT 31))]) (.seq (.cond (TT 33) .skip (.exit 2)) (.seq (.block 3 (.seq (.reg [MM 34 3, OA 35 (.call 173 [TT 34, II 80]), OA 36 (.bin .sub (TT 35) (II 30)), MM 37 3, OA 38 (.call 173 [TT 37, II 30]), OA 39 (.bin .add (II 12) (TT
  38)), MM 6 36, MM 7 39]) (.seq (.seq (.reg [MM 40 3, OA 41 (.call 173 [TT 40, II 2]), OA 42 (.bin .eql (TT 41) (II 1))]) (.cond (TT 42) (.reg [MM 43 7, OA 44 (.un .neg (TT 43)), OA 45 (.bin .sub (TT 44) (II 6)), MM 7 45])
  .skip)) (.K3 [.l, .l, .l, .l, .l, .l, .q, .e none false, .l, .l, .l, .l, .e none false, .q, .q, .q, .e none true, .q, .e none true] [FF 46 1 4, VV 47 46, MM 48 6, MM 49 7, MM 50 6, OA 51 (.bin .add (TT 50) (II 1)), MM 52 3, OA
  53 (.call 173 [TT 52, II 20]), OA 54 (.bin .add (TT 51) (TT 53)), MM 55 7, OA 56 (.bin .add (TT 55) (II 1)), MM 57 3, OA 58 (.call 173 [TT 57, II 5]), OA 59 (.bin .add (TT 56) (TT 58)), OA 60 (.call 175 [TT 48, TT 49, TT 54, TT
  59]), OA 61 (.bsl 34 1 1 [.slice none 0 0] [(0, TT 60)]), OA 62 (.app 34 1 24 (TT 47) (TT 61)), FF 63 1 4, OB (.store 1 (TT 63) (TT 62))])))) (.reg [OA 64 (.bin .add (TT 32) (II 1)), MM 32 64]))))))) (.seq (.seq (.reg [MM 65 3,
  OA 66 (.call 173 [TT 65, II 3]), OA 67 (.mv (II 0))]) (.block 4 (.loop (.seq (.reg [OA 68 (.bin .lss (TT 67) (TT 66))]) (.seq (.cond (TT 68) .skip (.exit 4)) (.seq (.block 5 (.seq (.reg [MM 69 67, MM 8 69]) (.K3 [.l, .l, .l,
  .l, .l, .l, .q, .e none false, .q, .q, .q, .q, .q, .q, .e none true, .q, .e none true] [FF 70 2 4, VV 71 70, OA 72 (.bsl 9 1 2 [.string ⟨#[]⟩] [(0, .const (.string ⟨#[98, 111, 108, 116]⟩)), (1, .const (.string ⟨#[110, 117,
  116]⟩))]), MM 73 8, OA 74 (.K5 1 (TT 72) (TT 73)), VV 75 74, MM 76 3, OA 77 (.call 176 [TT 76]), OA 78 (.call 177 [II 0, II 0]), OA 79 (.call 17 [II 0, II 1]), OA 80 (.build [.bool false, .bool false, .string ⟨#[]⟩, .string
  ⟨#[]⟩] [(1, (3, TT 79))]), OA 81 (.build [.bool false, .string ⟨#[]⟩, .string ⟨#[]⟩, .bool false, .string ⟨#[]⟩, .string ⟨#[]⟩, .bool false, .bool false, .string ⟨#[]⟩, .string ⟨#[]⟩] [(0, (6, TT 78)), (6, (4, TT 80))]), OA 82
  (.build [.string ⟨#[]⟩, .slice none 0 0, .bool false, .string ⟨#[]⟩, .string ⟨#[]⟩, .bool false, .string ⟨#[]⟩, .string ⟨#[]⟩, .bool false, .bool false, .string ⟨#[]⟩, .string ⟨#[]⟩] [(0, (1, TT 75)), (1, (1, TT 77)), (2, (10,
  TT 81))]), OA 83 (.bsl 80 12 1 [.string ⟨#[]⟩, .slice none 0 0, .bool false, .string ⟨#[]⟩, .string ⟨#[]⟩, .bool false, .string ⟨#[]⟩, .string ⟨#[]⟩, .bool false, .bool false, .string ⟨#[]⟩, .string ⟨#[]⟩] [(0, TT 82)]), OA 84
  (.app 80 12 168 (TT 71) (TT 83)), FF 85 2 4, OB (.store 1 (TT 85) (TT 84))]))) (.reg [OA 86 (.bin .add (TT 67) (II 1)), MM 67 86]))))))) (.seq (.seq (.K3 [.l, .l, .l, .q, .e none false, .q, .l] [FF 87 2 4, VV 88 87, OA 89
  (.len false (TT 88)), MM 90 3, OA 91 (.call 173 [TT 90, II 2]), OA 92 (.bin .add (TT 89) (TT 91)), OA 93 (.mv (II 0))]) (.block 6 (.loop (.seq (.reg [OA 94 (.bin .lss (TT 93) (TT 92))]) (.seq (.cond (TT 94) .skip (.exit 6))
  (.seq (.block 7 (.seq (.reg [MM 95 93, MM 9 95]) (.K3 [.l, .l, .l, .l, .l, .l, .q, .e none false, .l, .l, .e none false, .q, .q, .l, .e none false, .q, .q, .l, .l, .l, .e none false, .q, .q, .q, .q, .e none true, .q, .e none
  true] [FF 96 3 4, VV 97 96, OA 98 (.bsl 9 1 3 [.string ⟨#[]⟩] [(0, .const (.string ⟨#[104, 101, 114, 101]⟩)), (1, .const (.string ⟨#[116, 104, 101, 114, 101]⟩)), (2, .const (.string ⟨#[98, 101, 121, 111, 110, 100]⟩))]), MM 99 9,
  OA 100 (.K5 1 (TT 98) (TT 99)), VV 101 100, MM 102 3, OA 103 (.call 173 [TT 102, II 40]), OA 104 (.bin .sub (TT 103) (II 20)), MM 105 3, OA 106 (.call 173 [TT 105, II 24]), OA 107 (.bin .sub (TT 106) (II 12)), OA 108 (.call
  177 [TT 104, TT 107]), MM 109 3, OA 110 (.call 173 [TT 109, II 5]), OA 111 (.bin .sub (TT 110) (II 2)), OA 112 (.call 17 [TT 111, II 2]), OA 113 (.build [.bool false, .bool false, .string ⟨#[]⟩, .string ⟨#[]⟩] [(1, (3, TT
  112))]), OA 114 (.build [.bool false, .string ⟨#[]⟩, .string ⟨#[]⟩, .bool false, .string ⟨#[]⟩, .string ⟨#[]⟩, .bool false, .bool false, .string ⟨#[]⟩, .string ⟨#[]⟩] [(0, (6, TT 108)), (6, (4, TT 113))]), MM 115 3, OA 116
  (.call 173 [TT 115, II 20]), OA 117 (.bin .add (II 8) (TT 116)), OA 118 (.call 17 [II 1, TT 117]), OA 119 (.build [.string ⟨#[]⟩, .bool false, .string ⟨#[]⟩, .string ⟨#[]⟩, .bool false, .string ⟨#[]⟩, .string ⟨#[]⟩, .bool false,
  .bool false, .string ⟨#[]⟩, .string ⟨#[]⟩, .bool false, .string ⟨#[]⟩, .string ⟨#[]⟩] [(0, (1, TT 101)), (1, (10, TT 114)), (11, (3, TT 118))]), OA 120 (.bsl 57 14 1 [.string ⟨#[]⟩, .bool false, .string ⟨#[]⟩, .string ⟨#[]⟩,
  .bool false, .string ⟨#[]⟩, .string ⟨#[]⟩, .bool false, .bool false, .string ⟨#[]⟩, .string ⟨#[]⟩, .bool false, .string ⟨#[]⟩, .string ⟨#[]⟩] [(0, TT 119)]), OA 121 (.app 57 14 184 (TT 97) (TT 120)), FF 122 3 4, OB (.store 1 (TT
  122) (TT 121))]))) (.reg [OA 123 (.bin .add (TT 93) (II 1)), MM 93 123]))))))) (.seq (.seq (.reg [MM 124 3, OA 125 (.call 173 [TT 124, II 2]), OA 126 (.mv (II 0))]) (.block 8 (.loop (.seq (.reg [OA 127 (.bin .lss (TT 126) (TT
  125))]) (.seq (.cond (TT 127) .skip (.exit 8)) (.seq (.block 9 (.seq (.reg [MM 128 3, OA 129 (.call 173 [TT 128, II 60]), OA 130 (.bin .sub (TT 129) (II 30)), MM 131 3, OA 132 (.call 173 [TT 131, II 60]), OA 133 (.bin .sub (TT
  132) (II 30)), MM 10 130, MM 11 133]) (.K3 [.l, .l, .q, .q, .q, .l, .q, .e none false, .l, .l, .l, .e none false, .q, .q, .q, .q, .q, .e none true, .q, .e none true] [FF 134 4 4, VV 135 134, MM 136 10, MM 137 11, OA 138 (.call
  177 [TT 136, TT 137]), MM 139 10, MM 140 3, OA 141 (.call 173 [TT 140, II 12]), OA 142 (.bin .add (TT 139) (TT 141)), MM 143 11, MM 144 3, OA 145 (.call 173 [TT 144, II 12]), OA 146 (.bin .add (TT 143) (TT 145)), OA 147 (.call
  177 [TT 142, TT 146]), OA 148 (.build [.bool false, .string ⟨#[]⟩, .string ⟨#[]⟩, .bool false, .string ⟨#[]⟩, .string ⟨#[]⟩, .bool false, .string ⟨#[]⟩, .string ⟨#[]⟩, .bool false, .string ⟨#[]⟩, .string ⟨#[]⟩] [(0, (6, TT
  138)), (6, (6, TT 147))]), OA 149 (.build [.string ⟨#[]⟩, .bool false, .string ⟨#[]⟩, .string ⟨#[]⟩, .bool false, .string ⟨#[]⟩, .string ⟨#[]⟩, .bool false, .string ⟨#[]⟩, .string ⟨#[]⟩, .bool false, .string ⟨#[]⟩, .string
  ⟨#[]⟩] [(0, (1, .const (.string ⟨#[100, 111, 111, 114]⟩))), (1, (12, TT 148))]), OA 150 (.bsl 116 13 1 [.string ⟨#[]⟩, .bool false, .string ⟨#[]⟩, .string ⟨#[]⟩, .bool false, .string ⟨#[]⟩, .string ⟨#[]⟩, .bool false, .string
  ⟨#[]⟩, .string ⟨#[]⟩, .bool false, .string ⟨#[]⟩, .string ⟨#[]⟩] [(0, TT 149)]), OA 151 (.app 116 13 176 (TT 135) (TT 150)), FF 152 4 4, OB (.store 1 (TT 152) (TT 151))]))) (.reg [OA 153 (.bin .add (TT 126) (II 1)), MM 126
  153]))))))) (.seq (.reg [MM 154 3, OA 155 (.call 173 [TT 154, II 4]), OA 156 (.call 17 [TT 155, II 8]), FF 157 5 4, OB (.store 3 (TT 157) (TT 156))]) (.seq (.reg [LL 158 8 4, OB (.store 8 (TT 2) (TT 158))]) .ret)))))))))⟩
theorem a7Z : C8 eff Tryz.prog Tryz.f69 = some a3B := by kernel_rfl
theorem a7W : Tryz.prog.funcs[69]? = some Tryz.f69 := Tryz.func69
def a1Z : F5 := ⟨22, [.tmp 8], .seq (.reg [OA 8 (.mv (.const (.slice none 0 0)))]) (.seq (.reg [MM 9 0, MM 10 1, OA 11 (.call 177 [TT 9, TT 10]), MM 12 2, MM 13 1, OA 14 (.call 177 [TT 12, TT 13]), MM 15 2, MM 16 3, OA 17 (.call 177 [TT 15, TT
  16]), MM 18 0, MM 19 3, OA 20 (.call 177 [TT 18, TT 19]), OA 21 (.bsl 51 6 4 [.bool false, .string ⟨#[]⟩, .string ⟨#[]⟩, .bool false, .string ⟨#[]⟩, .string ⟨#[]⟩] [(0, TT 11), (1, TT 14), (2, TT 17), (3, TT 20)]), MM 8 21])
  .ret)⟩
theorem a5o : C8 eff Tryz.prog Tryz.f175 = some a1Z := by kernel_rfl
theorem a5D : Tryz.prog.funcs[175]? = some Tryz.f175 := Tryz.func175
def a5F : F5 := ⟨10, [.cell 4 true 6], .seq (.reg [OA 4 (.alloc 51 [.bool false, .string ⟨#[]⟩, .string ⟨#[]⟩, .bool false, .string ⟨#[]⟩, .string ⟨#[]⟩])]) (.seq (.reg [MM 5 0, OA 6 (.call 17 [TT 5, II 4]), MM 7 1, OA 8 (.call 17 [TT 7, II 4]),
  OA 9 (.build [.bool false, .string ⟨#[]⟩, .string ⟨#[]⟩, .bool false, .string ⟨#[]⟩, .string ⟨#[]⟩] [(0, (3, TT 6)), (3, (3, TT 8))]), OB (.store 6 (TT 4) (TT 9))]) .ret)⟩
theorem b0h : C8 eff Tryz.prog Tryz.f177 = some a5F := by kernel_rfl
theorem b0x : Tryz.prog.funcs[177]? = some Tryz.f177 := Tryz.func177
def R5 : F5 := ⟨9, [.tmp 4], .seq (.reg [OA 4 (.mv (.const (.bool false)))]) (.seq (.reg [MM 5 0, MM 6 1, OA 7 (.call 152 [TT 5, TT 6]), OA 8 (.bin .geq (TT 7) (II 0)), MM 4 8]) .ret)⟩
theorem a0P : C8 eff Tryz.prog Tryz.f44 = some R5 := by kernel_rfl
theorem a0N : Tryz.prog.funcs[44]? = some Tryz.f44 := Tryz.func44
def a0Y : F5 := ⟨8, [.tmp 2], .seq (.reg [OA 2 (.mv (.const (.slice none 0 0)))]) (.seq (.seq (.reg [MM 3 0, OA 4 (.a1o false false (TT 3))]) (.cond (TT 4) (.seq (.reg [OA 2 (.mv (.const (.slice none 0 0)))]) .ret) .skip)) (.seq (.reg [OA 5
  (.a1v 4), MM 6 0, OA 7 (.app 4 1 1 (TT 5) (TT 6)), MM 2 7]) .ret))⟩
theorem a3K : C8 eff Tryz.prog Tryz.f60 = some a0Y := by kernel_rfl
theorem a3L : Tryz.prog.funcs[60]? = some Tryz.f60 := Tryz.func60
def Y4 : F5 := ⟨8, [.tmp 2], .seq (.reg [OA 2 (.mv (.const (.slice none 0 0)))]) (.seq (.seq (.reg [MM 3 0, OA 4 (.a1o false false (TT 3))]) (.cond (TT 4) (.seq (.reg [OA 2 (.mv (.const (.slice none 0 0)))]) .ret) .skip)) (.seq (.reg [OA 5
  (.a1v 51), MM 6 0, OA 7 (.app 51 6 80 (TT 5) (TT 6)), MM 2 7]) .ret))⟩
theorem a2g : C8 eff Tryz.prog Tryz.f63 = some Y4 := by kernel_rfl
theorem a2h : Tryz.prog.funcs[63]? = some Tryz.f63 := Tryz.func63
def Y2 : F5 := ⟨9, [.tmp 4], .seq (.reg [OA 4 (.mv (.const (.bool false)))]) (.seq (.reg [MM 5 0, MM 6 1, OA 7 (.call 202 [TT 5, TT 6]), OA 8 (.bin .geq (TT 7) (II 0)), MM 4 8]) .ret)⟩
theorem a1M : C8 eff Tryz.prog Tryz.f99 = some Y2 := by kernel_rfl
theorem a1O : Tryz.prog.funcs[99]? = some Tryz.f99 := Tryz.func99
def O4 : F5 := ⟨9, [.tmp 4], .seq (.reg [OA 4 (.mv (.const (.bool false)))]) (.seq (.reg [MM 5 0, MM 6 1, OA 7 (.call 209 [TT 5, TT 6]), OA 8 (.bin .geq (TT 7) (II 0)), MM 4 8]) .ret)⟩
theorem a0y : C8 eff Tryz.prog Tryz.f134 = some O4 := by kernel_rfl
theorem a0t : Tryz.prog.funcs[134]? = some Tryz.f134 := Tryz.func134
def R6 : F5 := ⟨9, [.tmp 4], .seq (.reg [OA 4 (.mv (.const (.bool false)))]) (.seq (.reg [MM 5 0, MM 6 1, OA 7 (.call 210 [TT 5, TT 6]), OA 8 (.bin .geq (TT 7) (II 0)), MM 4 8]) .ret)⟩
theorem a0R : C8 eff Tryz.prog Tryz.f137 = some R6 := by kernel_rfl
theorem a0Q : Tryz.prog.funcs[137]? = some Tryz.f137 := Tryz.func137
def U6 : F5 := ⟨8, [.tmp 2], .seq (.reg [OA 2 (.mv (.const (.slice none 0 0)))]) (.seq (.seq (.reg [MM 3 0, OA 4 (.a1o false false (TT 3))]) (.cond (TT 4) (.seq (.reg [OA 2 (.mv (.const (.slice none 0 0)))]) .ret) .skip)) (.seq (.reg [OA 5
  (.a1v 55), MM 6 0, OA 7 (.app 55 10 128 (TT 5) (TT 6)), MM 2 7]) .ret))⟩
theorem a1k : C8 eff Tryz.prog Tryz.f149 = some U6 := by kernel_rfl
theorem a1r : Tryz.prog.funcs[149]? = some Tryz.f149 := Tryz.func149
def Y5 : F5 := ⟨8, [.tmp 2], .seq (.reg [OA 2 (.mv (.const (.slice none 0 0)))]) (.seq (.seq (.reg [MM 3 0, OA 4 (.a1o false false (TT 3))]) (.cond (TT 4) (.seq (.reg [OA 2 (.mv (.const (.slice none 0 0)))]) .ret) .skip)) (.seq (.reg [OA 5
  (.a1v 29), MM 6 0, OA 7 (.app 29 3 40 (TT 5) (TT 6)), MM 2 7]) .ret))⟩
theorem a2i : C8 eff Tryz.prog Tryz.f150 = some Y5 := by kernel_rfl
theorem a2j : Tryz.prog.funcs[150]? = some Tryz.f150 := Tryz.func150
def J6 (b : UInt8) : Bool := decide (97 <= b.toNat) && decide (b.toNat <= 122)
theorem b0N {s : List UInt8} {i : Nat} (hi : i < s.length) (h : J6 s[i] = false) : Z6 s = false := by
  unfold Z6
  have : (s.all fun b => decide (97 <= b.toNat) && decide (b.toNat <= 122)) = false := by
    rw [List.all_eq_false]
    exact ⟨s[i], List.getElem_mem hi, by unfold J6 at h; rw [h]; decide⟩
  rw [this]
  rfl
theorem b3f {s : List UInt8} (h : ∀ j (h : j < s.length), J6 s[j] = true) : Z6 s = (decide (1 <= s.length) && decide (s.length <= 12)) := by
  unfold Z6
  have : (s.all fun b => decide (97 <= b.toNat) && decide (b.toNat <= 122)) = true := by
    rw [List.all_eq_true]
    intro x hx
    obtain ⟨j, hj, rfl⟩ := List.mem_iff_getElem.1 hx
    exact h j hj
  rw [this, Bool.true_and]
theorem b9M (s : List UInt8) (hs : s.length <= 1099511627776) : l7 Tryz.prog 198 [sb s] (.v (.bool (Z6 s))) := by
  refine l7.of (eff := eff) Tryz.func198 (by conv => { lhs; cbv }) (by exact Nat.le_of_ble_eq_true rfl) fun w O => ?_
  simp only [l6, sb]
  (repeat first | refine uA ?_ | (refine uK ?_ ?_; focus first | omega | (intros; simp_all <;> omega)) | simp (disch := omega) only [go_sem, Nat.reduceBEq, Nat.reduceAdd, ww, w9])
  refine S.loop (X := Nat) (fun i => ⟨[(0, sb s), (5, ints s.length), (6, ints i)], []⟩) (fun i => i <= s.length /\ ∀ j (h : j < s.length), j < i -> J6 s[j] = true) (fun i => s.length - i) 0 ⟨Nat.zero_le _, fun _ _ h => absurd h (Nat.not_lt_zero _)⟩ (by (repeat first | refine uA ?_ | (refine ⟨?_, ?_⟩; focus first | rfl | simp [slot]) | rfl | simp)) ?_
  rintro i ⟨hi, hg⟩
  simp only [sb, ints]
  (repeat first | refine uA ?_ | (refine uK ?_ ?_; focus first | omega | (intros; simp_all <;> omega)) | simp (disch := omega) only [go_sem, Nat.reduceBEq, Nat.reduceAdd, ww])
  (refine uJ rfl (fun hc => ?_) fun hc => ?_)
  · have hi' : i < s.length := by omega
    have hgi : s.getD i 0 = s[i] := by rw [List.getD_eq_getElem?_getD, List.getElem?_eq_getElem hi']; rfl
    (repeat first | refine uA ?_ | (refine uK ?_ ?_; focus first | omega | (intros; simp_all <;> omega)) | simp (disch := omega) only [go_sem, Nat.reduceBEq, Nat.reduceAdd, ww, w9, O5, hgi, Int.toNat_natCast])
    refine S.cond rfl (fun hc => ?_) (fun hc => ?_)
    · have hl : J6 s[i] = false := by
        unfold J6
        simp only [Bool.or_eq_true, decide_eq_true_eq] at hc
        rw [Bool.and_eq_false_iff, decide_eq_false_iff_not, decide_eq_false_iff_not]
        omega
      rw [b0N hi' hl]
      (repeat first | refine uA ?_ | (refine uK ?_ ?_; focus first | omega | (intros; simp_all <;> omega)) | simp (disch := omega) only [go_sem, Nat.reduceBEq, Nat.reduceAdd, ww])
      exact S.done (d9.out rfl (Imp.refl rfl) rfl)
    · have hl : J6 s[i] = true := by
        unfold J6
        simp only [Bool.or_eq_false_iff, decide_eq_false_iff_not] at hc
        rw [Bool.and_eq_true, decide_eq_true_eq, decide_eq_true_eq]
        omega
      (repeat first | refine uA ?_ | (refine uK ?_ ?_; focus first | omega | (intros; simp_all <;> omega)) | simp (disch := omega) only [go_sem, Nat.reduceBEq, Nat.reduceAdd, ww])
      refine S.next (i + 1) ⟨by omega, fun j h hj => ?_⟩ (by omega) (by (repeat first | refine uA ?_ | (refine ⟨?_, ?_⟩; focus first | rfl | simp [slot]) | rfl | simp))
      rcases Nat.lt_or_ge j i with h1 | h1
      · exact hg j h h1
      · have : j = i := by omega
        subst this
        exact hl
  · have hi' : i = s.length := by omega
    subst hi'
    have e1 : decide ((1 : Int) <= (s.length : Int)) = decide (1 <= s.length) := decide_eq_decide.2 (by omega)
    have e2 : decide ((s.length : Int) <= 12) = decide (s.length <= 12) := decide_eq_decide.2 (by omega)
    rw [b3f fun j h => hg j h h]
    (repeat first | refine uA ?_ | (refine uK ?_ ?_; focus first | omega | (intros; simp_all <;> omega)) | simp (disch := omega) only [go_sem, Nat.reduceBEq, Nat.reduceAdd, ww, w9, e1, e2])
    (try simp only [e1, e2, go_sem])
    exact S.done (d9.out rfl (Imp.refl rfl) rfl)
theorem c1y (s : List UInt8) (hs : s.length <= 1099511627776) : l7 Tryz.prog 19 [sb s] (.v (.bool (Z6 s))) := by
  refine l7.of (eff := eff) Tryz.func19 (by conv => { lhs; cbv }) (by exact Nat.le_of_ble_eq_true rfl) fun w O => ?_
  simp only [l6, sb]
  (repeat first | refine uA ?_ | (refine uK ?_ ?_; focus first | omega | (intros; simp_all <;> omega)) | simp (disch := omega) only [go_sem, Nat.reduceBEq, Nat.reduceAdd, ww, w9])
  refine S.loop (X := Nat) (fun i => ⟨[(0, sb s), (5, ints s.length), (6, ints i)], []⟩) (fun i => i <= s.length /\ ∀ j (h : j < s.length), j < i -> J6 s[j] = true) (fun i => s.length - i) 0 ⟨Nat.zero_le _, fun _ _ h => absurd h (Nat.not_lt_zero _)⟩ (by (repeat first | refine uA ?_ | (refine ⟨?_, ?_⟩; focus first | rfl | simp [slot]) | rfl | simp)) ?_
  rintro i ⟨hi, hg⟩
  simp only [sb, ints]
  (repeat first | refine uA ?_ | (refine uK ?_ ?_; focus first | omega | (intros; simp_all <;> omega)) | simp (disch := omega) only [go_sem, Nat.reduceBEq, Nat.reduceAdd, ww])
  (refine uJ rfl (fun hc => ?_) fun hc => ?_)
  · have hi' : i < s.length := by omega
    have hgi : s.getD i 0 = s[i] := by rw [List.getD_eq_getElem?_getD, List.getElem?_eq_getElem hi']; rfl
    (repeat first | refine uA ?_ | (refine uK ?_ ?_; focus first | omega | (intros; simp_all <;> omega)) | simp (disch := omega) only [go_sem, Nat.reduceBEq, Nat.reduceAdd, ww, w9, O5, hgi, Int.toNat_natCast])
    refine S.cond rfl (fun hc => ?_) (fun hc => ?_)
    · have hl : J6 s[i] = false := by
        unfold J6
        simp only [Bool.or_eq_true, decide_eq_true_eq] at hc
        rw [Bool.and_eq_false_iff, decide_eq_false_iff_not, decide_eq_false_iff_not]
        omega
      rw [b0N hi' hl]
      (repeat first | refine uA ?_ | (refine uK ?_ ?_; focus first | omega | (intros; simp_all <;> omega)) | simp (disch := omega) only [go_sem, Nat.reduceBEq, Nat.reduceAdd, ww])
      exact S.done (d9.out rfl (Imp.refl rfl) rfl)
    · have hl : J6 s[i] = true := by
        unfold J6
        simp only [Bool.or_eq_false_iff, decide_eq_false_iff_not] at hc
        rw [Bool.and_eq_true, decide_eq_true_eq, decide_eq_true_eq]
        omega
      (repeat first | refine uA ?_ | (refine uK ?_ ?_; focus first | omega | (intros; simp_all <;> omega)) | simp (disch := omega) only [go_sem, Nat.reduceBEq, Nat.reduceAdd, ww])
      refine S.next (i + 1) ⟨by omega, fun j h hj => ?_⟩ (by omega) (by (repeat first | refine uA ?_ | (refine ⟨?_, ?_⟩; focus first | rfl | simp [slot]) | rfl | simp))
      rcases Nat.lt_or_ge j i with h1 | h1
      · exact hg j h h1
      · have : j = i := by omega
        subst this
        exact hl
  · have hi' : i = s.length := by omega
    subst hi'
    have e1 : decide ((1 : Int) <= (s.length : Int)) = decide (1 <= s.length) := decide_eq_decide.2 (by omega)
    have e2 : decide ((s.length : Int) <= 12) = decide (s.length <= 12) := decide_eq_decide.2 (by omega)
    rw [b3f fun j h => hg j h h]
    (repeat first | refine uA ?_ | (refine uK ?_ ?_; focus first | omega | (intros; simp_all <;> omega)) | simp (disch := omega) only [go_sem, Nat.reduceBEq, Nat.reduceAdd, ww, w9, e1, e2])
    (try simp only [e1, e2, go_sem])
    exact S.done (d9.out rfl (Imp.refl rfl) rfl)
theorem a8X (l : List Nm.Rt) (hl : Rbs 17179869184 l) : FZ 199 [rts l] (.v (.bool (l.all j4))) := by
  refine q9.of (eff := eff) Tryz.func199 (by conv => { lhs; cbv }) (by exact Nat.le_of_ble_eq_true rfl) fun w O hw => ?_
  obtain ⟨hn, hb⟩ := hl
  simp only [l6, rts]
  (repeat first | refine uA ?_ | (refine uK ?_ ?_; focus first | omega | (intros; simp_all <;> omega)) | simp (disch := omega) only [go_sem, Nat.reduceBEq, Nat.reduceAdd, ww, List.length_map])
  refine S.loop (X := Nat) (fun i => ⟨[(5, rts l), (6, ints l.length), (7, ints i)], []⟩) (fun i => i <= l.length /\ l.all j4 = (l.drop i).all j4) (fun i => l.length - i) 0 ⟨Nat.zero_le _, rfl⟩ (by (repeat first | refine uA ?_ | (refine ⟨?_, ?_⟩; focus first | rfl | simp [slot]) | rfl | simp)) ?_
  rintro i ⟨hi, hg⟩
  simp only [rts, ints]
  (repeat first | refine uA ?_ | (refine uK ?_ ?_; focus first | omega | (intros; simp_all <;> omega)) | simp (disch := omega) only [go_sem, Nat.reduceBEq, Nat.reduceAdd, ww])
  (refine uJ rfl (fun hc => ?_) fun hc => ?_)
  · have hi' : i < l.length := by omega
    have hgi := List.getElem?_eq_getElem hi'
    generalize l[i] = x at hgi
    have hd := drop_at hgi
    have hs := a2Q x (hb x (List.mem_of_getElem? hgi))
    simp only [rc] at hs
    simp only [sb] at hs
    (repeat first | refine uA ?_ | (refine uK ?_ ?_; focus first | omega | (intros; simp_all <;> omega)) | simp (disch := omega) only [go_sem, Nat.reduceBEq, Nat.reduceAdd, ww, hgi, Option.map_some, List.length_map, rcs, sb] | (refine uD hs ?_ ?_ ?_; exact tz hw; exact rfl))
    refine S.cond rfl (fun hc => ?_) (fun hc => ?_)
    · have : l.all j4 = false := by
        rw [hg, hd, List.all_cons]
        simp only [Bool.not_eq_true'] at hc
        rw [hc]; rfl
      rw [this]
      (repeat first | refine uA ?_ | (refine uK ?_ ?_; focus first | omega | (intros; simp_all <;> omega)) | simp (disch := omega) only [go_sem, Nat.reduceBEq, Nat.reduceAdd, ww])
      exact S.done (d9.out rfl (Imp.refl rfl) rfl)
    · (repeat first | refine uA ?_ | (refine uK ?_ ?_; focus first | omega | (intros; simp_all <;> omega)) | simp (disch := omega) only [go_sem, Nat.reduceBEq, Nat.reduceAdd, ww])
      refine S.next (i + 1) ⟨by omega, ?_⟩ (by omega) (by (repeat first | refine uA ?_ | (refine ⟨?_, ?_⟩; focus first | rfl | simp [slot]) | rfl | simp))
      rw [hg, hd, List.all_cons]
      simp only [Bool.not_eq_false'] at hc
      rw [hc]; rfl
  · have : l.all j4 = true := by rw [hg, List.drop_eq_nil_of_le (by omega)]; rfl
    rw [this]
    (repeat first | refine uA ?_ | (refine uK ?_ ?_; focus first | omega | (intros; simp_all <;> omega)) | simp (disch := omega) only [go_sem, Nat.reduceBEq, Nat.reduceAdd, ww])
    exact S.done (d9.out rfl (Imp.refl rfl) rfl)
namespace Eng
def frS (fr : List (Nat × C)) : List (Nat × C) -> Prop
  | [] => True
  | (t, s) :: r => (s = .junk \/ slot fr t = s) /\ frS fr r
theorem b3g {fr : List (Nat × C)} : ∀ {fr' : List (Nat × C)}, frS fr fr' -> ∀ t, slot fr' t = .junk \/ slot fr t = slot fr' t
  | [], _, t => .inl rfl
  | (u, s) :: r, h, t => by
    simp only [slot]
    cases hb : (u == t) with
    | true =>
      have : u = t := by simpa using hb
      subst this
      exact h.1
    | false => exact b3g h.2 t
theorem Ent.fr {E : Ctx} {fr fr' : List (Nat × C)} {rs rs' : List Res} (h : rs = rs') (hf : frS fr fr') : Ent E ⟨fr, rs⟩ ⟨fr', rs'⟩ := by
  subst h
  intro wf ν a w hG
  refine ⟨ν, hG.dfr, hG.size, fun t => ?_, hG.rg, hG.frm, hG.nu⟩
  rcases b3g hf t with e | e
  · rw [e]; simp only [Den]
  · rw [<- e]; exact hG.fr t
end Eng
def a2n {α : Type} (p : α -> Bool) (l : List α) : Int := match l.findIdx? p with | some i => i | none => -1
theorem a5U {α : Type} {p : α -> Bool} {l : List α} {i : Nat} {x : α} (h : l[i]? = some x) (hp : p x = true) (hm : ∀ j, j < i -> ∀ y, l[j]? = some y -> p y = false) : a2n p l = i := by
  obtain ⟨hi, rfl⟩ := List.getElem?_eq_some_iff.1 h
  have : l.findIdx? p = some i := by
    rw [List.findIdx?_eq_some_iff_getElem]
    refine ⟨hi, hp, fun j hj => ?_⟩
    simp [hm j hj l[j] (List.getElem?_eq_getElem _)]
  unfold a2n
  rw [this]
theorem a4M {α : Type} {p : α -> Bool} {l : List α} (hm : ∀ j, j < l.length -> ∀ y, l[j]? = some y -> p y = false) : a2n p l = -1 := by
  have : l.findIdx? p = none := by
    rw [List.findIdx?_eq_none_iff]
    intro x hx
    obtain ⟨j, hj⟩ := List.mem_iff_getElem?.1 hx
    exact hm j (List.getElem?_eq_some_iff.1 hj).1 x hj
  unfold a2n
  rw [this]
theorem a5Z {α : Type} (p : α -> Bool) (l : List α) : decide (0 <= a2n p l) = l.any p := by
  unfold a2n
  cases h : l.findIdx? p with
  | none =>
    rw [List.findIdx?_eq_none_iff] at h
    have : l.any p = false := by rw [List.any_eq_false]; intro x hx; simp [h x hx]
    rw [this]; rfl
  | some i =>
    rw [List.findIdx?_eq_some_iff_getElem] at h
    obtain ⟨h1, h2, _⟩ := h
    have : l.any p = true := by rw [List.any_eq_true]; exact ⟨_, List.getElem_mem h1, h2⟩
    rw [this]
    exact decide_eq_true (show (0 : Int) <= (i : Int) by omega)
theorem b8G (g : Nat) (hcal : callable Tryz.prog g = true) (p : Vt -> Bool) (l : List Vt) (hn : l.length <= 1099511627776) (hg : ∀ x ∈ l, FZ g [x.c] (.v (.bool (p x)))) :
    FZ 210 [vts l, .v (.func (.func g) #[] #[])] (ints (a2n p l)) := by
  refine q9.of (eff := eff) Tryz.func210 (by conv => { lhs; cbv }) (by exact Nat.le_of_ble_eq_true rfl) fun w O hw => ?_
  simp only [l6, vts]
  (repeat first | refine uA ?_ | (refine uK ?_ ?_; focus first | omega | (intros; simp_all <;> omega)) | simp (disch := omega) only [go_sem, Nat.reduceBEq, Nat.reduceAdd, ww, List.length_map])
  refine S.loop (X := Nat) (fun i => ⟨[(0, vts l), (1, .v (.func (.func g) #[] #[])), (7, ints l.length), (8, ints i)], []⟩) (fun i => i <= l.length /\ ∀ j, j < i -> ∀ x, l[j]? = some x -> p x = false) (fun i => l.length - i) 0 ⟨Nat.zero_le _, fun _ h => absurd h (Nat.not_lt_zero _)⟩ (by (repeat first | refine uA ?_ | (refine ⟨?_, ?_⟩; focus first | rfl | simp [slot]) | rfl | simp)) ?_
  rintro i ⟨hi, hm⟩
  simp only [vts, ints]
  (repeat first | refine uA ?_ | (refine uK ?_ ?_; focus first | omega | (intros; simp_all <;> omega)) | simp (disch := omega) only [go_sem, Nat.reduceBEq, Nat.reduceAdd, ww])
  (refine uJ rfl (fun hc => ?_) fun hc => ?_)
  · have hi' : i < l.length := by omega
    have hgi := List.getElem?_eq_getElem hi'
    generalize l[i] = x at hgi
    have hs := hg x (List.mem_of_getElem? hgi)
    simp only [Vt.c, Vt.enc, sb] at hs
    (repeat first | refine uA ?_ | (refine uK ?_ ?_; focus first | omega | (intros; simp_all <;> omega)) | simp (disch := omega) only [go_sem, Nat.reduceBEq, Nat.reduceAdd, ww, hgi, Option.map_some, List.length_map, Vt.c, Vt.enc, sb, Int.toNat_natCast, hcal] | (refine uD hs ?_ ?_ ?_; exact tz hw; exact rfl))
    refine S.cond rfl (fun hc2 => ?_) (fun hc2 => ?_)
    · rw [a5U hgi hc2 hm]
      (repeat first | refine uA ?_ | (refine uK ?_ ?_; focus first | omega | (intros; simp_all <;> omega)) | simp (disch := omega) only [go_sem, Nat.reduceBEq, Nat.reduceAdd, ww])
      exact S.done (d9.out rfl (Imp.refl rfl) rfl)
    · (repeat first | refine uA ?_ | (refine uK ?_ ?_; focus first | omega | (intros; simp_all <;> omega)) | simp (disch := omega) only [go_sem, Nat.reduceBEq, Nat.reduceAdd, ww])
      refine S.next (i + 1) ⟨by omega, fun j hj y hy => ?_⟩ (by omega) (by (repeat first | refine uA ?_ | (refine ⟨?_, ?_⟩; focus first | rfl | simp [slot]) | rfl | simp))
      rcases Nat.lt_or_ge j i with h1 | h1
      · exact hm j h1 y hy
      · have : j = i := by omega
        subst this
        rw [hgi] at hy
        cases hy
        exact hc2
  · have hi' : i = l.length := by omega
    subst hi'
    rw [a4M hm]
    (repeat first | refine uA ?_ | (refine uK ?_ ?_; focus first | omega | (intros; simp_all <;> omega)) | simp (disch := omega) only [go_sem, Nat.reduceBEq, Nat.reduceAdd, ww])
    exact S.done (d9.out rfl (Imp.refl rfl) rfl)
theorem b2n (g : Nat) (hcal : callable Tryz.prog g = true) (p : Vt -> Bool) (l : List Vt) (hn : l.length <= 1099511627776) (hg : ∀ x ∈ l, FZ g [x.c] (.v (.bool (p x)))) :
    FZ 137 [vts l, .v (.func (.func g) #[] #[])] (.v (.bool (l.any p))) := by
  refine q9.of a0Q a0R (by exact Nat.le_of_ble_eq_true rfl) fun w O hw => ?_
  have h := b8G g hcal p l hn hg
  have e := a5Z p l
  generalize a2n p l = n at *
  simp only [R6, l6, TT, II, OA, OB, OC, MM, LL, VV, FF, MG, LG, VG, FG]
  simp only [vts, ints] at *
  (repeat first | refine uA ?_ | (refine uK ?_ ?_; focus first | omega | (intros; simp_all <;> omega)) | simp (disch := omega) only [go_sem, Nat.reduceBEq, Nat.reduceAdd, ww] | (refine uD h ?_ ?_ ?_; exact tz hw; exact rfl))
  rw [e]
  exact S.done (d9.out rfl (Imp.refl rfl) rfl)
theorem b9X (g : Nat) (hcal : callable Tryz.prog g = true) (p : Nm.Rt -> Bool) (l : List Nm.Rt) (hn : l.length <= 1099511627776) (hg : ∀ x ∈ l, FZ g [rc x] (.v (.bool (p x)))) :
    FZ 152 [rts l, .v (.func (.func g) #[] #[])] (ints (a2n p l)) := by
  refine q9.of (eff := eff) Tryz.func152 (by conv => { lhs; cbv }) (by exact Nat.le_of_ble_eq_true rfl) fun w O hw => ?_
  simp only [l6, rts]
  (repeat first | refine uA ?_ | (refine uK ?_ ?_; focus first | omega | (intros; simp_all <;> omega)) | simp (disch := omega) only [go_sem, Nat.reduceBEq, Nat.reduceAdd, ww, List.length_map])
  refine S.loop (X := Nat) (fun i => ⟨[(0, rts l), (1, .v (.func (.func g) #[] #[])), (7, ints l.length), (8, ints i)], []⟩) (fun i => i <= l.length /\ ∀ j, j < i -> ∀ x, l[j]? = some x -> p x = false) (fun i => l.length - i) 0 ⟨Nat.zero_le _, fun _ h => absurd h (Nat.not_lt_zero _)⟩ (by (repeat first | refine uA ?_ | (refine ⟨?_, ?_⟩; focus first | rfl | simp [slot]) | rfl | simp)) ?_
  rintro i ⟨hi, hm⟩
  simp only [rts, ints]
  (repeat first | refine uA ?_ | (refine uK ?_ ?_; focus first | omega | (intros; simp_all <;> omega)) | simp (disch := omega) only [go_sem, Nat.reduceBEq, Nat.reduceAdd, ww])
  (refine uJ rfl (fun hc => ?_) fun hc => ?_)
  · have hi' : i < l.length := by omega
    have hgi := List.getElem?_eq_getElem hi'
    generalize l[i] = x at hgi
    have hs := hg x (List.mem_of_getElem? hgi)
    simp only [rc, rcs, sb] at hs
    (repeat first | refine uA ?_ | (refine uK ?_ ?_; focus first | omega | (intros; simp_all <;> omega)) | simp (disch := omega) only [go_sem, Nat.reduceBEq, Nat.reduceAdd, ww, hgi, Option.map_some, List.length_map, rc, rcs, sb, Int.toNat_natCast, hcal] | (refine uD hs ?_ ?_ ?_; exact tz hw; exact rfl))
    refine S.cond rfl (fun hc2 => ?_) (fun hc2 => ?_)
    · rw [a5U hgi hc2 hm]
      (repeat first | refine uA ?_ | (refine uK ?_ ?_; focus first | omega | (intros; simp_all <;> omega)) | simp (disch := omega) only [go_sem, Nat.reduceBEq, Nat.reduceAdd, ww])
      exact S.done (d9.out rfl (Imp.refl rfl) rfl)
    · (repeat first | refine uA ?_ | (refine uK ?_ ?_; focus first | omega | (intros; simp_all <;> omega)) | simp (disch := omega) only [go_sem, Nat.reduceBEq, Nat.reduceAdd, ww])
      refine S.next (i + 1) ⟨by omega, fun j hj y hy => ?_⟩ (by omega) (by (repeat first | refine uA ?_ | (refine ⟨?_, ?_⟩; focus first | rfl | simp [slot]) | rfl | simp))
      rcases Nat.lt_or_ge j i with h1 | h1
      · exact hm j h1 y hy
      · have : j = i := by omega
        subst this
        rw [hgi] at hy
        cases hy
        exact hc2
  · have hi' : i = l.length := by omega
    subst hi'
    rw [a4M hm]
    (repeat first | refine uA ?_ | (refine uK ?_ ?_; focus first | omega | (intros; simp_all <;> omega)) | simp (disch := omega) only [go_sem, Nat.reduceBEq, Nat.reduceAdd, ww])
    exact S.done (d9.out rfl (Imp.refl rfl) rfl)
theorem a8W (g : Nat) (hcal : callable Tryz.prog g = true) (p : Nm.Rt -> Bool) (l : List Nm.Rt) (hn : l.length <= 1099511627776) (hg : ∀ x ∈ l, FZ g [rc x] (.v (.bool (p x)))) :
    FZ 44 [rts l, .v (.func (.func g) #[] #[])] (.v (.bool (l.any p))) := by
  refine q9.of a0N a0P (by exact Nat.le_of_ble_eq_true rfl) fun w O hw => ?_
  have h := b9X g hcal p l hn hg
  have e := a5Z p l
  generalize a2n p l = n at *
  simp only [R5, l6, TT, II, OA, OB, OC, MM, LL, VV, FF, MG, LG, VG, FG]
  simp only [rts, ints] at *
  (repeat first | refine uA ?_ | (refine uK ?_ ?_; focus first | omega | (intros; simp_all <;> omega)) | simp (disch := omega) only [go_sem, Nat.reduceBEq, Nat.reduceAdd, ww] | (refine uD h ?_ ?_ ?_; exact tz hw; exact rfl))
  rw [e]
  exact S.done (d9.out rfl (Imp.refl rfl) rfl)
theorem b6g (g : Nat) (hcal : callable Tryz.prog g = true) (p : Fr -> Bool) (l : List Fr) (hn : l.length <= 1099511627776) (hg : ∀ x ∈ l, FZ g [x.c] (.v (.bool (p x)))) :
    FZ 209 [frs l, .v (.func (.func g) #[] #[])] (ints (a2n p l)) := by
  refine q9.of (eff := eff) Tryz.func209 (by conv => { lhs; cbv }) (by exact Nat.le_of_ble_eq_true rfl) fun w O hw => ?_
  simp only [l6, frs]
  (repeat first | refine uA ?_ | (refine uK ?_ ?_; focus first | omega | (intros; simp_all <;> omega)) | simp (disch := omega) only [go_sem, Nat.reduceBEq, Nat.reduceAdd, ww, List.length_map])
  refine S.loop (X := Nat) (fun i => ⟨[(0, frs l), (1, .v (.func (.func g) #[] #[])), (7, ints l.length), (8, ints i)], []⟩) (fun i => i <= l.length /\ ∀ j, j < i -> ∀ x, l[j]? = some x -> p x = false) (fun i => l.length - i) 0 ⟨Nat.zero_le _, fun _ h => absurd h (Nat.not_lt_zero _)⟩ (by (repeat first | refine uA ?_ | (refine ⟨?_, ?_⟩; focus first | rfl | simp [slot]) | rfl | simp)) ?_
  rintro i ⟨hi, hm⟩
  simp only [frs, ints]
  (repeat first | refine uA ?_ | (refine uK ?_ ?_; focus first | omega | (intros; simp_all <;> omega)) | simp (disch := omega) only [go_sem, Nat.reduceBEq, Nat.reduceAdd, ww])
  (refine uJ rfl (fun hc => ?_) fun hc => ?_)
  · have hi' : i < l.length := by omega
    have hgi := List.getElem?_eq_getElem hi'
    generalize l[i] = x at hgi
    have hs := hg x (List.mem_of_getElem? hgi)
    simp only [Fr.c, Fr.enc, sb] at hs
    (repeat first | refine uA ?_ | (refine uK ?_ ?_; focus first | omega | (intros; simp_all <;> omega)) | simp (disch := omega) only [go_sem, Nat.reduceBEq, Nat.reduceAdd, ww, hgi, Option.map_some, List.length_map, Fr.c, Fr.enc, sb, Int.toNat_natCast, hcal] | (refine uD hs ?_ ?_ ?_; exact tz hw; exact rfl))
    refine S.cond rfl (fun hc2 => ?_) (fun hc2 => ?_)
    · rw [a5U hgi hc2 hm]
      (repeat first | refine uA ?_ | (refine uK ?_ ?_; focus first | omega | (intros; simp_all <;> omega)) | simp (disch := omega) only [go_sem, Nat.reduceBEq, Nat.reduceAdd, ww])
      exact S.done (d9.out rfl (Imp.refl rfl) rfl)
    · (repeat first | refine uA ?_ | (refine uK ?_ ?_; focus first | omega | (intros; simp_all <;> omega)) | simp (disch := omega) only [go_sem, Nat.reduceBEq, Nat.reduceAdd, ww])
      refine S.next (i + 1) ⟨by omega, fun j hj y hy => ?_⟩ (by omega) (by (repeat first | refine uA ?_ | (refine ⟨?_, ?_⟩; focus first | rfl | simp [slot]) | rfl | simp))
      rcases Nat.lt_or_ge j i with h1 | h1
      · exact hm j h1 y hy
      · have : j = i := by omega
        subst this
        rw [hgi] at hy
        cases hy
        exact hc2
  · have hi' : i = l.length := by omega
    subst hi'
    rw [a4M hm]
    (repeat first | refine uA ?_ | (refine uK ?_ ?_; focus first | omega | (intros; simp_all <;> omega)) | simp (disch := omega) only [go_sem, Nat.reduceBEq, Nat.reduceAdd, ww])
    exact S.done (d9.out rfl (Imp.refl rfl) rfl)
theorem b5H (g : Nat) (hcal : callable Tryz.prog g = true) (p : Fr -> Bool) (l : List Fr) (hn : l.length <= 1099511627776) (hg : ∀ x ∈ l, FZ g [x.c] (.v (.bool (p x)))) :
    FZ 134 [frs l, .v (.func (.func g) #[] #[])] (.v (.bool (l.any p))) := by
  refine q9.of a0t a0y (by exact Nat.le_of_ble_eq_true rfl) fun w O hw => ?_
  have h := b6g g hcal p l hn hg
  have e := a5Z p l
  generalize a2n p l = n at *
  simp only [O4, l6, TT, II, OA, OB, OC, MM, LL, VV, FF, MG, LG, VG, FG]
  simp only [frs, ints] at *
  (repeat first | refine uA ?_ | (refine uK ?_ ?_; focus first | omega | (intros; simp_all <;> omega)) | simp (disch := omega) only [go_sem, Nat.reduceBEq, Nat.reduceAdd, ww] | (refine uD h ?_ ?_ ?_; exact tz hw; exact rfl))
  rw [e]
  exact S.done (d9.out rfl (Imp.refl rfl) rfl)
set_option maxHeartbeats 8000000
theorem b9U {α : Type} (p : α -> Bool) (a b c d e : α) : [a, b, c, d, e].all p = (p a && p b && p c && p d && p e) := by simp [Bool.and_assoc]
theorem a4S {α : Type} (p : α -> Bool) (a b c : α) : [a, b, c].all p = (p a && p b && p c) := by simp [Bool.and_assoc]
theorem a5H {α : Type} (p : α -> Bool) (a b : α) : [a, b].all p = (p a && p b) := by simp
theorem Rbs.five {k : Nat} {a b c d e : Nm.Rt} (h : 5 <= k) (h1 : Rb k a) (h2 : Rb k b) (h3 : Rb k c) (h4 : Rb k d) (h5 : Rb k e) : Rbs k [a, b, c, d, e] := ⟨h, fun x hx => by simp at hx; rcases hx with rfl | rfl | rfl | rfl | rfl <;> assumption⟩
theorem Rbs.three {k : Nat} {a b c : Nm.Rt} (h : 3 <= k) (h1 : Rb k a) (h2 : Rb k b) (h3 : Rb k c) : Rbs k [a, b, c] := ⟨h, fun x hx => by simp at hx; rcases hx with rfl | rfl | rfl <;> assumption⟩
theorem Rbs.two {k : Nat} {a b : Nm.Rt} (h : 2 <= k) (h1 : Rb k a) (h2 : Rb k b) : Rbs k [a, b] := ⟨h, fun x hx => by simp at hx; rcases hx with rfl | rfl <;> assumption⟩
theorem c1d (l : Lk) (hl : Lb 1073741824 l) : FZ 200 [l.c] (ints (X4 l)) := by
  refine q9.of (eff := eff) Tryz.func200 (by conv => { lhs; cbv }) (by exact Nat.le_of_ble_eq_true rfl) fun w O hw => ?_
  obtain ⟨length, low, high, speed, a0E, shape⟩ := l
  obtain ⟨b1, b2, b3, b4, b5, b6⟩ := hl
  simp only at b1 b2 b3 b4 b5 b6
  have c1 := b1.mono (m := 17179869184) (by decide)
  have c2 := b2.mono (m := 17179869184) (by decide)
  have c3 := b3.mono (m := 17179869184) (by decide)
  have c4 := b4.mono (m := 17179869184) (by decide)
  have c5 := b5.mono (m := 17179869184) (by decide)
  have hsm := a8X _ (Rbs.five (by decide) c1 c2 c3 c4 c5)
  rw [b9U] at hsm
  have hs1 := O3 length c1
  have hcm := a0J low high c2 c3
  have hs2 := O3 speed c4
  have hs3 := O3 a0E c5
  have hp := a5k shape b6
  have hv := fun (v : Vt) (h : v ∈ shape) => a8X _ (Rbs.two (by decide) ((b6.2 v h).1.mono (m := 17179869184) (by decide)) ((b6.2 v h).2.mono (m := 17179869184) (by decide)))
  have hn := b6.1
  unfold X4
  simp only
  generalize (j4 length && j4 low && j4 high && j4 speed && j4 a0E) = q at *
  generalize A8 (Nm.j3 length) = n1 at *
  generalize Nm.E5 (Nm.j3 low) (Nm.j3 high) = n2 at *
  generalize A8 (Nm.j3 speed) = n3 at *
  generalize A8 (Nm.j3 a0E) = n4 at *
  generalize Q5 shape 8 = n5 at *
  simp only [l6]
  simp only [Lk.c, Lk.enc, rc, rts, rcs, vts, sb, ints, List.map_cons, List.map_nil] at *
  (repeat first | refine uG hs1 ?_ | refine uG hcm ?_ | refine uG hsm ?_ | refine uA ?_ | (refine uK ?_ ?_; focus first | omega | (intros; simp_all <;> omega)) | simp (disch := omega) only [go_sem, Nat.reduceBEq, Nat.reduceAdd, ww] | (refine uD hs1 ?_ ?_ ?_; exact tz hw; exact rfl) | (refine uD hcm ?_ ?_ ?_; exact tz hw; exact rfl) | (refine uE hsm ?_ ?_ ?_ ?_; exact tz hw; exact rfl; focus (repeat' first | exact p8.nil | exact Imp.refl rfl | exact Imp.frz rfl rfl rfl | (refine Imp.P6 rfl rfl ?_ ?_; (focus ((try simp only [List.length_append]); omega)); (focus first | rfl | assumption)) | refine p8.cons ?_ ?_); done))
  refine S.cond rfl (fun hc => ?_) (fun hc => ?_)
  · rw [if_pos (by simp only [Bool.or_eq_true, Bool.not_eq_true', decide_eq_true_eq] at hc; rcases hc with (hc | hc) | hc <;> simp [hc])]
    (repeat first | refine uA ?_ | (refine uK ?_ ?_; focus first | omega | (intros; simp_all <;> omega)) | simp (disch := omega) only [go_sem, Nat.reduceBEq, Nat.reduceAdd, ww])
    exact S.done (d9.out rfl (Imp.refl rfl) rfl)
  rw [if_neg (by simp only [Bool.or_eq_false_iff, Bool.not_eq_false', decide_eq_false_iff_not] at hc; simp [hc])]
  (repeat first | refine uG hs2 ?_ | refine uG hs3 ?_ | refine uA ?_ | (refine uK ?_ ?_; focus first | omega | (intros; simp_all <;> omega)) | simp (disch := omega) only [go_sem, Nat.reduceBEq, Nat.reduceAdd, ww] | (refine uD hs2 ?_ ?_ ?_; exact tz hw; exact rfl) | (refine uD hs3 ?_ ?_ ?_; exact tz hw; exact rfl))
  refine S.cond rfl (fun hc => ?_) (fun hc => ?_)
  · rw [if_pos (by simp only [Bool.or_eq_true, decide_eq_true_eq] at hc; exact hc)]
    (repeat first | refine uA ?_ | (refine uK ?_ ?_; focus first | omega | (intros; simp_all <;> omega)) | simp (disch := omega) only [go_sem, Nat.reduceBEq, Nat.reduceAdd, ww])
    exact S.done (d9.out rfl (Imp.refl rfl) rfl)
  rw [if_neg (by simp only [Bool.or_eq_false_iff, decide_eq_false_iff_not] at hc; simp [hc])]
  (repeat first | refine uG hp ?_ | refine uA ?_ | (refine uK ?_ ?_; focus first | omega | (intros; simp_all <;> omega)) | simp (disch := omega) only [go_sem, Nat.reduceBEq, Nat.reduceAdd, ww] | (refine uD hp ?_ ?_ ?_; exact tz hw; exact rfl))
  refine S.cond rfl (fun hc => ?_) (fun hc => ?_)
  · rw [if_pos (by simpa using hc)]
    (repeat first | refine uA ?_ | (refine uK ?_ ?_; focus first | omega | (intros; simp_all <;> omega)) | simp (disch := omega) only [go_sem, Nat.reduceBEq, Nat.reduceAdd, ww])
    exact S.done (d9.out rfl (Imp.refl rfl) rfl)
  rw [if_neg (by simpa using hc)]
  (repeat first | refine uA ?_ | (refine uK ?_ ?_; focus first | omega | (intros; simp_all <;> omega)) | simp (disch := omega) only [go_sem, Nat.reduceBEq, Nat.reduceAdd, ww, List.length_map])
  refine S.loop (X := Nat) (fun i => ⟨[(50, vts shape), (51, ints shape.length), (52, ints i)], []⟩) (fun i => i <= shape.length /\ (shape.all fun v => j4 v.x && j4 v.y) = (shape.drop i).all fun v => j4 v.x && j4 v.y) (fun i => shape.length - i) 0 ⟨Nat.zero_le _, rfl⟩ (by (repeat first | refine uA ?_ | (refine ⟨?_, ?_⟩; focus first | rfl | simp [slot]) | rfl | simp)) ?_
  rintro i ⟨hi, hg⟩
  simp only [vts, ints]
  (repeat first | refine uA ?_ | (refine uK ?_ ?_; focus first | omega | (intros; simp_all <;> omega)) | simp (disch := omega) only [go_sem, Nat.reduceBEq, Nat.reduceAdd, ww])
  (refine uJ rfl (fun hc => ?_) fun hc => ?_)
  · have hi' : i < shape.length := by omega
    have hgi := List.getElem?_eq_getElem hi'
    generalize shape[i] = x at hgi
    have hd := drop_at hgi
    have hs := hv x (List.mem_of_getElem? hgi)
    rw [a5H] at hs
    (repeat first | refine uG hs ?_ | refine uA ?_ | (refine uK ?_ ?_; focus first | omega | (intros; simp_all <;> omega)) | simp (disch := omega) only [go_sem, Nat.reduceBEq, Nat.reduceAdd, ww, hgi, Option.map_some, List.length_map, Vt.enc, sb] | (refine uE hs ?_ ?_ ?_ ?_; exact tz hw; exact rfl; focus (repeat' first | exact p8.nil | exact Imp.refl rfl | exact Imp.frz rfl rfl rfl | (refine Imp.P6 rfl rfl ?_ ?_; (focus ((try simp only [List.length_append, hgi, Option.map_some, List.length_map, Vt.enc, sb]); omega)); (focus first | rfl | assumption)) | refine p8.cons ?_ ?_); done))
    refine S.cond rfl (fun hc2 => ?_) (fun hc2 => ?_)
    · have : (shape.all fun v => j4 v.x && j4 v.y) = false := by
        rw [hg, hd, List.all_cons]
        simp only [Bool.not_eq_true'] at hc2
        rw [hc2]; rfl
      rw [this]
      (repeat first | refine uA ?_ | (refine uK ?_ ?_; focus first | omega | (intros; simp_all <;> omega)) | simp (disch := omega) only [go_sem, Nat.reduceBEq, Nat.reduceAdd, ww])
      exact S.done (d9.out rfl (Imp.refl rfl) rfl)
    · (repeat first | refine uA ?_ | (refine uK ?_ ?_; focus first | omega | (intros; simp_all <;> omega)) | simp (disch := omega) only [go_sem, Nat.reduceBEq, Nat.reduceAdd, ww])
      refine S.next (i + 1) ⟨by omega, ?_⟩ (by omega) (by (repeat first | refine uA ?_ | (refine ⟨?_, ?_⟩; focus first | rfl | simp [slot]) | rfl | simp))
      rw [hg, hd, List.all_cons]
      simp only [Bool.not_eq_false'] at hc2
      rw [hc2]; rfl
  · have : (shape.all fun v => j4 v.x && j4 v.y) = true := by rw [hg, List.drop_eq_nil_of_le (by omega)]; rfl
    rw [this]
    (repeat first | refine uA ?_ | (refine uK ?_ ?_; focus first | omega | (intros; simp_all <;> omega)) | simp (disch := omega) only [go_sem, Nat.reduceBEq, Nat.reduceAdd, ww])
    exact S.done (d9.out rfl (Imp.refl rfl) rfl)
theorem b2V (a : Am) (hl : Ab 1073741824 a) : FZ 87 [a.c] (ints (N8 a)) := by
  refine q9.of (eff := eff) Tryz.func87 (by conv => { lhs; cbv }) (by exact Nat.le_of_ble_eq_true rfl) fun w O hw => ?_
  obtain ⟨name, ⟨x, y, half, t⟩, links⟩ := a
  obtain ⟨b0, ⟨b1, b2, b3⟩, hn, hb⟩ := hl
  simp only at b0 b1 b2 b3 hn hb
  have c1 := b1.mono (m := 17179869184) (by decide)
  have c2 := b2.mono (m := 17179869184) (by decide)
  have c3 := b3.mono (m := 17179869184) (by decide)
  have hnm := b9M name (by omega)
  have hsm := a8X _ (Rbs.three (by decide) c1 c2 c3)
  rw [a4S] at hsm
  have hs := O3 t c3
  unfold N8 a1F
  simp only
  generalize Z6 name = q0 at *
  generalize (j4 x && j4 y && j4 t) = q at *
  generalize A8 (Nm.j3 t) = n1 at *
  simp only [l6]
  simp only [Am.c, Am.enc, rc, rts, rcs, lks, sb, ints, List.map_cons, List.map_nil] at *
  (repeat first | refine uF hnm ?_ | refine uA ?_ | (refine uK ?_ ?_; focus first | omega | (intros; simp_all <;> omega)) | simp (disch := omega) only [go_sem, Nat.reduceBEq, Nat.reduceAdd, ww] | (refine uB hnm ?_ ?_; exact rfl))
  refine S.cond rfl (fun hc => ?_) (fun hc => ?_)
  · rw [if_pos (by simpa using hc)]
    (repeat first | refine uA ?_ | (refine uK ?_ ?_; focus first | omega | (intros; simp_all <;> omega)) | simp (disch := omega) only [go_sem, Nat.reduceBEq, Nat.reduceAdd, ww])
    exact S.done (d9.out rfl (Imp.refl rfl) rfl)
  rw [if_neg (by simpa using hc)]
  (repeat first | refine uA ?_ | (refine uK ?_ ?_; focus first | omega | (intros; simp_all <;> omega)) | simp (disch := omega) only [go_sem, Nat.reduceBEq, Nat.reduceAdd, ww, List.length_map])
  refine S.cond rfl (fun hc => ?_) (fun hc => ?_)
  · rw [if_pos (by simp only [decide_eq_true_eq] at hc; omega)]
    (repeat first | refine uA ?_ | (refine uK ?_ ?_; focus first | omega | (intros; simp_all <;> omega)) | simp (disch := omega) only [go_sem, Nat.reduceBEq, Nat.reduceAdd, ww])
    exact S.done (d9.out rfl (Imp.refl rfl) rfl)
  rw [if_neg (by simp only [decide_eq_false_iff_not] at hc; omega)]
  by_cases h0 : links.length = 0
  · rw [if_pos (.inl h0)]
    have e0 : decide ((links.length : Int) = 0) = true := decide_eq_true (by omega)
    (repeat first | refine uG hs ?_ | refine uG hsm ?_ | refine uA ?_ | (refine uK ?_ ?_; focus first | omega | (intros; simp_all <;> omega)) | simp (disch := omega) only [go_sem, Nat.reduceBEq, Nat.reduceAdd, ww, List.length_map, e0] | (refine uD hs ?_ ?_ ?_; exact tz hw; exact rfl) | (refine uE hsm ?_ ?_ ?_ ?_; exact tz hw; exact rfl; focus (repeat' first | exact p8.nil | exact Imp.refl rfl | exact Imp.frz rfl rfl rfl | (refine Imp.P6 rfl rfl ?_ ?_; (focus ((try simp only [List.length_append, List.length_map, e0]); omega)); (focus first | rfl | assumption)) | refine p8.cons ?_ ?_); done))
    refine S.cond rfl (fun _ => ?_) (fun hc => by simp at hc)
    (repeat first | refine uA ?_ | (refine uK ?_ ?_; focus first | omega | (intros; simp_all <;> omega)) | simp (disch := omega) only [go_sem, Nat.reduceBEq, Nat.reduceAdd, ww])
    exact S.done (d9.out rfl (Imp.refl rfl) rfl)
  have e0 : decide ((links.length : Int) = 0) = false := decide_eq_false (by omega)
  (repeat first | refine uG hs ?_ | refine uG hsm ?_ | refine uA ?_ | (refine uK ?_ ?_; focus first | omega | (intros; simp_all <;> omega)) | simp (disch := omega) only [go_sem, Nat.reduceBEq, Nat.reduceAdd, ww, List.length_map, e0] | (refine uD hs ?_ ?_ ?_; exact tz hw; exact rfl) | (refine uE hsm ?_ ?_ ?_ ?_; exact tz hw; exact rfl; focus (repeat' first | exact p8.nil | exact Imp.refl rfl | exact Imp.frz rfl rfl rfl | (refine Imp.P6 rfl rfl ?_ ?_; (focus ((try simp only [List.length_append, List.length_map, e0]); omega)); (focus first | rfl | assumption)) | refine p8.cons ?_ ?_); done))
  refine S.cond rfl (fun hc => ?_) (fun hc => ?_)
  · rw [if_pos (by simp only [Bool.or_eq_true, Bool.not_eq_true', decide_eq_true_eq] at hc; rcases hc with hc | hc; (· exact .inr (.inl hc)); (· exact .inr (.inr (by cases half <;> simp_all))))]
    (repeat first | refine uA ?_ | (refine uK ?_ ?_; focus first | omega | (intros; simp_all <;> omega)) | simp (disch := omega) only [go_sem, Nat.reduceBEq, Nat.reduceAdd, ww])
    exact S.done (d9.out rfl (Imp.refl rfl) rfl)
  rw [if_neg (by simp only [Bool.or_eq_false_iff, Bool.not_eq_false', decide_eq_false_iff_not] at hc; rintro (h | h | h); (· omega); (· simp_all); (· cases half <;> simp_all))]
  (repeat first | refine uA ?_ | (refine uK ?_ ?_; focus first | omega | (intros; simp_all <;> omega)) | simp (disch := omega) only [go_sem, Nat.reduceBEq, Nat.reduceAdd, ww, List.length_map])
  refine S.loop (X := Nat) (fun i => ⟨[(48, lks links), (49, ints links.length), (50, ints i)], []⟩) (fun i => i <= links.length /\ F4 X4 links = F4 X4 (links.drop i)) (fun i => links.length - i) 0 ⟨Nat.zero_le _, rfl⟩ (by (repeat first | refine uA ?_ | (refine ⟨?_, ?_⟩; focus first | rfl | simp [slot]) | rfl | simp)) ?_
  rintro i ⟨hi, hg⟩
  simp only [lks, ints]
  (repeat first | refine uA ?_ | (refine uK ?_ ?_; focus first | omega | (intros; simp_all <;> omega)) | simp (disch := omega) only [go_sem, Nat.reduceBEq, Nat.reduceAdd, ww])
  (refine uJ rfl (fun hc => ?_) fun hc => ?_)
  · have hi' : i < links.length := by omega
    have hgi := List.getElem?_eq_getElem hi'
    generalize links[i] = x at hgi
    have hst := a0f (f := X4) hgi
    have hnx := a0k (f := X4) hgi
    have hs := c1d x (hb x (List.mem_of_getElem? hgi))
    generalize X4 x = e at *
    simp only [Lk.c, Lk.enc, vts, sb, ints] at hs
    (repeat first | refine uG hs ?_ | refine uA ?_ | (refine uK ?_ ?_; focus first | omega | (intros; simp_all <;> omega)) | simp (disch := omega) only [go_sem, Nat.reduceBEq, Nat.reduceAdd, ww, hgi, Option.map_some, List.length_map, Lk.enc, vts, sb] | (refine uD hs ?_ ?_ ?_; exact tz hw; exact rfl))
    refine S.cond rfl (fun hc2 => ?_) (fun hc2 => ?_)
    · rw [hg, hst (by simpa using hc2)]
      (repeat first | refine uA ?_ | (refine uK ?_ ?_; focus first | omega | (intros; simp_all <;> omega)) | simp (disch := omega) only [go_sem, Nat.reduceBEq, Nat.reduceAdd, ww])
      exact S.done (d9.out rfl (Imp.refl rfl) rfl)
    · (repeat first | refine uA ?_ | (refine uK ?_ ?_; focus first | omega | (intros; simp_all <;> omega)) | simp (disch := omega) only [go_sem, Nat.reduceBEq, Nat.reduceAdd, ww])
      refine S.next (i + 1) ⟨by omega, ?_⟩ (by omega) (by (repeat first | refine uA ?_ | (refine ⟨?_, ?_⟩; focus first | rfl | simp [slot]) | rfl | simp))
      rw [hg, hnx (by simpa using hc2)]
  · rw [hg, a0H (by omega)]
    (repeat first | refine uA ?_ | (refine uK ?_ ?_; focus first | omega | (intros; simp_all <;> omega)) | simp (disch := omega) only [go_sem, Nat.reduceBEq, Nat.reduceAdd, ww])
    exact S.done (d9.out rfl (Imp.refl rfl) rfl)
theorem b7v (v : Vt) (hv : Vb 17179869184 v) : FZ 197 [v.c] (.v (.bool (!okV v))) := by
  refine q9.of (eff := eff) Tryz.func197 (by conv => { lhs; cbv }) (by exact Nat.le_of_ble_eq_true rfl) fun w O hw => ?_
  obtain ⟨x, y⟩ := v
  obtain ⟨b1, b2⟩ := hv
  simp only at b1 b2
  have h1 := a1x x (b1.mono (by decide))
  have h2 := a1x y (b2.mono (by decide))
  have h3 := a2Q x b1
  have h4 := a2Q y b2
  unfold okV
  simp only
  generalize decide x.F3 = q1 at *
  generalize decide y.F3 = q2 at *
  generalize j4 x = q3 at *
  generalize j4 y = q4 at *
  simp only [l6]
  simp only [Vt.c, Vt.enc, rc, sb] at *
  (repeat first | refine uA ?_ | (refine uK ?_ ?_; focus first | omega | (intros; simp_all <;> omega)) | simp (disch := omega) only [go_sem, Nat.reduceBEq, Nat.reduceAdd, ww] | (refine uD h1 ?_ ?_ ?_; exact tz hw; exact rfl) | (refine uD h2 ?_ ?_ ?_; exact tz hw; exact rfl) | (refine uD h3 ?_ ?_ ?_; exact tz hw; exact rfl) | (refine uD h4 ?_ ?_ ?_; exact tz hw; exact rfl))
  have e : (!(q1 && q2 && q3 && q4)) = (!q1 || !q2 || !q3 || !q4) := by cases q1 <;> cases q2 <;> cases q3 <;> cases q4 <;> rfl
  (try rw [e])
  exact S.done (d9.out rfl (Imp.refl rfl) rfl)
theorem a8B (l : List Vt) (hl : Vbs 17179869184 l) : FZ 83 [vts l] (.v (.bool (l.all okV))) := by
  refine q9.of b0o b0y (by exact Nat.le_of_ble_eq_true rfl) fun w O hw => ?_
  have h := b2n 197 (by kernel_rfl) (fun v => !okV v) l (by have := hl.1; omega) (fun v hv => b7v v (hl.2 v hv))
  have e : l.all okV = !l.any fun v => !okV v := by rw [List.not_any_eq_all_not]; simp
  rw [e]
  generalize (l.any fun v => !okV v) = q at *
  simp only [a5v, l6, TT, II, OA, OB, OC, MM, LL, VV, FF, MG, LG, VG, FG]
  simp only [vts] at *
  (repeat first | refine uA ?_ | (refine uK ?_ ?_; focus first | omega | (intros; simp_all <;> omega)) | simp (disch := omega) only [go_sem, Nat.reduceBEq, Nat.reduceAdd, ww] | (refine uD h ?_ ?_ ?_; exact tz hw; exact rfl))
  exact S.done (d9.out rfl (Imp.refl rfl) rfl)
theorem Vbs.one {k : Nat} {v : Vt} (h : 1 <= k) (h1 : Vb k v) : Vbs k [v] := ⟨h, fun x hx => by simp at hx; subst hx; exact h1⟩
theorem Vbs.two {k : Nat} {v u : Vt} (h : 2 <= k) (h1 : Vb k v) (h2 : Vb k u) : Vbs k [v, u] := ⟨h, fun x hx => by simp at hx; rcases hx with rfl | rfl <;> assumption⟩
theorem b2v (f : Fr) (hf : Fb 17179869184 f) : FZ 21 [f.c] (.v (.bool (okF f))) := by
  refine q9.of (eff := eff) Tryz.func21 (by conv => { lhs; cbv }) (by exact Nat.le_of_ble_eq_true rfl) fun w O hw => ?_
  obtain ⟨x, y, half, t⟩ := f
  obtain ⟨b1, b2, b3⟩ := hf
  simp only at b1 b2 b3
  have h1 := a8B [⟨x, y⟩] (Vbs.one (by decide) ⟨b1, b2⟩)
  rw [List.all_cons, List.all_nil, Bool.and_true] at h1
  have h2 := a1x t (b3.mono (by decide))
  have h3 := a2Q t b3
  have h4 := O3 t b3
  unfold okF a1F
  simp only
  generalize okV ⟨x, y⟩ = q1 at *
  generalize decide t.F3 = q2 at *
  generalize j4 t = q3 at *
  generalize A8 (Nm.j3 t) = n at *
  simp only [l6]
  simp only [Fr.c, Fr.enc, vts, Vt.enc, rc, sb, ints, List.map_cons, List.map_nil] at *
  (repeat first | refine uA ?_ | (refine uK ?_ ?_; focus first | omega | (intros; simp_all <;> omega)) | simp (disch := omega) only [go_sem, Nat.reduceBEq, Nat.reduceAdd, ww] | (refine uD h2 ?_ ?_ ?_; exact tz hw; exact rfl) | (refine uD h3 ?_ ?_ ?_; exact tz hw; exact rfl) | (refine uD h4 ?_ ?_ ?_; exact tz hw; exact rfl) | (refine uE h1 ?_ ?_ ?_ ?_; exact tz hw; exact rfl; focus (repeat' first | exact p8.nil | exact Imp.refl rfl | exact Imp.frz rfl rfl rfl | (refine Imp.P6 rfl rfl ?_ ?_; (focus ((try simp only [List.length_append]); omega)); (focus first | rfl | assumption)) | refine p8.cons ?_ ?_); done))
  have e : (q1 && q2 && q3 && !(half && !decide (n = 0))) = (q1 && q2 && q3 && (!half || decide (n = 0))) := by cases q1 <;> cases q2 <;> cases q3 <;> cases half <;> simp
  rw [e]
  exact S.done (d9.out rfl (Imp.refl (by rfl)) rfl)
theorem b1Y (l : List Vt) (hl : Vbs 1073741824 l) : FZ 91 [vts l] (ints (G6 l)) := by
  refine q9.of b0c b0A (by exact Nat.le_of_ble_eq_true rfl) fun w O hw => ?_
  have h1 := a5k l hl
  have h2 := a8B l ⟨by have := hl.1; omega, fun v hv => (hl.2 v hv).mono (by decide)⟩
  unfold G6
  generalize Q5 l 8 = e at *
  generalize l.all okV = q at *
  simp only [a5u, l6, TT, II, OA, OB, OC, MM, LL, VV, FF, MG, LG, VG, FG]
  simp only [vts, ints] at *
  (repeat first | refine uA ?_ | (refine uK ?_ ?_; focus first | omega | (intros; simp_all <;> omega)) | simp (disch := omega) only [go_sem, Nat.reduceBEq, Nat.reduceAdd, ww] | (refine uD h1 ?_ ?_ ?_; exact tz hw; exact rfl))
  refine S.cond rfl (fun hc => ?_) (fun hc => ?_)
  · rw [if_pos (by simpa using hc)]
    (repeat first | refine uA ?_ | (refine uK ?_ ?_; focus first | omega | (intros; simp_all <;> omega)) | simp (disch := omega) only [go_sem, Nat.reduceBEq, Nat.reduceAdd, ww])
    exact S.done (d9.out rfl (Imp.refl rfl) rfl)
  rw [if_neg (by simpa using hc)]
  (repeat first | refine uA ?_ | (refine uK ?_ ?_; focus first | omega | (intros; simp_all <;> omega)) | simp (disch := omega) only [go_sem, Nat.reduceBEq, Nat.reduceAdd, ww] | (refine uD h2 ?_ ?_ ?_; exact tz hw; exact rfl))
  refine S.cond rfl (fun hc => ?_) (fun hc => ?_)
  · rw [if_neg (by simpa using hc)]
    (repeat first | refine uA ?_ | (refine uK ?_ ?_; focus first | omega | (intros; simp_all <;> omega)) | simp (disch := omega) only [go_sem, Nat.reduceBEq, Nat.reduceAdd, ww])
    exact S.done (d9.out rfl (Imp.refl rfl) rfl)
  · rw [if_pos (by simpa using hc)]
    (repeat first | refine uA ?_ | (refine uK ?_ ?_; focus first | omega | (intros; simp_all <;> omega)) | simp (disch := omega) only [go_sem, Nat.reduceBEq, Nat.reduceAdd, ww])
    exact S.done (d9.out rfl (Imp.refl rfl) rfl)
def a2d : F5 := ⟨10, [.tmp 4], .seq (.reg [OA 2 (.box 37 (TT 0)), OA 3 (.box 37 (TT 1)), OA 4 (.mv (.const (.bool false)))]) (.seq (.K3 [.q, .q, .q, .q, .q, .q] [LL 5 5 2, OA 6 (.call 119 [TT 5]), LL 7 5 3, OA 8 (.call 119 [TT 7]), OA 9 (.bin
  .eql (TT 6) (TT 8)), MM 4 9]) .ret)⟩
theorem a5J : C8 eff Tryz.prog Tryz.f41 = some a2d := by kernel_rfl
theorem a5M : Tryz.prog.funcs[41]? = some Tryz.f41 := Tryz.func41
def a2B : F5 := ⟨16, [.tmp 3], .seq (.reg [OA 3 (.mv (II 0))]) (.seq (.block 0 (.seq (.reg [MM 5 0, OA 6 (.call 20 [TT 5]), OA 7 (.un .not (TT 6)), MM 4 7]) (.cond (TT 4) (.seq (.reg [OA 3 (.mv (II 3))]) .ret) (.seq (.reg [VV 9 1, MM 10 0, OA 11
  (.call 99 [TT 9, TT 10]), MM 8 11]) (.cond (TT 8) (.seq (.reg [OA 3 (.mv (II 5))]) .ret) .skip))))) (.seq (.reg [VV 12 1, MM 13 0, OA 14 (.bsl 9 1 1 [.string ⟨#[]⟩] [(0, TT 13)]), OA 15 (.app 9 1 16 (TT 12) (TT 14)), OB (.store
  1 (TT 1) (TT 15))]) (.seq (.reg [OA 3 (.mv (II 0))]) .ret)))⟩
theorem a6G : C8 eff Tryz.prog Tryz.f98 = some a2B := by kernel_rfl
theorem a6F : Tryz.prog.funcs[98]? = some Tryz.f98 := Tryz.func98
def a3l : F5 := ⟨14, [.tmp 2], .seq (.reg [OA 1 (.box 29 (TT 0)), OA 2 (.mv (.const (.string ⟨#[]⟩)))]) (.seq (.K3 [.q, .q, .q, .q, .q, .q, .q, .q, .q, .q, .q, .q] [FF 3 0 1, VV 4 3, OA 5 (.call 203 [TT 4]), FF 6 1 1, VV 7 6, OA 8 (.call 108
  [TT 7]), OA 9 (.bin .add (TT 5) (TT 8)), FF 10 2 1, VV 11 10, OA 12 (.call 108 [TT 11]), OA 13 (.bin .add (TT 9) (TT 12)), MM 2 13]) .ret)⟩
theorem a6M : C8 eff Tryz.prog Tryz.f104 = some a3l := by kernel_rfl
theorem a7h : Tryz.prog.funcs[104]? = some Tryz.f104 := Tryz.func104
def a4B : F5 := ⟨8, [.tmp 2], .seq (.reg [OA 2 (.mv (.const (.string ⟨#[]⟩)))]) (.seq (.reg [MM 3 0, OA 4 (.len true (TT 3)), OA 5 (.call 124 [TT 4]), MM 6 0, OA 7 (.bin .add (TT 5) (TT 6)), MM 2 7]) .ret)⟩
theorem a8H : C8 eff Tryz.prog Tryz.f108 = some a4B := by kernel_rfl
theorem a8K : Tryz.prog.funcs[108]? = some Tryz.f108 := Tryz.func108
def a3t : F5 := ⟨16, [.tmp 2], .seq (.reg [OA 1 (.box 55 (TT 0)), OA 2 (.mv (.const (.string ⟨#[]⟩)))]) (.seq (.K3 [.q, .q, .q, .q, .q, .q, .q, .q, .q, .q, .q, .q, .q, .q] [FF 3 0 1, LL 4 6 3, OA 5 (.call 118 [TT 4]), FF 6 6 1, FF 7 0 6, VV 8
  7, OA 9 (.call 203 [TT 8]), OA 10 (.bin .add (TT 5) (TT 9)), FF 11 6 1, FF 12 1 11, LL 13 3 12, OA 14 (.call 104 [TT 13]), OA 15 (.bin .add (TT 10) (TT 14)), MM 2 15]) .ret)⟩
theorem a7o : C8 eff Tryz.prog Tryz.f109 = some a3t := by kernel_rfl
theorem a6V : Tryz.prog.funcs[109]? = some Tryz.f109 := Tryz.func109
def a3y : F5 := ⟨10, [.tmp 2], .seq (.reg [OA 1 (.box 51 (TT 0)), OA 2 (.mv (.const (.string ⟨#[]⟩)))]) (.seq (.K3 [.q, .q, .q, .q, .q, .q, .q, .q] [FF 3 0 1, LL 4 3 3, OA 5 (.call 104 [TT 4]), FF 6 3 1, LL 7 3 6, OA 8 (.call 104 [TT 7]), OA 9
  (.bin .add (TT 5) (TT 8)), MM 2 9]) .ret)⟩
theorem a7T : C8 eff Tryz.prog Tryz.f118 = some a3y := by kernel_rfl
theorem a8a : Tryz.prog.funcs[118]? = some Tryz.f118 := Tryz.func118
def a3z : F5 := ⟨4, [.tmp 2], .seq (.reg [OA 2 (.mv (.const (.string ⟨#[]⟩)))]) (.seq (.seq (.reg [MM 3 0]) (.cond (TT 3) (.seq (.reg [OA 2 (.mv (.const (.string ⟨#[1]⟩)))]) .ret) .skip)) (.seq (.reg [OA 2 (.mv (.const (.string ⟨#[0]⟩)))])
  .ret))⟩
theorem a7Y : C8 eff Tryz.prog Tryz.f203 = some a3z := by kernel_rfl
theorem a7X : Tryz.prog.funcs[203]? = some Tryz.f203 := Tryz.func203
def a2A : F5 := ⟨19, [.tmp 2], .seq (.reg [OA 1 (.box 90 (TT 0)), OA 2 (.mv (.const (.string ⟨#[]⟩)))]) (.seq (.K3 [.q, .q, .q, .q, .q, .q, .q, .q, .q, .q, .q, .q, .q, .q, .q, .q, .q] [FF 3 0 1, VV 4 3, OA 5 (.call 125 [TT 4, .func 104]), FF 6
  1 1, VV 7 6, OA 8 (.call 125 [TT 7, .func 104]), OA 9 (.bin .add (TT 5) (TT 8)), FF 10 2 1, VV 11 10, OA 12 (.call 203 [TT 11]), OA 13 (.bin .add (TT 9) (TT 12)), FF 14 3 1, VV 15 14, OA 16 (.bin .add (TT 15) (II 1)), OA 17
  (.call 124 [TT 16]), OA 18 (.bin .add (TT 13) (TT 17)), MM 2 18]) .ret)⟩
theorem a6E : C8 eff Tryz.prog Tryz.f205 = some a2A := by kernel_rfl
theorem a6D : Tryz.prog.funcs[205]? = some Tryz.f205 := Tryz.func205
set_option maxHeartbeats 4000000
def azL : List UInt8 := [97, 98, 99, 100, 101, 102, 103, 104, 105, 106, 107, 108, 109, 110, 111, 112, 113, 114, 115, 116, 117, 118, 119, 120, 121, 122]
theorem c2q : ∀ n : Fin 256, azL.contains (UInt8.ofNat n) = J6 (UInt8.ofNat n) := by decide +kernel
theorem b7H (b : UInt8) : azL.contains b = J6 b := by
  have h := c2q ⟨b.toNat, b.toNat_lt⟩
  simpa using h
theorem b8b {p : UInt8 -> Bool} {x : UInt8} : ∀ {l : List UInt8}, x ∈ l.takeWhile p -> p x = true
  | [], h => by simp at h
  | y :: l, h => by
    rw [List.takeWhile_cons] at h
    split at h
    · rcases List.mem_cons.1 h with rfl | h
      · assumption
      · exact b8b h
    · cases h
theorem b2j {p : UInt8 -> Bool} : ∀ {l : List UInt8}, l.dropWhile p = [] <-> l.all p = true
  | [] => by simp
  | x :: l => by
    rw [List.dropWhile_cons, List.all_cons]
    cases h : p x
    · simp
    · simpa using b2j (p := p) (l := l)
theorem b9s (l : List UInt8) : Lib.trimS l azL = [] <-> l.all J6 = true := by
  have hf : (fun b => azL.contains b) = J6 := funext b7H
  unfold Lib.trimS Lib.trimLeftS Lib.trimRightS
  rw [hf, b2j]
  constructor
  · intro h
    rw [List.all_eq_true] at h ⊢
    intro x hx
    cases hl : J6 x with
    | true => rfl
    | false =>
      have : x ∈ (l.reverse.dropWhile J6).reverse := by
        rw [List.mem_reverse]
        have hx' : x ∈ l.reverse := List.mem_reverse.2 hx
        rw [<- List.takeWhile_append_dropWhile (p := J6) (l := l.reverse)] at hx'
        rcases List.mem_append.1 hx' with h1 | h1
        · have := b8b h1
          rw [hl] at this; cases this
        · exact h1
      have := h x this
      rw [hl] at this; cases this
  · intro h
    rw [List.all_eq_true] at h ⊢
    intro x hx
    exact h x (List.mem_reverse.1 ((List.dropWhile_sublist _).mem (List.mem_reverse.1 hx)))
theorem c1t (s : List UInt8) (hs : s.length <= 1099511627776) : l7 Tryz.prog 82 [sb s, .v (.string ⟨#[97, 98, 99, 100, 101, 102, 103, 104, 105, 106, 107, 108, 109, 110, 111, 112, 113, 114, 115, 116, 117, 118, 119, 120, 121, 122]⟩)] (sb (Lib.trimS s azL)) := by
  intro O w vs hO hA
  simp only [FzL, sb, Fz] at hA
  obtain ⟨y, ys, rfl, rfl, z, zs, rfl, rfl, rfl⟩ := hA
  refine (Any.strings_Trim_laid Tryz.c0X (by kernel_rfl) (bs s) ⟨#[97, 98, 99, 100, 101, 102, 103, 104, 105, 106, 107, 108, 109, 110, 111, 112, 113, 114, 115, 116, 117, 118, 119, 120, 121, 122]⟩ w (by rw [w9]; omega) (by decide) (ascii_of_all (by decide))).mono ?_
  rintro e w' ⟨rfl, hb⟩
  exact ⟨_, rfl, hb, by simp only [sb, Fz, O5]; rfl⟩
theorem c1E (s : List UInt8) (hs : s.length <= 1099511627776) : l7 Tryz.prog 20 [sb s] (.v (.bool (Z6 s))) := by
  refine l7.of (eff := eff) Tryz.func20 (by conv => { lhs; cbv }) (by exact Nat.le_of_ble_eq_true rfl) fun w O => ?_
  have h := c1t s hs
  have e : Z6 s = ((!decide (s = []) && decide ((s.length : Int) <= 12)) && decide (Lib.trimS s azL = [])) := by
    have h1 : decide (Lib.trimS s azL = []) = s.all J6 := by
      have := b9s s
      cases h : s.all J6
      · exact decide_eq_false (fun h2 => by rw [this.1 h2] at h; cases h)
      · exact decide_eq_true (this.2 h)
    have h2 : (s.all fun b => decide (97 <= b.toNat) && decide (b.toNat <= 122)) = s.all J6 := rfl
    have h3 : decide (1 <= s.length) = !decide (s = []) := by cases s <;> simp
    have h4 : decide (s.length <= 12) = decide ((s.length : Int) <= 12) := by apply decide_eq_decide.2; omega
    unfold Z6
    rw [h1, h2, h3, h4]
    cases s.all J6 <;> cases (decide (s = [])) <;> cases (decide ((s.length : Int) <= 12)) <;> rfl
  rw [e]
  generalize Lib.trimS s azL = t at *
  simp only [l6]
  simp only [sb] at *
  (repeat first | refine uA ?_ | (refine uK ?_ ?_; focus first | omega | (intros; simp_all <;> omega)) | simp (disch := omega) only [go_sem, Nat.reduceBEq, Nat.reduceAdd, ww, w9, a0r, decide_not] | (refine uB h ?_ ?_; exact rfl))
  exact S.done (d9.out rfl (Imp.refl rfl) rfl)
theorem a4q {α : Type} {f : α -> Bool} {l : List α} {i : Nat} {x : α} (h : l[i]? = some x) : (l.drop i).all f = (f x && (l.drop (i + 1)).all f) := by
  obtain ⟨h1, h2⟩ := List.getElem?_eq_some_iff.1 h
  rw [List.drop_eq_getElem_cons h1, List.all_cons, h2]
theorem a5O {α : Type} {f : α -> Bool} {l : List α} {i : Nat} (h : l.length <= i) : (l.drop i).all f = true := by rw [List.drop_eq_nil_of_le h]; rfl
theorem W9 {a : Nm.Rt} : j4 a = (decide a.F3 && j4 a) := by
  unfold j4
  cases decide a.F3 <;> simp
theorem a4l (l : List Nm.Rt) (hl : Rbs 17179869184 l) : FZ 85 [rts l] (.v (.bool (l.all j4))) := by
  refine q9.of (eff := eff) Tryz.func85 (by conv => { lhs; cbv }) (by exact Nat.le_of_ble_eq_true rfl) fun w O hw => ?_
  obtain ⟨hn, hb⟩ := hl
  simp only [l6, rts]
  (repeat first | refine uA ?_ | (refine uK ?_ ?_; focus first | omega | (intros; simp_all <;> omega)) | simp (disch := omega) only [go_sem, Nat.reduceBEq, Nat.reduceAdd, ww, List.length_map])
  refine S.loop (X := Nat) (fun i => ⟨[(5, rts l), (6, ints l.length), (7, ints i)], []⟩) (fun i => i <= l.length /\ l.all j4 = (l.drop i).all j4) (fun i => l.length - i) 0 ⟨Nat.zero_le _, rfl⟩ (by (repeat first | refine uA ?_ | (refine ⟨?_, ?_⟩; focus first | rfl | simp [slot]) | rfl | simp)) ?_
  rintro i ⟨hi, hg⟩
  simp only [rts, ints] at hi ⊢
  (repeat first | refine uA ?_ | (refine uK ?_ ?_; focus first | omega | (intros; simp_all <;> omega)) | simp (disch := omega) only [go_sem, Nat.reduceBEq, Nat.reduceAdd, ww])
  (refine uJ rfl (fun hc => ?_) fun hc => ?_)
  · have hgi := List.getElem?_eq_getElem (show i < l.length by omega)
    generalize l[i]'(_) = x at hgi
    have hx := hb x (List.mem_of_getElem? hgi)
    have hs := a4q (f := j4) hgi
    have o1 := a1x x (hx.mono (by decide))
    have o2 := a2Q x hx
    rw [W9] at hs
    generalize decide x.F3 = q1 at *
    generalize j4 x = q2 at *
    simp only [rc, sb] at o1 o2
    (repeat first | refine uA ?_ | (refine uK ?_ ?_; focus first | omega | (intros; simp_all <;> omega)) | simp (disch := omega) only [go_sem, Nat.reduceBEq, Nat.reduceAdd, ww, hgi, Option.map_some, List.length_map, rcs, sb, Int.toNat_natCast] | (refine uD o1 ?_ ?_ ?_; exact tz hw; exact rfl) | (refine uD o2 ?_ ?_ ?_; exact tz hw; exact rfl))
    refine S.cond rfl (fun hc2 => ?_) (fun hc2 => ?_)
    · rw [hg, hs, show (q1 && q2) = false by cases q1 <;> cases q2 <;> simp_all, Bool.false_and]
      (repeat first | refine uA ?_ | (refine uK ?_ ?_; focus first | omega | (intros; simp_all <;> omega)) | simp (disch := omega) only [go_sem, Nat.reduceBEq, Nat.reduceAdd, ww])
      exact S.done (d9.out rfl (Imp.refl rfl) rfl)
    · (repeat first | refine uA ?_ | (refine uK ?_ ?_; focus first | omega | (intros; simp_all <;> omega)) | simp (disch := omega) only [go_sem, Nat.reduceBEq, Nat.reduceAdd, ww])
      refine S.next (i + 1) ⟨by omega, by rw [hg, hs, show (q1 && q2) = true by cases q1 <;> cases q2 <;> simp_all, Bool.true_and]⟩ (by omega) (by (repeat first | refine uA ?_ | (refine ⟨?_, ?_⟩; focus first | rfl | simp [slot]) | rfl | simp))
  · rw [hg, a5O (by omega)]
    (repeat first | refine uA ?_ | (refine uK ?_ ?_; focus first | omega | (intros; simp_all <;> omega)) | simp (disch := omega) only [go_sem, Nat.reduceBEq, Nat.reduceAdd, ww])
    exact S.done (d9.out rfl (Imp.refl rfl) rfl)
theorem a7P (l : List Nm.Rt) (hl : Rbs 17179869184 l) : FZ 140 [rts l] (.v (.bool (l.all G9))) := by
  refine q9.of (eff := eff) Tryz.func140 (by conv => { lhs; cbv }) (by exact Nat.le_of_ble_eq_true rfl) fun w O hw => ?_
  obtain ⟨hn, hb⟩ := hl
  simp only [l6, rts]
  (repeat first | refine uA ?_ | (refine uK ?_ ?_; focus first | omega | (intros; simp_all <;> omega)) | simp (disch := omega) only [go_sem, Nat.reduceBEq, Nat.reduceAdd, ww, List.length_map])
  refine S.loop (X := Nat) (fun i => ⟨[(5, rts l), (6, ints l.length), (7, ints i)], []⟩) (fun i => i <= l.length /\ l.all G9 = (l.drop i).all G9) (fun i => l.length - i) 0 ⟨Nat.zero_le _, rfl⟩ (by (repeat first | refine uA ?_ | (refine ⟨?_, ?_⟩; focus first | rfl | simp [slot]) | rfl | simp)) ?_
  rintro i ⟨hi, hg⟩
  simp only [rts, ints] at hi ⊢
  (repeat first | refine uA ?_ | (refine uK ?_ ?_; focus first | omega | (intros; simp_all <;> omega)) | simp (disch := omega) only [go_sem, Nat.reduceBEq, Nat.reduceAdd, ww])
  (refine uJ rfl (fun hc => ?_) fun hc => ?_)
  · have hgi := List.getElem?_eq_getElem (show i < l.length by omega)
    generalize l[i]'(_) = x at hgi
    have hx := hb x (List.mem_of_getElem? hgi)
    have hs := a4q (f := G9) hgi
    have o1 := a1x x (hx.mono (by decide))
    rw [show decide x.F3 = G9 x from rfl] at o1
    generalize G9 x = q1 at *
    simp only [rc, sb] at o1
    (repeat first | refine uA ?_ | (refine uK ?_ ?_; focus first | omega | (intros; simp_all <;> omega)) | simp (disch := omega) only [go_sem, Nat.reduceBEq, Nat.reduceAdd, ww, hgi, Option.map_some, List.length_map, rcs, sb, Int.toNat_natCast] | (refine uD o1 ?_ ?_ ?_; exact tz hw; exact rfl))
    refine S.cond rfl (fun hc2 => ?_) (fun hc2 => ?_)
    · rw [hg, hs, show q1 = false by simpa using hc2, Bool.false_and]
      (repeat first | refine uA ?_ | (refine uK ?_ ?_; focus first | omega | (intros; simp_all <;> omega)) | simp (disch := omega) only [go_sem, Nat.reduceBEq, Nat.reduceAdd, ww])
      exact S.done (d9.out rfl (Imp.refl rfl) rfl)
    · (repeat first | refine uA ?_ | (refine uK ?_ ?_; focus first | omega | (intros; simp_all <;> omega)) | simp (disch := omega) only [go_sem, Nat.reduceBEq, Nat.reduceAdd, ww])
      refine S.next (i + 1) ⟨by omega, by rw [hg, hs, show q1 = true by simpa using hc2, Bool.true_and]⟩ (by omega) (by (repeat first | refine uA ?_ | (refine ⟨?_, ?_⟩; focus first | rfl | simp [slot]) | rfl | simp))
  · rw [hg, a5O (by omega)]
    (repeat first | refine uA ?_ | (refine uK ?_ ?_; focus first | omega | (intros; simp_all <;> omega)) | simp (disch := omega) only [go_sem, Nat.reduceBEq, Nat.reduceAdd, ww])
    exact S.done (d9.out rfl (Imp.refl rfl) rfl)
theorem okF_eq (f : Fr) : okF f = ([f.x, f.y, f.t].all j4 && !a1F f.half f.t) := by
  rw [a4S, W9 (a := f.x), W9 (a := f.y), W9 (a := f.t)]
  unfold okF okV
  simp only
  generalize a1F f.half f.t = z
  cases decide f.x.F3 <;> cases decide f.y.F3 <;> cases decide f.t.F3 <;> cases j4 f.x <;> cases j4 f.y <;> cases j4 f.t <;> cases z <;> rfl
theorem b3H (v : Vt) : okV v = [v.x, v.y].all j4 := by
  rw [a5H, W9 (a := v.x), W9 (a := v.y)]
  unfold okV
  cases decide v.x.F3 <;> cases decide v.y.F3 <;> cases j4 v.x <;> cases j4 v.y <;> rfl
theorem b2D (f : Fr) (hf : Fb 17179869184 f) : FZ 22 [f.c] (.v (.bool (okF f))) := by
  refine q9.of (eff := eff) Tryz.func22 (by conv => { lhs; cbv }) (by exact Nat.le_of_ble_eq_true rfl) fun w O hw => ?_
  rw [okF_eq]
  obtain ⟨x, y, half, t⟩ := f
  obtain ⟨b1, b2, b3⟩ := hf
  simp only at b1 b2 b3
  have h1 := a4l _ (Rbs.three (by decide) b1 b2 b3)
  have h4 := O3 t b3
  unfold a1F
  simp only
  generalize [x, y, t].all j4 = q1 at *
  generalize A8 (Nm.j3 t) = n at *
  simp only [l6]
  simp only [Fr.c, Fr.enc, rts, rcs, rc, sb, ints, List.map_cons, List.map_nil] at *
  (repeat first | refine uA ?_ | (refine uK ?_ ?_; focus first | omega | (intros; simp_all <;> omega)) | simp (disch := omega) only [go_sem, Nat.reduceBEq, Nat.reduceAdd, ww] | (refine uD h4 ?_ ?_ ?_; exact tz hw; exact rfl) | (refine uE h1 ?_ ?_ ?_ ?_; exact tz hw; exact rfl; focus (repeat' first | exact p8.nil | exact Imp.refl rfl | exact Imp.frz rfl rfl rfl | (refine Imp.P6 rfl rfl ?_ ?_; (focus ((try simp only [List.length_append]); omega)); (focus first | rfl | assumption)) | refine p8.cons ?_ ?_); done))
  exact S.done (d9.out rfl (Imp.refl (by rfl)) rfl)
theorem b3L (l : List Vt) (hl : Vbs 1073741824 l) : FZ 100 [vts l] (ints (G6 l)) := by
  refine q9.of (eff := eff) Tryz.func100 (by conv => { lhs; cbv }) (by exact Nat.le_of_ble_eq_true rfl) fun w O hw => ?_
  have h1 := a5k l hl
  obtain ⟨hn, hb⟩ := hl
  unfold G6
  generalize Q5 l 8 = e at *
  simp only [l6]
  simp only [vts, ints] at *
  (repeat first | refine uA ?_ | (refine uK ?_ ?_; focus first | omega | (intros; simp_all <;> omega)) | simp (disch := omega) only [go_sem, Nat.reduceBEq, Nat.reduceAdd, ww] | (refine uD h1 ?_ ?_ ?_; exact tz hw; exact rfl))
  refine S.cond rfl (fun hc => ?_) (fun hc => ?_)
  · rw [if_pos (by simpa using hc)]
    (repeat first | refine uA ?_ | (refine uK ?_ ?_; focus first | omega | (intros; simp_all <;> omega)) | simp (disch := omega) only [go_sem, Nat.reduceBEq, Nat.reduceAdd, ww])
    exact S.done (d9.out rfl (Imp.refl rfl) rfl)
  rw [if_neg (by simpa using hc)]
  (repeat first | refine uA ?_ | (refine uK ?_ ?_; focus first | omega | (intros; simp_all <;> omega)) | simp (disch := omega) only [go_sem, Nat.reduceBEq, Nat.reduceAdd, ww, List.length_map])
  refine S.loop (X := Nat) (fun i => ⟨[(11, vts l), (12, ints l.length), (13, ints i)], []⟩) (fun i => i <= l.length /\ l.all okV = (l.drop i).all okV) (fun i => l.length - i) 0 ⟨Nat.zero_le _, rfl⟩ (by (repeat first | refine uA ?_ | (refine ⟨?_, ?_⟩; focus first | rfl | simp [slot]) | rfl | simp)) ?_
  rintro i ⟨hi, hg⟩
  simp only [vts, ints] at hi ⊢
  (repeat first | refine uA ?_ | (refine uK ?_ ?_; focus first | omega | (intros; simp_all <;> omega)) | simp (disch := omega) only [go_sem, Nat.reduceBEq, Nat.reduceAdd, ww])
  (refine uJ rfl (fun hc => ?_) fun hc => ?_)
  · have hgi := List.getElem?_eq_getElem (show i < l.length by omega)
    generalize l[i]'(_) = v at hgi
    have hv := hb v (List.mem_of_getElem? hgi)
    have hs := a4q (f := okV) hgi
    rw [b3H] at hs
    have o1 := a4l _ (Rbs.two (by decide) (hv.1.mono (m := 17179869184) (by decide)) (hv.2.mono (m := 17179869184) (by decide)))
    generalize [v.x, v.y].all j4 = q at *
    simp only [rts, rcs, sb, List.map_cons, List.map_nil] at o1
    (repeat first | refine uA ?_ | (refine uK ?_ ?_; focus first | omega | (intros; simp_all <;> omega)) | simp (disch := omega) only [go_sem, Nat.reduceBEq, Nat.reduceAdd, ww, hgi, Option.map_some, List.length_map, Vt.enc, sb, Int.toNat_natCast] | (refine uE o1 ?_ ?_ ?_ ?_; exact tz hw; exact rfl; focus (repeat' first | exact p8.nil | exact Imp.refl rfl | exact Imp.frz rfl rfl rfl | (refine Imp.P6 rfl rfl ?_ ?_; (focus ((try simp only [List.length_append, hgi, Option.map_some, List.length_map, Vt.enc, sb, Int.toNat_natCast]); omega)); (focus first | rfl | assumption)) | refine p8.cons ?_ ?_); done))
    refine S.cond rfl (fun hc2 => ?_) (fun hc2 => ?_)
    · rw [hg, hs, show q = false by simpa using hc2, Bool.false_and, if_neg (by decide)]
      (repeat first | refine uA ?_ | (refine uK ?_ ?_; focus first | omega | (intros; simp_all <;> omega)) | simp (disch := omega) only [go_sem, Nat.reduceBEq, Nat.reduceAdd, ww])
      exact S.done (d9.out rfl (Imp.refl rfl) rfl)
    · (repeat first | refine uA ?_ | (refine uK ?_ ?_; focus first | omega | (intros; simp_all <;> omega)) | simp (disch := omega) only [go_sem, Nat.reduceBEq, Nat.reduceAdd, ww])
      refine S.next (i + 1) ⟨by omega, by rw [hg, hs, show q = true by simpa using hc2, Bool.true_and]⟩ (by omega) (by (repeat first | refine uA ?_ | (refine ⟨?_, ?_⟩; focus first | rfl | simp [slot]) | rfl | simp))
  · rw [hg, a5O (by omega), if_pos rfl]
    (repeat first | refine uA ?_ | (refine uK ?_ ?_; focus first | omega | (intros; simp_all <;> omega)) | simp (disch := omega) only [go_sem, Nat.reduceBEq, Nat.reduceAdd, ww])
    exact S.done (d9.out rfl (Imp.refl rfl) rfl)
end Go.Proofs.YtogfpjohjphngaaGreatDoor
