/- A part of the proof: lemmas only, with the conditions that each names. -/
import Derived.Test.YtogfpjohjphngaaGreatDoorProg
import Derived.KernelRfl
import Derived.Test.YtogfpjohjphngaaGreatDoorPk3
set_option linter.all false
namespace Go.Proofs.YtogfpjohjphngaaGreatDoor
open Go Go.RowKit Eng
set_option maxRecDepth 10000
set_option maxHeartbeats 4000000
def rc (a : Nm.Rt) : C := .agg [.v (.bool a.neg), sb a.num, sb a.den]
def rq (q : Rat) : C := rc (Nm.ofQ q)
def Rb (k : Nat) (a : Nm.Rt) : Prop := a.num.length <= k /\ a.den.length <= k
theorem a4G (l : List UInt8) : (bs l = (⟨#[1]⟩ : ByteArray)) = (l = [1]) := a5a l [1]
theorem a9z (l : List UInt8) : Nm.canon l <-> (l = [] \/ l.getD 0 0 ≠ 0) := by
 cases l with
 | nil => simp [Nm.a5V]
 | cons b r =>
  simp only [List.getD_cons_zero, reduceCtorEq, false_or]
  constructor
  ·intro h h0; exact h r (by rw [h0])
  ·intro h q e; injection e with e1 _; exact h e1
theorem P5 (a : Nm.Rt) (ha : Rb 68719476736 a) : FZ 62 [rc a] (.v (.bool (decide a.A8))) := by
  refine kW Tryz.func62 (by cbv) (by rfl) fun w O hw => ?_
  obtain ⟨neg, num, den⟩ := a
  obtain ⟨hn, hd⟩ := ha
  simp only [rc] at hn hd ⊢
  simp only [j6, sb]
  have hg := b7L num den (by omega) (by omega)
  have hgood : Nm.Rt.A8 ⟨neg, num, den⟩ <-> den ≠ [] /\ Nm.canon den /\ Nm.canon num /\ (num = [] -> neg = false /\ den = [1]) /\ (den = [1] \/ Nat.gcd (Nm.val num) (Nm.val den) = 1) := Iff.rfl
  rw [a9z, a9z] at hgood
  have hdl : (!decide (den = [])) = true -> 0 < (den.length : Int) := fun h => by
    have : den ≠ [] := by simpa using h
    have := List.length_pos_iff.2 this
    omega
  have hnl : num ≠ [] -> 0 < (num.length : Int) := fun h => by
    have := List.length_pos_iff.2 h
    omega
  have hgb0 : ∀ {p : Prop} [Decidable p], (Nm.Rt.A8 ⟨neg, num, den⟩ <-> p) -> decide (Nm.Rt.A8 ⟨neg, num, den⟩) = decide p := fun h => decide_eq_decide.2 h
  have hgb := hgb0 hgood
  clear hgood hgb0
  generalize decide (Nm.Rt.A8 ⟨neg, num, den⟩) = gb at *
  (repeat first | refine uA ?_ | (refine uK ?_ ?_; focus first | omega | trivial | (intro h; rw [h]; rfl) | (intro h h2; rw [h, h2]; rfl) | (intro h; (try simp at h); omega) | (intros; simp_all <;> omega)) | simp only [go_sem, Nat.reduceBEq, Nat.reduceAdd, Nat.reduceLeDiff, Int.reduceToNat, Int.reducePow, u6, O0, a6l, Z8, a4G] | simp (disch := omega) only [ww, u6, O0, a6l, Z8, a4G])
  refine S.cond rfl (fun hc => ?_) (fun hc => ?_)
  · have : gb = false := by
      rw [hgb, c1x]
      simp only [c1Z, c1B, c1w, Bool.not_eq_true', c1x] at hc
      grind
    rw [this]
    (repeat first | refine uA ?_ | (refine uK ?_ ?_; focus first | omega | trivial | (intro h; rw [h]; rfl) | (intro h h2; rw [h, h2]; rfl) | (intro h; (try simp at h); omega) | (intros; simp_all <;> omega)) | simp only [go_sem, Nat.reduceBEq, Nat.reduceAdd, Nat.reduceLeDiff, Int.reduceToNat, Int.reducePow] | simp (disch := omega) only [ww])
    exact S.done (j3.out rfl (Imp.refl rfl) rfl)
  · have hone : (Nm.enc (Nat.gcd (Nm.val num) (Nm.val den)) = [1]) = (Nat.gcd (Nm.val num) (Nm.val den) = 1) := by
      rw [<- Nm.a1w]
      exact propext ⟨Nm.a8r, fun h => by rw [h]⟩
    have : gb = (decide (den = [1]) || decide (Nat.gcd (Nm.val num) (Nm.val den) = 1)) := by
      rw [hgb, <- Bool.decide_or]
      simp only [c1H, Bool.and_eq_false_iff, c1w, Bool.not_eq_false', c1x] at hc
      refine decide_eq_decide.2 ⟨fun h => h.2.2.2.2, fun h => ?_⟩
      grind
    rw [this]
    (repeat first | refine uA ?_ | (refine uK ?_ ?_; focus first | omega | trivial | (intro h; rw [h]; rfl) | (intro h h2; rw [h, h2]; rfl) | (intro h; (try simp at h); omega) | (intros; simp_all <;> omega)) | simp only [go_sem, Nat.reduceBEq, Nat.reduceAdd, Nat.reduceLeDiff, Int.reduceToNat, Int.reducePow, Z8, a4G, hone] | simp (disch := omega) only [ww, Z8, a4G, hone] | (refine uD hg ?_ ?_ ?_; exact tz hw; exact rfl))
    exact S.done (j3.out rfl (Imp.refl rfl) rfl)
theorem b5O : u7 Tryz.prog 181 [] (rc Nm.a2w) := by
 refine kS Tryz.func181 (by cbv) (by rfl) fun w O => ?_
 simp only [j6, rc, Nm.a2w, sb]
 (repeat first | refine uA ?_ | (refine uK ?_ ?_; focus first | omega | (intros; simp_all <;> omega)) | simp (disch := omega) only [go_sem, Nat.reduceBEq, Nat.reduceAdd, ww])
 (refine S.done ?_; simp only [p9, l7, go_sem, Nat.reduceBEq, Nat.reduceAdd, Nat.reduceLeDiff, Int.reduceToNat, Int.reducePow]; (repeat (refine ⟨?_, ?_⟩; focus first | trivial | omega | simp)); exact j3.out rfl (Imp.refl rfl) rfl)
theorem c0E (a : Nm.Rt) (ha : Rb 68719476736 a) : FZ 76 [rc a] (rq (Nm.d9 a)) := by
 refine kW Tryz.func76 (by cbv) (by rfl) fun w O hw => ?_
 have hg := P5 a ha
 have fz := b5O
 unfold rq
 by_cases h : a.A8
 ·rw [Nm.a5E h]
  rw [show decide a.A8 = true from decide_eq_true h] at hg
  simp only [j6, rc, sb] at hg ⊢
  (repeat first | refine uA ?_ | (refine uK ?_ ?_; focus first | omega | (intros; simp_all <;> omega)) | simp (disch := omega) only [go_sem, Nat.reduceBEq, Nat.reduceAdd, ww] | (refine uD hg ?_ ?_ ?_; exact tz hw; exact rfl))
  exact S.cond rfl (fun hc => by cases hc) (fun _ => by
   (repeat first | refine uA ?_ | (refine uK ?_ ?_; focus first | omega | (intros; simp_all <;> omega)) | simp (disch := omega) only [go_sem, Nat.reduceBEq, Nat.reduceAdd, ww])
   (refine S.done ?_; simp only [p9, l7, go_sem, Nat.reduceBEq, Nat.reduceAdd, Nat.reduceLeDiff, Int.reduceToNat, Int.reducePow]; (repeat (refine ⟨?_, ?_⟩; focus first | trivial | omega | simp)); exact j3.out rfl (Imp.refl rfl) rfl))
 ·have e : Nm.ofQ (Nm.d9 a) = Nm.a2w := by unfold Nm.d9; rw [if_neg h, Nm.a2n]
  rw [e]
  rw [show decide a.A8 = false from decide_eq_false h] at hg
  simp only [j6, rc, sb, Nm.a2w] at hg fz ⊢
  (repeat first | refine uA ?_ | (refine uK ?_ ?_; focus first | omega | (intros; simp_all <;> omega)) | simp (disch := omega) only [go_sem, Nat.reduceBEq, Nat.reduceAdd, ww] | (refine uD hg ?_ ?_ ?_; exact tz hw; exact rfl))
  exact S.cond rfl (fun _ => by
   (repeat first | refine uA ?_ | (refine uK ?_ ?_; focus first | omega | (intros; simp_all <;> omega)) | simp (disch := omega) only [go_sem, Nat.reduceBEq, Nat.reduceAdd, ww] | (refine uB fz ?_ ?_; exact rfl))
   (refine S.done ?_; simp only [p9, l7, go_sem, Nat.reduceBEq, Nat.reduceAdd, Nat.reduceLeDiff, Int.reduceToNat, Int.reducePow]; (repeat (refine ⟨?_, ?_⟩; focus first | trivial | omega | simp)); exact j3.out rfl (Imp.refl rfl) rfl)) (fun hc => by cases hc)
theorem b9d {n d k : Nat} (hd : 0 < d) (h : (Nm.enc d).length <= k) : (Nm.enc (Nat.gcd n d)).length <= k := Nm.G5 (Nat.lt_of_le_of_lt (Nat.gcd_le_right n hd) (Nm.Y1 h))
theorem a4v (neg : Bool) (n d : Nat) (hd : d ≠ 0) (hn : (Nm.enc n).length <= 68719476736) (hdl : (Nm.enc d).length <= 68719476736) :
  FZ 78 [.v (.bool neg), sb (Nm.enc n), sb (Nm.enc d)] (rq (mkRat (Nm.sgn neg n) d)) := by
 refine kW Tryz.func78 (by cbv) (by rfl) fun w O hw => ?_
 have fz := b5O
 have hg := b7L (Nm.enc n) (Nm.enc d) hn hdl
 rw [Nm.H9, Nm.H9] at hg
 unfold rq
 rw [<- Nm.a8N neg hd]
 have hz : (Nm.enc n = []) = (n = 0) := propext ⟨fun h => Classical.byContradiction fun h0 => Nm.a4x h0 h, fun h => by rw [h, Nm.a0V]⟩
 have h1 : ∀ d, (Nm.enc d = [1]) = (d = 1) := fun d => by
  rw [<- Nm.a1w]; exact propext ⟨Nm.a8r, fun h => by rw [h]⟩
 have hgp : Nat.gcd n d ≠ 0 := fun h => hd (Nat.eq_zero_of_gcd_eq_zero_right h)
 have hgl : (Nm.enc (Nat.gcd n d)).length <= 68719476736 := by
  exact b9d (by omega) hdl
 have hd1 := b3t (Nm.enc n) (Nm.enc (Nat.gcd n d)) (by omega) (by omega) (by rw [Nm.H9]; exact hgp)
 have hd2 := b3t (Nm.enc d) (Nm.enc (Nat.gcd n d)) (by omega) (by omega) (by rw [Nm.H9]; exact hgp)
 simp only [Nm.H9] at hd1 hd2
 generalize hgg : Nat.gcd n d = g at *
 simp only [j6, sb]
 (repeat first | refine uA ?_ | (refine uK ?_ ?_; focus first | omega | (intros; simp_all <;> omega)) | simp (disch := omega) only [go_sem, Nat.reduceBEq, Nat.reduceAdd, ww, Z8, hz])
 (refine uJ rfl (fun hc => ?_) fun hc => ?_)
 ·rw [if_pos hc]
  simp only [rc, Nm.a2w, sb] at fz ⊢
  (repeat first | refine uA ?_ | (refine uK ?_ ?_; focus first | omega | (intros; simp_all <;> omega)) | simp (disch := omega) only [go_sem, Nat.reduceBEq, Nat.reduceAdd, ww] | (refine uB fz ?_ ?_; exact rfl))
  (refine S.done ?_; simp only [p9, l7, go_sem, Nat.reduceBEq, Nat.reduceAdd, Nat.reduceLeDiff, Int.reduceToNat, Int.reducePow]; (repeat (refine ⟨?_, ?_⟩; focus first | trivial | omega | simp)); exact j3.out rfl (Imp.refl rfl) rfl)
 rw [if_neg hc]
 simp only [rc, sb]
 (repeat first | refine uA ?_ | (refine uK ?_ ?_; focus first | omega | (intros; simp_all <;> omega)) | simp (disch := omega) only [go_sem, Nat.reduceBEq, Nat.reduceAdd, ww, a4G, h1])
 (refine uJ rfl (fun hc => ?_) fun hc => ?_)
 ·(repeat first | refine uA ?_ | (refine uK ?_ ?_; focus first | omega | (intros; simp_all <;> omega)) | simp (disch := omega) only [go_sem, Nat.reduceBEq, Nat.reduceAdd, ww, a4G, h1] | (refine uD hg ?_ ?_ ?_; exact tz hw; exact rfl))
  (refine uJ rfl (fun hc => ?_) fun hc => ?_)
  ·(repeat first | refine uA ?_ | (refine uK ?_ ?_; focus first | omega | (intros; simp_all <;> omega)) | simp (disch := omega) only [go_sem, Nat.reduceBEq, Nat.reduceAdd, ww] | (refine uB hd1 ?_ ?_; exact rfl) | (refine uB hd2 ?_ ?_; exact rfl))
   (refine S.done ?_; simp only [p9, l7, go_sem, Nat.reduceBEq, Nat.reduceAdd, Nat.reduceLeDiff, Int.reduceToNat, Int.reducePow]; (repeat (refine ⟨?_, ?_⟩; focus first | trivial | omega | simp)); exact j3.out rfl (Imp.refl rfl) rfl)
  ·rw [hc, Nat.div_one, Nat.div_one]
   (repeat first | refine uA ?_ | (refine uK ?_ ?_; focus first | omega | (intros; simp_all <;> omega)) | simp (disch := omega) only [go_sem, Nat.reduceBEq, Nat.reduceAdd, ww])
   (refine S.done ?_; simp only [p9, l7, go_sem, Nat.reduceBEq, Nat.reduceAdd, Nat.reduceLeDiff, Int.reduceToNat, Int.reducePow]; (repeat (refine ⟨?_, ?_⟩; focus first | trivial | omega | simp)); exact j3.out rfl (Imp.refl rfl) rfl)
 ·rw [hc, Nat.gcd_one_right] at hgg
  subst hgg
  rw [hc, Nat.div_one, Nat.div_one]
  (repeat first | refine uA ?_ | (refine uK ?_ ?_; focus first | omega | (intros; simp_all <;> omega)) | simp (disch := omega) only [go_sem, Nat.reduceBEq, Nat.reduceAdd, ww])
  (refine S.done ?_; simp only [p9, l7, go_sem, Nat.reduceBEq, Nat.reduceAdd, Nat.reduceLeDiff, Int.reduceToNat, Int.reducePow]; (repeat (refine ⟨?_, ?_⟩; focus first | trivial | omega | simp)); exact j3.out rfl (Imp.refl rfl) rfl)
theorem b0L (neg mi : Bool) (a b : List UInt8) (ha : a.length <= 68719476736) (hb : b.length <= 68719476736) :
  u7 Tryz.prog 77 [.v (.bool neg), sb a, .v (.bool mi), sb b] (.tup [.v (.bool (Nm.J7 neg (Nm.val a) mi (Nm.val b)).1), sb (Nm.enc (Nm.J7 neg (Nm.val a) mi (Nm.val b)).2)]) := by
 refine kS Tryz.func77 (by cbv) (by rfl) fun w O => ?_
 have hadd := f_add a b (by omega) (by omega)
 have hs1 := b7C a b (by omega) (by omega)
 have hs2 := b7C b a (by omega) (by omega)
 simp only [j6, sb]
 (repeat first | refine uA ?_ | (refine uK ?_ ?_; focus first | omega | (intros; simp_all <;> omega)) | simp (disch := omega) only [go_sem, Nat.reduceBEq, Nat.reduceAdd, ww])
 refine S.cond rfl (fun hc => ?_) (fun hc => ?_)
 ·have e : neg = mi := by simpa using hc
  subst e
  unfold Nm.J7
  rw [if_pos rfl]
  (repeat first | refine uA ?_ | (refine uK ?_ ?_; focus first | omega | (intros; simp_all <;> omega)) | simp (disch := omega) only [go_sem, Nat.reduceBEq, Nat.reduceAdd, ww] | (refine uB hadd ?_ ?_; exact rfl))
  exact S.done (j3.out rfl (Imp.refl rfl) rfl)
 ·have e : neg ≠ mi := by simpa using hc
  unfold Nm.J7
  rw [if_neg e]
  by_cases h : Nm.val b <= Nm.val a
  ·rw [if_pos h]
   have e1 : E5 (Nm.val a) (Nm.val b) = Nm.enc (Nm.val a - Nm.val b) := by unfold E5; rw [if_pos h]
   have e2 : a3y (Nm.val a) (Nm.val b) = 0 := by unfold a3y; rw [if_pos h]
   rw [e1, e2] at hs1
   (repeat first | refine uA ?_ | (refine uK ?_ ?_; focus first | omega | (intros; simp_all <;> omega)) | simp (disch := omega) only [go_sem, Nat.reduceBEq, Nat.reduceAdd, ww] | (refine uB hs1 ?_ ?_; exact rfl))
   refine S.cond rfl (fun hc => ?_) (fun hc => ?_)
   ·(repeat first | refine uA ?_ | (refine uK ?_ ?_; focus first | omega | (intros; simp_all <;> omega)) | simp (disch := omega) only [go_sem, Nat.reduceBEq, Nat.reduceAdd, ww])
    exact S.done (j3.out rfl (Imp.refl rfl) rfl)
   ·simp at hc
  ·rw [if_neg h]
   have e1 : E5 (Nm.val a) (Nm.val b) = [] := by unfold E5; rw [if_neg h]
   have e2 : a3y (Nm.val a) (Nm.val b) = 1 := by unfold a3y; rw [if_neg h]
   have e3 : E5 (Nm.val b) (Nm.val a) = Nm.enc (Nm.val b - Nm.val a) := by unfold E5; rw [if_pos (by omega)]
   have e4 : a3y (Nm.val b) (Nm.val a) = 0 := by unfold a3y; rw [if_pos (by omega)]
   rw [e1, e2] at hs1
   rw [e3, e4] at hs2
   (repeat first | refine uA ?_ | (refine uK ?_ ?_; focus first | omega | (intros; simp_all <;> omega)) | simp (disch := omega) only [go_sem, Nat.reduceBEq, Nat.reduceAdd, ww] | (refine uB hs1 ?_ ?_; exact rfl))
   refine S.cond rfl (fun hc => ?_) (fun hc => ?_)
   ·simp at hc
   ·(repeat first | refine uA ?_ | (refine uK ?_ ?_; focus first | omega | (intros; simp_all <;> omega)) | simp (disch := omega) only [go_sem, Nat.reduceBEq, Nat.reduceAdd, ww] | (refine uB hs2 ?_ ?_; exact rfl))
    exact S.done (j3.out rfl (Imp.refl rfl) rfl)
namespace Nm
theorem G6 {a b k m : Nat} (ha : (enc a).length <= k) (hb : (enc b).length <= m) : (enc (a * b)).length <= k + m := by
 refine G5 ?_
 rw [Nat.pow_add]
 exact Nat.mul_lt_mul'' (Y1 ha) (Y1 hb)
theorem a4j {a b k : Nat} (ha : (enc a).length <= k) (hb : (enc b).length <= k) : (enc (a + b)).length <= k + 1 := by
 refine G5 ?_
 have h1 := Y1 ha
 have h2 := Y1 hb
 rw [c1Y]; omega
theorem a3o {a b : Nat} (h : a <= b) : (enc a).length <= (enc b).length := G5 (Nat.lt_of_le_of_lt h (Y1 (c1A _)))
theorem a5n (neg : Bool) (a : Nat) (mi : Bool) (b : Nat) : (J7 neg a mi b).2 <= a + b := by
 unfold J7; repeat' split
 all_goals simp only; omega
theorem add_same {p q : Rat} (h : p.den = q.den) : p + q = mkRat (p.num + q.num) p.den := by
 rw [Rat.add_def', <- h, <- Int.add_mul, Rat.mkRat_mul_right p.den_nz]
theorem a6y (p : Rat) : sgn (decide (p.num < 0)) p.num.natAbs = p.num := b2C p
theorem b5Q {p q : Rat} (h : p.den = q.den) : mkRat (sgn (J7 (decide (p.num < 0)) p.num.natAbs (decide (q.num < 0)) q.num.natAbs).1 (J7 (decide (p.num < 0)) p.num.natAbs (decide (q.num < 0)) q.num.natAbs).2) p.den = p + q := by
 rw [a9t, a6y, a6y, add_same h]
theorem a9s (p q : Rat) : mkRat (sgn (J7 (decide (p.num < 0)) (p.num.natAbs * q.den) (decide (q.num < 0)) (q.num.natAbs * p.den)).1 (J7 (decide (p.num < 0)) (p.num.natAbs * q.den) (decide (q.num < 0)) (q.num.natAbs * p.den)).2) (p.den * q.den) = p + q := by
 rw [a9t, a4e, a4e, a6y, a6y, Rat.add_def']
theorem b1A (p q : Rat) : mkRat (sgn (decide (p.num < 0) != decide (q.num < 0)) (p.num.natAbs * q.num.natAbs)) (p.den * q.den) = p * q := by
 rw [b7Q, a6y, a6y, Rat.mul_def']
theorem b0b (p q : Rat) (h : q ≠ 0) : mkRat (sgn (decide (p.num < 0) != decide (q.num < 0)) (p.num.natAbs * q.den)) (p.den * q.num.natAbs) = p / q := by
 have hn : q.num ≠ 0 := fun e => h (Rat.num_eq_zero.1 e)
 have hn' : q.num.natAbs ≠ 0 := by omega
 generalize hr : mkRat (sgn (decide (p.num < 0) != decide (q.num < 0)) (p.num.natAbs * q.den)) (p.den * q.num.natAbs) = r
 have key : p = r * q := by
  rw [<- hr]
  have e1 : p = mkRat p.num p.den := (Rat.mkRat_self p).symm
  have e2 : q = mkRat q.num q.den := (Rat.mkRat_self q).symm
  have hD : p.den * q.num.natAbs * q.den ≠ 0 := Nat.mul_ne_zero (Nat.mul_ne_zero p.den_nz hn') q.den_nz
  have e3 : mkRat (sgn (decide (p.num < 0) != decide (q.num < 0)) (p.num.natAbs * q.den)) (p.den * q.num.natAbs) * q = mkRat (sgn (decide (p.num < 0) != decide (q.num < 0)) (p.num.natAbs * q.den) * q.num) (p.den * q.num.natAbs * q.den) := by
   conv => lhs; rw [e2]
   rw [Rat.mkRat_mul_mkRat]
   simp only [Rat.mkRat_self]
  rw [e3]
  conv => lhs; rw [e1]
  rw [Rat.mkRat_eq_iff p.den_nz hD]
  have hx : sgn (decide (p.num < 0) != decide (q.num < 0)) (p.num.natAbs * q.den) * q.num = p.num * ((q.num.natAbs : Nat) : Int) * q.den := by
   rw [a4e]
   have : sgn (decide (p.num < 0) != decide (q.num < 0)) p.num.natAbs * q.num = p.num * ((q.num.natAbs : Nat) : Int) := by
    unfold sgn
    by_cases hA : p.num < 0
    ·by_cases hB : q.num < 0
     ·simp only [hA, hB, decide_true, bne_self_eq_false, c2a, if_false]
      have e1 : ((p.num.natAbs : Nat) : Int) = -p.num := by omega
      have e2 : ((q.num.natAbs : Nat) : Int) = -q.num := by omega
      rw [e1, e2]; grind
     ·simp only [hA, hB, decide_true, decide_false, Bool.bne_false, if_true]
      have e1 : ((p.num.natAbs : Nat) : Int) = -p.num := by omega
      have e2 : ((q.num.natAbs : Nat) : Int) = q.num := by omega
      rw [e1, e2]; grind
    ·by_cases hB : q.num < 0
     ·simp only [hA, hB, decide_true, decide_false, Bool.bne_true, Bool.not_false, if_true]
      have e1 : ((p.num.natAbs : Nat) : Int) = p.num := by omega
      have e2 : ((q.num.natAbs : Nat) : Int) = -q.num := by omega
      rw [e1, e2]; grind
     ·simp only [hA, hB, decide_false, bne_self_eq_false, c2a, if_false]
      have e1 : ((p.num.natAbs : Nat) : Int) = p.num := by omega
      have e2 : ((q.num.natAbs : Nat) : Int) = q.num := by omega
      rw [e1, e2]
   calc sgn (decide (p.num < 0) != decide (q.num < 0)) p.num.natAbs * (q.den : Int) * q.num = (sgn (decide (p.num < 0) != decide (q.num < 0)) p.num.natAbs * q.num) * (q.den : Int) := by grind
    _ = _ := by rw [this]
  rw [hx]
  push_cast
  grind
 rw [Rat.div_def]
 conv => rhs; rw [key]
 rw [Rat.mul_assoc, Rat.mul_inv_cancel _ h, Rat.mul_one]
end Nm
theorem Rb.fit {k : Nat} {a : Nm.Rt} (h : Rb k a) (hk : 1 <= k) : Rb k (Nm.ofQ (Nm.d9 a)) := by
 by_cases hg : a.A8
 ·rw [Nm.a5E hg]; exact h
 ·have e : Nm.ofQ (Nm.d9 a) = Nm.a2w := by unfold Nm.d9; rw [if_neg hg, Nm.a2n]
  rw [e]; exact ⟨c1y _, hk⟩
theorem X0 (a : Nm.Rt) (ha : Rb 17179869184 a) : FZ 76 [rc a] (rq (Nm.d9 a)) := c0E a ⟨by have := ha.1; omega, by have := ha.2; omega⟩
theorem b8k (a b : Nat) : (Nm.enc a = Nm.enc b) = (a = b) := propext ⟨Nm.a8r, fun h => by rw [h]⟩
theorem a5K (n : Nat) : (Nm.enc n = []) = (n = 0) := propext ⟨fun h => Classical.byContradiction fun h0 => Nm.a4x h0 h, fun h => by rw [h, Nm.a0V]⟩
theorem a3R (n : Int) (h1 : -9223372036854775808 <= n) (h2 : n <= 9223372036854775807) : FZ 71 [ints n] (rq (n : Rat)) := by
 refine kW Tryz.func71 (by cbv) (by rfl) fun w O hw => ?_
 have hb : ∀ k : Nat, k <= 9223372036854775808 -> (Nm.enc k).length <= 8 := fun k hk => Nm.G5 (by omega)
 have e1 : sb [1] = sb (Nm.enc 1) := by rw [Nm.a1w]
 simp only [j6, ints]
 (repeat first | refine uA ?_ | (refine uK ?_ ?_; focus first | omega | (intros; simp_all <;> omega)) | simp (disch := omega) only [go_sem, Nat.reduceBEq, Nat.reduceAdd, ww])
 (refine uJ rfl (fun hc => ?_) fun hc => ?_)
 ·have hof := b3A n (by omega)
  have hm := a4v false n.toNat 1 (by decide) (by have := hb n.toNat (by omega); omega) (by have := hb 1 (by decide); omega)
  have e : mkRat (Nm.sgn false n.toNat) 1 = (n : Rat) := by
   rw [Rat.mkRat_one]; congr 1; unfold Nm.sgn; simp; omega
  rw [e, Nm.a1w] at hm
  simp only [rq, rc, sb, ints] at hm hof ⊢
  (repeat first | refine uA ?_ | (refine uK ?_ ?_; focus first | omega | (intros; simp_all <;> omega)) | simp (disch := omega) only [go_sem, Nat.reduceBEq, Nat.reduceAdd, ww] | (refine uB hof ?_ ?_; exact rfl) | (refine uD hm ?_ ?_ ?_; exact tz hw; exact rfl))
  (refine S.done ?_; simp only [p9, l7, go_sem, Nat.reduceBEq, Nat.reduceAdd, Nat.reduceLeDiff, Int.reduceToNat, Int.reducePow]; (repeat (refine ⟨?_, ?_⟩; focus first | trivial | omega | simp)); exact j3.out rfl (Imp.refl rfl) rfl)
 ·have hof := b3A (-(n + 1)) (by omega)
  have hadd := f_add (Nm.enc (-(n + 1)).toNat) [1] (by have := hb (-(n + 1)).toNat (by omega); omega) (by decide)
  have hm := a4v true ((-(n + 1)).toNat + 1) 1 (by decide) (by have := hb ((-(n + 1)).toNat + 1) (by omega); omega) (by have := hb 1 (by decide); omega)
  have e : mkRat (Nm.sgn true ((-(n + 1)).toNat + 1)) 1 = (n : Rat) := by
   rw [Rat.mkRat_one]; congr 1; unfold Nm.sgn; simp; omega
  rw [Nm.H9, show Nm.val [1] = 1 from rfl] at hadd
  rw [e, Nm.a1w] at hm
  have hneg : IntKind.i64.wrap (0 - (n + 1)) = -(n + 1) := by rw [Eng.wrap_i64 (by omega)]; omega
  simp only [rq, rc, sb, ints] at hm hof hadd ⊢
  (repeat first | refine uA ?_ | (refine uK ?_ ?_; focus first | omega | (intros; simp_all <;> omega)) | simp (disch := omega) only [go_sem, Nat.reduceBEq, Nat.reduceAdd, ww, hneg] | (refine uB hof ?_ ?_; exact rfl) | (refine uB hadd ?_ ?_; exact rfl) | (refine uD hm ?_ ?_ ?_; exact tz hw; exact rfl))
  (refine S.done ?_; simp only [p9, l7, go_sem, Nat.reduceBEq, Nat.reduceAdd, Nat.reduceLeDiff, Int.reduceToNat, Int.reducePow]; (repeat (refine ⟨?_, ?_⟩; focus first | trivial | omega | simp)); exact j3.out rfl (Imp.refl rfl) rfl)
theorem a1P (a b : Nm.Rt) (ha : Rb 17179869184 a) (hb : Rb 17179869184 b) : FZ 16 [rc a, rc b] (rq (Nm.d9 a + Nm.d9 b)) := by
 refine kW Tryz.func16 (by cbv) (by rfl) fun w O hw => ?_
 have hfa := X0 a ha
 have hfb := X0 b hb
 obtain ⟨n1, d1⟩ := ha.fit (by decide)
 obtain ⟨n2, d2⟩ := hb.fit (by decide)
 generalize Nm.d9 a = p at *
 generalize Nm.d9 b = q at *
 simp only [Nm.ofQ] at n1 d1 n2 d2
 have hp := p.den_nz
 have hq := q.den_nz
 have l1 := Nm.G6 n1 d2
 have l2 := Nm.G6 n2 d1
 have l3 := Nm.G6 d1 d2
 have s1 := b0L (decide (p.num < 0)) (decide (q.num < 0)) (Nm.enc p.num.natAbs) (Nm.enc q.num.natAbs) (by omega) (by omega)
 have m1 := a2p (Nm.enc p.num.natAbs) (Nm.enc q.den) (by omega) (by omega)
 have m2 := a2p (Nm.enc q.num.natAbs) (Nm.enc p.den) (by omega) (by omega)
 have m3 := a2p (Nm.enc p.den) (Nm.enc q.den) (by omega) (by omega)
 simp only [Nm.H9] at s1 m1 m2 m3
 have s2 := b0L (decide (p.num < 0)) (decide (q.num < 0)) (Nm.enc (p.num.natAbs * q.den)) (Nm.enc (q.num.natAbs * p.den)) (by omega) (by omega)
 simp only [Nm.H9] at s2
 have k1 : (Nm.enc (Nm.J7 (decide (p.num < 0)) p.num.natAbs (decide (q.num < 0)) q.num.natAbs).2).length <= 17179869185 := c1v (Nm.a3o (Nm.a5n _ _ _ _)) (Nm.a4j n1 n2)
 have k2 : (Nm.enc (Nm.J7 (decide (p.num < 0)) (p.num.natAbs * q.den) (decide (q.num < 0)) (q.num.natAbs * p.den)).2).length <= 34359738369 := c1v (Nm.a3o (Nm.a5n _ _ _ _)) (Nm.a4j l1 l2)
 have v1 := a4v (Nm.J7 (decide (p.num < 0)) p.num.natAbs (decide (q.num < 0)) q.num.natAbs).1 (Nm.J7 (decide (p.num < 0)) p.num.natAbs (decide (q.num < 0)) q.num.natAbs).2 p.den hp (by omega) (by omega)
 have v2 := a4v (Nm.J7 (decide (p.num < 0)) (p.num.natAbs * q.den) (decide (q.num < 0)) (q.num.natAbs * p.den)).1 (Nm.J7 (decide (p.num < 0)) (p.num.natAbs * q.den) (decide (q.num < 0)) (q.num.natAbs * p.den)).2 (p.den * q.den) (Nat.mul_ne_zero hp hq) (by omega) (by omega)
 rw [Nm.a9s] at v2
 have hsame := fun h => Nm.b5Q (p := p) (q := q) h
 generalize p + q = r at *
 generalize Nm.J7 (decide (p.num < 0)) p.num.natAbs (decide (q.num < 0)) q.num.natAbs = t1 at *
 generalize Nm.J7 (decide (p.num < 0)) (p.num.natAbs * q.den) (decide (q.num < 0)) (q.num.natAbs * p.den) = t2 at *
 simp only [j6]
 simp only [rq, rc, sb, Nm.ofQ] at *
 (repeat first | refine uA ?_ | (refine uK ?_ ?_; focus first | omega | (intros; simp_all <;> omega)) | simp (disch := omega) only [go_sem, Nat.reduceBEq, Nat.reduceAdd, ww, a5a, b8k] | (refine uD hfa ?_ ?_ ?_; exact tz hw; exact rfl) | (refine uD hfb ?_ ?_ ?_; exact tz hw; exact rfl))
 (refine uJ rfl (fun hc => ?_) fun hc => ?_)
 ·rw [hsame hc] at v1
  (repeat first | refine uA ?_ | (refine uK ?_ ?_; focus first | omega | (intros; simp_all <;> omega)) | simp (disch := omega) only [go_sem, Nat.reduceBEq, Nat.reduceAdd, ww] | (refine uB s1 ?_ ?_; exact rfl) | (refine uD v1 ?_ ?_ ?_; exact tz hw; exact rfl))
  (refine S.done ?_; simp only [p9, l7, go_sem, Nat.reduceBEq, Nat.reduceAdd, Nat.reduceLeDiff, Int.reduceToNat, Int.reducePow]; (repeat (refine ⟨?_, ?_⟩; focus first | trivial | omega | simp)); exact j3.out rfl (Imp.refl rfl) rfl)
 ·(repeat first | refine uA ?_ | (refine uK ?_ ?_; focus first | omega | (intros; simp_all <;> omega)) | simp (disch := omega) only [go_sem, Nat.reduceBEq, Nat.reduceAdd, ww] | (refine uB m1 ?_ ?_; exact rfl) | (refine uB m2 ?_ ?_; exact rfl) | (refine uB m3 ?_ ?_; exact rfl) | (refine uB s2 ?_ ?_; exact rfl) | (refine uD v2 ?_ ?_ ?_; exact tz hw; exact rfl))
  (refine S.done ?_; simp only [p9, l7, go_sem, Nat.reduceBEq, Nat.reduceAdd, Nat.reduceLeDiff, Int.reduceToNat, Int.reducePow]; (repeat (refine ⟨?_, ?_⟩; focus first | trivial | omega | simp)); exact j3.out rfl (Imp.refl rfl) rfl)
theorem a5O (a b : Nm.Rt) (ha : Rb 17179869184 a) (hb : Rb 17179869184 b) : FZ 172 [rc a, rc b] (rq (Nm.d9 a * Nm.d9 b)) := by
 refine kW Tryz.func172 (by cbv) (by rfl) fun w O hw => ?_
 have hfa := X0 a ha
 have hfb := X0 b hb
 obtain ⟨n1, d1⟩ := ha.fit (by decide)
 obtain ⟨n2, d2⟩ := hb.fit (by decide)
 generalize Nm.d9 a = p at *
 generalize Nm.d9 b = q at *
 simp only [Nm.ofQ] at n1 d1 n2 d2
 have hp := p.den_nz
 have hq := q.den_nz
 have l1 := Nm.G6 n1 n2
 have l3 := Nm.G6 d1 d2
 have m1 := a2p (Nm.enc p.num.natAbs) (Nm.enc q.num.natAbs) (by omega) (by omega)
 have m3 := a2p (Nm.enc p.den) (Nm.enc q.den) (by omega) (by omega)
 simp only [Nm.H9] at m1 m3
 have v2 := a4v (decide (p.num < 0) != decide (q.num < 0)) (p.num.natAbs * q.num.natAbs) (p.den * q.den) (Nat.mul_ne_zero hp hq) (by omega) (by omega)
 rw [Nm.b1A] at v2
 generalize p * q = r at *
 simp only [j6]
 simp only [rq, rc, sb, Nm.ofQ] at *
 (repeat first | refine uA ?_ | (refine uK ?_ ?_; focus first | omega | (intros; simp_all <;> omega)) | simp (disch := omega) only [go_sem, Nat.reduceBEq, Nat.reduceAdd, ww] | (refine uB m1 ?_ ?_; exact rfl) | (refine uB m3 ?_ ?_; exact rfl) | (refine uD hfa ?_ ?_ ?_; exact tz hw; exact rfl) | (refine uD hfb ?_ ?_ ?_; exact tz hw; exact rfl) | (refine uD v2 ?_ ?_ ?_; exact tz hw; exact rfl))
 (refine S.done ?_; simp only [p9, l7, go_sem, Nat.reduceBEq, Nat.reduceAdd, Nat.reduceLeDiff, Int.reduceToNat, Int.reducePow]; (repeat (refine ⟨?_, ?_⟩; focus first | trivial | omega | simp)); exact j3.out rfl (Imp.refl rfl) rfl)
def y8 (q : Rat) : Int := if q.num = 0 then 0 else if q.num < 0 then -1 else 1
theorem a8n (p : Rat) : Nm.ofQ (-p) = ⟨!decide (p.num < 0) && !decide (p.num.natAbs = 0), Nm.enc p.num.natAbs, Nm.enc p.den⟩ := by
 unfold Nm.ofQ
 rw [Rat.neg_num, Rat.neg_den, Int.natAbs_neg]
 congr 1
 by_cases h : p.num < 0
 ·simp [h]; omega
 ·by_cases h0 : p.num = 0
  ·simp [h0]
  ·have : ¬ p.num.natAbs = 0 := by omega
   simp [h, this]; omega
theorem b0d (a : Nm.Rt) (ha : Rb 17179869184 a) : FZ 142 [rc a] (rq (- Nm.d9 a)) := by
 refine kW Tryz.func142 (by cbv) (by rfl) fun w O hw => ?_
 have hfa := X0 a ha
 generalize Nm.d9 a = p at *
 simp only [j6]
 unfold rq at *
 rw [a8n]
 simp only [rc, sb, Nm.ofQ] at *
 (repeat first | refine uA ?_ | (refine uK ?_ ?_; focus first | omega | (intros; simp_all <;> omega)) | simp (disch := omega) only [go_sem, Nat.reduceBEq, Nat.reduceAdd, ww, Z8, a5K] | (refine uD hfa ?_ ?_ ?_; exact tz hw; exact rfl))
 (refine S.done ?_; simp only [p9, l7, go_sem, Nat.reduceBEq, Nat.reduceAdd, Nat.reduceLeDiff, Int.reduceToNat, Int.reducePow]; (repeat (refine ⟨?_, ?_⟩; focus first | trivial | omega | simp)); exact j3.out rfl (Imp.refl rfl) rfl)
theorem b5x {k : Nat} {a : Nm.Rt} (h : Rb k a) (hk : 1 <= k) : Rb k (Nm.ofQ (- Nm.d9 a)) := by
 obtain ⟨h1, h2⟩ := h.fit hk
 rw [a8n]
 exact ⟨h1, h2⟩
theorem a6h (a b : Nm.Rt) (ha : Rb 17179869184 a) (hb : Rb 17179869184 b) : FZ 158 [rc a, rc b] (rq (Nm.d9 a - Nm.d9 b)) := by
 refine kW Tryz.func158 (by cbv) (by rfl) fun w O hw => ?_
 have hn := b0d b hb
 have hadd := a1P a (Nm.ofQ (- Nm.d9 b)) ha (b5x hb (by decide))
 rw [Nm.G9, <- Rat.sub_eq_add_neg] at hadd
 unfold rq at *
 generalize Nm.ofQ (- Nm.d9 b) = c at *
 generalize Nm.ofQ (Nm.d9 a - Nm.d9 b) = d at *
 simp only [j6]
 simp only [rc, sb] at *
 (repeat first | refine uA ?_ | (refine uK ?_ ?_; focus first | omega | (intros; simp_all <;> omega)) | simp (disch := omega) only [go_sem, Nat.reduceBEq, Nat.reduceAdd, ww] | (refine uD hn ?_ ?_ ?_; exact tz hw; exact rfl) | (refine uD hadd ?_ ?_ ?_; exact tz hw; exact rfl))
 (refine S.done ?_; simp only [p9, l7, go_sem, Nat.reduceBEq, Nat.reduceAdd, Nat.reduceLeDiff, Int.reduceToNat, Int.reducePow]; (repeat (refine ⟨?_, ?_⟩; focus first | trivial | omega | simp)); exact j3.out rfl (Imp.refl rfl) rfl)
def a0I (p q : Rat) : Nm.Rt := if q = 0 then ⟨false, [], []⟩ else Nm.ofQ (p / q)
def a1N (q : Rat) : Int := if q = 0 then 12 else 0
theorem b4t (a b : Nm.Rt) (ha : Rb 17179869184 a) (hb : Rb 17179869184 b) : FZ 223 [rc a, rc b] (.tup [rc (a0I (Nm.d9 a) (Nm.d9 b)), ints (a1N (Nm.d9 b))]) := by
 refine kW Tryz.func223 (by cbv) (by rfl) fun w O hw => ?_
 have hfa := X0 a ha
 have hfb := X0 b hb
 obtain ⟨n1, d1⟩ := ha.fit (by decide)
 obtain ⟨n2, d2⟩ := hb.fit (by decide)
 generalize Nm.d9 a = p at *
 generalize Nm.d9 b = q at *
 simp only [Nm.ofQ] at n1 d1 n2 d2
 have hp := p.den_nz
 have l1 := Nm.G6 n1 d2
 have l3 := Nm.G6 d1 n2
 have m1 := a2p (Nm.enc p.num.natAbs) (Nm.enc q.den) (by omega) (by omega)
 have m3 := a2p (Nm.enc p.den) (Nm.enc q.num.natAbs) (by omega) (by omega)
 simp only [Nm.H9] at m1 m3
 have v2 := fun h0 : q.num.natAbs ≠ 0 => a4v (decide (p.num < 0) != decide (q.num < 0)) (p.num.natAbs * q.den) (p.den * q.num.natAbs) (Nat.mul_ne_zero hp h0) (by omega) (by omega)
 have hdm := fun h => Nm.b0b p q h
 simp only [j6]
 simp only [rq, rc, sb, Nm.ofQ, ints] at *
 (repeat first | refine uA ?_ | (refine uK ?_ ?_; focus first | omega | (intros; simp_all <;> omega)) | simp (disch := omega) only [go_sem, Nat.reduceBEq, Nat.reduceAdd, ww, Z8, a5K] | (refine uD hfa ?_ ?_ ?_; exact tz hw; exact rfl) | (refine uD hfb ?_ ?_ ?_; exact tz hw; exact rfl))
 (refine uJ rfl (fun hc => ?_) fun hc => ?_)
 ·have h0 : q = 0 := Rat.num_eq_zero.1 (by omega)
  have e1 : a0I p q = ⟨false, [], []⟩ := by unfold a0I; rw [if_pos h0]
  have e2 : a1N q = 12 := by unfold a1N; rw [if_pos h0]
  rw [e1, e2]
  (repeat first | refine uA ?_ | (refine uK ?_ ?_; focus first | omega | (intros; simp_all <;> omega)) | simp (disch := omega) only [go_sem, Nat.reduceBEq, Nat.reduceAdd, ww])
  (refine S.done ?_; simp only [p9, l7, go_sem, Nat.reduceBEq, Nat.reduceAdd, Nat.reduceLeDiff, Int.reduceToNat, Int.reducePow]; (repeat (refine ⟨?_, ?_⟩; focus first | trivial | omega | simp)); exact j3.out rfl (Imp.refl rfl) rfl)
 ·have h0 : q ≠ 0 := fun h => hc (by rw [Rat.num_eq_zero.2 h]; rfl)
  have e1 : a0I p q = Nm.ofQ (p / q) := by unfold a0I; rw [if_neg h0]
  have e2 : a1N q = 0 := by unfold a1N; rw [if_neg h0]
  rw [e1, e2]
  have v2 := v2 hc
  rw [hdm h0] at v2
  generalize p / q = r at *
  simp only [Nm.ofQ] at *
  (repeat first | refine uA ?_ | (refine uK ?_ ?_; focus first | omega | (intros; simp_all <;> omega)) | simp (disch := omega) only [go_sem, Nat.reduceBEq, Nat.reduceAdd, ww] | (refine uB m1 ?_ ?_; exact rfl) | (refine uB m3 ?_ ?_; exact rfl) | (refine uD v2 ?_ ?_ ?_; exact tz hw; exact rfl))
  (refine S.done ?_; simp only [p9, l7, go_sem, Nat.reduceBEq, Nat.reduceAdd, Nat.reduceLeDiff, Int.reduceToNat, Int.reducePow]; (repeat (refine ⟨?_, ?_⟩; focus first | trivial | omega | simp)); exact j3.out rfl (Imp.refl rfl) rfl)
theorem O3 (a : Nm.Rt) (ha : Rb 17179869184 a) : FZ 15 [rc a] (ints (y8 (Nm.d9 a))) := by
 refine kW Tryz.func15 (by cbv) (by rfl) fun w O hw => ?_
 have hfa := X0 a ha
 generalize Nm.d9 a = p at *
 simp only [j6]
 simp only [rq, rc, sb, Nm.ofQ, ints] at *
 (repeat first | refine uA ?_ | (refine uK ?_ ?_; focus first | omega | (intros; simp_all <;> omega)) | simp (disch := omega) only [go_sem, Nat.reduceBEq, Nat.reduceAdd, ww, Z8, a5K] | (refine uD hfa ?_ ?_ ?_; exact tz hw; exact rfl))
 (refine uJ rfl (fun hc => ?_) fun hc => ?_)
 ·have : y8 p = 0 := by unfold y8; rw [if_pos (by omega)]
  rw [this]
  (repeat first | refine uA ?_ | (refine uK ?_ ?_; focus first | omega | (intros; simp_all <;> omega)) | simp (disch := omega) only [go_sem, Nat.reduceBEq, Nat.reduceAdd, ww])
  exact S.done (j3.out rfl (Imp.refl rfl) rfl)
 (repeat first | refine uA ?_ | (refine uK ?_ ?_; focus first | omega | (intros; simp_all <;> omega)) | simp (disch := omega) only [go_sem, Nat.reduceBEq, Nat.reduceAdd, ww])
 (refine uJ rfl (fun hc => ?_) fun hc => ?_)
 ·have : y8 p = -1 := by unfold y8; rw [if_neg (by omega), if_pos hc]
  rw [this]
  (repeat first | refine uA ?_ | (refine uK ?_ ?_; focus first | omega | (intros; simp_all <;> omega)) | simp (disch := omega) only [go_sem, Nat.reduceBEq, Nat.reduceAdd, ww])
  exact S.done (j3.out rfl (Imp.refl rfl) rfl)
 ·have : y8 p = 1 := by unfold y8; rw [if_neg (by omega), if_neg hc]
  rw [this]
  (repeat first | refine uA ?_ | (refine uK ?_ ?_; focus first | omega | (intros; simp_all <;> omega)) | simp (disch := omega) only [go_sem, Nat.reduceBEq, Nat.reduceAdd, ww])
  exact S.done (j3.out rfl (Imp.refl rfl) rfl)
theorem a7z (a b : Nat) : -1 <= Nm.a0i a b /\ Nm.a0i a b <= 1 := by
 unfold Nm.a0i
 by_cases h : a < b
 ·rw [if_pos h]; omega
 ·rw [if_neg h]; split <;> omega
theorem K7 (a b : Nm.Rt) (ha : Rb 17179869184 a) (hb : Rb 17179869184 b) : FZ 52 [rc a, rc b] (ints (Nm.q8 (Nm.d9 a) (Nm.d9 b))) := by
 refine kW Tryz.func52 (by cbv) (by rfl) fun w O hw => ?_
 have hfa := X0 a ha
 have hfb := X0 b hb
 obtain ⟨n1, d1⟩ := ha.fit (by decide)
 obtain ⟨n2, d2⟩ := hb.fit (by decide)
 generalize Nm.d9 a = p at *
 generalize Nm.d9 b = q at *
 rw [Nm.b7W]
 simp only [Nm.ofQ] at n1 d1 n2 d2
 have l1 := Nm.G6 n1 d2
 have l2 := Nm.G6 n2 d1
 have m1 := a2p (Nm.enc p.num.natAbs) (Nm.enc q.den) (by omega) (by omega)
 have m2 := a2p (Nm.enc q.num.natAbs) (Nm.enc p.den) (by omega) (by omega)
 simp only [Nm.H9] at m1 m2
 have hcmp := a7C (Nm.enc (p.num.natAbs * q.den)) (Nm.enc (q.num.natAbs * p.den)) (by omega) (by omega)
 simp only [Nm.H9] at hcmp
 have hcr := a7z (p.num.natAbs * q.den) (q.num.natAbs * p.den)
 generalize Nm.a0i (p.num.natAbs * q.den) (q.num.natAbs * p.den) = cn at *
 simp only [j6]
 simp only [rq, rc, sb, Nm.ofQ, ints] at *
 generalize decide (p.num < 0) = bp at *
 generalize decide (q.num < 0) = bq at *
 (repeat first | refine uA ?_ | (refine uK ?_ ?_; focus first | omega | (intros; simp_all <;> omega)) | simp (disch := omega) only [go_sem, Nat.reduceBEq, Nat.reduceAdd, ww] | (refine uD hfa ?_ ?_ ?_; exact tz hw; exact rfl) | (refine uD hfb ?_ ?_ ?_; exact tz hw; exact rfl))
 refine S.cond rfl (fun hc => ?_) (fun hc => ?_)
 ·have hne : bp ≠ bq := by simpa using hc
  rw [if_pos hne]
  (repeat first | refine uA ?_ | (refine uK ?_ ?_; focus first | omega | (intros; simp_all <;> omega)) | simp (disch := omega) only [go_sem, Nat.reduceBEq, Nat.reduceAdd, ww])
  refine S.cond rfl (fun hc => ?_) (fun hc => ?_)
  ·rw [if_pos hc]
   (repeat first | refine uA ?_ | (refine uK ?_ ?_; focus first | omega | (intros; simp_all <;> omega)) | simp (disch := omega) only [go_sem, Nat.reduceBEq, Nat.reduceAdd, ww])
   exact S.done (j3.out rfl (Imp.refl rfl) rfl)
  ·rw [if_neg (by simp [hc])]
   (repeat first | refine uA ?_ | (refine uK ?_ ?_; focus first | omega | (intros; simp_all <;> omega)) | simp (disch := omega) only [go_sem, Nat.reduceBEq, Nat.reduceAdd, ww])
   exact S.done (j3.out rfl (Imp.refl rfl) rfl)
 ·have he : bp = bq := by simpa using hc
  rw [if_neg (by simp [he])]
  (repeat first | refine uA ?_ | (refine uK ?_ ?_; focus first | omega | (intros; simp_all <;> omega)) | simp (disch := omega) only [go_sem, Nat.reduceBEq, Nat.reduceAdd, ww] | (refine uB m1 ?_ ?_; exact rfl) | (refine uB m2 ?_ ?_; exact rfl) | (refine uB hcmp ?_ ?_; exact rfl))
  refine S.cond rfl (fun hc => ?_) (fun hc => ?_)
  ·rw [if_pos hc]
   have hneg : IntKind.i64.wrap (0 - cn) = - cn := by rw [Eng.wrap_i64 (by omega)]; omega
   (repeat first | refine uA ?_ | (refine uK ?_ ?_; focus first | omega | (intros; simp_all <;> omega)) | simp (disch := omega) only [go_sem, Nat.reduceBEq, Nat.reduceAdd, ww, hneg])
   exact S.done (j3.out rfl (Imp.refl rfl) rfl)
  ·rw [if_neg (by simp [hc])]
   (repeat first | refine uA ?_ | (refine uK ?_ ?_; focus first | omega | (intros; simp_all <;> omega)) | simp (disch := omega) only [go_sem, Nat.reduceBEq, Nat.reduceAdd, ww])
   exact S.done (j3.out rfl (Imp.refl rfl) rfl)
def a4M (p q : Rat) : Rat := if Nm.q8 p q <= 0 then p else q
def a4h (p q : Rat) : Rat := if Nm.q8 p q >= 0 then p else q
theorem b9m (a b : Nm.Rt) (ha : Rb 17179869184 a) (hb : Rb 17179869184 b) : FZ 153 [rc a, rc b] (rq (a4M (Nm.d9 a) (Nm.d9 b))) := by
 refine kW Tryz.func153 (by cbv) (by rfl) fun w O hw => ?_
 have hfa := X0 a ha
 have hfb := X0 b hb
 have hc := K7 a b ha hb
 unfold a4M
 generalize Nm.q8 (Nm.d9 a) (Nm.d9 b) = cn at *
 simp only [j6]
 unfold rq at *
 generalize Nm.d9 a = p at *
 generalize Nm.d9 b = q at *
 simp only [rc, sb, ints] at *
 (repeat first | refine uA ?_ | (refine uK ?_ ?_; focus first | omega | (intros; simp_all <;> omega)) | simp (disch := omega) only [go_sem, Nat.reduceBEq, Nat.reduceAdd, ww] | (refine uD hc ?_ ?_ ?_; exact tz hw; exact rfl))
 (refine uJ rfl (fun hc => ?_) fun hc => ?_)
 ·rw [if_pos hc]
  (repeat first | refine uA ?_ | (refine uK ?_ ?_; focus first | omega | (intros; simp_all <;> omega)) | simp (disch := omega) only [go_sem, Nat.reduceBEq, Nat.reduceAdd, ww] | (refine uD hfa ?_ ?_ ?_; exact tz hw; exact rfl))
  (refine S.done ?_; simp only [p9, l7, go_sem, Nat.reduceBEq, Nat.reduceAdd, Nat.reduceLeDiff, Int.reduceToNat, Int.reducePow]; (repeat (refine ⟨?_, ?_⟩; focus first | trivial | omega | simp)); exact j3.out rfl (Imp.refl rfl) rfl)
 ·rw [if_neg hc]
  (repeat first | refine uA ?_ | (refine uK ?_ ?_; focus first | omega | (intros; simp_all <;> omega)) | simp (disch := omega) only [go_sem, Nat.reduceBEq, Nat.reduceAdd, ww] | (refine uD hfb ?_ ?_ ?_; exact tz hw; exact rfl))
  (refine S.done ?_; simp only [p9, l7, go_sem, Nat.reduceBEq, Nat.reduceAdd, Nat.reduceLeDiff, Int.reduceToNat, Int.reducePow]; (repeat (refine ⟨?_, ?_⟩; focus first | trivial | omega | simp)); exact j3.out rfl (Imp.refl rfl) rfl)
theorem b9Z (a : Nm.Rt) (ha : Rb 17179869184 a) : FZ 75 [rc a] (rc ⟨false, Nm.enc (Nm.d9 a).num.natAbs, Nm.enc (Nm.d9 a).den⟩) := by
 refine kW Tryz.func75 (by cbv) (by rfl) fun w O hw => ?_
 have hfa := X0 a ha
 generalize Nm.d9 a = p at *
 simp only [j6]
 unfold rq at *
 simp only [rc, sb, Nm.ofQ] at *
 (repeat first | refine uA ?_ | (refine uK ?_ ?_; focus first | omega | (intros; simp_all <;> omega)) | simp (disch := omega) only [go_sem, Nat.reduceBEq, Nat.reduceAdd, ww] | (refine uD hfa ?_ ?_ ?_; exact tz hw; exact rfl))
 (refine S.done ?_; simp only [p9, l7, go_sem, Nat.reduceBEq, Nat.reduceAdd, Nat.reduceLeDiff, Int.reduceToNat, Int.reducePow]; (repeat (refine ⟨?_, ?_⟩; focus first | trivial | omega | simp)); exact j3.out rfl (Imp.refl rfl) rfl)
def j4 (a : Nm.Rt) : Bool := decide (a.num.length <= 3) && decide (a.den.length <= 2) && decide a.A8 && decide (Nm.val a.num <= 1000000) && decide (Nm.val a.den <= 1000)
theorem b2u (a b : Nat) : (Nm.a0i a b <= 0) = (a <= b) := by
 unfold Nm.a0i
 by_cases h : a < b
 ·rw [if_pos h]; simp; omega
 ·rw [if_neg h]; split
  ·simp; omega
  ·simp; omega
theorem a2b (a : Nm.Rt) (ha : Rb 17179869184 a) : FZ 84 [rc a] (.v (.bool (j4 a))) := by
 refine kW Tryz.func84 (by cbv) (by rfl) fun w O hw => ?_
 have hg := P5 a ⟨by have := ha.1; omega, by have := ha.2; omega⟩
 have ho1 := b3A 1000000 (by decide)
 have ho2 := b3A 1000 (by decide)
 have hb : ∀ k : Nat, k <= 1000000 -> (Nm.enc k).length <= 8 := fun k hk => Nm.G5 (by omega)
 have hb1 := hb 1000000 (by decide)
 have hb2 := hb 1000 (by decide)
 have hc1 := a7C a.num (Nm.enc 1000000) (by have := ha.1; omega) (by omega)
 have hc2 := a7C a.den (Nm.enc 1000) (by have := ha.2; omega) (by omega)
 rw [Nm.H9] at hc1 hc2
 rw [show (1000000 : Int).toNat = 1000000 from rfl] at ho1
 rw [show (1000 : Int).toNat = 1000 from rfl] at ho2
 have hl1 := b2u (Nm.val a.num) 1000000
 have hl2 := b2u (Nm.val a.den) 1000
 unfold j4
 generalize decide a.A8 = g at *
 generalize Nm.enc 1000000 = e1 at *
 generalize Nm.enc 1000 = e2 at *
 obtain ⟨neg, num, den⟩ := a
 obtain ⟨r1, r2⟩ := ha
 simp only [j6]
 simp only [rc, sb, ints] at *
 generalize Nm.a0i (Nm.val num) 1000000 = c1 at *
 generalize Nm.a0i (Nm.val den) 1000 = c2 at *
 simp only [<- hl1, <- hl2]
 have hi1 : decide ((num.length : Int) <= 3) = decide (num.length <= 3) := decide_eq_decide.2 (by omega)
 have hi2 : decide ((den.length : Int) <= 2) = decide (den.length <= 2) := decide_eq_decide.2 (by omega)
 (repeat first | refine uA ?_ | (refine uK ?_ ?_; focus first | omega | (intros; simp_all <;> omega)) | simp (disch := omega) only [go_sem, Nat.reduceBEq, Nat.reduceAdd, ww, u6, hi1, hi2] | (refine uB ho1 ?_ ?_; exact rfl) | (refine uB ho2 ?_ ?_; exact rfl) | (refine uB hc1 ?_ ?_; exact rfl) | (refine uB hc2 ?_ ?_; exact rfl) | (refine uD hg ?_ ?_ ?_; exact tz hw; exact rfl))
 exact S.done (j3.out rfl (Imp.refl rfl) rfl)
open Go Eng
def tc (h : Bool) (a : Nm.Rt) : C := .agg [.v (.bool h), .v (.bool a.neg), sb a.num, sb a.den]
def tq (h : Bool) (q : Rat) : C := tc h (Nm.ofQ q)
theorem a5s (a : Nm.Rt) (ha : Rb 17179869184 a) : FZ 213 [rc a] (tq false (Nm.d9 a)) := by
 refine kW Tryz.func213 (by cbv) (by rfl) fun w O hw => ?_
 have hm := b9m a a ha ha
 have e : a4M (Nm.d9 a) (Nm.d9 a) = Nm.d9 a := by unfold a4M; split <;> rfl
 rw [e] at hm
 unfold rq tq at *
 generalize Nm.ofQ (Nm.d9 a) = r at *
 simp only [j6]
 simp only [rc, tc, sb] at *
 (repeat first | refine uA ?_ | (refine uK ?_ ?_; focus first | omega | (intros; simp_all <;> omega)) | simp (disch := omega) only [go_sem, Nat.reduceBEq, Nat.reduceAdd, ww] | (refine uD hm ?_ ?_ ?_; exact tz hw; exact rfl))
 (refine S.done ?_; simp only [p9, l7, go_sem, Nat.reduceBEq, Nat.reduceAdd, Nat.reduceLeDiff, Int.reduceToNat, Int.reducePow]; (repeat (refine ⟨?_, ?_⟩; focus first | trivial | omega | simp)); exact j3.out rfl (Imp.refl rfl) rfl)
theorem a8s {neg : Bool} {n d k m : Nat} (hd : d ≠ 0) (hn : (Nm.enc n).length <= k) (hdl : (Nm.enc d).length <= k) (hk : 1 <= k) (hm : k <= m) : Rb m (Nm.ofQ (mkRat (Nm.sgn neg n) d)) := by
 rw [<- Nm.a8N neg hd]
 split
 ·exact ⟨c1y _, c1v hk hm⟩
 ·exact ⟨c1v (Nm.a3o (Nat.div_le_self _ _)) (c1v hn hm), c1v (Nm.a3o (Nat.div_le_self _ _)) (c1v hdl hm)⟩
theorem b0M {k : Nat} {p : Rat} (h : Rb k (Nm.ofQ p)) : 1 <= k := by
 have h1 := h.2
 simp only [Nm.ofQ] at h1
 have : Nm.enc p.den ≠ [] := Nm.a4x p.den_nz
 have := List.length_pos_iff.2 this
 omega
theorem Q8 {k m : Nat} {p q : Rat} (hp : Rb k (Nm.ofQ p)) (hq : Rb m (Nm.ofQ q)) : Rb (k + m + 1) (Nm.ofQ (p + q)) := by
 have h1 := b0M hp
 rw [<- Nm.a9s p q]
 have l1 := Nm.G6 hp.1 hq.2
 have l2 := Nm.G6 hq.1 hp.2
 have l3 := Nm.G6 hp.2 hq.2
 exact a8s (k := k + m + 1) (Nat.mul_ne_zero p.den_nz q.den_nz) (c1v (Nm.a3o (Nm.a5n _ _ _ _)) (Nm.a4j l1 (by omega))) (by omega) (by omega) (c1A _)
theorem I9 {k m : Nat} {p q : Rat} (hp : Rb k (Nm.ofQ p)) (hq : Rb m (Nm.ofQ q)) : Rb (k + m) (Nm.ofQ (p * q)) := by
 have h1 := b0M hp
 rw [<- Nm.b1A p q]
 exact a8s (k := k + m) (Nat.mul_ne_zero p.den_nz q.den_nz) (Nm.G6 hp.1 hq.1) (Nm.G6 hp.2 hq.2) (by omega) (c1A _)
theorem a3H {k m : Nat} {p q : Rat} (h : q ≠ 0) (hp : Rb k (Nm.ofQ p)) (hq : Rb m (Nm.ofQ q)) : Rb (k + m) (Nm.ofQ (p / q)) := by
 have h1 := b0M hp
 rw [<- Nm.b0b p q h]
 have hn : q.num.natAbs ≠ 0 := fun e => h (Rat.num_eq_zero.1 (by omega))
 exact a8s (k := k + m) (Nat.mul_ne_zero p.den_nz hn) (Nm.G6 hp.1 hq.2) (Nm.G6 hp.2 hq.1) (by omega) (c1A _)
theorem a6u {k : Nat} {p : Rat} (hp : Rb k (Nm.ofQ p)) : Rb k (Nm.ofQ (-p)) := by
 rw [a8n]; exact hp
theorem P7 {k m : Nat} {p q : Rat} (hp : Rb k (Nm.ofQ p)) (hq : Rb m (Nm.ofQ q)) : Rb (k + m + 1) (Nm.ofQ (p - q)) := by
 rw [Rat.sub_eq_add_neg]; exact Q8 hp (a6u hq)
theorem Rb.mono {k m : Nat} {a : Nm.Rt} (h : Rb k a) (hm : k <= m) : Rb m a := ⟨c1v h.1 hm, c1v h.2 hm⟩
theorem a9R (p q : Rat) (hp : Rb 17179869184 (Nm.ofQ p)) (hq : Rb 17179869184 (Nm.ofQ q)) : FZ 16 [rq p, rq q] (rq (p + q)) := by
 have := a1P (Nm.ofQ p) (Nm.ofQ q) hp hq
 rwa [Nm.G9, Nm.G9] at this
theorem b3R (p q : Rat) (hp : Rb 17179869184 (Nm.ofQ p)) (hq : Rb 17179869184 (Nm.ofQ q)) : FZ 158 [rq p, rq q] (rq (p - q)) := by
 have := a6h (Nm.ofQ p) (Nm.ofQ q) hp hq
 rwa [Nm.G9, Nm.G9] at this
theorem a7K (p q : Rat) (hp : Rb 17179869184 (Nm.ofQ p)) (hq : Rb 17179869184 (Nm.ofQ q)) : FZ 172 [rq p, rq q] (rq (p * q)) := by
 have := a5O (Nm.ofQ p) (Nm.ofQ q) hp hq
 rwa [Nm.G9, Nm.G9] at this
theorem b3j (p q : Rat) (hp : Rb 17179869184 (Nm.ofQ p)) (hq : Rb 17179869184 (Nm.ofQ q)) : FZ 223 [rq p, rq q] (.tup [rc (a0I p q), ints (a1N q)]) := by
 have := b4t (Nm.ofQ p) (Nm.ofQ q) hp hq
 rwa [Nm.G9, Nm.G9] at this
theorem a9Z : FZ 254 [] (tq true 0) := by
 refine kW Tryz.func254 (by cbv) (by rfl) fun w O hw => ?_
 have ho := a3R 0 (by decide) (by decide)
 rw [show ((0 : Int) : Rat) = 0 from rfl] at ho
 unfold rq tq at *
 generalize Nm.ofQ 0 = r at *
 simp only [j6]
 simp only [rc, tc, sb, ints] at *
 (repeat first | refine uA ?_ | (refine uK ?_ ?_; focus first | omega | (intros; simp_all <;> omega)) | simp (disch := omega) only [go_sem, Nat.reduceBEq, Nat.reduceAdd, ww] | (refine uD ho ?_ ?_ ?_; exact tz hw; exact rfl))
 (refine S.done ?_; simp only [p9, l7, go_sem, Nat.reduceBEq, Nat.reduceAdd, Nat.reduceLeDiff, Int.reduceToNat, Int.reducePow]; (repeat (refine ⟨?_, ?_⟩; focus first | trivial | omega | simp)); exact j3.out rfl (Imp.refl rfl) rfl)
def w9 (h : Bool) (a : Nm.Rt) : Rat := if h then 0 else Nm.d9 a
theorem a6a (h : Bool) (a : Nm.Rt) (ha : Rb 17179869184 a) : FZ 243 [tc h a] (tq h (w9 h a)) := by
 refine kW Tryz.func243 (by cbv) (by rfl) fun w O hw => ?_
 have ho := a9Z
 have hf := a5s a ha
 unfold w9 tq at *
 cases h
 ·simp only [c2a, if_false]
  generalize Nm.ofQ (Nm.d9 a) = r at *
  simp only [j6]
  simp only [rc, tc, sb, ints] at *
  (repeat first | refine uA ?_ | (refine uK ?_ ?_; focus first | omega | (intros; simp_all <;> omega)) | simp (disch := omega) only [go_sem, Nat.reduceBEq, Nat.reduceAdd, ww])
  exact S.cond rfl (fun hc => by cases hc) (fun _ => by
   (repeat first | refine uA ?_ | (refine uK ?_ ?_; focus first | omega | (intros; simp_all <;> omega)) | simp (disch := omega) only [go_sem, Nat.reduceBEq, Nat.reduceAdd, ww] | (refine uD hf ?_ ?_ ?_; exact tz hw; exact rfl))
   (refine S.done ?_; simp only [p9, l7, go_sem, Nat.reduceBEq, Nat.reduceAdd, Nat.reduceLeDiff, Int.reduceToNat, Int.reducePow]; (repeat (refine ⟨?_, ?_⟩; focus first | trivial | omega | simp)); exact j3.out rfl (Imp.refl rfl) rfl))
 ·simp only [if_true]
  generalize Nm.ofQ 0 = r at *
  simp only [j6]
  simp only [rc, tc, sb, ints] at *
  (repeat first | refine uA ?_ | (refine uK ?_ ?_; focus first | omega | (intros; simp_all <;> omega)) | simp (disch := omega) only [go_sem, Nat.reduceBEq, Nat.reduceAdd, ww])
  exact S.cond rfl (fun _ => by
   (repeat first | refine uA ?_ | (refine uK ?_ ?_; focus first | omega | (intros; simp_all <;> omega)) | simp (disch := omega) only [go_sem, Nat.reduceBEq, Nat.reduceAdd, ww] | (refine uD ho ?_ ?_ ?_; exact tz hw; exact rfl))
   (refine S.done ?_; simp only [p9, l7, go_sem, Nat.reduceBEq, Nat.reduceAdd, Nat.reduceLeDiff, Int.reduceToNat, Int.reducePow]; (repeat (refine ⟨?_, ?_⟩; focus first | trivial | omega | simp)); exact j3.out rfl (Imp.refl rfl) rfl)) (fun hc => by cases hc)
def R4 (h : Bool) (t : Rat) : Rat := if h then -1 else (1 - t * t) / (1 + t * t)
def R3 (t : Rat) : Rat := (t + t) / (1 + t * t)
theorem sq_nonneg (t : Rat) : 0 <= t * t := by
 rcases Rat.le_total (a := 0) (b := t) with h | h
 ·exact Rat.mul_nonneg h h
 ·have h1 : 0 <= -t := by grind
  have := Rat.mul_nonneg h1 h1
  grind
theorem a8c (t : Rat) : 1 + t * t ≠ 0 := by
 have := sq_nonneg t
 intro h
 have h1 : (0 : Rat) < 1 := by decide
 grind
theorem Y8 : Rb 8 (Nm.ofQ 1) := ⟨Nm.G5 (by decide), Nm.G5 (by decide)⟩
theorem b9y (h : Bool) (a : Nm.Rt) (ha : Rb 4294967296 a) : FZ 224 [tc h a] (rq (R4 h (w9 h a))) := by
 refine kW Tryz.func224 (by cbv) (by rfl) fun w O hw => ?_
 have hf := a6a h a (ha.mono (by decide))
 have ho := a3R 1 (by decide) (by decide)
 have hm1 := a3R (-1) (by decide) (by decide)
 rw [show ((1 : Int) : Rat) = 1 from rfl] at ho
 rw [show ((-1 : Int) : Rat) = -1 from rfl] at hm1
 have hk : Rb 4294967296 (Nm.ofQ (w9 h a)) := by
  unfold w9; cases h
  ·exact ha.fit (by decide)
  ·simp only [if_true]; rw [Nm.a2n]; exact ⟨by decide, by decide⟩
 generalize w9 h a = t at *
 have hsq := a7K t t (hk.mono (by decide)) (hk.mono (by decide))
 have k2 := I9 hk hk
 have hs := b3R 1 (t * t) (Y8.mono (by decide)) (k2.mono (by decide))
 have hp := a9R 1 (t * t) (Y8.mono (by decide)) (k2.mono (by decide))
 have hd := b3j (1 - t * t) (1 + t * t) ((P7 Y8 k2).mono (by decide)) ((Q8 Y8 k2).mono (by decide))
 rw [show a0I (1 - t * t) (1 + t * t) = Nm.ofQ ((1 - t * t) / (1 + t * t)) by unfold a0I; rw [if_neg (a8c t)]] at hd
 unfold R4
 cases h
 ·simp only [c2a, if_false]
  generalize (1 - t * t) / (1 + t * t) = r at *
  unfold tq rq at *
  generalize Nm.ofQ t = rt at *
  generalize Nm.ofQ (t * t) = rs at *
  generalize Nm.ofQ (1 - t * t) = r1 at *
  generalize Nm.ofQ (1 + t * t) = r2 at *
  generalize Nm.ofQ r = r3 at *
  generalize Nm.ofQ 1 = r4 at *
  simp only [j6]
  simp only [rc, tc, sb, ints] at *
  (repeat first | refine uA ?_ | (refine uK ?_ ?_; focus first | omega | (intros; simp_all <;> omega)) | simp (disch := omega) only [go_sem, Nat.reduceBEq, Nat.reduceAdd, ww] | (refine uD hf ?_ ?_ ?_; exact tz hw; exact rfl))
  refine S.cond rfl (fun hc => by cases hc) (fun _ => ?_)
  (repeat first | refine uA ?_ | (refine uK ?_ ?_; focus first | omega | (intros; simp_all <;> omega)) | simp (disch := omega) only [go_sem, Nat.reduceBEq, Nat.reduceAdd, ww] | (refine uD hsq ?_ ?_ ?_; exact tz hw; exact rfl) | (refine uD ho ?_ ?_ ?_; exact tz hw; exact rfl) | (refine uD hs ?_ ?_ ?_; exact tz hw; exact rfl) | (refine uD hp ?_ ?_ ?_; exact tz hw; exact rfl) | (refine uD hd ?_ ?_ ?_; exact tz hw; exact rfl))
  (refine S.done ?_; simp only [p9, l7, go_sem, Nat.reduceBEq, Nat.reduceAdd, Nat.reduceLeDiff, Int.reduceToNat, Int.reducePow]; (repeat (refine ⟨?_, ?_⟩; focus first | trivial | omega | simp)); exact j3.out rfl (Imp.refl rfl) rfl)
 ·simp only [if_true]
  unfold tq rq at *
  generalize Nm.ofQ t = rt at *
  generalize Nm.ofQ (-1) = r4 at *
  simp only [j6]
  simp only [rc, tc, sb, ints] at *
  (repeat first | refine uA ?_ | (refine uK ?_ ?_; focus first | omega | (intros; simp_all <;> omega)) | simp (disch := omega) only [go_sem, Nat.reduceBEq, Nat.reduceAdd, ww] | (refine uD hf ?_ ?_ ?_; exact tz hw; exact rfl))
  refine S.cond rfl (fun _ => ?_) (fun hc => by cases hc)
  (repeat first | refine uA ?_ | (refine uK ?_ ?_; focus first | omega | (intros; simp_all <;> omega)) | simp (disch := omega) only [go_sem, Nat.reduceBEq, Nat.reduceAdd, ww] | (refine uD hm1 ?_ ?_ ?_; exact tz hw; exact rfl))
  (refine S.done ?_; simp only [p9, l7, go_sem, Nat.reduceBEq, Nat.reduceAdd, Nat.reduceLeDiff, Int.reduceToNat, Int.reducePow]; (repeat (refine ⟨?_, ?_⟩; focus first | trivial | omega | simp)); exact j3.out rfl (Imp.refl rfl) rfl)
theorem U5 {k : Nat} {h : Bool} {a : Nm.Rt} (ha : Rb k a) (hk : 1 <= k) : Rb k (Nm.ofQ (w9 h a)) := by
 unfold w9; cases h
 ·exact ha.fit hk
 ·simp only [if_true]; rw [Nm.a2n]; exact ⟨c1y _, hk⟩
theorem b9R (h : Bool) (a : Nm.Rt) (ha : Rb 4294967296 a) : FZ 225 [tc h a] (rq (R3 (w9 h a))) := by
 refine kW Tryz.func225 (by cbv) (by rfl) fun w O hw => ?_
 have hf := a6a h a (ha.mono (by decide))
 have ho := a3R 1 (by decide) (by decide)
 rw [show ((1 : Int) : Rat) = 1 from rfl] at ho
 have hk : Rb 4294967296 (Nm.ofQ (w9 h a)) := U5 ha (by decide)
 generalize w9 h a = t at *
 have hsq := a7K t t (hk.mono (by decide)) (hk.mono (by decide))
 have k2 := I9 hk hk
 have hs := a9R t t (hk.mono (by decide)) (hk.mono (by decide))
 have hp := a9R 1 (t * t) (Y8.mono (by decide)) (k2.mono (by decide))
 have hd := b3j (t + t) (1 + t * t) ((Q8 hk hk).mono (by decide)) ((Q8 Y8 k2).mono (by decide))
 rw [show a0I (t + t) (1 + t * t) = Nm.ofQ ((t + t) / (1 + t * t)) by unfold a0I; rw [if_neg (a8c t)]] at hd
 unfold R3
 generalize (t + t) / (1 + t * t) = r at *
 unfold tq rq at *
 generalize Nm.ofQ t = rt at *
 generalize Nm.ofQ (t * t) = rs at *
 generalize Nm.ofQ (t + t) = r1 at *
 generalize Nm.ofQ (1 + t * t) = r2 at *
 generalize Nm.ofQ r = r3 at *
 generalize Nm.ofQ 1 = r4 at *
 simp only [j6]
 simp only [rc, tc, sb, ints] at *
 (repeat first | refine uA ?_ | (refine uK ?_ ?_; focus first | omega | (intros; simp_all <;> omega)) | simp (disch := omega) only [go_sem, Nat.reduceBEq, Nat.reduceAdd, ww] | (refine uD hf ?_ ?_ ?_; exact tz hw; exact rfl) | (refine uD hsq ?_ ?_ ?_; exact tz hw; exact rfl) | (refine uD ho ?_ ?_ ?_; exact tz hw; exact rfl) | (refine uD hs ?_ ?_ ?_; exact tz hw; exact rfl) | (refine uD hp ?_ ?_ ?_; exact tz hw; exact rfl) | (refine uD hd ?_ ?_ ?_; exact tz hw; exact rfl))
 (refine S.done ?_; simp only [p9, l7, go_sem, Nat.reduceBEq, Nat.reduceAdd, Nat.reduceLeDiff, Int.reduceToNat, Int.reducePow]; (repeat (refine ⟨?_, ?_⟩; focus first | trivial | omega | simp)); exact j3.out rfl (Imp.refl rfl) rfl)
def vc (x y : Nm.Rt) : C := .agg [.v (.bool x.neg), sb x.num, sb x.den, .v (.bool y.neg), sb y.num, sb y.den]
def vq (x y : Rat) : C := vc (Nm.ofQ x) (Nm.ofQ y)
theorem b5u (a b c d : Nm.Rt) (ha : Rb 17179869184 a) (hb : Rb 17179869184 b) (hc : Rb 17179869184 c) (hd : Rb 17179869184 d) :
  FZ 161 [vc a b, vc c d] (vq (Nm.d9 a + Nm.d9 c) (Nm.d9 b + Nm.d9 d)) := by
 refine kW Tryz.func161 (by cbv) (by rfl) fun w O hw => ?_
 have h1 := a1P a c ha hc
 have h2 := a1P b d hb hd
 unfold vq rq at *
 generalize Nm.ofQ (Nm.d9 a + Nm.d9 c) = r1 at *
 generalize Nm.ofQ (Nm.d9 b + Nm.d9 d) = r2 at *
 simp only [j6]
 simp only [rc, vc, sb] at *
 (repeat first | refine uA ?_ | (refine uK ?_ ?_; focus first | omega | (intros; simp_all <;> omega)) | simp (disch := omega) only [go_sem, Nat.reduceBEq, Nat.reduceAdd, ww] | (refine uD h1 ?_ ?_ ?_; exact tz hw; exact rfl) | (refine uD h2 ?_ ?_ ?_; exact tz hw; exact rfl))
 (refine S.done ?_; simp only [p9, l7, go_sem, Nat.reduceBEq, Nat.reduceAdd, Nat.reduceLeDiff, Int.reduceToNat, Int.reducePow]; (repeat (refine ⟨?_, ?_⟩; focus first | trivial | omega | simp)); exact j3.out rfl (Imp.refl rfl) rfl)
theorem b0S (a b c d : Nm.Rt) (ha : Rb 17179869184 a) (hb : Rb 17179869184 b) (hc : Rb 17179869184 c) (hd : Rb 17179869184 d) :
  FZ 72 [vc a b, vc c d] (vq (Nm.d9 a - Nm.d9 c) (Nm.d9 b - Nm.d9 d)) := by
 refine kW Tryz.func72 (by cbv) (by rfl) fun w O hw => ?_
 have h1 := a6h a c ha hc
 have h2 := a6h b d hb hd
 unfold vq rq at *
 generalize Nm.ofQ (Nm.d9 a - Nm.d9 c) = r1 at *
 generalize Nm.ofQ (Nm.d9 b - Nm.d9 d) = r2 at *
 simp only [j6]
 simp only [rc, vc, sb] at *
 (repeat first | refine uA ?_ | (refine uK ?_ ?_; focus first | omega | (intros; simp_all <;> omega)) | simp (disch := omega) only [go_sem, Nat.reduceBEq, Nat.reduceAdd, ww] | (refine uD h1 ?_ ?_ ?_; exact tz hw; exact rfl) | (refine uD h2 ?_ ?_ ?_; exact tz hw; exact rfl))
 (refine S.done ?_; simp only [p9, l7, go_sem, Nat.reduceBEq, Nat.reduceAdd, Nat.reduceLeDiff, Int.reduceToNat, Int.reducePow]; (repeat (refine ⟨?_, ?_⟩; focus first | trivial | omega | simp)); exact j3.out rfl (Imp.refl rfl) rfl)
theorem a7Z {k : Nat} {t : Rat} (h : Bool) (ht : Rb k (Nm.ofQ t)) : Rb (4 * k + 18) (Nm.ofQ (R4 h t)) := by
 unfold R4
 have h1 := I9 ht ht
 have h2 := P7 Y8 h1
 have h3 := Q8 Y8 h1
 cases h
 ·exact (a3H (a8c t) h2 h3).mono (by omega)
 ·exact (a6u Y8).mono (by omega)
theorem a7L {k : Nat} {t : Rat} (ht : Rb k (Nm.ofQ t)) : Rb (4 * k + 18) (Nm.ofQ (R3 t)) := by
 unfold R3
 exact (a3H (a8c t) (Q8 ht ht) (Q8 Y8 (I9 ht ht))).mono (by omega)
theorem b2N (a b t : Nm.Rt) (h : Bool) (ha : Rb 268435456 a) (hb : Rb 268435456 b) (ht : Rb 268435456 t) :
  FZ 180 [vc a b, tc h t] (vq (Nm.d9 a * R4 h (w9 h t) - Nm.d9 b * R3 (w9 h t)) (Nm.d9 a * R3 (w9 h t) + Nm.d9 b * R4 h (w9 h t))) := by
 refine kW Tryz.func180 (by cbv) (by rfl) fun w O hw => ?_
 have k1 := b9y h t (ht.mono (by decide))
 have k2 := b9R h t (ht.mono (by decide))
 have ft := U5 (h := h) ht (by decide)
 have rc1 := a7Z h ft
 have rs1 := a7L ft
 have fa := ha.fit (by decide)
 have fb := hb.fit (by decide)
 have m1 := a5O a (Nm.ofQ (R4 h (w9 h t))) (ha.mono (by decide)) (rc1.mono (by decide))
 have m2 := a5O b (Nm.ofQ (R3 (w9 h t))) (hb.mono (by decide)) (rs1.mono (by decide))
 have m3 := a5O a (Nm.ofQ (R3 (w9 h t))) (ha.mono (by decide)) (rs1.mono (by decide))
 have m4 := a5O b (Nm.ofQ (R4 h (w9 h t))) (hb.mono (by decide)) (rc1.mono (by decide))
 simp only [Nm.G9] at m1 m2 m3 m4
 have s1 := a6h (Nm.ofQ (Nm.d9 a * R4 h (w9 h t))) (Nm.ofQ (Nm.d9 b * R3 (w9 h t))) ((I9 fa rc1).mono (by decide)) ((I9 fb rs1).mono (by decide))
 have s2 := a1P (Nm.ofQ (Nm.d9 a * R3 (w9 h t))) (Nm.ofQ (Nm.d9 b * R4 h (w9 h t))) ((I9 fa rs1).mono (by decide)) ((I9 fb rc1).mono (by decide))
 simp only [Nm.G9] at s1 s2
 unfold vq rq at *
 generalize Nm.ofQ (Nm.d9 a * R4 h (w9 h t) - Nm.d9 b * R3 (w9 h t)) = r1 at *
 generalize Nm.ofQ (Nm.d9 a * R3 (w9 h t) + Nm.d9 b * R4 h (w9 h t)) = r2 at *
 generalize Nm.ofQ (Nm.d9 a * R4 h (w9 h t)) = p1 at *
 generalize Nm.ofQ (Nm.d9 b * R3 (w9 h t)) = p2 at *
 generalize Nm.ofQ (Nm.d9 a * R3 (w9 h t)) = p3 at *
 generalize Nm.ofQ (Nm.d9 b * R4 h (w9 h t)) = p4 at *
 generalize Nm.ofQ (R4 h (w9 h t)) = c at *
 generalize Nm.ofQ (R3 (w9 h t)) = s at *
 simp only [j6]
 simp only [rc, vc, tc, sb] at *
 (repeat first | refine uA ?_ | (refine uK ?_ ?_; focus first | omega | (intros; simp_all <;> omega)) | simp (disch := omega) only [go_sem, Nat.reduceBEq, Nat.reduceAdd, ww] | (refine uD k1 ?_ ?_ ?_; exact tz hw; exact rfl) | (refine uD k2 ?_ ?_ ?_; exact tz hw; exact rfl) | (refine uD m1 ?_ ?_ ?_; exact tz hw; exact rfl) | (refine uD m2 ?_ ?_ ?_; exact tz hw; exact rfl) | (refine uD m3 ?_ ?_ ?_; exact tz hw; exact rfl) | (refine uD m4 ?_ ?_ ?_; exact tz hw; exact rfl) | (refine uD s1 ?_ ?_ ?_; exact tz hw; exact rfl) | (refine uD s2 ?_ ?_ ?_; exact tz hw; exact rfl))
 (refine S.done ?_; simp only [p9, l7, go_sem, Nat.reduceBEq, Nat.reduceAdd, Nat.reduceLeDiff, Int.reduceToNat, Int.reducePow]; (repeat (refine ⟨?_, ?_⟩; focus first | trivial | omega | simp)); exact j3.out rfl (Imp.refl rfl) rfl)
structure Vt where
 x : Nm.Rt
 y : Nm.Rt
def Vt.enc (v : Vt) : List C := [.v (.bool v.x.neg), sb v.x.num, sb v.x.den, .v (.bool v.y.neg), sb v.y.num, sb v.y.den]
def Vt.c (v : Vt) : C := .agg v.enc
def Vt.zero : Vt := ⟨⟨false, [], []⟩, ⟨false, [], []⟩⟩
def Vb (k : Nat) (v : Vt) : Prop := Rb k v.x /\ Rb k v.y
theorem Vb.mono {k m : Nat} {v : Vt} (h : Vb k v) (hm : k <= m) : Vb m v := ⟨h.1.mono hm, h.2.mono hm⟩
theorem b6p (a b c d : Rat) (ha : Rb 4294967296 (Nm.ofQ a)) (hb : Rb 4294967296 (Nm.ofQ b)) (hc : Rb 4294967296 (Nm.ofQ c)) (hd : Rb 4294967296 (Nm.ofQ d)) :
  FZ 263 [vq a b, vq c d] (rq (a * d - b * c)) := by
 refine kW Tryz.func263 (by cbv) (by rfl) fun w O hw => ?_
 have h1 := a7K a d (ha.mono (by decide)) (hd.mono (by decide))
 have h2 := a7K b c (hb.mono (by decide)) (hc.mono (by decide))
 have h3 := b3R (a * d) (b * c) ((I9 ha hd).mono (by decide)) ((I9 hb hc).mono (by decide))
 unfold vq rq at *
 generalize Nm.ofQ (a * d - b * c) = r3 at *
 generalize Nm.ofQ (a * d) = r1 at *
 generalize Nm.ofQ (b * c) = r2 at *
 generalize Nm.ofQ a = ra at *
 generalize Nm.ofQ b = rb at *
 generalize Nm.ofQ c = r at *
 generalize Nm.ofQ d = rd at *
 simp only [j6]
 simp only [rc, vc, sb] at *
 (repeat first | refine uA ?_ | (refine uK ?_ ?_; focus first | omega | (intros; simp_all <;> omega)) | simp (disch := omega) only [go_sem, Nat.reduceBEq, Nat.reduceAdd, ww] | (refine uD h1 ?_ ?_ ?_; exact tz hw; exact rfl) | (refine uD h2 ?_ ?_ ?_; exact tz hw; exact rfl) | (refine uD h3 ?_ ?_ ?_; exact tz hw; exact rfl))
 (refine S.done ?_; simp only [p9, l7, go_sem, Nat.reduceBEq, Nat.reduceAdd, Nat.reduceLeDiff, Int.reduceToNat, Int.reducePow]; (repeat (refine ⟨?_, ?_⟩; focus first | trivial | omega | simp)); exact j3.out rfl (Imp.refl rfl) rfl)
def a9S (a b c : Vt) : Int := y8 ((Nm.d9 b.x - Nm.d9 a.x) * (Nm.d9 c.y - Nm.d9 a.y) - (Nm.d9 b.y - Nm.d9 a.y) * (Nm.d9 c.x - Nm.d9 a.x))
theorem b9i (a b c : Vt) (ha : Vb 1073741824 a) (hb : Vb 1073741824 b) (hc : Vb 1073741824 c) : FZ 251 [a.c, b.c, c.c] (ints (a9S a b c)) := by
 refine kW Tryz.func251 (by cbv) (by rfl) fun w O hw => ?_
 have h1 := b0S b.x b.y a.x a.y (hb.1.mono (by decide)) (hb.2.mono (by decide)) (ha.1.mono (by decide)) (ha.2.mono (by decide))
 have h2 := b0S c.x c.y a.x a.y (hc.1.mono (by decide)) (hc.2.mono (by decide)) (ha.1.mono (by decide)) (ha.2.mono (by decide))
 have g1 := P7 (hb.1.fit (by decide)) (ha.1.fit (by decide))
 have g2 := P7 (hb.2.fit (by decide)) (ha.2.fit (by decide))
 have g3 := P7 (hc.1.fit (by decide)) (ha.1.fit (by decide))
 have g4 := P7 (hc.2.fit (by decide)) (ha.2.fit (by decide))
 unfold a9S
 generalize Nm.d9 b.x - Nm.d9 a.x = p1 at *
 generalize Nm.d9 b.y - Nm.d9 a.y = p2 at *
 generalize Nm.d9 c.x - Nm.d9 a.x = p3 at *
 generalize Nm.d9 c.y - Nm.d9 a.y = p4 at *
 have h3 := b6p p1 p2 p3 p4 (g1.mono (by decide)) (g2.mono (by decide)) (g3.mono (by decide)) (g4.mono (by decide))
 have g5 := P7 (I9 g1 g4) (I9 g2 g3)
 have h4 := O3 (Nm.ofQ (p1 * p4 - p2 * p3)) (g5.mono (by decide))
 rw [Nm.G9] at h4
 generalize p1 * p4 - p2 * p3 = p5 at *
 unfold vq rq at *
 generalize Nm.ofQ p1 = r1 at *
 generalize Nm.ofQ p2 = r2 at *
 generalize Nm.ofQ p3 = r3 at *
 generalize Nm.ofQ p4 = r4 at *
 generalize Nm.ofQ p5 = r5 at *
 simp only [j6]
 simp only [rc, vc, sb, Vt.c, Vt.enc] at *
 (repeat first | refine uA ?_ | (refine uK ?_ ?_; focus first | omega | (intros; simp_all <;> omega)) | simp (disch := omega) only [go_sem, Nat.reduceBEq, Nat.reduceAdd, ww] | (refine uD h1 ?_ ?_ ?_; exact tz hw; exact rfl) | (refine uD h2 ?_ ?_ ?_; exact tz hw; exact rfl) | (refine uD h3 ?_ ?_ ?_; exact tz hw; exact rfl) | (refine uD h4 ?_ ?_ ?_; exact tz hw; exact rfl))
 (refine S.done ?_; simp only [p9, l7, go_sem, Nat.reduceBEq, Nat.reduceAdd, Nat.reduceLeDiff, Int.reduceToNat, Int.reducePow]; (repeat (refine ⟨?_, ?_⟩; focus first | trivial | omega | simp)); exact j3.out rfl (Imp.refl rfl) rfl)
def D8 {α : Type} (f : α -> Int) : List α -> Int
 | [] => 0
 | x :: r => if f x = 0 then D8 f r else f x
def C9 {α σ : Type} (f : σ -> α -> Int × σ) : σ -> List α -> Int × σ
 | s, [] => (0, s)
 | s, x :: r => if (f s x).1 = 0 then C9 f (f s x).2 r else f s x
theorem drop_at {α : Type} {l : List α} {i : Nat} {x : α} (h : l[i]? = some x) : l.drop i = x :: l.drop (i + 1) := by
 obtain ⟨hi, rfl⟩ := c1z.1 h
 exact List.drop_eq_getElem_cons hi
theorem a0h {α : Type} {f : α -> Int} {l : List α} {i : Nat} {x : α} (h : l[i]? = some x) (h0 : f x ≠ 0) : D8 f (l.drop i) = f x := by
 rw [drop_at h, D8, if_neg h0]
theorem a0c {α : Type} {f : α -> Int} {l : List α} {i : Nat} {x : α} (h : l[i]? = some x) (h0 : f x = 0) : D8 f (l.drop i) = D8 f (l.drop (i + 1)) := by
 rw [drop_at h, D8, if_pos h0]
theorem a0w {α : Type} {f : α -> Int} {l : List α} {i : Nat} (h : l.length <= i) : D8 f (l.drop i) = 0 := by
 rw [List.drop_eq_nil_of_le h, D8]
theorem R6 {α σ : Type} {f : σ -> α -> Int × σ} {s : σ} {l : List α} {i : Nat} {x : α} (h : l[i]? = some x) (h0 : (f s x).1 ≠ 0) : C9 f s (l.drop i) = f s x := by
 rw [drop_at h, C9, if_neg h0]
theorem R7 {α σ : Type} {f : σ -> α -> Int × σ} {s : σ} {l : List α} {i : Nat} {x : α} (h : l[i]? = some x) (h0 : (f s x).1 = 0) : C9 f s (l.drop i) = C9 f (f s x).2 (l.drop (i + 1)) := by
 rw [drop_at h, C9, if_pos h0]
theorem W9 {α σ : Type} {f : σ -> α -> Int × σ} {s : σ} {l : List α} {i : Nat} (h : l.length <= i) : C9 f s (l.drop i) = (0, s) := by
 rw [List.drop_eq_nil_of_le h, C9]
structure Fr where
 x : Nm.Rt
 y : Nm.Rt
 half : Bool
 t : Nm.Rt
structure Lk where
 length : Nm.Rt
 low : Nm.Rt
 high : Nm.Rt
 speed : Nm.Rt
 brake : Nm.Rt
 shape : List Vt
structure Am where
 name : List UInt8
 base : Fr
 links : List Lk
structure Pt where
 name : List UInt8
 shape : List Vt
 grasp : Fr
structure Sl where
 name : List UInt8
 frame : Fr
 within : Nm.Rt
structure Gt where
 name : List UInt8
 low : Vt
 high : Vt
structure Wk where
 arms : List Am
 walls : List (List Vt)
 parts : List Pt
 slots : List Sl
 gates : List Gt
 walk : Nm.Rt
def rcs (a : Nm.Rt) : List C := [.v (.bool a.neg), sb a.num, sb a.den]
def Fr.enc (f : Fr) : List C := [.v (.bool f.x.neg), sb f.x.num, sb f.x.den, .v (.bool f.y.neg), sb f.y.num, sb f.y.den, .v (.bool f.half), .v (.bool f.t.neg), sb f.t.num, sb f.t.den]
def Fr.c (f : Fr) : C := .agg f.enc
def vts (l : List Vt) : C := .sl 6 (l.map Vt.enc)
def Lk.enc (l : Lk) : List C := [.v (.bool l.length.neg), sb l.length.num, sb l.length.den, .v (.bool l.low.neg), sb l.low.num, sb l.low.den, .v (.bool l.high.neg), sb l.high.num, sb l.high.den, .v (.bool l.speed.neg), sb l.speed.num, sb l.speed.den, .v (.bool l.brake.neg), sb l.brake.num, sb l.brake.den, vts l.shape]
def Lk.c (l : Lk) : C := .agg l.enc
def lks (l : List Lk) : C := .sl 16 (l.map Lk.enc)
def Am.enc (a : Am) : List C := [sb a.name, .v (.bool a.base.x.neg), sb a.base.x.num, sb a.base.x.den, .v (.bool a.base.y.neg), sb a.base.y.num, sb a.base.y.den, .v (.bool a.base.half), .v (.bool a.base.t.neg), sb a.base.t.num, sb a.base.t.den, lks a.links]
def Am.c (a : Am) : C := .agg a.enc
def ams (l : List Am) : C := .sl 12 (l.map Am.enc)
def Pt.enc (p : Pt) : List C := [sb p.name, vts p.shape, .v (.bool p.grasp.x.neg), sb p.grasp.x.num, sb p.grasp.x.den, .v (.bool p.grasp.y.neg), sb p.grasp.y.num, sb p.grasp.y.den, .v (.bool p.grasp.half), .v (.bool p.grasp.t.neg), sb p.grasp.t.num, sb p.grasp.t.den]
def Pt.c (p : Pt) : C := .agg p.enc
def pts (l : List Pt) : C := .sl 12 (l.map Pt.enc)
def Sl.enc (s : Sl) : List C := [sb s.name, .v (.bool s.frame.x.neg), sb s.frame.x.num, sb s.frame.x.den, .v (.bool s.frame.y.neg), sb s.frame.y.num, sb s.frame.y.den, .v (.bool s.frame.half), .v (.bool s.frame.t.neg), sb s.frame.t.num, sb s.frame.t.den, .v (.bool s.within.neg), sb s.within.num, sb s.within.den]
def Sl.c (s : Sl) : C := .agg s.enc
def sls (l : List Sl) : C := .sl 14 (l.map Sl.enc)
def Gt.enc (g : Gt) : List C := [sb g.name, .v (.bool g.low.x.neg), sb g.low.x.num, sb g.low.x.den, .v (.bool g.low.y.neg), sb g.low.y.num, sb g.low.y.den, .v (.bool g.high.x.neg), sb g.high.x.num, sb g.high.x.den, .v (.bool g.high.y.neg), sb g.high.y.num, sb g.high.y.den]
def Gt.c (g : Gt) : C := .agg g.enc
def gts (l : List Gt) : C := .sl 13 (l.map Gt.enc)
def wls (l : List (List Vt)) : C := .sl 1 (l.map fun s => [vts s])
def Wk.enc (w : Wk) : List C := [ams w.arms, wls w.walls, pts w.parts, sls w.slots, gts w.gates, .v (.bool w.walk.neg), sb w.walk.num, sb w.walk.den]
def Wk.c (w : Wk) : C := .agg w.enc
def Fb (k : Nat) (f : Fr) : Prop := Rb k f.x /\ Rb k f.y /\ Rb k f.t
def Vbs (k : Nat) (l : List Vt) : Prop := l.length <= k /\ ∀ v ∈ l, Vb k v
def Lb (k : Nat) (l : Lk) : Prop := Rb k l.length /\ Rb k l.low /\ Rb k l.high /\ Rb k l.speed /\ Rb k l.brake /\ Vbs k l.shape
def Ab (k : Nat) (a : Am) : Prop := a.name.length <= k /\ Fb k a.base /\ a.links.length <= k /\ ∀ l ∈ a.links, Lb k l
def Pb (k : Nat) (p : Pt) : Prop := p.name.length <= k /\ Vbs k p.shape /\ Fb k p.grasp
def Sb (k : Nat) (s : Sl) : Prop := s.name.length <= k /\ Fb k s.frame /\ Rb k s.within
def Gb (k : Nat) (g : Gt) : Prop := g.name.length <= k /\ Vb k g.low /\ Vb k g.high
structure Wb (k : Nat) (w : Wk) : Prop where
 arms : w.arms.length <= k /\ ∀ x ∈ w.arms, Ab k x
 walls : w.walls.length <= k /\ ∀ x ∈ w.walls, Vbs k x
 parts : w.parts.length <= k /\ ∀ x ∈ w.parts, Pb k x
 slots : w.slots.length <= k /\ ∀ x ∈ w.slots, Sb k x
 gates : w.gates.length <= k /\ ∀ x ∈ w.gates, Gb k x
 walk : Rb k w.walk
def a0m (s : List UInt8) : Bool := (s.all fun b => decide (97 <= b.toNat) && decide (b.toNat <= 122)) && decide (1 <= s.length) && decide (s.length <= 12)
def a3u (l : List Vt) (i k : Nat) : Int := a9S (l.getD i Vt.zero) (l.getD ((i + 1) % l.length) Vt.zero) (l.getD ((i + k) % l.length) Vt.zero)
def U2 (l : List Vt) (most : Nat) : Int :=
 if most < l.length then 2 else if l.length < 3 then 3 else
 if (List.range l.length).all fun i => (List.range l.length).all fun k => decide (k < 2) || decide (0 < a3u l i k) then 0 else 3
def a1Q (h : Bool) (t : Nm.Rt) : Bool := h && !decide (y8 (Nm.d9 t) = 0)
def U3 (l : Lk) : Int :=
 if (j4 l.length && j4 l.low && j4 l.high && j4 l.speed && j4 l.brake) = false \/ y8 (Nm.d9 l.length) <= 0 \/ 0 <= Nm.q8 (Nm.d9 l.low) (Nm.d9 l.high) then 1 else
 if y8 (Nm.d9 l.speed) <= 0 \/ y8 (Nm.d9 l.brake) <= 0 then 1 else
 if U2 l.shape 8 ≠ 0 then U2 l.shape 8 else
 if (l.shape.all fun v => j4 v.x && j4 v.y) then 0 else 1
def J8 (a : Am) : Int :=
 if a0m a.name = false then 3 else
 if 3 < a.links.length then 2 else
 if a.links.length = 0 \/ (j4 a.base.x && j4 a.base.y && j4 a.base.t) = false \/ a1Q a.base.half a.base.t = true then 1 else
 D8 U3 a.links
def a1c (a : Am) (q : List Nm.Rt) : Int :=
 if J8 a ≠ 0 then J8 a else if q.length ≠ a.links.length then 1 else
 D8 (fun x : Lk × Nm.Rt => if Nm.q8 (Nm.d9 x.2) (Nm.d9 x.1.low) < 0 \/ 0 < Nm.q8 (Nm.d9 x.2) (Nm.d9 x.1.high) then 17 else 0) (a.links.zip q)
abbrev Nms := List (List UInt8)
def J5 (n : Nms) (s : List UInt8) : Int × Nms := if a0m s = false then (3, n) else if n.contains s then (5, n) else (0, n ++ [s])
def okV (v : Vt) : Bool := decide v.x.A8 && decide v.y.A8 && j4 v.x && j4 v.y
def okF (f : Fr) : Bool := okV ⟨f.x, f.y⟩ && decide f.t.A8 && j4 f.t && !a1Q f.half f.t
def K8 (l : List Vt) : Int := if U2 l 8 ≠ 0 then U2 l 8 else if l.all okV then 0 else 1
def a0j (n : Nms) (a : Am) : Int × Nms := if J8 a ≠ 0 then (J8 a, n) else J5 n a.name
def a0a (n : Nms) (p : Pt) : Int × Nms :=
 if (J5 n p.name).1 ≠ 0 then J5 n p.name else
 if K8 p.shape ≠ 0 then (K8 p.shape, (J5 n p.name).2) else
 (if okF p.grasp then 0 else 1, (J5 n p.name).2)
def Z5 (n : Nms) (s : Sl) : Int × Nms :=
 if (J5 n s.name).1 ≠ 0 then J5 n s.name else
 (if okF s.frame && decide s.within.A8 && j4 s.within && decide (0 < y8 (Nm.d9 s.within)) then 0 else 1, (J5 n s.name).2)
def Z6 (n : Nms) (g : Gt) : Int × Nms :=
 if (J5 n g.name).1 ≠ 0 then J5 n g.name else
 (if okV g.low && okV g.high && decide (Nm.q8 (Nm.d9 g.low.x) (Nm.d9 g.high.x) <= 0) && decide (Nm.q8 (Nm.d9 g.low.y) (Nm.d9 g.high.y) <= 0) then 0 else 1, (J5 n g.name).2)
def a9Q (a : Nm.Rt) : Int := if decide a.A8 && j4 a && decide (0 <= y8 (Nm.d9 a)) then 0 else 1
def a4E (w : Wk) : List Int :=
 let a := C9 a0j [] w.arms
 let p := C9 a0a a.2 w.parts
 let s := C9 Z5 p.2 w.slots
 let g := C9 Z6 s.2 w.gates
 [a.1, D8 K8 w.walls, p.1, s.1, g.1]
def X3 (w : Wk) : Int :=
 if 4 < w.arms.length \/ 10 < w.walls.length \/ 6 < w.parts.length \/ 8 < w.slots.length \/ 4 < w.gates.length then 2 else
 if w.arms.length = 0 then 4 else
 if D8 id (a4E w) ≠ 0 then D8 id (a4E w) else a9Q w.walk
def nmE (n : Nms) : List (Value × Value) := n.map fun s => (.string (bs s), .bool true)
theorem b9c (n : Nms) (s : List UInt8) : a0K (.string (bs s)) (nmE n) = if n.contains s then some (.bool true) else none := by
 induction n with
 | nil => rfl
 | cons a n ih =>
  simp only [nmE, c1J, a0K, a0N]
  simp only [nmE] at ih
  rw [ih]
  by_cases h : s = a
  ·subst h; simp
  ·have h1 : ¬ bs s = bs a := fun e => h (b0T e)
   have h2 : (s == a) = false := by simpa using h
   rw [List.contains_cons]
   simp only [h2, Bool.false_or, decide_eq_false h1, c2a, if_false]
theorem b9P (n : Nms) (s : List UInt8) (h : n.contains s = false) : a0H (.string (bs s)) (.bool true) (nmE n) = nmE (n ++ [s]) := by
 induction n with
 | nil => rfl
 | cons a n ih =>
  rw [List.contains_cons, c1H] at h
  have h1 : ¬ bs s = bs a := fun e => by have := b0T e; subst this; simp at h
  have h3 := ih h.2
  simp only [nmE, c1J, List.cons_append, a0H, a0N, decide_eq_false h1, c2a, if_false] at h3 ⊢
  rw [h3]
def a8q (f : Fr) (c : Vt) : Rat := Nm.d9 f.x + (Nm.d9 c.x * R4 f.half (w9 f.half f.t) - Nm.d9 c.y * R3 (w9 f.half f.t))
def a8A (f : Fr) (c : Vt) : Rat := Nm.d9 f.y + (Nm.d9 c.x * R3 (w9 f.half f.t) + Nm.d9 c.y * R4 f.half (w9 f.half f.t))
theorem c0x (f : Fr) (c : Vt) (hx : Rb 4294967296 f.x) (hy : Rb 4294967296 f.y) (ht : Rb 268435456 f.t) (ha : Rb 268435456 c.x) (hb : Rb 268435456 c.y) :
  FZ 73 [f.c, c.c] (vq (a8q f c) (a8A f c)) := by
 refine kW Tryz.func73 (by cbv) (by rfl) fun w O hw => ?_
 obtain ⟨x, y, h, t⟩ := f
 obtain ⟨a, b⟩ := c
 simp only at hx hy ht ha hb
 have k1 := b2N a b t h ha hb ht
 have ft := U5 (h := h) ht (by decide)
 have rc1 := a7Z h ft
 have rs1 := a7L ft
 have fa := ha.fit (by decide)
 have fb := hb.fit (by decide)
 have k2 := b5u x y (Nm.ofQ (Nm.d9 a * R4 h (w9 h t) - Nm.d9 b * R3 (w9 h t))) (Nm.ofQ (Nm.d9 a * R3 (w9 h t) + Nm.d9 b * R4 h (w9 h t))) (hx.mono (by decide)) (hy.mono (by decide)) ((P7 (I9 fa rc1) (I9 fb rs1)).mono (by decide)) ((Q8 (I9 fa rs1) (I9 fb rc1)).mono (by decide))
 simp only [Nm.G9] at k2
 unfold a8q a8A
 simp only
 unfold vq at *
 generalize Nm.ofQ (Nm.d9 x + (Nm.d9 a * R4 h (w9 h t) - Nm.d9 b * R3 (w9 h t))) = r1 at *
 generalize Nm.ofQ (Nm.d9 y + (Nm.d9 a * R3 (w9 h t) + Nm.d9 b * R4 h (w9 h t))) = r2 at *
 generalize Nm.ofQ (Nm.d9 a * R4 h (w9 h t) - Nm.d9 b * R3 (w9 h t)) = p1 at *
 generalize Nm.ofQ (Nm.d9 a * R3 (w9 h t) + Nm.d9 b * R4 h (w9 h t)) = p2 at *
 simp only [j6]
 simp only [Fr.c, Fr.enc, Vt.c, Vt.enc, vc, tc, sb] at *
 (repeat first | refine uA ?_ | (refine uK ?_ ?_; focus first | omega | (intros; simp_all <;> omega)) | simp (disch := omega) only [go_sem, Nat.reduceBEq, Nat.reduceAdd, ww] | (refine uD k1 ?_ ?_ ?_; exact tz hw; exact rfl) | (refine uD k2 ?_ ?_ ?_; exact tz hw; exact rfl))
 (refine S.done ?_; simp only [p9, l7, go_sem, Nat.reduceBEq, Nat.reduceAdd, Nat.reduceLeDiff, Int.reduceToNat, Int.reducePow]; (repeat (refine ⟨?_, ?_⟩; focus first | trivial | omega | simp)); exact j3.out rfl (Imp.refl rfl) rfl)
theorem b8s (h : Bool) (a : Nm.Rt) (ha : Rb 4294967296 a) : FZ 237 [tc h a] (tq h (- w9 h a)) := by
 refine kW Tryz.func237 (by cbv) (by rfl) fun w O hw => ?_
 have hf := a6a h a (ha.mono (by decide))
 have hk : Rb 4294967296 (Nm.ofQ (w9 h a)) := U5 ha (by decide)
 generalize w9 h a = t at *
 have hn := b0d (Nm.ofQ t) (hk.mono (by decide))
 rw [Nm.G9] at hn
 unfold tq rq at *
 generalize Nm.ofQ t = rt at *
 generalize Nm.ofQ (-t) = rn at *
 simp only [j6]
 simp only [rc, tc, sb, ints] at *
 (repeat first | refine uA ?_ | (refine uK ?_ ?_; focus first | omega | (intros; simp_all <;> omega)) | simp (disch := omega) only [go_sem, Nat.reduceBEq, Nat.reduceAdd, ww] | (refine uD hf ?_ ?_ ?_; exact tz hw; exact rfl) | (refine uD hn ?_ ?_ ?_; exact tz hw; exact rfl))
 (refine S.done ?_; simp only [p9, l7, go_sem, Nat.reduceBEq, Nat.reduceAdd, Nat.reduceLeDiff, Int.reduceToNat, Int.reducePow]; (repeat (refine ⟨?_, ?_⟩; focus first | trivial | omega | simp)); exact j3.out rfl (Imp.refl rfl) rfl)
theorem b4f (h : Bool) (a : Nm.Rt) (ha : Rb 4294967296 a) : FZ 253 [tc h a] (if Nm.d9 a = 0 then tq true 0 else tq false (-1 / Nm.d9 a)) := by
 refine kW Tryz.func253 (by cbv) (by rfl) fun w O hw => ?_
 have hm1 := a3R (-1) (by decide) (by decide)
 rw [show ((-1 : Int) : Rat) = -1 from rfl] at hm1
 have kb : Rb 8 (Nm.ofQ (-1)) := ⟨Nm.G5 (by decide), Nm.G5 (by decide)⟩
 have hd := b4t (Nm.ofQ (-1)) a (kb.mono (by decide)) (ha.mono (by decide))
 rw [Nm.G9] at hd
 have hk := ha.fit (by decide)
 have hh := a9Z
 by_cases h0 : Nm.d9 a = 0
 ·rw [if_pos h0]
  have e1 : a0I (-1) (Nm.d9 a) = ⟨false, [], []⟩ := by unfold a0I; rw [if_pos h0]
  have e2 : a1N (Nm.d9 a) = 12 := by unfold a1N; rw [if_pos h0]
  rw [e1, e2] at hd
  unfold rq tq at *
  generalize Nm.ofQ (-1) = r1 at *
  generalize Nm.ofQ 0 = r0 at *
  simp only [j6]
  simp only [rc, tc, sb, ints] at *
  (repeat first | refine uA ?_ | (refine uK ?_ ?_; focus first | omega | (intros; simp_all <;> omega)) | simp (disch := omega) only [go_sem, Nat.reduceBEq, Nat.reduceAdd, ww] | (refine uD hm1 ?_ ?_ ?_; exact tz hw; exact rfl) | (refine uD hd ?_ ?_ ?_; exact tz hw; exact rfl))
  refine S.cond rfl (fun _ => ?_) (fun hc => by simp at hc)
  (repeat first | refine uA ?_ | (refine uK ?_ ?_; focus first | omega | (intros; simp_all <;> omega)) | simp (disch := omega) only [go_sem, Nat.reduceBEq, Nat.reduceAdd, ww] | (refine uD hh ?_ ?_ ?_; exact tz hw; exact rfl))
  (refine S.done ?_; simp only [p9, l7, go_sem, Nat.reduceBEq, Nat.reduceAdd, Nat.reduceLeDiff, Int.reduceToNat, Int.reducePow]; (repeat (refine ⟨?_, ?_⟩; focus first | trivial | omega | simp)); exact j3.out rfl (Imp.refl rfl) rfl)
 ·rw [if_neg h0]
  have e1 : a0I (-1) (Nm.d9 a) = Nm.ofQ (-1 / Nm.d9 a) := by unfold a0I; rw [if_neg h0]
  have e2 : a1N (Nm.d9 a) = 0 := by unfold a1N; rw [if_neg h0]
  rw [e1, e2] at hd
  have hof := a5s (Nm.ofQ (-1 / Nm.d9 a)) ((a3H h0 kb hk).mono (by decide))
  rw [Nm.G9] at hof
  unfold rq tq at *
  generalize Nm.ofQ (-1) = r1 at *
  generalize Nm.ofQ (-1 / Nm.d9 a) = r2 at *
  simp only [j6]
  simp only [rc, tc, sb, ints] at *
  (repeat first | refine uA ?_ | (refine uK ?_ ?_; focus first | omega | (intros; simp_all <;> omega)) | simp (disch := omega) only [go_sem, Nat.reduceBEq, Nat.reduceAdd, ww] | (refine uD hm1 ?_ ?_ ?_; exact tz hw; exact rfl) | (refine uD hd ?_ ?_ ?_; exact tz hw; exact rfl))
  refine S.cond rfl (fun hc => by simp at hc) (fun _ => ?_)
  (repeat first | refine uA ?_ | (refine uK ?_ ?_; focus first | omega | (intros; simp_all <;> omega)) | simp (disch := omega) only [go_sem, Nat.reduceBEq, Nat.reduceAdd, ww] | (refine uD hof ?_ ?_ ?_; exact tz hw; exact rfl))
  (refine S.done ?_; simp only [p9, l7, go_sem, Nat.reduceBEq, Nat.reduceAdd, Nat.reduceLeDiff, Int.reduceToNat, Int.reducePow]; (repeat (refine ⟨?_, ?_⟩; focus first | trivial | omega | simp)); exact j3.out rfl (Imp.refl rfl) rfl)
def a1K (h1 : Bool) (t1 : Rat) (h2 : Bool) (t2 : Rat) : Bool × Rat :=
 if h1 && h2 then (false, 0) else if h1 then (if t2 = 0 then (true, 0) else (false, -1 / t2)) else if h2 then (if t1 = 0 then (true, 0) else (false, -1 / t1)) else if 1 - t1 * t2 = 0 then (true, 0) else (false, (t1 + t2) / (1 - t1 * t2))
theorem b8r (h1 : Bool) (a : Nm.Rt) (h2 : Bool) (b : Nm.Rt) (ha : Rb 1073741824 a) (hb : Rb 1073741824 b) :
  FZ 236 [tc h1 a, tc h2 b] (tq (a1K h1 (w9 h1 a) h2 (w9 h2 b)).1 (a1K h1 (w9 h1 a) h2 (w9 h2 b)).2) := by
 refine kW Tryz.func236 (by cbv) (by rfl) fun w O hw => ?_
 have hf := a6a h1 a (ha.mono (by decide))
 have hg := a6a h2 b (hb.mono (by decide))
 have hk : Rb 1073741824 (Nm.ofQ (w9 h1 a)) := U5 ha (by decide)
 have hl : Rb 1073741824 (Nm.ofQ (w9 h2 b)) := U5 hb (by decide)
 have ho0 := a3R 0 (by decide) (by decide)
 have ho1 := a3R 1 (by decide) (by decide)
 rw [show ((0 : Int) : Rat) = 0 from rfl] at ho0
 rw [show ((1 : Int) : Rat) = 1 from rfl] at ho1
 have hz := a5s (Nm.ofQ 0) (by rw [Nm.a2n]; exact ⟨by decide, by decide⟩)
 rw [Nm.G9] at hz
 have hh := a9Z
 generalize w9 h1 a = s at *
 generalize w9 h2 b = t at *
 have o1 := b4f false (Nm.ofQ s) (hk.mono (by decide))
 have o2 := b4f false (Nm.ofQ t) (hl.mono (by decide))
 rw [Nm.G9] at o1 o2
 have kst := I9 hk hl
 have m1 := a7K s t (hk.mono (by decide)) (hl.mono (by decide))
 have m2 := a9R s t (hk.mono (by decide)) (hl.mono (by decide))
 have m3 := b3R 1 (s * t) (Y8.mono (by decide)) (kst.mono (by decide))
 have m4 := b3j (s + t) (1 - s * t) ((Q8 hk hl).mono (by decide)) ((P7 Y8 kst).mono (by decide))
 cases h1 <;> cases h2
 ·simp only [a1K, Bool.and_false, c2a, if_false]
  clear o1 o2 hz
  by_cases h0 : 1 - s * t = 0
  ·rw [if_pos h0]
   rw [show a0I (s + t) (1 - s * t) = ⟨false, [], []⟩ by unfold a0I; rw [if_pos h0], show a1N (1 - s * t) = 12 by unfold a1N; rw [if_pos h0]] at m4
   unfold rq tq at *
   simp only [j6]
   generalize Nm.ofQ s = r0 at *
   generalize Nm.ofQ t = r1 at *
   generalize Nm.ofQ (s * t) = r2 at *
   generalize Nm.ofQ (s + t) = r3 at *
   generalize Nm.ofQ (1 - s * t) = r4 at *
   generalize Nm.ofQ 0 = r5 at *
   generalize Nm.ofQ 1 = r6 at *
   simp only [rc, tc, sb, ints] at *
   (repeat first | refine uA ?_ | (refine uK ?_ ?_; focus first | omega | (intros; simp_all <;> omega)) | simp (disch := omega) only [go_sem, Nat.reduceBEq, Nat.reduceAdd, ww] | (refine uD hf ?_ ?_ ?_; exact tz hw; exact rfl) | (refine uD hg ?_ ?_ ?_; exact tz hw; exact rfl))
   refine S.cond rfl (fun hc => by simp at hc) (fun _ => ?_)
   (repeat first | refine uA ?_ | (refine uK ?_ ?_; focus first | omega | (intros; simp_all <;> omega)) | simp (disch := omega) only [go_sem, Nat.reduceBEq, Nat.reduceAdd, ww])
   refine S.cond rfl (fun hc => by simp at hc) (fun _ => ?_)
   (repeat first | refine uA ?_ | (refine uK ?_ ?_; focus first | omega | (intros; simp_all <;> omega)) | simp (disch := omega) only [go_sem, Nat.reduceBEq, Nat.reduceAdd, ww])
   refine S.cond rfl (fun hc => by simp at hc) (fun _ => ?_)
   (repeat first | refine uA ?_ | (refine uK ?_ ?_; focus first | omega | (intros; simp_all <;> omega)) | simp (disch := omega) only [go_sem, Nat.reduceBEq, Nat.reduceAdd, ww] | (refine uD m1 ?_ ?_ ?_; exact tz hw; exact rfl) | (refine uD m2 ?_ ?_ ?_; exact tz hw; exact rfl) | (refine uD m3 ?_ ?_ ?_; exact tz hw; exact rfl) | (refine uD m4 ?_ ?_ ?_; exact tz hw; exact rfl) | (refine uD ho1 ?_ ?_ ?_; exact tz hw; exact rfl))
   refine S.cond rfl (fun _ => ?_) (fun hc => by simp at hc)
   (repeat first | refine uA ?_ | (refine uK ?_ ?_; focus first | omega | (intros; simp_all <;> omega)) | simp (disch := omega) only [go_sem, Nat.reduceBEq, Nat.reduceAdd, ww] | (refine uD hh ?_ ?_ ?_; exact tz hw; exact rfl))
   (refine S.done ?_; simp only [p9, l7, go_sem, Nat.reduceBEq, Nat.reduceAdd, Nat.reduceLeDiff, Int.reduceToNat, Int.reducePow]; (repeat (refine ⟨?_, ?_⟩; focus first | trivial | omega | simp)); exact j3.out rfl (Imp.refl rfl) rfl)
  ·rw [if_neg h0]
   rw [show a0I (s + t) (1 - s * t) = Nm.ofQ ((s + t) / (1 - s * t)) by unfold a0I; rw [if_neg h0], show a1N (1 - s * t) = 0 by unfold a1N; rw [if_neg h0]] at m4
   have hq := a5s (Nm.ofQ ((s + t) / (1 - s * t))) ((a3H h0 (Q8 hk hl) (P7 Y8 kst)).mono (by decide))
   rw [Nm.G9] at hq
   unfold rq tq at *
   simp only [j6]
   generalize Nm.ofQ s = r0 at *
   generalize Nm.ofQ t = r1 at *
   generalize Nm.ofQ (s * t) = r2 at *
   generalize Nm.ofQ (s + t) = r3 at *
   generalize Nm.ofQ (1 - s * t) = r4 at *
   generalize Nm.ofQ ((s + t) / (1 - s * t)) = r5 at *
   generalize Nm.ofQ 0 = r6 at *
   generalize Nm.ofQ 1 = r7 at *
   simp only [rc, tc, sb, ints] at *
   (repeat first | refine uA ?_ | (refine uK ?_ ?_; focus first | omega | (intros; simp_all <;> omega)) | simp (disch := omega) only [go_sem, Nat.reduceBEq, Nat.reduceAdd, ww] | (refine uD hf ?_ ?_ ?_; exact tz hw; exact rfl) | (refine uD hg ?_ ?_ ?_; exact tz hw; exact rfl))
   refine S.cond rfl (fun hc => by simp at hc) (fun _ => ?_)
   (repeat first | refine uA ?_ | (refine uK ?_ ?_; focus first | omega | (intros; simp_all <;> omega)) | simp (disch := omega) only [go_sem, Nat.reduceBEq, Nat.reduceAdd, ww])
   refine S.cond rfl (fun hc => by simp at hc) (fun _ => ?_)
   (repeat first | refine uA ?_ | (refine uK ?_ ?_; focus first | omega | (intros; simp_all <;> omega)) | simp (disch := omega) only [go_sem, Nat.reduceBEq, Nat.reduceAdd, ww])
   refine S.cond rfl (fun hc => by simp at hc) (fun _ => ?_)
   (repeat first | refine uA ?_ | (refine uK ?_ ?_; focus first | omega | (intros; simp_all <;> omega)) | simp (disch := omega) only [go_sem, Nat.reduceBEq, Nat.reduceAdd, ww] | (refine uD m1 ?_ ?_ ?_; exact tz hw; exact rfl) | (refine uD m2 ?_ ?_ ?_; exact tz hw; exact rfl) | (refine uD m3 ?_ ?_ ?_; exact tz hw; exact rfl) | (refine uD m4 ?_ ?_ ?_; exact tz hw; exact rfl) | (refine uD ho1 ?_ ?_ ?_; exact tz hw; exact rfl))
   refine S.cond rfl (fun hc => by simp at hc) (fun _ => ?_)
   (repeat first | refine uA ?_ | (refine uK ?_ ?_; focus first | omega | (intros; simp_all <;> omega)) | simp (disch := omega) only [go_sem, Nat.reduceBEq, Nat.reduceAdd, ww] | (refine uD hq ?_ ?_ ?_; exact tz hw; exact rfl))
   (refine S.done ?_; simp only [p9, l7, go_sem, Nat.reduceBEq, Nat.reduceAdd, Nat.reduceLeDiff, Int.reduceToNat, Int.reducePow]; (repeat (refine ⟨?_, ?_⟩; focus first | trivial | omega | simp)); exact j3.out rfl (Imp.refl rfl) rfl)
 ·simp only [a1K, Bool.and_false, Bool.and_true, c2a, if_false, if_true]
  by_cases h0 : s = 0
  ·rw [if_pos h0] at o1 ⊢
   unfold rq tq at *
   simp only [j6]
   generalize Nm.ofQ s = r0 at *
   generalize Nm.ofQ t = r1 at *
   generalize Nm.ofQ (s * t) = r2 at *
   generalize Nm.ofQ (s + t) = r3 at *
   generalize Nm.ofQ (1 - s * t) = r4 at *
   generalize Nm.ofQ 0 = r5 at *
   generalize Nm.ofQ 1 = r6 at *
   simp only [rc, tc, sb, ints] at *
   (repeat first | refine uA ?_ | (refine uK ?_ ?_; focus first | omega | (intros; simp_all <;> omega)) | simp (disch := omega) only [go_sem, Nat.reduceBEq, Nat.reduceAdd, ww] | (refine uD hf ?_ ?_ ?_; exact tz hw; exact rfl) | (refine uD hg ?_ ?_ ?_; exact tz hw; exact rfl))
   refine S.cond rfl (fun hc => by simp at hc) (fun _ => ?_)
   (repeat first | refine uA ?_ | (refine uK ?_ ?_; focus first | omega | (intros; simp_all <;> omega)) | simp (disch := omega) only [go_sem, Nat.reduceBEq, Nat.reduceAdd, ww])
   refine S.cond rfl (fun hc => by simp at hc) (fun _ => ?_)
   (repeat first | refine uA ?_ | (refine uK ?_ ?_; focus first | omega | (intros; simp_all <;> omega)) | simp (disch := omega) only [go_sem, Nat.reduceBEq, Nat.reduceAdd, ww])
   refine S.cond rfl (fun _ => ?_) (fun hc => by simp at hc)
   (repeat first | refine uA ?_ | (refine uK ?_ ?_; focus first | omega | (intros; simp_all <;> omega)) | simp (disch := omega) only [go_sem, Nat.reduceBEq, Nat.reduceAdd, ww] | (refine uD o1 ?_ ?_ ?_; exact tz hw; exact rfl))
   (refine S.done ?_; simp only [p9, l7, go_sem, Nat.reduceBEq, Nat.reduceAdd, Nat.reduceLeDiff, Int.reduceToNat, Int.reducePow]; (repeat (refine ⟨?_, ?_⟩; focus first | trivial | omega | simp)); exact j3.out rfl (Imp.refl rfl) rfl)
  ·rw [if_neg h0] at o1 ⊢
   unfold rq tq at *
   simp only [j6]
   generalize Nm.ofQ s = r0 at *
   generalize Nm.ofQ t = r1 at *
   generalize Nm.ofQ (s * t) = r2 at *
   generalize Nm.ofQ (s + t) = r3 at *
   generalize Nm.ofQ (1 - s * t) = r4 at *
   generalize Nm.ofQ (-1 / s) = r5 at *
   generalize Nm.ofQ 0 = r6 at *
   generalize Nm.ofQ 1 = r7 at *
   simp only [rc, tc, sb, ints] at *
   (repeat first | refine uA ?_ | (refine uK ?_ ?_; focus first | omega | (intros; simp_all <;> omega)) | simp (disch := omega) only [go_sem, Nat.reduceBEq, Nat.reduceAdd, ww] | (refine uD hf ?_ ?_ ?_; exact tz hw; exact rfl) | (refine uD hg ?_ ?_ ?_; exact tz hw; exact rfl))
   refine S.cond rfl (fun hc => by simp at hc) (fun _ => ?_)
   (repeat first | refine uA ?_ | (refine uK ?_ ?_; focus first | omega | (intros; simp_all <;> omega)) | simp (disch := omega) only [go_sem, Nat.reduceBEq, Nat.reduceAdd, ww])
   refine S.cond rfl (fun hc => by simp at hc) (fun _ => ?_)
   (repeat first | refine uA ?_ | (refine uK ?_ ?_; focus first | omega | (intros; simp_all <;> omega)) | simp (disch := omega) only [go_sem, Nat.reduceBEq, Nat.reduceAdd, ww])
   refine S.cond rfl (fun _ => ?_) (fun hc => by simp at hc)
   (repeat first | refine uA ?_ | (refine uK ?_ ?_; focus first | omega | (intros; simp_all <;> omega)) | simp (disch := omega) only [go_sem, Nat.reduceBEq, Nat.reduceAdd, ww] | (refine uD o1 ?_ ?_ ?_; exact tz hw; exact rfl))
   (refine S.done ?_; simp only [p9, l7, go_sem, Nat.reduceBEq, Nat.reduceAdd, Nat.reduceLeDiff, Int.reduceToNat, Int.reducePow]; (repeat (refine ⟨?_, ?_⟩; focus first | trivial | omega | simp)); exact j3.out rfl (Imp.refl rfl) rfl)
 ·simp only [a1K, Bool.and_false, Bool.and_true, c2a, if_false, if_true]
  by_cases h0 : t = 0
  ·rw [if_pos h0] at o2 ⊢
   unfold rq tq at *
   simp only [j6]
   generalize Nm.ofQ s = r0 at *
   generalize Nm.ofQ t = r1 at *
   generalize Nm.ofQ (s * t) = r2 at *
   generalize Nm.ofQ (s + t) = r3 at *
   generalize Nm.ofQ (1 - s * t) = r4 at *
   generalize Nm.ofQ 0 = r5 at *
   generalize Nm.ofQ 1 = r6 at *
   simp only [rc, tc, sb, ints] at *
   (repeat first | refine uA ?_ | (refine uK ?_ ?_; focus first | omega | (intros; simp_all <;> omega)) | simp (disch := omega) only [go_sem, Nat.reduceBEq, Nat.reduceAdd, ww] | (refine uD hf ?_ ?_ ?_; exact tz hw; exact rfl) | (refine uD hg ?_ ?_ ?_; exact tz hw; exact rfl))
   refine S.cond rfl (fun hc => by simp at hc) (fun _ => ?_)
   (repeat first | refine uA ?_ | (refine uK ?_ ?_; focus first | omega | (intros; simp_all <;> omega)) | simp (disch := omega) only [go_sem, Nat.reduceBEq, Nat.reduceAdd, ww])
   refine S.cond rfl (fun _ => ?_) (fun hc => by simp at hc)
   (repeat first | refine uA ?_ | (refine uK ?_ ?_; focus first | omega | (intros; simp_all <;> omega)) | simp (disch := omega) only [go_sem, Nat.reduceBEq, Nat.reduceAdd, ww] | (refine uD o2 ?_ ?_ ?_; exact tz hw; exact rfl))
   (refine S.done ?_; simp only [p9, l7, go_sem, Nat.reduceBEq, Nat.reduceAdd, Nat.reduceLeDiff, Int.reduceToNat, Int.reducePow]; (repeat (refine ⟨?_, ?_⟩; focus first | trivial | omega | simp)); exact j3.out rfl (Imp.refl rfl) rfl)
  ·rw [if_neg h0] at o2 ⊢
   unfold rq tq at *
   simp only [j6]
   generalize Nm.ofQ s = r0 at *
   generalize Nm.ofQ t = r1 at *
   generalize Nm.ofQ (s * t) = r2 at *
   generalize Nm.ofQ (s + t) = r3 at *
   generalize Nm.ofQ (1 - s * t) = r4 at *
   generalize Nm.ofQ (-1 / t) = r5 at *
   generalize Nm.ofQ 0 = r6 at *
   generalize Nm.ofQ 1 = r7 at *
   simp only [rc, tc, sb, ints] at *
   (repeat first | refine uA ?_ | (refine uK ?_ ?_; focus first | omega | (intros; simp_all <;> omega)) | simp (disch := omega) only [go_sem, Nat.reduceBEq, Nat.reduceAdd, ww] | (refine uD hf ?_ ?_ ?_; exact tz hw; exact rfl) | (refine uD hg ?_ ?_ ?_; exact tz hw; exact rfl))
   refine S.cond rfl (fun hc => by simp at hc) (fun _ => ?_)
   (repeat first | refine uA ?_ | (refine uK ?_ ?_; focus first | omega | (intros; simp_all <;> omega)) | simp (disch := omega) only [go_sem, Nat.reduceBEq, Nat.reduceAdd, ww])
   refine S.cond rfl (fun _ => ?_) (fun hc => by simp at hc)
   (repeat first | refine uA ?_ | (refine uK ?_ ?_; focus first | omega | (intros; simp_all <;> omega)) | simp (disch := omega) only [go_sem, Nat.reduceBEq, Nat.reduceAdd, ww] | (refine uD o2 ?_ ?_ ?_; exact tz hw; exact rfl))
   (refine S.done ?_; simp only [p9, l7, go_sem, Nat.reduceBEq, Nat.reduceAdd, Nat.reduceLeDiff, Int.reduceToNat, Int.reducePow]; (repeat (refine ⟨?_, ?_⟩; focus first | trivial | omega | simp)); exact j3.out rfl (Imp.refl rfl) rfl)
 ·simp only [a1K, Bool.and_true, if_true]
  unfold rq tq at *
  simp only [j6]
  generalize Nm.ofQ s = r0 at *
  generalize Nm.ofQ t = r1 at *
  generalize Nm.ofQ (s * t) = r2 at *
  generalize Nm.ofQ (s + t) = r3 at *
  generalize Nm.ofQ (1 - s * t) = r4 at *
  generalize Nm.ofQ 0 = r5 at *
  generalize Nm.ofQ 1 = r6 at *
  simp only [rc, tc, sb, ints] at *
  (repeat first | refine uA ?_ | (refine uK ?_ ?_; focus first | omega | (intros; simp_all <;> omega)) | simp (disch := omega) only [go_sem, Nat.reduceBEq, Nat.reduceAdd, ww] | (refine uD hf ?_ ?_ ?_; exact tz hw; exact rfl) | (refine uD hg ?_ ?_ ?_; exact tz hw; exact rfl))
  refine S.cond rfl (fun _ => ?_) (fun hc => by simp at hc)
  (repeat first | refine uA ?_ | (refine uK ?_ ?_; focus first | omega | (intros; simp_all <;> omega)) | simp (disch := omega) only [go_sem, Nat.reduceBEq, Nat.reduceAdd, ww] | (refine uD ho0 ?_ ?_ ?_; exact tz hw; exact rfl) | (refine uD hz ?_ ?_ ?_; exact tz hw; exact rfl))
  (refine S.done ?_; simp only [p9, l7, go_sem, Nat.reduceBEq, Nat.reduceAdd, Nat.reduceLeDiff, Int.reduceToNat, Int.reducePow]; (repeat (refine ⟨?_, ?_⟩; focus first | trivial | omega | simp)); exact j3.out rfl (Imp.refl rfl) rfl)
structure Ast where
 q : List Nm.Rt
 v : List Nm.Rt
 power : Bool
 holds : Int
structure Stt where
 tick : Int
 arms : List Ast
 parts : List Fr
 people : List Vt
 gates : List Bool
def rts (l : List Nm.Rt) : C := .sl 3 (l.map rcs)
def Ast.enc (x : Ast) : List C := [rts x.q, rts x.v, .v (.bool x.power), ints x.holds]
def Ast.c (x : Ast) : C := .agg x.enc
def F5 (l : List Ast) : C := .sl 4 (l.map Ast.enc)
def frs (l : List Fr) : C := .sl 10 (l.map Fr.enc)
def bls (l : List Bool) : C := .sl 1 (l.map fun b => [.v (.bool b)])
def Stt.enc (s : Stt) : List C := [ints s.tick, F5 s.arms, frs s.parts, vts s.people, bls s.gates]
def Stt.c (s : Stt) : C := .agg s.enc
def Rbs (k : Nat) (l : List Nm.Rt) : Prop := l.length <= k /\ ∀ a ∈ l, Rb k a
def Asb (k : Nat) (x : Ast) : Prop := Rbs k x.q /\ Rbs k x.v
structure Stb (k : Nat) (s : Stt) : Prop where
 arms : s.arms.length <= k /\ ∀ x ∈ s.arms, Asb k x
 parts : s.parts.length <= k /\ ∀ x ∈ s.parts, Fb k x
 people : Vbs k s.people
 gates : s.gates.length <= k
def J2 (q : Rat) : Rat := if q.num < 0 then -q else q
def U9 (x : Lk × Nm.Rt) : Int := if 0 < Nm.q8 (J2 (Nm.d9 x.2)) (Nm.d9 x.1.speed) then 1 else 0
def C8 (a : Nm.Rt) : Bool := decide a.A8
def a0W (a : Am) (x : Ast) (parts : Nat) : Int :=
 if (x.q.all C8 && x.v.all C8) = false then 3 else
 if a1c a x.q ≠ 0 then a1c a x.q else
 if x.v.length ≠ a.links.length \/ x.holds < -1 \/ (parts : Int) <= x.holds then 1 else
 D8 U9 (a.links.zip x.v)
def a1I (h : List Int) (n : Int) : List Int := if h.contains n then h else h ++ [n]
def hdE (h : List Int) : List (Value × Value) := h.map fun n => (.int .i64 n, .bool true)
def V6 (parts : Nat) (h : List Int) (x : Am × Ast) : Int × List Int :=
 if a0W x.1 x.2 parts ≠ 0 then (a0W x.1 x.2 parts, h) else
 if (decide (0 <= x.2.holds) && h.contains x.2.holds) = true then (10, h) else (0, a1I h x.2.holds)
def Y6 (f : Fr) : Bool := (C8 f.x && C8 f.y && C8 f.t) && !a1Q f.half f.t
def a1B (v : Vt) : Bool := C8 v.x && C8 v.y
def H8 (w : Wk) (s : Stt) : Int :=
 if X3 w ≠ 0 then X3 w else
 if 4 < s.people.length then 2 else
 if s.tick < 0 \/ 2000 < s.tick \/ s.arms.length ≠ w.arms.length \/ s.parts.length ≠ w.parts.length \/ s.gates.length ≠ w.gates.length then 1 else
 if (C9 (V6 w.parts.length) [] (w.arms.zip s.arms)).1 ≠ 0 then (C9 (V6 w.parts.length) [] (w.arms.zip s.arms)).1 else
 if s.parts.all Y6 && s.people.all a1B then 0 else 3
theorem b8Y (h : List Int) (n : Int) : a0K (.int .i64 n) (hdE h) = if h.contains n then some (.bool true) else none := by
 induction h with
 | nil => rfl
 | cons a h ih =>
  simp only [hdE, c1J, a0K, a0N]
  simp only [hdE] at ih
  rw [ih, List.contains_cons]
  by_cases e : n = a
  ·subst e; simp
  ·have e2 : (n == a) = false := by simpa using e
   simp only [e2, Bool.false_or, c2a, if_false]
theorem b9r (h : List Int) (n : Int) : a0H (.int .i64 n) (.bool true) (hdE h) = hdE (a1I h n) := by
 induction h with
 | nil => rfl
 | cons a h ih =>
  unfold a1I at ih ⊢
  rw [List.contains_cons]
  by_cases e : n = a
  ·subst e
   simp [hdE, a0H, a0N]
  ·have e2 : (n == a) = false := by simpa using e
   simp only [hdE, c1J, a0H, a0N, e2, Bool.false_or, c2a, if_false]
   simp only [hdE] at ih
   rw [ih]
   split <;> simp [hdE]
def a0r (l : Lk) : Nm.Rt := Nm.ofQ (a4h (Nm.d9 l.low) (a4M (Nm.d9 l.high) 0))
def a0n (a : Am) : Ast := ⟨a.links.map a0r, a.links.map fun _ => Nm.ofQ 0, false, -1⟩
def a2Z : Fr := ⟨Nm.ofQ 0, Nm.ofQ 0, false, Nm.ofQ 0⟩
def a5C (w : Wk) (i : Nat) : Fr := if h : i < w.slots.length then (w.slots[i]).frame else a2Z
def K4 (w : Wk) : Stt := ⟨0, w.arms.map a0n, (List.range w.parts.length).map (a5C w), [], List.replicate w.gates.length false⟩
def nx (l : List Int) (n : Int) : Int := l.headD 0 % n
abbrev Q (n d : Int) : Nm.Rt := Nm.ofQ (mkRat n d.toNat)
def atV (x y : Int) : Vt := ⟨Q x 4, Q y 4⟩
def a9K (x y u v : Int) : List Vt := [atV x y, atV u y, atV u v, atV x v]
def b7q (w h k s : Int) : List Vt :=
 if k = 0 then [atV (-w) (-h), atV w (-h), atV w h, atV (-w) h] else
 if k = 1 then [atV (-w) (-h), atV w (-h), atV (s - w) h] else
 if k = 2 then [atV (-w - 1) (-h - 1), atV w (-h - 1), atV (w + 1) (-h), atV (w + 1) h, atV (-w - 1) h] else
 [atV (-w) 0, atV 0 (-h), atV w 0, atV 0 h]
def c0r (l : List Int) : List Vt × List Int :=
 let w := 1 + nx l 6
 let h := 1 + nx (l.drop 1) 6
 let k := nx (l.drop 2) 4
 if k = 1 then (b7q w h k (nx (l.drop 3) (2 * w + 1)), l.drop 4) else (b7q w h k 0, l.drop 3)
def b7D (a lo hi sp br tri : Int) : Lk :=
 ⟨Q (4 + 2 * a) 4, Q (-1 - lo) 3, Q (1 + hi) 3, Q 1 (4 + sp), Q 1 (10 + br), if tri = 2 then [atV (-1) (-1), atV (4 + 2 * a + 1) 0, atV (-1) 1] else a9K (-1) (-1) (4 + 2 * a + 1) 1⟩
def b7v (l : List Int) : Lk := b7D (nx l 4) (nx (l.drop 1) 6) (nx (l.drop 2) 6) (nx (l.drop 3) 8) (nx (l.drop 4) 20) (nx (l.drop 5) 3)
def a4L : Nat -> List Int -> List Lk
 | 0, _ => []
 | n + 1, l => b7v l :: a4L n (l.drop 6)
def a5f (k : Int) : Int := if k = 0 then 0 else if k = 2 then -1 else 1
def b6H (n : Nat) : List UInt8 := [[111, 110, 101], [116, 119, 111], [116, 104, 114, 101, 101], [102, 111, 117, 114]].getD n []
def a5o (l : List Int) : Nat := (1 + nx (l.drop 2) 3).toNat
def b0F (l : List Int) (n : Nat) : Am := ⟨b6H n, ⟨Q (40 * n) 4, Q 0 4, false, Q (a5f (nx l 4)) (1 + nx (l.drop 1) 3)⟩, a4L (a5o l) (l.drop 3)⟩
def a7h (l : List Int) : List Int := l.drop (3 + 6 * a5o l)
def b7H : Nat -> List Int -> List Int
 | 0, l => l
 | k + 1, l => b7H k (a7h l)
def b5J : Nat -> List Int -> List Int
 | 0, l => l
 | k + 1, l => b5J k (c0r l).2
def nA (l : List Int) : Nat := (1 + nx l 2).toNat
def l1 (l : List Int) : List Int := b7H (nA l) (l.drop 1)
def nW (l : List Int) : Nat := (nx (l1 l) 3).toNat
def l2 (l : List Int) : List Int := (l1 l).drop (1 + 5 * nW l)
def nP (l : List Int) : Nat := (nx (l2 l) 3).toNat
def l3 (l : List Int) : List Int := b5J (nP l) ((l2 l).drop 1)
def nS (l : List Int) : Nat := nP l + (nx (l3 l) 2).toNat
def l4 (l : List Int) : List Int := (l3 l).drop (1 + 4 * nS l)
def nG (l : List Int) : Nat := (nx (l4 l) 2).toNat
def l5 (l : List Int) : List Int := (l4 l).drop (1 + 4 * nG l)
theorem Y5 (l : List Int) {n : Int} (h : 0 < n) : 0 <= nx l n := Int.emod_nonneg _ (by omega)
theorem a2X (l : List Int) {n : Int} (h : 0 < n) : nx l n < n := Int.emod_lt_of_pos _ h
set_option maxRecDepth 100000
theorem a5e {α : Type} {f : α -> Int} : ∀ {l : List α}, (∀ x ∈ l, f x = 0) -> D8 f l = 0
 | [], _ => rfl
 | x :: l, h => by rw [D8, if_pos (h x (by simp))]; exact a5e fun y hy => h y (by simp [hy])
set_option maxRecDepth 10000
theorem b5G {l : List Vt} {most i k : Nat} (h1 : ¬ most < l.length) (h2 : ¬ l.length < 3) (hi : i < l.length) (hk2 : 2 <= k) (hk : k < l.length) (h : ¬ 0 < a3u l i k) : U2 l most = 3 := by
 unfold U2
 rw [if_neg h1, if_neg h2, if_neg]
 intro ha
 rw [List.all_eq_true] at ha
 have h3 := ha i (List.mem_range.2 hi)
 rw [List.all_eq_true] at h3
 have h4 := h3 k (List.mem_range.2 hk)
 rw [c1Z, c1w, c1w] at h4
 omega
theorem b3S {l : List Vt} {most : Nat} (h1 : ¬ most < l.length) (h2 : ¬ l.length < 3) (h : ∀ i, i < l.length -> ∀ k, 2 <= k -> k < l.length -> 0 < a3u l i k) : U2 l most = 0 := by
 unfold U2
 rw [if_neg h1, if_neg h2, if_pos]
 rw [List.all_eq_true]
 intro i hi
 rw [List.all_eq_true]
 intro k hk
 rw [c1Z, c1w, c1w]
 rcases c1Q k 2 with h3 | h3
 ·exact .inl h3
 ·exact .inr (h i (List.mem_range.1 hi) k h3 (List.mem_range.1 hk))
theorem b5s {l : List Vt} {i k : Nat} {x y z : Vt} (hx : l[i]? = some x) (hy : l[(i + 1) % l.length]? = some y) (hz : l[(i + k) % l.length]? = some z) : a3u l i k = a9S x y z := by
 unfold a3u
 rw [c1G, c1G, c1G, hx, hy, hz]
 rfl
theorem b6A (i k n : Nat) : Int.tmod ((i : Int) + (k : Int)) (n : Int) = (((i + k) % n : Nat) : Int) := rfl
theorem tmod_one (i n : Nat) : Int.tmod ((i : Int) + 1) (n : Int) = (((i + 1) % n : Nat) : Int) := rfl
theorem b9O (v : Vt) : v.enc.length = 6 := rfl
theorem b6G (l : List Vt) (most : Nat) (hl : Vbs 1073741824 l) (hm : most <= 1000000) : FZ 232 [vts l, ints most] (ints (U2 l most)) := by
 refine kW Tryz.func232 (by cbv) (by rfl) fun w O hw => ?_
 obtain ⟨hn, hb⟩ := hl
 simp only [j6, ints, vts]
 (repeat first | refine uA ?_ | (refine uK ?_ ?_; focus first | omega | trivial | (intros; simp_all <;> omega)) | simp (disch := omega) only [go_sem, Nat.reduceBEq, Nat.reduceAdd, Nat.reduceLeDiff, Int.reduceToNat, Int.reducePow, ww, c1q])
 (refine uJ rfl (fun hc => ?_) fun hc => ?_)
 ·have he : U2 l most = 2 := by unfold U2; rw [if_pos (by omega)]
  rw [he]
  (repeat first | refine uA ?_ | (refine uK ?_ ?_; focus first | omega | trivial | (intros; simp_all <;> omega)) | simp (disch := omega) only [go_sem, Nat.reduceBEq, Nat.reduceAdd, Nat.reduceLeDiff, Int.reduceToNat, Int.reducePow, ww])
  exact S.done (j3.out rfl (Imp.refl rfl) rfl)
 have h1 : ¬ most < l.length := by omega
 (repeat first | refine uA ?_ | (refine uK ?_ ?_; focus first | omega | trivial | (intros; simp_all <;> omega)) | simp (disch := omega) only [go_sem, Nat.reduceBEq, Nat.reduceAdd, Nat.reduceLeDiff, Int.reduceToNat, Int.reducePow, ww, c1q])
 (refine uJ rfl (fun hc => ?_) fun hc => ?_)
 ·have he : U2 l most = 3 := by unfold U2; rw [if_neg h1, if_pos (by omega)]
  rw [he]
  (repeat first | refine uA ?_ | (refine uK ?_ ?_; focus first | omega | trivial | (intros; simp_all <;> omega)) | simp (disch := omega) only [go_sem, Nat.reduceBEq, Nat.reduceAdd, Nat.reduceLeDiff, Int.reduceToNat, Int.reducePow, ww])
  exact S.done (j3.out rfl (Imp.refl rfl) rfl)
 have h2 : ¬ l.length < 3 := by omega
 (repeat first | refine uA ?_ | (refine uK ?_ ?_; focus first | omega | trivial | (intros; simp_all <;> omega)) | simp (disch := omega) only [go_sem, Nat.reduceBEq, Nat.reduceAdd, Nat.reduceLeDiff, Int.reduceToNat, Int.reducePow, ww, c1q])
 refine S.loop (X := Nat) (fun i => ⟨[(0, vts l), (5, ints l.length), (18, vts l), (19, ints l.length), (20, ints i)], []⟩)
  (fun i => i <= l.length /\ ∀ j, j < i -> ∀ k, 2 <= k -> k < l.length -> 0 < a3u l j k) (fun i => l.length - i) 0 ⟨c1y _, fun _ h => absurd h (Nat.not_lt_zero _)⟩ (by (repeat first | refine uA ?_ | (refine ⟨?_, ?_⟩; focus first | rfl | trivial | (simp [slot]; done)) | rfl | trivial | simp)) ?_
 rintro i ⟨hi, hg⟩
 simp only [ints, vts] at hi ⊢
 (repeat first | refine uA ?_ | (refine uK ?_ ?_; focus first | omega | trivial | (intros; simp_all <;> omega)) | simp (disch := omega) only [go_sem, Nat.reduceBEq, Nat.reduceAdd, Nat.reduceLeDiff, Int.reduceToNat, Int.reducePow, ww])
 (refine uJ rfl (fun hc => ?_) fun hc => ?_)
 ·have hi' : i < l.length := by omega
  have hgi := c1p hi'
  generalize l[i] = x at hgi
  (repeat first | refine uA ?_ | (refine uK ?_ ?_; focus first | omega | trivial | (intros; simp_all <;> omega)) | simp (disch := omega) only [go_sem, Nat.reduceBEq, Nat.reduceAdd, Nat.reduceLeDiff, Int.reduceToNat, Int.reducePow, ww, hgi, c1r, c1q, b9O])
  refine S.loop (X := Nat) (fun k => ⟨[(0, vts l), (5, ints l.length), (6, ints i), (7, .bp 0 0), (8, ints k), (18, vts l), (19, ints l.length), (20, ints i)], [.box 51 x.enc]⟩)
   (fun k => 2 <= k /\ k <= l.length /\ ∀ k', 2 <= k' -> k' < k -> 0 < a3u l i k') (fun k => l.length - k) 2 ⟨c1A _, by omega, fun _ h h' => by omega⟩ (by (repeat first | refine uA ?_ | (refine ⟨?_, ?_⟩; focus first | rfl | trivial | (simp [slot]; done)) | rfl | trivial | simp)) ?_
  rintro k ⟨hk2, hk, hgk⟩
  simp only [ints, vts] at hk ⊢
  (repeat first | refine uA ?_ | (refine uK ?_ ?_; focus first | omega | trivial | (intros; simp_all <;> omega)) | simp (disch := omega) only [go_sem, Nat.reduceBEq, Nat.reduceAdd, Nat.reduceLeDiff, Int.reduceToNat, Int.reducePow, ww])
  (refine uJ rfl (fun hc => ?_) fun hc => ?_)
  ·have hk' : k < l.length := by omega
   have hy := c1p (show (i + 1) % l.length < l.length from Nat.mod_lt _ (by omega))
   have hz := c1p (show (i + k) % l.length < l.length from Nat.mod_lt _ (by omega))
   have hylt : (i + 1) % l.length < l.length := Nat.mod_lt _ (by omega)
   have hzlt : (i + k) % l.length < l.length := Nat.mod_lt _ (by omega)
   generalize l[(i + 1) % l.length]'_ = y at hy
   generalize l[(i + k) % l.length]'_ = z at hz
   have hla := b5s hgi hy hz
   have hcall := b9i x y z (hb x (c1t hgi)) (hb y (c1t hy)) (hb z (c1t hz))
   rw [<- hla] at hcall
   simp only [Vt.c, Vt.enc, sb, ints] at hcall
   (repeat first | refine uA ?_ | (refine uK ?_ ?_; focus first | omega | trivial | (intros; simp_all <;> omega)) | simp (disch := omega) only [go_sem, Nat.reduceBEq, Nat.reduceAdd, Nat.reduceLeDiff, Int.reduceToNat, Int.reducePow, ww, hy, hz, c1r, b6A, tmod_one, c1q, Vt.enc, sb, c1u] | (refine uD hcall ?_ ?_ ?_; exact tz hw; exact rfl))
   (refine uJ rfl (fun hc => ?_) fun hc => ?_)
   ·rw [b5G h1 h2 hi' hk2 hk' (by omega)]
    (repeat first | refine uA ?_ | (refine uK ?_ ?_; focus first | omega | trivial | (intros; simp_all <;> omega)) | simp (disch := omega) only [go_sem, Nat.reduceBEq, Nat.reduceAdd, Nat.reduceLeDiff, Int.reduceToNat, Int.reducePow, ww])
    exact S.done (j3.out rfl (Imp.refl rfl) rfl)
   ·(repeat first | refine uA ?_ | (refine uK ?_ ?_; focus first | omega | trivial | (intros; simp_all <;> omega)) | simp (disch := omega) only [go_sem, Nat.reduceBEq, Nat.reduceAdd, Nat.reduceLeDiff, Int.reduceToNat, Int.reducePow, ww])
    refine S.next (k + 1) ⟨by omega, by omega, fun k' hk1 hk3 => ?_⟩ (by omega) (by (repeat first | refine uA ?_ | (refine ⟨?_, ?_⟩; focus first | rfl | trivial | (simp [slot]; done)) | rfl | trivial | simp))
    rcases c1Q k' k with h | h
    ·exact hgk k' hk1 h
    ·have : k' = k := by omega
     subst this
     omega
  ·have hk' : k = l.length := by omega
   subst hk'
   (repeat first | refine uA ?_ | (refine uK ?_ ?_; focus first | omega | trivial | (intros; simp_all <;> omega)) | simp (disch := omega) only [go_sem, Nat.reduceBEq, Nat.reduceAdd, Nat.reduceLeDiff, Int.reduceToNat, Int.reducePow, ww])
   refine S.next (i + 1) ⟨by omega, fun j hj => ?_⟩ (by omega) (by (repeat first | refine uA ?_ | (refine ⟨?_, ?_⟩; focus first | rfl | trivial | (simp [slot]; done)) | rfl | trivial | simp))
   rcases c1Q j i with h | h
   ·exact hg j h
   ·have : j = i := by omega
    subst this
    exact hgk
 ·have hi' : i = l.length := by omega
  subst hi'
  rw [b3S h1 h2 hg]
  (repeat first | refine uA ?_ | (refine uK ?_ ?_; focus first | omega | trivial | (intros; simp_all <;> omega)) | simp (disch := omega) only [go_sem, Nat.reduceBEq, Nat.reduceAdd, Nat.reduceLeDiff, Int.reduceToNat, Int.reducePow, ww])
  exact S.done (j3.out rfl (Imp.refl rfl) rfl)
theorem a4i (l : List Vt) (hl : Vbs 1073741824 l) : FZ 201 [vts l] (ints (U2 l 8)) := by
 refine kW Tryz.func201 (by cbv) (by rfl) fun w O hw => ?_
 have h := b6G l 8 hl (by decide)
 simp only [j6]
 simp only [vts, ints] at *
 generalize U2 l 8 = e at *
 rw [show ((8 : Nat) : Int) = 8 from rfl] at h
 (repeat first | refine uA ?_ | (refine uK ?_ ?_; focus first | omega | trivial | (intros; simp_all <;> omega)) | simp (disch := omega) only [go_sem, Nat.reduceBEq, Nat.reduceAdd, Nat.reduceLeDiff, Int.reduceToNat, Int.reducePow, ww] | (refine uD h ?_ ?_ ?_; exact tz hw; exact rfl))
 exact S.done (j3.out rfl (Imp.refl rfl) rfl)
def a2l : a0G := ⟨89, [.tmp 2], .seq (.reg [OA 1 (.box 31 (TT 0)), OA 2 (.mv (II 0))]) (.seq (.seq (.reg [FF 7 0 1, VV 8 7, OA 9 (.len false (TT 8)), OA 10 (.bin .gtr (TT 9) (II 4)), MM 11 10, FG 12 1 1 11 false, VG 13 12 11 false, OC 14 (.len
 false (TT 13)) 11 false, OC 15 (.bin .gtr (TT 14) (II 10)) 11 false, OA 16 (.pick (TT 11) (.const (.bool true)) (TT 15)), MM 17 16, FG 18 2 1 17 false, VG 19 18 17 false, OC 20 (.len false (TT 19)) 17 false, OC 21 (.bin .gtr (TT
 20) (II 6)) 17 false, OA 22 (.pick (TT 17) (.const (.bool true)) (TT 21)), MM 23 22, FG 24 3 1 23 false, VG 25 24 23 false, OC 26 (.len false (TT 25)) 23 false, OC 27 (.bin .gtr (TT 26) (II 8)) 23 false, OA 28 (.pick (TT 23)
 (.const (.bool true)) (TT 27)), MM 29 28, FG 30 4 1 29 false, VG 31 30 29 false, OC 32 (.len false (TT 31)) 29 false, OC 33 (.bin .gtr (TT 32) (II 4)) 29 false, OA 34 (.pick (TT 29) (.const (.bool true)) (TT 33))]) (.cond (TT
 34) (.seq (.reg [OA 2 (.mv (II 2))]) .ret) .skip)) (.seq (.seq (.reg [FF 35 0 1, VV 36 35, OA 37 (.len false (TT 36)), OA 38 (.bin .eql (TT 37) (II 0))]) (.cond (TT 38) (.seq (.reg [OA 2 (.mv (II 4))]) .ret) .skip)) (.seq (.reg
 [OA 39 (.a2o true), OA 3 (.alloc 140 [.map none]), OB (.store 1 (TT 3) (TT 39))]) (.seq (.reg [OA 40 (.clo 86 [TT 3]), MM 4 40]) (.seq (.seq (.K3 [.q, .q, .q, .e none false, .l, .l, .q, .l, .l, .l, .l, .e none false, .l, .l,
 .l, .l, .e none false, .l, .l, .l, .l, .e none false, .q, .q, .l] [FF 41 0 1, VV 42 41, MM 43 4, OA 44 (.call 89 [TT 42, TT 43]), FF 45 1 1, VV 46 45, OA 47 (.call 90 [TT 46, .func 91]), FF 48 2 1, VV 49 48, VV 50 3, OA 51 (.bnd
 93 (TT 50)), OA 52 (.call 92 [TT 49, TT 51]), FF 53 3 1, VV 54 53, VV 55 3, OA 56 (.bnd 95 (TT 55)), OA 57 (.call 94 [TT 54, TT 56]), FF 58 4 1, VV 59 58, VV 60 3, OA 61 (.bnd 97 (TT 60)), OA 62 (.call 96 [TT 59, TT 61]), OA 63
 (.bsl 40 1 5 [.int .i64 0] [(0, TT 44), (1, TT 47), (2, TT 52), (3, TT 57), (4, TT 62)]), OA 64 (.len false (TT 63)), OA 65 (.mv (II 0))]) (.block 0 (.loop (.seq (.reg [OA 66 (.bin .lss (TT 65) (TT 64))]) (.seq (.cond (TT 66)
 .skip (.exit 0)) (.seq (.block 1 (.seq (.reg [OA 67 (.E8 1 (TT 63) (TT 65)), VV 68 67, MM 6 68]) (.seq (.reg [MM 69 6, OA 70 (.bin .neq (TT 69) (II 0))]) (.cond (TT 70) (.seq (.reg [MM 71 6, MM 2 71]) .ret) .skip)))) (.reg
 [OA 72 (.bin .add (TT 65) (II 1)), MM 65 72]))))))) (.seq (.seq (.reg [FF 73 5 1, LL 74 3 73, OA 75 (.call 62 [TT 74]), OA 76 (.un .not (TT 75)), MM 77 76, FG 78 5 1 77 false, LG 79 3 78 77 false, OC 80 (.call 84 [TT 79]) 77
 false, OC 81 (.un .not (TT 80)) 77 false, OA 82 (.pick (TT 77) (.const (.bool true)) (TT 81)), MM 83 82, FG 84 5 1 83 false, LG 85 3 84 83 false, OC 86 (.call 15 [TT 85]) 83 false, OC 87 (.bin .lss (TT 86) (II 0)) 83 false, OA
 88 (.pick (TT 83) (.const (.bool true)) (TT 87))]) (.cond (TT 88) (.seq (.reg [OA 2 (.mv (II 1))]) .ret) .skip)) (.seq (.reg [OA 2 (.mv (II 0))]) .ret)))))))⟩
theorem a8D : X8 eff Tryz.prog Tryz.f23 = some a2l := by kernel_rfl
theorem a8y : Tryz.prog.funcs[23]? = some Tryz.f23 := Tryz.func23
def a3E : a0G := ⟨37, [.cell 8 true 5, .tmp 9], .seq (.reg [OA 4 (.box 31 (TT 0)), OA 5 (.box 37 (TT 1)), OA 8 (.alloc 37 [.int .i64 0, .slice none 0 0, .slice none 0 0, .slice none 0 0, .slice none 0 0]), OA 9 (.mv (II 0))]) (.seq (.seq (.reg [LL
 12 8 4, LL 13 5 5, OA 14 (.call 38 [TT 12, TT 13]), MM 10 14]) (.seq (.reg [MM 15 10, OA 16 (.bin .neq (TT 15) (II 0))]) (.cond (TT 16) (.seq (.reg [OA 17 (.build [.int .i64 0, .slice none 0 0, .slice none 0 0, .slice none 0 0,
 .slice none 0 0] []), MM 18 10, OB (.store 5 (TT 8) (TT 17)), MM 9 18]) .ret) .skip))) (.seq (.seq (.reg [MM 19 2, OA 20 (.bin .lss (TT 19) (II 0)), MM 21 20, MG 22 2 21 false, FG 23 4 4 21 false, VG 24 23 21 false, OC 25 (.len
 false (TT 24)) 21 false, OC 26 (.bin .geq (TT 22) (TT 25)) 21 false, OA 27 (.pick (TT 21) (.const (.bool true)) (TT 26))]) (.cond (TT 27) (.seq (.reg [OA 28 (.build [.int .i64 0, .slice none 0 0, .slice none 0 0, .slice none 0
 0, .slice none 0 0] []), OB (.store 5 (TT 8) (TT 28)), OA 9 (.mv (II 1))]) .ret) .skip)) (.seq (.reg [LL 29 5 5, OA 30 (.call 42 [TT 29]), OA 11 (.alloc 37 [.int .i64 0, .slice none 0 0, .slice none 0 0, .slice none 0 0, .slice
 none 0 0]), OB (.store 5 (TT 11) (TT 30))]) (.seq (.reg [FF 31 4 11, VV 32 31, MM 33 2, MM 34 3, OA 35 (.E8 1 (TT 32) (TT 33)), OB (.store 1 (TT 35) (TT 34))]) (.seq (.reg [LL 36 5 11, OB (.store 5 (TT 8) (TT 36)), OA 9 (.mv
 (II 0))]) .ret)))))⟩
theorem a5U : X8 eff Tryz.prog Tryz.f58 = some a3E := by kernel_rfl
theorem a6g : Tryz.prog.funcs[58]? = some Tryz.f58 := Tryz.func58
def a2Q : a0G := ⟨107, [.cell 8 true 5, .tmp 9], .seq (.reg [OA 4 (.box 31 (TT 0)), OA 5 (.box 37 (TT 1)), OA 7 (.box 51 (TT 3)), OA 8 (.alloc 37 [.int .i64 0, .slice none 0 0, .slice none 0 0, .slice none 0 0, .slice none 0 0]), OA 9 (.mv (II
 0))]) (.seq (.seq (.reg [LL 13 8 4, LL 14 5 5, OA 15 (.call 38 [TT 13, TT 14]), MM 10 15]) (.seq (.reg [MM 16 10, OA 17 (.bin .neq (TT 16) (II 0))]) (.cond (TT 17) (.seq (.reg [OA 18 (.build [.int .i64 0, .slice none 0 0, .slice
 none 0 0, .slice none 0 0, .slice none 0 0] []), MM 19 10, OB (.store 5 (TT 8) (TT 18)), MM 9 19]) .ret) .skip))) (.seq (.seq (.reg [MM 20 2, OA 21 (.bin .lss (TT 20) (II 0)), MM 22 21, MG 23 2 22 false, FG 24 4 4 22 false, VG
 25 24 22 false, OC 26 (.len false (TT 25)) 22 false, OC 27 (.bin .geq (TT 23) (TT 26)) 22 false, OA 28 (.pick (TT 22) (.const (.bool true)) (TT 27)), MM 29 28, FG 30 0 7 29 false, LG 31 3 30 29 false, OC 32 (.call 62 [TT 31]) 29
 false, OC 33 (.un .not (TT 32)) 29 false, OA 34 (.pick (TT 29) (.const (.bool true)) (TT 33)), MM 35 34, FG 36 3 7 35 false, LG 37 3 36 35 false, OC 38 (.call 62 [TT 37]) 35 false, OC 39 (.un .not (TT 38)) 35 false, OA 40 (.pick
 (TT 35) (.const (.bool true)) (TT 39))]) (.cond (TT 40) (.seq (.reg [OA 41 (.build [.int .i64 0, .slice none 0 0, .slice none 0 0, .slice none 0 0, .slice none 0 0] []), OB (.store 5 (TT 8) (TT 41)), OA 9 (.mv (II 1))]) .ret)
 .skip)) (.seq (.reg [FF 42 4 4, VV 43 42, MM 44 2, OA 45 (.E8 13 (TT 43) (TT 44)), FF 46 1 45, LL 47 12 46, OA 11 (.alloc 114 [.bool false, .string ⟨#[]⟩, .string ⟨#[]⟩, .bool false, .string ⟨#[]⟩, .string ⟨#[]⟩, .bool false,
 .string ⟨#[]⟩, .string ⟨#[]⟩, .bool false, .string ⟨#[]⟩, .string ⟨#[]⟩]), OB (.store 12 (TT 11) (TT 47))]) (.seq (.block 0 (.seq (.reg [FF 49 4 5, VV 50 49, MM 51 2, OA 52 (.E8 1 (TT 50) (TT 51)), VV 53 52, OA 54 (.un .not
 (TT 53)), MM 48 54]) (.cond (TT 48) (.seq (.reg [OA 55 (.build [.int .i64 0, .slice none 0 0, .slice none 0 0, .slice none 0 0, .slice none 0 0] []), OB (.store 5 (TT 8) (TT 55)), OA 9 (.mv (II 7))]) .ret) (.seq (.reg [FF 57 0
 7, LL 58 3 57, FF 59 0 11, FF 60 0 59, LL 61 3 60, OA 62 (.call 52 [TT 58, TT 61]), OA 63 (.bin .lss (TT 62) (II 0)), MM 64 63, FG 65 0 7 64 false, LG 66 3 65 64 false, FG 67 6 11 64 false, FG 68 0 67 64 false, LG 69 3 68 64
 false, OC 70 (.call 52 [TT 66, TT 69]) 64 false, OC 71 (.bin .gtr (TT 70) (II 0)) 64 false, OA 72 (.pick (TT 64) (.const (.bool true)) (TT 71)), MM 73 72, FG 74 3 7 73 false, LG 75 3 74 73 false, FG 76 0 11 73 false, FG 77 3 76
 73 false, LG 78 3 77 73 false, OC 79 (.call 52 [TT 75, TT 78]) 73 false, OC 80 (.bin .lss (TT 79) (II 0)) 73 false, OA 81 (.pick (TT 73) (.const (.bool true)) (TT 80)), MM 82 81, FG 83 3 7 82 false, LG 84 3 83 82 false, FG 85 6
 11 82 false, FG 86 3 85 82 false, LG 87 3 86 82 false, OC 88 (.call 52 [TT 84, TT 87]) 82 false, OC 89 (.bin .gtr (TT 88) (II 0)) 82 false, OA 90 (.pick (TT 82) (.const (.bool true)) (TT 89)), MM 56 90]) (.cond (TT 56) (.seq
 (.reg [OA 91 (.build [.int .i64 0, .slice none 0 0, .slice none 0 0, .slice none 0 0, .slice none 0 0] []), OB (.store 5 (TT 8) (TT 91)), OA 9 (.mv (II 17))]) .ret) (.seq (.reg [FF 93 3 5, VV 94 93, OA 95 (.len false (TT 94)),
 OA 96 (.bin .eql (TT 95) (II 4)), MM 92 96]) (.cond (TT 92) (.seq (.reg [OA 97 (.build [.int .i64 0, .slice none 0 0, .slice none 0 0, .slice none 0 0, .slice none 0 0] []), OB (.store 5 (TT 8) (TT 97)), OA 9 (.mv (II 6))])
 .ret) .skip))))))) (.seq (.reg [LL 98 5 5, OA 99 (.call 42 [TT 98]), OA 12 (.alloc 37 [.int .i64 0, .slice none 0 0, .slice none 0 0, .slice none 0 0, .slice none 0 0]), OB (.store 5 (TT 12) (TT 99))]) (.seq (.reg [FF 100 3 12,
 VV 101 100, LL 102 6 7, OA 103 (.bsl 51 6 1 [.bool false, .string ⟨#[]⟩, .string ⟨#[]⟩, .bool false, .string ⟨#[]⟩, .string ⟨#[]⟩] [(0, TT 102)]), OA 104 (.app 51 6 80 (TT 101) (TT 103)), FF 105 3 12, OB (.store 1 (TT 105) (TT
 104))]) (.seq (.reg [LL 106 5 12, OB (.store 5 (TT 8) (TT 106)), OA 9 (.mv (II 0))]) .ret)))))))⟩
theorem a5x : X8 eff Tryz.prog Tryz.f59 = some a2Q := by kernel_rfl
theorem a5v : Tryz.prog.funcs[59]? = some Tryz.f59 := Tryz.func59
def a2V : a0G := ⟨159, [.cell 2 true 8], .seq (.reg [OA 2 (.alloc 31 [.slice none 0 0, .slice none 0 0, .slice none 0 0, .slice none 0 0, .slice none 0 0, .bool false, .string ⟨#[]⟩, .string ⟨#[]⟩])]) (.seq (.reg [MM 12 0, OA 13 (.build [.slice
 none 0 0] [(0, (1, TT 12))]), OA 14 (.box 225 (TT 13)), MM 3 14]) (.seq (.reg [OA 4 (.alloc 31 [.slice none 0 0, .slice none 0 0, .slice none 0 0, .slice none 0 0, .slice none 0 0, .bool false, .string ⟨#[]⟩, .string ⟨#[]⟩])])
 (.seq (.seq (.reg [MM 15 3, OA 16 (.call 173 [TT 15, II 2]), OA 17 (.bin .add (II 1) (TT 16)), OA 18 (.mv (II 0))]) (.block 0 (.loop (.seq (.reg [OA 19 (.bin .lss (TT 18) (TT 17))]) (.seq (.cond (TT 19) .skip (.exit 0)) (.seq
 (.block 1 (.seq (.reg [MM 20 18, MM 5 20]) (.K3 [.l, .l, .q, .q, .e none false, .q, .e none true, .q, .e none true] [FF 21 0 4, VV 22 21, MM 23 3, MM 24 5, OA 25 (.call 174 [TT 23, TT 24]), OA 26 (.bsl 76 12 1 [.string ⟨#[]⟩,
 .bool false, .string ⟨#[]⟩, .string ⟨#[]⟩, .bool false, .string ⟨#[]⟩, .string ⟨#[]⟩, .bool false, .bool false, .string ⟨#[]⟩, .string ⟨#[]⟩, .slice none 0 0] [(0, TT 25)]), OA 27 (.app 76 12 168 (TT 22) (TT 26)), FF 28 0 4, OB
 (.store 1 (TT 28) (TT 27))]))) (.reg [OA 29 (.bin .add (TT 18) (II 1)), MM 18 29]))))))) (.seq (.seq (.reg [MM 30 3, OA 31 (.call 173 [TT 30, II 3]), OA 32 (.mv (II 0))]) (.block 2 (.loop (.seq (.reg [OA 33 (.bin .lss (TT 32)
 (TT 31))]) (.seq (.cond (TT 33) .skip (.exit 2)) (.seq (.block 3 (.seq (.reg [MM 34 3, OA 35 (.call 173 [TT 34, II 80]), OA 36 (.bin .sub (TT 35) (II 30)), MM 37 3, OA 38 (.call 173 [TT 37, II 30]), OA 39 (.bin .add (II 12) (TT
 38)), MM 6 36, MM 7 39]) (.seq (.seq (.reg [MM 40 3, OA 41 (.call 173 [TT 40, II 2]), OA 42 (.bin .eql (TT 41) (II 1))]) (.cond (TT 42) (.reg [MM 43 7, OA 44 (.un .neg (TT 43)), OA 45 (.bin .sub (TT 44) (II 6)), MM 7 45])
 .skip)) (.K3 [.l, .l, .l, .l, .l, .l, .q, .e none false, .l, .l, .l, .l, .e none false, .q, .q, .q, .e none true, .q, .e none true] [FF 46 1 4, VV 47 46, MM 48 6, MM 49 7, MM 50 6, OA 51 (.bin .add (TT 50) (II 1)), MM 52 3, OA
 53 (.call 173 [TT 52, II 20]), OA 54 (.bin .add (TT 51) (TT 53)), MM 55 7, OA 56 (.bin .add (TT 55) (II 1)), MM 57 3, OA 58 (.call 173 [TT 57, II 5]), OA 59 (.bin .add (TT 56) (TT 58)), OA 60 (.call 175 [TT 48, TT 49, TT 54, TT
 59]), OA 61 (.bsl 34 1 1 [.slice none 0 0] [(0, TT 60)]), OA 62 (.app 34 1 24 (TT 47) (TT 61)), FF 63 1 4, OB (.store 1 (TT 63) (TT 62))])))) (.reg [OA 64 (.bin .add (TT 32) (II 1)), MM 32 64]))))))) (.seq (.seq (.reg [MM 65 3,
 OA 66 (.call 173 [TT 65, II 3]), OA 67 (.mv (II 0))]) (.block 4 (.loop (.seq (.reg [OA 68 (.bin .lss (TT 67) (TT 66))]) (.seq (.cond (TT 68) .skip (.exit 4)) (.seq (.block 5 (.seq (.reg [MM 69 67, MM 8 69]) (.K3 [.l, .l, .l,
 .l, .l, .l, .q, .e none false, .q, .q, .q, .q, .q, .q, .e none true, .q, .e none true] [FF 70 2 4, VV 71 70, OA 72 (.bsl 9 1 2 [.string ⟨#[]⟩] [(0, .const (.string ⟨#[98, 111, 108, 116]⟩)), (1, .const (.string ⟨#[110, 117,
 116]⟩))]), MM 73 8, OA 74 (.E8 1 (TT 72) (TT 73)), VV 75 74, MM 76 3, OA 77 (.call 176 [TT 76]), OA 78 (.call 177 [II 0, II 0]), OA 79 (.call 17 [II 0, II 1]), OA 80 (.build [.bool false, .bool false, .string ⟨#[]⟩, .string
 ⟨#[]⟩] [(1, (3, TT 79))]), OA 81 (.build [.bool false, .string ⟨#[]⟩, .string ⟨#[]⟩, .bool false, .string ⟨#[]⟩, .string ⟨#[]⟩, .bool false, .bool false, .string ⟨#[]⟩, .string ⟨#[]⟩] [(0, (6, TT 78)), (6, (4, TT 80))]), OA 82
 (.build [.string ⟨#[]⟩, .slice none 0 0, .bool false, .string ⟨#[]⟩, .string ⟨#[]⟩, .bool false, .string ⟨#[]⟩, .string ⟨#[]⟩, .bool false, .bool false, .string ⟨#[]⟩, .string ⟨#[]⟩] [(0, (1, TT 75)), (1, (1, TT 77)), (2, (10,
 TT 81))]), OA 83 (.bsl 80 12 1 [.string ⟨#[]⟩, .slice none 0 0, .bool false, .string ⟨#[]⟩, .string ⟨#[]⟩, .bool false, .string ⟨#[]⟩, .string ⟨#[]⟩, .bool false, .bool false, .string ⟨#[]⟩, .string ⟨#[]⟩] [(0, TT 82)]), OA 84
 (.app 80 12 168 (TT 71) (TT 83)), FF 85 2 4, OB (.store 1 (TT 85) (TT 84))]))) (.reg [OA 86 (.bin .add (TT 67) (II 1)), MM 67 86]))))))) (.seq (.seq (.K3 [.l, .l, .l, .q, .e none false, .q, .l] [FF 87 2 4, VV 88 87, OA 89
 (.len false (TT 88)), MM 90 3, OA 91 (.call 173 [TT 90, II 2]), OA 92 (.bin .add (TT 89) (TT 91)), OA 93 (.mv (II 0))]) (.block 6 (.loop (.seq (.reg [OA 94 (.bin .lss (TT 93) (TT 92))]) (.seq (.cond (TT 94) .skip (.exit 6))
 (.seq (.block 7 (.seq (.reg [MM 95 93, MM 9 95]) (.K3 [.l, .l, .l, .l, .l, .l, .q, .e none false, .l, .l, .e none false, .q, .q, .l, .e none false, .q, .q, .l, .l, .l, .e none false, .q, .q, .q, .q, .e none true, .q, .e none
 true] [FF 96 3 4, VV 97 96, OA 98 (.bsl 9 1 3 [.string ⟨#[]⟩] [(0, .const (.string ⟨#[104, 101, 114, 101]⟩)), (1, .const (.string ⟨#[116, 104, 101, 114, 101]⟩)), (2, .const (.string ⟨#[98, 101, 121, 111, 110, 100]⟩))]), MM 99 9,
 OA 100 (.E8 1 (TT 98) (TT 99)), VV 101 100, MM 102 3, OA 103 (.call 173 [TT 102, II 40]), OA 104 (.bin .sub (TT 103) (II 20)), MM 105 3, OA 106 (.call 173 [TT 105, II 24]), OA 107 (.bin .sub (TT 106) (II 12)), OA 108 (.call
 177 [TT 104, TT 107]), MM 109 3, OA 110 (.call 173 [TT 109, II 5]), OA 111 (.bin .sub (TT 110) (II 2)), OA 112 (.call 17 [TT 111, II 2]), OA 113 (.build [.bool false, .bool false, .string ⟨#[]⟩, .string ⟨#[]⟩] [(1, (3, TT
 112))]), OA 114 (.build [.bool false, .string ⟨#[]⟩, .string ⟨#[]⟩, .bool false, .string ⟨#[]⟩, .string ⟨#[]⟩, .bool false, .bool false, .string ⟨#[]⟩, .string ⟨#[]⟩] [(0, (6, TT 108)), (6, (4, TT 113))]), MM 115 3, OA 116
 (.call 173 [TT 115, II 20]), OA 117 (.bin .add (II 8) (TT 116)), OA 118 (.call 17 [II 1, TT 117]), OA 119 (.build [.string ⟨#[]⟩, .bool false, .string ⟨#[]⟩, .string ⟨#[]⟩, .bool false, .string ⟨#[]⟩, .string ⟨#[]⟩, .bool false,
 .bool false, .string ⟨#[]⟩, .string ⟨#[]⟩, .bool false, .string ⟨#[]⟩, .string ⟨#[]⟩] [(0, (1, TT 101)), (1, (10, TT 114)), (11, (3, TT 118))]), OA 120 (.bsl 57 14 1 [.string ⟨#[]⟩, .bool false, .string ⟨#[]⟩, .string ⟨#[]⟩,
 .bool false, .string ⟨#[]⟩, .string ⟨#[]⟩, .bool false, .bool false, .string ⟨#[]⟩, .string ⟨#[]⟩, .bool false, .string ⟨#[]⟩, .string ⟨#[]⟩] [(0, TT 119)]), OA 121 (.app 57 14 184 (TT 97) (TT 120)), FF 122 3 4, OB (.store 1 (TT
 122) (TT 121))]))) (.reg [OA 123 (.bin .add (TT 93) (II 1)), MM 93 123]))))))) (.seq (.seq (.reg [MM 124 3, OA 125 (.call 173 [TT 124, II 2]), OA 126 (.mv (II 0))]) (.block 8 (.loop (.seq (.reg [OA 127 (.bin .lss (TT 126) (TT
 125))]) (.seq (.cond (TT 127) .skip (.exit 8)) (.seq (.block 9 (.seq (.reg [MM 128 3, OA 129 (.call 173 [TT 128, II 60]), OA 130 (.bin .sub (TT 129) (II 30)), MM 131 3, OA 132 (.call 173 [TT 131, II 60]), OA 133 (.bin .sub (TT
 132) (II 30)), MM 10 130, MM 11 133]) (.K3 [.l, .l, .q, .q, .q, .l, .q, .e none false, .l, .l, .l, .e none false, .q, .q, .q, .q, .q, .e none true, .q, .e none true] [FF 134 4 4, VV 135 134, MM 136 10, MM 137 11, OA 138 (.call
 177 [TT 136, TT 137]), MM 139 10, MM 140 3, OA 141 (.call 173 [TT 140, II 12]), OA 142 (.bin .add (TT 139) (TT 141)), MM 143 11, MM 144 3, OA 145 (.call 173 [TT 144, II 12]), OA 146 (.bin .add (TT 143) (TT 145)), OA 147 (.call
 177 [TT 142, TT 146]), OA 148 (.build [.bool false, .string ⟨#[]⟩, .string ⟨#[]⟩, .bool false, .string ⟨#[]⟩, .string ⟨#[]⟩, .bool false, .string ⟨#[]⟩, .string ⟨#[]⟩, .bool false, .string ⟨#[]⟩, .string ⟨#[]⟩] [(0, (6, TT
 138)), (6, (6, TT 147))]), OA 149 (.build [.string ⟨#[]⟩, .bool false, .string ⟨#[]⟩, .string ⟨#[]⟩, .bool false, .string ⟨#[]⟩, .string ⟨#[]⟩, .bool false, .string ⟨#[]⟩, .string ⟨#[]⟩, .bool false, .string ⟨#[]⟩, .string
 ⟨#[]⟩] [(0, (1, .const (.string ⟨#[100, 111, 111, 114]⟩))), (1, (12, TT 148))]), OA 150 (.bsl 116 13 1 [.string ⟨#[]⟩, .bool false, .string ⟨#[]⟩, .string ⟨#[]⟩, .bool false, .string ⟨#[]⟩, .string ⟨#[]⟩, .bool false, .string
 ⟨#[]⟩, .string ⟨#[]⟩, .bool false, .string ⟨#[]⟩, .string ⟨#[]⟩] [(0, TT 149)]), OA 151 (.app 116 13 176 (TT 135) (TT 150)), FF 152 4 4, OB (.store 1 (TT 152) (TT 151))]))) (.reg [OA 153 (.bin .add (TT 126) (II 1)), MM 126
 153]))))))) (.seq (.reg [MM 154 3, OA 155 (.call 173 [TT 154, II 4]), OA 156 (.call 17 [TT 155, II 8]), FF 157 5 4, OB (.store 3 (TT 157) (TT 156))]) (.seq (.reg [LL 158 8 4, OB (.store 8 (TT 2) (TT 158))]) .ret)))))))))⟩
theorem a6H : X8 eff Tryz.prog Tryz.f69 = some a2V := by kernel_rfl
theorem a6I : Tryz.prog.funcs[69]? = some Tryz.f69 := Tryz.func69
def H6 (b : UInt8) : Bool := decide (97 <= b.toNat) && decide (b.toNat <= 122)
theorem a8U {s : List UInt8} {i : Nat} (hi : i < s.length) (h : H6 s[i] = false) : a0m s = false := by
 unfold a0m
 have : (s.all fun b => decide (97 <= b.toNat) && decide (b.toNat <= 122)) = false := by
  rw [List.all_eq_false]
  exact ⟨s[i], c1E hi, by unfold H6 at h; rw [h]; decide⟩
 rw [this]
 rfl
theorem b1z {s : List UInt8} (h : ∀ j (h : j < s.length), H6 s[j] = true) : a0m s = (decide (1 <= s.length) && decide (s.length <= 12)) := by
 unfold a0m
 have : (s.all fun b => decide (97 <= b.toNat) && decide (b.toNat <= 122)) = true := by
  rw [List.all_eq_true]
  intro x hx
  obtain ⟨j, hj, rfl⟩ := List.mem_iff_getElem.1 hx
  exact h j hj
 rw [this, Bool.true_and]
theorem b5T (s : List UInt8) (hs : s.length <= 1099511627776) : u7 Tryz.prog 198 [sb s] (.v (.bool (a0m s))) := by
  refine kS Tryz.func198 (by cbv) (by rfl) fun w O => ?_
  simp only [j6, sb]
  (repeat first | refine uA ?_ | (refine uK ?_ ?_; focus first | omega | (intros; simp_all <;> omega)) | simp (disch := omega) only [go_sem, Nat.reduceBEq, Nat.reduceAdd, ww, u6])
  refine S.loop (X := Nat) (fun i => ⟨[(0, sb s), (5, ints s.length), (6, ints i)], []⟩) (fun i => i <= s.length /\ ∀ j (h : j < s.length), j < i -> H6 s[j] = true) (fun i => s.length - i) 0 ⟨c1y _, fun _ _ h => absurd h (Nat.not_lt_zero _)⟩ (by (repeat first | refine uA ?_ | (refine ⟨?_, ?_⟩; focus first | rfl | simp [slot]) | rfl | simp)) ?_
  rintro i ⟨hi, hg⟩
  simp only [sb, ints]
  (repeat first | refine uA ?_ | (refine uK ?_ ?_; focus first | omega | (intros; simp_all <;> omega)) | simp (disch := omega) only [go_sem, Nat.reduceBEq, Nat.reduceAdd, ww])
  (refine uJ rfl (fun hc => ?_) fun hc => ?_)
  · have hi' : i < s.length := by omega
    have hgi : s.getD i 0 = s[i] := by rw [c1G, c1p hi']; rfl
    (repeat first | refine uA ?_ | (refine uK ?_ ?_; focus first | omega | (intros; simp_all <;> omega)) | simp (disch := omega) only [go_sem, Nat.reduceBEq, Nat.reduceAdd, ww, u6, O0, hgi, c1u])
    refine S.cond rfl (fun hc => ?_) (fun hc => ?_)
    · have hl : H6 s[i] = false := by
        unfold H6
        simp only [c1Z, c1w] at hc
        rw [Bool.and_eq_false_iff, c1x, c1x]
        omega
      rw [a8U hi' hl]
      (repeat first | refine uA ?_ | (refine uK ?_ ?_; focus first | omega | (intros; simp_all <;> omega)) | simp (disch := omega) only [go_sem, Nat.reduceBEq, Nat.reduceAdd, ww])
      exact S.done (j3.out rfl (Imp.refl rfl) rfl)
    · have hl : H6 s[i] = true := by
        unfold H6
        simp only [c1H, c1x] at hc
        rw [c1B, c1w, c1w]
        omega
      (repeat first | refine uA ?_ | (refine uK ?_ ?_; focus first | omega | (intros; simp_all <;> omega)) | simp (disch := omega) only [go_sem, Nat.reduceBEq, Nat.reduceAdd, ww])
      refine S.next (i + 1) ⟨by omega, fun j h hj => ?_⟩ (by omega) (by (repeat first | refine uA ?_ | (refine ⟨?_, ?_⟩; focus first | rfl | simp [slot]) | rfl | simp))
      rcases c1Q j i with h1 | h1
      · exact hg j h h1
      · have : j = i := by omega
        subst this
        exact hl
  · have hi' : i = s.length := by omega
    subst hi'
    have e1 : decide ((1 : Int) <= (s.length : Int)) = decide (1 <= s.length) := decide_eq_decide.2 (by omega)
    have e2 : decide ((s.length : Int) <= 12) = decide (s.length <= 12) := decide_eq_decide.2 (by omega)
    rw [b1z fun j h => hg j h h]
    (repeat first | refine uA ?_ | (refine uK ?_ ?_; focus first | omega | (intros; simp_all <;> omega)) | simp (disch := omega) only [go_sem, Nat.reduceBEq, Nat.reduceAdd, ww, u6, e1, e2])
    (try simp only [e1, e2, go_sem])
    exact S.done (j3.out rfl (Imp.refl rfl) rfl)
theorem b8p (s : List UInt8) (hs : s.length <= 1099511627776) : u7 Tryz.prog 19 [sb s] (.v (.bool (a0m s))) := by
  refine kS Tryz.func19 (by cbv) (by rfl) fun w O => ?_
  simp only [j6, sb]
  (repeat first | refine uA ?_ | (refine uK ?_ ?_; focus first | omega | (intros; simp_all <;> omega)) | simp (disch := omega) only [go_sem, Nat.reduceBEq, Nat.reduceAdd, ww, u6])
  refine S.loop (X := Nat) (fun i => ⟨[(0, sb s), (5, ints s.length), (6, ints i)], []⟩) (fun i => i <= s.length /\ ∀ j (h : j < s.length), j < i -> H6 s[j] = true) (fun i => s.length - i) 0 ⟨c1y _, fun _ _ h => absurd h (Nat.not_lt_zero _)⟩ (by (repeat first | refine uA ?_ | (refine ⟨?_, ?_⟩; focus first | rfl | simp [slot]) | rfl | simp)) ?_
  rintro i ⟨hi, hg⟩
  simp only [sb, ints]
  (repeat first | refine uA ?_ | (refine uK ?_ ?_; focus first | omega | (intros; simp_all <;> omega)) | simp (disch := omega) only [go_sem, Nat.reduceBEq, Nat.reduceAdd, ww])
  (refine uJ rfl (fun hc => ?_) fun hc => ?_)
  · have hi' : i < s.length := by omega
    have hgi : s.getD i 0 = s[i] := by rw [c1G, c1p hi']; rfl
    (repeat first | refine uA ?_ | (refine uK ?_ ?_; focus first | omega | (intros; simp_all <;> omega)) | simp (disch := omega) only [go_sem, Nat.reduceBEq, Nat.reduceAdd, ww, u6, O0, hgi, c1u])
    refine S.cond rfl (fun hc => ?_) (fun hc => ?_)
    · have hl : H6 s[i] = false := by
        unfold H6
        simp only [c1Z, c1w] at hc
        rw [Bool.and_eq_false_iff, c1x, c1x]
        omega
      rw [a8U hi' hl]
      (repeat first | refine uA ?_ | (refine uK ?_ ?_; focus first | omega | (intros; simp_all <;> omega)) | simp (disch := omega) only [go_sem, Nat.reduceBEq, Nat.reduceAdd, ww])
      exact S.done (j3.out rfl (Imp.refl rfl) rfl)
    · have hl : H6 s[i] = true := by
        unfold H6
        simp only [c1H, c1x] at hc
        rw [c1B, c1w, c1w]
        omega
      (repeat first | refine uA ?_ | (refine uK ?_ ?_; focus first | omega | (intros; simp_all <;> omega)) | simp (disch := omega) only [go_sem, Nat.reduceBEq, Nat.reduceAdd, ww])
      refine S.next (i + 1) ⟨by omega, fun j h hj => ?_⟩ (by omega) (by (repeat first | refine uA ?_ | (refine ⟨?_, ?_⟩; focus first | rfl | simp [slot]) | rfl | simp))
      rcases c1Q j i with h1 | h1
      · exact hg j h h1
      · have : j = i := by omega
        subst this
        exact hl
  · have hi' : i = s.length := by omega
    subst hi'
    have e1 : decide ((1 : Int) <= (s.length : Int)) = decide (1 <= s.length) := decide_eq_decide.2 (by omega)
    have e2 : decide ((s.length : Int) <= 12) = decide (s.length <= 12) := decide_eq_decide.2 (by omega)
    rw [b1z fun j h => hg j h h]
    (repeat first | refine uA ?_ | (refine uK ?_ ?_; focus first | omega | (intros; simp_all <;> omega)) | simp (disch := omega) only [go_sem, Nat.reduceBEq, Nat.reduceAdd, ww, u6, e1, e2])
    (try simp only [e1, e2, go_sem])
    exact S.done (j3.out rfl (Imp.refl rfl) rfl)
theorem a7e (l : List Nm.Rt) (hl : Rbs 17179869184 l) : FZ 199 [rts l] (.v (.bool (l.all j4))) := by
  refine kW Tryz.func199 (by cbv) (by rfl) fun w O hw => ?_
  obtain ⟨hn, hb⟩ := hl
  simp only [j6, rts]
  (repeat first | refine uA ?_ | (refine uK ?_ ?_; focus first | omega | (intros; simp_all <;> omega)) | simp (disch := omega) only [go_sem, Nat.reduceBEq, Nat.reduceAdd, ww, c1q])
  refine S.loop (X := Nat) (fun i => ⟨[(5, rts l), (6, ints l.length), (7, ints i)], []⟩) (fun i => i <= l.length /\ l.all j4 = (l.drop i).all j4) (fun i => l.length - i) 0 ⟨c1y _, rfl⟩ (by (repeat first | refine uA ?_ | (refine ⟨?_, ?_⟩; focus first | rfl | simp [slot]) | rfl | simp)) ?_
  rintro i ⟨hi, hg⟩
  simp only [rts, ints]
  (repeat first | refine uA ?_ | (refine uK ?_ ?_; focus first | omega | (intros; simp_all <;> omega)) | simp (disch := omega) only [go_sem, Nat.reduceBEq, Nat.reduceAdd, ww])
  (refine uJ rfl (fun hc => ?_) fun hc => ?_)
  · have hi' : i < l.length := by omega
    have hgi := c1p hi'
    generalize l[i] = x at hgi
    have hd := drop_at hgi
    have hs := a2b x (hb x (c1t hgi))
    simp only [rc] at hs
    simp only [sb] at hs
    (repeat first | refine uA ?_ | (refine uK ?_ ?_; focus first | omega | (intros; simp_all <;> omega)) | simp (disch := omega) only [go_sem, Nat.reduceBEq, Nat.reduceAdd, ww, hgi, c1r, c1q, rcs, sb] | (refine uD hs ?_ ?_ ?_; exact tz hw; exact rfl))
    refine S.cond rfl (fun hc => ?_) (fun hc => ?_)
    · have : l.all j4 = false := by
        rw [hg, hd, List.all_cons]
        simp only [Bool.not_eq_true'] at hc
        rw [hc]; rfl
      rw [this]
      (repeat first | refine uA ?_ | (refine uK ?_ ?_; focus first | omega | (intros; simp_all <;> omega)) | simp (disch := omega) only [go_sem, Nat.reduceBEq, Nat.reduceAdd, ww])
      exact S.done (j3.out rfl (Imp.refl rfl) rfl)
    · (repeat first | refine uA ?_ | (refine uK ?_ ?_; focus first | omega | (intros; simp_all <;> omega)) | simp (disch := omega) only [go_sem, Nat.reduceBEq, Nat.reduceAdd, ww])
      refine S.next (i + 1) ⟨by omega, ?_⟩ (by omega) (by (repeat first | refine uA ?_ | (refine ⟨?_, ?_⟩; focus first | rfl | simp [slot]) | rfl | simp))
      rw [hg, hd, List.all_cons]
      simp only [Bool.not_eq_false'] at hc
      rw [hc]; rfl
  · have : l.all j4 = true := by rw [hg, List.drop_eq_nil_of_le (by omega)]; rfl
    rw [this]
    (repeat first | refine uA ?_ | (refine uK ?_ ?_; focus first | omega | (intros; simp_all <;> omega)) | simp (disch := omega) only [go_sem, Nat.reduceBEq, Nat.reduceAdd, ww])
    exact S.done (j3.out rfl (Imp.refl rfl) rfl)
namespace Eng
def frS (fr : List (Nat × C)) : List (Nat × C) -> Prop
 | [] => True
 | (t, s) :: r => (s = .junk \/ slot fr t = s) /\ frS fr r
theorem b0p {fr : List (Nat × C)} : ∀ {fr' : List (Nat × C)}, frS fr fr' -> ∀ t, slot fr' t = .junk \/ slot fr t = slot fr' t
 | [], _, t => .inl rfl
 | (u, s) :: r, h, t => by
  simp only [slot]
  cases hb : (u == t) with
  | true =>
   have : u = t := by simpa using hb
   subst this
   exact h.1
  | false => exact b0p h.2 t
theorem Ent.fr {E : Ctx} {fr fr' : List (Nat × C)} {rs rs' : List Res} (h : rs = rs') (hf : frS fr fr') : Ent E ⟨fr, rs⟩ ⟨fr', rs'⟩ := by
 subst h
 intro wf ν a w hG
 refine ⟨ν, hG.dfr, hG.size, fun t => ?_, hG.rg, hG.frm, hG.nu⟩
 rcases b0p hf t with e | e
 ·rw [e]; simp only [Den]
 ·rw [<- e]; exact hG.fr t
end Eng
def a1O {α : Type} (p : α -> Bool) (l : List α) : Int := match l.findIdx? p with | some i => i | none => -1
theorem a5h {α : Type} {p : α -> Bool} {l : List α} {i : Nat} {x : α} (h : l[i]? = some x) (hp : p x = true) (hm : ∀ j, j < i -> ∀ y, l[j]? = some y -> p y = false) : a1O p l = i := by
 obtain ⟨hi, rfl⟩ := c1z.1 h
 have : l.findIdx? p = some i := by
  rw [List.findIdx?_eq_some_iff_getElem]
  refine ⟨hi, hp, fun j hj => ?_⟩
  simp [hm j hj l[j] (c1p _)]
 unfold a1O
 rw [this]
theorem a3U {α : Type} {p : α -> Bool} {l : List α} (hm : ∀ j, j < l.length -> ∀ y, l[j]? = some y -> p y = false) : a1O p l = -1 := by
 have : l.findIdx? p = none := by
  rw [List.findIdx?_eq_none_iff]
  intro x hx
  obtain ⟨j, hj⟩ := List.mem_iff_getElem?.1 hx
  exact hm j (c1z.1 hj).1 x hj
 unfold a1O
 rw [this]
theorem a4U {α : Type} (p : α -> Bool) (l : List α) : decide (0 <= a1O p l) = l.any p := by
 unfold a1O
 cases h : l.findIdx? p with
 | none =>
  rw [List.findIdx?_eq_none_iff] at h
  have : l.any p = false := by rw [List.any_eq_false]; intro x hx; simp [h x hx]
  rw [this]; rfl
 | some i =>
  rw [List.findIdx?_eq_some_iff_getElem] at h
  obtain ⟨h1, h2, _⟩ := h
  have : l.any p = true := by rw [List.any_eq_true]; exact ⟨_, c1E h1, h2⟩
  rw [this]
  exact decide_eq_true (show (0 : Int) <= (i : Int) by omega)
theorem b7k (g : Nat) (hcal : callable Tryz.prog g = true) (p : Vt -> Bool) (l : List Vt) (hn : l.length <= 1099511627776) (hg : ∀ x ∈ l, FZ g [x.c] (.v (.bool (p x)))) :
  FZ 210 [vts l, .v (.func (.func g) #[] #[])] (ints (a1O p l)) := by
 refine kW Tryz.func210 (by cbv) (by rfl) fun w O hw => ?_
 simp only [j6, vts]
 (repeat first | refine uA ?_ | (refine uK ?_ ?_; focus first | omega | (intros; simp_all <;> omega)) | simp (disch := omega) only [go_sem, Nat.reduceBEq, Nat.reduceAdd, ww, c1q])
 refine S.loop (X := Nat) (fun i => ⟨[(0, vts l), (1, .v (.func (.func g) #[] #[])), (7, ints l.length), (8, ints i)], []⟩) (fun i => i <= l.length /\ ∀ j, j < i -> ∀ x, l[j]? = some x -> p x = false) (fun i => l.length - i) 0 ⟨c1y _, fun _ h => absurd h (Nat.not_lt_zero _)⟩ (by (repeat first | refine uA ?_ | (refine ⟨?_, ?_⟩; focus first | rfl | simp [slot]) | rfl | simp)) ?_
 rintro i ⟨hi, hm⟩
 simp only [vts, ints]
 (repeat first | refine uA ?_ | (refine uK ?_ ?_; focus first | omega | (intros; simp_all <;> omega)) | simp (disch := omega) only [go_sem, Nat.reduceBEq, Nat.reduceAdd, ww])
 (refine uJ rfl (fun hc => ?_) fun hc => ?_)
 ·have hi' : i < l.length := by omega
  have hgi := c1p hi'
  generalize l[i] = x at hgi
  have hs := hg x (c1t hgi)
  simp only [Vt.c, Vt.enc, sb] at hs
  (repeat first | refine uA ?_ | (refine uK ?_ ?_; focus first | omega | (intros; simp_all <;> omega)) | simp (disch := omega) only [go_sem, Nat.reduceBEq, Nat.reduceAdd, ww, hgi, c1r, c1q, Vt.c, Vt.enc, sb, c1u, hcal] | (refine uD hs ?_ ?_ ?_; exact tz hw; exact rfl))
  refine S.cond rfl (fun hc2 => ?_) (fun hc2 => ?_)
  ·rw [a5h hgi hc2 hm]
   (repeat first | refine uA ?_ | (refine uK ?_ ?_; focus first | omega | (intros; simp_all <;> omega)) | simp (disch := omega) only [go_sem, Nat.reduceBEq, Nat.reduceAdd, ww])
   exact S.done (j3.out rfl (Imp.refl rfl) rfl)
  ·(repeat first | refine uA ?_ | (refine uK ?_ ?_; focus first | omega | (intros; simp_all <;> omega)) | simp (disch := omega) only [go_sem, Nat.reduceBEq, Nat.reduceAdd, ww])
   refine S.next (i + 1) ⟨by omega, fun j hj y hy => ?_⟩ (by omega) (by (repeat first | refine uA ?_ | (refine ⟨?_, ?_⟩; focus first | rfl | simp [slot]) | rfl | simp))
   rcases c1Q j i with h1 | h1
   ·exact hm j h1 y hy
   ·have : j = i := by omega
    subst this
    rw [hgi] at hy
    cases hy
    exact hc2
 ·have hi' : i = l.length := by omega
  subst hi'
  rw [a3U hm]
  (repeat first | refine uA ?_ | (refine uK ?_ ?_; focus first | omega | (intros; simp_all <;> omega)) | simp (disch := omega) only [go_sem, Nat.reduceBEq, Nat.reduceAdd, ww])
  exact S.done (j3.out rfl (Imp.refl rfl) rfl)
theorem b0i (g : Nat) (hcal : callable Tryz.prog g = true) (p : Vt -> Bool) (l : List Vt) (hn : l.length <= 1099511627776) (hg : ∀ x ∈ l, FZ g [x.c] (.v (.bool (p x)))) :
  FZ 137 [vts l, .v (.func (.func g) #[] #[])] (.v (.bool (l.any p))) := by
 refine kW Tryz.func137 (by cbv) (by rfl) fun w O hw => ?_
 have h := b7k g hcal p l hn hg
 have e := a4U p l
 generalize a1O p l = n at *
 simp only [j6]
 simp only [vts, ints] at *
 (repeat first | refine uA ?_ | (refine uK ?_ ?_; focus first | omega | (intros; simp_all <;> omega)) | simp (disch := omega) only [go_sem, Nat.reduceBEq, Nat.reduceAdd, ww] | (refine uD h ?_ ?_ ?_; exact tz hw; exact rfl))
 rw [e]
 exact S.done (j3.out rfl (Imp.refl rfl) rfl)
theorem b7j (g : Nat) (hcal : callable Tryz.prog g = true) (p : Nm.Rt -> Bool) (l : List Nm.Rt) (hn : l.length <= 1099511627776) (hg : ∀ x ∈ l, FZ g [rc x] (.v (.bool (p x)))) :
  FZ 152 [rts l, .v (.func (.func g) #[] #[])] (ints (a1O p l)) := by
 refine kW Tryz.func152 (by cbv) (by rfl) fun w O hw => ?_
 simp only [j6, rts]
 (repeat first | refine uA ?_ | (refine uK ?_ ?_; focus first | omega | (intros; simp_all <;> omega)) | simp (disch := omega) only [go_sem, Nat.reduceBEq, Nat.reduceAdd, ww, c1q])
 refine S.loop (X := Nat) (fun i => ⟨[(0, rts l), (1, .v (.func (.func g) #[] #[])), (7, ints l.length), (8, ints i)], []⟩) (fun i => i <= l.length /\ ∀ j, j < i -> ∀ x, l[j]? = some x -> p x = false) (fun i => l.length - i) 0 ⟨c1y _, fun _ h => absurd h (Nat.not_lt_zero _)⟩ (by (repeat first | refine uA ?_ | (refine ⟨?_, ?_⟩; focus first | rfl | simp [slot]) | rfl | simp)) ?_
 rintro i ⟨hi, hm⟩
 simp only [rts, ints]
 (repeat first | refine uA ?_ | (refine uK ?_ ?_; focus first | omega | (intros; simp_all <;> omega)) | simp (disch := omega) only [go_sem, Nat.reduceBEq, Nat.reduceAdd, ww])
 (refine uJ rfl (fun hc => ?_) fun hc => ?_)
 ·have hi' : i < l.length := by omega
  have hgi := c1p hi'
  generalize l[i] = x at hgi
  have hs := hg x (c1t hgi)
  simp only [rc, rcs, sb] at hs
  (repeat first | refine uA ?_ | (refine uK ?_ ?_; focus first | omega | (intros; simp_all <;> omega)) | simp (disch := omega) only [go_sem, Nat.reduceBEq, Nat.reduceAdd, ww, hgi, c1r, c1q, rc, rcs, sb, c1u, hcal] | (refine uD hs ?_ ?_ ?_; exact tz hw; exact rfl))
  refine S.cond rfl (fun hc2 => ?_) (fun hc2 => ?_)
  ·rw [a5h hgi hc2 hm]
   (repeat first | refine uA ?_ | (refine uK ?_ ?_; focus first | omega | (intros; simp_all <;> omega)) | simp (disch := omega) only [go_sem, Nat.reduceBEq, Nat.reduceAdd, ww])
   exact S.done (j3.out rfl (Imp.refl rfl) rfl)
  ·(repeat first | refine uA ?_ | (refine uK ?_ ?_; focus first | omega | (intros; simp_all <;> omega)) | simp (disch := omega) only [go_sem, Nat.reduceBEq, Nat.reduceAdd, ww])
   refine S.next (i + 1) ⟨by omega, fun j hj y hy => ?_⟩ (by omega) (by (repeat first | refine uA ?_ | (refine ⟨?_, ?_⟩; focus first | rfl | simp [slot]) | rfl | simp))
   rcases c1Q j i with h1 | h1
   ·exact hm j h1 y hy
   ·have : j = i := by omega
    subst this
    rw [hgi] at hy
    cases hy
    exact hc2
 ·have hi' : i = l.length := by omega
  subst hi'
  rw [a3U hm]
  (repeat first | refine uA ?_ | (refine uK ?_ ?_; focus first | omega | (intros; simp_all <;> omega)) | simp (disch := omega) only [go_sem, Nat.reduceBEq, Nat.reduceAdd, ww])
  exact S.done (j3.out rfl (Imp.refl rfl) rfl)
theorem b6Q (g : Nat) (hcal : callable Tryz.prog g = true) (p : Nm.Rt -> Bool) (l : List Nm.Rt) (hn : l.length <= 1099511627776) (hg : ∀ x ∈ l, FZ g [rc x] (.v (.bool (p x)))) :
  FZ 44 [rts l, .v (.func (.func g) #[] #[])] (.v (.bool (l.any p))) := by
 refine kW Tryz.func44 (by cbv) (by rfl) fun w O hw => ?_
 have h := b7j g hcal p l hn hg
 have e := a4U p l
 generalize a1O p l = n at *
 simp only [j6]
 simp only [rts, ints] at *
 (repeat first | refine uA ?_ | (refine uK ?_ ?_; focus first | omega | (intros; simp_all <;> omega)) | simp (disch := omega) only [go_sem, Nat.reduceBEq, Nat.reduceAdd, ww] | (refine uD h ?_ ?_ ?_; exact tz hw; exact rfl))
 rw [e]
 exact S.done (j3.out rfl (Imp.refl rfl) rfl)
theorem b3W (g : Nat) (hcal : callable Tryz.prog g = true) (p : Fr -> Bool) (l : List Fr) (hn : l.length <= 1099511627776) (hg : ∀ x ∈ l, FZ g [x.c] (.v (.bool (p x)))) :
  FZ 209 [frs l, .v (.func (.func g) #[] #[])] (ints (a1O p l)) := by
 refine kW Tryz.func209 (by cbv) (by rfl) fun w O hw => ?_
 simp only [j6, frs]
 (repeat first | refine uA ?_ | (refine uK ?_ ?_; focus first | omega | (intros; simp_all <;> omega)) | simp (disch := omega) only [go_sem, Nat.reduceBEq, Nat.reduceAdd, ww, c1q])
 refine S.loop (X := Nat) (fun i => ⟨[(0, frs l), (1, .v (.func (.func g) #[] #[])), (7, ints l.length), (8, ints i)], []⟩) (fun i => i <= l.length /\ ∀ j, j < i -> ∀ x, l[j]? = some x -> p x = false) (fun i => l.length - i) 0 ⟨c1y _, fun _ h => absurd h (Nat.not_lt_zero _)⟩ (by (repeat first | refine uA ?_ | (refine ⟨?_, ?_⟩; focus first | rfl | simp [slot]) | rfl | simp)) ?_
 rintro i ⟨hi, hm⟩
 simp only [frs, ints]
 (repeat first | refine uA ?_ | (refine uK ?_ ?_; focus first | omega | (intros; simp_all <;> omega)) | simp (disch := omega) only [go_sem, Nat.reduceBEq, Nat.reduceAdd, ww])
 (refine uJ rfl (fun hc => ?_) fun hc => ?_)
 ·have hi' : i < l.length := by omega
  have hgi := c1p hi'
  generalize l[i] = x at hgi
  have hs := hg x (c1t hgi)
  simp only [Fr.c, Fr.enc, sb] at hs
  (repeat first | refine uA ?_ | (refine uK ?_ ?_; focus first | omega | (intros; simp_all <;> omega)) | simp (disch := omega) only [go_sem, Nat.reduceBEq, Nat.reduceAdd, ww, hgi, c1r, c1q, Fr.c, Fr.enc, sb, c1u, hcal] | (refine uD hs ?_ ?_ ?_; exact tz hw; exact rfl))
  refine S.cond rfl (fun hc2 => ?_) (fun hc2 => ?_)
  ·rw [a5h hgi hc2 hm]
   (repeat first | refine uA ?_ | (refine uK ?_ ?_; focus first | omega | (intros; simp_all <;> omega)) | simp (disch := omega) only [go_sem, Nat.reduceBEq, Nat.reduceAdd, ww])
   exact S.done (j3.out rfl (Imp.refl rfl) rfl)
  ·(repeat first | refine uA ?_ | (refine uK ?_ ?_; focus first | omega | (intros; simp_all <;> omega)) | simp (disch := omega) only [go_sem, Nat.reduceBEq, Nat.reduceAdd, ww])
   refine S.next (i + 1) ⟨by omega, fun j hj y hy => ?_⟩ (by omega) (by (repeat first | refine uA ?_ | (refine ⟨?_, ?_⟩; focus first | rfl | simp [slot]) | rfl | simp))
   rcases c1Q j i with h1 | h1
   ·exact hm j h1 y hy
   ·have : j = i := by omega
    subst this
    rw [hgi] at hy
    cases hy
    exact hc2
 ·have hi' : i = l.length := by omega
  subst hi'
  rw [a3U hm]
  (repeat first | refine uA ?_ | (refine uK ?_ ?_; focus first | omega | (intros; simp_all <;> omega)) | simp (disch := omega) only [go_sem, Nat.reduceBEq, Nat.reduceAdd, ww])
  exact S.done (j3.out rfl (Imp.refl rfl) rfl)
theorem b3l (g : Nat) (hcal : callable Tryz.prog g = true) (p : Fr -> Bool) (l : List Fr) (hn : l.length <= 1099511627776) (hg : ∀ x ∈ l, FZ g [x.c] (.v (.bool (p x)))) :
  FZ 134 [frs l, .v (.func (.func g) #[] #[])] (.v (.bool (l.any p))) := by
 refine kW Tryz.func134 (by cbv) (by rfl) fun w O hw => ?_
 have h := b3W g hcal p l hn hg
 have e := a4U p l
 generalize a1O p l = n at *
 simp only [j6]
 simp only [frs, ints] at *
 (repeat first | refine uA ?_ | (refine uK ?_ ?_; focus first | omega | (intros; simp_all <;> omega)) | simp (disch := omega) only [go_sem, Nat.reduceBEq, Nat.reduceAdd, ww] | (refine uD h ?_ ?_ ?_; exact tz hw; exact rfl))
 rw [e]
 exact S.done (j3.out rfl (Imp.refl rfl) rfl)
set_option maxHeartbeats 8000000
theorem b6U {α : Type} (p : α -> Bool) (a b c d e : α) : [a, b, c, d, e].all p = (p a && p b && p c && p d && p e) := by simp [Bool.and_assoc]
theorem a3Q {α : Type} (p : α -> Bool) (a b c : α) : [a, b, c].all p = (p a && p b && p c) := by simp [Bool.and_assoc]
theorem a4C {α : Type} (p : α -> Bool) (a b : α) : [a, b].all p = (p a && p b) := by simp
theorem Rbs.five {k : Nat} {a b c d e : Nm.Rt} (h : 5 <= k) (h1 : Rb k a) (h2 : Rb k b) (h3 : Rb k c) (h4 : Rb k d) (h5 : Rb k e) : Rbs k [a, b, c, d, e] := ⟨h, fun x hx => by simp at hx; rcases hx with rfl | rfl | rfl | rfl | rfl <;> assumption⟩
theorem Rbs.three {k : Nat} {a b c : Nm.Rt} (h : 3 <= k) (h1 : Rb k a) (h2 : Rb k b) (h3 : Rb k c) : Rbs k [a, b, c] := ⟨h, fun x hx => by simp at hx; rcases hx with rfl | rfl | rfl <;> assumption⟩
theorem Rbs.two {k : Nat} {a b : Nm.Rt} (h : 2 <= k) (h1 : Rb k a) (h2 : Rb k b) : Rbs k [a, b] := ⟨h, fun x hx => by simp at hx; rcases hx with rfl | rfl <;> assumption⟩
theorem b8c (l : Lk) (hl : Lb 1073741824 l) : FZ 200 [l.c] (ints (U3 l)) := by
  refine kW Tryz.func200 (by cbv) (by rfl) fun w O hw => ?_
  obtain ⟨length, low, high, speed, brake, shape⟩ := l
  obtain ⟨b1, b2, b3, b4, b5, b6⟩ := hl
  simp only at b1 b2 b3 b4 b5 b6
  have c1 := b1.mono (m := 17179869184) (by decide)
  have c2 := b2.mono (m := 17179869184) (by decide)
  have c3 := b3.mono (m := 17179869184) (by decide)
  have c4 := b4.mono (m := 17179869184) (by decide)
  have c5 := b5.mono (m := 17179869184) (by decide)
  have hsm := a7e _ (Rbs.five (by decide) c1 c2 c3 c4 c5)
  rw [b6U] at hsm
  have hs1 := O3 length c1
  have hcm := K7 low high c2 c3
  have hs2 := O3 speed c4
  have hs3 := O3 brake c5
  have hp := a4i shape b6
  have hv := fun (v : Vt) (h : v ∈ shape) => a7e _ (Rbs.two (by decide) ((b6.2 v h).1.mono (m := 17179869184) (by decide)) ((b6.2 v h).2.mono (m := 17179869184) (by decide)))
  have hn := b6.1
  unfold U3
  simp only
  generalize (j4 length && j4 low && j4 high && j4 speed && j4 brake) = q at *
  generalize y8 (Nm.d9 length) = n1 at *
  generalize Nm.q8 (Nm.d9 low) (Nm.d9 high) = n2 at *
  generalize y8 (Nm.d9 speed) = n3 at *
  generalize y8 (Nm.d9 brake) = n4 at *
  generalize U2 shape 8 = n5 at *
  simp only [j6]
  simp only [Lk.c, Lk.enc, rc, rts, rcs, vts, sb, ints, c1J, c1N] at *
  (repeat first | refine uG hs1 ?_ | refine uG hcm ?_ | refine uG hsm ?_ | refine uA ?_ | (refine uK ?_ ?_; focus first | omega | (intros; simp_all <;> omega)) | simp (disch := omega) only [go_sem, Nat.reduceBEq, Nat.reduceAdd, ww] | (refine uD hs1 ?_ ?_ ?_; exact tz hw; exact rfl) | (refine uD hcm ?_ ?_ ?_; exact tz hw; exact rfl) | (refine uE hsm ?_ ?_ ?_ ?_; exact tz hw; exact rfl; focus (repeat' first | exact j5.nil | exact Imp.refl rfl | exact Imp.frz rfl rfl rfl | (refine Imp.J9 rfl rfl ?_ ?_; (focus ((try simp only [c1s]); omega)); (focus first | rfl | assumption)) | refine j5.cons ?_ ?_); done))
  refine S.cond rfl (fun hc => ?_) (fun hc => ?_)
  · rw [if_pos (by simp only [c1Z, Bool.not_eq_true', c1w] at hc; rcases hc with (hc | hc) | hc <;> simp [hc])]
    (repeat first | refine uA ?_ | (refine uK ?_ ?_; focus first | omega | (intros; simp_all <;> omega)) | simp (disch := omega) only [go_sem, Nat.reduceBEq, Nat.reduceAdd, ww])
    exact S.done (j3.out rfl (Imp.refl rfl) rfl)
  rw [if_neg (by simp only [c1H, Bool.not_eq_false', c1x] at hc; simp [hc])]
  (repeat first | refine uG hs2 ?_ | refine uG hs3 ?_ | refine uA ?_ | (refine uK ?_ ?_; focus first | omega | (intros; simp_all <;> omega)) | simp (disch := omega) only [go_sem, Nat.reduceBEq, Nat.reduceAdd, ww] | (refine uD hs2 ?_ ?_ ?_; exact tz hw; exact rfl) | (refine uD hs3 ?_ ?_ ?_; exact tz hw; exact rfl))
  refine S.cond rfl (fun hc => ?_) (fun hc => ?_)
  · rw [if_pos (by simp only [c1Z, c1w] at hc; exact hc)]
    (repeat first | refine uA ?_ | (refine uK ?_ ?_; focus first | omega | (intros; simp_all <;> omega)) | simp (disch := omega) only [go_sem, Nat.reduceBEq, Nat.reduceAdd, ww])
    exact S.done (j3.out rfl (Imp.refl rfl) rfl)
  rw [if_neg (by simp only [c1H, c1x] at hc; simp [hc])]
  (repeat first | refine uG hp ?_ | refine uA ?_ | (refine uK ?_ ?_; focus first | omega | (intros; simp_all <;> omega)) | simp (disch := omega) only [go_sem, Nat.reduceBEq, Nat.reduceAdd, ww] | (refine uD hp ?_ ?_ ?_; exact tz hw; exact rfl))
  refine S.cond rfl (fun hc => ?_) (fun hc => ?_)
  · rw [if_pos (by simpa using hc)]
    (repeat first | refine uA ?_ | (refine uK ?_ ?_; focus first | omega | (intros; simp_all <;> omega)) | simp (disch := omega) only [go_sem, Nat.reduceBEq, Nat.reduceAdd, ww])
    exact S.done (j3.out rfl (Imp.refl rfl) rfl)
  rw [if_neg (by simpa using hc)]
  (repeat first | refine uA ?_ | (refine uK ?_ ?_; focus first | omega | (intros; simp_all <;> omega)) | simp (disch := omega) only [go_sem, Nat.reduceBEq, Nat.reduceAdd, ww, c1q])
  refine S.loop (X := Nat) (fun i => ⟨[(50, vts shape), (51, ints shape.length), (52, ints i)], []⟩) (fun i => i <= shape.length /\ (shape.all fun v => j4 v.x && j4 v.y) = (shape.drop i).all fun v => j4 v.x && j4 v.y) (fun i => shape.length - i) 0 ⟨c1y _, rfl⟩ (by (repeat first | refine uA ?_ | (refine ⟨?_, ?_⟩; focus first | rfl | simp [slot]) | rfl | simp)) ?_
  rintro i ⟨hi, hg⟩
  simp only [vts, ints]
  (repeat first | refine uA ?_ | (refine uK ?_ ?_; focus first | omega | (intros; simp_all <;> omega)) | simp (disch := omega) only [go_sem, Nat.reduceBEq, Nat.reduceAdd, ww])
  (refine uJ rfl (fun hc => ?_) fun hc => ?_)
  · have hi' : i < shape.length := by omega
    have hgi := c1p hi'
    generalize shape[i] = x at hgi
    have hd := drop_at hgi
    have hs := hv x (c1t hgi)
    rw [a4C] at hs
    (repeat first | refine uG hs ?_ | refine uA ?_ | (refine uK ?_ ?_; focus first | omega | (intros; simp_all <;> omega)) | simp (disch := omega) only [go_sem, Nat.reduceBEq, Nat.reduceAdd, ww, hgi, c1r, c1q, Vt.enc, sb] | (refine uE hs ?_ ?_ ?_ ?_; exact tz hw; exact rfl; focus (repeat' first | exact j5.nil | exact Imp.refl rfl | exact Imp.frz rfl rfl rfl | (refine Imp.J9 rfl rfl ?_ ?_; (focus ((try simp only [c1s, hgi, c1r, c1q, Vt.enc, sb]); omega)); (focus first | rfl | assumption)) | refine j5.cons ?_ ?_); done))
    refine S.cond rfl (fun hc2 => ?_) (fun hc2 => ?_)
    · have : (shape.all fun v => j4 v.x && j4 v.y) = false := by
        rw [hg, hd, List.all_cons]
        simp only [Bool.not_eq_true'] at hc2
        rw [hc2]; rfl
      rw [this]
      (repeat first | refine uA ?_ | (refine uK ?_ ?_; focus first | omega | (intros; simp_all <;> omega)) | simp (disch := omega) only [go_sem, Nat.reduceBEq, Nat.reduceAdd, ww])
      exact S.done (j3.out rfl (Imp.refl rfl) rfl)
    · (repeat first | refine uA ?_ | (refine uK ?_ ?_; focus first | omega | (intros; simp_all <;> omega)) | simp (disch := omega) only [go_sem, Nat.reduceBEq, Nat.reduceAdd, ww])
      refine S.next (i + 1) ⟨by omega, ?_⟩ (by omega) (by (repeat first | refine uA ?_ | (refine ⟨?_, ?_⟩; focus first | rfl | simp [slot]) | rfl | simp))
      rw [hg, hd, List.all_cons]
      simp only [Bool.not_eq_false'] at hc2
      rw [hc2]; rfl
  · have : (shape.all fun v => j4 v.x && j4 v.y) = true := by rw [hg, List.drop_eq_nil_of_le (by omega)]; rfl
    rw [this]
    (repeat first | refine uA ?_ | (refine uK ?_ ?_; focus first | omega | (intros; simp_all <;> omega)) | simp (disch := omega) only [go_sem, Nat.reduceBEq, Nat.reduceAdd, ww])
    exact S.done (j3.out rfl (Imp.refl rfl) rfl)
theorem a7O (a : Am) (hl : Ab 1073741824 a) : FZ 87 [a.c] (ints (J8 a)) := by
 refine kW Tryz.func87 (by cbv) (by rfl) fun w O hw => ?_
 obtain ⟨name, ⟨x, y, half, t⟩, links⟩ := a
 obtain ⟨b0, ⟨b1, b2, b3⟩, hn, hb⟩ := hl
 simp only at b0 b1 b2 b3 hn hb
 have c1 := b1.mono (m := 17179869184) (by decide)
 have c2 := b2.mono (m := 17179869184) (by decide)
 have c3 := b3.mono (m := 17179869184) (by decide)
 have hnm := b5T name (by omega)
 have hsm := a7e _ (Rbs.three (by decide) c1 c2 c3)
 rw [a3Q] at hsm
 have hs := O3 t c3
 unfold J8 a1Q
 simp only
 generalize a0m name = q0 at *
 generalize (j4 x && j4 y && j4 t) = q at *
 generalize y8 (Nm.d9 t) = n1 at *
 simp only [j6]
 simp only [Am.c, Am.enc, rc, rts, rcs, lks, sb, ints, c1J, c1N] at *
 (repeat first | refine uF hnm ?_ | refine uA ?_ | (refine uK ?_ ?_; focus first | omega | (intros; simp_all <;> omega)) | simp (disch := omega) only [go_sem, Nat.reduceBEq, Nat.reduceAdd, ww] | (refine uB hnm ?_ ?_; exact rfl))
 refine S.cond rfl (fun hc => ?_) (fun hc => ?_)
 ·rw [if_pos (by simpa using hc)]
  (repeat first | refine uA ?_ | (refine uK ?_ ?_; focus first | omega | (intros; simp_all <;> omega)) | simp (disch := omega) only [go_sem, Nat.reduceBEq, Nat.reduceAdd, ww])
  exact S.done (j3.out rfl (Imp.refl rfl) rfl)
 rw [if_neg (by simpa using hc)]
 (repeat first | refine uA ?_ | (refine uK ?_ ?_; focus first | omega | (intros; simp_all <;> omega)) | simp (disch := omega) only [go_sem, Nat.reduceBEq, Nat.reduceAdd, ww, c1q])
 refine S.cond rfl (fun hc => ?_) (fun hc => ?_)
 ·rw [if_pos (by simp only [c1w] at hc; omega)]
  (repeat first | refine uA ?_ | (refine uK ?_ ?_; focus first | omega | (intros; simp_all <;> omega)) | simp (disch := omega) only [go_sem, Nat.reduceBEq, Nat.reduceAdd, ww])
  exact S.done (j3.out rfl (Imp.refl rfl) rfl)
 rw [if_neg (by simp only [c1x] at hc; omega)]
 by_cases h0 : links.length = 0
 ·rw [if_pos (.inl h0)]
  have e0 : decide ((links.length : Int) = 0) = true := decide_eq_true (by omega)
  (repeat first | refine uG hs ?_ | refine uG hsm ?_ | refine uA ?_ | (refine uK ?_ ?_; focus first | omega | (intros; simp_all <;> omega)) | simp (disch := omega) only [go_sem, Nat.reduceBEq, Nat.reduceAdd, ww, c1q, e0] | (refine uD hs ?_ ?_ ?_; exact tz hw; exact rfl) | (refine uE hsm ?_ ?_ ?_ ?_; exact tz hw; exact rfl; focus (repeat' first | exact j5.nil | exact Imp.refl rfl | exact Imp.frz rfl rfl rfl | (refine Imp.J9 rfl rfl ?_ ?_; (focus ((try simp only [c1s, c1q, e0]); omega)); (focus first | rfl | assumption)) | refine j5.cons ?_ ?_); done))
  refine S.cond rfl (fun _ => ?_) (fun hc => by simp at hc)
  (repeat first | refine uA ?_ | (refine uK ?_ ?_; focus first | omega | (intros; simp_all <;> omega)) | simp (disch := omega) only [go_sem, Nat.reduceBEq, Nat.reduceAdd, ww])
  exact S.done (j3.out rfl (Imp.refl rfl) rfl)
 have e0 : decide ((links.length : Int) = 0) = false := decide_eq_false (by omega)
 (repeat first | refine uG hs ?_ | refine uG hsm ?_ | refine uA ?_ | (refine uK ?_ ?_; focus first | omega | (intros; simp_all <;> omega)) | simp (disch := omega) only [go_sem, Nat.reduceBEq, Nat.reduceAdd, ww, c1q, e0] | (refine uD hs ?_ ?_ ?_; exact tz hw; exact rfl) | (refine uE hsm ?_ ?_ ?_ ?_; exact tz hw; exact rfl; focus (repeat' first | exact j5.nil | exact Imp.refl rfl | exact Imp.frz rfl rfl rfl | (refine Imp.J9 rfl rfl ?_ ?_; (focus ((try simp only [c1s, c1q, e0]); omega)); (focus first | rfl | assumption)) | refine j5.cons ?_ ?_); done))
 refine S.cond rfl (fun hc => ?_) (fun hc => ?_)
 ·rw [if_pos (by simp only [c1Z, Bool.not_eq_true', c1w] at hc; rcases hc with hc | hc; (· exact .inr (.inl hc)); (· exact .inr (.inr (by cases half <;> simp_all))))]
  (repeat first | refine uA ?_ | (refine uK ?_ ?_; focus first | omega | (intros; simp_all <;> omega)) | simp (disch := omega) only [go_sem, Nat.reduceBEq, Nat.reduceAdd, ww])
  exact S.done (j3.out rfl (Imp.refl rfl) rfl)
 rw [if_neg (by simp only [c1H, Bool.not_eq_false', c1x] at hc; rintro (h | h | h); (· omega); (· simp_all); (· cases half <;> simp_all))]
 (repeat first | refine uA ?_ | (refine uK ?_ ?_; focus first | omega | (intros; simp_all <;> omega)) | simp (disch := omega) only [go_sem, Nat.reduceBEq, Nat.reduceAdd, ww, c1q])
 refine S.loop (X := Nat) (fun i => ⟨[(48, lks links), (49, ints links.length), (50, ints i)], []⟩) (fun i => i <= links.length /\ D8 U3 links = D8 U3 (links.drop i)) (fun i => links.length - i) 0 ⟨c1y _, rfl⟩ (by (repeat first | refine uA ?_ | (refine ⟨?_, ?_⟩; focus first | rfl | simp [slot]) | rfl | simp)) ?_
 rintro i ⟨hi, hg⟩
 simp only [lks, ints]
 (repeat first | refine uA ?_ | (refine uK ?_ ?_; focus first | omega | (intros; simp_all <;> omega)) | simp (disch := omega) only [go_sem, Nat.reduceBEq, Nat.reduceAdd, ww])
 (refine uJ rfl (fun hc => ?_) fun hc => ?_)
 ·have hi' : i < links.length := by omega
  have hgi := c1p hi'
  generalize links[i] = x at hgi
  have hst := a0h (f := U3) hgi
  have hnx := a0c (f := U3) hgi
  have hs := b8c x (hb x (c1t hgi))
  generalize U3 x = e at *
  simp only [Lk.c, Lk.enc, vts, sb, ints] at hs
  (repeat first | refine uG hs ?_ | refine uA ?_ | (refine uK ?_ ?_; focus first | omega | (intros; simp_all <;> omega)) | simp (disch := omega) only [go_sem, Nat.reduceBEq, Nat.reduceAdd, ww, hgi, c1r, c1q, Lk.enc, vts, sb] | (refine uD hs ?_ ?_ ?_; exact tz hw; exact rfl))
  refine S.cond rfl (fun hc2 => ?_) (fun hc2 => ?_)
  ·rw [hg, hst (by simpa using hc2)]
   (repeat first | refine uA ?_ | (refine uK ?_ ?_; focus first | omega | (intros; simp_all <;> omega)) | simp (disch := omega) only [go_sem, Nat.reduceBEq, Nat.reduceAdd, ww])
   exact S.done (j3.out rfl (Imp.refl rfl) rfl)
  ·(repeat first | refine uA ?_ | (refine uK ?_ ?_; focus first | omega | (intros; simp_all <;> omega)) | simp (disch := omega) only [go_sem, Nat.reduceBEq, Nat.reduceAdd, ww])
   refine S.next (i + 1) ⟨by omega, ?_⟩ (by omega) (by (repeat first | refine uA ?_ | (refine ⟨?_, ?_⟩; focus first | rfl | simp [slot]) | rfl | simp))
   rw [hg, hnx (by simpa using hc2)]
 ·rw [hg, a0w (by omega)]
  (repeat first | refine uA ?_ | (refine uK ?_ ?_; focus first | omega | (intros; simp_all <;> omega)) | simp (disch := omega) only [go_sem, Nat.reduceBEq, Nat.reduceAdd, ww])
  exact S.done (j3.out rfl (Imp.refl rfl) rfl)
def a2T (a : Am) (n : Int) : Int := if J8 a ≠ 0 then J8 a else if n ≠ a.links.length then 1 else 0
theorem b4p (a : Am) (n : Int) (hl : Ab 1073741824 a) : FZ 212 [a.c, ints n] (ints (a2T a n)) := by
 refine kW Tryz.func212 (by cbv) (by rfl) fun w O hw => ?_
 have h := a7O a hl
 unfold a2T
 generalize J8 a = e at *
 obtain ⟨name, ⟨x, y, half, t⟩, links⟩ := a
 simp only [j6]
 simp only [Am.c, Am.enc, lks, sb, ints] at *
 (repeat first | refine uA ?_ | (refine uK ?_ ?_; focus first | omega | (intros; simp_all <;> omega)) | simp (disch := omega) only [go_sem, Nat.reduceBEq, Nat.reduceAdd, ww] | (refine uD h ?_ ?_ ?_; exact tz hw; exact rfl))
 refine S.cond rfl (fun hc => ?_) (fun hc => ?_)
 ·rw [if_pos (by simpa using hc)]
  (repeat first | refine uA ?_ | (refine uK ?_ ?_; focus first | omega | (intros; simp_all <;> omega)) | simp (disch := omega) only [go_sem, Nat.reduceBEq, Nat.reduceAdd, ww])
  exact S.done (j3.out rfl (Imp.refl rfl) rfl)
 rw [if_neg (by simpa using hc)]
 (repeat first | refine uA ?_ | (refine uK ?_ ?_; focus first | omega | (intros; simp_all <;> omega)) | simp (disch := omega) only [go_sem, Nat.reduceBEq, Nat.reduceAdd, ww, c1q])
 refine S.cond rfl (fun hc => ?_) (fun hc => ?_)
 ·rw [if_pos (by simpa using hc)]
  (repeat first | refine uA ?_ | (refine uK ?_ ?_; focus first | omega | (intros; simp_all <;> omega)) | simp (disch := omega) only [go_sem, Nat.reduceBEq, Nat.reduceAdd, ww])
  exact S.done (j3.out rfl (Imp.refl rfl) rfl)
 ·rw [if_neg (by simpa using hc)]
  (repeat first | refine uA ?_ | (refine uK ?_ ?_; focus first | omega | (intros; simp_all <;> omega)) | simp (disch := omega) only [go_sem, Nat.reduceBEq, Nat.reduceAdd, ww])
  exact S.done (j3.out rfl (Imp.refl rfl) rfl)
def a4m (x : Lk × Nm.Rt) : Int := if Nm.q8 (Nm.d9 x.2) (Nm.d9 x.1.low) < 0 \/ 0 < Nm.q8 (Nm.d9 x.2) (Nm.d9 x.1.high) then 17 else 0
theorem b0a (a : Am) (q : List Nm.Rt) : a1c a q = if a2T a q.length ≠ 0 then a2T a q.length else D8 a4m (a.links.zip q) := by
 unfold a1c a2T
 by_cases h : J8 a = 0
 ·rw [if_neg (by simp [h])]
  by_cases h2 : q.length = a.links.length
  ·simp [h, h2]; rfl
  ·have h3 : ¬ (q.length : Int) = a.links.length := by omega
   simp [h, h2, h3]
 ·simp [h]
theorem M4 {α β : Type} {l : List α} {m : List β} {i : Nat} {x : α} {y : β} (h : l[i]? = some x) (k : m[i]? = some y) : (l.zip m)[i]? = some (x, y) := by
 rw [List.getElem?_zip_eq_some]; exact ⟨h, k⟩
theorem b4q (a : Am) (q : List Nm.Rt) (hl : Ab 1073741824 a) (hq : Rbs 1073741824 q) : FZ 141 [a.c, rts q] (ints (a1c a q)) := by
 refine kW Tryz.func141 (by cbv) (by rfl) fun w O hw => ?_
 have h := b4p a q.length hl
 rw [b0a]
 have hlen : a2T a q.length = 0 -> q.length = a.links.length := by
  unfold a2T
  intro h
  split at h
  ·rename_i h1; exact absurd h h1
  ·split at h
   ·cases h
   ·rename_i h1; have := Classical.not_not.1 h1; omega
 generalize a2T a q.length = e at *
 obtain ⟨hqn, hqb⟩ := hq
 obtain ⟨name, ⟨x, y, half, t⟩, links⟩ := a
 obtain ⟨b0, ⟨b1, b2, b3⟩, hn, hb⟩ := hl
 simp only at b0 b1 b2 b3 hn hb hlen
 simp only [j6]
 simp only [Am.c, Am.enc, lks, sb, ints, rts] at *
 (repeat first | refine uA ?_ | (refine uK ?_ ?_; focus first | omega | (intros; simp_all <;> omega)) | simp (disch := omega) only [go_sem, Nat.reduceBEq, Nat.reduceAdd, ww, c1q] | (refine uD h ?_ ?_ ?_; exact tz hw; exact rfl))
 refine S.cond rfl (fun hc => ?_) (fun hc => ?_)
 ·rw [if_pos (by simpa using hc)]
  (repeat first | refine uA ?_ | (refine uK ?_ ?_; focus first | omega | (intros; simp_all <;> omega)) | simp (disch := omega) only [go_sem, Nat.reduceBEq, Nat.reduceAdd, ww])
  exact S.done (j3.out rfl (Imp.refl rfl) rfl)
 rw [if_neg (by simpa using hc)]
 have hlen := hlen (by simpa using hc)
 (repeat first | refine uA ?_ | (refine uK ?_ ?_; focus first | omega | (intros; simp_all <;> omega)) | simp (disch := omega) only [go_sem, Nat.reduceBEq, Nat.reduceAdd, ww, c1q])
 refine S.loop (X := Nat) (fun i => ⟨[(1, rts q), (16, lks links), (17, ints links.length), (18, ints i)], []⟩) (fun i => i <= links.length /\ D8 a4m (links.zip q) = D8 a4m ((links.zip q).drop i)) (fun i => links.length - i) 0 ⟨c1y _, rfl⟩ (by (repeat first | refine uA ?_ | (refine ⟨?_, ?_⟩; focus first | rfl | simp [slot]) | rfl | simp)) ?_
 rintro i ⟨hi, hg⟩
 simp only [rts, lks, ints]
 (repeat first | refine uA ?_ | (refine uK ?_ ?_; focus first | omega | (intros; simp_all <;> omega)) | simp (disch := omega) only [go_sem, Nat.reduceBEq, Nat.reduceAdd, ww])
 (refine uJ rfl (fun hc => ?_) fun hc => ?_)
 ·have hi' : i < links.length := by omega
  have hgi := c1p hi'
  have hgq := c1p (show i < q.length by omega)
  generalize links[i] = x at hgi
  generalize q[i]'_ = v at hgq
  have hz := M4 hgi hgq
  have hst := a0h (f := a4m) hz
  have hnx := a0c (f := a4m) hz
  have bx := hb x (c1t hgi)
  have bv := (hqb v (c1t hgq)).mono (m := 17179869184) (by decide)
  have h1 := K7 v x.low bv (bx.2.1.mono (by decide))
  have h2 := K7 v x.high bv (bx.2.2.1.mono (by decide))
  unfold a4m at hst hnx
  simp only at hst hnx
  generalize Nm.q8 (Nm.d9 v) (Nm.d9 x.low) = n1 at *
  generalize Nm.q8 (Nm.d9 v) (Nm.d9 x.high) = n2 at *
  have hqi : (i : Int) < q.length := by omega
  simp only [rc, sb, ints] at h1 h2
  (repeat first | refine uA ?_ | (refine uK ?_ ?_; focus first | omega | (intros; simp_all <;> omega)) | simp (disch := omega) only [go_sem, Nat.reduceBEq, Nat.reduceAdd, ww, hgi, hgq, c1r, c1q, Lk.enc, rcs, vts, sb, c1u] | (refine uD h1 ?_ ?_ ?_; exact tz hw; exact rfl) | (refine uD h2 ?_ ?_ ?_; exact tz hw; exact rfl))
  refine S.cond rfl (fun hc2 => ?_) (fun hc2 => ?_)
  ·have hp : n1 < 0 \/ 0 < n2 := by simpa using hc2
   rw [if_pos hp] at hst
   rw [hg, show a4m = fun x : Lk × Nm.Rt => if Nm.q8 (Nm.d9 x.2) (Nm.d9 x.1.low) < 0 \/ 0 < Nm.q8 (Nm.d9 x.2) (Nm.d9 x.1.high) then 17 else 0 from rfl, hst (by decide)]
   (repeat first | refine uA ?_ | (refine uK ?_ ?_; focus first | omega | (intros; simp_all <;> omega)) | simp (disch := omega) only [go_sem, Nat.reduceBEq, Nat.reduceAdd, ww])
   exact S.done (j3.out rfl (Imp.refl rfl) rfl)
  ·have hp : ¬ (n1 < 0 \/ 0 < n2) := by simpa using hc2
   rw [if_neg hp] at hnx
   (repeat first | refine uA ?_ | (refine uK ?_ ?_; focus first | omega | (intros; simp_all <;> omega)) | simp (disch := omega) only [go_sem, Nat.reduceBEq, Nat.reduceAdd, ww])
   refine S.next (i + 1) ⟨by omega, ?_⟩ (by omega) (by (repeat first | refine uA ?_ | (refine ⟨?_, ?_⟩; focus first | rfl | simp [slot]) | rfl | simp))
   rw [hg, show a4m = fun x : Lk × Nm.Rt => if Nm.q8 (Nm.d9 x.2) (Nm.d9 x.1.low) < 0 \/ 0 < Nm.q8 (Nm.d9 x.2) (Nm.d9 x.1.high) then 17 else 0 from rfl, hnx rfl]
 ·rw [hg, a0w (by rw [List.length_zip]; omega)]
  (repeat first | refine uA ?_ | (refine uK ?_ ?_; focus first | omega | (intros; simp_all <;> omega)) | simp (disch := omega) only [go_sem, Nat.reduceBEq, Nat.reduceAdd, ww])
  exact S.done (j3.out rfl (Imp.refl rfl) rfl)
set_option maxRecDepth 100000
set_option maxHeartbeats 4000000
theorem a2j {a : Nm.Rt} (h : j4 a = true) : Rb 3 a := by
 unfold j4 at h
 simp only [c1B, c1w] at h
 exact ⟨h.1.1.1.1, by have := h.1.1.1.2; omega⟩
theorem N8 {a : Nm.Rt} (h : j4 a = true) : Rb 1048576 a := (a2j h).mono (by decide)
theorem a8S {α : Type} {f : α -> Int} : ∀ {l : List α}, D8 f l = 0 -> ∀ x ∈ l, f x = 0
 | [], _, x, hx => by cases hx
 | y :: l, h, x, hx => by
  rw [D8] at h
  split at h
  ·rename_i h0
   rcases List.mem_cons.1 hx with rfl | hx
   ·exact h0
   ·exact a8S h x hx
  ·rename_i h0; exact absurd h h0
theorem b5e {l : List Vt} (h : U2 l 8 = 0) : l.length <= 8 := by
 unfold U2 at h
 split at h
 ·cases h
 ·omega
theorem a2W {l : Lk} (h : U3 l = 0) : Lb 1048576 l /\ Nm.q8 (Nm.d9 l.low) (Nm.d9 l.high) < 0 /\ 0 < y8 (Nm.d9 l.speed) := by
 unfold U3 at h
 split at h
 ·cases h
 rename_i h1
 split at h
 ·cases h
 rename_i h2
 split at h
 ·rename_i h3; exact absurd h h3
 rename_i h3
 split at h
 ·rename_i h4
  have h1a : (j4 l.length && j4 l.low && j4 l.high && j4 l.speed && j4 l.brake) = true := by
   cases hb : (j4 l.length && j4 l.low && j4 l.high && j4 l.speed && j4 l.brake) with
   | true => rfl
   | false => exact absurd (.inl hb) h1
  simp only [c1B] at h1a
  obtain ⟨⟨⟨⟨s1, s2⟩, s3⟩, s4⟩, s5⟩ := h1a
  have hpe := b5e (Classical.not_not.1 h3)
  rw [List.all_eq_true] at h4
  refine ⟨⟨N8 s1, N8 s2, N8 s3, N8 s4, N8 s5, by omega, fun v hv => ?_⟩, ?_, ?_⟩
  ·have := h4 v hv
   simp only [c1B] at this
   exact ⟨N8 this.1, N8 this.2⟩
  ·have : ¬ 0 <= Nm.q8 (Nm.d9 l.low) (Nm.d9 l.high) := fun h => h1 (.inr (.inr h))
   omega
  ·have : ¬ y8 (Nm.d9 l.speed) <= 0 := fun h => h2 (.inl h)
   omega
 ·cases h
theorem a1v {a : Am} (h : J8 a = 0) : Ab 1048576 a /\ ∀ l ∈ a.links, U3 l = 0 := by
 unfold J8 at h
 split at h
 ·cases h
 rename_i h1
 split at h
 ·cases h
 split at h
 ·cases h
 rename_i h2 h3
 have hn : a.name.length <= 12 := by
  have : a0m a.name = true := by simpa using h1
  unfold a0m at this
  simp only [c1B, c1w] at this
  exact this.2
 have h3a : (j4 a.base.x && j4 a.base.y && j4 a.base.t) = true := by
  cases hb : (j4 a.base.x && j4 a.base.y && j4 a.base.t) with
  | true => rfl
  | false => exact absurd (.inr (.inl hb)) h3
 simp only [c1B] at h3a
 have hl := a8S h
 exact ⟨⟨by omega, ⟨N8 h3a.1.1, N8 h3a.1.2, N8 h3a.2⟩, by omega, fun l hl' => (a2W (hl l hl')).1⟩, hl⟩
theorem b2t {f : Fr} (h : okF f = true) : Fb 1048576 f /\ Y6 f = true := by
 unfold okF okV at h
 simp only [c1B, c1w] at h
 obtain ⟨⟨⟨⟨⟨⟨g1, g2⟩, s1⟩, s2⟩, g3⟩, s3⟩, z⟩ := h
 refine ⟨⟨N8 s1, N8 s2, N8 s3⟩, ?_⟩
 unfold Y6 C8
 simp [g1, g2, g3, z]
theorem Fb.mono {k m : Nat} {f : Fr} (h : Fb k f) (hm : k <= m) : Fb m f := ⟨h.1.mono hm, h.2.1.mono hm, h.2.2.mono hm⟩
theorem Vbs.mono {k m : Nat} {l : List Vt} (h : Vbs k l) (hm : k <= m) : Vbs m l := ⟨c1v h.1 hm, fun v hv => ⟨(h.2 v hv).1.mono hm, (h.2 v hv).2.mono hm⟩⟩
theorem Ab.mono {k m : Nat} {a : Am} (h : Ab k a) (hm : k <= m) : Ab m a := ⟨c1v h.1 hm, h.2.1.mono hm, c1v h.2.2.1 hm, fun l hl => by
 obtain ⟨h1, h2, h3, h4, h5, h6⟩ := h.2.2.2 l hl
 exact ⟨h1.mono hm, h2.mono hm, h3.mono hm, h4.mono hm, h5.mono hm, h6.mono hm⟩⟩
theorem Wb.mono {k m : Nat} {w : Wk} (h : Wb k w) (hm : k <= m) : Wb m w :=
  ⟨⟨c1v h.arms.1 hm, fun x hx => (h.arms.2 x hx).mono hm⟩, ⟨c1v h.walls.1 hm, fun x hx => (h.walls.2 x hx).mono hm⟩, ⟨c1v h.parts.1 hm, fun x hx => ⟨c1v (h.parts.2 x hx).1 hm, (h.parts.2 x hx).2.1.mono hm, (h.parts.2 x hx).2.2.mono hm⟩⟩,
   ⟨c1v h.slots.1 hm, fun x hx => ⟨c1v (h.slots.2 x hx).1 hm, (h.slots.2 x hx).2.1.mono hm, (h.slots.2 x hx).2.2.mono hm⟩⟩, ⟨c1v h.gates.1 hm, fun x hx => ⟨c1v (h.gates.2 x hx).1 hm, ⟨(h.gates.2 x hx).2.1.1.mono hm, (h.gates.2 x hx).2.1.2.mono hm⟩, (h.gates.2 x hx).2.2.1.mono hm, (h.gates.2 x hx).2.2.2.mono hm⟩⟩, h.walk.mono hm⟩
theorem Stb.mono {k m : Nat} {s : Stt} (h : Stb k s) (hm : k <= m) : Stb m s :=
 ⟨⟨c1v h.arms.1 hm, fun x hx => ⟨⟨c1v (h.arms.2 x hx).1.1 hm, fun r hr => ((h.arms.2 x hx).1.2 r hr).mono hm⟩, c1v (h.arms.2 x hx).2.1 hm, fun r hr => ((h.arms.2 x hx).2.2 r hr).mono hm⟩⟩, ⟨c1v h.parts.1 hm, fun x hx => (h.parts.2 x hx).mono hm⟩, h.people.mono hm, c1v h.gates hm⟩
theorem a6p {α β : Type} {f : α -> β} : ∀ {l : List α} {x : α × β}, x ∈ l.zip (l.map f) -> x.1 ∈ l /\ x.2 = f x.1
 | [], x, h => by simp at h
 | a :: l, x, h => by
  simp only [c1J, List.zip_cons_cons] at h
  rcases List.mem_cons.1 h with rfl | h
  ·exact ⟨List.mem_cons_self .., rfl⟩
  ·exact ⟨List.mem_cons_of_mem _ (a6p h).1, (a6p h).2⟩
theorem a1u (p q : Rat) : Nm.q8 p q < 0 <-> p < q := by
 unfold Nm.q8
 split
 ·simp_all
 ·split
  ·simp_all
  ·simp_all
theorem U1 (p q : Rat) : 0 < Nm.q8 p q <-> q < p := by
 unfold Nm.q8
 split
 ·rename_i h; simp; grind
 ·split
  ·rename_i h1 h2; simp; grind
  ·rename_i h1 h2; simp; grind
theorem b4u {l : Lk} (h : U3 l = 0) : a4m (l, a0r l) = 0 := by
 have hc := (a1u _ _).1 (a2W h).2.1
 unfold a4m a0r
 simp only [Nm.G9]
 rw [if_neg]
 rw [a1u, U1]
 unfold a4h a4M
 have e1 : ∀ p q : Rat, (Nm.q8 p q >= 0) <-> ¬ p < q := fun p q => by rw [<- a1u]; omega
 have e2 : ∀ p q : Rat, (Nm.q8 p q <= 0) <-> ¬ q < p := fun p q => by rw [<- U1]; omega
 simp only [e1, e2]
 repeat' split
 all_goals grind
theorem b2c {l : Lk} (h : U3 l = 0) : U9 (l, Nm.ofQ 0) = 0 := by
 have hs := (a2W h).2.2
 unfold U9
 simp only [Nm.G9]
 rw [if_neg]
 have h0 : J2 0 = 0 := rfl
 rw [h0, U1]
 have hn : 0 < (Nm.d9 l.speed).num := by
  unfold y8 at hs
  split at hs
  ·omega
  ·split at hs <;> omega
 intro hlt
 have := (Rat.lt_iff _ _).1 hlt
 simp at this
 omega
theorem b4o {a : Am} (h : J8 a = 0) (n : Nat) : a0W a (a0n a) n = 0 := by
 have hl := (a1v h).2
 unfold a0W a0n
 simp only
 have g1 : (a.links.map a0r).all C8 = true := by
  rw [List.all_eq_true]
  intro x hx
  obtain ⟨l, _, rfl⟩ := List.mem_map.1 hx
  exact decide_eq_true (Nm.a6v _)
 have g2 : (a.links.map fun _ => Nm.ofQ 0).all C8 = true := by
  rw [List.all_eq_true]
  intro x hx
  obtain ⟨l, _, rfl⟩ := List.mem_map.1 hx
  exact decide_eq_true (Nm.a6v _)
 have hf : a1c a (a.links.map a0r) = 0 := by
  rw [b0a]
  have : a2T a (a.links.map a0r).length = 0 := by
   unfold a2T
   rw [h, if_neg (by decide), c1q, if_neg (by simp)]
  rw [this, if_neg (by decide)]
  refine a5e fun x hx => ?_
  obtain ⟨h1, h2⟩ := a6p hx
  obtain ⟨x1, x2⟩ := x
  simp only at h1 h2
  rw [h2]
  exact b4u (hl x1 h1)
 rw [g1, g2, if_neg (by decide), hf, if_neg (by decide), if_neg (by simp; omega)]
 refine a5e fun x hx => ?_
 obtain ⟨h1, h2⟩ := a6p hx
 obtain ⟨x1, x2⟩ := x
 simp only at h1 h2
 rw [h2]
 exact b2c (hl x1 h1)
theorem a6T (n : Nat) : ∀ (l : List Am) (h : List Int), (∀ a ∈ l, J8 a = 0) -> (C9 (V6 n) h (l.zip (l.map a0n))).1 = 0
 | [], _, _ => rfl
 | a :: l, h, ha => by
  have e : V6 n h (a, a0n a) = (0, a1I h (-1)) := by
   unfold V6
   simp only
   rw [b4o (ha a (by simp)) n, if_neg (by decide), if_neg (by simp [a0n])]
   rfl
  simp only [c1J, List.zip_cons_cons, C9, e]
  exact a6T n l _ fun x hx => ha x (by simp [hx])
theorem b7d {w : Wk} (h : X3 w = 0) (ha : ∀ a ∈ w.arms, J8 a = 0) (hs : ∀ s ∈ w.slots, okF s.frame = true) : H8 w (K4 w) = 0 := by
 unfold H8
 have l1 : (K4 w).arms.length = w.arms.length := by simp [K4]
 have l2 : (K4 w).parts.length = w.parts.length := by simp [K4]
 have l3 : (K4 w).gates.length = w.gates.length := by simp [K4]
 have l4 : (K4 w).people = [] := rfl
 have l5 : (K4 w).tick = 0 := rfl
 have hh : (C9 (V6 w.parts.length) [] (w.arms.zip (K4 w).arms)).1 = 0 := a6T _ w.arms [] ha
 have hp : (K4 w).parts.all Y6 = true := by
  rw [List.all_eq_true]
  intro f hf
  obtain ⟨i, _, rfl⟩ := List.mem_map.1 hf
  unfold a5C
  split
  ·exact (b2t (hs _ (c1E _))).2
  ·unfold a2Z Y6 C8 a1Q
   simp [Nm.a6v]
 rw [h, if_neg (by decide), l4, if_neg (by decide), l1, l2, l3, l5, if_neg (by simp), hh, if_neg (by decide), hp]
 rfl
theorem a3L : Rb 1048576 (Nm.ofQ 0) := ⟨c1v (Nm.G5 (k := 8) (by decide)) (by decide), c1v (Nm.G5 (k := 8) (by decide)) (by decide)⟩
theorem b6e {k : Nat} (hk : 1048576 <= k) {w : Wk} (hw : Wb k w) (ha : ∀ a ∈ w.arms, J8 a = 0) (hs : ∀ s ∈ w.slots, okF s.frame = true) : Stb k (K4 w) := by
 refine ⟨⟨?_, fun x hx => ?_⟩, ⟨?_, fun x hx => ?_⟩, ⟨c1y _, fun v hv => by cases hv⟩, ?_⟩
 ·show (w.arms.map a0n).length <= _
  rw [c1q]; exact hw.arms.1
 ·obtain ⟨a, haa, rfl⟩ := List.mem_map.1 hx
  have hab := hw.arms.2 a haa
  refine ⟨⟨?_, fun r hr => ?_⟩, ?_, fun r hr => ?_⟩
  ·show (a.links.map a0r).length <= _
   rw [c1q]; exact hab.2.2.1
  ·obtain ⟨l, hl, rfl⟩ := List.mem_map.1 hr
   have hlb := hab.2.2.2 l hl
   unfold a0r a4h a4M
   repeat' split
   all_goals first | exact hlb.2.1.fit (by omega) | exact hlb.2.2.1.fit (by omega) | exact a3L.mono hk
  ·show (a.links.map fun _ => Nm.ofQ 0).length <= _
   rw [c1q]; exact hab.2.2.1
  ·obtain ⟨l, hl, rfl⟩ := List.mem_map.1 hr
   exact a3L.mono hk
 ·show ((List.range _).map _).length <= _
  simp; exact hw.parts.1
 ·obtain ⟨i, _, rfl⟩ := List.mem_map.1 hx
  unfold a5C
  split
  ·exact (b2t (hs _ (c1E _))).1.mono hk
  ·exact ⟨a3L.mono hk, a3L.mono hk, a3L.mono hk⟩
 ·show (List.replicate _ _).length <= _
  rw [List.length_replicate]; exact hw.gates.1
def a3K (a b : Nm.Rt) : Nm.Rt := Nm.ofQ (Nm.d9 a + Nm.d9 b)
def a1l (b v : Nm.Rt) : Nm.Rt := if Nm.q8 (J2 (Nm.d9 v)) (Nm.d9 b) <= 0 then Nm.ofQ 0 else if y8 (Nm.d9 v) < 0 then a3K v b else Nm.ofQ (Nm.d9 v - Nm.d9 b)
def a2R (a : Am) (x : Ast) : List Nm.Rt := (a.links.zip x.v).map fun p => a1l p.1.brake p.2
def a4k (a : Am) (x : Ast) : List Nm.Rt := (x.q.zip (a2R a x)).map fun p => a3K p.1 p.2
def b7a (a : Am) (x : Ast) : Ast := ⟨a4k a x, a2R a x, false, x.holds⟩
def mvQ (x : Ast) (u : List Nm.Rt) : List Nm.Rt := (x.q.zip u).map fun p => a3K p.1 p.2
def mvA (x : Ast) (u : List Nm.Rt) : Ast := ⟨mvQ x u, u, true, x.holds⟩
def b6L (x : Lk × Nm.Rt × Nm.Rt) : Bool := !(decide (0 < Nm.q8 (J2 (Nm.d9 x.2.2)) (Nm.d9 x.1.speed)) || decide (0 < Nm.q8 (Nm.d9 x.1.low) (Nm.d9 x.2.1 + Nm.d9 x.2.2)) || decide (0 < Nm.q8 (Nm.d9 x.2.1 + Nm.d9 x.2.2) (Nm.d9 x.1.high)))
def a7j (a : Am) (q u : List Nm.Rt) : Bool := decide (u.length = a.links.length) && (u.all C8 && (a.links.zip (q.zip u)).all b6L)
def a1F (a : Am) (x : Ast) (u : List Nm.Rt) (p : Bool) : Ast := if p && a7j a x.q u then mvA x u else b7a a x
def O5 (a b : Fr) : Fr := ⟨Nm.ofQ (a8q a ⟨b.x, b.y⟩), Nm.ofQ (a8A a ⟨b.x, b.y⟩), (a1K a.half (w9 a.half a.t) b.half (w9 b.half b.t)).1, Nm.ofQ (a1K a.half (w9 a.half a.t) b.half (w9 b.half b.t)).2⟩
def a0o (q : Nm.Rt) : Fr := ⟨Nm.ofQ 0, Nm.ofQ 0, false, Nm.ofQ (Nm.d9 q)⟩
def a4V (l : Lk) : Fr := ⟨l.length, Nm.ofQ 0, false, Nm.ofQ 0⟩
def a0E : Fr -> List (Lk × Nm.Rt) -> List Fr
 | e, [] => [e]
 | e, (l, q) :: r => O5 e (a0o q) :: a0E (O5 (O5 e (a0o q)) (a4V l)) r
def a2N : Fr -> List (Lk × Nm.Rt) -> Fr
 | e, [] => e
 | e, (l, q) :: r => a2N (O5 (O5 e (a0o q)) (a4V l)) r
def a1k (f : Fr) : Fr := ⟨Nm.ofQ (Nm.d9 (Nm.ofQ (0 - Nm.d9 f.x)) * R4 f.half (w9 f.half (Nm.ofQ (- w9 f.half f.t))) - Nm.d9 (Nm.ofQ (0 - Nm.d9 f.y)) * R3 (w9 f.half (Nm.ofQ (- w9 f.half f.t)))), Nm.ofQ (Nm.d9 (Nm.ofQ (0 - Nm.d9 f.x)) * R3 (w9 f.half (Nm.ofQ (- w9 f.half f.t))) + Nm.d9 (Nm.ofQ (0 - Nm.d9 f.y)) * R4 f.half (w9 f.half (Nm.ofQ (- w9 f.half f.t)))), f.half, Nm.ofQ (- w9 f.half f.t)⟩
def a6C (a : Am) (q : List Nm.Rt) (g : Fr) : Fr := O5 (a2N a.base (a.links.zip q)) (a1k g)
def a5W (w : Wk) (s : Stt) (u : List (List Nm.Rt)) (p : List Bool) : List Ast := ((w.arms.zip s.arms).zip (u.zip p)).map fun z => a1F z.1.1 z.1.2 z.2.1 z.2.2
def a8K (w : Wk) (P : List Fr) (z : Am × Ast) : List Fr :=
 if z.2.holds < 0 then P else match w.parts[z.2.holds.toNat]? with
  | some pt => P.set z.2.holds.toNat (a6C z.1 z.2.q pt.grasp)
  | none => P
def a4N (k : Nm.Rt) (v : Vt) : Bool := a1B v && !decide (0 < Nm.q8 (a4h (J2 (Nm.d9 v.x)) (J2 (Nm.d9 v.y))) (Nm.d9 k))
def a8L (p : Vt × Vt) : Vt := ⟨a3K p.1.x p.2.x, a3K p.1.y p.2.y⟩
def a3e (w : Wk) (s : Stt) (u : List (List Nm.Rt)) (p : List Bool) (v : List Vt) : Int :=
 if H8 w s ≠ 0 then H8 w s else
 if u.length ≠ w.arms.length \/ p.length ≠ w.arms.length \/ v.length ≠ s.people.length then 1 else
 if v.all (a4N w.walk) = false then 1 else
 if s.tick = 2000 then 7 else 0
def a9N (w : Wk) (s : Stt) (u : List (List Nm.Rt)) (p : List Bool) (v : List Vt) : Stt :=
 ⟨s.tick + 1, a5W w s u p, (w.arms.zip (a5W w s u p)).foldl (a8K w) s.parts, (s.people.zip v).map a8L, s.gates⟩
theorem b0v {n : Nat} : ∀ {l : List (Am × Ast)} {h : List Int}, (C9 (V6 n) h l).1 = 0 -> ∀ z ∈ l, a0W z.1 z.2 n = 0
 | [], _, _, z, hz => by cases hz
 | y :: l, h, e, z, hz => by
  have hy : (V6 n h y).1 = 0 := by
   unfold C9 at e
   split at e
   ·assumption
   ·exact e
  unfold C9 at e
  rw [if_pos hy] at e
  rcases List.mem_cons.1 hz with rfl | hz
  ·unfold V6 at hy
   split at hy
   ·exact hy
   ·exact Classical.not_not.1 (by assumption)
  ·exact b0v e z hz
theorem a8G {w : Wk} (h : X3 w = 0) : ∀ a ∈ w.arms, J8 a = 0 := by
 have h1 : D8 id (a4E w) = 0 := by
  unfold X3 at h
  split at h
  ·cases h
  ·split at h
   ·cases h
   ·split at h
    ·rename_i h2; exact absurd h h2
    ·exact Classical.not_not.1 (by assumption)
 have h2 : (C9 a0j [] w.arms).1 = 0 := by
  unfold a4E at h1
  simp only [D8, id] at h1
  split at h1
  ·assumption
  ·exact h1
 have key : ∀ (l : List Am) (n : Nms), (C9 a0j n l).1 = 0 -> ∀ a ∈ l, J8 a = 0 := by
  intro l
  induction l with
  | nil => intro n _ a ha; cases ha
  | cons x l ih =>
   intro n hn a ha
   have hx : (a0j n x).1 = 0 := by
    unfold C9 at hn
    split at hn
    ·assumption
    ·exact hn
   unfold C9 at hn
   rw [if_pos hx] at hn
   rcases List.mem_cons.1 ha with rfl | ha
   ·unfold a0j at hx
    split at hx
    ·exact hx
    ·exact Classical.not_not.1 (by assumption)
   ·exact ih _ hn a ha
 exact key _ _ h2
structure c0V (w : Wk) (s : Stt) : Prop where
 works : X3 w = 0
 people : s.people.length <= 4
 tick : 0 <= s.tick /\ s.tick <= 2000
 arms : s.arms.length = w.arms.length
 parts : s.parts.length = w.parts.length
 gates : s.gates.length = w.gates.length
 one : ∀ z ∈ w.arms.zip s.arms, a0W z.1 z.2 w.parts.length = 0
 big : 1 <= w.arms.length /\ w.arms.length <= 4 /\ w.parts.length <= 6 /\ w.gates.length <= 4
theorem a7s {w : Wk} {s : Stt} (h : H8 w s = 0) : c0V w s := by
 unfold H8 at h
 split at h
 ·rename_i h1; exact absurd h h1
 rename_i h1
 split at h
 ·cases h
 split at h
 ·cases h
 split at h
 ·rename_i h2; exact absurd h h2
 rename_i h2 h3 h4
 have h1 := Classical.not_not.1 h1
 have hb := h1
 unfold X3 at hb
 split at hb
 ·cases hb
 split at hb
 ·cases hb
 exact ⟨h1, by omega, by omega, by omega, by omega, by omega, b0v (Classical.not_not.1 h4), by omega⟩
structure b7w (a : Am) (x : Ast) (n : Nat) : Prop where
 arm : J8 a = 0
 q : x.q.length = a.links.length
 v : x.v.length = a.links.length
 holds : -1 <= x.holds /\ x.holds < n
theorem b5w {a : Am} {x : Ast} {n : Nat} (h : a0W a x n = 0) : b7w a x n := by
 unfold a0W at h
 split at h
 ·cases h
 split at h
 ·rename_i h1; exact absurd h h1
 rename_i h1
 split at h
 ·cases h
 have h2 := Classical.not_not.1 h1
 unfold a1c at h2
 split at h2
 ·rename_i h3; exact absurd h2 h3
 rename_i h3
 split at h2
 ·cases h2
 exact ⟨Classical.not_not.1 h3, by omega, by omega, by omega⟩
theorem a3d {a : Am} (h : J8 a = 0) : 1 <= a.links.length /\ a.links.length <= 3 := by
 unfold J8 at h
 split at h
 ·cases h
 split at h
 ·cases h
 split at h
 ·cases h
 ·omega
theorem b9h {a : Am} {n : Int} (h : J8 a = 0) (hn : n = a.links.length) : a2T a n = 0 := by
 unfold a2T
 rw [if_neg (by simp [h]), if_neg (by simp [hn])]
theorem b3n {l : Lk} (h : U3 l = 0) : 0 < y8 (Nm.d9 l.brake) := by
 unfold U3 at h
 split at h
 ·cases h
 split at h
 ·cases h
 ·omega
theorem a5T (q : Rat) : (y8 q = -1 /\ q < 0) \/ (y8 q = 0 /\ q = 0) \/ (y8 q = 1 /\ 0 < q) := by
 have h1 := @Rat.num_nonneg q
 have h2 := @Rat.num_eq_zero q
 unfold y8
 by_cases h0 : q.num = 0
 ·right; left; exact ⟨if_pos h0, h2.1 h0⟩
 rw [if_neg h0]
 by_cases hn : q.num < 0
 ·left
  refine ⟨if_pos hn, ?_⟩
  rw [<- Rat.not_le, <- h1]; omega
 ·right; right
  refine ⟨if_neg hn, ?_⟩
  have h5 : 0 <= q := h1.1 (by omega)
  have h6 : q ≠ 0 := fun e => h0 (h2.2 e)
  grind
theorem b7l {w : Wk} {s : Stt} {u : List (List Nm.Rt)} {p : List Bool} (h1 : s.arms.length = w.arms.length) (h2 : u.length = w.arms.length) (h3 : p.length = w.arms.length) : (a5W w s u p).length = w.arms.length := by
 unfold a5W; simp only [c1q, List.length_zip]; omega
theorem b6S {w : Wk} {s : Stt} {u : List (List Nm.Rt)} {p : List Bool} {i : Nat} {a : Am} {x : Ast} {v : List Nm.Rt} {b : Bool} (h1 : w.arms[i]? = some a) (h2 : s.arms[i]? = some x) (h3 : u[i]? = some v) (h4 : p[i]? = some b) : (a5W w s u p)[i]? = some (a1F a x v b) := by
 unfold a5W
 rw [c2f, M4 (M4 h1 h2) (M4 h3 h4)]
 rfl
theorem holds_one (a : Am) (x : Ast) (u : List Nm.Rt) (p : Bool) : (a1F a x u p).holds = x.holds := by
 unfold a1F; split <;> rfl
theorem b8K {a : Am} {x : Ast} {n : Nat} {u : List Nm.Rt} {p : Bool} (h : b7w a x n) : (a1F a x u p).q.length = a.links.length /\ (a1F a x u p).v.length = a.links.length := by
 unfold a1F
 have h1 := h.q
 have h2 := h.v
 split
 ·rename_i hc
  simp only [c1B, a7j, c1w] at hc
  have h3 := hc.2.1
  simp only [mvA, mvQ, c1q, List.length_zip]; omega
 ·simp only [b7a, a4k, a2R, c1q, List.length_zip]; omega
theorem b8Q {α : Type} {l m : List α} {i : Nat} {y : α} (hl : l.length = m.length) (hy : l[i]? = some y) : (l.take i ++ m.drop i).set i y = l.take (i + 1) ++ m.drop (i + 1) := by
 obtain ⟨hi, rfl⟩ := c1z.1 hy
 have h1 : (l.take i).length = i := by rw [c1D]; omega
 rw [List.set_append_right _ _ (by omega), h1, Nat.sub_self, List.drop_eq_getElem_cons (show i < m.length by omega), List.set_cons_zero, c2g hi, c1T]
 rfl
theorem a4I {α : Type} {l m : List α} {i : Nat} (hl : l.length = m.length) (hi : i <= m.length) : (l.take i ++ m.drop i).length = m.length := by
 simp only [c1s, c1D, c2d]; omega
theorem mid_end {α : Type} {l m : List α} (hl : l.length = m.length) : l.take m.length ++ m.drop m.length = l := by
 rw [<- hl, c1L, hl, List.drop_length, List.append_nil]
theorem a6P : ∀ (z : List (Lk × Nm.Rt)) (e : Fr), (a0E e z)[z.length]? = some (a2N e z) /\ (a0E e z).length = z.length + 1
 | [], e => ⟨rfl, rfl⟩
 | (l, q) :: r, e => by
  obtain ⟨h1, h2⟩ := a6P r (O5 (O5 e (a0o q)) (a4V l))
  simp only [a0E, a2N, c1M, List.getElem?_cons_succ]
  exact ⟨h1, by rw [h2]⟩
set_option maxRecDepth 10000
set_option maxHeartbeats 8000000
theorem b4k (v : Vt) (hv : Vb 17179869184 v) : FZ 197 [v.c] (.v (.bool (!okV v))) := by
 refine kW Tryz.func197 (by cbv) (by rfl) fun w O hw => ?_
 obtain ⟨x, y⟩ := v
 obtain ⟨b1, b2⟩ := hv
 simp only at b1 b2
 have h1 := P5 x (b1.mono (by decide))
 have h2 := P5 y (b2.mono (by decide))
 have h3 := a2b x b1
 have h4 := a2b y b2
 unfold okV
 simp only
 generalize decide x.A8 = q1 at *
 generalize decide y.A8 = q2 at *
 generalize j4 x = q3 at *
 generalize j4 y = q4 at *
 simp only [j6]
 simp only [Vt.c, Vt.enc, rc, sb] at *
 (repeat first | refine uA ?_ | (refine uK ?_ ?_; focus first | omega | (intros; simp_all <;> omega)) | simp (disch := omega) only [go_sem, Nat.reduceBEq, Nat.reduceAdd, ww] | (refine uD h1 ?_ ?_ ?_; exact tz hw; exact rfl) | (refine uD h2 ?_ ?_ ?_; exact tz hw; exact rfl) | (refine uD h3 ?_ ?_ ?_; exact tz hw; exact rfl) | (refine uD h4 ?_ ?_ ?_; exact tz hw; exact rfl))
 have e : (!(q1 && q2 && q3 && q4)) = (!q1 || !q2 || !q3 || !q4) := by cases q1 <;> cases q2 <;> cases q3 <;> cases q4 <;> rfl
 (try rw [e])
 exact S.done (j3.out rfl (Imp.refl rfl) rfl)
theorem a7n (l : List Vt) (hl : Vbs 17179869184 l) : FZ 83 [vts l] (.v (.bool (l.all okV))) := by
 refine kW Tryz.func83 (by cbv) (by rfl) fun w O hw => ?_
 have h := b0i 197 (by kernel_rfl) (fun v => !okV v) l (by have := hl.1; omega) (fun v hv => b4k v (hl.2 v hv))
 have e : l.all okV = !l.any fun v => !okV v := by rw [List.not_any_eq_all_not]; simp
 rw [e]
 generalize (l.any fun v => !okV v) = q at *
 simp only [j6]
 simp only [vts] at *
 (repeat first | refine uA ?_ | (refine uK ?_ ?_; focus first | omega | (intros; simp_all <;> omega)) | simp (disch := omega) only [go_sem, Nat.reduceBEq, Nat.reduceAdd, ww] | (refine uD h ?_ ?_ ?_; exact tz hw; exact rfl))
 exact S.done (j3.out rfl (Imp.refl rfl) rfl)
theorem Vbs.one {k : Nat} {v : Vt} (h : 1 <= k) (h1 : Vb k v) : Vbs k [v] := ⟨h, fun x hx => by simp at hx; subst hx; exact h1⟩
theorem Vbs.two {k : Nat} {v u : Vt} (h : 2 <= k) (h1 : Vb k v) (h2 : Vb k u) : Vbs k [v, u] := ⟨h, fun x hx => by simp at hx; rcases hx with rfl | rfl <;> assumption⟩
theorem b0R (f : Fr) (hf : Fb 17179869184 f) : FZ 21 [f.c] (.v (.bool (okF f))) := by
 refine kW Tryz.func21 (by cbv) (by rfl) fun w O hw => ?_
 obtain ⟨x, y, half, t⟩ := f
 obtain ⟨b1, b2, b3⟩ := hf
 simp only at b1 b2 b3
 have h1 := a7n [⟨x, y⟩] (Vbs.one (by decide) ⟨b1, b2⟩)
 rw [List.all_cons, List.all_nil, Bool.and_true] at h1
 have h2 := P5 t (b3.mono (by decide))
 have h3 := a2b t b3
 have h4 := O3 t b3
 unfold okF a1Q
 simp only
 generalize okV ⟨x, y⟩ = q1 at *
 generalize decide t.A8 = q2 at *
 generalize j4 t = q3 at *
 generalize y8 (Nm.d9 t) = n at *
 simp only [j6]
 simp only [Fr.c, Fr.enc, vts, Vt.enc, rc, sb, ints, c1J, c1N] at *
 (repeat first | refine uA ?_ | (refine uK ?_ ?_; focus first | omega | (intros; simp_all <;> omega)) | simp (disch := omega) only [go_sem, Nat.reduceBEq, Nat.reduceAdd, ww] | (refine uD h2 ?_ ?_ ?_; exact tz hw; exact rfl) | (refine uD h3 ?_ ?_ ?_; exact tz hw; exact rfl) | (refine uD h4 ?_ ?_ ?_; exact tz hw; exact rfl) | (refine uE h1 ?_ ?_ ?_ ?_; exact tz hw; exact rfl; focus (repeat' first | exact j5.nil | exact Imp.refl rfl | exact Imp.frz rfl rfl rfl | (refine Imp.J9 rfl rfl ?_ ?_; (focus ((try simp only [c1s]); omega)); (focus first | rfl | assumption)) | refine j5.cons ?_ ?_); done))
 have e : (q1 && q2 && q3 && !(half && !decide (n = 0))) = (q1 && q2 && q3 && (!half || decide (n = 0))) := by cases q1 <;> cases q2 <;> cases q3 <;> cases half <;> simp
 rw [e]
 exact S.done (j3.out rfl (Imp.refl (by rfl)) rfl)
theorem b0Y (l : List Vt) (hl : Vbs 1073741824 l) : FZ 91 [vts l] (ints (K8 l)) := by
 refine kW Tryz.func91 (by cbv) (by rfl) fun w O hw => ?_
 have h1 := a4i l hl
 have h2 := a7n l ⟨by have := hl.1; omega, fun v hv => (hl.2 v hv).mono (by decide)⟩
 unfold K8
 generalize U2 l 8 = e at *
 generalize l.all okV = q at *
 simp only [j6]
 simp only [vts, ints] at *
 (repeat first | refine uA ?_ | (refine uK ?_ ?_; focus first | omega | (intros; simp_all <;> omega)) | simp (disch := omega) only [go_sem, Nat.reduceBEq, Nat.reduceAdd, ww] | (refine uD h1 ?_ ?_ ?_; exact tz hw; exact rfl))
 refine S.cond rfl (fun hc => ?_) (fun hc => ?_)
 ·rw [if_pos (by simpa using hc)]
  (repeat first | refine uA ?_ | (refine uK ?_ ?_; focus first | omega | (intros; simp_all <;> omega)) | simp (disch := omega) only [go_sem, Nat.reduceBEq, Nat.reduceAdd, ww])
  exact S.done (j3.out rfl (Imp.refl rfl) rfl)
 rw [if_neg (by simpa using hc)]
 (repeat first | refine uA ?_ | (refine uK ?_ ?_; focus first | omega | (intros; simp_all <;> omega)) | simp (disch := omega) only [go_sem, Nat.reduceBEq, Nat.reduceAdd, ww] | (refine uD h2 ?_ ?_ ?_; exact tz hw; exact rfl))
 refine S.cond rfl (fun hc => ?_) (fun hc => ?_)
 ·rw [if_neg (by simpa using hc)]
  (repeat first | refine uA ?_ | (refine uK ?_ ?_; focus first | omega | (intros; simp_all <;> omega)) | simp (disch := omega) only [go_sem, Nat.reduceBEq, Nat.reduceAdd, ww])
  exact S.done (j3.out rfl (Imp.refl rfl) rfl)
 ·rw [if_pos (by simpa using hc)]
  (repeat first | refine uA ?_ | (refine uK ?_ ?_; focus first | omega | (intros; simp_all <;> omega)) | simp (disch := omega) only [go_sem, Nat.reduceBEq, Nat.reduceAdd, ww])
  exact S.done (j3.out rfl (Imp.refl rfl) rfl)
end Go.Proofs.YtogfpjohjphngaaGreatDoor
namespace Go.Proofs.YtogfpjohjphngaaGreatDoor.Eng
open Go Go.RowKit
theorem l8.ofT {E : Ctx} {eff : Nat -> Bool} {f : Nat} {fn : Func} {ir : a0G} (ht : Tz E) (hf : E.P.funcs[f]? = some fn) (hc : X8 eff E.P fn = some ir) {rs : List Res} {args : List C} {s : C} {rs' : List Res} {pk : List Nat} (hn : args.length <= ir.ntmps)
  (h : ∀ w own av ν, ν.length = rs.length -> Tz ⟨E.P, eff, ir.ntmps, w, own, av, ν, pk⟩ -> S ⟨E.P, eff, ir.ntmps, w, own, av, ν, pk⟩ (Fin E.P ir.results (b3M ⟨E.P, eff, ir.ntmps, w, own, av, ν, pk⟩ rs' s)) ⟨j6 0 args, rs⟩ [.code ir.body]) : l8 E rs f args s rs' pk := by
 intro av ν w vs hR hav hF hD
 have hR' : RG av (owned rs ν) w.heap.size ν rs w := ⟨hR.len, hR.res, hR.dis, fun b hb => ⟨(hR.low b hb).1, (hR.low b hb).2.1, .inl hb⟩, hR.av, c1A _⟩
 have ht' : Tz ⟨E.P, eff, ir.ntmps, w, owned rs ν, av, ν, pk⟩ := ⟨ht.at hF, fun ho => by
  rcases (hR.low _ ho).2.2 with h1 | h1
  ·exact ht.2 h1
  ·have := b7n ht.1; omega⟩
 refine (b0o (E := ⟨E.P, eff, ir.ntmps, w, owned rs ν, av, ν, pk⟩) hf hc rfl rfl hR.av rs hR' args hD hn (h w (owned rs ν) av ν hR.len ht')).mono ?_
 rintro e w' ⟨y, rfl, ν', h1, h2, h3, h4⟩
 refine ⟨y, ν', rfl, ⟨h1.len, h1.res, h1.dis, fun b hb => ?_, h1.av, c1v hR.n0 h2.size⟩, ⟨h2.os, h2.tape, h2.output, h2.size, h2.block, fun b hb => (h1.low b hb).2.2, h3⟩, h4⟩
 obtain ⟨g1, g2, g3⟩ := h1.low b hb
 refine ⟨g1, g2, ?_⟩
 rcases g3 with g3 | g3
 ·exact (hR.low b g3).2.2
 ·exact .inr (c1v hR.n0 g3)
def Res.shut : Res -> Bool
 | .gone => false
 | .box _ cs => C.clL cs
 | .row _ _ _ => true
 | .map _ _ => true
theorem a4w {ν ν' : List Value} {w : World} {O O' : Nat -> Prop} {x : Value} {r : Res} (hs : r.shut = true) (hO : ∀ b, O' b -> O b) (h : K5 ν w O x r) : K5 ν' w O' x r := by
 cases r with
 | gone => cases hs
 | box t cs =>
  obtain ⟨b, vs, h1, h2, h3, h4⟩ := h
  exact ⟨b, vs, h1, (FzL.keep (Keeps.sub hO) (h2.fz hs)).den ν', h3, h4⟩
 | row e sz es => exact a4r hO h
 | map s es => exact h
theorem b9g {r r' : Res} (hs : r.shut = true) {x : Value} {b : Nat} (h : fp r' x b) : fp r x b := by
 cases r <;> cases r' <;> first | exact False.elim h | exact h | (cases hs; done)
def at0 (k : Nat) : C -> C
 | .mp 0 => .mp k
 | .bp 0 o => .bp k o
 | .rv 0 => .rv k
 | .bnd f (.mp 0) => .bnd f (.mp k)
 | c => c
def okA : C -> Bool
 | .mp 0 => true
 | .bp 0 _ => true
 | .rv 0 => true
 | .bnd _ (.mp 0) => true
 | c => c.cl
theorem b7T {ν : List Value} {w : World} {O O' : Nat -> Prop} {k : Nat} {x : Value} (hk : ν[k]? = some x) (hO : ∀ b, O' b -> O b) {c : C} {y : Value} (hc : okA c = true) (h : Den ν w O (at0 k c) y) : Den [x] w O' c y := by
 unfold okA at hc
 split at hc
 ·simp only [at0, Den] at h ⊢
  rw [hk] at h
  exact h
 ·simp only [at0, Den] at h ⊢
  rw [hk] at h
  exact h
 ·simp only [at0, Den] at h ⊢
  rw [hk] at h
  exact h
 ·simp only [at0, Den] at h ⊢
  rw [hk] at h
  exact h
 ·rename_i c0 h1 h2 h3 h4
  have e : at0 k c = c := by
   cases c with
   | mp j => cases j with
    | zero => exact (h1 rfl).elim
    | succ j => rfl
   | bp j o => cases j with
    | zero => exact (h2 _ rfl).elim
    | succ j => rfl
   | rv j => cases j with
    | zero => exact (h3 rfl).elim
    | succ j => rfl
   | bnd g d => cases d with
    | mp j => cases j with
     | zero => exact (h4 _ rfl).elim
     | succ j => rfl
    | _ => rfl
   | _ => rfl
  rw [e] at h
  exact (Fz.keep (Keeps.sub hO) (h.fz hc)).den _
theorem a9U {ν : List Value} {w : World} {O O' : Nat -> Prop} {k : Nat} {x : Value} (hk : ν[k]? = some x) (hO : ∀ b, O' b -> O b) : ∀ {cs : List C} {vs : List Value}, cs.all okA = true -> l6 ν w O (cs.map (at0 k)) vs -> l6 [x] w O' cs vs
 | [], vs, _, h => by simpa only [c1N, l6] using h
 | c :: cs, vs, hc, h => by
  simp only [c1J, l6, List.all_cons, c1B] at h hc ⊢
  obtain ⟨y, ys, e, h1, h2⟩ := h
  exact ⟨y, ys, e, b7T hk hO hc.1 h1, a9U hk hO hc.2 h2⟩
theorem l8.lift {E : Ctx} {rs : List Res} {k f : Nat} {args : List C} {s : C} {r r' : Res} (hk : rs[k]? = some r) (h : l8 E [r] f args s [r'] []) (hs : (r.shut && r'.shut) = true) (ha : args.all okA = true) (hc : s.cl = true) : l8 E rs f (args.map (at0 k)) s (rs.set k r') [] := by
 rw [c1B] at hs
 intro av ν w vs hR hav hF hD
 obtain ⟨x, hx, hok⟩ := hR.res k r hk
 have hown : ∀ b, fp r x b -> owned rs ν b := fun b hb => ⟨k, r, x, hk, hx, hb⟩
 have ho1 : ∀ (q : Res) b, owned [q] [x] b <-> fp q x b := fun q b => by
  constructor
  ·rintro ⟨l, q', y, h1, h2, h3⟩
   cases l with
   | zero => simp at h1 h2; subst h1 h2; exact h3
   | succ l => simp at h1
  ·exact fun hb => ⟨0, q, x, rfl, rfl, hb⟩
 let av' : Nat -> Prop := fun b => OO av rs ν b /\ ¬ fp r x b
 have hOO : ∀ b, OO av' [r] [x] b -> OO av rs ν b := fun b hb => by
  rcases hb with hb | hb
  ·exact hb.1
  ·exact .inr (hown b ((ho1 r b).1 hb))
 have hRG : RG av' E.own0 E.w0.heap.size [x] [r] w := by
  refine ⟨rfl, fun l q hq => ?_, fun l m q q' y y' b hne h1 h2 => ?_, fun b hb => ?_, fun b hb => ?_, hR.n0⟩
  ·cases l with
   | zero => simp at hq; subst hq; exact ⟨x, rfl, a4w hs.1 hOO hok⟩
   | succ l => simp at hq
  ·have e1 : l = 0 := by have := (c1z.1 h1).1; simp at this; exact this
   have e2 : m = 0 := by have := (c1z.1 h2).1; simp at this; exact this
   omega
  ·have hb' := (ho1 r b).1 hb
   obtain ⟨g1, g2, g3⟩ := hR.low b (hown b hb')
   exact ⟨g1, fun h => h.2 hb', g3⟩
  ·rcases hb.1 with h1 | h1
   ·exact hR.av b h1
   ·exact (hR.low b h1).1
 have hav' : ∀ b, E.av b -> av' b := fun b hb => ⟨.inl (hav b hb), fun hf => (hR.low b (hown b hf)).2.1 (hav b hb)⟩
 have hD' : l6 [x] w (OO av' [r] [x]) args vs := a9U hx hOO ha hD
 refine (h av' [x] w vs hRG hav' hF hD').mono ?_
 rintro e w' ⟨y, ν', rfl, h1, h2, h3⟩
 have hν : ν' = [x] := by
  have hl := h1.len
  have h0 := h2.nu 0 x (fun hm => by cases hm) rfl
  match ν', hl, h0 with
  | [z], _, h0 => simp at h0; rw [h0]
 subst hν
 have hT : Turned w w' (fp r x) := ⟨h2.os, h2.tape, h2.output, h2.size, fun b hb hn => h2.block b hb fun ho => hn ((ho1 r b).1 ho)⟩
 have hOO' : ∀ b, OO av (rs.set k r') ν b -> OO av' [r'] [x] b := fun b hb => by
  rcases hb with hb | ⟨l, q, z, hq, hz, hf⟩
  ·exact .inl ⟨.inl hb, fun hf => (hR.low b (hown b hf)).2.1 hb⟩
  ·by_cases e : k = l
   ·subst e
    have hkl := (c1z.1 hk).1
    rw [List.getElem?_set_self hkl] at hq
    rw [hx] at hz
    cases hq
    cases hz
    exact .inr ((ho1 r' b).2 hf)
   ·rw [List.getElem?_set_ne e] at hq
    exact .inl ⟨.inr ⟨l, q, z, hq, hz, hf⟩, fun hf' => hR.dis k l r q x z b e hk hq hx hz hf' hf⟩
 have hup := hR.upd (r' := r') hk hx hT (fun b hb => b9g hs.1 hb) (fun _ => by
  obtain ⟨x', hx', hok'⟩ := h1.res 0 r' rfl
  simp at hx'
  subst hx'
  exact a4w hs.2 hOO' hok')
 exact ⟨y, ν, rfl, hup.1, hup.2, (Fz.keep (Keeps.sub hOO') (h3.fz hc)).den ν⟩
end Go.Proofs.YtogfpjohjphngaaGreatDoor.Eng
namespace Go.Proofs.YtogfpjohjphngaaGreatDoor
open Go Go.RowKit Eng
set_option maxRecDepth 10000
set_option maxHeartbeats 8000000
theorem c0N (n : Nms) (s : List UInt8) : (a0K (.string (bs s)) (nmE n)).getD (.bool false) = .bool (n.contains s) := by
 rw [b9c]; cases n.contains s <;> rfl
theorem a9O {E : Ctx} (hP : E.P = Tryz.prog) (n : Nms) (s : List UInt8) (hs : s.length <= 1099511627776) :
  l8 E [.map true (nmE n)] 88 [.mp 0, sb s] (ints (J5 n s).1) [.map true (nmE (J5 n s).2)] [] := by
 obtain ⟨P, eff', N, w0, own0, av0, nu0, pk0⟩ := E
 simp only at hP
 subst hP
 refine l8.of (eff := eff) Tryz.func88 (by cbv) (by exact c1I rfl) fun w own av ν hν => ?_
 have hν0 : ν.length <= 1 := by rw [hν]; exact c1A _
 have h1 := b8p s hs
 have hk := c0N n s
 have hp := b9P n s
 unfold J5
 generalize a0m s = q at *
 generalize n.contains s = c at *
 simp only [j6]
 simp only [sb, ints] at *
 (repeat first | refine uA ?_ | (refine uK ?_ ?_; focus first | omega | (intros; simp_all <;> omega)) | simp (disch := omega) only [go_sem, Nat.reduceBEq, Nat.reduceAdd, ww] | (refine uB h1 ?_ ?_; exact rfl))
 refine S.cond rfl (fun hc => ?_) (fun hc => ?_)
 ·rw [if_pos (by simpa using hc)]
  (repeat first | refine uA ?_ | (refine uK ?_ ?_; focus first | omega | (intros; simp_all <;> omega)) | simp (disch := omega) only [go_sem, Nat.reduceBEq, Nat.reduceAdd, ww])
  (refine S.done ?_; simp only [p9, l7, go_sem, Nat.reduceBEq, Nat.reduceAdd, Nat.reduceLeDiff, Int.reduceToNat, Int.reducePow]; (repeat (refine ⟨?_, ?_⟩; focus first | trivial | omega | simp)); exact j3.M8 (Imp.refl rfl) (by (repeat first | refine uA ?_ | (refine ⟨?_, ?_⟩; focus first | rfl | simp [slot]) | rfl | simp)) (c1v hν0 (by simp)))
 rw [if_neg (by simpa using hc)]
 (repeat first | refine uA ?_ | (refine uK ?_ ?_; focus first | omega | (intros; simp_all <;> omega)) | simp (disch := omega) only [go_sem, Nat.reduceBEq, Nat.reduceAdd, ww, hk])
 refine S.cond rfl (fun hc => ?_) (fun hc => ?_)
 ·rw [if_pos hc]
  (repeat first | refine uA ?_ | (refine uK ?_ ?_; focus first | omega | (intros; simp_all <;> omega)) | simp (disch := omega) only [go_sem, Nat.reduceBEq, Nat.reduceAdd, ww])
  (refine S.done ?_; simp only [p9, l7, go_sem, Nat.reduceBEq, Nat.reduceAdd, Nat.reduceLeDiff, Int.reduceToNat, Int.reducePow]; (repeat (refine ⟨?_, ?_⟩; focus first | trivial | omega | simp)); exact j3.M8 (Imp.refl rfl) (by (repeat first | refine uA ?_ | (refine ⟨?_, ?_⟩; focus first | rfl | simp [slot]) | rfl | simp)) (c1v hν0 (by simp)))
 ·rw [if_neg (by rw [hc]; decide)]
  have hp := hp hc
  (repeat first | refine uA ?_ | (refine uK ?_ ?_; focus first | omega | (intros; simp_all <;> omega)) | simp (disch := omega) only [go_sem, Nat.reduceBEq, Nat.reduceAdd, ww, hp])
  (refine S.done ?_; simp only [p9, l7, go_sem, Nat.reduceBEq, Nat.reduceAdd, Nat.reduceLeDiff, Int.reduceToNat, Int.reducePow]; (repeat (refine ⟨?_, ?_⟩; focus first | trivial | omega | simp)); exact j3.M8 (Imp.refl rfl) (by (repeat first | refine uA ?_ | (refine ⟨?_, ?_⟩; focus first | rfl | simp [slot]) | rfl | simp)) (c1v hν0 (by simp)))
theorem b9w {E : Ctx} (hP : E.P = Tryz.prog) (ht0 : Tz E) (n : Nms) (p : Pt) (hb : Pb 1073741824 p) :
  l8 E [.map true (nmE n)] 93 [.mp 0, p.c] (ints (a0a n p).1) [.map true (nmE (a0a n p).2)] [] := by
 obtain ⟨P, eff', N, w0, own0, av0, nu0, pk0⟩ := E
 simp only at hP
 subst hP
 refine l8.ofT (eff := eff) ht0 Tryz.func93 (by cbv) (by exact c1I rfl) fun w own av ν hν ht => ?_
 have hν0 : ν.length <= 1 := by rw [hν]; exact c1A _
 obtain ⟨name, shape, ⟨x, y, half, t⟩⟩ := p
 obtain ⟨b0, b1, b2, b3, b4⟩ := hb
 simp only at b0 b1 b2 b3 b4
 have h1 := fun (E : Ctx) (hP : E.P = Tryz.prog) => a9O hP n name (by omega)
 have h2 := b0Y shape b1
 have h3 := b0R ⟨x, y, half, t⟩ ⟨b2.mono (by decide), b3.mono (by decide), b4.mono (by decide)⟩
 unfold a0a
 simp only
 generalize J5 n name = r at *
 obtain ⟨e1, m⟩ := r
 generalize K8 shape = e2 at *
 generalize okF ⟨x, y, half, t⟩ = q at *
 simp only [j6]
 simp only [Pt.c, Pt.enc, Fr.c, Fr.enc, vts, sb, ints] at *
 (repeat first | refine uA ?_ | (refine uK ?_ ?_; focus first | omega | (intros; simp_all <;> omega)) | simp (disch := omega) only [go_sem, Nat.reduceBEq, Nat.reduceAdd, ww] | refine l9.t (l8.lift (k := 0) rfl (h1 _ rfl) rfl rfl rfl) ?_)
 refine S.cond rfl (fun hc => ?_) (fun hc => ?_)
 ·rw [if_pos (by simpa using hc)]
  (repeat first | refine uA ?_ | (refine uK ?_ ?_; focus first | omega | (intros; simp_all <;> omega)) | simp (disch := omega) only [go_sem, Nat.reduceBEq, Nat.reduceAdd, ww])
  (refine S.done ?_; simp only [p9, l7, go_sem, Nat.reduceBEq, Nat.reduceAdd, Nat.reduceLeDiff, Int.reduceToNat, Int.reducePow]; (repeat (refine ⟨?_, ?_⟩; focus first | trivial | omega | simp)); exact j3.M8 (Imp.refl rfl) (by (repeat first | refine uA ?_ | (refine ⟨?_, ?_⟩; focus first | rfl | simp [slot]) | rfl | simp)) (c1v hν0 (by simp)))
 rw [if_neg (by simpa using hc)]
 (repeat first | refine uA ?_ | (refine uK ?_ ?_; focus first | omega | (intros; simp_all <;> omega)) | simp (disch := omega) only [go_sem, Nat.reduceBEq, Nat.reduceAdd, ww] | (refine uD h2 ?_ ?_ ?_; exact ht; exact rfl))
 refine S.cond rfl (fun hc => ?_) (fun hc => ?_)
 ·rw [if_pos (by simpa using hc)]
  (repeat first | refine uA ?_ | (refine uK ?_ ?_; focus first | omega | (intros; simp_all <;> omega)) | simp (disch := omega) only [go_sem, Nat.reduceBEq, Nat.reduceAdd, ww])
  (refine S.done ?_; simp only [p9, l7, go_sem, Nat.reduceBEq, Nat.reduceAdd, Nat.reduceLeDiff, Int.reduceToNat, Int.reducePow]; (repeat (refine ⟨?_, ?_⟩; focus first | trivial | omega | simp)); exact j3.M8 (Imp.refl rfl) (by (repeat first | refine uA ?_ | (refine ⟨?_, ?_⟩; focus first | rfl | simp [slot]) | rfl | simp)) (c1v hν0 (by simp)))
 rw [if_neg (by simpa using hc)]
 (repeat first | refine uA ?_ | (refine uK ?_ ?_; focus first | omega | (intros; simp_all <;> omega)) | simp (disch := omega) only [go_sem, Nat.reduceBEq, Nat.reduceAdd, ww] | (refine uD h3 ?_ ?_ ?_; exact ht; exact rfl))
 refine S.cond rfl (fun hc => ?_) (fun hc => ?_)
 ·rw [if_neg (by simpa using hc)]
  (repeat first | refine uA ?_ | (refine uK ?_ ?_; focus first | omega | (intros; simp_all <;> omega)) | simp (disch := omega) only [go_sem, Nat.reduceBEq, Nat.reduceAdd, ww])
  (refine S.done ?_; simp only [p9, l7, go_sem, Nat.reduceBEq, Nat.reduceAdd, Nat.reduceLeDiff, Int.reduceToNat, Int.reducePow]; (repeat (refine ⟨?_, ?_⟩; focus first | trivial | omega | simp)); exact j3.M8 (Imp.refl rfl) (by (repeat first | refine uA ?_ | (refine ⟨?_, ?_⟩; focus first | rfl | simp [slot]) | rfl | simp)) (c1v hν0 (by simp)))
 ·rw [if_pos (by simpa using hc)]
  (repeat first | refine uA ?_ | (refine uK ?_ ?_; focus first | omega | (intros; simp_all <;> omega)) | simp (disch := omega) only [go_sem, Nat.reduceBEq, Nat.reduceAdd, ww])
  (refine S.done ?_; simp only [p9, l7, go_sem, Nat.reduceBEq, Nat.reduceAdd, Nat.reduceLeDiff, Int.reduceToNat, Int.reducePow]; (repeat (refine ⟨?_, ?_⟩; focus first | trivial | omega | simp)); exact j3.M8 (Imp.refl rfl) (by (repeat first | refine uA ?_ | (refine ⟨?_, ?_⟩; focus first | rfl | simp [slot]) | rfl | simp)) (c1v hν0 (by simp)))
theorem b9n {E : Ctx} (hP : E.P = Tryz.prog) (ht0 : Tz E) (n : Nms) (s : Sl) (hb : Sb 1073741824 s) :
  l8 E [.map true (nmE n)] 95 [.mp 0, s.c] (ints (Z5 n s).1) [.map true (nmE (Z5 n s).2)] [] := by
 obtain ⟨P, eff', N, w0, own0, av0, nu0, pk0⟩ := E
 simp only at hP
 subst hP
 refine l8.ofT (eff := eff) ht0 Tryz.func95 (by cbv) (by exact c1I rfl) fun w own av ν hν ht => ?_
 have hν0 : ν.length <= 1 := by rw [hν]; exact c1A _
 obtain ⟨name, ⟨x, y, half, t⟩, within⟩ := s
 obtain ⟨b0, ⟨b2, b3, b4⟩, b5⟩ := hb
 simp only at b0 b2 b3 b4 b5
 have h1 := fun (E : Ctx) (hP : E.P = Tryz.prog) => a9O hP n name (by omega)
 have h3 := b0R ⟨x, y, half, t⟩ ⟨b2.mono (by decide), b3.mono (by decide), b4.mono (by decide)⟩
 have h4 := P5 within (b5.mono (by decide))
 have h5 := a2b within (b5.mono (by decide))
 have h6 := O3 within (b5.mono (by decide))
 unfold Z5
 simp only
 generalize J5 n name = r at *
 obtain ⟨e1, m⟩ := r
 generalize okF ⟨x, y, half, t⟩ = q1 at *
 generalize decide within.A8 = q2 at *
 generalize j4 within = q3 at *
 generalize y8 (Nm.d9 within) = n4 at *
 simp only [j6]
 simp only [Sl.c, Sl.enc, Fr.c, Fr.enc, vts, rc, sb, ints] at *
 (repeat first | refine uA ?_ | (refine uK ?_ ?_; focus first | omega | (intros; simp_all <;> omega)) | simp (disch := omega) only [go_sem, Nat.reduceBEq, Nat.reduceAdd, ww] | refine l9.t (l8.lift (k := 0) rfl (h1 _ rfl) rfl rfl rfl) ?_)
 refine S.cond rfl (fun hc => ?_) (fun hc => ?_)
 ·rw [if_pos (by simpa using hc)]
  (repeat first | refine uA ?_ | (refine uK ?_ ?_; focus first | omega | (intros; simp_all <;> omega)) | simp (disch := omega) only [go_sem, Nat.reduceBEq, Nat.reduceAdd, ww])
  (refine S.done ?_; simp only [p9, l7, go_sem, Nat.reduceBEq, Nat.reduceAdd, Nat.reduceLeDiff, Int.reduceToNat, Int.reducePow]; (repeat (refine ⟨?_, ?_⟩; focus first | trivial | omega | simp)); exact j3.M8 (Imp.refl rfl) (by (repeat first | refine uA ?_ | (refine ⟨?_, ?_⟩; focus first | rfl | simp [slot]) | rfl | simp)) (c1v hν0 (by simp)))
 rw [if_neg (by simpa using hc)]
 (repeat first | refine uA ?_ | (refine uK ?_ ?_; focus first | omega | (intros; simp_all <;> omega)) | simp (disch := omega) only [go_sem, Nat.reduceBEq, Nat.reduceAdd, ww] | (refine uD h3 ?_ ?_ ?_; exact ht; exact rfl) | (refine uD h4 ?_ ?_ ?_; exact ht; exact rfl) | (refine uD h5 ?_ ?_ ?_; exact ht; exact rfl) | (refine uD h6 ?_ ?_ ?_; exact ht; exact rfl))
 refine S.cond rfl (fun hc => ?_) (fun hc => ?_)
 ·rw [if_neg (by simp only [c1Z, Bool.not_eq_true', c1w] at hc; simp only [c1B, c1w]; rintro ⟨⟨⟨h7, h8⟩, h9⟩, h10⟩; rcases hc with ((hc | hc) | hc) | hc <;> first | (rw [hc] at h7; cases h7; done) | (rw [hc] at h8; cases h8; done) | (rw [hc] at h9; cases h9; done) | omega)]
  (repeat first | refine uA ?_ | (refine uK ?_ ?_; focus first | omega | (intros; simp_all <;> omega)) | simp (disch := omega) only [go_sem, Nat.reduceBEq, Nat.reduceAdd, ww])
  (refine S.done ?_; simp only [p9, l7, go_sem, Nat.reduceBEq, Nat.reduceAdd, Nat.reduceLeDiff, Int.reduceToNat, Int.reducePow]; (repeat (refine ⟨?_, ?_⟩; focus first | trivial | omega | simp)); exact j3.M8 (Imp.refl rfl) (by (repeat first | refine uA ?_ | (refine ⟨?_, ?_⟩; focus first | rfl | simp [slot]) | rfl | simp)) (c1v hν0 (by simp)))
 ·rw [if_pos (by simp only [c1H, Bool.not_eq_false', c1x] at hc; simp only [c1B, c1w]; obtain ⟨⟨⟨h7, h8⟩, h9⟩, h10⟩ := hc; exact ⟨⟨⟨h7, h8⟩, h9⟩, by omega⟩)]
  (repeat first | refine uA ?_ | (refine uK ?_ ?_; focus first | omega | (intros; simp_all <;> omega)) | simp (disch := omega) only [go_sem, Nat.reduceBEq, Nat.reduceAdd, ww])
  (refine S.done ?_; simp only [p9, l7, go_sem, Nat.reduceBEq, Nat.reduceAdd, Nat.reduceLeDiff, Int.reduceToNat, Int.reducePow]; (repeat (refine ⟨?_, ?_⟩; focus first | trivial | omega | simp)); exact j3.M8 (Imp.refl rfl) (by (repeat first | refine uA ?_ | (refine ⟨?_, ?_⟩; focus first | rfl | simp [slot]) | rfl | simp)) (c1v hν0 (by simp)))
theorem b9j {E : Ctx} (hP : E.P = Tryz.prog) (ht0 : Tz E) (n : Nms) (g : Gt) (hb : Gb 1073741824 g) :
  l8 E [.map true (nmE n)] 97 [.mp 0, g.c] (ints (Z6 n g).1) [.map true (nmE (Z6 n g).2)] [] := by
 obtain ⟨P, eff', N, w0, own0, av0, nu0, pk0⟩ := E
 simp only at hP
 subst hP
 refine l8.ofT (eff := eff) ht0 Tryz.func97 (by cbv) (by exact c1I rfl) fun w own av ν hν ht => ?_
 have hν0 : ν.length <= 1 := by rw [hν]; exact c1A _
 obtain ⟨name, ⟨lx, ly⟩, ⟨hx, hy⟩⟩ := g
 obtain ⟨b0, ⟨b1, b2⟩, ⟨b3, b4⟩⟩ := hb
 simp only at b0 b1 b2 b3 b4
 have h1 := fun (E : Ctx) (hP : E.P = Tryz.prog) => a9O hP n name (by omega)
 have h3 := a7n [⟨lx, ly⟩, ⟨hx, hy⟩] (Vbs.two (by decide) ⟨b1.mono (by decide), b2.mono (by decide)⟩ ⟨b3.mono (by decide), b4.mono (by decide)⟩)
 rw [a4C] at h3
 have h4 := K7 lx hx (b1.mono (by decide)) (b3.mono (by decide))
 have h5 := K7 ly hy (b2.mono (by decide)) (b4.mono (by decide))
 unfold Z6
 simp only
 generalize J5 n name = r at *
 obtain ⟨e1, m⟩ := r
 generalize (okV ⟨lx, ly⟩ && okV ⟨hx, hy⟩) = q1 at *
 generalize Nm.q8 (Nm.d9 lx) (Nm.d9 hx) = n1 at *
 generalize Nm.q8 (Nm.d9 ly) (Nm.d9 hy) = n2 at *
 simp only [j6]
 simp only [Gt.c, Gt.enc, vts, Vt.enc, rc, sb, ints, c1J, c1N] at *
 (repeat first | refine uA ?_ | (refine uK ?_ ?_; focus first | omega | (intros; simp_all <;> omega)) | simp (disch := omega) only [go_sem, Nat.reduceBEq, Nat.reduceAdd, ww] | refine l9.t (l8.lift (k := 0) rfl (h1 _ rfl) rfl rfl rfl) ?_)
 refine S.cond rfl (fun hc => ?_) (fun hc => ?_)
 ·rw [if_pos (by simpa using hc)]
  (repeat first | refine uA ?_ | (refine uK ?_ ?_; focus first | omega | (intros; simp_all <;> omega)) | simp (disch := omega) only [go_sem, Nat.reduceBEq, Nat.reduceAdd, ww])
  (refine S.done ?_; simp only [p9, l7, go_sem, Nat.reduceBEq, Nat.reduceAdd, Nat.reduceLeDiff, Int.reduceToNat, Int.reducePow]; (repeat (refine ⟨?_, ?_⟩; focus first | trivial | omega | simp)); exact j3.M8 (Imp.refl rfl) (by (repeat first | refine uA ?_ | (refine ⟨?_, ?_⟩; focus first | rfl | simp [slot]) | rfl | simp)) (c1v hν0 (by simp)))
 rw [if_neg (by simpa using hc)]
 (repeat first | refine uA ?_ | (refine uK ?_ ?_; focus first | omega | (intros; simp_all <;> omega)) | simp (disch := omega) only [go_sem, Nat.reduceBEq, Nat.reduceAdd, ww] | (refine uD h4 ?_ ?_ ?_; exact ht; exact rfl) | (refine uD h5 ?_ ?_ ?_; exact ht; exact rfl) | (refine uE h3 ?_ ?_ ?_ ?_; exact ht; exact rfl; focus (repeat' first | exact j5.nil | exact Imp.refl rfl | exact Imp.frz rfl rfl rfl | (refine Imp.J9 rfl rfl ?_ ?_; (focus ((try simp only [c1s]); omega)); (focus first | rfl | assumption)) | refine j5.cons ?_ ?_); done))
 refine S.cond rfl (fun hc => ?_) (fun hc => ?_)
 ·rw [if_neg (by simp only [c1Z, Bool.not_eq_true', c1w] at hc; simp only [c1B, c1w]; rintro ⟨⟨h7, h8⟩, h9⟩; rcases hc with (hc | hc) | hc <;> first | (rw [hc] at h7; cases h7; done) | omega)]
  (repeat first | refine uA ?_ | (refine uK ?_ ?_; focus first | omega | (intros; simp_all <;> omega)) | simp (disch := omega) only [go_sem, Nat.reduceBEq, Nat.reduceAdd, ww])
  (refine S.done ?_; simp only [p9, l7, go_sem, Nat.reduceBEq, Nat.reduceAdd, Nat.reduceLeDiff, Int.reduceToNat, Int.reducePow]; (repeat (refine ⟨?_, ?_⟩; focus first | trivial | omega | simp)); exact j3.M8 (Imp.refl rfl) (by (repeat first | refine uA ?_ | (refine ⟨?_, ?_⟩; focus first | rfl | simp [slot]) | rfl | simp)) (c1v hν0 (by simp)))
 ·rw [if_pos (by simp only [c1H, Bool.not_eq_false', c1x] at hc; simp only [c1B, c1w]; obtain ⟨⟨h7, h8⟩, h9⟩ := hc; exact ⟨⟨h7, by omega⟩, by omega⟩)]
  (repeat first | refine uA ?_ | (refine uK ?_ ?_; focus first | omega | (intros; simp_all <;> omega)) | simp (disch := omega) only [go_sem, Nat.reduceBEq, Nat.reduceAdd, ww])
  (refine S.done ?_; simp only [p9, l7, go_sem, Nat.reduceBEq, Nat.reduceAdd, Nat.reduceLeDiff, Int.reduceToNat, Int.reducePow]; (repeat (refine ⟨?_, ?_⟩; focus first | trivial | omega | simp)); exact j3.M8 (Imp.refl rfl) (by (repeat first | refine uA ?_ | (refine ⟨?_, ?_⟩; focus first | rfl | simp [slot]) | rfl | simp)) (c1v hν0 (by simp)))
theorem b3z {E : Ctx} (hP : E.P = Tryz.prog) (ht0 : Tz E) (n : Nms) (l : List Pt) (hn : l.length <= 1073741824) (hb : ∀ x ∈ l, Pb 1073741824 x) :
  l8 E [.map true (nmE n)] 92 [pts l, .bnd 93 (.mp 0)] (ints (C9 a0a n l).1) [.map true (nmE (C9 a0a n l).2)] [] := by
 obtain ⟨P, eff', N, w0, own0, av0, nu0, pk0⟩ := E
 simp only at hP
 subst hP
 refine l8.ofT (eff := eff) ht0 Tryz.func92 (by cbv) (by exact c1I rfl) fun w own av ν hν ht => ?_
 have hν0 : ν.length <= 1 := by rw [hν]; exact c1A _
 simp only [j6, pts, ints]
 (repeat first | refine uA ?_ | (refine uK ?_ ?_; focus first | omega | trivial | (intros; simp_all <;> omega)) | simp (disch := omega) only [go_sem, Nat.reduceBEq, Nat.reduceAdd, Nat.reduceLeDiff, Int.reduceToNat, Int.reducePow, ww, c1q])
 refine S.loop (X := Nat × Nms) (fun x => ⟨[(1, .bnd 93 (.mp 0)), (8, pts l), (9, ints l.length), (10, ints x.1)], [.map true (nmE x.2)]⟩) (fun x => x.1 <= l.length /\ C9 a0a n l = C9 a0a x.2 (l.drop x.1)) (fun x => l.length - x.1) (0, n) ⟨c1y _, rfl⟩ (by (repeat first | refine uA ?_ | (refine ⟨?_, ?_⟩; focus first | rfl | trivial | (simp [slot]; done)) | rfl | trivial | simp | exact c1v hν0 (by simp))) ?_
 rintro ⟨i, m⟩ ⟨hi, hg⟩
 simp only [pts, ints] at hi hg ⊢
 (repeat first | refine uA ?_ | (refine uK ?_ ?_; focus first | omega | trivial | (intros; simp_all <;> omega)) | simp (disch := omega) only [go_sem, Nat.reduceBEq, Nat.reduceAdd, Nat.reduceLeDiff, Int.reduceToNat, Int.reducePow, ww])
 (refine uJ rfl (fun hc => ?_) fun hc => ?_)
 ·have hi' : i < l.length := by omega
  have hgi := c1p hi'
  generalize l[i] = x at hgi
  have hst := R6 (f := a0a) (s := m) hgi
  have hnx := R7 (f := a0a) (s := m) hgi
  have hs := fun (E : Ctx) (hP : E.P = Tryz.prog) (ht : Tz E) => b9w hP ht m x (hb x (c1t hgi))
  generalize a0a m x = r at *
  obtain ⟨e, m'⟩ := r
  simp only [Pt.c, Pt.enc, vts, sb, ints] at hs hst hnx
  (repeat first | refine uA ?_ | (refine uK ?_ ?_; focus first | omega | trivial | (intros; simp_all <;> omega)) | simp (disch := omega) only [go_sem, Nat.reduceBEq, Nat.reduceAdd, Nat.reduceLeDiff, Int.reduceToNat, Int.reducePow, ww, hgi, c1r, c1q, Pt.c, Pt.enc, vts, sb] | refine l9.t (l8.lift (k := 0) rfl (hs _ rfl ht) rfl rfl rfl) ?_)
  refine S.cond rfl (fun hc2 => ?_) (fun hc2 => ?_)
  ·rw [hg, hst (by simpa using hc2)]
   (repeat first | refine uA ?_ | (refine uK ?_ ?_; focus first | omega | trivial | (intros; simp_all <;> omega)) | simp (disch := omega) only [go_sem, Nat.reduceBEq, Nat.reduceAdd, Nat.reduceLeDiff, Int.reduceToNat, Int.reducePow, ww])
   (refine S.done ?_; simp only [p9, l7, go_sem, Nat.reduceBEq, Nat.reduceAdd, Nat.reduceLeDiff, Int.reduceToNat, Int.reducePow]; (repeat (refine ⟨?_, ?_⟩; focus first | trivial | omega | simp)); exact j3.M8 (Imp.refl rfl) (by (repeat first | refine uA ?_ | (refine ⟨?_, ?_⟩; focus first | rfl | trivial | (simp [slot]; done)) | rfl | trivial | simp)) (c1v hν0 (by simp)))
  ·have hc3 : e = 0 := by simpa using hc2
   (repeat first | refine uA ?_ | (refine uK ?_ ?_; focus first | omega | trivial | (intros; simp_all <;> omega)) | simp (disch := omega) only [go_sem, Nat.reduceBEq, Nat.reduceAdd, Nat.reduceLeDiff, Int.reduceToNat, Int.reducePow, ww])
   refine S.next (x := (i, m)) (i + 1, m') ⟨by simp only; omega, by simp only; rw [hg, hnx hc3]⟩ (by simp only; omega) (by (repeat first | refine uA ?_ | (refine ⟨?_, ?_⟩; focus first | rfl | trivial | (simp [slot]; done)) | rfl | trivial | simp | exact c1v hν0 (by simp)))
 ·rw [hg, W9 (by omega)]
  (repeat first | refine uA ?_ | (refine uK ?_ ?_; focus first | omega | trivial | (intros; simp_all <;> omega)) | simp (disch := omega) only [go_sem, Nat.reduceBEq, Nat.reduceAdd, Nat.reduceLeDiff, Int.reduceToNat, Int.reducePow, ww])
  (refine S.done ?_; simp only [p9, l7, go_sem, Nat.reduceBEq, Nat.reduceAdd, Nat.reduceLeDiff, Int.reduceToNat, Int.reducePow]; (repeat (refine ⟨?_, ?_⟩; focus first | trivial | omega | simp)); exact j3.M8 (Imp.refl rfl) (by (repeat first | refine uA ?_ | (refine ⟨?_, ?_⟩; focus first | rfl | trivial | (simp [slot]; done)) | rfl | trivial | simp)) (c1v hν0 (by simp)))
theorem b3o {E : Ctx} (hP : E.P = Tryz.prog) (ht0 : Tz E) (n : Nms) (l : List Sl) (hn : l.length <= 1073741824) (hb : ∀ x ∈ l, Sb 1073741824 x) :
  l8 E [.map true (nmE n)] 94 [sls l, .bnd 95 (.mp 0)] (ints (C9 Z5 n l).1) [.map true (nmE (C9 Z5 n l).2)] [] := by
 obtain ⟨P, eff', N, w0, own0, av0, nu0, pk0⟩ := E
 simp only at hP
 subst hP
 refine l8.ofT (eff := eff) ht0 Tryz.func94 (by cbv) (by exact c1I rfl) fun w own av ν hν ht => ?_
 have hν0 : ν.length <= 1 := by rw [hν]; exact c1A _
 simp only [j6, sls, ints]
 (repeat first | refine uA ?_ | (refine uK ?_ ?_; focus first | omega | trivial | (intros; simp_all <;> omega)) | simp (disch := omega) only [go_sem, Nat.reduceBEq, Nat.reduceAdd, Nat.reduceLeDiff, Int.reduceToNat, Int.reducePow, ww, c1q])
 refine S.loop (X := Nat × Nms) (fun x => ⟨[(1, .bnd 95 (.mp 0)), (8, sls l), (9, ints l.length), (10, ints x.1)], [.map true (nmE x.2)]⟩) (fun x => x.1 <= l.length /\ C9 Z5 n l = C9 Z5 x.2 (l.drop x.1)) (fun x => l.length - x.1) (0, n) ⟨c1y _, rfl⟩ (by (repeat first | refine uA ?_ | (refine ⟨?_, ?_⟩; focus first | rfl | trivial | (simp [slot]; done)) | rfl | trivial | simp | exact c1v hν0 (by simp))) ?_
 rintro ⟨i, m⟩ ⟨hi, hg⟩
 simp only [sls, ints] at hi hg ⊢
 (repeat first | refine uA ?_ | (refine uK ?_ ?_; focus first | omega | trivial | (intros; simp_all <;> omega)) | simp (disch := omega) only [go_sem, Nat.reduceBEq, Nat.reduceAdd, Nat.reduceLeDiff, Int.reduceToNat, Int.reducePow, ww])
 (refine uJ rfl (fun hc => ?_) fun hc => ?_)
 ·have hi' : i < l.length := by omega
  have hgi := c1p hi'
  generalize l[i] = x at hgi
  have hst := R6 (f := Z5) (s := m) hgi
  have hnx := R7 (f := Z5) (s := m) hgi
  have hs := fun (E : Ctx) (hP : E.P = Tryz.prog) (ht : Tz E) => b9n hP ht m x (hb x (c1t hgi))
  generalize Z5 m x = r at *
  obtain ⟨e, m'⟩ := r
  simp only [Sl.c, Sl.enc, sb, ints] at hs hst hnx
  (repeat first | refine uA ?_ | (refine uK ?_ ?_; focus first | omega | trivial | (intros; simp_all <;> omega)) | simp (disch := omega) only [go_sem, Nat.reduceBEq, Nat.reduceAdd, Nat.reduceLeDiff, Int.reduceToNat, Int.reducePow, ww, hgi, c1r, c1q, Sl.c, Sl.enc, sb] | refine l9.t (l8.lift (k := 0) rfl (hs _ rfl ht) rfl rfl rfl) ?_)
  refine S.cond rfl (fun hc2 => ?_) (fun hc2 => ?_)
  ·rw [hg, hst (by simpa using hc2)]
   (repeat first | refine uA ?_ | (refine uK ?_ ?_; focus first | omega | trivial | (intros; simp_all <;> omega)) | simp (disch := omega) only [go_sem, Nat.reduceBEq, Nat.reduceAdd, Nat.reduceLeDiff, Int.reduceToNat, Int.reducePow, ww])
   (refine S.done ?_; simp only [p9, l7, go_sem, Nat.reduceBEq, Nat.reduceAdd, Nat.reduceLeDiff, Int.reduceToNat, Int.reducePow]; (repeat (refine ⟨?_, ?_⟩; focus first | trivial | omega | simp)); exact j3.M8 (Imp.refl rfl) (by (repeat first | refine uA ?_ | (refine ⟨?_, ?_⟩; focus first | rfl | trivial | (simp [slot]; done)) | rfl | trivial | simp)) (c1v hν0 (by simp)))
  ·have hc3 : e = 0 := by simpa using hc2
   (repeat first | refine uA ?_ | (refine uK ?_ ?_; focus first | omega | trivial | (intros; simp_all <;> omega)) | simp (disch := omega) only [go_sem, Nat.reduceBEq, Nat.reduceAdd, Nat.reduceLeDiff, Int.reduceToNat, Int.reducePow, ww])
   refine S.next (x := (i, m)) (i + 1, m') ⟨by simp only; omega, by simp only; rw [hg, hnx hc3]⟩ (by simp only; omega) (by (repeat first | refine uA ?_ | (refine ⟨?_, ?_⟩; focus first | rfl | trivial | (simp [slot]; done)) | rfl | trivial | simp | exact c1v hν0 (by simp)))
 ·rw [hg, W9 (by omega)]
  (repeat first | refine uA ?_ | (refine uK ?_ ?_; focus first | omega | trivial | (intros; simp_all <;> omega)) | simp (disch := omega) only [go_sem, Nat.reduceBEq, Nat.reduceAdd, Nat.reduceLeDiff, Int.reduceToNat, Int.reducePow, ww])
  (refine S.done ?_; simp only [p9, l7, go_sem, Nat.reduceBEq, Nat.reduceAdd, Nat.reduceLeDiff, Int.reduceToNat, Int.reducePow]; (repeat (refine ⟨?_, ?_⟩; focus first | trivial | omega | simp)); exact j3.M8 (Imp.refl rfl) (by (repeat first | refine uA ?_ | (refine ⟨?_, ?_⟩; focus first | rfl | trivial | (simp [slot]; done)) | rfl | trivial | simp)) (c1v hν0 (by simp)))
theorem b3J {E : Ctx} (hP : E.P = Tryz.prog) (ht0 : Tz E) (n : Nms) (l : List Gt) (hn : l.length <= 1073741824) (hb : ∀ x ∈ l, Gb 1073741824 x) :
  l8 E [.map true (nmE n)] 96 [gts l, .bnd 97 (.mp 0)] (ints (C9 Z6 n l).1) [.map true (nmE (C9 Z6 n l).2)] [] := by
 obtain ⟨P, eff', N, w0, own0, av0, nu0, pk0⟩ := E
 simp only at hP
 subst hP
 refine l8.ofT (eff := eff) ht0 Tryz.func96 (by cbv) (by exact c1I rfl) fun w own av ν hν ht => ?_
 have hν0 : ν.length <= 1 := by rw [hν]; exact c1A _
 simp only [j6, gts, ints]
 (repeat first | refine uA ?_ | (refine uK ?_ ?_; focus first | omega | trivial | (intros; simp_all <;> omega)) | simp (disch := omega) only [go_sem, Nat.reduceBEq, Nat.reduceAdd, Nat.reduceLeDiff, Int.reduceToNat, Int.reducePow, ww, c1q])
 refine S.loop (X := Nat × Nms) (fun x => ⟨[(1, .bnd 97 (.mp 0)), (8, gts l), (9, ints l.length), (10, ints x.1)], [.map true (nmE x.2)]⟩) (fun x => x.1 <= l.length /\ C9 Z6 n l = C9 Z6 x.2 (l.drop x.1)) (fun x => l.length - x.1) (0, n) ⟨c1y _, rfl⟩ (by (repeat first | refine uA ?_ | (refine ⟨?_, ?_⟩; focus first | rfl | trivial | (simp [slot]; done)) | rfl | trivial | simp | exact c1v hν0 (by simp))) ?_
 rintro ⟨i, m⟩ ⟨hi, hg⟩
 simp only [gts, ints] at hi hg ⊢
 (repeat first | refine uA ?_ | (refine uK ?_ ?_; focus first | omega | trivial | (intros; simp_all <;> omega)) | simp (disch := omega) only [go_sem, Nat.reduceBEq, Nat.reduceAdd, Nat.reduceLeDiff, Int.reduceToNat, Int.reducePow, ww])
 (refine uJ rfl (fun hc => ?_) fun hc => ?_)
 ·have hi' : i < l.length := by omega
  have hgi := c1p hi'
  generalize l[i] = x at hgi
  have hst := R6 (f := Z6) (s := m) hgi
  have hnx := R7 (f := Z6) (s := m) hgi
  have hs := fun (E : Ctx) (hP : E.P = Tryz.prog) (ht : Tz E) => b9j hP ht m x (hb x (c1t hgi))
  generalize Z6 m x = r at *
  obtain ⟨e, m'⟩ := r
  simp only [Gt.c, Gt.enc, sb, ints] at hs hst hnx
  (repeat first | refine uA ?_ | (refine uK ?_ ?_; focus first | omega | trivial | (intros; simp_all <;> omega)) | simp (disch := omega) only [go_sem, Nat.reduceBEq, Nat.reduceAdd, Nat.reduceLeDiff, Int.reduceToNat, Int.reducePow, ww, hgi, c1r, c1q, Gt.c, Gt.enc, sb] | refine l9.t (l8.lift (k := 0) rfl (hs _ rfl ht) rfl rfl rfl) ?_)
  refine S.cond rfl (fun hc2 => ?_) (fun hc2 => ?_)
  ·rw [hg, hst (by simpa using hc2)]
   (repeat first | refine uA ?_ | (refine uK ?_ ?_; focus first | omega | trivial | (intros; simp_all <;> omega)) | simp (disch := omega) only [go_sem, Nat.reduceBEq, Nat.reduceAdd, Nat.reduceLeDiff, Int.reduceToNat, Int.reducePow, ww])
   (refine S.done ?_; simp only [p9, l7, go_sem, Nat.reduceBEq, Nat.reduceAdd, Nat.reduceLeDiff, Int.reduceToNat, Int.reducePow]; (repeat (refine ⟨?_, ?_⟩; focus first | trivial | omega | simp)); exact j3.M8 (Imp.refl rfl) (by (repeat first | refine uA ?_ | (refine ⟨?_, ?_⟩; focus first | rfl | trivial | (simp [slot]; done)) | rfl | trivial | simp)) (c1v hν0 (by simp)))
  ·have hc3 : e = 0 := by simpa using hc2
   (repeat first | refine uA ?_ | (refine uK ?_ ?_; focus first | omega | trivial | (intros; simp_all <;> omega)) | simp (disch := omega) only [go_sem, Nat.reduceBEq, Nat.reduceAdd, Nat.reduceLeDiff, Int.reduceToNat, Int.reducePow, ww])
   refine S.next (x := (i, m)) (i + 1, m') ⟨by simp only; omega, by simp only; rw [hg, hnx hc3]⟩ (by simp only; omega) (by (repeat first | refine uA ?_ | (refine ⟨?_, ?_⟩; focus first | rfl | trivial | (simp [slot]; done)) | rfl | trivial | simp | exact c1v hν0 (by simp)))
 ·rw [hg, W9 (by omega)]
  (repeat first | refine uA ?_ | (refine uK ?_ ?_; focus first | omega | trivial | (intros; simp_all <;> omega)) | simp (disch := omega) only [go_sem, Nat.reduceBEq, Nat.reduceAdd, Nat.reduceLeDiff, Int.reduceToNat, Int.reducePow, ww])
  (refine S.done ?_; simp only [p9, l7, go_sem, Nat.reduceBEq, Nat.reduceAdd, Nat.reduceLeDiff, Int.reduceToNat, Int.reducePow]; (repeat (refine ⟨?_, ?_⟩; focus first | trivial | omega | simp)); exact j3.M8 (Imp.refl rfl) (by (repeat first | refine uA ?_ | (refine ⟨?_, ?_⟩; focus first | rfl | trivial | (simp [slot]; done)) | rfl | trivial | simp)) (c1v hν0 (by simp)))
theorem b3m (l : List (List Vt)) (hn : l.length <= 1073741824) (hb : ∀ x ∈ l, Vbs 1073741824 x) : FZ 90 [wls l, .v (.func (.func 91) #[] #[])] (ints (D8 K8 l)) := by
 refine kW Tryz.func90 (by cbv) (by rfl) fun w O hw => ?_
 have hcal : callable Tryz.prog 91 = true := by kernel_rfl
 simp only [j6, wls, ints]
 (repeat first | refine uA ?_ | (refine uK ?_ ?_; focus first | omega | trivial | (intros; simp_all <;> omega)) | simp (disch := omega) only [go_sem, Nat.reduceBEq, Nat.reduceAdd, Nat.reduceLeDiff, Int.reduceToNat, Int.reducePow, ww, c1q])
 refine S.loop (X := Nat) (fun i => ⟨[(1, .v (.func (.func 91) #[] #[])), (8, wls l), (9, ints l.length), (10, ints i)], []⟩) (fun i => i <= l.length /\ D8 K8 l = D8 K8 (l.drop i)) (fun i => l.length - i) 0 ⟨c1y _, rfl⟩ (by (repeat first | refine uA ?_ | (refine ⟨?_, ?_⟩; focus first | rfl | trivial | (simp [slot]; done)) | rfl | trivial | simp)) ?_
 rintro i ⟨hi, hg⟩
 simp only [wls, ints] at hi hg ⊢
 (repeat first | refine uA ?_ | (refine uK ?_ ?_; focus first | omega | trivial | (intros; simp_all <;> omega)) | simp (disch := omega) only [go_sem, Nat.reduceBEq, Nat.reduceAdd, Nat.reduceLeDiff, Int.reduceToNat, Int.reducePow, ww])
 (refine uJ rfl (fun hc => ?_) fun hc => ?_)
 ·have hi' : i < l.length := by omega
  have hgi := c1p hi'
  generalize l[i] = x at hgi
  have hst := a0h (f := K8) hgi
  have hnx := a0c (f := K8) hgi
  have hs := b0Y x (hb x (c1t hgi))
  generalize K8 x = e at *
  simp only [ints] at hs
  (repeat first | refine uA ?_ | (refine uK ?_ ?_; focus first | omega | trivial | (intros; simp_all <;> omega)) | simp (disch := omega) only [go_sem, Nat.reduceBEq, Nat.reduceAdd, Nat.reduceLeDiff, Int.reduceToNat, Int.reducePow, ww, hgi, c1r, c1q, hcal] | (refine uD hs ?_ ?_ ?_; exact tz hw; exact rfl))
  refine S.cond rfl (fun hc2 => ?_) (fun hc2 => ?_)
  ·rw [hg, hst (by simpa using hc2)]
   (repeat first | refine uA ?_ | (refine uK ?_ ?_; focus first | omega | trivial | (intros; simp_all <;> omega)) | simp (disch := omega) only [go_sem, Nat.reduceBEq, Nat.reduceAdd, Nat.reduceLeDiff, Int.reduceToNat, Int.reducePow, ww])
   exact S.done (j3.out rfl (Imp.refl rfl) rfl)
  ·have hc3 : e = 0 := by simpa using hc2
   (repeat first | refine uA ?_ | (refine uK ?_ ?_; focus first | omega | trivial | (intros; simp_all <;> omega)) | simp (disch := omega) only [go_sem, Nat.reduceBEq, Nat.reduceAdd, Nat.reduceLeDiff, Int.reduceToNat, Int.reducePow, ww])
   refine S.next (i + 1) ⟨by omega, by rw [hg, hnx hc3]⟩ (by omega) (by (repeat first | refine uA ?_ | (refine ⟨?_, ?_⟩; focus first | rfl | trivial | (simp [slot]; done)) | rfl | trivial | simp))
 ·rw [hg, a0w (by omega)]
  (repeat first | refine uA ?_ | (refine uK ?_ ?_; focus first | omega | trivial | (intros; simp_all <;> omega)) | simp (disch := omega) only [go_sem, Nat.reduceBEq, Nat.reduceAdd, Nat.reduceLeDiff, Int.reduceToNat, Int.reducePow, ww])
  exact S.done (j3.out rfl (Imp.refl rfl) rfl)
end Go.Proofs.YtogfpjohjphngaaGreatDoor
namespace Go.Proofs.YtogfpjohjphngaaGreatDoor.Eng
open Go Go.RowKit
def Res.bdr (n : Nat) : Res -> Bool
 | .box _ cs => C.bdL n cs
 | _ => true
theorem b5k {ν : List Value} {w : World} {O O' : Nat -> Prop} {x : Value} {r : Res} {n : Nat} (hs : r.bdr n = true) (hO : ∀ b, O' b -> O b) (h : K5 ν w O x r) : K5 (ν.take n) w O' x r := by
 cases r with
 | gone => exact h
 | box t cs =>
  obtain ⟨b, vs, h1, h2, h3, h4⟩ := h
  exact ⟨b, vs, h1, l6.keep (Keeps.sub hO) (l6.takeν n hs h2), h3, h4⟩
 | row e sz es => exact a4r hO h
 | map s es => exact h
theorem b7r {ν ν' : List Value} {w : World} {O O' : Nat -> Prop} {x : Value} {r : Res} (hn : T9 [] ν ν') (hO : ∀ b, O' b -> O b) (h : K5 ν w O x r) : K5 ν' w O' x r := by
 cases r with
 | gone => exact h
 | box t cs =>
  obtain ⟨b, vs, h1, h2, h3, h4⟩ := h
  exact ⟨b, vs, h1, l6.keep (Keeps.sub hO) (l6.nu hn (fun k hk => by cases hk) h2), h3, h4⟩
 | row e sz es => exact a4r hO h
 | map s es => exact h
theorem T9.take (ν : List Value) (n : Nat) : T9 [] (ν.take n) ν := fun _ _ _ h => U7 h
theorem c0w {ν ν' : List Value} (h : T9 [] ν ν') (hl : ν'.length = ν.length) : ν' = ν := by
 apply List.ext_getElem?
 intro i
 rcases c1Q i ν.length with h1 | h1
 ·have := h i _ (fun hk => by cases hk) (c1p h1)
  rw [this, c1p h1]
 ·rw [c2b h1, c2b (by omega)]
theorem a2G {rs ext : List Res} {ν : List Value} (hl : ν.length = (rs ++ ext).length) (b : Nat) : owned (rs ++ ext) ν b <-> owned rs (ν.take rs.length) b \/ ∃ k r x, ext[k]? = some r /\ ν[rs.length + k]? = some x /\ fp r x b := by
 constructor
 ·rintro ⟨k, r, x, h1, h2, h3⟩
  rcases c1Q k rs.length with h | h
  ·rw [c1C h] at h1
   exact .inl ⟨k, r, x, h1, I7 h h2, h3⟩
  ·rw [c1F h] at h1
   exact .inr ⟨k - rs.length, r, x, h1, by rw [show rs.length + (k - rs.length) = k by omega]; exact h2, h3⟩
 ·rintro (⟨k, r, x, h1, h2, h3⟩ | ⟨k, r, x, h1, h2, h3⟩)
  ·have h := (c1z.1 h1).1
   exact ⟨k, r, x, by rw [c1C h]; exact h1, U7 h2, h3⟩
  ·exact ⟨rs.length + k, r, x, by rw [c1F (by omega), show rs.length + k - rs.length = k by omega]; exact h1, h2, h3⟩
theorem l8.ext {E : Ctx} {rs rs' : List Res} (ex : List Res) {f : Nat} {args : List C} {s : C} (h : l8 E rs f args s rs' []) (hl : rs'.length = rs.length) (hb : rs.all (Res.bdr rs.length) = true) (ha : C.bdL rs.length args = true) : l8 E (rs ++ ex) f args s (rs' ++ ex) [] := by
  intro av ν w vs hR hav hF hD
  have hlen := hR.len
  have hl1 : (ν.take rs.length).length = rs.length := by rw [c1D, hlen, c1s]; omega
  generalize hν1 : ν.take rs.length = ν1 at hl1
  have hown := fun b => a2G hlen b
  rw [hν1] at hown
  have hx : ∀ b k r x, ex[k]? = some r -> ν[rs.length + k]? = some x -> fp r x b -> ¬ owned rs ν1 b := by
    rintro b k r x h1 h2 h3 ⟨l, q, y, g1, g2, g3⟩
    have hlt := (c1z.1 g1).1
    rw [<- hν1] at g2
    exact hR.dis l (rs.length + k) q r y x b (by omega) (by rw [c1C hlt]; exact g1) (by rw [c1F (by omega), show rs.length + k - rs.length = k by omega]; exact h1) (U7 g2) h2 g3 h3
  let av' : Nat -> Prop := fun b => OO av (rs ++ ex) ν b /\ ¬ owned rs ν1 b
  have hOO : ∀ b, OO av' rs ν1 b -> OO av (rs ++ ex) ν b := fun b hb => by
    rcases hb with hb | hb
    · exact hb.1
    · exact .inr ((hown b).2 (.inl hb))
  have hRG : RG av' E.own0 E.w0.heap.size ν1 rs w := by
    refine ⟨hl1, fun k r hk => ?_, fun l m q q' y y' b hne h1 h2 h3 h4 => ?_, fun b hb => ?_, fun b hb => ?_, hR.n0⟩
    · have hlt := (c1z.1 hk).1
      obtain ⟨x, hx, hok⟩ := hR.res k r (by rw [c1C hlt]; exact hk)
      refine ⟨x, by rw [<- hν1]; exact I7 hlt hx, ?_⟩
      rw [<- hν1]
      rw [List.all_eq_true] at hb
      exact b5k (hb r (c1t hk)) (by rw [hν1]; exact hOO) hok
    · have g1 := (c1z.1 h1).1
      have g2 := (c1z.1 h2).1
      rw [<- hν1] at h3 h4
      exact hR.dis l m q q' y y' b hne (by rw [c1C g1]; exact h1) (by rw [c1C g2]; exact h2) (U7 h3) (U7 h4)
    · obtain ⟨g1, g2, g3⟩ := hR.low b ((hown b).2 (.inl hb))
      exact ⟨g1, fun h => h.2 hb, g3⟩
    · rcases hb.1 with h1 | h1
      · exact hR.av b h1
      · exact (hR.low b h1).1
  have hnav : ∀ b, av b -> ¬ owned rs ν1 b := fun b hb ho => (hR.low b ((hown b).2 (.inl ho))).2.1 hb
  have hD' : l6 ν1 w (OO av' rs ν1) args vs := by
    have := l6.keep (Keeps.sub hOO) (l6.takeν rs.length ha hD)
    rwa [hν1] at this
  refine (h av' ν1 w vs hRG (fun b hb => ⟨.inl (hav b hb), hnav b (hav b hb)⟩) hF hD').mono ?_
  rintro e w' ⟨y, ν', rfl, h1, h2, h3⟩
  have hν' : ν' = ν1 := c0w h2.nu (by rw [h1.len, hl, hl1])
  subst hν'
  have hlen' : ν.length = (rs' ++ ex).length := by rw [hlen, c1s, c1s, hl]
  have hν1' : ν.take rs'.length = ν' := by rw [hl]; exact hν1
  have hown' := fun b => a2G hlen' b
  rw [hν1', hl] at hown'
  have hnu : T9 [] ν' ν := by rw [<- hν1]; exact T9.take ν _
  have hxo : ∀ b k r x, ex[k]? = some r -> ν[rs.length + k]? = some x -> fp r x b -> owned (rs ++ ex) ν b := fun b k r x g1 g2 g3 => (hown b).2 (.inr ⟨k, r, x, g1, g2, g3⟩)
  have hOO' : ∀ b, OO av (rs' ++ ex) ν b -> OO av' rs' ν' b := fun b hb => by
    rcases hb with hb | hb
    · exact .inl ⟨.inl hb, hnav b hb⟩
    · rcases (hown' b).1 hb with hb | ⟨k, r, x, g1, g2, g3⟩
      · exact .inr hb
      · exact .inl ⟨.inr (hxo b k r x g1 g2 g3), hx b k r x g1 g2 g3⟩
  have hM : Mv (rs ++ ex) ν w [] (rs' ++ ex) ν w' := by
    refine ⟨h2.os, h2.tape, h2.output, h2.size, fun b hb hn => h2.block b hb fun ho => hn ((hown b).2 (.inl ho)), fun b hb => ?_, fun _ _ _ h => h⟩
    rcases (hown' b).1 hb with hb | ⟨k, r, x, g1, g2, g3⟩
    · rcases h2.own b hb with g | g
      · exact .inl ((hown b).2 (.inl g))
      · exact .inr g
    · exact .inl (hxo b k r x g1 g2 g3)
  refine ⟨y, ν, rfl, ⟨hlen', fun k r hk => ?_, fun l m q q' z z' b hne g1 g2 g3 g4 g5 => ?_, fun b hb => ?_, fun b hb => c1K (hR.av b hb) h2.size, c1v hR.n0 h2.size⟩, hM, Den.keep (Keeps.sub hOO') (Den.nu hnu (fun k hk => by cases hk) h3)⟩
  · rcases c1Q k rs'.length with hlt | hge
    · rw [c1C hlt] at hk
      obtain ⟨x, hx', hok⟩ := h1.res k r hk
      exact ⟨x, hnu k x (fun hk => by cases hk) hx', b7r hnu hOO' hok⟩
    · have hk' : (rs ++ ex)[k]? = some r := by
        rw [c1F hge] at hk
        rw [c1F (by omega), <- hl]; exact hk
      obtain ⟨x, hx', hok⟩ := hR.res k r hk'
      refine ⟨x, hx', ?_⟩
      have := hok.mv (O' := OO av (rs' ++ ex) ν) (hM.keeps (av := av)) hM.nu (fun b hf => h2.block b (hR.lt hk' hx' hf) (by
        rw [c1F hge] at hk
        exact hx b (k - rs'.length) r x hk (by rw [show rs.length + (k - rs'.length) = k by omega]; exact hx') hf))
      rwa [a1D] at this
  · rcases c1Q l rs'.length with hl1' | hl1' <;> rcases c1Q m rs'.length with hm1 | hm1
    · rw [c1C hl1'] at g1
      rw [c1C hm1] at g2
      have e1 : ν'[l]? = some z := by rw [<- hν1']; exact I7 hl1' g3
      have e2 : ν'[m]? = some z' := by rw [<- hν1']; exact I7 hm1 g4
      exact h1.dis l m q q' z z' b hne g1 g2 e1 e2 g5
    · rw [c1C hl1'] at g1
      rw [c1F hm1] at g2
      have e1 : ν'[l]? = some z := by rw [<- hν1']; exact I7 hl1' g3
      have g4' : ν[rs.length + (m - rs'.length)]? = some z' := by rw [show rs.length + (m - rs'.length) = m by omega]; exact g4
      intro hf
      rcases h2.own b ⟨l, q, z, g1, e1, g5⟩ with ho | ho
      · exact hx b _ q' z' g2 g4' hf ho
      · have := (hR.low b (hxo b _ q' z' g2 g4' hf)).1; omega
    · rw [c1F hl1'] at g1
      rw [c1C hm1] at g2
      have e2 : ν'[m]? = some z' := by rw [<- hν1']; exact I7 hm1 g4
      have g3' : ν[rs.length + (l - rs'.length)]? = some z := by rw [show rs.length + (l - rs'.length) = l by omega]; exact g3
      intro hf
      rcases h2.own b ⟨m, q', z', g2, e2, hf⟩ with ho | ho
      · exact hx b _ q z g1 g3' g5 ho
      · have := (hR.low b (hxo b _ q z g1 g3' g5)).1; omega
    · rw [c1F hl1'] at g1
      rw [c1F hm1] at g2
      exact hR.dis l m q q' z z' b hne (by rw [c1F (by omega), <- hl]; exact g1) (by rw [c1F (by omega), <- hl]; exact g2) g3 g4 g5
  · rcases (hown' b).1 hb with hb | ⟨k, r, x, g1, g2, g3⟩
    · obtain ⟨a1, a2, a3⟩ := h1.low b hb
      exact ⟨a1, fun ha => a2 ⟨.inl ha, hnav b ha⟩, a3⟩
    · obtain ⟨a1, a2, a3⟩ := hR.low b (hxo b k r x g1 g2 g3)
      exact ⟨c1K a1 h2.size, a2, a3⟩
end Go.Proofs.YtogfpjohjphngaaGreatDoor.Eng
namespace Go.Proofs.YtogfpjohjphngaaGreatDoor
open Go Go.RowKit Eng
set_option maxRecDepth 10000
set_option maxHeartbeats 8000000
def rsW (w : Wk) (n : Nms) : List Res := [.box 31 w.enc, .map true (nmE n), .box 140 [.mp 1]]
theorem b7e {E : Ctx} (hP : E.P = Tryz.prog) (ht0 : Tz E) (w : Wk) (n : Nms) (a : Am) (hb : Ab 1073741824 a) :
  l8 E (rsW w n) 86 [a.c, .bp 2 0] (ints (a0j n a).1) (rsW w (a0j n a).2) [] := by
 obtain ⟨P, eff', N, w0, own0, av0, nu0, pk0⟩ := E
 simp only at hP
 subst hP
 refine l8.ofT (eff := eff) ht0 Tryz.func86 (by cbv) (by exact c1I rfl) fun w' own av ν hν ht => ?_
 have hν0 : ν.length <= 3 := by rw [hν]; exact c1A _
 have b0 := hb.1
 have h2 := a7O a hb
 have h1 := fun (E : Ctx) (hP : E.P = Tryz.prog) => a9O hP n a.name (by omega)
 unfold a0j
 generalize J5 n a.name = r at *
 obtain ⟨e1, m⟩ := r
 generalize J8 a = e2 at *
 obtain ⟨name, ⟨x, y, half, t⟩, links⟩ := a
 obtain ⟨arms, walls, parts, slots, gates, walk⟩ := w
 simp only [j6]
 simp only [Am.c, Am.enc, lks, sb, ints, rsW, Wk.enc, ams, wls, pts, sls, gts] at *
 (repeat first | refine uA ?_ | (refine uK ?_ ?_; focus first | omega | (intros; simp_all <;> omega)) | simp (disch := omega) only [go_sem, Nat.reduceBEq, Nat.reduceAdd, ww] | (refine uD h2 ?_ ?_ ?_; exact ht; exact rfl))
 refine S.cond rfl (fun hc => ?_) (fun hc => ?_)
 ·rw [if_pos (by simpa using hc)]
  (repeat first | refine uA ?_ | (refine uK ?_ ?_; focus first | omega | (intros; simp_all <;> omega)) | simp (disch := omega) only [go_sem, Nat.reduceBEq, Nat.reduceAdd, ww])
  (refine S.done ?_; simp only [p9, l7, go_sem, Nat.reduceBEq, Nat.reduceAdd, Nat.reduceLeDiff, Int.reduceToNat, Int.reducePow]; (repeat (refine ⟨?_, ?_⟩; focus first | trivial | omega | simp)); exact j3.M8 (Imp.refl rfl) (by (repeat first | refine uA ?_ | (refine ⟨?_, ?_⟩; focus first | rfl | simp [slot]) | rfl | simp)) (c1v hν0 (by simp)))
 rw [if_neg (by simpa using hc)]
 (repeat first | refine uA ?_ | (refine uK ?_ ?_; focus first | omega | (intros; simp_all <;> omega)) | simp (disch := omega) only [go_sem, Nat.reduceBEq, Nat.reduceAdd, ww] | refine l9.t (l8.lift (k := 1) rfl (h1 _ rfl) rfl rfl rfl) ?_)
 (refine S.done ?_; simp only [p9, l7, go_sem, Nat.reduceBEq, Nat.reduceAdd, Nat.reduceLeDiff, Int.reduceToNat, Int.reducePow]; (repeat (refine ⟨?_, ?_⟩; focus first | trivial | omega | simp)); exact j3.M8 (Imp.refl rfl) (by (repeat first | refine uA ?_ | (refine ⟨?_, ?_⟩; focus first | rfl | simp [slot]) | rfl | simp)) (c1v hν0 (by simp)))
theorem b5p {E : Ctx} (hP : E.P = Tryz.prog) (ht0 : Tz E) (w : Wk) (n : Nms) (l : List Am) (hn : l.length <= 1073741824) (hb : ∀ x ∈ l, Ab 1073741824 x) :
  l8 E (rsW w n) 89 [ams l, .clo 86 [.bp 2 0]] (ints (C9 a0j n l).1) (rsW w (C9 a0j n l).2) [] := by
 obtain ⟨P, eff', N, w0, own0, av0, nu0, pk0⟩ := E
 simp only at hP
 subst hP
 refine l8.ofT (eff := eff) ht0 Tryz.func89 (by cbv) (by exact c1I rfl) fun w' own av ν hν ht => ?_
 have hν0 : ν.length <= 3 := by rw [hν]; exact c1A _
 have hcal : callable Tryz.prog 86 = true := by kernel_rfl
 simp only [j6, ams, ints]
 simp only [rsW, Wk.enc, ams, wls, pts, sls, gts]
 (repeat first | refine uA ?_ | (refine uK ?_ ?_; focus first | omega | (intros; simp_all <;> omega)) | simp (disch := omega) only [go_sem, Nat.reduceBEq, Nat.reduceAdd, ww, c1q])
 refine S.loop (X := Nat × Nms) (fun x => ⟨[(1, .clo 86 [.bp 2 0]), (8, ams l), (9, ints l.length), (10, ints x.1)], rsW w x.2⟩) (fun x => x.1 <= l.length /\ C9 a0j n l = C9 a0j x.2 (l.drop x.1)) (fun x => l.length - x.1) (0, n) ⟨c1y _, rfl⟩ (by simp only [rsW, Wk.enc, ams, wls, pts, sls, gts]; exact (by (repeat first | refine uA ?_ | (refine ⟨?_, ?_⟩; focus first | rfl | simp [slot]) | rfl | simp | exact c1v hν0 (by simp)))) ?_
 rintro ⟨i, m⟩ ⟨hi, hg⟩
 simp only [ams, ints, rsW, Wk.enc, wls, pts, sls, gts] at hi hg ⊢
 (repeat first | refine uA ?_ | (refine uK ?_ ?_; focus first | omega | (intros; simp_all <;> omega)) | simp (disch := omega) only [go_sem, Nat.reduceBEq, Nat.reduceAdd, ww])
 (refine uJ rfl (fun hc => ?_) fun hc => ?_)
 ·have hi' : i < l.length := by omega
  have hgi := c1p hi'
  generalize l[i] = x at hgi
  have hst := R6 (f := a0j) (s := m) hgi
  have hnx := R7 (f := a0j) (s := m) hgi
  have hs := fun (E : Ctx) (hP : E.P = Tryz.prog) (ht : Tz E) => b7e hP ht w m x (hb x (c1t hgi))
  generalize a0j m x = r at *
  obtain ⟨e, m'⟩ := r
  simp only [Am.c, Am.enc, lks, sb, ints, rsW, Wk.enc, ams, wls, pts, sls, gts] at hs hst hnx
  (repeat first | refine uA ?_ | (refine uK ?_ ?_; focus first | omega | (intros; simp_all <;> omega)) | simp (disch := omega) only [go_sem, Nat.reduceBEq, Nat.reduceAdd, ww, hgi, c1r, c1q, Am.enc, lks, sb, hcal] | refine l9.t (l8.ext _ (hs _ rfl ht) rfl rfl rfl) ?_)
  refine S.cond rfl (fun hc2 => ?_) (fun hc2 => ?_)
  ·rw [hg, hst (by simpa using hc2)]
   (repeat first | refine uA ?_ | (refine uK ?_ ?_; focus first | omega | (intros; simp_all <;> omega)) | simp (disch := omega) only [go_sem, Nat.reduceBEq, Nat.reduceAdd, ww])
   (refine S.done ?_; simp only [p9, l7, go_sem, Nat.reduceBEq, Nat.reduceAdd, Nat.reduceLeDiff, Int.reduceToNat, Int.reducePow]; (repeat (refine ⟨?_, ?_⟩; focus first | trivial | omega | simp)); exact j3.M8 (Imp.refl rfl) (by (repeat first | refine uA ?_ | (refine ⟨?_, ?_⟩; focus first | rfl | simp [slot]) | rfl | simp)) (c1v hν0 (by simp)))
  ·have hc3 : e = 0 := by simpa using hc2
   (repeat first | refine uA ?_ | (refine uK ?_ ?_; focus first | omega | (intros; simp_all <;> omega)) | simp (disch := omega) only [go_sem, Nat.reduceBEq, Nat.reduceAdd, ww])
   refine S.next (x := (i, m)) (i + 1, m') ⟨by simp only; omega, by simp only; rw [hg, hnx hc3]⟩ (by simp only; omega) (by (repeat first | refine uA ?_ | (refine ⟨?_, ?_⟩; focus first | rfl | simp [slot]) | rfl | simp | exact c1v hν0 (by simp)))
 ·rw [hg, W9 (by omega)]
  (repeat first | refine uA ?_ | (refine uK ?_ ?_; focus first | omega | (intros; simp_all <;> omega)) | simp (disch := omega) only [go_sem, Nat.reduceBEq, Nat.reduceAdd, ww])
  (refine S.done ?_; simp only [p9, l7, go_sem, Nat.reduceBEq, Nat.reduceAdd, Nat.reduceLeDiff, Int.reduceToNat, Int.reducePow]; (repeat (refine ⟨?_, ?_⟩; focus first | trivial | omega | simp)); exact j3.M8 (Imp.refl rfl) (by (repeat first | refine uA ?_ | (refine ⟨?_, ?_⟩; focus first | rfl | simp [slot]) | rfl | simp)) (c1v hν0 (by simp)))
theorem b6O (w : Wk) (hb : Wb 1073741824 w) : FZ 23 [w.c] (ints (X3 w)) := by
 refine kW a8y a8D (by rfl) fun w' O hw => ?_
 have ht : Tz ⟨Tryz.prog, eff, a2l.ntmps, w', fun _ => False, O, [], []⟩ := tz hw
 obtain ⟨⟨n1, b1⟩, ⟨n2, b2⟩, ⟨n3, b3⟩, ⟨n4, b4⟩, ⟨n5, b5⟩, b6⟩ := hb
 have h1 := fun (E : Ctx) (hP : E.P = Tryz.prog) (ht : Tz E) => b5p hP ht w [] w.arms n1 b1
 have h2 := b3m w.walls n2 b2
 unfold X3 a4E
 generalize C9 a0j [] w.arms = r1 at *
 obtain ⟨e1, m1⟩ := r1
 have h3 := fun (E : Ctx) (hP : E.P = Tryz.prog) (ht : Tz E) => b3z hP ht m1 w.parts n3 b3
 simp only at h3 ⊢
 generalize C9 a0a m1 w.parts = r3 at *
 obtain ⟨e3, m3⟩ := r3
 have h4 := fun (E : Ctx) (hP : E.P = Tryz.prog) (ht : Tz E) => b3o hP ht m3 w.slots n4 b4
 simp only at h4 ⊢
 generalize C9 Z5 m3 w.slots = r4 at *
 obtain ⟨e4, m4⟩ := r4
 have h5 := fun (E : Ctx) (hP : E.P = Tryz.prog) (ht : Tz E) => b3J hP ht m4 w.gates n5 b5
 simp only at h5 ⊢
 generalize C9 Z6 m4 w.gates = r5 at *
 obtain ⟨e5, m5⟩ := r5
 generalize D8 K8 w.walls = e2 at *
 simp only
 have h6 := P5 w.walk (b6.mono (by decide))
 have h7 := a2b w.walk (b6.mono (by decide))
 have h8 := O3 w.walk (b6.mono (by decide))
 unfold a9Q
 generalize decide w.walk.A8 = q1 at *
 generalize j4 w.walk = q2 at *
 generalize y8 (Nm.d9 w.walk) = s8 at *
 obtain ⟨arms, walls, parts, slots, gates, walk⟩ := w
 simp only [a2l, j6, TT, II, OA, OB, OC, MM, LL, VV, FF, MG, LG, VG, FG] at ht ⊢
 simp only [Wk.c, Wk.enc, rsW, ams, wls, pts, sls, gts, rc, sb, ints] at *
 (repeat first | refine uA ?_ | (refine uK ?_ ?_; focus first | omega | (intros; simp_all <;> omega)) | simp (disch := omega) only [go_sem, Nat.reduceBEq, Nat.reduceAdd, ww, c1q])
 refine S.cond rfl (fun hc => ?_) (fun hc => ?_)
 ·rw [if_pos (by simp only [c1Z, c1w] at hc; omega)]
  (repeat first | refine uA ?_ | (refine uK ?_ ?_; focus first | omega | (intros; simp_all <;> omega)) | simp (disch := omega) only [go_sem, Nat.reduceBEq, Nat.reduceAdd, ww])
  exact S.done (j3.out rfl (Imp.refl rfl) rfl)
 rw [if_neg (by simp only [c1H, c1x] at hc; omega)]
 (repeat first | refine uA ?_ | (refine uK ?_ ?_; focus first | omega | (intros; simp_all <;> omega)) | simp (disch := omega) only [go_sem, Nat.reduceBEq, Nat.reduceAdd, ww, c1q])
 refine S.cond rfl (fun hc => ?_) (fun hc => ?_)
 ·rw [if_pos (by simp only [c1w] at hc; omega)]
  (repeat first | refine uA ?_ | (refine uK ?_ ?_; focus first | omega | (intros; simp_all <;> omega)) | simp (disch := omega) only [go_sem, Nat.reduceBEq, Nat.reduceAdd, ww])
  exact S.done (j3.out rfl (Imp.refl rfl) rfl)
 rw [if_neg (by simp only [c1x] at hc; omega)]
 (repeat first | refine uI ?_ | (refine uK ?_ ?_; focus first | omega | (intros; simp_all <;> omega)) | simp (disch := omega) only [go_sem, Nat.reduceBEq, Nat.reduceAdd, ww])
 refine S.K3 [.box 31 [.sl 12 (arms.map Am.enc), .sl 1 (walls.map fun s => [vts s]), .sl 12 (parts.map Pt.enc), .sl 14 (slots.map Sl.enc), .sl 13 (gates.map Gt.enc), .v (.bool walk.neg), .v (.string (bs walk.num)), .v (.string (bs walk.den))], .gone, .box 140 [.mp 1]] (by simp [Eng.E5, Eng.P9]) ?_
 (repeat first | refine uA ?_ | (refine uK ?_ ?_; focus first | omega | (intros; simp_all <;> omega)) | simp (disch := omega) only [go_sem, Nat.reduceBEq, Nat.reduceAdd, ww, c1q, E5] | refine l9.t (h1 _ rfl ht) ?_ | refine l9.t (l8.lift (k := 1) rfl (h3 _ rfl ht) rfl rfl rfl) ?_ | refine l9.t (l8.lift (k := 1) rfl (h4 _ rfl ht) rfl rfl rfl) ?_ | refine l9.t (l8.lift (k := 1) rfl (h5 _ rfl ht) rfl rfl rfl) ?_ | (refine uD h2 ?_ ?_ ?_; exact tz hw; exact rfl))
 generalize hL : [e1, e2, e3, e4, e5] = L
 have hl5 : L.length = 5 := by rw [<- hL]; rfl
 have e63 : [[C.v (Value.int IntKind.i64 e1)], [C.v (Value.int IntKind.i64 e2)], [C.v (Value.int IntKind.i64 e3)], [C.v (Value.int IntKind.i64 e4)], [C.v (Value.int IntKind.i64 e5)]] = L.map fun e => [C.v (Value.int IntKind.i64 e)] := by rw [<- hL]; rfl
 simp only [e63]
 refine S.loop (X := Nat) (fun i => ⟨[(1, .bp 0 0), (63, .sl 1 (L.map fun e => [.v (.int .i64 e)])), (64, ints 5), (65, ints i)], [.box 31 [.sl 12 (arms.map Am.enc), .sl 1 (walls.map fun s => [vts s]), .sl 12 (parts.map Pt.enc), .sl 14 (slots.map Sl.enc), .sl 13 (gates.map Gt.enc), .v (.bool walk.neg), .v (.string (bs walk.num)), .v (.string (bs walk.den))]]⟩) (fun i => i <= 5 /\ D8 id L = D8 id (L.drop i)) (fun i => 5 - i) 0 ⟨c1y _, rfl⟩ (by (repeat first | refine uA ?_ | (refine ⟨?_, ?_⟩; focus first | rfl | simp [slot]) | rfl | simp)) ?_
 rintro i ⟨hi, hg⟩
 simp only [ints] at hi hg ⊢
 (repeat first | refine uA ?_ | (refine uK ?_ ?_; focus first | omega | (intros; simp_all <;> omega)) | simp (disch := omega) only [go_sem, Nat.reduceBEq, Nat.reduceAdd, ww])
 (refine uJ rfl (fun hc => ?_) fun hc => ?_)
 ·have hi' : i < L.length := by omega
  have hgi := c1p hi'
  generalize L[i] = x at hgi
  have hst := a0h (f := id) hgi
  have hnx := a0c (f := id) hgi
  simp only [id] at hst hnx
  (repeat first | refine uA ?_ | (refine uK ?_ ?_; focus first | omega | (intros; simp_all <;> omega)) | simp (disch := omega) only [go_sem, Nat.reduceBEq, Nat.reduceAdd, ww, hgi, c1r, c1q, hl5])
  refine S.cond rfl (fun hc2 => ?_) (fun hc2 => ?_)
  ·have h0 : x ≠ 0 := by simpa using hc2
   rw [hg, hst h0, if_pos h0]
   (repeat first | refine uA ?_ | (refine uK ?_ ?_; focus first | omega | (intros; simp_all <;> omega)) | simp (disch := omega) only [go_sem, Nat.reduceBEq, Nat.reduceAdd, ww])
   exact S.done (j3.out rfl (Imp.refl rfl) rfl)
  ·have hc3 : x = 0 := by simpa using hc2
   (repeat first | refine uA ?_ | (refine uK ?_ ?_; focus first | omega | (intros; simp_all <;> omega)) | simp (disch := omega) only [go_sem, Nat.reduceBEq, Nat.reduceAdd, ww])
   refine S.next (i + 1) ⟨by omega, by rw [hg]; exact hnx hc3⟩ (by omega) (by (repeat first | refine uA ?_ | (refine ⟨?_, ?_⟩; focus first | rfl | simp [slot]) | rfl | simp))
 ·rw [hg, a0w (by omega), if_neg (by decide)]
  (repeat first | refine uA ?_ | (refine uK ?_ ?_; focus first | omega | (intros; simp_all <;> omega)) | simp (disch := omega) only [go_sem, Nat.reduceBEq, Nat.reduceAdd, ww] | (refine uD h6 ?_ ?_ ?_; exact tz hw; exact rfl) | (refine uD h7 ?_ ?_ ?_; exact tz hw; exact rfl) | (refine uD h8 ?_ ?_ ?_; exact tz hw; exact rfl))
  refine S.cond rfl (fun hc => ?_) (fun hc => ?_)
  ·rw [if_neg (by simp only [c1Z, Bool.not_eq_true', c1w] at hc; simp only [c1B, c1w]; rintro ⟨⟨g7, g8⟩, g9⟩; rcases hc with (hc | hc) | hc <;> first | (rw [hc] at g7; cases g7; done) | (rw [hc] at g8; cases g8; done) | omega)]
   (repeat first | refine uA ?_ | (refine uK ?_ ?_; focus first | omega | (intros; simp_all <;> omega)) | simp (disch := omega) only [go_sem, Nat.reduceBEq, Nat.reduceAdd, ww])
   exact S.done (j3.out rfl (Imp.refl rfl) rfl)
  ·rw [if_pos (by simp only [c1H, Bool.not_eq_false', c1x] at hc; simp only [c1B, c1w]; obtain ⟨⟨g7, g8⟩, g9⟩ := hc; exact ⟨⟨g7, g8⟩, by omega⟩)]
   (repeat first | refine uA ?_ | (refine uK ?_ ?_; focus first | omega | (intros; simp_all <;> omega)) | simp (disch := omega) only [go_sem, Nat.reduceBEq, Nat.reduceAdd, ww])
   exact S.done (j3.out rfl (Imp.refl rfl) rfl)
end Go.Proofs.YtogfpjohjphngaaGreatDoor
namespace Go.Proofs.YtogfpjohjphngaaGreatDoor.Eng
open Go Go.RowKit
mutual
def C.sh (n : Nat) : C -> C
 | .rv k => .rv (n + k)
 | .agg cs => .agg (C.shL n cs)
 | .tup cs => .tup (C.shL n cs)
 | c => c
def C.shL (n : Nat) : List C -> List C
 | [] => []
 | c :: cs => C.sh n c :: C.shL n cs
end
mutual
def C.okS : C -> Bool
 | .rv _ => true
 | .agg cs => C.b1i cs
 | .tup cs => C.b1i cs
 | c => c.cl
def C.b1i : List C -> Bool
 | [] => true
 | c :: cs => C.okS c && C.b1i cs
end
section
variable {ν ν' : List Value} {w : World} {O O' : Nat -> Prop}
mutual
theorem b5M (hO : ∀ b, O' b -> O b) : ∀ {c : C} {y : Value}, c.okS = true -> Den ν' w O c y -> Den (ν ++ ν') w O' (C.sh ν.length c) y
 | .rv k, y, _, h => by
  simp only [C.sh, Den] at h ⊢
  exact ⟨by rw [c1F (by omega), show ν.length + k - ν.length = k by omega]; exact h.1, h.2⟩
 | .agg cs, y, hc, h => by
  simp only [C.sh, Den, C.okS] at h hc ⊢
  obtain ⟨vs, h1, h2⟩ := h
  exact ⟨vs, a8C hO hc h1, h2⟩
 | .tup cs, y, hc, h => by
  simp only [C.sh, Den, C.okS] at h hc ⊢
  obtain ⟨vs, h1, h2⟩ := h
  exact ⟨vs, a8C hO hc h1, h2⟩
 | .v x, y, hc, h => by simpa only [C.sh, Den] using h
 | .sl sz es, y, hc, h => by simp only [C.sh]; exact (Fz.keep (Keeps.sub hO) (h.fz hc)).den _
 | .nl, y, hc, h => by simpa only [C.sh, Den] using h
 | .ep cs, y, hc, h => by simp only [C.sh]; exact (Fz.keep (Keeps.sub hO) (h.fz hc)).den _
 | .clo f cs, y, hc, h => by simp only [C.sh]; exact (Fz.keep (Keeps.sub hO) (h.fz hc)).den _
 | .bnd f x, y, hc, h => by simp only [C.sh]; exact (Fz.keep (Keeps.sub hO) (h.fz hc)).den _
 | .any S, y, hc, h => by simpa only [C.sh, Den] using h
 | .bp _ _, y, hc, h => by simp only [C.okS, C.cl] at hc; cases hc
 | .rp _ _ _ _, y, hc, h => by simp only [C.okS, C.cl] at hc; cases hc
 | .mp _, y, hc, h => by simp only [C.okS, C.cl] at hc; cases hc
 | .wv _ _ _ _, y, hc, h => by simp only [C.okS, C.cl] at hc; cases hc
 | .g _ _, y, hc, h => by simp only [C.okS, C.cl] at hc; cases hc
 | .junk, y, hc, h => by simp only [C.okS, C.cl] at hc; cases hc
theorem a8C (hO : ∀ b, O' b -> O b) : ∀ {cs : List C} {vs : List Value}, C.b1i cs = true -> l6 ν' w O cs vs -> l6 (ν ++ ν') w O' (C.shL ν.length cs) vs
 | [], vs, _, h => by simpa only [C.shL, l6] using h
 | c :: cs, vs, hc, h => by
  simp only [C.shL, l6, C.b1i, c1B] at h hc ⊢
  obtain ⟨y, ys, e, h1, h2⟩ := h
  exact ⟨y, ys, e, b5M hO hc.1 h1, a8C hO hc.2 h2⟩
end
end
def Res.b7B : Res -> Bool
 | .gone => true
 | r => r.shut
theorem b6C {ν ν' : List Value} {w : World} {O O' : Nat -> Prop} {x : Value} {r : Res} (hs : r.b7B = true) (hO : ∀ b, O' b -> O b) (h : K5 ν w O x r) : K5 ν' w O' x r := by
 cases r with
 | gone => trivial
 | box t cs => exact a4w hs hO h
 | row e sz es => exact a4w rfl hO h
 | map s es => exact a4w rfl hO h
theorem l8.pre {E : Ctx} {rs rs' : List Res} {f : Nat} {args : List C} {s : C} (h : l8 E [] f args s rs' []) (hr : rs'.all Res.b7B = true) (hs : s.okS = true) (ha : C.clL args = true) : l8 E rs f args (C.sh rs.length s) (rs ++ rs') [] := by
  intro av ν w vs hR hav hF hD
  rw [List.all_eq_true] at hr
  let av' : Nat -> Prop := OO av rs ν
  have hlt : ∀ b, av' b -> b < w.heap.size := fun b hb => by
    rcases hb with hb | hb
    · exact hR.av b hb
    · exact (hR.low b hb).1
  have ho0 : ∀ b, ¬ owned [] [] b := fun b ⟨k, r, x, hk, _⟩ => by simp at hk
  have hRG : RG av' E.own0 E.w0.heap.size [] [] w := ⟨rfl, fun k r hk => by simp at hk, fun k l r r' x x' b _ hk => by simp at hk, fun b hb => (ho0 b hb).elim, hlt, hR.n0⟩
  have hOO : ∀ b, OO av' [] [] b -> OO av rs ν b := fun b hb => hb.elim id fun h => (ho0 b h).elim
  refine (h av' [] w vs hRG (fun b hb => .inl (hav b hb)) hF ((FzL.keep (Keeps.sub hOO) (hD.fz ha)).den _)).mono ?_
  rintro e w' ⟨y, ν', rfl, h1, h2, h3⟩
  have hlen : (ν ++ ν').length = (rs ++ rs').length := by rw [c1s, c1s, hR.len, h1.len]
  have htk : (ν ++ ν').take rs.length = ν := by rw [<- hR.len]; simp
  have hown := fun b => a2G hlen b
  rw [htk] at hown
  have hnew : ∀ b, (∃ k r x, rs'[k]? = some r /\ (ν ++ ν')[rs.length + k]? = some x /\ fp r x b) -> owned rs' ν' b := by
    rintro b ⟨k, r, x, g1, g2, g3⟩
    rw [<- hR.len, c1F (by omega), show ν.length + k - ν.length = k by omega] at g2
    exact ⟨k, r, x, g1, g2, g3⟩
  have hge : ∀ b, owned rs' ν' b -> w.heap.size <= b := fun b hb => (h2.own b hb).elim (fun h => (ho0 b h).elim) id
  have hnu : T9 [] ν (ν ++ ν') := fun k x _ hx => by rw [c1C (c1z.1 hx).1]; exact hx
  have hM : Mv rs ν w [] (rs ++ rs') (ν ++ ν') w' := by
    refine ⟨h2.os, h2.tape, h2.output, h2.size, fun b hb _ => h2.block b hb (ho0 b), fun b hb => ?_, hnu⟩
    rcases (hown b).1 hb with hb | hb
    · exact .inl hb
    · exact .inr (hge b (hnew b hb))
  have hOO' : ∀ b, OO av (rs ++ rs') (ν ++ ν') b -> OO av' rs' ν' b := fun b hb => by
    rcases hb with hb | hb
    · exact .inl (.inl hb)
    · rcases (hown b).1 hb with hb | hb
      · exact .inl (.inr hb)
      · exact .inr (hnew b hb)
  refine ⟨y, ν ++ ν', rfl, ⟨hlen, fun k r hk => ?_, fun l m q q' z z' b hne g1 g2 g3 g4 g5 => ?_, fun b hb => ?_, fun b hb => c1K (hR.av b hb) h2.size, c1v hR.n0 h2.size⟩, hM, by rw [<- hR.len]; exact b5M hOO' hs h3⟩
  · rcases c1Q k rs.length with hlt' | hge'
    · rw [c1C hlt'] at hk
      obtain ⟨x, hx, hok⟩ := hR.res k r hk
      have := hok.mv (hM.keeps (av := av)) hM.nu (fun b hf => h2.block b (hR.lt hk hx hf) (ho0 b))
      rw [a1D] at this
      exact ⟨x, hnu k x (fun h => by cases h) hx, this⟩
    · rw [c1F hge'] at hk
      obtain ⟨x, hx, hok⟩ := h1.res _ r hk
      refine ⟨x, by rw [c1F (by rw [hR.len]; exact hge'), hR.len]; exact hx, b6C (hr r (c1t hk)) hOO' hok⟩
  · have old : ∀ {l q z}, l < rs.length -> (rs ++ rs')[l]? = some q -> (ν ++ ν')[l]? = some z -> rs[l]? = some q /\ ν[l]? = some z := fun hl a1 a2 => by
      rw [c1C hl] at a1
      rw [c1C (by rw [hR.len]; exact hl)] at a2
      exact ⟨a1, a2⟩
    have new : ∀ {l q z}, rs.length <= l -> (rs ++ rs')[l]? = some q -> (ν ++ ν')[l]? = some z -> rs'[l - rs.length]? = some q /\ ν'[l - rs.length]? = some z := fun hl a1 a2 => by
      rw [c1F hl] at a1
      rw [c1F (by rw [hR.len]; exact hl), hR.len] at a2
      exact ⟨a1, a2⟩
    rcases c1Q l rs.length with hl1 | hl1 <;> rcases c1Q m rs.length with hm1 | hm1
    · obtain ⟨a1, a2⟩ := old hl1 g1 g3
      obtain ⟨a3, a4⟩ := old hm1 g2 g4
      exact hR.dis l m q q' z z' b hne a1 a3 a2 a4 g5
    · obtain ⟨a1, a2⟩ := old hl1 g1 g3
      obtain ⟨a3, a4⟩ := new hm1 g2 g4
      intro hf
      have := hR.lt a1 a2 g5
      have := hge b ⟨_, _, _, a3, a4, hf⟩
      omega
    · obtain ⟨a1, a2⟩ := new hl1 g1 g3
      obtain ⟨a3, a4⟩ := old hm1 g2 g4
      intro hf
      have := hR.lt a3 a4 hf
      have := hge b ⟨_, _, _, a1, a2, g5⟩
      omega
    · obtain ⟨a1, a2⟩ := new hl1 g1 g3
      obtain ⟨a3, a4⟩ := new hm1 g2 g4
      exact h1.dis _ _ q q' z z' b (by omega) a1 a3 a2 a4 g5
  · rcases (hown b).1 hb with hb | hb
    · obtain ⟨a1, a2, a3⟩ := hR.low b hb
      exact ⟨c1K a1 h2.size, a2, a3⟩
    · obtain ⟨a1, a2, a3⟩ := h1.low b (hnew b hb)
      exact ⟨a1, fun ha => a2 (.inl ha), a3⟩
end Go.Proofs.YtogfpjohjphngaaGreatDoor.Eng
