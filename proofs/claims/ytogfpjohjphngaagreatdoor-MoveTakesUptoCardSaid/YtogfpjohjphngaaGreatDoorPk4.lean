/- A part of the proof: lemmas only, with the conditions that each names. -/
import Derived.Test.YtogfpjohjphngaaGreatDoorProg
import Derived.KernelRfl
import Derived.Test.YtogfpjohjphngaaGreatDoorPk3
set_option linter.all false
namespace Go.Proofs.YtogfpjohjphngaaGreatDoor
open Go Go.RowKit Eng
set_option maxRecDepth 10000
set_option maxHeartbeats 4000000
def rc (a : Nm.Rt) : C := .agg [.v (.bool a.neg), sb a.num, sb a.den]
def rq (q : Rat) : C := rc (Nm.ofQ q)
def Rb (k : Nat) (a : Nm.Rt) : Prop := a.num.length <= k /\ a.den.length <= k
theorem a4R (l : List UInt8) : (bs l = (⟨#[1]⟩ : ByteArray)) = (l = [1]) := a5b l [1]
theorem a9f (l : List UInt8) : Nm.canon l <-> (l = [] \/ l.getD 0 0 ≠ 0) := by
 cases l with
 | nil => simp [Nm.a5Y]
 | cons b r =>
  simp only [List.getD_cons_zero, reduceCtorEq, false_or]
  constructor
  ·intro h h0; exact h r (by rw [h0])
  ·intro h q e; injection e with e1 _; exact h e1
theorem a0z (a : Nm.Rt) (ha : Rb 68719476736 a) : FZ 62 [rc a] (.v (.bool (decide a.D6))) := by
  refine kW Tryz.func62 (by cbv) (by rfl) fun w O hw => ?_
  obtain ⟨neg, num, den⟩ := a
  obtain ⟨hn, hd⟩ := ha
  simp only [rc] at hn hd ⊢
  simp only [j6, sb]
  have hg := b7Q num den (by omega) (by omega)
  have hgood : Nm.Rt.D6 ⟨neg, num, den⟩ <-> den ≠ [] /\ Nm.canon den /\ Nm.canon num /\ (num = [] -> neg = false /\ den = [1]) /\ (den = [1] \/ Nat.gcd (Nm.val num) (Nm.val den) = 1) := Iff.rfl
  rw [a9f, a9f] at hgood
  have hdl : (!decide (den = [])) = true -> 0 < (den.length : Int) := fun h => by
    have : den ≠ [] := by simpa using h
    have := List.length_pos_iff.2 this
    omega
  have hnl : num ≠ [] -> 0 < (num.length : Int) := fun h => by
    have := List.length_pos_iff.2 h
    omega
  have hgb0 : ∀ {p : Prop} [Decidable p], (Nm.Rt.D6 ⟨neg, num, den⟩ <-> p) -> decide (Nm.Rt.D6 ⟨neg, num, den⟩) = decide p := fun h => decide_eq_decide.2 h
  have hgb := hgb0 hgood
  clear hgood hgb0
  generalize decide (Nm.Rt.D6 ⟨neg, num, den⟩) = gb at *
  (repeat first | refine uA ?_ | (refine uK ?_ ?_; focus first | omega | trivial | (intro h; rw [h]; rfl) | (intro h h2; rw [h, h2]; rfl) | (intro h; (try simp at h); omega) | (intros; simp_all <;> omega)) | simp only [go_sem, Nat.reduceBEq, Nat.reduceAdd, Nat.reduceLeDiff, Int.reduceToNat, Int.reducePow, w9, O8, a6t, a0d, a4R] | simp (disch := omega) only [ww, w9, O8, a6t, a0d, a4R])
  refine S.cond rfl (fun hc => ?_) (fun hc => ?_)
  · have : gb = false := by
      rw [hgb, c1E]
      simp only [c1X, c1J, c1D, Bool.not_eq_true', c1E] at hc
      grind
    rw [this]
    (repeat first | refine uA ?_ | (refine uK ?_ ?_; focus first | omega | trivial | (intro h; rw [h]; rfl) | (intro h h2; rw [h, h2]; rfl) | (intro h; (try simp at h); omega) | (intros; simp_all <;> omega)) | simp only [go_sem, Nat.reduceBEq, Nat.reduceAdd, Nat.reduceLeDiff, Int.reduceToNat, Int.reducePow] | simp (disch := omega) only [ww])
    exact S.done (d9.out rfl (Imp.refl rfl) rfl)
  · have hone : (Nm.enc (Nat.gcd (Nm.val num) (Nm.val den)) = [1]) = (Nat.gcd (Nm.val num) (Nm.val den) = 1) := by
      rw [<- Nm.a1G]
      exact propext ⟨Nm.a8v, fun h => by rw [h]⟩
    have : gb = (decide (den = [1]) || decide (Nat.gcd (Nm.val num) (Nm.val den) = 1)) := by
      rw [hgb, <- Bool.decide_or]
      simp only [c1L, Bool.and_eq_false_iff, c1D, Bool.not_eq_false', c1E] at hc
      refine decide_eq_decide.2 ⟨fun h => h.2.2.2.2, fun h => ?_⟩
      grind
    rw [this]
    (repeat first | refine uA ?_ | (refine uK ?_ ?_; focus first | omega | trivial | (intro h; rw [h]; rfl) | (intro h h2; rw [h, h2]; rfl) | (intro h; (try simp at h); omega) | (intros; simp_all <;> omega)) | simp only [go_sem, Nat.reduceBEq, Nat.reduceAdd, Nat.reduceLeDiff, Int.reduceToNat, Int.reducePow, a0d, a4R, hone] | simp (disch := omega) only [ww, a0d, a4R, hone] | (refine uD hg ?_ ?_ ?_; exact tz hw; exact rfl))
    exact S.done (d9.out rfl (Imp.refl rfl) rfl)
theorem b5s : u6 Tryz.prog 181 [] (rc Nm.a2G) := by
 refine kS Tryz.func181 (by cbv) (by rfl) fun w O => ?_
 simp only [j6, rc, Nm.a2G, sb]
 (repeat first | refine uA ?_ | (refine uK ?_ ?_; focus first | omega | (intros; simp_all <;> omega)) | simp (disch := omega) only [go_sem, Nat.reduceBEq, Nat.reduceAdd, ww])
 (refine S.done ?_; simp only [p8, l7, go_sem, Nat.reduceBEq, Nat.reduceAdd, Nat.reduceLeDiff, Int.reduceToNat, Int.reducePow]; (repeat (refine ⟨?_, ?_⟩; focus first | trivial | omega | simp)); exact d9.out rfl (Imp.refl rfl) rfl)
theorem c0U (a : Nm.Rt) (ha : Rb 68719476736 a) : FZ 76 [rc a] (rq (Nm.j3 a)) := by
 refine kW Tryz.func76 (by cbv) (by rfl) fun w O hw => ?_
 have hg := a0z a ha
 have fz := b5s
 unfold rq
 by_cases h : a.D6
 ·rw [Nm.a6n h]
  rw [show decide a.D6 = true from decide_eq_true h] at hg
  simp only [j6, rc, sb] at hg ⊢
  (repeat first | refine uA ?_ | (refine uK ?_ ?_; focus first | omega | (intros; simp_all <;> omega)) | simp (disch := omega) only [go_sem, Nat.reduceBEq, Nat.reduceAdd, ww] | (refine uD hg ?_ ?_ ?_; exact tz hw; exact rfl))
  exact S.cond rfl (fun hc => by cases hc) (fun _ => by
   (repeat first | refine uA ?_ | (refine uK ?_ ?_; focus first | omega | (intros; simp_all <;> omega)) | simp (disch := omega) only [go_sem, Nat.reduceBEq, Nat.reduceAdd, ww])
   (refine S.done ?_; simp only [p8, l7, go_sem, Nat.reduceBEq, Nat.reduceAdd, Nat.reduceLeDiff, Int.reduceToNat, Int.reducePow]; (repeat (refine ⟨?_, ?_⟩; focus first | trivial | omega | simp)); exact d9.out rfl (Imp.refl rfl) rfl))
 ·have e : Nm.ofQ (Nm.j3 a) = Nm.a2G := by unfold Nm.j3; rw [if_neg h, Nm.a2z]
  rw [e]
  rw [show decide a.D6 = false from decide_eq_false h] at hg
  simp only [j6, rc, sb, Nm.a2G] at hg fz ⊢
  (repeat first | refine uA ?_ | (refine uK ?_ ?_; focus first | omega | (intros; simp_all <;> omega)) | simp (disch := omega) only [go_sem, Nat.reduceBEq, Nat.reduceAdd, ww] | (refine uD hg ?_ ?_ ?_; exact tz hw; exact rfl))
  exact S.cond rfl (fun _ => by
   (repeat first | refine uA ?_ | (refine uK ?_ ?_; focus first | omega | (intros; simp_all <;> omega)) | simp (disch := omega) only [go_sem, Nat.reduceBEq, Nat.reduceAdd, ww] | (refine uB fz ?_ ?_; exact rfl))
   (refine S.done ?_; simp only [p8, l7, go_sem, Nat.reduceBEq, Nat.reduceAdd, Nat.reduceLeDiff, Int.reduceToNat, Int.reducePow]; (repeat (refine ⟨?_, ?_⟩; focus first | trivial | omega | simp)); exact d9.out rfl (Imp.refl rfl) rfl)) (fun hc => by cases hc)
theorem b8E {n d k : Nat} (hd : 0 < d) (h : (Nm.enc d).length <= k) : (Nm.enc (Nat.gcd n d)).length <= k := Nm.F4 (Nat.lt_of_le_of_lt (Nat.gcd_le_right n hd) (Nm.Y9 h))
theorem a4L (neg : Bool) (n d : Nat) (hd : d ≠ 0) (hn : (Nm.enc n).length <= 68719476736) (hdl : (Nm.enc d).length <= 68719476736) :
  FZ 78 [.v (.bool neg), sb (Nm.enc n), sb (Nm.enc d)] (rq (mkRat (Nm.sgn neg n) d)) := by
 refine kW Tryz.func78 (by cbv) (by rfl) fun w O hw => ?_
 have fz := b5s
 have hg := b7Q (Nm.enc n) (Nm.enc d) hn hdl
 rw [Nm.J2, Nm.J2] at hg
 unfold rq
 rw [<- Nm.a8z neg hd]
 have hz : (Nm.enc n = []) = (n = 0) := propext ⟨fun h => Classical.byContradiction fun h0 => Nm.a4J h0 h, fun h => by rw [h, Nm.a1e]⟩
 have h1 : ∀ d, (Nm.enc d = [1]) = (d = 1) := fun d => by
  rw [<- Nm.a1G]; exact propext ⟨Nm.a8v, fun h => by rw [h]⟩
 have hgp : Nat.gcd n d ≠ 0 := fun h => hd (Nat.eq_zero_of_gcd_eq_zero_right h)
 have hgl : (Nm.enc (Nat.gcd n d)).length <= 68719476736 := by
  exact b8E (by omega) hdl
 have hd1 := b4c (Nm.enc n) (Nm.enc (Nat.gcd n d)) (by omega) (by omega) (by rw [Nm.J2]; exact hgp)
 have hd2 := b4c (Nm.enc d) (Nm.enc (Nat.gcd n d)) (by omega) (by omega) (by rw [Nm.J2]; exact hgp)
 simp only [Nm.J2] at hd1 hd2
 generalize hgg : Nat.gcd n d = g at *
 simp only [j6, sb]
 (repeat first | refine uA ?_ | (refine uK ?_ ?_; focus first | omega | (intros; simp_all <;> omega)) | simp (disch := omega) only [go_sem, Nat.reduceBEq, Nat.reduceAdd, ww, a0d, hz])
 (refine uJ rfl (fun hc => ?_) fun hc => ?_)
 ·rw [if_pos hc]
  simp only [rc, Nm.a2G, sb] at fz ⊢
  (repeat first | refine uA ?_ | (refine uK ?_ ?_; focus first | omega | (intros; simp_all <;> omega)) | simp (disch := omega) only [go_sem, Nat.reduceBEq, Nat.reduceAdd, ww] | (refine uB fz ?_ ?_; exact rfl))
  (refine S.done ?_; simp only [p8, l7, go_sem, Nat.reduceBEq, Nat.reduceAdd, Nat.reduceLeDiff, Int.reduceToNat, Int.reducePow]; (repeat (refine ⟨?_, ?_⟩; focus first | trivial | omega | simp)); exact d9.out rfl (Imp.refl rfl) rfl)
 rw [if_neg hc]
 simp only [rc, sb]
 (repeat first | refine uA ?_ | (refine uK ?_ ?_; focus first | omega | (intros; simp_all <;> omega)) | simp (disch := omega) only [go_sem, Nat.reduceBEq, Nat.reduceAdd, ww, a4R, h1])
 (refine uJ rfl (fun hc => ?_) fun hc => ?_)
 ·(repeat first | refine uA ?_ | (refine uK ?_ ?_; focus first | omega | (intros; simp_all <;> omega)) | simp (disch := omega) only [go_sem, Nat.reduceBEq, Nat.reduceAdd, ww, a4R, h1] | (refine uD hg ?_ ?_ ?_; exact tz hw; exact rfl))
  (refine uJ rfl (fun hc => ?_) fun hc => ?_)
  ·(repeat first | refine uA ?_ | (refine uK ?_ ?_; focus first | omega | (intros; simp_all <;> omega)) | simp (disch := omega) only [go_sem, Nat.reduceBEq, Nat.reduceAdd, ww] | (refine uB hd1 ?_ ?_; exact rfl) | (refine uB hd2 ?_ ?_; exact rfl))
   (refine S.done ?_; simp only [p8, l7, go_sem, Nat.reduceBEq, Nat.reduceAdd, Nat.reduceLeDiff, Int.reduceToNat, Int.reducePow]; (repeat (refine ⟨?_, ?_⟩; focus first | trivial | omega | simp)); exact d9.out rfl (Imp.refl rfl) rfl)
  ·rw [hc, Nat.div_one, Nat.div_one]
   (repeat first | refine uA ?_ | (refine uK ?_ ?_; focus first | omega | (intros; simp_all <;> omega)) | simp (disch := omega) only [go_sem, Nat.reduceBEq, Nat.reduceAdd, ww])
   (refine S.done ?_; simp only [p8, l7, go_sem, Nat.reduceBEq, Nat.reduceAdd, Nat.reduceLeDiff, Int.reduceToNat, Int.reducePow]; (repeat (refine ⟨?_, ?_⟩; focus first | trivial | omega | simp)); exact d9.out rfl (Imp.refl rfl) rfl)
 ·rw [hc, Nat.gcd_one_right] at hgg
  subst hgg
  rw [hc, Nat.div_one, Nat.div_one]
  (repeat first | refine uA ?_ | (refine uK ?_ ?_; focus first | omega | (intros; simp_all <;> omega)) | simp (disch := omega) only [go_sem, Nat.reduceBEq, Nat.reduceAdd, ww])
  (refine S.done ?_; simp only [p8, l7, go_sem, Nat.reduceBEq, Nat.reduceAdd, Nat.reduceLeDiff, Int.reduceToNat, Int.reducePow]; (repeat (refine ⟨?_, ?_⟩; focus first | trivial | omega | simp)); exact d9.out rfl (Imp.refl rfl) rfl)
theorem b0S (neg mi : Bool) (a b : List UInt8) (ha : a.length <= 68719476736) (hb : b.length <= 68719476736) :
  u6 Tryz.prog 77 [.v (.bool neg), sb a, .v (.bool mi), sb b] (.tup [.v (.bool (Nm.K6 neg (Nm.val a) mi (Nm.val b)).1), sb (Nm.enc (Nm.K6 neg (Nm.val a) mi (Nm.val b)).2)]) := by
 refine kS Tryz.func77 (by cbv) (by rfl) fun w O => ?_
 have hadd := f_add a b (by omega) (by omega)
 have hs1 := b7T a b (by omega) (by omega)
 have hs2 := b7T b a (by omega) (by omega)
 simp only [j6, sb]
 (repeat first | refine uA ?_ | (refine uK ?_ ?_; focus first | omega | (intros; simp_all <;> omega)) | simp (disch := omega) only [go_sem, Nat.reduceBEq, Nat.reduceAdd, ww])
 refine S.cond rfl (fun hc => ?_) (fun hc => ?_)
 ·have e : neg = mi := by simpa using hc
  subst e
  unfold Nm.K6
  rw [if_pos rfl]
  (repeat first | refine uA ?_ | (refine uK ?_ ?_; focus first | omega | (intros; simp_all <;> omega)) | simp (disch := omega) only [go_sem, Nat.reduceBEq, Nat.reduceAdd, ww] | (refine uB hadd ?_ ?_; exact rfl))
  exact S.done (d9.out rfl (Imp.refl rfl) rfl)
 ·have e : neg ≠ mi := by simpa using hc
  unfold Nm.K6
  rw [if_neg e]
  by_cases h : Nm.val b <= Nm.val a
  ·rw [if_pos h]
   have e1 : F3 (Nm.val a) (Nm.val b) = Nm.enc (Nm.val a - Nm.val b) := by unfold F3; rw [if_pos h]
   have e2 : a3D (Nm.val a) (Nm.val b) = 0 := by unfold a3D; rw [if_pos h]
   rw [e1, e2] at hs1
   (repeat first | refine uA ?_ | (refine uK ?_ ?_; focus first | omega | (intros; simp_all <;> omega)) | simp (disch := omega) only [go_sem, Nat.reduceBEq, Nat.reduceAdd, ww] | (refine uB hs1 ?_ ?_; exact rfl))
   refine S.cond rfl (fun hc => ?_) (fun hc => ?_)
   ·(repeat first | refine uA ?_ | (refine uK ?_ ?_; focus first | omega | (intros; simp_all <;> omega)) | simp (disch := omega) only [go_sem, Nat.reduceBEq, Nat.reduceAdd, ww])
    exact S.done (d9.out rfl (Imp.refl rfl) rfl)
   ·simp at hc
  ·rw [if_neg h]
   have e1 : F3 (Nm.val a) (Nm.val b) = [] := by unfold F3; rw [if_neg h]
   have e2 : a3D (Nm.val a) (Nm.val b) = 1 := by unfold a3D; rw [if_neg h]
   have e3 : F3 (Nm.val b) (Nm.val a) = Nm.enc (Nm.val b - Nm.val a) := by unfold F3; rw [if_pos (by omega)]
   have e4 : a3D (Nm.val b) (Nm.val a) = 0 := by unfold a3D; rw [if_pos (by omega)]
   rw [e1, e2] at hs1
   rw [e3, e4] at hs2
   (repeat first | refine uA ?_ | (refine uK ?_ ?_; focus first | omega | (intros; simp_all <;> omega)) | simp (disch := omega) only [go_sem, Nat.reduceBEq, Nat.reduceAdd, ww] | (refine uB hs1 ?_ ?_; exact rfl))
   refine S.cond rfl (fun hc => ?_) (fun hc => ?_)
   ·simp at hc
   ·(repeat first | refine uA ?_ | (refine uK ?_ ?_; focus first | omega | (intros; simp_all <;> omega)) | simp (disch := omega) only [go_sem, Nat.reduceBEq, Nat.reduceAdd, ww] | (refine uB hs2 ?_ ?_; exact rfl))
    exact S.done (d9.out rfl (Imp.refl rfl) rfl)
namespace Nm
theorem G8 {a b k m : Nat} (ha : (enc a).length <= k) (hb : (enc b).length <= m) : (enc (a * b)).length <= k + m := by
 refine F4 ?_
 rw [Nat.pow_add]
 exact Nat.mul_lt_mul'' (Y9 ha) (Y9 hb)
theorem a4q {a b k : Nat} (ha : (enc a).length <= k) (hb : (enc b).length <= k) : (enc (a + b)).length <= k + 1 := by
 refine F4 ?_
 have h1 := Y9 ha
 have h2 := Y9 hb
 rw [c2i]; omega
theorem a3F {a b : Nat} (h : a <= b) : (enc a).length <= (enc b).length := F4 (Nat.lt_of_le_of_lt h (Y9 (c1I _)))
theorem a5A (neg : Bool) (a : Nat) (mi : Bool) (b : Nat) : (K6 neg a mi b).2 <= a + b := by
 unfold K6; repeat' split
 all_goals simp only; omega
theorem add_same {p q : Rat} (h : p.den = q.den) : p + q = mkRat (p.num + q.num) p.den := by
 rw [Rat.add_def', <- h, <- Int.add_mul, Rat.mkRat_mul_right p.den_nz]
theorem a6z (p : Rat) : sgn (decide (p.num < 0)) p.num.natAbs = p.num := b2S p
theorem b7o {p q : Rat} (h : p.den = q.den) : mkRat (sgn (K6 (decide (p.num < 0)) p.num.natAbs (decide (q.num < 0)) q.num.natAbs).1 (K6 (decide (p.num < 0)) p.num.natAbs (decide (q.num < 0)) q.num.natAbs).2) p.den = p + q := by
 rw [a9b, a6z, a6z, add_same h]
theorem a9l (p q : Rat) : mkRat (sgn (K6 (decide (p.num < 0)) (p.num.natAbs * q.den) (decide (q.num < 0)) (q.num.natAbs * p.den)).1 (K6 (decide (p.num < 0)) (p.num.natAbs * q.den) (decide (q.num < 0)) (q.num.natAbs * p.den)).2) (p.den * q.den) = p + q := by
 rw [a9b, a4x, a4x, a6z, a6z, Rat.add_def']
theorem b0h (p q : Rat) : mkRat (sgn (decide (p.num < 0) != decide (q.num < 0)) (p.num.natAbs * q.num.natAbs)) (p.den * q.den) = p * q := by
 rw [b8g, a6z, a6z, Rat.mul_def']
theorem b0f (p q : Rat) (h : q ≠ 0) : mkRat (sgn (decide (p.num < 0) != decide (q.num < 0)) (p.num.natAbs * q.den)) (p.den * q.num.natAbs) = p / q := by
 have hn : q.num ≠ 0 := fun e => h (Rat.num_eq_zero.1 e)
 have hn' : q.num.natAbs ≠ 0 := by omega
 generalize hr : mkRat (sgn (decide (p.num < 0) != decide (q.num < 0)) (p.num.natAbs * q.den)) (p.den * q.num.natAbs) = r
 have key : p = r * q := by
  rw [<- hr]
  have e1 : p = mkRat p.num p.den := (Rat.mkRat_self p).symm
  have e2 : q = mkRat q.num q.den := (Rat.mkRat_self q).symm
  have hD : p.den * q.num.natAbs * q.den ≠ 0 := Nat.mul_ne_zero (Nat.mul_ne_zero p.den_nz hn') q.den_nz
  have e3 : mkRat (sgn (decide (p.num < 0) != decide (q.num < 0)) (p.num.natAbs * q.den)) (p.den * q.num.natAbs) * q = mkRat (sgn (decide (p.num < 0) != decide (q.num < 0)) (p.num.natAbs * q.den) * q.num) (p.den * q.num.natAbs * q.den) := by
   conv => lhs; rw [e2]
   rw [Rat.mkRat_mul_mkRat]
   simp only [Rat.mkRat_self]
  rw [e3]
  conv => lhs; rw [e1]
  rw [Rat.mkRat_eq_iff p.den_nz hD]
  have hx : sgn (decide (p.num < 0) != decide (q.num < 0)) (p.num.natAbs * q.den) * q.num = p.num * ((q.num.natAbs : Nat) : Int) * q.den := by
   rw [a4x]
   have : sgn (decide (p.num < 0) != decide (q.num < 0)) p.num.natAbs * q.num = p.num * ((q.num.natAbs : Nat) : Int) := by
    unfold sgn
    by_cases hA : p.num < 0
    ·by_cases hB : q.num < 0
     ·simp only [hA, hB, decide_true, bne_self_eq_false, c2j, if_false]
      have e1 : ((p.num.natAbs : Nat) : Int) = -p.num := by omega
      have e2 : ((q.num.natAbs : Nat) : Int) = -q.num := by omega
      rw [e1, e2]; grind
     ·simp only [hA, hB, decide_true, decide_false, Bool.bne_false, if_true]
      have e1 : ((p.num.natAbs : Nat) : Int) = -p.num := by omega
      have e2 : ((q.num.natAbs : Nat) : Int) = q.num := by omega
      rw [e1, e2]; grind
    ·by_cases hB : q.num < 0
     ·simp only [hA, hB, decide_true, decide_false, Bool.bne_true, Bool.not_false, if_true]
      have e1 : ((p.num.natAbs : Nat) : Int) = p.num := by omega
      have e2 : ((q.num.natAbs : Nat) : Int) = -q.num := by omega
      rw [e1, e2]; grind
     ·simp only [hA, hB, decide_false, bne_self_eq_false, c2j, if_false]
      have e1 : ((p.num.natAbs : Nat) : Int) = p.num := by omega
      have e2 : ((q.num.natAbs : Nat) : Int) = q.num := by omega
      rw [e1, e2]
   calc sgn (decide (p.num < 0) != decide (q.num < 0)) p.num.natAbs * (q.den : Int) * q.num = (sgn (decide (p.num < 0) != decide (q.num < 0)) p.num.natAbs * q.num) * (q.den : Int) := by grind
    _ = _ := by rw [this]
  rw [hx]
  push_cast
  grind
 rw [Rat.div_def]
 conv => rhs; rw [key]
 rw [Rat.mul_assoc, Rat.mul_inv_cancel _ h, Rat.mul_one]
end Nm
theorem Rb.fit {k : Nat} {a : Nm.Rt} (h : Rb k a) (hk : 1 <= k) : Rb k (Nm.ofQ (Nm.j3 a)) := by
 by_cases hg : a.D6
 ·rw [Nm.a6n hg]; exact h
 ·have e : Nm.ofQ (Nm.j3 a) = Nm.a2G := by unfold Nm.j3; rw [if_neg hg, Nm.a2z]
  rw [e]; exact ⟨c1H _, hk⟩
theorem R6 (a : Nm.Rt) (ha : Rb 17179869184 a) : FZ 76 [rc a] (rq (Nm.j3 a)) := c0U a ⟨by have := ha.1; omega, by have := ha.2; omega⟩
theorem b8M (a b : Nat) : (Nm.enc a = Nm.enc b) = (a = b) := propext ⟨Nm.a8v, fun h => by rw [h]⟩
theorem a5X (n : Nat) : (Nm.enc n = []) = (n = 0) := propext ⟨fun h => Classical.byContradiction fun h0 => Nm.a4J h0 h, fun h => by rw [h, Nm.a1e]⟩
theorem a1y (n : Int) (h1 : -9223372036854775808 <= n) (h2 : n <= 9223372036854775807) : FZ 71 [ints n] (rq (n : Rat)) := by
 refine kW Tryz.func71 (by cbv) (by rfl) fun w O hw => ?_
 have hb : ∀ k : Nat, k <= 9223372036854775808 -> (Nm.enc k).length <= 8 := fun k hk => Nm.F4 (by omega)
 have e1 : sb [1] = sb (Nm.enc 1) := by rw [Nm.a1G]
 simp only [j6, ints]
 (repeat first | refine uA ?_ | (refine uK ?_ ?_; focus first | omega | (intros; simp_all <;> omega)) | simp (disch := omega) only [go_sem, Nat.reduceBEq, Nat.reduceAdd, ww])
 (refine uJ rfl (fun hc => ?_) fun hc => ?_)
 ·have hof := b4f n (by omega)
  have hm := a4L false n.toNat 1 (by decide) (by have := hb n.toNat (by omega); omega) (by have := hb 1 (by decide); omega)
  have e : mkRat (Nm.sgn false n.toNat) 1 = (n : Rat) := by
   rw [Rat.mkRat_one]; congr 1; unfold Nm.sgn; simp; omega
  rw [e, Nm.a1G] at hm
  simp only [rq, rc, sb, ints] at hm hof ⊢
  (repeat first | refine uA ?_ | (refine uK ?_ ?_; focus first | omega | (intros; simp_all <;> omega)) | simp (disch := omega) only [go_sem, Nat.reduceBEq, Nat.reduceAdd, ww] | (refine uB hof ?_ ?_; exact rfl) | (refine uD hm ?_ ?_ ?_; exact tz hw; exact rfl))
  (refine S.done ?_; simp only [p8, l7, go_sem, Nat.reduceBEq, Nat.reduceAdd, Nat.reduceLeDiff, Int.reduceToNat, Int.reducePow]; (repeat (refine ⟨?_, ?_⟩; focus first | trivial | omega | simp)); exact d9.out rfl (Imp.refl rfl) rfl)
 ·have hof := b4f (-(n + 1)) (by omega)
  have hadd := f_add (Nm.enc (-(n + 1)).toNat) [1] (by have := hb (-(n + 1)).toNat (by omega); omega) (by decide)
  have hm := a4L true ((-(n + 1)).toNat + 1) 1 (by decide) (by have := hb ((-(n + 1)).toNat + 1) (by omega); omega) (by have := hb 1 (by decide); omega)
  have e : mkRat (Nm.sgn true ((-(n + 1)).toNat + 1)) 1 = (n : Rat) := by
   rw [Rat.mkRat_one]; congr 1; unfold Nm.sgn; simp; omega
  rw [Nm.J2, show Nm.val [1] = 1 from rfl] at hadd
  rw [e, Nm.a1G] at hm
  have hneg : IntKind.i64.wrap (0 - (n + 1)) = -(n + 1) := by rw [Eng.wrap_i64 (by omega)]; omega
  simp only [rq, rc, sb, ints] at hm hof hadd ⊢
  (repeat first | refine uA ?_ | (refine uK ?_ ?_; focus first | omega | (intros; simp_all <;> omega)) | simp (disch := omega) only [go_sem, Nat.reduceBEq, Nat.reduceAdd, ww, hneg] | (refine uB hof ?_ ?_; exact rfl) | (refine uB hadd ?_ ?_; exact rfl) | (refine uD hm ?_ ?_ ?_; exact tz hw; exact rfl))
  (refine S.done ?_; simp only [p8, l7, go_sem, Nat.reduceBEq, Nat.reduceAdd, Nat.reduceLeDiff, Int.reduceToNat, Int.reducePow]; (repeat (refine ⟨?_, ?_⟩; focus first | trivial | omega | simp)); exact d9.out rfl (Imp.refl rfl) rfl)
theorem a2c (a b : Nm.Rt) (ha : Rb 17179869184 a) (hb : Rb 17179869184 b) : FZ 16 [rc a, rc b] (rq (Nm.j3 a + Nm.j3 b)) := by
 refine kW Tryz.func16 (by cbv) (by rfl) fun w O hw => ?_
 have hfa := R6 a ha
 have hfb := R6 b hb
 obtain ⟨n1, d1⟩ := ha.fit (by decide)
 obtain ⟨n2, d2⟩ := hb.fit (by decide)
 generalize Nm.j3 a = p at *
 generalize Nm.j3 b = q at *
 simp only [Nm.ofQ] at n1 d1 n2 d2
 have hp := p.den_nz
 have hq := q.den_nz
 have l1 := Nm.G8 n1 d2
 have l2 := Nm.G8 n2 d1
 have l3 := Nm.G8 d1 d2
 have s1 := b0S (decide (p.num < 0)) (decide (q.num < 0)) (Nm.enc p.num.natAbs) (Nm.enc q.num.natAbs) (by omega) (by omega)
 have m1 := a2A (Nm.enc p.num.natAbs) (Nm.enc q.den) (by omega) (by omega)
 have m2 := a2A (Nm.enc q.num.natAbs) (Nm.enc p.den) (by omega) (by omega)
 have m3 := a2A (Nm.enc p.den) (Nm.enc q.den) (by omega) (by omega)
 simp only [Nm.J2] at s1 m1 m2 m3
 have s2 := b0S (decide (p.num < 0)) (decide (q.num < 0)) (Nm.enc (p.num.natAbs * q.den)) (Nm.enc (q.num.natAbs * p.den)) (by omega) (by omega)
 simp only [Nm.J2] at s2
 have k1 : (Nm.enc (Nm.K6 (decide (p.num < 0)) p.num.natAbs (decide (q.num < 0)) q.num.natAbs).2).length <= 17179869185 := c1G (Nm.a3F (Nm.a5A _ _ _ _)) (Nm.a4q n1 n2)
 have k2 : (Nm.enc (Nm.K6 (decide (p.num < 0)) (p.num.natAbs * q.den) (decide (q.num < 0)) (q.num.natAbs * p.den)).2).length <= 34359738369 := c1G (Nm.a3F (Nm.a5A _ _ _ _)) (Nm.a4q l1 l2)
 have v1 := a4L (Nm.K6 (decide (p.num < 0)) p.num.natAbs (decide (q.num < 0)) q.num.natAbs).1 (Nm.K6 (decide (p.num < 0)) p.num.natAbs (decide (q.num < 0)) q.num.natAbs).2 p.den hp (by omega) (by omega)
 have v2 := a4L (Nm.K6 (decide (p.num < 0)) (p.num.natAbs * q.den) (decide (q.num < 0)) (q.num.natAbs * p.den)).1 (Nm.K6 (decide (p.num < 0)) (p.num.natAbs * q.den) (decide (q.num < 0)) (q.num.natAbs * p.den)).2 (p.den * q.den) (Nat.mul_ne_zero hp hq) (by omega) (by omega)
 rw [Nm.a9l] at v2
 have hsame := fun h => Nm.b7o (p := p) (q := q) h
 generalize p + q = r at *
 generalize Nm.K6 (decide (p.num < 0)) p.num.natAbs (decide (q.num < 0)) q.num.natAbs = t1 at *
 generalize Nm.K6 (decide (p.num < 0)) (p.num.natAbs * q.den) (decide (q.num < 0)) (q.num.natAbs * p.den) = t2 at *
 simp only [j6]
 simp only [rq, rc, sb, Nm.ofQ] at *
 (repeat first | refine uA ?_ | (refine uK ?_ ?_; focus first | omega | (intros; simp_all <;> omega)) | simp (disch := omega) only [go_sem, Nat.reduceBEq, Nat.reduceAdd, ww, a5b, b8M] | (refine uD hfa ?_ ?_ ?_; exact tz hw; exact rfl) | (refine uD hfb ?_ ?_ ?_; exact tz hw; exact rfl))
 (refine uJ rfl (fun hc => ?_) fun hc => ?_)
 ·rw [hsame hc] at v1
  (repeat first | refine uA ?_ | (refine uK ?_ ?_; focus first | omega | (intros; simp_all <;> omega)) | simp (disch := omega) only [go_sem, Nat.reduceBEq, Nat.reduceAdd, ww] | (refine uB s1 ?_ ?_; exact rfl) | (refine uD v1 ?_ ?_ ?_; exact tz hw; exact rfl))
  (refine S.done ?_; simp only [p8, l7, go_sem, Nat.reduceBEq, Nat.reduceAdd, Nat.reduceLeDiff, Int.reduceToNat, Int.reducePow]; (repeat (refine ⟨?_, ?_⟩; focus first | trivial | omega | simp)); exact d9.out rfl (Imp.refl rfl) rfl)
 ·(repeat first | refine uA ?_ | (refine uK ?_ ?_; focus first | omega | (intros; simp_all <;> omega)) | simp (disch := omega) only [go_sem, Nat.reduceBEq, Nat.reduceAdd, ww] | (refine uB m1 ?_ ?_; exact rfl) | (refine uB m2 ?_ ?_; exact rfl) | (refine uB m3 ?_ ?_; exact rfl) | (refine uB s2 ?_ ?_; exact rfl) | (refine uD v2 ?_ ?_ ?_; exact tz hw; exact rfl))
  (refine S.done ?_; simp only [p8, l7, go_sem, Nat.reduceBEq, Nat.reduceAdd, Nat.reduceLeDiff, Int.reduceToNat, Int.reducePow]; (repeat (refine ⟨?_, ?_⟩; focus first | trivial | omega | simp)); exact d9.out rfl (Imp.refl rfl) rfl)
theorem a4D (a b : Nm.Rt) (ha : Rb 17179869184 a) (hb : Rb 17179869184 b) : FZ 172 [rc a, rc b] (rq (Nm.j3 a * Nm.j3 b)) := by
 refine kW Tryz.func172 (by cbv) (by rfl) fun w O hw => ?_
 have hfa := R6 a ha
 have hfb := R6 b hb
 obtain ⟨n1, d1⟩ := ha.fit (by decide)
 obtain ⟨n2, d2⟩ := hb.fit (by decide)
 generalize Nm.j3 a = p at *
 generalize Nm.j3 b = q at *
 simp only [Nm.ofQ] at n1 d1 n2 d2
 have hp := p.den_nz
 have hq := q.den_nz
 have l1 := Nm.G8 n1 n2
 have l3 := Nm.G8 d1 d2
 have m1 := a2A (Nm.enc p.num.natAbs) (Nm.enc q.num.natAbs) (by omega) (by omega)
 have m3 := a2A (Nm.enc p.den) (Nm.enc q.den) (by omega) (by omega)
 simp only [Nm.J2] at m1 m3
 have v2 := a4L (decide (p.num < 0) != decide (q.num < 0)) (p.num.natAbs * q.num.natAbs) (p.den * q.den) (Nat.mul_ne_zero hp hq) (by omega) (by omega)
 rw [Nm.b0h] at v2
 generalize p * q = r at *
 simp only [j6]
 simp only [rq, rc, sb, Nm.ofQ] at *
 (repeat first | refine uA ?_ | (refine uK ?_ ?_; focus first | omega | (intros; simp_all <;> omega)) | simp (disch := omega) only [go_sem, Nat.reduceBEq, Nat.reduceAdd, ww] | (refine uB m1 ?_ ?_; exact rfl) | (refine uB m3 ?_ ?_; exact rfl) | (refine uD hfa ?_ ?_ ?_; exact tz hw; exact rfl) | (refine uD hfb ?_ ?_ ?_; exact tz hw; exact rfl) | (refine uD v2 ?_ ?_ ?_; exact tz hw; exact rfl))
 (refine S.done ?_; simp only [p8, l7, go_sem, Nat.reduceBEq, Nat.reduceAdd, Nat.reduceLeDiff, Int.reduceToNat, Int.reducePow]; (repeat (refine ⟨?_, ?_⟩; focus first | trivial | omega | simp)); exact d9.out rfl (Imp.refl rfl) rfl)
def r9 (q : Rat) : Int := if q.num = 0 then 0 else if q.num < 0 then -1 else 1
theorem a8a (p : Rat) : Nm.ofQ (-p) = ⟨!decide (p.num < 0) && !decide (p.num.natAbs = 0), Nm.enc p.num.natAbs, Nm.enc p.den⟩ := by
 unfold Nm.ofQ
 rw [Rat.neg_num, Rat.neg_den, Int.natAbs_neg]
 congr 1
 by_cases h : p.num < 0
 ·simp [h]; omega
 ·by_cases h0 : p.num = 0
  ·simp [h0]
  ·have : ¬ p.num.natAbs = 0 := by omega
   simp [h, this]; omega
theorem b1w (a : Nm.Rt) (ha : Rb 17179869184 a) : FZ 142 [rc a] (rq (- Nm.j3 a)) := by
 refine kW Tryz.func142 (by cbv) (by rfl) fun w O hw => ?_
 have hfa := R6 a ha
 generalize Nm.j3 a = p at *
 simp only [j6]
 unfold rq at *
 rw [a8a]
 simp only [rc, sb, Nm.ofQ] at *
 (repeat first | refine uA ?_ | (refine uK ?_ ?_; focus first | omega | (intros; simp_all <;> omega)) | simp (disch := omega) only [go_sem, Nat.reduceBEq, Nat.reduceAdd, ww, a0d, a5X] | (refine uD hfa ?_ ?_ ?_; exact tz hw; exact rfl))
 (refine S.done ?_; simp only [p8, l7, go_sem, Nat.reduceBEq, Nat.reduceAdd, Nat.reduceLeDiff, Int.reduceToNat, Int.reducePow]; (repeat (refine ⟨?_, ?_⟩; focus first | trivial | omega | simp)); exact d9.out rfl (Imp.refl rfl) rfl)
theorem b4s {k : Nat} {a : Nm.Rt} (h : Rb k a) (hk : 1 <= k) : Rb k (Nm.ofQ (- Nm.j3 a)) := by
 obtain ⟨h1, h2⟩ := h.fit hk
 rw [a8a]
 exact ⟨h1, h2⟩
theorem a5P (a b : Nm.Rt) (ha : Rb 17179869184 a) (hb : Rb 17179869184 b) : FZ 158 [rc a, rc b] (rq (Nm.j3 a - Nm.j3 b)) := by
 refine kW Tryz.func158 (by cbv) (by rfl) fun w O hw => ?_
 have hn := b1w b hb
 have hadd := a2c a (Nm.ofQ (- Nm.j3 b)) ha (b4s hb (by decide))
 rw [Nm.E9, <- Rat.sub_eq_add_neg] at hadd
 unfold rq at *
 generalize Nm.ofQ (- Nm.j3 b) = c at *
 generalize Nm.ofQ (Nm.j3 a - Nm.j3 b) = d at *
 simp only [j6]
 simp only [rc, sb] at *
 (repeat first | refine uA ?_ | (refine uK ?_ ?_; focus first | omega | (intros; simp_all <;> omega)) | simp (disch := omega) only [go_sem, Nat.reduceBEq, Nat.reduceAdd, ww] | (refine uD hn ?_ ?_ ?_; exact tz hw; exact rfl) | (refine uD hadd ?_ ?_ ?_; exact tz hw; exact rfl))
 (refine S.done ?_; simp only [p8, l7, go_sem, Nat.reduceBEq, Nat.reduceAdd, Nat.reduceLeDiff, Int.reduceToNat, Int.reducePow]; (repeat (refine ⟨?_, ?_⟩; focus first | trivial | omega | simp)); exact d9.out rfl (Imp.refl rfl) rfl)
def a0N (p q : Rat) : Nm.Rt := if q = 0 then ⟨false, [], []⟩ else Nm.ofQ (p / q)
def a1A (q : Rat) : Int := if q = 0 then 12 else 0
theorem b5Q (a b : Nm.Rt) (ha : Rb 17179869184 a) (hb : Rb 17179869184 b) : FZ 223 [rc a, rc b] (.tup [rc (a0N (Nm.j3 a) (Nm.j3 b)), ints (a1A (Nm.j3 b))]) := by
 refine kW Tryz.func223 (by cbv) (by rfl) fun w O hw => ?_
 have hfa := R6 a ha
 have hfb := R6 b hb
 obtain ⟨n1, d1⟩ := ha.fit (by decide)
 obtain ⟨n2, d2⟩ := hb.fit (by decide)
 generalize Nm.j3 a = p at *
 generalize Nm.j3 b = q at *
 simp only [Nm.ofQ] at n1 d1 n2 d2
 have hp := p.den_nz
 have l1 := Nm.G8 n1 d2
 have l3 := Nm.G8 d1 n2
 have m1 := a2A (Nm.enc p.num.natAbs) (Nm.enc q.den) (by omega) (by omega)
 have m3 := a2A (Nm.enc p.den) (Nm.enc q.num.natAbs) (by omega) (by omega)
 simp only [Nm.J2] at m1 m3
 have v2 := fun h0 : q.num.natAbs ≠ 0 => a4L (decide (p.num < 0) != decide (q.num < 0)) (p.num.natAbs * q.den) (p.den * q.num.natAbs) (Nat.mul_ne_zero hp h0) (by omega) (by omega)
 have hdm := fun h => Nm.b0f p q h
 simp only [j6]
 simp only [rq, rc, sb, Nm.ofQ, ints] at *
 (repeat first | refine uA ?_ | (refine uK ?_ ?_; focus first | omega | (intros; simp_all <;> omega)) | simp (disch := omega) only [go_sem, Nat.reduceBEq, Nat.reduceAdd, ww, a0d, a5X] | (refine uD hfa ?_ ?_ ?_; exact tz hw; exact rfl) | (refine uD hfb ?_ ?_ ?_; exact tz hw; exact rfl))
 (refine uJ rfl (fun hc => ?_) fun hc => ?_)
 ·have h0 : q = 0 := Rat.num_eq_zero.1 (by omega)
  have e1 : a0N p q = ⟨false, [], []⟩ := by unfold a0N; rw [if_pos h0]
  have e2 : a1A q = 12 := by unfold a1A; rw [if_pos h0]
  rw [e1, e2]
  (repeat first | refine uA ?_ | (refine uK ?_ ?_; focus first | omega | (intros; simp_all <;> omega)) | simp (disch := omega) only [go_sem, Nat.reduceBEq, Nat.reduceAdd, ww])
  (refine S.done ?_; simp only [p8, l7, go_sem, Nat.reduceBEq, Nat.reduceAdd, Nat.reduceLeDiff, Int.reduceToNat, Int.reducePow]; (repeat (refine ⟨?_, ?_⟩; focus first | trivial | omega | simp)); exact d9.out rfl (Imp.refl rfl) rfl)
 ·have h0 : q ≠ 0 := fun h => hc (by rw [Rat.num_eq_zero.2 h]; rfl)
  have e1 : a0N p q = Nm.ofQ (p / q) := by unfold a0N; rw [if_neg h0]
  have e2 : a1A q = 0 := by unfold a1A; rw [if_neg h0]
  rw [e1, e2]
  have v2 := v2 hc
  rw [hdm h0] at v2
  generalize p / q = r at *
  simp only [Nm.ofQ] at *
  (repeat first | refine uA ?_ | (refine uK ?_ ?_; focus first | omega | (intros; simp_all <;> omega)) | simp (disch := omega) only [go_sem, Nat.reduceBEq, Nat.reduceAdd, ww] | (refine uB m1 ?_ ?_; exact rfl) | (refine uB m3 ?_ ?_; exact rfl) | (refine uD v2 ?_ ?_ ?_; exact tz hw; exact rfl))
  (refine S.done ?_; simp only [p8, l7, go_sem, Nat.reduceBEq, Nat.reduceAdd, Nat.reduceLeDiff, Int.reduceToNat, Int.reducePow]; (repeat (refine ⟨?_, ?_⟩; focus first | trivial | omega | simp)); exact d9.out rfl (Imp.refl rfl) rfl)
theorem K8 (a : Nm.Rt) (ha : Rb 17179869184 a) : FZ 15 [rc a] (ints (r9 (Nm.j3 a))) := by
 refine kW Tryz.func15 (by cbv) (by rfl) fun w O hw => ?_
 have hfa := R6 a ha
 generalize Nm.j3 a = p at *
 simp only [j6]
 simp only [rq, rc, sb, Nm.ofQ, ints] at *
 (repeat first | refine uA ?_ | (refine uK ?_ ?_; focus first | omega | (intros; simp_all <;> omega)) | simp (disch := omega) only [go_sem, Nat.reduceBEq, Nat.reduceAdd, ww, a0d, a5X] | (refine uD hfa ?_ ?_ ?_; exact tz hw; exact rfl))
 (refine uJ rfl (fun hc => ?_) fun hc => ?_)
 ·have : r9 p = 0 := by unfold r9; rw [if_pos (by omega)]
  rw [this]
  (repeat first | refine uA ?_ | (refine uK ?_ ?_; focus first | omega | (intros; simp_all <;> omega)) | simp (disch := omega) only [go_sem, Nat.reduceBEq, Nat.reduceAdd, ww])
  exact S.done (d9.out rfl (Imp.refl rfl) rfl)
 (repeat first | refine uA ?_ | (refine uK ?_ ?_; focus first | omega | (intros; simp_all <;> omega)) | simp (disch := omega) only [go_sem, Nat.reduceBEq, Nat.reduceAdd, ww])
 (refine uJ rfl (fun hc => ?_) fun hc => ?_)
 ·have : r9 p = -1 := by unfold r9; rw [if_neg (by omega), if_pos hc]
  rw [this]
  (repeat first | refine uA ?_ | (refine uK ?_ ?_; focus first | omega | (intros; simp_all <;> omega)) | simp (disch := omega) only [go_sem, Nat.reduceBEq, Nat.reduceAdd, ww])
  exact S.done (d9.out rfl (Imp.refl rfl) rfl)
 ·have : r9 p = 1 := by unfold r9; rw [if_neg (by omega), if_neg hc]
  rw [this]
  (repeat first | refine uA ?_ | (refine uK ?_ ?_; focus first | omega | (intros; simp_all <;> omega)) | simp (disch := omega) only [go_sem, Nat.reduceBEq, Nat.reduceAdd, ww])
  exact S.done (d9.out rfl (Imp.refl rfl) rfl)
theorem a7u (a b : Nat) : -1 <= Nm.a0n a b /\ Nm.a0n a b <= 1 := by
 unfold Nm.a0n
 by_cases h : a < b
 ·rw [if_pos h]; omega
 ·rw [if_neg h]; split <;> omega
theorem N8 (a b : Nm.Rt) (ha : Rb 17179869184 a) (hb : Rb 17179869184 b) : FZ 52 [rc a, rc b] (ints (Nm.q8 (Nm.j3 a) (Nm.j3 b))) := by
 refine kW Tryz.func52 (by cbv) (by rfl) fun w O hw => ?_
 have hfa := R6 a ha
 have hfb := R6 b hb
 obtain ⟨n1, d1⟩ := ha.fit (by decide)
 obtain ⟨n2, d2⟩ := hb.fit (by decide)
 generalize Nm.j3 a = p at *
 generalize Nm.j3 b = q at *
 rw [Nm.b7V]
 simp only [Nm.ofQ] at n1 d1 n2 d2
 have l1 := Nm.G8 n1 d2
 have l2 := Nm.G8 n2 d1
 have m1 := a2A (Nm.enc p.num.natAbs) (Nm.enc q.den) (by omega) (by omega)
 have m2 := a2A (Nm.enc q.num.natAbs) (Nm.enc p.den) (by omega) (by omega)
 simp only [Nm.J2] at m1 m2
 have hcmp := a8e (Nm.enc (p.num.natAbs * q.den)) (Nm.enc (q.num.natAbs * p.den)) (by omega) (by omega)
 simp only [Nm.J2] at hcmp
 have hcr := a7u (p.num.natAbs * q.den) (q.num.natAbs * p.den)
 generalize Nm.a0n (p.num.natAbs * q.den) (q.num.natAbs * p.den) = cn at *
 simp only [j6]
 simp only [rq, rc, sb, Nm.ofQ, ints] at *
 generalize decide (p.num < 0) = bp at *
 generalize decide (q.num < 0) = bq at *
 (repeat first | refine uA ?_ | (refine uK ?_ ?_; focus first | omega | (intros; simp_all <;> omega)) | simp (disch := omega) only [go_sem, Nat.reduceBEq, Nat.reduceAdd, ww] | (refine uD hfa ?_ ?_ ?_; exact tz hw; exact rfl) | (refine uD hfb ?_ ?_ ?_; exact tz hw; exact rfl))
 refine S.cond rfl (fun hc => ?_) (fun hc => ?_)
 ·have hne : bp ≠ bq := by simpa using hc
  rw [if_pos hne]
  (repeat first | refine uA ?_ | (refine uK ?_ ?_; focus first | omega | (intros; simp_all <;> omega)) | simp (disch := omega) only [go_sem, Nat.reduceBEq, Nat.reduceAdd, ww])
  refine S.cond rfl (fun hc => ?_) (fun hc => ?_)
  ·rw [if_pos hc]
   (repeat first | refine uA ?_ | (refine uK ?_ ?_; focus first | omega | (intros; simp_all <;> omega)) | simp (disch := omega) only [go_sem, Nat.reduceBEq, Nat.reduceAdd, ww])
   exact S.done (d9.out rfl (Imp.refl rfl) rfl)
  ·rw [if_neg (by simp [hc])]
   (repeat first | refine uA ?_ | (refine uK ?_ ?_; focus first | omega | (intros; simp_all <;> omega)) | simp (disch := omega) only [go_sem, Nat.reduceBEq, Nat.reduceAdd, ww])
   exact S.done (d9.out rfl (Imp.refl rfl) rfl)
 ·have he : bp = bq := by simpa using hc
  rw [if_neg (by simp [he])]
  (repeat first | refine uA ?_ | (refine uK ?_ ?_; focus first | omega | (intros; simp_all <;> omega)) | simp (disch := omega) only [go_sem, Nat.reduceBEq, Nat.reduceAdd, ww] | (refine uB m1 ?_ ?_; exact rfl) | (refine uB m2 ?_ ?_; exact rfl) | (refine uB hcmp ?_ ?_; exact rfl))
  refine S.cond rfl (fun hc => ?_) (fun hc => ?_)
  ·rw [if_pos hc]
   have hneg : IntKind.i64.wrap (0 - cn) = - cn := by rw [Eng.wrap_i64 (by omega)]; omega
   (repeat first | refine uA ?_ | (refine uK ?_ ?_; focus first | omega | (intros; simp_all <;> omega)) | simp (disch := omega) only [go_sem, Nat.reduceBEq, Nat.reduceAdd, ww, hneg])
   exact S.done (d9.out rfl (Imp.refl rfl) rfl)
  ·rw [if_neg (by simp [hc])]
   (repeat first | refine uA ?_ | (refine uK ?_ ?_; focus first | omega | (intros; simp_all <;> omega)) | simp (disch := omega) only [go_sem, Nat.reduceBEq, Nat.reduceAdd, ww])
   exact S.done (d9.out rfl (Imp.refl rfl) rfl)
def a5q (p q : Rat) : Rat := if Nm.q8 p q <= 0 then p else q
def a0w (p q : Rat) : Rat := if Nm.q8 p q >= 0 then p else q
theorem b9B (a b : Nm.Rt) (ha : Rb 17179869184 a) (hb : Rb 17179869184 b) : FZ 153 [rc a, rc b] (rq (a5q (Nm.j3 a) (Nm.j3 b))) := by
 refine kW Tryz.func153 (by cbv) (by rfl) fun w O hw => ?_
 have hfa := R6 a ha
 have hfb := R6 b hb
 have hc := N8 a b ha hb
 unfold a5q
 generalize Nm.q8 (Nm.j3 a) (Nm.j3 b) = cn at *
 simp only [j6]
 unfold rq at *
 generalize Nm.j3 a = p at *
 generalize Nm.j3 b = q at *
 simp only [rc, sb, ints] at *
 (repeat first | refine uA ?_ | (refine uK ?_ ?_; focus first | omega | (intros; simp_all <;> omega)) | simp (disch := omega) only [go_sem, Nat.reduceBEq, Nat.reduceAdd, ww] | (refine uD hc ?_ ?_ ?_; exact tz hw; exact rfl))
 (refine uJ rfl (fun hc => ?_) fun hc => ?_)
 ·rw [if_pos hc]
  (repeat first | refine uA ?_ | (refine uK ?_ ?_; focus first | omega | (intros; simp_all <;> omega)) | simp (disch := omega) only [go_sem, Nat.reduceBEq, Nat.reduceAdd, ww] | (refine uD hfa ?_ ?_ ?_; exact tz hw; exact rfl))
  (refine S.done ?_; simp only [p8, l7, go_sem, Nat.reduceBEq, Nat.reduceAdd, Nat.reduceLeDiff, Int.reduceToNat, Int.reducePow]; (repeat (refine ⟨?_, ?_⟩; focus first | trivial | omega | simp)); exact d9.out rfl (Imp.refl rfl) rfl)
 ·rw [if_neg hc]
  (repeat first | refine uA ?_ | (refine uK ?_ ?_; focus first | omega | (intros; simp_all <;> omega)) | simp (disch := omega) only [go_sem, Nat.reduceBEq, Nat.reduceAdd, ww] | (refine uD hfb ?_ ?_ ?_; exact tz hw; exact rfl))
  (refine S.done ?_; simp only [p8, l7, go_sem, Nat.reduceBEq, Nat.reduceAdd, Nat.reduceLeDiff, Int.reduceToNat, Int.reducePow]; (repeat (refine ⟨?_, ?_⟩; focus first | trivial | omega | simp)); exact d9.out rfl (Imp.refl rfl) rfl)
theorem c0m (a b : Nm.Rt) (ha : Rb 17179869184 a) (hb : Rb 17179869184 b) : FZ 74 [rc a, rc b] (rq (a0w (Nm.j3 a) (Nm.j3 b))) := by
 refine kW Tryz.func74 (by cbv) (by rfl) fun w O hw => ?_
 have hfa := R6 a ha
 have hfb := R6 b hb
 have hc := N8 a b ha hb
 unfold a0w
 generalize Nm.q8 (Nm.j3 a) (Nm.j3 b) = cn at *
 simp only [j6]
 unfold rq at *
 generalize Nm.j3 a = p at *
 generalize Nm.j3 b = q at *
 simp only [rc, sb, ints] at *
 (repeat first | refine uA ?_ | (refine uK ?_ ?_; focus first | omega | (intros; simp_all <;> omega)) | simp (disch := omega) only [go_sem, Nat.reduceBEq, Nat.reduceAdd, ww] | (refine uD hc ?_ ?_ ?_; exact tz hw; exact rfl))
 (refine uJ rfl (fun hc => ?_) fun hc => ?_)
 ·rw [if_pos hc]
  (repeat first | refine uA ?_ | (refine uK ?_ ?_; focus first | omega | (intros; simp_all <;> omega)) | simp (disch := omega) only [go_sem, Nat.reduceBEq, Nat.reduceAdd, ww] | (refine uD hfa ?_ ?_ ?_; exact tz hw; exact rfl))
  (refine S.done ?_; simp only [p8, l7, go_sem, Nat.reduceBEq, Nat.reduceAdd, Nat.reduceLeDiff, Int.reduceToNat, Int.reducePow]; (repeat (refine ⟨?_, ?_⟩; focus first | trivial | omega | simp)); exact d9.out rfl (Imp.refl rfl) rfl)
 ·rw [if_neg hc]
  (repeat first | refine uA ?_ | (refine uK ?_ ?_; focus first | omega | (intros; simp_all <;> omega)) | simp (disch := omega) only [go_sem, Nat.reduceBEq, Nat.reduceAdd, ww] | (refine uD hfb ?_ ?_ ?_; exact tz hw; exact rfl))
  (refine S.done ?_; simp only [p8, l7, go_sem, Nat.reduceBEq, Nat.reduceAdd, Nat.reduceLeDiff, Int.reduceToNat, Int.reducePow]; (repeat (refine ⟨?_, ?_⟩; focus first | trivial | omega | simp)); exact d9.out rfl (Imp.refl rfl) rfl)
theorem b9Q (a : Nm.Rt) (ha : Rb 17179869184 a) : FZ 75 [rc a] (rc ⟨false, Nm.enc (Nm.j3 a).num.natAbs, Nm.enc (Nm.j3 a).den⟩) := by
 refine kW Tryz.func75 (by cbv) (by rfl) fun w O hw => ?_
 have hfa := R6 a ha
 generalize Nm.j3 a = p at *
 simp only [j6]
 unfold rq at *
 simp only [rc, sb, Nm.ofQ] at *
 (repeat first | refine uA ?_ | (refine uK ?_ ?_; focus first | omega | (intros; simp_all <;> omega)) | simp (disch := omega) only [go_sem, Nat.reduceBEq, Nat.reduceAdd, ww] | (refine uD hfa ?_ ?_ ?_; exact tz hw; exact rfl))
 (refine S.done ?_; simp only [p8, l7, go_sem, Nat.reduceBEq, Nat.reduceAdd, Nat.reduceLeDiff, Int.reduceToNat, Int.reducePow]; (repeat (refine ⟨?_, ?_⟩; focus first | trivial | omega | simp)); exact d9.out rfl (Imp.refl rfl) rfl)
def j4 (a : Nm.Rt) : Bool := decide (a.num.length <= 3) && decide (a.den.length <= 2) && decide a.D6 && decide (Nm.val a.num <= 1000000) && decide (Nm.val a.den <= 1000)
theorem b2Z (a b : Nat) : (Nm.a0n a b <= 0) = (a <= b) := by
 unfold Nm.a0n
 by_cases h : a < b
 ·rw [if_pos h]; simp; omega
 ·rw [if_neg h]; split
  ·simp; omega
  ·simp; omega
theorem a2u (a : Nm.Rt) (ha : Rb 17179869184 a) : FZ 84 [rc a] (.v (.bool (j4 a))) := by
 refine kW Tryz.func84 (by cbv) (by rfl) fun w O hw => ?_
 have hg := a0z a ⟨by have := ha.1; omega, by have := ha.2; omega⟩
 have ho1 := b4f 1000000 (by decide)
 have ho2 := b4f 1000 (by decide)
 have hb : ∀ k : Nat, k <= 1000000 -> (Nm.enc k).length <= 8 := fun k hk => Nm.F4 (by omega)
 have hb1 := hb 1000000 (by decide)
 have hb2 := hb 1000 (by decide)
 have hc1 := a8e a.num (Nm.enc 1000000) (by have := ha.1; omega) (by omega)
 have hc2 := a8e a.den (Nm.enc 1000) (by have := ha.2; omega) (by omega)
 rw [Nm.J2] at hc1 hc2
 rw [show (1000000 : Int).toNat = 1000000 from rfl] at ho1
 rw [show (1000 : Int).toNat = 1000 from rfl] at ho2
 have hl1 := b2Z (Nm.val a.num) 1000000
 have hl2 := b2Z (Nm.val a.den) 1000
 unfold j4
 generalize decide a.D6 = g at *
 generalize Nm.enc 1000000 = e1 at *
 generalize Nm.enc 1000 = e2 at *
 obtain ⟨neg, num, den⟩ := a
 obtain ⟨r1, r2⟩ := ha
 simp only [j6]
 simp only [rc, sb, ints] at *
 generalize Nm.a0n (Nm.val num) 1000000 = c1 at *
 generalize Nm.a0n (Nm.val den) 1000 = c2 at *
 simp only [<- hl1, <- hl2]
 have hi1 : decide ((num.length : Int) <= 3) = decide (num.length <= 3) := decide_eq_decide.2 (by omega)
 have hi2 : decide ((den.length : Int) <= 2) = decide (den.length <= 2) := decide_eq_decide.2 (by omega)
 (repeat first | refine uA ?_ | (refine uK ?_ ?_; focus first | omega | (intros; simp_all <;> omega)) | simp (disch := omega) only [go_sem, Nat.reduceBEq, Nat.reduceAdd, ww, w9, hi1, hi2] | (refine uB ho1 ?_ ?_; exact rfl) | (refine uB ho2 ?_ ?_; exact rfl) | (refine uB hc1 ?_ ?_; exact rfl) | (refine uB hc2 ?_ ?_; exact rfl) | (refine uD hg ?_ ?_ ?_; exact tz hw; exact rfl))
 exact S.done (d9.out rfl (Imp.refl rfl) rfl)
open Go Eng
def tc (h : Bool) (a : Nm.Rt) : C := .agg [.v (.bool h), .v (.bool a.neg), sb a.num, sb a.den]
def tq (h : Bool) (q : Rat) : C := tc h (Nm.ofQ q)
theorem a4Y (a : Nm.Rt) (ha : Rb 17179869184 a) : FZ 213 [rc a] (tq false (Nm.j3 a)) := by
 refine kW Tryz.func213 (by cbv) (by rfl) fun w O hw => ?_
 have hm := b9B a a ha ha
 have e : a5q (Nm.j3 a) (Nm.j3 a) = Nm.j3 a := by unfold a5q; split <;> rfl
 rw [e] at hm
 unfold rq tq at *
 generalize Nm.ofQ (Nm.j3 a) = r at *
 simp only [j6]
 simp only [rc, tc, sb] at *
 (repeat first | refine uA ?_ | (refine uK ?_ ?_; focus first | omega | (intros; simp_all <;> omega)) | simp (disch := omega) only [go_sem, Nat.reduceBEq, Nat.reduceAdd, ww] | (refine uD hm ?_ ?_ ?_; exact tz hw; exact rfl))
 (refine S.done ?_; simp only [p8, l7, go_sem, Nat.reduceBEq, Nat.reduceAdd, Nat.reduceLeDiff, Int.reduceToNat, Int.reducePow]; (repeat (refine ⟨?_, ?_⟩; focus first | trivial | omega | simp)); exact d9.out rfl (Imp.refl rfl) rfl)
theorem a8L {neg : Bool} {n d k m : Nat} (hd : d ≠ 0) (hn : (Nm.enc n).length <= k) (hdl : (Nm.enc d).length <= k) (hk : 1 <= k) (hm : k <= m) : Rb m (Nm.ofQ (mkRat (Nm.sgn neg n) d)) := by
 rw [<- Nm.a8z neg hd]
 split
 ·exact ⟨c1H _, c1G hk hm⟩
 ·exact ⟨c1G (Nm.a3F (Nat.div_le_self _ _)) (c1G hn hm), c1G (Nm.a3F (Nat.div_le_self _ _)) (c1G hdl hm)⟩
theorem b0Z {k : Nat} {p : Rat} (h : Rb k (Nm.ofQ p)) : 1 <= k := by
 have h1 := h.2
 simp only [Nm.ofQ] at h1
 have : Nm.enc p.den ≠ [] := Nm.a4J p.den_nz
 have := List.length_pos_iff.2 this
 omega
theorem R5 {k m : Nat} {p q : Rat} (hp : Rb k (Nm.ofQ p)) (hq : Rb m (Nm.ofQ q)) : Rb (k + m + 1) (Nm.ofQ (p + q)) := by
 have h1 := b0Z hp
 rw [<- Nm.a9l p q]
 have l1 := Nm.G8 hp.1 hq.2
 have l2 := Nm.G8 hq.1 hp.2
 have l3 := Nm.G8 hp.2 hq.2
 exact a8L (k := k + m + 1) (Nat.mul_ne_zero p.den_nz q.den_nz) (c1G (Nm.a3F (Nm.a5A _ _ _ _)) (Nm.a4q l1 (by omega))) (by omega) (by omega) (c1I _)
theorem I7 {k m : Nat} {p q : Rat} (hp : Rb k (Nm.ofQ p)) (hq : Rb m (Nm.ofQ q)) : Rb (k + m) (Nm.ofQ (p * q)) := by
 have h1 := b0Z hp
 rw [<- Nm.b0h p q]
 exact a8L (k := k + m) (Nat.mul_ne_zero p.den_nz q.den_nz) (Nm.G8 hp.1 hq.1) (Nm.G8 hp.2 hq.2) (by omega) (c1I _)
theorem a3t {k m : Nat} {p q : Rat} (h : q ≠ 0) (hp : Rb k (Nm.ofQ p)) (hq : Rb m (Nm.ofQ q)) : Rb (k + m) (Nm.ofQ (p / q)) := by
 have h1 := b0Z hp
 rw [<- Nm.b0f p q h]
 have hn : q.num.natAbs ≠ 0 := fun e => h (Rat.num_eq_zero.1 (by omega))
 exact a8L (k := k + m) (Nat.mul_ne_zero p.den_nz hn) (Nm.G8 hp.1 hq.2) (Nm.G8 hp.2 hq.1) (by omega) (c1I _)
theorem a6F {k : Nat} {p : Rat} (hp : Rb k (Nm.ofQ p)) : Rb k (Nm.ofQ (-p)) := by
 rw [a8a]; exact hp
theorem J9 {k m : Nat} {p q : Rat} (hp : Rb k (Nm.ofQ p)) (hq : Rb m (Nm.ofQ q)) : Rb (k + m + 1) (Nm.ofQ (p - q)) := by
 rw [Rat.sub_eq_add_neg]; exact R5 hp (a6F hq)
theorem Rb.mono {k m : Nat} {a : Nm.Rt} (h : Rb k a) (hm : k <= m) : Rb m a := ⟨c1G h.1 hm, c1G h.2 hm⟩
theorem a9X (p q : Rat) (hp : Rb 17179869184 (Nm.ofQ p)) (hq : Rb 17179869184 (Nm.ofQ q)) : FZ 16 [rq p, rq q] (rq (p + q)) := by
 have := a2c (Nm.ofQ p) (Nm.ofQ q) hp hq
 rwa [Nm.E9, Nm.E9] at this
theorem b3B (p q : Rat) (hp : Rb 17179869184 (Nm.ofQ p)) (hq : Rb 17179869184 (Nm.ofQ q)) : FZ 158 [rq p, rq q] (rq (p - q)) := by
 have := a5P (Nm.ofQ p) (Nm.ofQ q) hp hq
 rwa [Nm.E9, Nm.E9] at this
theorem a7Q (p q : Rat) (hp : Rb 17179869184 (Nm.ofQ p)) (hq : Rb 17179869184 (Nm.ofQ q)) : FZ 172 [rq p, rq q] (rq (p * q)) := by
 have := a4D (Nm.ofQ p) (Nm.ofQ q) hp hq
 rwa [Nm.E9, Nm.E9] at this
theorem a9W (p q : Rat) (hp : Rb 17179869184 (Nm.ofQ p)) (hq : Rb 17179869184 (Nm.ofQ q)) : FZ 223 [rq p, rq q] (.tup [rc (a0N p q), ints (a1A q)]) := by
 have := b5Q (Nm.ofQ p) (Nm.ofQ q) hp hq
 rwa [Nm.E9, Nm.E9] at this
theorem b0R : FZ 254 [] (tq true 0) := by
 refine kW Tryz.func254 (by cbv) (by rfl) fun w O hw => ?_
 have ho := a1y 0 (by decide) (by decide)
 rw [show ((0 : Int) : Rat) = 0 from rfl] at ho
 unfold rq tq at *
 generalize Nm.ofQ 0 = r at *
 simp only [j6]
 simp only [rc, tc, sb, ints] at *
 (repeat first | refine uA ?_ | (refine uK ?_ ?_; focus first | omega | (intros; simp_all <;> omega)) | simp (disch := omega) only [go_sem, Nat.reduceBEq, Nat.reduceAdd, ww] | (refine uD ho ?_ ?_ ?_; exact tz hw; exact rfl))
 (refine S.done ?_; simp only [p8, l7, go_sem, Nat.reduceBEq, Nat.reduceAdd, Nat.reduceLeDiff, Int.reduceToNat, Int.reducePow]; (repeat (refine ⟨?_, ?_⟩; focus first | trivial | omega | simp)); exact d9.out rfl (Imp.refl rfl) rfl)
def x9 (h : Bool) (a : Nm.Rt) : Rat := if h then 0 else Nm.j3 a
theorem a6l (h : Bool) (a : Nm.Rt) (ha : Rb 17179869184 a) : FZ 243 [tc h a] (tq h (x9 h a)) := by
 refine kW Tryz.func243 (by cbv) (by rfl) fun w O hw => ?_
 have ho := b0R
 have hf := a4Y a ha
 unfold x9 tq at *
 cases h
 ·simp only [c2j, if_false]
  generalize Nm.ofQ (Nm.j3 a) = r at *
  simp only [j6]
  simp only [rc, tc, sb, ints] at *
  (repeat first | refine uA ?_ | (refine uK ?_ ?_; focus first | omega | (intros; simp_all <;> omega)) | simp (disch := omega) only [go_sem, Nat.reduceBEq, Nat.reduceAdd, ww])
  exact S.cond rfl (fun hc => by cases hc) (fun _ => by
   (repeat first | refine uA ?_ | (refine uK ?_ ?_; focus first | omega | (intros; simp_all <;> omega)) | simp (disch := omega) only [go_sem, Nat.reduceBEq, Nat.reduceAdd, ww] | (refine uD hf ?_ ?_ ?_; exact tz hw; exact rfl))
   (refine S.done ?_; simp only [p8, l7, go_sem, Nat.reduceBEq, Nat.reduceAdd, Nat.reduceLeDiff, Int.reduceToNat, Int.reducePow]; (repeat (refine ⟨?_, ?_⟩; focus first | trivial | omega | simp)); exact d9.out rfl (Imp.refl rfl) rfl))
 ·simp only [if_true]
  generalize Nm.ofQ 0 = r at *
  simp only [j6]
  simp only [rc, tc, sb, ints] at *
  (repeat first | refine uA ?_ | (refine uK ?_ ?_; focus first | omega | (intros; simp_all <;> omega)) | simp (disch := omega) only [go_sem, Nat.reduceBEq, Nat.reduceAdd, ww])
  exact S.cond rfl (fun _ => by
   (repeat first | refine uA ?_ | (refine uK ?_ ?_; focus first | omega | (intros; simp_all <;> omega)) | simp (disch := omega) only [go_sem, Nat.reduceBEq, Nat.reduceAdd, ww] | (refine uD ho ?_ ?_ ?_; exact tz hw; exact rfl))
   (refine S.done ?_; simp only [p8, l7, go_sem, Nat.reduceBEq, Nat.reduceAdd, Nat.reduceLeDiff, Int.reduceToNat, Int.reducePow]; (repeat (refine ⟨?_, ?_⟩; focus first | trivial | omega | simp)); exact d9.out rfl (Imp.refl rfl) rfl)) (fun hc => by cases hc)
def R8 (h : Bool) (t : Rat) : Rat := if h then -1 else (1 - t * t) / (1 + t * t)
def R7 (t : Rat) : Rat := (t + t) / (1 + t * t)
theorem sq_nonneg (t : Rat) : 0 <= t * t := by
 rcases Rat.le_total (a := 0) (b := t) with h | h
 ·exact Rat.mul_nonneg h h
 ·have h1 : 0 <= -t := by grind
  have := Rat.mul_nonneg h1 h1
  grind
theorem a7A (t : Rat) : 1 + t * t ≠ 0 := by
 have := sq_nonneg t
 intro h
 have h1 : (0 : Rat) < 1 := by decide
 grind
theorem Y2 : Rb 8 (Nm.ofQ 1) := ⟨Nm.F4 (by decide), Nm.F4 (by decide)⟩
theorem b9N (h : Bool) (a : Nm.Rt) (ha : Rb 4294967296 a) : FZ 224 [tc h a] (rq (R8 h (x9 h a))) := by
 refine kW Tryz.func224 (by cbv) (by rfl) fun w O hw => ?_
 have hf := a6l h a (ha.mono (by decide))
 have ho := a1y 1 (by decide) (by decide)
 have hm1 := a1y (-1) (by decide) (by decide)
 rw [show ((1 : Int) : Rat) = 1 from rfl] at ho
 rw [show ((-1 : Int) : Rat) = -1 from rfl] at hm1
 have hk : Rb 4294967296 (Nm.ofQ (x9 h a)) := by
  unfold x9; cases h
  ·exact ha.fit (by decide)
  ·simp only [if_true]; rw [Nm.a2z]; exact ⟨by decide, by decide⟩
 generalize x9 h a = t at *
 have hsq := a7Q t t (hk.mono (by decide)) (hk.mono (by decide))
 have k2 := I7 hk hk
 have hs := b3B 1 (t * t) (Y2.mono (by decide)) (k2.mono (by decide))
 have hp := a9X 1 (t * t) (Y2.mono (by decide)) (k2.mono (by decide))
 have hd := a9W (1 - t * t) (1 + t * t) ((J9 Y2 k2).mono (by decide)) ((R5 Y2 k2).mono (by decide))
 rw [show a0N (1 - t * t) (1 + t * t) = Nm.ofQ ((1 - t * t) / (1 + t * t)) by unfold a0N; rw [if_neg (a7A t)]] at hd
 unfold R8
 cases h
 ·simp only [c2j, if_false]
  generalize (1 - t * t) / (1 + t * t) = r at *
  unfold tq rq at *
  generalize Nm.ofQ t = rt at *
  generalize Nm.ofQ (t * t) = rs at *
  generalize Nm.ofQ (1 - t * t) = r1 at *
  generalize Nm.ofQ (1 + t * t) = r2 at *
  generalize Nm.ofQ r = r3 at *
  generalize Nm.ofQ 1 = r4 at *
  simp only [j6]
  simp only [rc, tc, sb, ints] at *
  (repeat first | refine uA ?_ | (refine uK ?_ ?_; focus first | omega | (intros; simp_all <;> omega)) | simp (disch := omega) only [go_sem, Nat.reduceBEq, Nat.reduceAdd, ww] | (refine uD hf ?_ ?_ ?_; exact tz hw; exact rfl))
  refine S.cond rfl (fun hc => by cases hc) (fun _ => ?_)
  (repeat first | refine uA ?_ | (refine uK ?_ ?_; focus first | omega | (intros; simp_all <;> omega)) | simp (disch := omega) only [go_sem, Nat.reduceBEq, Nat.reduceAdd, ww] | (refine uD hsq ?_ ?_ ?_; exact tz hw; exact rfl) | (refine uD ho ?_ ?_ ?_; exact tz hw; exact rfl) | (refine uD hs ?_ ?_ ?_; exact tz hw; exact rfl) | (refine uD hp ?_ ?_ ?_; exact tz hw; exact rfl) | (refine uD hd ?_ ?_ ?_; exact tz hw; exact rfl))
  (refine S.done ?_; simp only [p8, l7, go_sem, Nat.reduceBEq, Nat.reduceAdd, Nat.reduceLeDiff, Int.reduceToNat, Int.reducePow]; (repeat (refine ⟨?_, ?_⟩; focus first | trivial | omega | simp)); exact d9.out rfl (Imp.refl rfl) rfl)
 ·simp only [if_true]
  unfold tq rq at *
  generalize Nm.ofQ t = rt at *
  generalize Nm.ofQ (-1) = r4 at *
  simp only [j6]
  simp only [rc, tc, sb, ints] at *
  (repeat first | refine uA ?_ | (refine uK ?_ ?_; focus first | omega | (intros; simp_all <;> omega)) | simp (disch := omega) only [go_sem, Nat.reduceBEq, Nat.reduceAdd, ww] | (refine uD hf ?_ ?_ ?_; exact tz hw; exact rfl))
  refine S.cond rfl (fun _ => ?_) (fun hc => by cases hc)
  (repeat first | refine uA ?_ | (refine uK ?_ ?_; focus first | omega | (intros; simp_all <;> omega)) | simp (disch := omega) only [go_sem, Nat.reduceBEq, Nat.reduceAdd, ww] | (refine uD hm1 ?_ ?_ ?_; exact tz hw; exact rfl))
  (refine S.done ?_; simp only [p8, l7, go_sem, Nat.reduceBEq, Nat.reduceAdd, Nat.reduceLeDiff, Int.reduceToNat, Int.reducePow]; (repeat (refine ⟨?_, ?_⟩; focus first | trivial | omega | simp)); exact d9.out rfl (Imp.refl rfl) rfl)
theorem U9 {k : Nat} {h : Bool} {a : Nm.Rt} (ha : Rb k a) (hk : 1 <= k) : Rb k (Nm.ofQ (x9 h a)) := by
 unfold x9; cases h
 ·exact ha.fit hk
 ·simp only [if_true]; rw [Nm.a2z]; exact ⟨c1H _, hk⟩
theorem b9W (h : Bool) (a : Nm.Rt) (ha : Rb 4294967296 a) : FZ 225 [tc h a] (rq (R7 (x9 h a))) := by
 refine kW Tryz.func225 (by cbv) (by rfl) fun w O hw => ?_
 have hf := a6l h a (ha.mono (by decide))
 have ho := a1y 1 (by decide) (by decide)
 rw [show ((1 : Int) : Rat) = 1 from rfl] at ho
 have hk : Rb 4294967296 (Nm.ofQ (x9 h a)) := U9 ha (by decide)
 generalize x9 h a = t at *
 have hsq := a7Q t t (hk.mono (by decide)) (hk.mono (by decide))
 have k2 := I7 hk hk
 have hs := a9X t t (hk.mono (by decide)) (hk.mono (by decide))
 have hp := a9X 1 (t * t) (Y2.mono (by decide)) (k2.mono (by decide))
 have hd := a9W (t + t) (1 + t * t) ((R5 hk hk).mono (by decide)) ((R5 Y2 k2).mono (by decide))
 rw [show a0N (t + t) (1 + t * t) = Nm.ofQ ((t + t) / (1 + t * t)) by unfold a0N; rw [if_neg (a7A t)]] at hd
 unfold R7
 generalize (t + t) / (1 + t * t) = r at *
 unfold tq rq at *
 generalize Nm.ofQ t = rt at *
 generalize Nm.ofQ (t * t) = rs at *
 generalize Nm.ofQ (t + t) = r1 at *
 generalize Nm.ofQ (1 + t * t) = r2 at *
 generalize Nm.ofQ r = r3 at *
 generalize Nm.ofQ 1 = r4 at *
 simp only [j6]
 simp only [rc, tc, sb, ints] at *
 (repeat first | refine uA ?_ | (refine uK ?_ ?_; focus first | omega | (intros; simp_all <;> omega)) | simp (disch := omega) only [go_sem, Nat.reduceBEq, Nat.reduceAdd, ww] | (refine uD hf ?_ ?_ ?_; exact tz hw; exact rfl) | (refine uD hsq ?_ ?_ ?_; exact tz hw; exact rfl) | (refine uD ho ?_ ?_ ?_; exact tz hw; exact rfl) | (refine uD hs ?_ ?_ ?_; exact tz hw; exact rfl) | (refine uD hp ?_ ?_ ?_; exact tz hw; exact rfl) | (refine uD hd ?_ ?_ ?_; exact tz hw; exact rfl))
 (refine S.done ?_; simp only [p8, l7, go_sem, Nat.reduceBEq, Nat.reduceAdd, Nat.reduceLeDiff, Int.reduceToNat, Int.reducePow]; (repeat (refine ⟨?_, ?_⟩; focus first | trivial | omega | simp)); exact d9.out rfl (Imp.refl rfl) rfl)
def vc (x y : Nm.Rt) : C := .agg [.v (.bool x.neg), sb x.num, sb x.den, .v (.bool y.neg), sb y.num, sb y.den]
def vq (x y : Rat) : C := vc (Nm.ofQ x) (Nm.ofQ y)
theorem b4E (a b c d : Nm.Rt) (ha : Rb 17179869184 a) (hb : Rb 17179869184 b) (hc : Rb 17179869184 c) (hd : Rb 17179869184 d) :
  FZ 161 [vc a b, vc c d] (vq (Nm.j3 a + Nm.j3 c) (Nm.j3 b + Nm.j3 d)) := by
 refine kW Tryz.func161 (by cbv) (by rfl) fun w O hw => ?_
 have h1 := a2c a c ha hc
 have h2 := a2c b d hb hd
 unfold vq rq at *
 generalize Nm.ofQ (Nm.j3 a + Nm.j3 c) = r1 at *
 generalize Nm.ofQ (Nm.j3 b + Nm.j3 d) = r2 at *
 simp only [j6]
 simp only [rc, vc, sb] at *
 (repeat first | refine uA ?_ | (refine uK ?_ ?_; focus first | omega | (intros; simp_all <;> omega)) | simp (disch := omega) only [go_sem, Nat.reduceBEq, Nat.reduceAdd, ww] | (refine uD h1 ?_ ?_ ?_; exact tz hw; exact rfl) | (refine uD h2 ?_ ?_ ?_; exact tz hw; exact rfl))
 (refine S.done ?_; simp only [p8, l7, go_sem, Nat.reduceBEq, Nat.reduceAdd, Nat.reduceLeDiff, Int.reduceToNat, Int.reducePow]; (repeat (refine ⟨?_, ?_⟩; focus first | trivial | omega | simp)); exact d9.out rfl (Imp.refl rfl) rfl)
theorem a5S (a b c d : Nm.Rt) (ha : Rb 17179869184 a) (hb : Rb 17179869184 b) (hc : Rb 17179869184 c) (hd : Rb 17179869184 d) :
  FZ 72 [vc a b, vc c d] (vq (Nm.j3 a - Nm.j3 c) (Nm.j3 b - Nm.j3 d)) := by
 refine kW Tryz.func72 (by cbv) (by rfl) fun w O hw => ?_
 have h1 := a5P a c ha hc
 have h2 := a5P b d hb hd
 unfold vq rq at *
 generalize Nm.ofQ (Nm.j3 a - Nm.j3 c) = r1 at *
 generalize Nm.ofQ (Nm.j3 b - Nm.j3 d) = r2 at *
 simp only [j6]
 simp only [rc, vc, sb] at *
 (repeat first | refine uA ?_ | (refine uK ?_ ?_; focus first | omega | (intros; simp_all <;> omega)) | simp (disch := omega) only [go_sem, Nat.reduceBEq, Nat.reduceAdd, ww] | (refine uD h1 ?_ ?_ ?_; exact tz hw; exact rfl) | (refine uD h2 ?_ ?_ ?_; exact tz hw; exact rfl))
 (refine S.done ?_; simp only [p8, l7, go_sem, Nat.reduceBEq, Nat.reduceAdd, Nat.reduceLeDiff, Int.reduceToNat, Int.reducePow]; (repeat (refine ⟨?_, ?_⟩; focus first | trivial | omega | simp)); exact d9.out rfl (Imp.refl rfl) rfl)
theorem a8m {k : Nat} {t : Rat} (h : Bool) (ht : Rb k (Nm.ofQ t)) : Rb (4 * k + 18) (Nm.ofQ (R8 h t)) := by
 unfold R8
 have h1 := I7 ht ht
 have h2 := J9 Y2 h1
 have h3 := R5 Y2 h1
 cases h
 ·exact (a3t (a7A t) h2 h3).mono (by omega)
 ·exact (a6F Y2).mono (by omega)
theorem a7V {k : Nat} {t : Rat} (ht : Rb k (Nm.ofQ t)) : Rb (4 * k + 18) (Nm.ofQ (R7 t)) := by
 unfold R7
 exact (a3t (a7A t) (R5 ht ht) (R5 Y2 (I7 ht ht))).mono (by omega)
theorem b3k (a b t : Nm.Rt) (h : Bool) (ha : Rb 268435456 a) (hb : Rb 268435456 b) (ht : Rb 268435456 t) :
  FZ 180 [vc a b, tc h t] (vq (Nm.j3 a * R8 h (x9 h t) - Nm.j3 b * R7 (x9 h t)) (Nm.j3 a * R7 (x9 h t) + Nm.j3 b * R8 h (x9 h t))) := by
 refine kW Tryz.func180 (by cbv) (by rfl) fun w O hw => ?_
 have k1 := b9N h t (ht.mono (by decide))
 have k2 := b9W h t (ht.mono (by decide))
 have ft := U9 (h := h) ht (by decide)
 have rc1 := a8m h ft
 have rs1 := a7V ft
 have fa := ha.fit (by decide)
 have fb := hb.fit (by decide)
 have m1 := a4D a (Nm.ofQ (R8 h (x9 h t))) (ha.mono (by decide)) (rc1.mono (by decide))
 have m2 := a4D b (Nm.ofQ (R7 (x9 h t))) (hb.mono (by decide)) (rs1.mono (by decide))
 have m3 := a4D a (Nm.ofQ (R7 (x9 h t))) (ha.mono (by decide)) (rs1.mono (by decide))
 have m4 := a4D b (Nm.ofQ (R8 h (x9 h t))) (hb.mono (by decide)) (rc1.mono (by decide))
 simp only [Nm.E9] at m1 m2 m3 m4
 have s1 := a5P (Nm.ofQ (Nm.j3 a * R8 h (x9 h t))) (Nm.ofQ (Nm.j3 b * R7 (x9 h t))) ((I7 fa rc1).mono (by decide)) ((I7 fb rs1).mono (by decide))
 have s2 := a2c (Nm.ofQ (Nm.j3 a * R7 (x9 h t))) (Nm.ofQ (Nm.j3 b * R8 h (x9 h t))) ((I7 fa rs1).mono (by decide)) ((I7 fb rc1).mono (by decide))
 simp only [Nm.E9] at s1 s2
 unfold vq rq at *
 generalize Nm.ofQ (Nm.j3 a * R8 h (x9 h t) - Nm.j3 b * R7 (x9 h t)) = r1 at *
 generalize Nm.ofQ (Nm.j3 a * R7 (x9 h t) + Nm.j3 b * R8 h (x9 h t)) = r2 at *
 generalize Nm.ofQ (Nm.j3 a * R8 h (x9 h t)) = p1 at *
 generalize Nm.ofQ (Nm.j3 b * R7 (x9 h t)) = p2 at *
 generalize Nm.ofQ (Nm.j3 a * R7 (x9 h t)) = p3 at *
 generalize Nm.ofQ (Nm.j3 b * R8 h (x9 h t)) = p4 at *
 generalize Nm.ofQ (R8 h (x9 h t)) = c at *
 generalize Nm.ofQ (R7 (x9 h t)) = s at *
 simp only [j6]
 simp only [rc, vc, tc, sb] at *
 (repeat first | refine uA ?_ | (refine uK ?_ ?_; focus first | omega | (intros; simp_all <;> omega)) | simp (disch := omega) only [go_sem, Nat.reduceBEq, Nat.reduceAdd, ww] | (refine uD k1 ?_ ?_ ?_; exact tz hw; exact rfl) | (refine uD k2 ?_ ?_ ?_; exact tz hw; exact rfl) | (refine uD m1 ?_ ?_ ?_; exact tz hw; exact rfl) | (refine uD m2 ?_ ?_ ?_; exact tz hw; exact rfl) | (refine uD m3 ?_ ?_ ?_; exact tz hw; exact rfl) | (refine uD m4 ?_ ?_ ?_; exact tz hw; exact rfl) | (refine uD s1 ?_ ?_ ?_; exact tz hw; exact rfl) | (refine uD s2 ?_ ?_ ?_; exact tz hw; exact rfl))
 (refine S.done ?_; simp only [p8, l7, go_sem, Nat.reduceBEq, Nat.reduceAdd, Nat.reduceLeDiff, Int.reduceToNat, Int.reducePow]; (repeat (refine ⟨?_, ?_⟩; focus first | trivial | omega | simp)); exact d9.out rfl (Imp.refl rfl) rfl)
structure Vt where
 x : Nm.Rt
 y : Nm.Rt
def Vt.enc (v : Vt) : List C := [.v (.bool v.x.neg), sb v.x.num, sb v.x.den, .v (.bool v.y.neg), sb v.y.num, sb v.y.den]
def Vt.c (v : Vt) : C := .agg v.enc
def Vt.zero : Vt := ⟨⟨false, [], []⟩, ⟨false, [], []⟩⟩
def Vb (k : Nat) (v : Vt) : Prop := Rb k v.x /\ Rb k v.y
theorem Vb.mono {k m : Nat} {v : Vt} (h : Vb k v) (hm : k <= m) : Vb m v := ⟨h.1.mono hm, h.2.mono hm⟩
theorem b7y (a b c d : Rat) (ha : Rb 4294967296 (Nm.ofQ a)) (hb : Rb 4294967296 (Nm.ofQ b)) (hc : Rb 4294967296 (Nm.ofQ c)) (hd : Rb 4294967296 (Nm.ofQ d)) :
  FZ 263 [vq a b, vq c d] (rq (a * d - b * c)) := by
 refine kW Tryz.func263 (by cbv) (by rfl) fun w O hw => ?_
 have h1 := a7Q a d (ha.mono (by decide)) (hd.mono (by decide))
 have h2 := a7Q b c (hb.mono (by decide)) (hc.mono (by decide))
 have h3 := b3B (a * d) (b * c) ((I7 ha hd).mono (by decide)) ((I7 hb hc).mono (by decide))
 unfold vq rq at *
 generalize Nm.ofQ (a * d - b * c) = r3 at *
 generalize Nm.ofQ (a * d) = r1 at *
 generalize Nm.ofQ (b * c) = r2 at *
 generalize Nm.ofQ a = ra at *
 generalize Nm.ofQ b = rb at *
 generalize Nm.ofQ c = r at *
 generalize Nm.ofQ d = rd at *
 simp only [j6]
 simp only [rc, vc, sb] at *
 (repeat first | refine uA ?_ | (refine uK ?_ ?_; focus first | omega | (intros; simp_all <;> omega)) | simp (disch := omega) only [go_sem, Nat.reduceBEq, Nat.reduceAdd, ww] | (refine uD h1 ?_ ?_ ?_; exact tz hw; exact rfl) | (refine uD h2 ?_ ?_ ?_; exact tz hw; exact rfl) | (refine uD h3 ?_ ?_ ?_; exact tz hw; exact rfl))
 (refine S.done ?_; simp only [p8, l7, go_sem, Nat.reduceBEq, Nat.reduceAdd, Nat.reduceLeDiff, Int.reduceToNat, Int.reducePow]; (repeat (refine ⟨?_, ?_⟩; focus first | trivial | omega | simp)); exact d9.out rfl (Imp.refl rfl) rfl)
def a9P (a b c : Vt) : Int := r9 ((Nm.j3 b.x - Nm.j3 a.x) * (Nm.j3 c.y - Nm.j3 a.y) - (Nm.j3 b.y - Nm.j3 a.y) * (Nm.j3 c.x - Nm.j3 a.x))
theorem b9X (a b c : Vt) (ha : Vb 1073741824 a) (hb : Vb 1073741824 b) (hc : Vb 1073741824 c) : FZ 251 [a.c, b.c, c.c] (ints (a9P a b c)) := by
 refine kW Tryz.func251 (by cbv) (by rfl) fun w O hw => ?_
 have h1 := a5S b.x b.y a.x a.y (hb.1.mono (by decide)) (hb.2.mono (by decide)) (ha.1.mono (by decide)) (ha.2.mono (by decide))
 have h2 := a5S c.x c.y a.x a.y (hc.1.mono (by decide)) (hc.2.mono (by decide)) (ha.1.mono (by decide)) (ha.2.mono (by decide))
 have g1 := J9 (hb.1.fit (by decide)) (ha.1.fit (by decide))
 have g2 := J9 (hb.2.fit (by decide)) (ha.2.fit (by decide))
 have g3 := J9 (hc.1.fit (by decide)) (ha.1.fit (by decide))
 have g4 := J9 (hc.2.fit (by decide)) (ha.2.fit (by decide))
 unfold a9P
 generalize Nm.j3 b.x - Nm.j3 a.x = p1 at *
 generalize Nm.j3 b.y - Nm.j3 a.y = p2 at *
 generalize Nm.j3 c.x - Nm.j3 a.x = p3 at *
 generalize Nm.j3 c.y - Nm.j3 a.y = p4 at *
 have h3 := b7y p1 p2 p3 p4 (g1.mono (by decide)) (g2.mono (by decide)) (g3.mono (by decide)) (g4.mono (by decide))
 have g5 := J9 (I7 g1 g4) (I7 g2 g3)
 have h4 := K8 (Nm.ofQ (p1 * p4 - p2 * p3)) (g5.mono (by decide))
 rw [Nm.E9] at h4
 generalize p1 * p4 - p2 * p3 = p5 at *
 unfold vq rq at *
 generalize Nm.ofQ p1 = r1 at *
 generalize Nm.ofQ p2 = r2 at *
 generalize Nm.ofQ p3 = r3 at *
 generalize Nm.ofQ p4 = r4 at *
 generalize Nm.ofQ p5 = r5 at *
 simp only [j6]
 simp only [rc, vc, sb, Vt.c, Vt.enc] at *
 (repeat first | refine uA ?_ | (refine uK ?_ ?_; focus first | omega | (intros; simp_all <;> omega)) | simp (disch := omega) only [go_sem, Nat.reduceBEq, Nat.reduceAdd, ww] | (refine uD h1 ?_ ?_ ?_; exact tz hw; exact rfl) | (refine uD h2 ?_ ?_ ?_; exact tz hw; exact rfl) | (refine uD h3 ?_ ?_ ?_; exact tz hw; exact rfl) | (refine uD h4 ?_ ?_ ?_; exact tz hw; exact rfl))
 (refine S.done ?_; simp only [p8, l7, go_sem, Nat.reduceBEq, Nat.reduceAdd, Nat.reduceLeDiff, Int.reduceToNat, Int.reducePow]; (repeat (refine ⟨?_, ?_⟩; focus first | trivial | omega | simp)); exact d9.out rfl (Imp.refl rfl) rfl)
def E5 {α : Type} (f : α -> Int) : List α -> Int
 | [] => 0
 | x :: r => if f x = 0 then E5 f r else f x
def C9 {α σ : Type} (f : σ -> α -> Int × σ) : σ -> List α -> Int × σ
 | s, [] => (0, s)
 | s, x :: r => if (f s x).1 = 0 then C9 f (f s x).2 r else f s x
theorem drop_at {α : Type} {l : List α} {i : Nat} {x : α} (h : l[i]? = some x) : l.drop i = x :: l.drop (i + 1) := by
 obtain ⟨hi, rfl⟩ := c1F.1 h
 exact List.drop_eq_getElem_cons hi
theorem a0i {α : Type} {f : α -> Int} {l : List α} {i : Nat} {x : α} (h : l[i]? = some x) (h0 : f x ≠ 0) : E5 f (l.drop i) = f x := by
 rw [drop_at h, E5, if_neg h0]
theorem a0m {α : Type} {f : α -> Int} {l : List α} {i : Nat} {x : α} (h : l[i]? = some x) (h0 : f x = 0) : E5 f (l.drop i) = E5 f (l.drop (i + 1)) := by
 rw [drop_at h, E5, if_pos h0]
theorem a0G {α : Type} {f : α -> Int} {l : List α} {i : Nat} (h : l.length <= i) : E5 f (l.drop i) = 0 := by
 rw [List.drop_eq_nil_of_le h, E5]
theorem U1 {α σ : Type} {f : σ -> α -> Int × σ} {s : σ} {l : List α} {i : Nat} {x : α} (h : l[i]? = some x) (h0 : (f s x).1 ≠ 0) : C9 f s (l.drop i) = f s x := by
 rw [drop_at h, C9, if_neg h0]
theorem S9 {α σ : Type} {f : σ -> α -> Int × σ} {s : σ} {l : List α} {i : Nat} {x : α} (h : l[i]? = some x) (h0 : (f s x).1 = 0) : C9 f s (l.drop i) = C9 f (f s x).2 (l.drop (i + 1)) := by
 rw [drop_at h, C9, if_pos h0]
theorem X8 {α σ : Type} {f : σ -> α -> Int × σ} {s : σ} {l : List α} {i : Nat} (h : l.length <= i) : C9 f s (l.drop i) = (0, s) := by
 rw [List.drop_eq_nil_of_le h, C9]
structure Fr where
 x : Nm.Rt
 y : Nm.Rt
 half : Bool
 t : Nm.Rt
structure Lk where
 length : Nm.Rt
 low : Nm.Rt
 high : Nm.Rt
 speed : Nm.Rt
 brake : Nm.Rt
 shape : List Vt
structure Am where
 name : List UInt8
 base : Fr
 links : List Lk
structure Pt where
 name : List UInt8
 shape : List Vt
 grasp : Fr
structure Sl where
 name : List UInt8
 frame : Fr
 within : Nm.Rt
structure Gt where
 name : List UInt8
 low : Vt
 high : Vt
structure Wk where
 arms : List Am
 walls : List (List Vt)
 parts : List Pt
 slots : List Sl
 gates : List Gt
 walk : Nm.Rt
def rcs (a : Nm.Rt) : List C := [.v (.bool a.neg), sb a.num, sb a.den]
def Fr.enc (f : Fr) : List C := [.v (.bool f.x.neg), sb f.x.num, sb f.x.den, .v (.bool f.y.neg), sb f.y.num, sb f.y.den, .v (.bool f.half), .v (.bool f.t.neg), sb f.t.num, sb f.t.den]
def Fr.c (f : Fr) : C := .agg f.enc
def vts (l : List Vt) : C := .sl 6 (l.map Vt.enc)
def Lk.enc (l : Lk) : List C := [.v (.bool l.length.neg), sb l.length.num, sb l.length.den, .v (.bool l.low.neg), sb l.low.num, sb l.low.den, .v (.bool l.high.neg), sb l.high.num, sb l.high.den, .v (.bool l.speed.neg), sb l.speed.num, sb l.speed.den, .v (.bool l.brake.neg), sb l.brake.num, sb l.brake.den, vts l.shape]
def Lk.c (l : Lk) : C := .agg l.enc
def lks (l : List Lk) : C := .sl 16 (l.map Lk.enc)
def Am.enc (a : Am) : List C := [sb a.name, .v (.bool a.base.x.neg), sb a.base.x.num, sb a.base.x.den, .v (.bool a.base.y.neg), sb a.base.y.num, sb a.base.y.den, .v (.bool a.base.half), .v (.bool a.base.t.neg), sb a.base.t.num, sb a.base.t.den, lks a.links]
def Am.c (a : Am) : C := .agg a.enc
def ams (l : List Am) : C := .sl 12 (l.map Am.enc)
def Pt.enc (p : Pt) : List C := [sb p.name, vts p.shape, .v (.bool p.grasp.x.neg), sb p.grasp.x.num, sb p.grasp.x.den, .v (.bool p.grasp.y.neg), sb p.grasp.y.num, sb p.grasp.y.den, .v (.bool p.grasp.half), .v (.bool p.grasp.t.neg), sb p.grasp.t.num, sb p.grasp.t.den]
def Pt.c (p : Pt) : C := .agg p.enc
def pts (l : List Pt) : C := .sl 12 (l.map Pt.enc)
def Sl.enc (s : Sl) : List C := [sb s.name, .v (.bool s.frame.x.neg), sb s.frame.x.num, sb s.frame.x.den, .v (.bool s.frame.y.neg), sb s.frame.y.num, sb s.frame.y.den, .v (.bool s.frame.half), .v (.bool s.frame.t.neg), sb s.frame.t.num, sb s.frame.t.den, .v (.bool s.within.neg), sb s.within.num, sb s.within.den]
def Sl.c (s : Sl) : C := .agg s.enc
def sls (l : List Sl) : C := .sl 14 (l.map Sl.enc)
def Gt.enc (g : Gt) : List C := [sb g.name, .v (.bool g.low.x.neg), sb g.low.x.num, sb g.low.x.den, .v (.bool g.low.y.neg), sb g.low.y.num, sb g.low.y.den, .v (.bool g.high.x.neg), sb g.high.x.num, sb g.high.x.den, .v (.bool g.high.y.neg), sb g.high.y.num, sb g.high.y.den]
def Gt.c (g : Gt) : C := .agg g.enc
def gts (l : List Gt) : C := .sl 13 (l.map Gt.enc)
def wls (l : List (List Vt)) : C := .sl 1 (l.map fun s => [vts s])
def Wk.enc (w : Wk) : List C := [ams w.arms, wls w.walls, pts w.parts, sls w.slots, gts w.gates, .v (.bool w.walk.neg), sb w.walk.num, sb w.walk.den]
def Wk.c (w : Wk) : C := .agg w.enc
def Fb (k : Nat) (f : Fr) : Prop := Rb k f.x /\ Rb k f.y /\ Rb k f.t
def Vbs (k : Nat) (l : List Vt) : Prop := l.length <= k /\ ∀ v ∈ l, Vb k v
def Lb (k : Nat) (l : Lk) : Prop := Rb k l.length /\ Rb k l.low /\ Rb k l.high /\ Rb k l.speed /\ Rb k l.brake /\ Vbs k l.shape
def Ab (k : Nat) (a : Am) : Prop := a.name.length <= k /\ Fb k a.base /\ a.links.length <= k /\ ∀ l ∈ a.links, Lb k l
def Pb (k : Nat) (p : Pt) : Prop := p.name.length <= k /\ Vbs k p.shape /\ Fb k p.grasp
def Sb (k : Nat) (s : Sl) : Prop := s.name.length <= k /\ Fb k s.frame /\ Rb k s.within
def Gb (k : Nat) (g : Gt) : Prop := g.name.length <= k /\ Vb k g.low /\ Vb k g.high
structure Wb (k : Nat) (w : Wk) : Prop where
 arms : w.arms.length <= k /\ ∀ x ∈ w.arms, Ab k x
 walls : w.walls.length <= k /\ ∀ x ∈ w.walls, Vbs k x
 parts : w.parts.length <= k /\ ∀ x ∈ w.parts, Pb k x
 slots : w.slots.length <= k /\ ∀ x ∈ w.slots, Sb k x
 gates : w.gates.length <= k /\ ∀ x ∈ w.gates, Gb k x
 walk : Rb k w.walk
def a0u (s : List UInt8) : Bool := (s.all fun b => decide (97 <= b.toNat) && decide (b.toNat <= 122)) && decide (1 <= s.length) && decide (s.length <= 12)
def a3Q (l : List Vt) (i k : Nat) : Int := a9P (l.getD i Vt.zero) (l.getD ((i + 1) % l.length) Vt.zero) (l.getD ((i + k) % l.length) Vt.zero)
def U7 (l : List Vt) (most : Nat) : Int :=
 if most < l.length then 2 else if l.length < 3 then 3 else
 if (List.range l.length).all fun i => (List.range l.length).all fun k => decide (k < 2) || decide (0 < a3Q l i k) then 0 else 3
def a1R (h : Bool) (t : Nm.Rt) : Bool := h && !decide (r9 (Nm.j3 t) = 0)
def V3 (l : Lk) : Int :=
 if (j4 l.length && j4 l.low && j4 l.high && j4 l.speed && j4 l.brake) = false \/ r9 (Nm.j3 l.length) <= 0 \/ 0 <= Nm.q8 (Nm.j3 l.low) (Nm.j3 l.high) then 1 else
 if r9 (Nm.j3 l.speed) <= 0 \/ r9 (Nm.j3 l.brake) <= 0 then 1 else
 if U7 l.shape 8 ≠ 0 then U7 l.shape 8 else
 if (l.shape.all fun v => j4 v.x && j4 v.y) then 0 else 1
def J6 (a : Am) : Int :=
 if a0u a.name = false then 3 else
 if 3 < a.links.length then 2 else
 if a.links.length = 0 \/ (j4 a.base.x && j4 a.base.y && j4 a.base.t) = false \/ a1R a.base.half a.base.t = true then 1 else
 E5 V3 a.links
def a1n (a : Am) (q : List Nm.Rt) : Int :=
 if J6 a ≠ 0 then J6 a else if q.length ≠ a.links.length then 1 else
 E5 (fun x : Lk × Nm.Rt => if Nm.q8 (Nm.j3 x.2) (Nm.j3 x.1.low) < 0 \/ 0 < Nm.q8 (Nm.j3 x.2) (Nm.j3 x.1.high) then 17 else 0) (a.links.zip q)
abbrev Nms := List (List UInt8)
def J7 (n : Nms) (s : List UInt8) : Int × Nms := if a0u s = false then (3, n) else if n.contains s then (5, n) else (0, n ++ [s])
def okV (v : Vt) : Bool := decide v.x.D6 && decide v.y.D6 && j4 v.x && j4 v.y
def okF (f : Fr) : Bool := okV ⟨f.x, f.y⟩ && decide f.t.D6 && j4 f.t && !a1R f.half f.t
def L8 (l : List Vt) : Int := if U7 l 8 ≠ 0 then U7 l 8 else if l.all okV then 0 else 1
def a0k (n : Nms) (a : Am) : Int × Nms := if J6 a ≠ 0 then (J6 a, n) else J7 n a.name
def Z5 (n : Nms) (p : Pt) : Int × Nms :=
 if (J7 n p.name).1 ≠ 0 then J7 n p.name else
 if L8 p.shape ≠ 0 then (L8 p.shape, (J7 n p.name).2) else
 (if okF p.grasp then 0 else 1, (J7 n p.name).2)
def Z8 (n : Nms) (s : Sl) : Int × Nms :=
 if (J7 n s.name).1 ≠ 0 then J7 n s.name else
 (if okF s.frame && decide s.within.D6 && j4 s.within && decide (0 < r9 (Nm.j3 s.within)) then 0 else 1, (J7 n s.name).2)
def Z9 (n : Nms) (g : Gt) : Int × Nms :=
 if (J7 n g.name).1 ≠ 0 then J7 n g.name else
 (if okV g.low && okV g.high && decide (Nm.q8 (Nm.j3 g.low.x) (Nm.j3 g.high.x) <= 0) && decide (Nm.q8 (Nm.j3 g.low.y) (Nm.j3 g.high.y) <= 0) then 0 else 1, (J7 n g.name).2)
def a9O (a : Nm.Rt) : Int := if decide a.D6 && j4 a && decide (0 <= r9 (Nm.j3 a)) then 0 else 1
def a4I (w : Wk) : List Int :=
 let a := C9 a0k [] w.arms
 let p := C9 Z5 a.2 w.parts
 let s := C9 Z8 p.2 w.slots
 let g := C9 Z9 s.2 w.gates
 [a.1, E5 L8 w.walls, p.1, s.1, g.1]
def Y0 (w : Wk) : Int :=
 if 4 < w.arms.length \/ 10 < w.walls.length \/ 6 < w.parts.length \/ 8 < w.slots.length \/ 4 < w.gates.length then 2 else
 if w.arms.length = 0 then 4 else
 if E5 id (a4I w) ≠ 0 then E5 id (a4I w) else a9O w.walk
def nmE (n : Nms) : List (Value × Value) := n.map fun s => (.string (bs s), .bool true)
theorem b8W (n : Nms) (s : List UInt8) : a0U (.string (bs s)) (nmE n) = if n.contains s then some (.bool true) else none := by
 induction n with
 | nil => rfl
 | cons a n ih =>
  simp only [nmE, c1R, a0U, a0X]
  simp only [nmE] at ih
  rw [ih]
  by_cases h : s = a
  ·subst h; simp
  ·have h1 : ¬ bs s = bs a := fun e => h (b0l e)
   have h2 : (s == a) = false := by simpa using h
   rw [List.contains_cons]
   simp only [h2, Bool.false_or, decide_eq_false h1, c2j, if_false]
theorem c0i (n : Nms) (s : List UInt8) (h : n.contains s = false) : a0T (.string (bs s)) (.bool true) (nmE n) = nmE (n ++ [s]) := by
 induction n with
 | nil => rfl
 | cons a n ih =>
  rw [List.contains_cons, c1L] at h
  have h1 : ¬ bs s = bs a := fun e => by have := b0l e; subst this; simp at h
  have h3 := ih h.2
  simp only [nmE, c1R, List.cons_append, a0T, a0X, decide_eq_false h1, c2j, if_false] at h3 ⊢
  rw [h3]
def X3 (f : Fr) (c : Vt) : Rat := Nm.j3 f.x + (Nm.j3 c.x * R8 f.half (x9 f.half f.t) - Nm.j3 c.y * R7 (x9 f.half f.t))
def X0 (f : Fr) (c : Vt) : Rat := Nm.j3 f.y + (Nm.j3 c.x * R7 (x9 f.half f.t) + Nm.j3 c.y * R8 f.half (x9 f.half f.t))
theorem b4a (f : Fr) (c : Vt) (hx : Rb 4294967296 f.x) (hy : Rb 4294967296 f.y) (ht : Rb 268435456 f.t) (ha : Rb 268435456 c.x) (hb : Rb 268435456 c.y) :
  FZ 73 [f.c, c.c] (vq (X3 f c) (X0 f c)) := by
 refine kW Tryz.func73 (by cbv) (by rfl) fun w O hw => ?_
 obtain ⟨x, y, h, t⟩ := f
 obtain ⟨a, b⟩ := c
 simp only at hx hy ht ha hb
 have k1 := b3k a b t h ha hb ht
 have ft := U9 (h := h) ht (by decide)
 have rc1 := a8m h ft
 have rs1 := a7V ft
 have fa := ha.fit (by decide)
 have fb := hb.fit (by decide)
 have k2 := b4E x y (Nm.ofQ (Nm.j3 a * R8 h (x9 h t) - Nm.j3 b * R7 (x9 h t))) (Nm.ofQ (Nm.j3 a * R7 (x9 h t) + Nm.j3 b * R8 h (x9 h t))) (hx.mono (by decide)) (hy.mono (by decide)) ((J9 (I7 fa rc1) (I7 fb rs1)).mono (by decide)) ((R5 (I7 fa rs1) (I7 fb rc1)).mono (by decide))
 simp only [Nm.E9] at k2
 unfold X3 X0
 simp only
 unfold vq at *
 generalize Nm.ofQ (Nm.j3 x + (Nm.j3 a * R8 h (x9 h t) - Nm.j3 b * R7 (x9 h t))) = r1 at *
 generalize Nm.ofQ (Nm.j3 y + (Nm.j3 a * R7 (x9 h t) + Nm.j3 b * R8 h (x9 h t))) = r2 at *
 generalize Nm.ofQ (Nm.j3 a * R8 h (x9 h t) - Nm.j3 b * R7 (x9 h t)) = p1 at *
 generalize Nm.ofQ (Nm.j3 a * R7 (x9 h t) + Nm.j3 b * R8 h (x9 h t)) = p2 at *
 simp only [j6]
 simp only [Fr.c, Fr.enc, Vt.c, Vt.enc, vc, tc, sb] at *
 (repeat first | refine uA ?_ | (refine uK ?_ ?_; focus first | omega | (intros; simp_all <;> omega)) | simp (disch := omega) only [go_sem, Nat.reduceBEq, Nat.reduceAdd, ww] | (refine uD k1 ?_ ?_ ?_; exact tz hw; exact rfl) | (refine uD k2 ?_ ?_ ?_; exact tz hw; exact rfl))
 (refine S.done ?_; simp only [p8, l7, go_sem, Nat.reduceBEq, Nat.reduceAdd, Nat.reduceLeDiff, Int.reduceToNat, Int.reducePow]; (repeat (refine ⟨?_, ?_⟩; focus first | trivial | omega | simp)); exact d9.out rfl (Imp.refl rfl) rfl)
theorem b8r (h : Bool) (a : Nm.Rt) (ha : Rb 4294967296 a) : FZ 237 [tc h a] (tq h (- x9 h a)) := by
 refine kW Tryz.func237 (by cbv) (by rfl) fun w O hw => ?_
 have hf := a6l h a (ha.mono (by decide))
 have hk : Rb 4294967296 (Nm.ofQ (x9 h a)) := U9 ha (by decide)
 generalize x9 h a = t at *
 have hn := b1w (Nm.ofQ t) (hk.mono (by decide))
 rw [Nm.E9] at hn
 unfold tq rq at *
 generalize Nm.ofQ t = rt at *
 generalize Nm.ofQ (-t) = rn at *
 simp only [j6]
 simp only [rc, tc, sb, ints] at *
 (repeat first | refine uA ?_ | (refine uK ?_ ?_; focus first | omega | (intros; simp_all <;> omega)) | simp (disch := omega) only [go_sem, Nat.reduceBEq, Nat.reduceAdd, ww] | (refine uD hf ?_ ?_ ?_; exact tz hw; exact rfl) | (refine uD hn ?_ ?_ ?_; exact tz hw; exact rfl))
 (refine S.done ?_; simp only [p8, l7, go_sem, Nat.reduceBEq, Nat.reduceAdd, Nat.reduceLeDiff, Int.reduceToNat, Int.reducePow]; (repeat (refine ⟨?_, ?_⟩; focus first | trivial | omega | simp)); exact d9.out rfl (Imp.refl rfl) rfl)
theorem b4N (h : Bool) (a : Nm.Rt) (ha : Rb 4294967296 a) : FZ 253 [tc h a] (if Nm.j3 a = 0 then tq true 0 else tq false (-1 / Nm.j3 a)) := by
 refine kW Tryz.func253 (by cbv) (by rfl) fun w O hw => ?_
 have hm1 := a1y (-1) (by decide) (by decide)
 rw [show ((-1 : Int) : Rat) = -1 from rfl] at hm1
 have kb : Rb 8 (Nm.ofQ (-1)) := ⟨Nm.F4 (by decide), Nm.F4 (by decide)⟩
 have hd := b5Q (Nm.ofQ (-1)) a (kb.mono (by decide)) (ha.mono (by decide))
 rw [Nm.E9] at hd
 have hk := ha.fit (by decide)
 have hh := b0R
 by_cases h0 : Nm.j3 a = 0
 ·rw [if_pos h0]
  have e1 : a0N (-1) (Nm.j3 a) = ⟨false, [], []⟩ := by unfold a0N; rw [if_pos h0]
  have e2 : a1A (Nm.j3 a) = 12 := by unfold a1A; rw [if_pos h0]
  rw [e1, e2] at hd
  unfold rq tq at *
  generalize Nm.ofQ (-1) = r1 at *
  generalize Nm.ofQ 0 = r0 at *
  simp only [j6]
  simp only [rc, tc, sb, ints] at *
  (repeat first | refine uA ?_ | (refine uK ?_ ?_; focus first | omega | (intros; simp_all <;> omega)) | simp (disch := omega) only [go_sem, Nat.reduceBEq, Nat.reduceAdd, ww] | (refine uD hm1 ?_ ?_ ?_; exact tz hw; exact rfl) | (refine uD hd ?_ ?_ ?_; exact tz hw; exact rfl))
  refine S.cond rfl (fun _ => ?_) (fun hc => by simp at hc)
  (repeat first | refine uA ?_ | (refine uK ?_ ?_; focus first | omega | (intros; simp_all <;> omega)) | simp (disch := omega) only [go_sem, Nat.reduceBEq, Nat.reduceAdd, ww] | (refine uD hh ?_ ?_ ?_; exact tz hw; exact rfl))
  (refine S.done ?_; simp only [p8, l7, go_sem, Nat.reduceBEq, Nat.reduceAdd, Nat.reduceLeDiff, Int.reduceToNat, Int.reducePow]; (repeat (refine ⟨?_, ?_⟩; focus first | trivial | omega | simp)); exact d9.out rfl (Imp.refl rfl) rfl)
 ·rw [if_neg h0]
  have e1 : a0N (-1) (Nm.j3 a) = Nm.ofQ (-1 / Nm.j3 a) := by unfold a0N; rw [if_neg h0]
  have e2 : a1A (Nm.j3 a) = 0 := by unfold a1A; rw [if_neg h0]
  rw [e1, e2] at hd
  have hof := a4Y (Nm.ofQ (-1 / Nm.j3 a)) ((a3t h0 kb hk).mono (by decide))
  rw [Nm.E9] at hof
  unfold rq tq at *
  generalize Nm.ofQ (-1) = r1 at *
  generalize Nm.ofQ (-1 / Nm.j3 a) = r2 at *
  simp only [j6]
  simp only [rc, tc, sb, ints] at *
  (repeat first | refine uA ?_ | (refine uK ?_ ?_; focus first | omega | (intros; simp_all <;> omega)) | simp (disch := omega) only [go_sem, Nat.reduceBEq, Nat.reduceAdd, ww] | (refine uD hm1 ?_ ?_ ?_; exact tz hw; exact rfl) | (refine uD hd ?_ ?_ ?_; exact tz hw; exact rfl))
  refine S.cond rfl (fun hc => by simp at hc) (fun _ => ?_)
  (repeat first | refine uA ?_ | (refine uK ?_ ?_; focus first | omega | (intros; simp_all <;> omega)) | simp (disch := omega) only [go_sem, Nat.reduceBEq, Nat.reduceAdd, ww] | (refine uD hof ?_ ?_ ?_; exact tz hw; exact rfl))
  (refine S.done ?_; simp only [p8, l7, go_sem, Nat.reduceBEq, Nat.reduceAdd, Nat.reduceLeDiff, Int.reduceToNat, Int.reducePow]; (repeat (refine ⟨?_, ?_⟩; focus first | trivial | omega | simp)); exact d9.out rfl (Imp.refl rfl) rfl)
def a2b (h1 : Bool) (t1 : Rat) (h2 : Bool) (t2 : Rat) : Bool × Rat :=
 if h1 && h2 then (false, 0) else if h1 then (if t2 = 0 then (true, 0) else (false, -1 / t2)) else if h2 then (if t1 = 0 then (true, 0) else (false, -1 / t1)) else if 1 - t1 * t2 = 0 then (true, 0) else (false, (t1 + t2) / (1 - t1 * t2))
theorem b8f (h1 : Bool) (a : Nm.Rt) (h2 : Bool) (b : Nm.Rt) (ha : Rb 1073741824 a) (hb : Rb 1073741824 b) :
  FZ 236 [tc h1 a, tc h2 b] (tq (a2b h1 (x9 h1 a) h2 (x9 h2 b)).1 (a2b h1 (x9 h1 a) h2 (x9 h2 b)).2) := by
 refine kW Tryz.func236 (by cbv) (by rfl) fun w O hw => ?_
 have hf := a6l h1 a (ha.mono (by decide))
 have hg := a6l h2 b (hb.mono (by decide))
 have hk : Rb 1073741824 (Nm.ofQ (x9 h1 a)) := U9 ha (by decide)
 have hl : Rb 1073741824 (Nm.ofQ (x9 h2 b)) := U9 hb (by decide)
 have ho0 := a1y 0 (by decide) (by decide)
 have ho1 := a1y 1 (by decide) (by decide)
 rw [show ((0 : Int) : Rat) = 0 from rfl] at ho0
 rw [show ((1 : Int) : Rat) = 1 from rfl] at ho1
 have hz := a4Y (Nm.ofQ 0) (by rw [Nm.a2z]; exact ⟨by decide, by decide⟩)
 rw [Nm.E9] at hz
 have hh := b0R
 generalize x9 h1 a = s at *
 generalize x9 h2 b = t at *
 have o1 := b4N false (Nm.ofQ s) (hk.mono (by decide))
 have o2 := b4N false (Nm.ofQ t) (hl.mono (by decide))
 rw [Nm.E9] at o1 o2
 have kst := I7 hk hl
 have m1 := a7Q s t (hk.mono (by decide)) (hl.mono (by decide))
 have m2 := a9X s t (hk.mono (by decide)) (hl.mono (by decide))
 have m3 := b3B 1 (s * t) (Y2.mono (by decide)) (kst.mono (by decide))
 have m4 := a9W (s + t) (1 - s * t) ((R5 hk hl).mono (by decide)) ((J9 Y2 kst).mono (by decide))
 cases h1 <;> cases h2
 ·simp only [a2b, Bool.and_false, c2j, if_false]
  clear o1 o2 hz
  by_cases h0 : 1 - s * t = 0
  ·rw [if_pos h0]
   rw [show a0N (s + t) (1 - s * t) = ⟨false, [], []⟩ by unfold a0N; rw [if_pos h0], show a1A (1 - s * t) = 12 by unfold a1A; rw [if_pos h0]] at m4
   unfold rq tq at *
   simp only [j6]
   generalize Nm.ofQ s = r0 at *
   generalize Nm.ofQ t = r1 at *
   generalize Nm.ofQ (s * t) = r2 at *
   generalize Nm.ofQ (s + t) = r3 at *
   generalize Nm.ofQ (1 - s * t) = r4 at *
   generalize Nm.ofQ 0 = r5 at *
   generalize Nm.ofQ 1 = r6 at *
   simp only [rc, tc, sb, ints] at *
   (repeat first | refine uA ?_ | (refine uK ?_ ?_; focus first | omega | (intros; simp_all <;> omega)) | simp (disch := omega) only [go_sem, Nat.reduceBEq, Nat.reduceAdd, ww] | (refine uD hf ?_ ?_ ?_; exact tz hw; exact rfl) | (refine uD hg ?_ ?_ ?_; exact tz hw; exact rfl))
   refine S.cond rfl (fun hc => by simp at hc) (fun _ => ?_)
   (repeat first | refine uA ?_ | (refine uK ?_ ?_; focus first | omega | (intros; simp_all <;> omega)) | simp (disch := omega) only [go_sem, Nat.reduceBEq, Nat.reduceAdd, ww])
   refine S.cond rfl (fun hc => by simp at hc) (fun _ => ?_)
   (repeat first | refine uA ?_ | (refine uK ?_ ?_; focus first | omega | (intros; simp_all <;> omega)) | simp (disch := omega) only [go_sem, Nat.reduceBEq, Nat.reduceAdd, ww])
   refine S.cond rfl (fun hc => by simp at hc) (fun _ => ?_)
   (repeat first | refine uA ?_ | (refine uK ?_ ?_; focus first | omega | (intros; simp_all <;> omega)) | simp (disch := omega) only [go_sem, Nat.reduceBEq, Nat.reduceAdd, ww] | (refine uD m1 ?_ ?_ ?_; exact tz hw; exact rfl) | (refine uD m2 ?_ ?_ ?_; exact tz hw; exact rfl) | (refine uD m3 ?_ ?_ ?_; exact tz hw; exact rfl) | (refine uD m4 ?_ ?_ ?_; exact tz hw; exact rfl) | (refine uD ho1 ?_ ?_ ?_; exact tz hw; exact rfl))
   refine S.cond rfl (fun _ => ?_) (fun hc => by simp at hc)
   (repeat first | refine uA ?_ | (refine uK ?_ ?_; focus first | omega | (intros; simp_all <;> omega)) | simp (disch := omega) only [go_sem, Nat.reduceBEq, Nat.reduceAdd, ww] | (refine uD hh ?_ ?_ ?_; exact tz hw; exact rfl))
   (refine S.done ?_; simp only [p8, l7, go_sem, Nat.reduceBEq, Nat.reduceAdd, Nat.reduceLeDiff, Int.reduceToNat, Int.reducePow]; (repeat (refine ⟨?_, ?_⟩; focus first | trivial | omega | simp)); exact d9.out rfl (Imp.refl rfl) rfl)
  ·rw [if_neg h0]
   rw [show a0N (s + t) (1 - s * t) = Nm.ofQ ((s + t) / (1 - s * t)) by unfold a0N; rw [if_neg h0], show a1A (1 - s * t) = 0 by unfold a1A; rw [if_neg h0]] at m4
   have hq := a4Y (Nm.ofQ ((s + t) / (1 - s * t))) ((a3t h0 (R5 hk hl) (J9 Y2 kst)).mono (by decide))
   rw [Nm.E9] at hq
   unfold rq tq at *
   simp only [j6]
   generalize Nm.ofQ s = r0 at *
   generalize Nm.ofQ t = r1 at *
   generalize Nm.ofQ (s * t) = r2 at *
   generalize Nm.ofQ (s + t) = r3 at *
   generalize Nm.ofQ (1 - s * t) = r4 at *
   generalize Nm.ofQ ((s + t) / (1 - s * t)) = r5 at *
   generalize Nm.ofQ 0 = r6 at *
   generalize Nm.ofQ 1 = r7 at *
   simp only [rc, tc, sb, ints] at *
   (repeat first | refine uA ?_ | (refine uK ?_ ?_; focus first | omega | (intros; simp_all <;> omega)) | simp (disch := omega) only [go_sem, Nat.reduceBEq, Nat.reduceAdd, ww] | (refine uD hf ?_ ?_ ?_; exact tz hw; exact rfl) | (refine uD hg ?_ ?_ ?_; exact tz hw; exact rfl))
   refine S.cond rfl (fun hc => by simp at hc) (fun _ => ?_)
   (repeat first | refine uA ?_ | (refine uK ?_ ?_; focus first | omega | (intros; simp_all <;> omega)) | simp (disch := omega) only [go_sem, Nat.reduceBEq, Nat.reduceAdd, ww])
   refine S.cond rfl (fun hc => by simp at hc) (fun _ => ?_)
   (repeat first | refine uA ?_ | (refine uK ?_ ?_; focus first | omega | (intros; simp_all <;> omega)) | simp (disch := omega) only [go_sem, Nat.reduceBEq, Nat.reduceAdd, ww])
   refine S.cond rfl (fun hc => by simp at hc) (fun _ => ?_)
   (repeat first | refine uA ?_ | (refine uK ?_ ?_; focus first | omega | (intros; simp_all <;> omega)) | simp (disch := omega) only [go_sem, Nat.reduceBEq, Nat.reduceAdd, ww] | (refine uD m1 ?_ ?_ ?_; exact tz hw; exact rfl) | (refine uD m2 ?_ ?_ ?_; exact tz hw; exact rfl) | (refine uD m3 ?_ ?_ ?_; exact tz hw; exact rfl) | (refine uD m4 ?_ ?_ ?_; exact tz hw; exact rfl) | (refine uD ho1 ?_ ?_ ?_; exact tz hw; exact rfl))
   refine S.cond rfl (fun hc => by simp at hc) (fun _ => ?_)
   (repeat first | refine uA ?_ | (refine uK ?_ ?_; focus first | omega | (intros; simp_all <;> omega)) | simp (disch := omega) only [go_sem, Nat.reduceBEq, Nat.reduceAdd, ww] | (refine uD hq ?_ ?_ ?_; exact tz hw; exact rfl))
   (refine S.done ?_; simp only [p8, l7, go_sem, Nat.reduceBEq, Nat.reduceAdd, Nat.reduceLeDiff, Int.reduceToNat, Int.reducePow]; (repeat (refine ⟨?_, ?_⟩; focus first | trivial | omega | simp)); exact d9.out rfl (Imp.refl rfl) rfl)
 ·simp only [a2b, Bool.and_false, Bool.and_true, c2j, if_false, if_true]
  by_cases h0 : s = 0
  ·rw [if_pos h0] at o1 ⊢
   unfold rq tq at *
   simp only [j6]
   generalize Nm.ofQ s = r0 at *
   generalize Nm.ofQ t = r1 at *
   generalize Nm.ofQ (s * t) = r2 at *
   generalize Nm.ofQ (s + t) = r3 at *
   generalize Nm.ofQ (1 - s * t) = r4 at *
   generalize Nm.ofQ 0 = r5 at *
   generalize Nm.ofQ 1 = r6 at *
   simp only [rc, tc, sb, ints] at *
   (repeat first | refine uA ?_ | (refine uK ?_ ?_; focus first | omega | (intros; simp_all <;> omega)) | simp (disch := omega) only [go_sem, Nat.reduceBEq, Nat.reduceAdd, ww] | (refine uD hf ?_ ?_ ?_; exact tz hw; exact rfl) | (refine uD hg ?_ ?_ ?_; exact tz hw; exact rfl))
   refine S.cond rfl (fun hc => by simp at hc) (fun _ => ?_)
   (repeat first | refine uA ?_ | (refine uK ?_ ?_; focus first | omega | (intros; simp_all <;> omega)) | simp (disch := omega) only [go_sem, Nat.reduceBEq, Nat.reduceAdd, ww])
   refine S.cond rfl (fun hc => by simp at hc) (fun _ => ?_)
   (repeat first | refine uA ?_ | (refine uK ?_ ?_; focus first | omega | (intros; simp_all <;> omega)) | simp (disch := omega) only [go_sem, Nat.reduceBEq, Nat.reduceAdd, ww])
   refine S.cond rfl (fun _ => ?_) (fun hc => by simp at hc)
   (repeat first | refine uA ?_ | (refine uK ?_ ?_; focus first | omega | (intros; simp_all <;> omega)) | simp (disch := omega) only [go_sem, Nat.reduceBEq, Nat.reduceAdd, ww] | (refine uD o1 ?_ ?_ ?_; exact tz hw; exact rfl))
   (refine S.done ?_; simp only [p8, l7, go_sem, Nat.reduceBEq, Nat.reduceAdd, Nat.reduceLeDiff, Int.reduceToNat, Int.reducePow]; (repeat (refine ⟨?_, ?_⟩; focus first | trivial | omega | simp)); exact d9.out rfl (Imp.refl rfl) rfl)
  ·rw [if_neg h0] at o1 ⊢
   unfold rq tq at *
   simp only [j6]
   generalize Nm.ofQ s = r0 at *
   generalize Nm.ofQ t = r1 at *
   generalize Nm.ofQ (s * t) = r2 at *
   generalize Nm.ofQ (s + t) = r3 at *
   generalize Nm.ofQ (1 - s * t) = r4 at *
   generalize Nm.ofQ (-1 / s) = r5 at *
   generalize Nm.ofQ 0 = r6 at *
   generalize Nm.ofQ 1 = r7 at *
   simp only [rc, tc, sb, ints] at *
   (repeat first | refine uA ?_ | (refine uK ?_ ?_; focus first | omega | (intros; simp_all <;> omega)) | simp (disch := omega) only [go_sem, Nat.reduceBEq, Nat.reduceAdd, ww] | (refine uD hf ?_ ?_ ?_; exact tz hw; exact rfl) | (refine uD hg ?_ ?_ ?_; exact tz hw; exact rfl))
   refine S.cond rfl (fun hc => by simp at hc) (fun _ => ?_)
   (repeat first | refine uA ?_ | (refine uK ?_ ?_; focus first | omega | (intros; simp_all <;> omega)) | simp (disch := omega) only [go_sem, Nat.reduceBEq, Nat.reduceAdd, ww])
   refine S.cond rfl (fun hc => by simp at hc) (fun _ => ?_)
   (repeat first | refine uA ?_ | (refine uK ?_ ?_; focus first | omega | (intros; simp_all <;> omega)) | simp (disch := omega) only [go_sem, Nat.reduceBEq, Nat.reduceAdd, ww])
   refine S.cond rfl (fun _ => ?_) (fun hc => by simp at hc)
   (repeat first | refine uA ?_ | (refine uK ?_ ?_; focus first | omega | (intros; simp_all <;> omega)) | simp (disch := omega) only [go_sem, Nat.reduceBEq, Nat.reduceAdd, ww] | (refine uD o1 ?_ ?_ ?_; exact tz hw; exact rfl))
   (refine S.done ?_; simp only [p8, l7, go_sem, Nat.reduceBEq, Nat.reduceAdd, Nat.reduceLeDiff, Int.reduceToNat, Int.reducePow]; (repeat (refine ⟨?_, ?_⟩; focus first | trivial | omega | simp)); exact d9.out rfl (Imp.refl rfl) rfl)
 ·simp only [a2b, Bool.and_false, Bool.and_true, c2j, if_false, if_true]
  by_cases h0 : t = 0
  ·rw [if_pos h0] at o2 ⊢
   unfold rq tq at *
   simp only [j6]
   generalize Nm.ofQ s = r0 at *
   generalize Nm.ofQ t = r1 at *
   generalize Nm.ofQ (s * t) = r2 at *
   generalize Nm.ofQ (s + t) = r3 at *
   generalize Nm.ofQ (1 - s * t) = r4 at *
   generalize Nm.ofQ 0 = r5 at *
   generalize Nm.ofQ 1 = r6 at *
   simp only [rc, tc, sb, ints] at *
   (repeat first | refine uA ?_ | (refine uK ?_ ?_; focus first | omega | (intros; simp_all <;> omega)) | simp (disch := omega) only [go_sem, Nat.reduceBEq, Nat.reduceAdd, ww] | (refine uD hf ?_ ?_ ?_; exact tz hw; exact rfl) | (refine uD hg ?_ ?_ ?_; exact tz hw; exact rfl))
   refine S.cond rfl (fun hc => by simp at hc) (fun _ => ?_)
   (repeat first | refine uA ?_ | (refine uK ?_ ?_; focus first | omega | (intros; simp_all <;> omega)) | simp (disch := omega) only [go_sem, Nat.reduceBEq, Nat.reduceAdd, ww])
   refine S.cond rfl (fun _ => ?_) (fun hc => by simp at hc)
   (repeat first | refine uA ?_ | (refine uK ?_ ?_; focus first | omega | (intros; simp_all <;> omega)) | simp (disch := omega) only [go_sem, Nat.reduceBEq, Nat.reduceAdd, ww] | (refine uD o2 ?_ ?_ ?_; exact tz hw; exact rfl))
   (refine S.done ?_; simp only [p8, l7, go_sem, Nat.reduceBEq, Nat.reduceAdd, Nat.reduceLeDiff, Int.reduceToNat, Int.reducePow]; (repeat (refine ⟨?_, ?_⟩; focus first | trivial | omega | simp)); exact d9.out rfl (Imp.refl rfl) rfl)
  ·rw [if_neg h0] at o2 ⊢
   unfold rq tq at *
   simp only [j6]
   generalize Nm.ofQ s = r0 at *
   generalize Nm.ofQ t = r1 at *
   generalize Nm.ofQ (s * t) = r2 at *
   generalize Nm.ofQ (s + t) = r3 at *
   generalize Nm.ofQ (1 - s * t) = r4 at *
   generalize Nm.ofQ (-1 / t) = r5 at *
   generalize Nm.ofQ 0 = r6 at *
   generalize Nm.ofQ 1 = r7 at *
   simp only [rc, tc, sb, ints] at *
   (repeat first | refine uA ?_ | (refine uK ?_ ?_; focus first | omega | (intros; simp_all <;> omega)) | simp (disch := omega) only [go_sem, Nat.reduceBEq, Nat.reduceAdd, ww] | (refine uD hf ?_ ?_ ?_; exact tz hw; exact rfl) | (refine uD hg ?_ ?_ ?_; exact tz hw; exact rfl))
   refine S.cond rfl (fun hc => by simp at hc) (fun _ => ?_)
   (repeat first | refine uA ?_ | (refine uK ?_ ?_; focus first | omega | (intros; simp_all <;> omega)) | simp (disch := omega) only [go_sem, Nat.reduceBEq, Nat.reduceAdd, ww])
   refine S.cond rfl (fun _ => ?_) (fun hc => by simp at hc)
   (repeat first | refine uA ?_ | (refine uK ?_ ?_; focus first | omega | (intros; simp_all <;> omega)) | simp (disch := omega) only [go_sem, Nat.reduceBEq, Nat.reduceAdd, ww] | (refine uD o2 ?_ ?_ ?_; exact tz hw; exact rfl))
   (refine S.done ?_; simp only [p8, l7, go_sem, Nat.reduceBEq, Nat.reduceAdd, Nat.reduceLeDiff, Int.reduceToNat, Int.reducePow]; (repeat (refine ⟨?_, ?_⟩; focus first | trivial | omega | simp)); exact d9.out rfl (Imp.refl rfl) rfl)
 ·simp only [a2b, Bool.and_true, if_true]
  unfold rq tq at *
  simp only [j6]
  generalize Nm.ofQ s = r0 at *
  generalize Nm.ofQ t = r1 at *
  generalize Nm.ofQ (s * t) = r2 at *
  generalize Nm.ofQ (s + t) = r3 at *
  generalize Nm.ofQ (1 - s * t) = r4 at *
  generalize Nm.ofQ 0 = r5 at *
  generalize Nm.ofQ 1 = r6 at *
  simp only [rc, tc, sb, ints] at *
  (repeat first | refine uA ?_ | (refine uK ?_ ?_; focus first | omega | (intros; simp_all <;> omega)) | simp (disch := omega) only [go_sem, Nat.reduceBEq, Nat.reduceAdd, ww] | (refine uD hf ?_ ?_ ?_; exact tz hw; exact rfl) | (refine uD hg ?_ ?_ ?_; exact tz hw; exact rfl))
  refine S.cond rfl (fun _ => ?_) (fun hc => by simp at hc)
  (repeat first | refine uA ?_ | (refine uK ?_ ?_; focus first | omega | (intros; simp_all <;> omega)) | simp (disch := omega) only [go_sem, Nat.reduceBEq, Nat.reduceAdd, ww] | (refine uD ho0 ?_ ?_ ?_; exact tz hw; exact rfl) | (refine uD hz ?_ ?_ ?_; exact tz hw; exact rfl))
  (refine S.done ?_; simp only [p8, l7, go_sem, Nat.reduceBEq, Nat.reduceAdd, Nat.reduceLeDiff, Int.reduceToNat, Int.reducePow]; (repeat (refine ⟨?_, ?_⟩; focus first | trivial | omega | simp)); exact d9.out rfl (Imp.refl rfl) rfl)
structure Ast where
 q : List Nm.Rt
 v : List Nm.Rt
 power : Bool
 holds : Int
structure Stt where
 tick : Int
 arms : List Ast
 parts : List Fr
 people : List Vt
 gates : List Bool
def rts (l : List Nm.Rt) : C := .sl 3 (l.map rcs)
def Ast.enc (x : Ast) : List C := [rts x.q, rts x.v, .v (.bool x.power), ints x.holds]
def Ast.c (x : Ast) : C := .agg x.enc
def D8 (l : List Ast) : C := .sl 4 (l.map Ast.enc)
def frs (l : List Fr) : C := .sl 10 (l.map Fr.enc)
def bls (l : List Bool) : C := .sl 1 (l.map fun b => [.v (.bool b)])
def Stt.enc (s : Stt) : List C := [ints s.tick, D8 s.arms, frs s.parts, vts s.people, bls s.gates]
def Stt.c (s : Stt) : C := .agg s.enc
def Rbs (k : Nat) (l : List Nm.Rt) : Prop := l.length <= k /\ ∀ a ∈ l, Rb k a
def Asb (k : Nat) (x : Ast) : Prop := Rbs k x.q /\ Rbs k x.v
structure Stb (k : Nat) (s : Stt) : Prop where
 arms : s.arms.length <= k /\ ∀ x ∈ s.arms, Asb k x
 parts : s.parts.length <= k /\ ∀ x ∈ s.parts, Fb k x
 people : Vbs k s.people
 gates : s.gates.length <= k
def C8 (q : Rat) : Rat := if q.num < 0 then -q else q
def V7 (x : Lk × Nm.Rt) : Int := if 0 < Nm.q8 (C8 (Nm.j3 x.2)) (Nm.j3 x.1.speed) then 1 else 0
def F5 (a : Nm.Rt) : Bool := decide a.D6
def a1f (a : Am) (x : Ast) (parts : Nat) : Int :=
 if (x.q.all F5 && x.v.all F5) = false then 3 else
 if a1n a x.q ≠ 0 then a1n a x.q else
 if x.v.length ≠ a.links.length \/ x.holds < -1 \/ (parts : Int) <= x.holds then 1 else
 E5 V7 (a.links.zip x.v)
def a1V (h : List Int) (n : Int) : List Int := if h.contains n then h else h ++ [n]
def hdE (h : List Int) : List (Value × Value) := h.map fun n => (.int .i64 n, .bool true)
def X7 (parts : Nat) (h : List Int) (x : Am × Ast) : Int × List Int :=
 if a1f x.1 x.2 parts ≠ 0 then (a1f x.1 x.2 parts, h) else
 if (decide (0 <= x.2.holds) && h.contains x.2.holds) = true then (10, h) else (0, a1V h x.2.holds)
def a0a (f : Fr) : Bool := (F5 f.x && F5 f.y && F5 f.t) && !a1R f.half f.t
def a2f (v : Vt) : Bool := F5 v.x && F5 v.y
def I4 (w : Wk) (s : Stt) : Int :=
 if Y0 w ≠ 0 then Y0 w else
 if 4 < s.people.length then 2 else
 if s.tick < 0 \/ 2000 < s.tick \/ s.arms.length ≠ w.arms.length \/ s.parts.length ≠ w.parts.length \/ s.gates.length ≠ w.gates.length then 1 else
 if (C9 (X7 w.parts.length) [] (w.arms.zip s.arms)).1 ≠ 0 then (C9 (X7 w.parts.length) [] (w.arms.zip s.arms)).1 else
 if s.parts.all a0a && s.people.all a2f then 0 else 3
theorem b9h (h : List Int) (n : Int) : a0U (.int .i64 n) (hdE h) = if h.contains n then some (.bool true) else none := by
 induction h with
 | nil => rfl
 | cons a h ih =>
  simp only [hdE, c1R, a0U, a0X]
  simp only [hdE] at ih
  rw [ih, List.contains_cons]
  by_cases e : n = a
  ·subst e; simp
  ·have e2 : (n == a) = false := by simpa using e
   simp only [e2, Bool.false_or, c2j, if_false]
theorem b9r (h : List Int) (n : Int) : a0T (.int .i64 n) (.bool true) (hdE h) = hdE (a1V h n) := by
 induction h with
 | nil => rfl
 | cons a h ih =>
  unfold a1V at ih ⊢
  rw [List.contains_cons]
  by_cases e : n = a
  ·subst e
   simp [hdE, a0T, a0X]
  ·have e2 : (n == a) = false := by simpa using e
   simp only [hdE, c1R, a0T, a0X, e2, Bool.false_or, c2j, if_false]
   simp only [hdE] at ih
   rw [ih]
   split <;> simp [hdE]
def a0x (l : Lk) : Nm.Rt := Nm.ofQ (a0w (Nm.j3 l.low) (a5q (Nm.j3 l.high) 0))
def a0D (a : Am) : Ast := ⟨a.links.map a0x, a.links.map fun _ => Nm.ofQ 0, false, -1⟩
def a0f : Fr := ⟨Nm.ofQ 0, Nm.ofQ 0, false, Nm.ofQ 0⟩
def a6m (w : Wk) (i : Nat) : Fr := if h : i < w.slots.length then (w.slots[i]).frame else a0f
def K7 (w : Wk) : Stt := ⟨0, w.arms.map a0D, (List.range w.parts.length).map (a6m w), [], List.replicate w.gates.length false⟩
def nx (l : List Int) (n : Int) : Int := l.headD 0 % n
abbrev Q (n d : Int) : Nm.Rt := Nm.ofQ (mkRat n d.toNat)
def atV (x y : Int) : Vt := ⟨Q x 4, Q y 4⟩
def a9R (x y u v : Int) : List Vt := [atV x y, atV u y, atV u v, atV x v]
def b7P (w h k s : Int) : List Vt :=
 if k = 0 then [atV (-w) (-h), atV w (-h), atV w h, atV (-w) h] else
 if k = 1 then [atV (-w) (-h), atV w (-h), atV (s - w) h] else
 if k = 2 then [atV (-w - 1) (-h - 1), atV w (-h - 1), atV (w + 1) (-h), atV (w + 1) h, atV (-w - 1) h] else
 [atV (-w) 0, atV 0 (-h), atV w 0, atV 0 h]
def c0D (l : List Int) : List Vt × List Int :=
 let w := 1 + nx l 6
 let h := 1 + nx (l.drop 1) 6
 let k := nx (l.drop 2) 4
 if k = 1 then (b7P w h k (nx (l.drop 3) (2 * w + 1)), l.drop 4) else (b7P w h k 0, l.drop 3)
def b7S (a lo hi sp br tri : Int) : Lk :=
 ⟨Q (4 + 2 * a) 4, Q (-1 - lo) 3, Q (1 + hi) 3, Q 1 (4 + sp), Q 1 (10 + br), if tri = 2 then [atV (-1) (-1), atV (4 + 2 * a + 1) 0, atV (-1) 1] else a9R (-1) (-1) (4 + 2 * a + 1) 1⟩
def b7O (l : List Int) : Lk := b7S (nx l 4) (nx (l.drop 1) 6) (nx (l.drop 2) 6) (nx (l.drop 3) 8) (nx (l.drop 4) 20) (nx (l.drop 5) 3)
def a4O : Nat -> List Int -> List Lk
 | 0, _ => []
 | n + 1, l => b7O l :: a4O n (l.drop 6)
def a5s (k : Int) : Int := if k = 0 then 0 else if k = 2 then -1 else 1
def b6v (n : Nat) : List UInt8 := [[111, 110, 101], [116, 119, 111], [116, 104, 114, 101, 101], [102, 111, 117, 114]].getD n []
def a4W (l : List Int) : Nat := (1 + nx (l.drop 2) 3).toNat
def b1n (l : List Int) (n : Nat) : Am := ⟨b6v n, ⟨Q (40 * n) 4, Q 0 4, false, Q (a5s (nx l 4)) (1 + nx (l.drop 1) 3)⟩, a4O (a4W l) (l.drop 3)⟩
def a7q (l : List Int) : List Int := l.drop (3 + 6 * a4W l)
def b7R : Nat -> List Int -> List Int
 | 0, l => l
 | k + 1, l => b7R k (a7q l)
def b4k : Nat -> List Int -> List Int
 | 0, l => l
 | k + 1, l => b4k k (c0D l).2
def nA (l : List Int) : Nat := (1 + nx l 2).toNat
def l1 (l : List Int) : List Int := b7R (nA l) (l.drop 1)
def nW (l : List Int) : Nat := (nx (l1 l) 3).toNat
def l2 (l : List Int) : List Int := (l1 l).drop (1 + 5 * nW l)
def nP (l : List Int) : Nat := (nx (l2 l) 3).toNat
def l3 (l : List Int) : List Int := b4k (nP l) ((l2 l).drop 1)
def nS (l : List Int) : Nat := nP l + (nx (l3 l) 2).toNat
def l4 (l : List Int) : List Int := (l3 l).drop (1 + 4 * nS l)
def nG (l : List Int) : Nat := (nx (l4 l) 2).toNat
def l5 (l : List Int) : List Int := (l4 l).drop (1 + 4 * nG l)
theorem Z7 (l : List Int) {n : Int} (h : 0 < n) : 0 <= nx l n := Int.emod_nonneg _ (by omega)
theorem a3k (l : List Int) {n : Int} (h : 0 < n) : nx l n < n := Int.emod_lt_of_pos _ h
set_option maxRecDepth 100000
theorem a5j {α : Type} {f : α -> Int} : ∀ {l : List α}, (∀ x ∈ l, f x = 0) -> E5 f l = 0
 | [], _ => rfl
 | x :: l, h => by rw [E5, if_pos (h x (by simp))]; exact a5j fun y hy => h y (by simp [hy])
set_option maxRecDepth 10000
theorem b4q {l : List Vt} {most i k : Nat} (h1 : ¬ most < l.length) (h2 : ¬ l.length < 3) (hi : i < l.length) (hk2 : 2 <= k) (hk : k < l.length) (h : ¬ 0 < a3Q l i k) : U7 l most = 3 := by
 unfold U7
 rw [if_neg h1, if_neg h2, if_neg]
 intro ha
 rw [List.all_eq_true] at ha
 have h3 := ha i (List.mem_range.2 hi)
 rw [List.all_eq_true] at h3
 have h4 := h3 k (List.mem_range.2 hk)
 rw [c1X, c1D, c1D] at h4
 omega
theorem b3I {l : List Vt} {most : Nat} (h1 : ¬ most < l.length) (h2 : ¬ l.length < 3) (h : ∀ i, i < l.length -> ∀ k, 2 <= k -> k < l.length -> 0 < a3Q l i k) : U7 l most = 0 := by
 unfold U7
 rw [if_neg h1, if_neg h2, if_pos]
 rw [List.all_eq_true]
 intro i hi
 rw [List.all_eq_true]
 intro k hk
 rw [c1X, c1D, c1D]
 rcases c1V k 2 with h3 | h3
 ·exact .inl h3
 ·exact .inr (h i (List.mem_range.1 hi) k h3 (List.mem_range.1 hk))
theorem b4A {l : List Vt} {i k : Nat} {x y z : Vt} (hx : l[i]? = some x) (hy : l[(i + 1) % l.length]? = some y) (hz : l[(i + k) % l.length]? = some z) : a3Q l i k = a9P x y z := by
 unfold a3Q
 rw [c1O, c1O, c1O, hx, hy, hz]
 rfl
theorem b7e (i k n : Nat) : Int.tmod ((i : Int) + (k : Int)) (n : Int) = (((i + k) % n : Nat) : Int) := rfl
theorem tmod_one (i n : Nat) : Int.tmod ((i : Int) + 1) (n : Int) = (((i + 1) % n : Nat) : Int) := rfl
theorem b9t (v : Vt) : v.enc.length = 6 := rfl
theorem b6I (l : List Vt) (most : Nat) (hl : Vbs 1073741824 l) (hm : most <= 1000000) : FZ 232 [vts l, ints most] (ints (U7 l most)) := by
 refine kW Tryz.func232 (by cbv) (by rfl) fun w O hw => ?_
 obtain ⟨hn, hb⟩ := hl
 simp only [j6, ints, vts]
 (repeat first | refine uA ?_ | (refine uK ?_ ?_; focus first | omega | trivial | (intros; simp_all <;> omega)) | simp (disch := omega) only [go_sem, Nat.reduceBEq, Nat.reduceAdd, Nat.reduceLeDiff, Int.reduceToNat, Int.reducePow, ww, c1y])
 (refine uJ rfl (fun hc => ?_) fun hc => ?_)
 ·have he : U7 l most = 2 := by unfold U7; rw [if_pos (by omega)]
  rw [he]
  (repeat first | refine uA ?_ | (refine uK ?_ ?_; focus first | omega | trivial | (intros; simp_all <;> omega)) | simp (disch := omega) only [go_sem, Nat.reduceBEq, Nat.reduceAdd, Nat.reduceLeDiff, Int.reduceToNat, Int.reducePow, ww])
  exact S.done (d9.out rfl (Imp.refl rfl) rfl)
 have h1 : ¬ most < l.length := by omega
 (repeat first | refine uA ?_ | (refine uK ?_ ?_; focus first | omega | trivial | (intros; simp_all <;> omega)) | simp (disch := omega) only [go_sem, Nat.reduceBEq, Nat.reduceAdd, Nat.reduceLeDiff, Int.reduceToNat, Int.reducePow, ww, c1y])
 (refine uJ rfl (fun hc => ?_) fun hc => ?_)
 ·have he : U7 l most = 3 := by unfold U7; rw [if_neg h1, if_pos (by omega)]
  rw [he]
  (repeat first | refine uA ?_ | (refine uK ?_ ?_; focus first | omega | trivial | (intros; simp_all <;> omega)) | simp (disch := omega) only [go_sem, Nat.reduceBEq, Nat.reduceAdd, Nat.reduceLeDiff, Int.reduceToNat, Int.reducePow, ww])
  exact S.done (d9.out rfl (Imp.refl rfl) rfl)
 have h2 : ¬ l.length < 3 := by omega
 (repeat first | refine uA ?_ | (refine uK ?_ ?_; focus first | omega | trivial | (intros; simp_all <;> omega)) | simp (disch := omega) only [go_sem, Nat.reduceBEq, Nat.reduceAdd, Nat.reduceLeDiff, Int.reduceToNat, Int.reducePow, ww, c1y])
 refine S.loop (X := Nat) (fun i => ⟨[(0, vts l), (5, ints l.length), (18, vts l), (19, ints l.length), (20, ints i)], []⟩)
  (fun i => i <= l.length /\ ∀ j, j < i -> ∀ k, 2 <= k -> k < l.length -> 0 < a3Q l j k) (fun i => l.length - i) 0 ⟨c1H _, fun _ h => absurd h (Nat.not_lt_zero _)⟩ (by (repeat first | refine uA ?_ | (refine ⟨?_, ?_⟩; focus first | rfl | trivial | (simp [slot]; done)) | rfl | trivial | simp)) ?_
 rintro i ⟨hi, hg⟩
 simp only [ints, vts] at hi ⊢
 (repeat first | refine uA ?_ | (refine uK ?_ ?_; focus first | omega | trivial | (intros; simp_all <;> omega)) | simp (disch := omega) only [go_sem, Nat.reduceBEq, Nat.reduceAdd, Nat.reduceLeDiff, Int.reduceToNat, Int.reducePow, ww])
 (refine uJ rfl (fun hc => ?_) fun hc => ?_)
 ·have hi' : i < l.length := by omega
  have hgi := c1x hi'
  generalize l[i] = x at hgi
  (repeat first | refine uA ?_ | (refine uK ?_ ?_; focus first | omega | trivial | (intros; simp_all <;> omega)) | simp (disch := omega) only [go_sem, Nat.reduceBEq, Nat.reduceAdd, Nat.reduceLeDiff, Int.reduceToNat, Int.reducePow, ww, hgi, c1z, c1y, b9t])
  refine S.loop (X := Nat) (fun k => ⟨[(0, vts l), (5, ints l.length), (6, ints i), (7, .bp 0 0), (8, ints k), (18, vts l), (19, ints l.length), (20, ints i)], [.box 51 x.enc]⟩)
   (fun k => 2 <= k /\ k <= l.length /\ ∀ k', 2 <= k' -> k' < k -> 0 < a3Q l i k') (fun k => l.length - k) 2 ⟨c1I _, by omega, fun _ h h' => by omega⟩ (by (repeat first | refine uA ?_ | (refine ⟨?_, ?_⟩; focus first | rfl | trivial | (simp [slot]; done)) | rfl | trivial | simp)) ?_
  rintro k ⟨hk2, hk, hgk⟩
  simp only [ints, vts] at hk ⊢
  (repeat first | refine uA ?_ | (refine uK ?_ ?_; focus first | omega | trivial | (intros; simp_all <;> omega)) | simp (disch := omega) only [go_sem, Nat.reduceBEq, Nat.reduceAdd, Nat.reduceLeDiff, Int.reduceToNat, Int.reducePow, ww])
  (refine uJ rfl (fun hc => ?_) fun hc => ?_)
  ·have hk' : k < l.length := by omega
   have hy := c1x (show (i + 1) % l.length < l.length from Nat.mod_lt _ (by omega))
   have hz := c1x (show (i + k) % l.length < l.length from Nat.mod_lt _ (by omega))
   have hylt : (i + 1) % l.length < l.length := Nat.mod_lt _ (by omega)
   have hzlt : (i + k) % l.length < l.length := Nat.mod_lt _ (by omega)
   generalize l[(i + 1) % l.length]'_ = y at hy
   generalize l[(i + k) % l.length]'_ = z at hz
   have hla := b4A hgi hy hz
   have hcall := b9X x y z (hb x (c1A hgi)) (hb y (c1A hy)) (hb z (c1A hz))
   rw [<- hla] at hcall
   simp only [Vt.c, Vt.enc, sb, ints] at hcall
   (repeat first | refine uA ?_ | (refine uK ?_ ?_; focus first | omega | trivial | (intros; simp_all <;> omega)) | simp (disch := omega) only [go_sem, Nat.reduceBEq, Nat.reduceAdd, Nat.reduceLeDiff, Int.reduceToNat, Int.reducePow, ww, hy, hz, c1z, b7e, tmod_one, c1y, Vt.enc, sb, c1B] | (refine uD hcall ?_ ?_ ?_; exact tz hw; exact rfl))
   (refine uJ rfl (fun hc => ?_) fun hc => ?_)
   ·rw [b4q h1 h2 hi' hk2 hk' (by omega)]
    (repeat first | refine uA ?_ | (refine uK ?_ ?_; focus first | omega | trivial | (intros; simp_all <;> omega)) | simp (disch := omega) only [go_sem, Nat.reduceBEq, Nat.reduceAdd, Nat.reduceLeDiff, Int.reduceToNat, Int.reducePow, ww])
    exact S.done (d9.out rfl (Imp.refl rfl) rfl)
   ·(repeat first | refine uA ?_ | (refine uK ?_ ?_; focus first | omega | trivial | (intros; simp_all <;> omega)) | simp (disch := omega) only [go_sem, Nat.reduceBEq, Nat.reduceAdd, Nat.reduceLeDiff, Int.reduceToNat, Int.reducePow, ww])
    refine S.next (k + 1) ⟨by omega, by omega, fun k' hk1 hk3 => ?_⟩ (by omega) (by (repeat first | refine uA ?_ | (refine ⟨?_, ?_⟩; focus first | rfl | trivial | (simp [slot]; done)) | rfl | trivial | simp))
    rcases c1V k' k with h | h
    ·exact hgk k' hk1 h
    ·have : k' = k := by omega
     subst this
     omega
  ·have hk' : k = l.length := by omega
   subst hk'
   (repeat first | refine uA ?_ | (refine uK ?_ ?_; focus first | omega | trivial | (intros; simp_all <;> omega)) | simp (disch := omega) only [go_sem, Nat.reduceBEq, Nat.reduceAdd, Nat.reduceLeDiff, Int.reduceToNat, Int.reducePow, ww])
   refine S.next (i + 1) ⟨by omega, fun j hj => ?_⟩ (by omega) (by (repeat first | refine uA ?_ | (refine ⟨?_, ?_⟩; focus first | rfl | trivial | (simp [slot]; done)) | rfl | trivial | simp))
   rcases c1V j i with h | h
   ·exact hg j h
   ·have : j = i := by omega
    subst this
    exact hgk
 ·have hi' : i = l.length := by omega
  subst hi'
  rw [b3I h1 h2 hg]
  (repeat first | refine uA ?_ | (refine uK ?_ ?_; focus first | omega | trivial | (intros; simp_all <;> omega)) | simp (disch := omega) only [go_sem, Nat.reduceBEq, Nat.reduceAdd, Nat.reduceLeDiff, Int.reduceToNat, Int.reducePow, ww])
  exact S.done (d9.out rfl (Imp.refl rfl) rfl)
theorem a4v (l : List Vt) (hl : Vbs 1073741824 l) : FZ 201 [vts l] (ints (U7 l 8)) := by
 refine kW Tryz.func201 (by cbv) (by rfl) fun w O hw => ?_
 have h := b6I l 8 hl (by decide)
 simp only [j6]
 simp only [vts, ints] at *
 generalize U7 l 8 = e at *
 rw [show ((8 : Nat) : Int) = 8 from rfl] at h
 (repeat first | refine uA ?_ | (refine uK ?_ ?_; focus first | omega | trivial | (intros; simp_all <;> omega)) | simp (disch := omega) only [go_sem, Nat.reduceBEq, Nat.reduceAdd, Nat.reduceLeDiff, Int.reduceToNat, Int.reducePow, ww] | (refine uD h ?_ ?_ ?_; exact tz hw; exact rfl))
 exact S.done (d9.out rfl (Imp.refl rfl) rfl)
def a2k : a1U := ⟨89, [.tmp 2], .seq (.reg [OA 1 (.box 31 (TT 0)), OA 2 (.mv (II 0))]) (.seq (.seq (.reg [FF 7 0 1, VV 8 7, OA 9 (.len false (TT 8)), OA 10 (.bin .gtr (TT 9) (II 4)), MM 11 10, FG 12 1 1 11 false, VG 13 12 11 false, OC 14 (.len
 false (TT 13)) 11 false, OC 15 (.bin .gtr (TT 14) (II 10)) 11 false, OA 16 (.pick (TT 11) (.const (.bool true)) (TT 15)), MM 17 16, FG 18 2 1 17 false, VG 19 18 17 false, OC 20 (.len false (TT 19)) 17 false, OC 21 (.bin .gtr (TT
 20) (II 6)) 17 false, OA 22 (.pick (TT 17) (.const (.bool true)) (TT 21)), MM 23 22, FG 24 3 1 23 false, VG 25 24 23 false, OC 26 (.len false (TT 25)) 23 false, OC 27 (.bin .gtr (TT 26) (II 8)) 23 false, OA 28 (.pick (TT 23)
 (.const (.bool true)) (TT 27)), MM 29 28, FG 30 4 1 29 false, VG 31 30 29 false, OC 32 (.len false (TT 31)) 29 false, OC 33 (.bin .gtr (TT 32) (II 4)) 29 false, OA 34 (.pick (TT 29) (.const (.bool true)) (TT 33))]) (.cond (TT
 34) (.seq (.reg [OA 2 (.mv (II 2))]) .ret) .skip)) (.seq (.seq (.reg [FF 35 0 1, VV 36 35, OA 37 (.len false (TT 36)), OA 38 (.bin .eql (TT 37) (II 0))]) (.cond (TT 38) (.seq (.reg [OA 2 (.mv (II 4))]) .ret) .skip)) (.seq (.reg
 [OA 39 (.a2H true), OA 3 (.alloc 140 [.map none]), OB (.store 1 (TT 3) (TT 39))]) (.seq (.reg [OA 40 (.clo 86 [TT 3]), MM 4 40]) (.seq (.seq (.U6 [.q, .q, .q, .e none false, .l, .l, .q, .l, .l, .l, .l, .e none false, .l, .l,
 .l, .l, .e none false, .l, .l, .l, .l, .e none false, .q, .q, .l] [FF 41 0 1, VV 42 41, MM 43 4, OA 44 (.call 89 [TT 42, TT 43]), FF 45 1 1, VV 46 45, OA 47 (.call 90 [TT 46, .func 91]), FF 48 2 1, VV 49 48, VV 50 3, OA 51 (.bnd
 93 (TT 50)), OA 52 (.call 92 [TT 49, TT 51]), FF 53 3 1, VV 54 53, VV 55 3, OA 56 (.bnd 95 (TT 55)), OA 57 (.call 94 [TT 54, TT 56]), FF 58 4 1, VV 59 58, VV 60 3, OA 61 (.bnd 97 (TT 60)), OA 62 (.call 96 [TT 59, TT 61]), OA 63
 (.bsl 40 1 5 [.int .i64 0] [(0, TT 44), (1, TT 47), (2, TT 52), (3, TT 57), (4, TT 62)]), OA 64 (.len false (TT 63)), OA 65 (.mv (II 0))]) (.block 0 (.loop (.seq (.reg [OA 66 (.bin .lss (TT 65) (TT 64))]) (.seq (.cond (TT 66)
 .skip (.exit 0)) (.seq (.block 1 (.seq (.reg [OA 67 (.K3 1 (TT 63) (TT 65)), VV 68 67, MM 6 68]) (.seq (.reg [MM 69 6, OA 70 (.bin .neq (TT 69) (II 0))]) (.cond (TT 70) (.seq (.reg [MM 71 6, MM 2 71]) .ret) .skip)))) (.reg
 [OA 72 (.bin .add (TT 65) (II 1)), MM 65 72]))))))) (.seq (.seq (.reg [FF 73 5 1, LL 74 3 73, OA 75 (.call 62 [TT 74]), OA 76 (.un .not (TT 75)), MM 77 76, FG 78 5 1 77 false, LG 79 3 78 77 false, OC 80 (.call 84 [TT 79]) 77
 false, OC 81 (.un .not (TT 80)) 77 false, OA 82 (.pick (TT 77) (.const (.bool true)) (TT 81)), MM 83 82, FG 84 5 1 83 false, LG 85 3 84 83 false, OC 86 (.call 15 [TT 85]) 83 false, OC 87 (.bin .lss (TT 86) (II 0)) 83 false, OA
 88 (.pick (TT 83) (.const (.bool true)) (TT 87))]) (.cond (TT 88) (.seq (.reg [OA 2 (.mv (II 1))]) .ret) .skip)) (.seq (.reg [OA 2 (.mv (II 0))]) .ret)))))))⟩
theorem a8t : a0r eff Tryz.prog Tryz.f23 = some a2k := by kernel_rfl
theorem a8p : Tryz.prog.funcs[23]? = some Tryz.f23 := Tryz.func23
def H8 (b : UInt8) : Bool := decide (97 <= b.toNat) && decide (b.toNat <= 122)
theorem a9o {s : List UInt8} {i : Nat} (hi : i < s.length) (h : H8 s[i] = false) : a0u s = false := by
 unfold a0u
 have : (s.all fun b => decide (97 <= b.toNat) && decide (b.toNat <= 122)) = false := by
  rw [List.all_eq_false]
  exact ⟨s[i], c1N hi, by unfold H8 at h; rw [h]; decide⟩
 rw [this]
 rfl
theorem b0F {s : List UInt8} (h : ∀ j (h : j < s.length), H8 s[j] = true) : a0u s = (decide (1 <= s.length) && decide (s.length <= 12)) := by
 unfold a0u
 have : (s.all fun b => decide (97 <= b.toNat) && decide (b.toNat <= 122)) = true := by
  rw [List.all_eq_true]
  intro x hx
  obtain ⟨j, hj, rfl⟩ := List.mem_iff_getElem.1 hx
  exact h j hj
 rw [this, Bool.true_and]
theorem b6z (s : List UInt8) (hs : s.length <= 1099511627776) : u6 Tryz.prog 198 [sb s] (.v (.bool (a0u s))) := by
  refine kS Tryz.func198 (by cbv) (by rfl) fun w O => ?_
  simp only [j6, sb]
  (repeat first | refine uA ?_ | (refine uK ?_ ?_; focus first | omega | (intros; simp_all <;> omega)) | simp (disch := omega) only [go_sem, Nat.reduceBEq, Nat.reduceAdd, ww, w9])
  refine S.loop (X := Nat) (fun i => ⟨[(0, sb s), (5, ints s.length), (6, ints i)], []⟩) (fun i => i <= s.length /\ ∀ j (h : j < s.length), j < i -> H8 s[j] = true) (fun i => s.length - i) 0 ⟨c1H _, fun _ _ h => absurd h (Nat.not_lt_zero _)⟩ (by (repeat first | refine uA ?_ | (refine ⟨?_, ?_⟩; focus first | rfl | simp [slot]) | rfl | simp)) ?_
  rintro i ⟨hi, hg⟩
  simp only [sb, ints]
  (repeat first | refine uA ?_ | (refine uK ?_ ?_; focus first | omega | (intros; simp_all <;> omega)) | simp (disch := omega) only [go_sem, Nat.reduceBEq, Nat.reduceAdd, ww])
  (refine uJ rfl (fun hc => ?_) fun hc => ?_)
  · have hi' : i < s.length := by omega
    have hgi : s.getD i 0 = s[i] := by rw [c1O, c1x hi']; rfl
    (repeat first | refine uA ?_ | (refine uK ?_ ?_; focus first | omega | (intros; simp_all <;> omega)) | simp (disch := omega) only [go_sem, Nat.reduceBEq, Nat.reduceAdd, ww, w9, O8, hgi, c1B])
    refine S.cond rfl (fun hc => ?_) (fun hc => ?_)
    · have hl : H8 s[i] = false := by
        unfold H8
        simp only [c1X, c1D] at hc
        rw [Bool.and_eq_false_iff, c1E, c1E]
        omega
      rw [a9o hi' hl]
      (repeat first | refine uA ?_ | (refine uK ?_ ?_; focus first | omega | (intros; simp_all <;> omega)) | simp (disch := omega) only [go_sem, Nat.reduceBEq, Nat.reduceAdd, ww])
      exact S.done (d9.out rfl (Imp.refl rfl) rfl)
    · have hl : H8 s[i] = true := by
        unfold H8
        simp only [c1L, c1E] at hc
        rw [c1J, c1D, c1D]
        omega
      (repeat first | refine uA ?_ | (refine uK ?_ ?_; focus first | omega | (intros; simp_all <;> omega)) | simp (disch := omega) only [go_sem, Nat.reduceBEq, Nat.reduceAdd, ww])
      refine S.next (i + 1) ⟨by omega, fun j h hj => ?_⟩ (by omega) (by (repeat first | refine uA ?_ | (refine ⟨?_, ?_⟩; focus first | rfl | simp [slot]) | rfl | simp))
      rcases c1V j i with h1 | h1
      · exact hg j h h1
      · have : j = i := by omega
        subst this
        exact hl
  · have hi' : i = s.length := by omega
    subst hi'
    have e1 : decide ((1 : Int) <= (s.length : Int)) = decide (1 <= s.length) := decide_eq_decide.2 (by omega)
    have e2 : decide ((s.length : Int) <= 12) = decide (s.length <= 12) := decide_eq_decide.2 (by omega)
    rw [b0F fun j h => hg j h h]
    (repeat first | refine uA ?_ | (refine uK ?_ ?_; focus first | omega | (intros; simp_all <;> omega)) | simp (disch := omega) only [go_sem, Nat.reduceBEq, Nat.reduceAdd, ww, w9, e1, e2])
    (try simp only [e1, e2, go_sem])
    exact S.done (d9.out rfl (Imp.refl rfl) rfl)
theorem b8w (s : List UInt8) (hs : s.length <= 1099511627776) : u6 Tryz.prog 19 [sb s] (.v (.bool (a0u s))) := by
  refine kS Tryz.func19 (by cbv) (by rfl) fun w O => ?_
  simp only [j6, sb]
  (repeat first | refine uA ?_ | (refine uK ?_ ?_; focus first | omega | (intros; simp_all <;> omega)) | simp (disch := omega) only [go_sem, Nat.reduceBEq, Nat.reduceAdd, ww, w9])
  refine S.loop (X := Nat) (fun i => ⟨[(0, sb s), (5, ints s.length), (6, ints i)], []⟩) (fun i => i <= s.length /\ ∀ j (h : j < s.length), j < i -> H8 s[j] = true) (fun i => s.length - i) 0 ⟨c1H _, fun _ _ h => absurd h (Nat.not_lt_zero _)⟩ (by (repeat first | refine uA ?_ | (refine ⟨?_, ?_⟩; focus first | rfl | simp [slot]) | rfl | simp)) ?_
  rintro i ⟨hi, hg⟩
  simp only [sb, ints]
  (repeat first | refine uA ?_ | (refine uK ?_ ?_; focus first | omega | (intros; simp_all <;> omega)) | simp (disch := omega) only [go_sem, Nat.reduceBEq, Nat.reduceAdd, ww])
  (refine uJ rfl (fun hc => ?_) fun hc => ?_)
  · have hi' : i < s.length := by omega
    have hgi : s.getD i 0 = s[i] := by rw [c1O, c1x hi']; rfl
    (repeat first | refine uA ?_ | (refine uK ?_ ?_; focus first | omega | (intros; simp_all <;> omega)) | simp (disch := omega) only [go_sem, Nat.reduceBEq, Nat.reduceAdd, ww, w9, O8, hgi, c1B])
    refine S.cond rfl (fun hc => ?_) (fun hc => ?_)
    · have hl : H8 s[i] = false := by
        unfold H8
        simp only [c1X, c1D] at hc
        rw [Bool.and_eq_false_iff, c1E, c1E]
        omega
      rw [a9o hi' hl]
      (repeat first | refine uA ?_ | (refine uK ?_ ?_; focus first | omega | (intros; simp_all <;> omega)) | simp (disch := omega) only [go_sem, Nat.reduceBEq, Nat.reduceAdd, ww])
      exact S.done (d9.out rfl (Imp.refl rfl) rfl)
    · have hl : H8 s[i] = true := by
        unfold H8
        simp only [c1L, c1E] at hc
        rw [c1J, c1D, c1D]
        omega
      (repeat first | refine uA ?_ | (refine uK ?_ ?_; focus first | omega | (intros; simp_all <;> omega)) | simp (disch := omega) only [go_sem, Nat.reduceBEq, Nat.reduceAdd, ww])
      refine S.next (i + 1) ⟨by omega, fun j h hj => ?_⟩ (by omega) (by (repeat first | refine uA ?_ | (refine ⟨?_, ?_⟩; focus first | rfl | simp [slot]) | rfl | simp))
      rcases c1V j i with h1 | h1
      · exact hg j h h1
      · have : j = i := by omega
        subst this
        exact hl
  · have hi' : i = s.length := by omega
    subst hi'
    have e1 : decide ((1 : Int) <= (s.length : Int)) = decide (1 <= s.length) := decide_eq_decide.2 (by omega)
    have e2 : decide ((s.length : Int) <= 12) = decide (s.length <= 12) := decide_eq_decide.2 (by omega)
    rw [b0F fun j h => hg j h h]
    (repeat first | refine uA ?_ | (refine uK ?_ ?_; focus first | omega | (intros; simp_all <;> omega)) | simp (disch := omega) only [go_sem, Nat.reduceBEq, Nat.reduceAdd, ww, w9, e1, e2])
    (try simp only [e1, e2, go_sem])
    exact S.done (d9.out rfl (Imp.refl rfl) rfl)
theorem a7k (l : List Nm.Rt) (hl : Rbs 17179869184 l) : FZ 199 [rts l] (.v (.bool (l.all j4))) := by
  refine kW Tryz.func199 (by cbv) (by rfl) fun w O hw => ?_
  obtain ⟨hn, hb⟩ := hl
  simp only [j6, rts]
  (repeat first | refine uA ?_ | (refine uK ?_ ?_; focus first | omega | (intros; simp_all <;> omega)) | simp (disch := omega) only [go_sem, Nat.reduceBEq, Nat.reduceAdd, ww, c1y])
  refine S.loop (X := Nat) (fun i => ⟨[(5, rts l), (6, ints l.length), (7, ints i)], []⟩) (fun i => i <= l.length /\ l.all j4 = (l.drop i).all j4) (fun i => l.length - i) 0 ⟨c1H _, rfl⟩ (by (repeat first | refine uA ?_ | (refine ⟨?_, ?_⟩; focus first | rfl | simp [slot]) | rfl | simp)) ?_
  rintro i ⟨hi, hg⟩
  simp only [rts, ints]
  (repeat first | refine uA ?_ | (refine uK ?_ ?_; focus first | omega | (intros; simp_all <;> omega)) | simp (disch := omega) only [go_sem, Nat.reduceBEq, Nat.reduceAdd, ww])
  (refine uJ rfl (fun hc => ?_) fun hc => ?_)
  · have hi' : i < l.length := by omega
    have hgi := c1x hi'
    generalize l[i] = x at hgi
    have hd := drop_at hgi
    have hs := a2u x (hb x (c1A hgi))
    simp only [rc] at hs
    simp only [sb] at hs
    (repeat first | refine uA ?_ | (refine uK ?_ ?_; focus first | omega | (intros; simp_all <;> omega)) | simp (disch := omega) only [go_sem, Nat.reduceBEq, Nat.reduceAdd, ww, hgi, c1z, c1y, rcs, sb] | (refine uD hs ?_ ?_ ?_; exact tz hw; exact rfl))
    refine S.cond rfl (fun hc => ?_) (fun hc => ?_)
    · have : l.all j4 = false := by
        rw [hg, hd, List.all_cons]
        simp only [Bool.not_eq_true'] at hc
        rw [hc]; rfl
      rw [this]
      (repeat first | refine uA ?_ | (refine uK ?_ ?_; focus first | omega | (intros; simp_all <;> omega)) | simp (disch := omega) only [go_sem, Nat.reduceBEq, Nat.reduceAdd, ww])
      exact S.done (d9.out rfl (Imp.refl rfl) rfl)
    · (repeat first | refine uA ?_ | (refine uK ?_ ?_; focus first | omega | (intros; simp_all <;> omega)) | simp (disch := omega) only [go_sem, Nat.reduceBEq, Nat.reduceAdd, ww])
      refine S.next (i + 1) ⟨by omega, ?_⟩ (by omega) (by (repeat first | refine uA ?_ | (refine ⟨?_, ?_⟩; focus first | rfl | simp [slot]) | rfl | simp))
      rw [hg, hd, List.all_cons]
      simp only [Bool.not_eq_false'] at hc
      rw [hc]; rfl
  · have : l.all j4 = true := by rw [hg, List.drop_eq_nil_of_le (by omega)]; rfl
    rw [this]
    (repeat first | refine uA ?_ | (refine uK ?_ ?_; focus first | omega | (intros; simp_all <;> omega)) | simp (disch := omega) only [go_sem, Nat.reduceBEq, Nat.reduceAdd, ww])
    exact S.done (d9.out rfl (Imp.refl rfl) rfl)
namespace Eng
def frS (fr : List (Nat × C)) : List (Nat × C) -> Prop
 | [] => True
 | (t, s) :: r => (s = .junk \/ slot fr t = s) /\ frS fr r
theorem b0n {fr : List (Nat × C)} : ∀ {fr' : List (Nat × C)}, frS fr fr' -> ∀ t, slot fr' t = .junk \/ slot fr t = slot fr' t
 | [], _, t => .inl rfl
 | (u, s) :: r, h, t => by
  simp only [slot]
  cases hb : (u == t) with
  | true =>
   have : u = t := by simpa using hb
   subst this
   exact h.1
  | false => exact b0n h.2 t
theorem Ent.fr {E : Ctx} {fr fr' : List (Nat × C)} {rs rs' : List Res} (h : rs = rs') (hf : frS fr fr') : Ent E ⟨fr, rs⟩ ⟨fr', rs'⟩ := by
 subst h
 intro wf ν a w hG
 refine ⟨ν, hG.dfr, hG.size, fun t => ?_, hG.rg, hG.frm, hG.nu⟩
 rcases b0n hf t with e | e
 ·rw [e]; simp only [Den]
 ·rw [<- e]; exact hG.fr t
end Eng
def a1r {α : Type} (p : α -> Bool) (l : List α) : Int := match l.findIdx? p with | some i => i | none => -1
theorem a3C {α : Type} {p : α -> Bool} {l : List α} {i : Nat} {x : α} (h : l[i]? = some x) (hp : p x = true) (hm : ∀ j, j < i -> ∀ y, l[j]? = some y -> p y = false) : a1r p l = i := by
 obtain ⟨hi, rfl⟩ := c1F.1 h
 have : l.findIdx? p = some i := by
  rw [List.findIdx?_eq_some_iff_getElem]
  refine ⟨hi, hp, fun j hj => ?_⟩
  simp [hm j hj l[j] (c1x _)]
 unfold a1r
 rw [this]
theorem a2M {α : Type} {p : α -> Bool} {l : List α} (hm : ∀ j, j < l.length -> ∀ y, l[j]? = some y -> p y = false) : a1r p l = -1 := by
 have : l.findIdx? p = none := by
  rw [List.findIdx?_eq_none_iff]
  intro x hx
  obtain ⟨j, hj⟩ := List.mem_iff_getElem?.1 hx
  exact hm j (c1F.1 hj).1 x hj
 unfold a1r
 rw [this]
theorem a3u {α : Type} (p : α -> Bool) (l : List α) : decide (0 <= a1r p l) = l.any p := by
 unfold a1r
 cases h : l.findIdx? p with
 | none =>
  rw [List.findIdx?_eq_none_iff] at h
  have : l.any p = false := by rw [List.any_eq_false]; intro x hx; simp [h x hx]
  rw [this]; rfl
 | some i =>
  rw [List.findIdx?_eq_some_iff_getElem] at h
  obtain ⟨h1, h2, _⟩ := h
  have : l.any p = true := by rw [List.any_eq_true]; exact ⟨_, c1N h1, h2⟩
  rw [this]
  exact decide_eq_true (show (0 : Int) <= (i : Int) by omega)
theorem b7n (g : Nat) (hcal : callable Tryz.prog g = true) (p : Vt -> Bool) (l : List Vt) (hn : l.length <= 1099511627776) (hg : ∀ x ∈ l, FZ g [x.c] (.v (.bool (p x)))) :
  FZ 210 [vts l, .v (.func (.func g) #[] #[])] (ints (a1r p l)) := by
 refine kW Tryz.func210 (by cbv) (by rfl) fun w O hw => ?_
 simp only [j6, vts]
 (repeat first | refine uA ?_ | (refine uK ?_ ?_; focus first | omega | (intros; simp_all <;> omega)) | simp (disch := omega) only [go_sem, Nat.reduceBEq, Nat.reduceAdd, ww, c1y])
 refine S.loop (X := Nat) (fun i => ⟨[(0, vts l), (1, .v (.func (.func g) #[] #[])), (7, ints l.length), (8, ints i)], []⟩) (fun i => i <= l.length /\ ∀ j, j < i -> ∀ x, l[j]? = some x -> p x = false) (fun i => l.length - i) 0 ⟨c1H _, fun _ h => absurd h (Nat.not_lt_zero _)⟩ (by (repeat first | refine uA ?_ | (refine ⟨?_, ?_⟩; focus first | rfl | simp [slot]) | rfl | simp)) ?_
 rintro i ⟨hi, hm⟩
 simp only [vts, ints]
 (repeat first | refine uA ?_ | (refine uK ?_ ?_; focus first | omega | (intros; simp_all <;> omega)) | simp (disch := omega) only [go_sem, Nat.reduceBEq, Nat.reduceAdd, ww])
 (refine uJ rfl (fun hc => ?_) fun hc => ?_)
 ·have hi' : i < l.length := by omega
  have hgi := c1x hi'
  generalize l[i] = x at hgi
  have hs := hg x (c1A hgi)
  simp only [Vt.c, Vt.enc, sb] at hs
  (repeat first | refine uA ?_ | (refine uK ?_ ?_; focus first | omega | (intros; simp_all <;> omega)) | simp (disch := omega) only [go_sem, Nat.reduceBEq, Nat.reduceAdd, ww, hgi, c1z, c1y, Vt.c, Vt.enc, sb, c1B, hcal] | (refine uD hs ?_ ?_ ?_; exact tz hw; exact rfl))
  refine S.cond rfl (fun hc2 => ?_) (fun hc2 => ?_)
  ·rw [a3C hgi hc2 hm]
   (repeat first | refine uA ?_ | (refine uK ?_ ?_; focus first | omega | (intros; simp_all <;> omega)) | simp (disch := omega) only [go_sem, Nat.reduceBEq, Nat.reduceAdd, ww])
   exact S.done (d9.out rfl (Imp.refl rfl) rfl)
  ·(repeat first | refine uA ?_ | (refine uK ?_ ?_; focus first | omega | (intros; simp_all <;> omega)) | simp (disch := omega) only [go_sem, Nat.reduceBEq, Nat.reduceAdd, ww])
   refine S.next (i + 1) ⟨by omega, fun j hj y hy => ?_⟩ (by omega) (by (repeat first | refine uA ?_ | (refine ⟨?_, ?_⟩; focus first | rfl | simp [slot]) | rfl | simp))
   rcases c1V j i with h1 | h1
   ·exact hm j h1 y hy
   ·have : j = i := by omega
    subst this
    rw [hgi] at hy
    cases hy
    exact hc2
 ·have hi' : i = l.length := by omega
  subst hi'
  rw [a2M hm]
  (repeat first | refine uA ?_ | (refine uK ?_ ?_; focus first | omega | (intros; simp_all <;> omega)) | simp (disch := omega) only [go_sem, Nat.reduceBEq, Nat.reduceAdd, ww])
  exact S.done (d9.out rfl (Imp.refl rfl) rfl)
theorem b1e (g : Nat) (hcal : callable Tryz.prog g = true) (p : Vt -> Bool) (l : List Vt) (hn : l.length <= 1099511627776) (hg : ∀ x ∈ l, FZ g [x.c] (.v (.bool (p x)))) :
  FZ 137 [vts l, .v (.func (.func g) #[] #[])] (.v (.bool (l.any p))) := by
 refine kW Tryz.func137 (by cbv) (by rfl) fun w O hw => ?_
 have h := b7n g hcal p l hn hg
 have e := a3u p l
 generalize a1r p l = n at *
 simp only [j6]
 simp only [vts, ints] at *
 (repeat first | refine uA ?_ | (refine uK ?_ ?_; focus first | omega | (intros; simp_all <;> omega)) | simp (disch := omega) only [go_sem, Nat.reduceBEq, Nat.reduceAdd, ww] | (refine uD h ?_ ?_ ?_; exact tz hw; exact rfl))
 rw [e]
 exact S.done (d9.out rfl (Imp.refl rfl) rfl)
theorem b7p (g : Nat) (hcal : callable Tryz.prog g = true) (p : Nm.Rt -> Bool) (l : List Nm.Rt) (hn : l.length <= 1099511627776) (hg : ∀ x ∈ l, FZ g [rc x] (.v (.bool (p x)))) :
  FZ 152 [rts l, .v (.func (.func g) #[] #[])] (ints (a1r p l)) := by
 refine kW Tryz.func152 (by cbv) (by rfl) fun w O hw => ?_
 simp only [j6, rts]
 (repeat first | refine uA ?_ | (refine uK ?_ ?_; focus first | omega | (intros; simp_all <;> omega)) | simp (disch := omega) only [go_sem, Nat.reduceBEq, Nat.reduceAdd, ww, c1y])
 refine S.loop (X := Nat) (fun i => ⟨[(0, rts l), (1, .v (.func (.func g) #[] #[])), (7, ints l.length), (8, ints i)], []⟩) (fun i => i <= l.length /\ ∀ j, j < i -> ∀ x, l[j]? = some x -> p x = false) (fun i => l.length - i) 0 ⟨c1H _, fun _ h => absurd h (Nat.not_lt_zero _)⟩ (by (repeat first | refine uA ?_ | (refine ⟨?_, ?_⟩; focus first | rfl | simp [slot]) | rfl | simp)) ?_
 rintro i ⟨hi, hm⟩
 simp only [rts, ints]
 (repeat first | refine uA ?_ | (refine uK ?_ ?_; focus first | omega | (intros; simp_all <;> omega)) | simp (disch := omega) only [go_sem, Nat.reduceBEq, Nat.reduceAdd, ww])
 (refine uJ rfl (fun hc => ?_) fun hc => ?_)
 ·have hi' : i < l.length := by omega
  have hgi := c1x hi'
  generalize l[i] = x at hgi
  have hs := hg x (c1A hgi)
  simp only [rc, rcs, sb] at hs
  (repeat first | refine uA ?_ | (refine uK ?_ ?_; focus first | omega | (intros; simp_all <;> omega)) | simp (disch := omega) only [go_sem, Nat.reduceBEq, Nat.reduceAdd, ww, hgi, c1z, c1y, rc, rcs, sb, c1B, hcal] | (refine uD hs ?_ ?_ ?_; exact tz hw; exact rfl))
  refine S.cond rfl (fun hc2 => ?_) (fun hc2 => ?_)
  ·rw [a3C hgi hc2 hm]
   (repeat first | refine uA ?_ | (refine uK ?_ ?_; focus first | omega | (intros; simp_all <;> omega)) | simp (disch := omega) only [go_sem, Nat.reduceBEq, Nat.reduceAdd, ww])
   exact S.done (d9.out rfl (Imp.refl rfl) rfl)
  ·(repeat first | refine uA ?_ | (refine uK ?_ ?_; focus first | omega | (intros; simp_all <;> omega)) | simp (disch := omega) only [go_sem, Nat.reduceBEq, Nat.reduceAdd, ww])
   refine S.next (i + 1) ⟨by omega, fun j hj y hy => ?_⟩ (by omega) (by (repeat first | refine uA ?_ | (refine ⟨?_, ?_⟩; focus first | rfl | simp [slot]) | rfl | simp))
   rcases c1V j i with h1 | h1
   ·exact hm j h1 y hy
   ·have : j = i := by omega
    subst this
    rw [hgi] at hy
    cases hy
    exact hc2
 ·have hi' : i = l.length := by omega
  subst hi'
  rw [a2M hm]
  (repeat first | refine uA ?_ | (refine uK ?_ ?_; focus first | omega | (intros; simp_all <;> omega)) | simp (disch := omega) only [go_sem, Nat.reduceBEq, Nat.reduceAdd, ww])
  exact S.done (d9.out rfl (Imp.refl rfl) rfl)
theorem a7m (g : Nat) (hcal : callable Tryz.prog g = true) (p : Nm.Rt -> Bool) (l : List Nm.Rt) (hn : l.length <= 1099511627776) (hg : ∀ x ∈ l, FZ g [rc x] (.v (.bool (p x)))) :
  FZ 44 [rts l, .v (.func (.func g) #[] #[])] (.v (.bool (l.any p))) := by
 refine kW Tryz.func44 (by cbv) (by rfl) fun w O hw => ?_
 have h := b7p g hcal p l hn hg
 have e := a3u p l
 generalize a1r p l = n at *
 simp only [j6]
 simp only [rts, ints] at *
 (repeat first | refine uA ?_ | (refine uK ?_ ?_; focus first | omega | (intros; simp_all <;> omega)) | simp (disch := omega) only [go_sem, Nat.reduceBEq, Nat.reduceAdd, ww] | (refine uD h ?_ ?_ ?_; exact tz hw; exact rfl))
 rw [e]
 exact S.done (d9.out rfl (Imp.refl rfl) rfl)
theorem b3y (g : Nat) (hcal : callable Tryz.prog g = true) (p : Fr -> Bool) (l : List Fr) (hn : l.length <= 1099511627776) (hg : ∀ x ∈ l, FZ g [x.c] (.v (.bool (p x)))) :
  FZ 209 [frs l, .v (.func (.func g) #[] #[])] (ints (a1r p l)) := by
 refine kW Tryz.func209 (by cbv) (by rfl) fun w O hw => ?_
 simp only [j6, frs]
 (repeat first | refine uA ?_ | (refine uK ?_ ?_; focus first | omega | (intros; simp_all <;> omega)) | simp (disch := omega) only [go_sem, Nat.reduceBEq, Nat.reduceAdd, ww, c1y])
 refine S.loop (X := Nat) (fun i => ⟨[(0, frs l), (1, .v (.func (.func g) #[] #[])), (7, ints l.length), (8, ints i)], []⟩) (fun i => i <= l.length /\ ∀ j, j < i -> ∀ x, l[j]? = some x -> p x = false) (fun i => l.length - i) 0 ⟨c1H _, fun _ h => absurd h (Nat.not_lt_zero _)⟩ (by (repeat first | refine uA ?_ | (refine ⟨?_, ?_⟩; focus first | rfl | simp [slot]) | rfl | simp)) ?_
 rintro i ⟨hi, hm⟩
 simp only [frs, ints]
 (repeat first | refine uA ?_ | (refine uK ?_ ?_; focus first | omega | (intros; simp_all <;> omega)) | simp (disch := omega) only [go_sem, Nat.reduceBEq, Nat.reduceAdd, ww])
 (refine uJ rfl (fun hc => ?_) fun hc => ?_)
 ·have hi' : i < l.length := by omega
  have hgi := c1x hi'
  generalize l[i] = x at hgi
  have hs := hg x (c1A hgi)
  simp only [Fr.c, Fr.enc, sb] at hs
  (repeat first | refine uA ?_ | (refine uK ?_ ?_; focus first | omega | (intros; simp_all <;> omega)) | simp (disch := omega) only [go_sem, Nat.reduceBEq, Nat.reduceAdd, ww, hgi, c1z, c1y, Fr.c, Fr.enc, sb, c1B, hcal] | (refine uD hs ?_ ?_ ?_; exact tz hw; exact rfl))
  refine S.cond rfl (fun hc2 => ?_) (fun hc2 => ?_)
  ·rw [a3C hgi hc2 hm]
   (repeat first | refine uA ?_ | (refine uK ?_ ?_; focus first | omega | (intros; simp_all <;> omega)) | simp (disch := omega) only [go_sem, Nat.reduceBEq, Nat.reduceAdd, ww])
   exact S.done (d9.out rfl (Imp.refl rfl) rfl)
  ·(repeat first | refine uA ?_ | (refine uK ?_ ?_; focus first | omega | (intros; simp_all <;> omega)) | simp (disch := omega) only [go_sem, Nat.reduceBEq, Nat.reduceAdd, ww])
   refine S.next (i + 1) ⟨by omega, fun j hj y hy => ?_⟩ (by omega) (by (repeat first | refine uA ?_ | (refine ⟨?_, ?_⟩; focus first | rfl | simp [slot]) | rfl | simp))
   rcases c1V j i with h1 | h1
   ·exact hm j h1 y hy
   ·have : j = i := by omega
    subst this
    rw [hgi] at hy
    cases hy
    exact hc2
 ·have hi' : i = l.length := by omega
  subst hi'
  rw [a2M hm]
  (repeat first | refine uA ?_ | (refine uK ?_ ?_; focus first | omega | (intros; simp_all <;> omega)) | simp (disch := omega) only [go_sem, Nat.reduceBEq, Nat.reduceAdd, ww])
  exact S.done (d9.out rfl (Imp.refl rfl) rfl)
theorem b3Z (g : Nat) (hcal : callable Tryz.prog g = true) (p : Fr -> Bool) (l : List Fr) (hn : l.length <= 1099511627776) (hg : ∀ x ∈ l, FZ g [x.c] (.v (.bool (p x)))) :
  FZ 134 [frs l, .v (.func (.func g) #[] #[])] (.v (.bool (l.any p))) := by
 refine kW Tryz.func134 (by cbv) (by rfl) fun w O hw => ?_
 have h := b3y g hcal p l hn hg
 have e := a3u p l
 generalize a1r p l = n at *
 simp only [j6]
 simp only [frs, ints] at *
 (repeat first | refine uA ?_ | (refine uK ?_ ?_; focus first | omega | (intros; simp_all <;> omega)) | simp (disch := omega) only [go_sem, Nat.reduceBEq, Nat.reduceAdd, ww] | (refine uD h ?_ ?_ ?_; exact tz hw; exact rfl))
 rw [e]
 exact S.done (d9.out rfl (Imp.refl rfl) rfl)
set_option maxHeartbeats 8000000
theorem b6C {α : Type} (p : α -> Bool) (a b c d e : α) : [a, b, c, d, e].all p = (p a && p b && p c && p d && p e) := by simp [Bool.and_assoc]
theorem a4j {α : Type} (p : α -> Bool) (a b c : α) : [a, b, c].all p = (p a && p b && p c) := by simp [Bool.and_assoc]
theorem a4N {α : Type} (p : α -> Bool) (a b : α) : [a, b].all p = (p a && p b) := by simp
theorem Rbs.five {k : Nat} {a b c d e : Nm.Rt} (h : 5 <= k) (h1 : Rb k a) (h2 : Rb k b) (h3 : Rb k c) (h4 : Rb k d) (h5 : Rb k e) : Rbs k [a, b, c, d, e] := ⟨h, fun x hx => by simp at hx; rcases hx with rfl | rfl | rfl | rfl | rfl <;> assumption⟩
theorem Rbs.three {k : Nat} {a b c : Nm.Rt} (h : 3 <= k) (h1 : Rb k a) (h2 : Rb k b) (h3 : Rb k c) : Rbs k [a, b, c] := ⟨h, fun x hx => by simp at hx; rcases hx with rfl | rfl | rfl <;> assumption⟩
theorem Rbs.two {k : Nat} {a b : Nm.Rt} (h : 2 <= k) (h1 : Rb k a) (h2 : Rb k b) : Rbs k [a, b] := ⟨h, fun x hx => by simp at hx; rcases hx with rfl | rfl <;> assumption⟩
theorem b8L (l : Lk) (hl : Lb 1073741824 l) : FZ 200 [l.c] (ints (V3 l)) := by
  refine kW Tryz.func200 (by cbv) (by rfl) fun w O hw => ?_
  obtain ⟨length, low, high, speed, brake, shape⟩ := l
  obtain ⟨b1, b2, b3, b4, b5, b6⟩ := hl
  simp only at b1 b2 b3 b4 b5 b6
  have c1 := b1.mono (m := 17179869184) (by decide)
  have c2 := b2.mono (m := 17179869184) (by decide)
  have c3 := b3.mono (m := 17179869184) (by decide)
  have c4 := b4.mono (m := 17179869184) (by decide)
  have c5 := b5.mono (m := 17179869184) (by decide)
  have hsm := a7k _ (Rbs.five (by decide) c1 c2 c3 c4 c5)
  rw [b6C] at hsm
  have hs1 := K8 length c1
  have hcm := N8 low high c2 c3
  have hs2 := K8 speed c4
  have hs3 := K8 brake c5
  have hp := a4v shape b6
  have hv := fun (v : Vt) (h : v ∈ shape) => a7k _ (Rbs.two (by decide) ((b6.2 v h).1.mono (m := 17179869184) (by decide)) ((b6.2 v h).2.mono (m := 17179869184) (by decide)))
  have hn := b6.1
  unfold V3
  simp only
  generalize (j4 length && j4 low && j4 high && j4 speed && j4 brake) = q at *
  generalize r9 (Nm.j3 length) = n1 at *
  generalize Nm.q8 (Nm.j3 low) (Nm.j3 high) = n2 at *
  generalize r9 (Nm.j3 speed) = n3 at *
  generalize r9 (Nm.j3 brake) = n4 at *
  generalize U7 shape 8 = n5 at *
  simp only [j6]
  simp only [Lk.c, Lk.enc, rc, rts, rcs, vts, sb, ints, c1R, c2d] at *
  (repeat first | refine uG hs1 ?_ | refine uG hcm ?_ | refine uG hsm ?_ | refine uA ?_ | (refine uK ?_ ?_; focus first | omega | (intros; simp_all <;> omega)) | simp (disch := omega) only [go_sem, Nat.reduceBEq, Nat.reduceAdd, ww] | (refine uD hs1 ?_ ?_ ?_; exact tz hw; exact rfl) | (refine uD hcm ?_ ?_ ?_; exact tz hw; exact rfl) | (refine uE hsm ?_ ?_ ?_ ?_; exact tz hw; exact rfl; focus (repeat' first | exact j5.nil | exact Imp.refl rfl | exact Imp.frz rfl rfl rfl | (refine Imp.M5 rfl rfl ?_ ?_; (focus ((try simp only [c1C]); omega)); (focus first | rfl | assumption)) | refine j5.cons ?_ ?_); done))
  refine S.cond rfl (fun hc => ?_) (fun hc => ?_)
  · rw [if_pos (by simp only [c1X, Bool.not_eq_true', c1D] at hc; rcases hc with (hc | hc) | hc <;> simp [hc])]
    (repeat first | refine uA ?_ | (refine uK ?_ ?_; focus first | omega | (intros; simp_all <;> omega)) | simp (disch := omega) only [go_sem, Nat.reduceBEq, Nat.reduceAdd, ww])
    exact S.done (d9.out rfl (Imp.refl rfl) rfl)
  rw [if_neg (by simp only [c1L, Bool.not_eq_false', c1E] at hc; simp [hc])]
  (repeat first | refine uG hs2 ?_ | refine uG hs3 ?_ | refine uA ?_ | (refine uK ?_ ?_; focus first | omega | (intros; simp_all <;> omega)) | simp (disch := omega) only [go_sem, Nat.reduceBEq, Nat.reduceAdd, ww] | (refine uD hs2 ?_ ?_ ?_; exact tz hw; exact rfl) | (refine uD hs3 ?_ ?_ ?_; exact tz hw; exact rfl))
  refine S.cond rfl (fun hc => ?_) (fun hc => ?_)
  · rw [if_pos (by simp only [c1X, c1D] at hc; exact hc)]
    (repeat first | refine uA ?_ | (refine uK ?_ ?_; focus first | omega | (intros; simp_all <;> omega)) | simp (disch := omega) only [go_sem, Nat.reduceBEq, Nat.reduceAdd, ww])
    exact S.done (d9.out rfl (Imp.refl rfl) rfl)
  rw [if_neg (by simp only [c1L, c1E] at hc; simp [hc])]
  (repeat first | refine uG hp ?_ | refine uA ?_ | (refine uK ?_ ?_; focus first | omega | (intros; simp_all <;> omega)) | simp (disch := omega) only [go_sem, Nat.reduceBEq, Nat.reduceAdd, ww] | (refine uD hp ?_ ?_ ?_; exact tz hw; exact rfl))
  refine S.cond rfl (fun hc => ?_) (fun hc => ?_)
  · rw [if_pos (by simpa using hc)]
    (repeat first | refine uA ?_ | (refine uK ?_ ?_; focus first | omega | (intros; simp_all <;> omega)) | simp (disch := omega) only [go_sem, Nat.reduceBEq, Nat.reduceAdd, ww])
    exact S.done (d9.out rfl (Imp.refl rfl) rfl)
  rw [if_neg (by simpa using hc)]
  (repeat first | refine uA ?_ | (refine uK ?_ ?_; focus first | omega | (intros; simp_all <;> omega)) | simp (disch := omega) only [go_sem, Nat.reduceBEq, Nat.reduceAdd, ww, c1y])
  refine S.loop (X := Nat) (fun i => ⟨[(50, vts shape), (51, ints shape.length), (52, ints i)], []⟩) (fun i => i <= shape.length /\ (shape.all fun v => j4 v.x && j4 v.y) = (shape.drop i).all fun v => j4 v.x && j4 v.y) (fun i => shape.length - i) 0 ⟨c1H _, rfl⟩ (by (repeat first | refine uA ?_ | (refine ⟨?_, ?_⟩; focus first | rfl | simp [slot]) | rfl | simp)) ?_
  rintro i ⟨hi, hg⟩
  simp only [vts, ints]
  (repeat first | refine uA ?_ | (refine uK ?_ ?_; focus first | omega | (intros; simp_all <;> omega)) | simp (disch := omega) only [go_sem, Nat.reduceBEq, Nat.reduceAdd, ww])
  (refine uJ rfl (fun hc => ?_) fun hc => ?_)
  · have hi' : i < shape.length := by omega
    have hgi := c1x hi'
    generalize shape[i] = x at hgi
    have hd := drop_at hgi
    have hs := hv x (c1A hgi)
    rw [a4N] at hs
    (repeat first | refine uG hs ?_ | refine uA ?_ | (refine uK ?_ ?_; focus first | omega | (intros; simp_all <;> omega)) | simp (disch := omega) only [go_sem, Nat.reduceBEq, Nat.reduceAdd, ww, hgi, c1z, c1y, Vt.enc, sb] | (refine uE hs ?_ ?_ ?_ ?_; exact tz hw; exact rfl; focus (repeat' first | exact j5.nil | exact Imp.refl rfl | exact Imp.frz rfl rfl rfl | (refine Imp.M5 rfl rfl ?_ ?_; (focus ((try simp only [c1C, hgi, c1z, c1y, Vt.enc, sb]); omega)); (focus first | rfl | assumption)) | refine j5.cons ?_ ?_); done))
    refine S.cond rfl (fun hc2 => ?_) (fun hc2 => ?_)
    · have : (shape.all fun v => j4 v.x && j4 v.y) = false := by
        rw [hg, hd, List.all_cons]
        simp only [Bool.not_eq_true'] at hc2
        rw [hc2]; rfl
      rw [this]
      (repeat first | refine uA ?_ | (refine uK ?_ ?_; focus first | omega | (intros; simp_all <;> omega)) | simp (disch := omega) only [go_sem, Nat.reduceBEq, Nat.reduceAdd, ww])
      exact S.done (d9.out rfl (Imp.refl rfl) rfl)
    · (repeat first | refine uA ?_ | (refine uK ?_ ?_; focus first | omega | (intros; simp_all <;> omega)) | simp (disch := omega) only [go_sem, Nat.reduceBEq, Nat.reduceAdd, ww])
      refine S.next (i + 1) ⟨by omega, ?_⟩ (by omega) (by (repeat first | refine uA ?_ | (refine ⟨?_, ?_⟩; focus first | rfl | simp [slot]) | rfl | simp))
      rw [hg, hd, List.all_cons]
      simp only [Bool.not_eq_false'] at hc2
      rw [hc2]; rfl
  · have : (shape.all fun v => j4 v.x && j4 v.y) = true := by rw [hg, List.drop_eq_nil_of_le (by omega)]; rfl
    rw [this]
    (repeat first | refine uA ?_ | (refine uK ?_ ?_; focus first | omega | (intros; simp_all <;> omega)) | simp (disch := omega) only [go_sem, Nat.reduceBEq, Nat.reduceAdd, ww])
    exact S.done (d9.out rfl (Imp.refl rfl) rfl)
theorem a7y (a : Am) (hl : Ab 1073741824 a) : FZ 87 [a.c] (ints (J6 a)) := by
 refine kW Tryz.func87 (by cbv) (by rfl) fun w O hw => ?_
 obtain ⟨name, ⟨x, y, half, t⟩, links⟩ := a
 obtain ⟨b0, ⟨b1, b2, b3⟩, hn, hb⟩ := hl
 simp only at b0 b1 b2 b3 hn hb
 have c1 := b1.mono (m := 17179869184) (by decide)
 have c2 := b2.mono (m := 17179869184) (by decide)
 have c3 := b3.mono (m := 17179869184) (by decide)
 have hnm := b6z name (by omega)
 have hsm := a7k _ (Rbs.three (by decide) c1 c2 c3)
 rw [a4j] at hsm
 have hs := K8 t c3
 unfold J6 a1R
 simp only
 generalize a0u name = q0 at *
 generalize (j4 x && j4 y && j4 t) = q at *
 generalize r9 (Nm.j3 t) = n1 at *
 simp only [j6]
 simp only [Am.c, Am.enc, rc, rts, rcs, lks, sb, ints, c1R, c2d] at *
 (repeat first | refine uF hnm ?_ | refine uA ?_ | (refine uK ?_ ?_; focus first | omega | (intros; simp_all <;> omega)) | simp (disch := omega) only [go_sem, Nat.reduceBEq, Nat.reduceAdd, ww] | (refine uB hnm ?_ ?_; exact rfl))
 refine S.cond rfl (fun hc => ?_) (fun hc => ?_)
 ·rw [if_pos (by simpa using hc)]
  (repeat first | refine uA ?_ | (refine uK ?_ ?_; focus first | omega | (intros; simp_all <;> omega)) | simp (disch := omega) only [go_sem, Nat.reduceBEq, Nat.reduceAdd, ww])
  exact S.done (d9.out rfl (Imp.refl rfl) rfl)
 rw [if_neg (by simpa using hc)]
 (repeat first | refine uA ?_ | (refine uK ?_ ?_; focus first | omega | (intros; simp_all <;> omega)) | simp (disch := omega) only [go_sem, Nat.reduceBEq, Nat.reduceAdd, ww, c1y])
 refine S.cond rfl (fun hc => ?_) (fun hc => ?_)
 ·rw [if_pos (by simp only [c1D] at hc; omega)]
  (repeat first | refine uA ?_ | (refine uK ?_ ?_; focus first | omega | (intros; simp_all <;> omega)) | simp (disch := omega) only [go_sem, Nat.reduceBEq, Nat.reduceAdd, ww])
  exact S.done (d9.out rfl (Imp.refl rfl) rfl)
 rw [if_neg (by simp only [c1E] at hc; omega)]
 by_cases h0 : links.length = 0
 ·rw [if_pos (.inl h0)]
  have e0 : decide ((links.length : Int) = 0) = true := decide_eq_true (by omega)
  (repeat first | refine uG hs ?_ | refine uG hsm ?_ | refine uA ?_ | (refine uK ?_ ?_; focus first | omega | (intros; simp_all <;> omega)) | simp (disch := omega) only [go_sem, Nat.reduceBEq, Nat.reduceAdd, ww, c1y, e0] | (refine uD hs ?_ ?_ ?_; exact tz hw; exact rfl) | (refine uE hsm ?_ ?_ ?_ ?_; exact tz hw; exact rfl; focus (repeat' first | exact j5.nil | exact Imp.refl rfl | exact Imp.frz rfl rfl rfl | (refine Imp.M5 rfl rfl ?_ ?_; (focus ((try simp only [c1C, c1y, e0]); omega)); (focus first | rfl | assumption)) | refine j5.cons ?_ ?_); done))
  refine S.cond rfl (fun _ => ?_) (fun hc => by simp at hc)
  (repeat first | refine uA ?_ | (refine uK ?_ ?_; focus first | omega | (intros; simp_all <;> omega)) | simp (disch := omega) only [go_sem, Nat.reduceBEq, Nat.reduceAdd, ww])
  exact S.done (d9.out rfl (Imp.refl rfl) rfl)
 have e0 : decide ((links.length : Int) = 0) = false := decide_eq_false (by omega)
 (repeat first | refine uG hs ?_ | refine uG hsm ?_ | refine uA ?_ | (refine uK ?_ ?_; focus first | omega | (intros; simp_all <;> omega)) | simp (disch := omega) only [go_sem, Nat.reduceBEq, Nat.reduceAdd, ww, c1y, e0] | (refine uD hs ?_ ?_ ?_; exact tz hw; exact rfl) | (refine uE hsm ?_ ?_ ?_ ?_; exact tz hw; exact rfl; focus (repeat' first | exact j5.nil | exact Imp.refl rfl | exact Imp.frz rfl rfl rfl | (refine Imp.M5 rfl rfl ?_ ?_; (focus ((try simp only [c1C, c1y, e0]); omega)); (focus first | rfl | assumption)) | refine j5.cons ?_ ?_); done))
 refine S.cond rfl (fun hc => ?_) (fun hc => ?_)
 ·rw [if_pos (by simp only [c1X, Bool.not_eq_true', c1D] at hc; rcases hc with hc | hc; (· exact .inr (.inl hc)); (· exact .inr (.inr (by cases half <;> simp_all))))]
  (repeat first | refine uA ?_ | (refine uK ?_ ?_; focus first | omega | (intros; simp_all <;> omega)) | simp (disch := omega) only [go_sem, Nat.reduceBEq, Nat.reduceAdd, ww])
  exact S.done (d9.out rfl (Imp.refl rfl) rfl)
 rw [if_neg (by simp only [c1L, Bool.not_eq_false', c1E] at hc; rintro (h | h | h); (· omega); (· simp_all); (· cases half <;> simp_all))]
 (repeat first | refine uA ?_ | (refine uK ?_ ?_; focus first | omega | (intros; simp_all <;> omega)) | simp (disch := omega) only [go_sem, Nat.reduceBEq, Nat.reduceAdd, ww, c1y])
 refine S.loop (X := Nat) (fun i => ⟨[(48, lks links), (49, ints links.length), (50, ints i)], []⟩) (fun i => i <= links.length /\ E5 V3 links = E5 V3 (links.drop i)) (fun i => links.length - i) 0 ⟨c1H _, rfl⟩ (by (repeat first | refine uA ?_ | (refine ⟨?_, ?_⟩; focus first | rfl | simp [slot]) | rfl | simp)) ?_
 rintro i ⟨hi, hg⟩
 simp only [lks, ints]
 (repeat first | refine uA ?_ | (refine uK ?_ ?_; focus first | omega | (intros; simp_all <;> omega)) | simp (disch := omega) only [go_sem, Nat.reduceBEq, Nat.reduceAdd, ww])
 (refine uJ rfl (fun hc => ?_) fun hc => ?_)
 ·have hi' : i < links.length := by omega
  have hgi := c1x hi'
  generalize links[i] = x at hgi
  have hst := a0i (f := V3) hgi
  have hnx := a0m (f := V3) hgi
  have hs := b8L x (hb x (c1A hgi))
  generalize V3 x = e at *
  simp only [Lk.c, Lk.enc, vts, sb, ints] at hs
  (repeat first | refine uG hs ?_ | refine uA ?_ | (refine uK ?_ ?_; focus first | omega | (intros; simp_all <;> omega)) | simp (disch := omega) only [go_sem, Nat.reduceBEq, Nat.reduceAdd, ww, hgi, c1z, c1y, Lk.enc, vts, sb] | (refine uD hs ?_ ?_ ?_; exact tz hw; exact rfl))
  refine S.cond rfl (fun hc2 => ?_) (fun hc2 => ?_)
  ·rw [hg, hst (by simpa using hc2)]
   (repeat first | refine uA ?_ | (refine uK ?_ ?_; focus first | omega | (intros; simp_all <;> omega)) | simp (disch := omega) only [go_sem, Nat.reduceBEq, Nat.reduceAdd, ww])
   exact S.done (d9.out rfl (Imp.refl rfl) rfl)
  ·(repeat first | refine uA ?_ | (refine uK ?_ ?_; focus first | omega | (intros; simp_all <;> omega)) | simp (disch := omega) only [go_sem, Nat.reduceBEq, Nat.reduceAdd, ww])
   refine S.next (i + 1) ⟨by omega, ?_⟩ (by omega) (by (repeat first | refine uA ?_ | (refine ⟨?_, ?_⟩; focus first | rfl | simp [slot]) | rfl | simp))
   rw [hg, hnx (by simpa using hc2)]
 ·rw [hg, a0G (by omega)]
  (repeat first | refine uA ?_ | (refine uK ?_ ?_; focus first | omega | (intros; simp_all <;> omega)) | simp (disch := omega) only [go_sem, Nat.reduceBEq, Nat.reduceAdd, ww])
  exact S.done (d9.out rfl (Imp.refl rfl) rfl)
def a3c (a : Am) (n : Int) : Int := if J6 a ≠ 0 then J6 a else if n ≠ a.links.length then 1 else 0
theorem b5C (a : Am) (n : Int) (hl : Ab 1073741824 a) : FZ 212 [a.c, ints n] (ints (a3c a n)) := by
 refine kW Tryz.func212 (by cbv) (by rfl) fun w O hw => ?_
 have h := a7y a hl
 unfold a3c
 generalize J6 a = e at *
 obtain ⟨name, ⟨x, y, half, t⟩, links⟩ := a
 simp only [j6]
 simp only [Am.c, Am.enc, lks, sb, ints] at *
 (repeat first | refine uA ?_ | (refine uK ?_ ?_; focus first | omega | (intros; simp_all <;> omega)) | simp (disch := omega) only [go_sem, Nat.reduceBEq, Nat.reduceAdd, ww] | (refine uD h ?_ ?_ ?_; exact tz hw; exact rfl))
 refine S.cond rfl (fun hc => ?_) (fun hc => ?_)
 ·rw [if_pos (by simpa using hc)]
  (repeat first | refine uA ?_ | (refine uK ?_ ?_; focus first | omega | (intros; simp_all <;> omega)) | simp (disch := omega) only [go_sem, Nat.reduceBEq, Nat.reduceAdd, ww])
  exact S.done (d9.out rfl (Imp.refl rfl) rfl)
 rw [if_neg (by simpa using hc)]
 (repeat first | refine uA ?_ | (refine uK ?_ ?_; focus first | omega | (intros; simp_all <;> omega)) | simp (disch := omega) only [go_sem, Nat.reduceBEq, Nat.reduceAdd, ww, c1y])
 refine S.cond rfl (fun hc => ?_) (fun hc => ?_)
 ·rw [if_pos (by simpa using hc)]
  (repeat first | refine uA ?_ | (refine uK ?_ ?_; focus first | omega | (intros; simp_all <;> omega)) | simp (disch := omega) only [go_sem, Nat.reduceBEq, Nat.reduceAdd, ww])
  exact S.done (d9.out rfl (Imp.refl rfl) rfl)
 ·rw [if_neg (by simpa using hc)]
  (repeat first | refine uA ?_ | (refine uK ?_ ?_; focus first | omega | (intros; simp_all <;> omega)) | simp (disch := omega) only [go_sem, Nat.reduceBEq, Nat.reduceAdd, ww])
  exact S.done (d9.out rfl (Imp.refl rfl) rfl)
def a4o (x : Lk × Nm.Rt) : Int := if Nm.q8 (Nm.j3 x.2) (Nm.j3 x.1.low) < 0 \/ 0 < Nm.q8 (Nm.j3 x.2) (Nm.j3 x.1.high) then 17 else 0
theorem b1y (a : Am) (q : List Nm.Rt) : a1n a q = if a3c a q.length ≠ 0 then a3c a q.length else E5 a4o (a.links.zip q) := by
 unfold a1n a3c
 by_cases h : J6 a = 0
 ·rw [if_neg (by simp [h])]
  by_cases h2 : q.length = a.links.length
  ·simp [h, h2]; rfl
  ·have h3 : ¬ (q.length : Int) = a.links.length := by omega
   simp [h, h2, h3]
 ·simp [h]
theorem K5 {α β : Type} {l : List α} {m : List β} {i : Nat} {x : α} {y : β} (h : l[i]? = some x) (k : m[i]? = some y) : (l.zip m)[i]? = some (x, y) := by
 rw [List.getElem?_zip_eq_some]; exact ⟨h, k⟩
theorem b5O (a : Am) (q : List Nm.Rt) (hl : Ab 1073741824 a) (hq : Rbs 1073741824 q) : FZ 141 [a.c, rts q] (ints (a1n a q)) := by
 refine kW Tryz.func141 (by cbv) (by rfl) fun w O hw => ?_
 have h := b5C a q.length hl
 rw [b1y]
 have hlen : a3c a q.length = 0 -> q.length = a.links.length := by
  unfold a3c
  intro h
  split at h
  ·rename_i h1; exact absurd h h1
  ·split at h
   ·cases h
   ·rename_i h1; have := Classical.not_not.1 h1; omega
 generalize a3c a q.length = e at *
 obtain ⟨hqn, hqb⟩ := hq
 obtain ⟨name, ⟨x, y, half, t⟩, links⟩ := a
 obtain ⟨b0, ⟨b1, b2, b3⟩, hn, hb⟩ := hl
 simp only at b0 b1 b2 b3 hn hb hlen
 simp only [j6]
 simp only [Am.c, Am.enc, lks, sb, ints, rts] at *
 (repeat first | refine uA ?_ | (refine uK ?_ ?_; focus first | omega | (intros; simp_all <;> omega)) | simp (disch := omega) only [go_sem, Nat.reduceBEq, Nat.reduceAdd, ww, c1y] | (refine uD h ?_ ?_ ?_; exact tz hw; exact rfl))
 refine S.cond rfl (fun hc => ?_) (fun hc => ?_)
 ·rw [if_pos (by simpa using hc)]
  (repeat first | refine uA ?_ | (refine uK ?_ ?_; focus first | omega | (intros; simp_all <;> omega)) | simp (disch := omega) only [go_sem, Nat.reduceBEq, Nat.reduceAdd, ww])
  exact S.done (d9.out rfl (Imp.refl rfl) rfl)
 rw [if_neg (by simpa using hc)]
 have hlen := hlen (by simpa using hc)
 (repeat first | refine uA ?_ | (refine uK ?_ ?_; focus first | omega | (intros; simp_all <;> omega)) | simp (disch := omega) only [go_sem, Nat.reduceBEq, Nat.reduceAdd, ww, c1y])
 refine S.loop (X := Nat) (fun i => ⟨[(1, rts q), (16, lks links), (17, ints links.length), (18, ints i)], []⟩) (fun i => i <= links.length /\ E5 a4o (links.zip q) = E5 a4o ((links.zip q).drop i)) (fun i => links.length - i) 0 ⟨c1H _, rfl⟩ (by (repeat first | refine uA ?_ | (refine ⟨?_, ?_⟩; focus first | rfl | simp [slot]) | rfl | simp)) ?_
 rintro i ⟨hi, hg⟩
 simp only [rts, lks, ints]
 (repeat first | refine uA ?_ | (refine uK ?_ ?_; focus first | omega | (intros; simp_all <;> omega)) | simp (disch := omega) only [go_sem, Nat.reduceBEq, Nat.reduceAdd, ww])
 (refine uJ rfl (fun hc => ?_) fun hc => ?_)
 ·have hi' : i < links.length := by omega
  have hgi := c1x hi'
  have hgq := c1x (show i < q.length by omega)
  generalize links[i] = x at hgi
  generalize q[i]'_ = v at hgq
  have hz := K5 hgi hgq
  have hst := a0i (f := a4o) hz
  have hnx := a0m (f := a4o) hz
  have bx := hb x (c1A hgi)
  have bv := (hqb v (c1A hgq)).mono (m := 17179869184) (by decide)
  have h1 := N8 v x.low bv (bx.2.1.mono (by decide))
  have h2 := N8 v x.high bv (bx.2.2.1.mono (by decide))
  unfold a4o at hst hnx
  simp only at hst hnx
  generalize Nm.q8 (Nm.j3 v) (Nm.j3 x.low) = n1 at *
  generalize Nm.q8 (Nm.j3 v) (Nm.j3 x.high) = n2 at *
  have hqi : (i : Int) < q.length := by omega
  simp only [rc, sb, ints] at h1 h2
  (repeat first | refine uA ?_ | (refine uK ?_ ?_; focus first | omega | (intros; simp_all <;> omega)) | simp (disch := omega) only [go_sem, Nat.reduceBEq, Nat.reduceAdd, ww, hgi, hgq, c1z, c1y, Lk.enc, rcs, vts, sb, c1B] | (refine uD h1 ?_ ?_ ?_; exact tz hw; exact rfl) | (refine uD h2 ?_ ?_ ?_; exact tz hw; exact rfl))
  refine S.cond rfl (fun hc2 => ?_) (fun hc2 => ?_)
  ·have hp : n1 < 0 \/ 0 < n2 := by simpa using hc2
   rw [if_pos hp] at hst
   rw [hg, show a4o = fun x : Lk × Nm.Rt => if Nm.q8 (Nm.j3 x.2) (Nm.j3 x.1.low) < 0 \/ 0 < Nm.q8 (Nm.j3 x.2) (Nm.j3 x.1.high) then 17 else 0 from rfl, hst (by decide)]
   (repeat first | refine uA ?_ | (refine uK ?_ ?_; focus first | omega | (intros; simp_all <;> omega)) | simp (disch := omega) only [go_sem, Nat.reduceBEq, Nat.reduceAdd, ww])
   exact S.done (d9.out rfl (Imp.refl rfl) rfl)
  ·have hp : ¬ (n1 < 0 \/ 0 < n2) := by simpa using hc2
   rw [if_neg hp] at hnx
   (repeat first | refine uA ?_ | (refine uK ?_ ?_; focus first | omega | (intros; simp_all <;> omega)) | simp (disch := omega) only [go_sem, Nat.reduceBEq, Nat.reduceAdd, ww])
   refine S.next (i + 1) ⟨by omega, ?_⟩ (by omega) (by (repeat first | refine uA ?_ | (refine ⟨?_, ?_⟩; focus first | rfl | simp [slot]) | rfl | simp))
   rw [hg, show a4o = fun x : Lk × Nm.Rt => if Nm.q8 (Nm.j3 x.2) (Nm.j3 x.1.low) < 0 \/ 0 < Nm.q8 (Nm.j3 x.2) (Nm.j3 x.1.high) then 17 else 0 from rfl, hnx rfl]
 ·rw [hg, a0G (by rw [List.length_zip]; omega)]
  (repeat first | refine uA ?_ | (refine uK ?_ ?_; focus first | omega | (intros; simp_all <;> omega)) | simp (disch := omega) only [go_sem, Nat.reduceBEq, Nat.reduceAdd, ww])
  exact S.done (d9.out rfl (Imp.refl rfl) rfl)
set_option maxRecDepth 100000
set_option maxHeartbeats 4000000
theorem a2i {a : Nm.Rt} (h : j4 a = true) : Rb 3 a := by
 unfold j4 at h
 simp only [c1J, c1D] at h
 exact ⟨h.1.1.1.1, by have := h.1.1.1.2; omega⟩
theorem O5 {a : Nm.Rt} (h : j4 a = true) : Rb 1048576 a := (a2i h).mono (by decide)
theorem a8S {α : Type} {f : α -> Int} : ∀ {l : List α}, E5 f l = 0 -> ∀ x ∈ l, f x = 0
 | [], _, x, hx => by cases hx
 | y :: l, h, x, hx => by
  rw [E5] at h
  split at h
  ·rename_i h0
   rcases List.mem_cons.1 hx with rfl | hx
   ·exact h0
   ·exact a8S h x hx
  ·rename_i h0; exact absurd h h0
theorem b5U {l : List Vt} (h : U7 l 8 = 0) : l.length <= 8 := by
 unfold U7 at h
 split at h
 ·cases h
 ·omega
theorem a3g {l : Lk} (h : V3 l = 0) : Lb 1048576 l /\ Nm.q8 (Nm.j3 l.low) (Nm.j3 l.high) < 0 /\ 0 < r9 (Nm.j3 l.speed) := by
 unfold V3 at h
 split at h
 ·cases h
 rename_i h1
 split at h
 ·cases h
 rename_i h2
 split at h
 ·rename_i h3; exact absurd h h3
 rename_i h3
 split at h
 ·rename_i h4
  have h1a : (j4 l.length && j4 l.low && j4 l.high && j4 l.speed && j4 l.brake) = true := by
   cases hb : (j4 l.length && j4 l.low && j4 l.high && j4 l.speed && j4 l.brake) with
   | true => rfl
   | false => exact absurd (.inl hb) h1
  simp only [c1J] at h1a
  obtain ⟨⟨⟨⟨s1, s2⟩, s3⟩, s4⟩, s5⟩ := h1a
  have hpe := b5U (Classical.not_not.1 h3)
  rw [List.all_eq_true] at h4
  refine ⟨⟨O5 s1, O5 s2, O5 s3, O5 s4, O5 s5, by omega, fun v hv => ?_⟩, ?_, ?_⟩
  ·have := h4 v hv
   simp only [c1J] at this
   exact ⟨O5 this.1, O5 this.2⟩
  ·have : ¬ 0 <= Nm.q8 (Nm.j3 l.low) (Nm.j3 l.high) := fun h => h1 (.inr (.inr h))
   omega
  ·have : ¬ r9 (Nm.j3 l.speed) <= 0 := fun h => h2 (.inl h)
   omega
 ·cases h
theorem a1N {a : Am} (h : J6 a = 0) : Ab 1048576 a /\ ∀ l ∈ a.links, V3 l = 0 := by
 unfold J6 at h
 split at h
 ·cases h
 rename_i h1
 split at h
 ·cases h
 split at h
 ·cases h
 rename_i h2 h3
 have hn : a.name.length <= 12 := by
  have : a0u a.name = true := by simpa using h1
  unfold a0u at this
  simp only [c1J, c1D] at this
  exact this.2
 have h3a : (j4 a.base.x && j4 a.base.y && j4 a.base.t) = true := by
  cases hb : (j4 a.base.x && j4 a.base.y && j4 a.base.t) with
  | true => rfl
  | false => exact absurd (.inr (.inl hb)) h3
 simp only [c1J] at h3a
 have hl := a8S h
 exact ⟨⟨by omega, ⟨O5 h3a.1.1, O5 h3a.1.2, O5 h3a.2⟩, by omega, fun l hl' => (a3g (hl l hl')).1⟩, hl⟩
theorem b2K {f : Fr} (h : okF f = true) : Fb 1048576 f /\ a0a f = true := by
 unfold okF okV at h
 simp only [c1J, c1D] at h
 obtain ⟨⟨⟨⟨⟨⟨g1, g2⟩, s1⟩, s2⟩, g3⟩, s3⟩, z⟩ := h
 refine ⟨⟨O5 s1, O5 s2, O5 s3⟩, ?_⟩
 unfold a0a F5
 simp [g1, g2, g3, z]
theorem Fb.mono {k m : Nat} {f : Fr} (h : Fb k f) (hm : k <= m) : Fb m f := ⟨h.1.mono hm, h.2.1.mono hm, h.2.2.mono hm⟩
theorem Vbs.mono {k m : Nat} {l : List Vt} (h : Vbs k l) (hm : k <= m) : Vbs m l := ⟨c1G h.1 hm, fun v hv => ⟨(h.2 v hv).1.mono hm, (h.2 v hv).2.mono hm⟩⟩
theorem Ab.mono {k m : Nat} {a : Am} (h : Ab k a) (hm : k <= m) : Ab m a := ⟨c1G h.1 hm, h.2.1.mono hm, c1G h.2.2.1 hm, fun l hl => by
 obtain ⟨h1, h2, h3, h4, h5, h6⟩ := h.2.2.2 l hl
 exact ⟨h1.mono hm, h2.mono hm, h3.mono hm, h4.mono hm, h5.mono hm, h6.mono hm⟩⟩
theorem Wb.mono {k m : Nat} {w : Wk} (h : Wb k w) (hm : k <= m) : Wb m w :=
  ⟨⟨c1G h.arms.1 hm, fun x hx => (h.arms.2 x hx).mono hm⟩, ⟨c1G h.walls.1 hm, fun x hx => (h.walls.2 x hx).mono hm⟩, ⟨c1G h.parts.1 hm, fun x hx => ⟨c1G (h.parts.2 x hx).1 hm, (h.parts.2 x hx).2.1.mono hm, (h.parts.2 x hx).2.2.mono hm⟩⟩,
   ⟨c1G h.slots.1 hm, fun x hx => ⟨c1G (h.slots.2 x hx).1 hm, (h.slots.2 x hx).2.1.mono hm, (h.slots.2 x hx).2.2.mono hm⟩⟩, ⟨c1G h.gates.1 hm, fun x hx => ⟨c1G (h.gates.2 x hx).1 hm, ⟨(h.gates.2 x hx).2.1.1.mono hm, (h.gates.2 x hx).2.1.2.mono hm⟩, (h.gates.2 x hx).2.2.1.mono hm, (h.gates.2 x hx).2.2.2.mono hm⟩⟩, h.walk.mono hm⟩
theorem Stb.mono {k m : Nat} {s : Stt} (h : Stb k s) (hm : k <= m) : Stb m s :=
 ⟨⟨c1G h.arms.1 hm, fun x hx => ⟨⟨c1G (h.arms.2 x hx).1.1 hm, fun r hr => ((h.arms.2 x hx).1.2 r hr).mono hm⟩, c1G (h.arms.2 x hx).2.1 hm, fun r hr => ((h.arms.2 x hx).2.2 r hr).mono hm⟩⟩, ⟨c1G h.parts.1 hm, fun x hx => (h.parts.2 x hx).mono hm⟩, h.people.mono hm, c1G h.gates hm⟩
theorem a6K {α β : Type} {f : α -> β} : ∀ {l : List α} {x : α × β}, x ∈ l.zip (l.map f) -> x.1 ∈ l /\ x.2 = f x.1
 | [], x, h => by simp at h
 | a :: l, x, h => by
  simp only [c1R, List.zip_cons_cons] at h
  rcases List.mem_cons.1 h with rfl | h
  ·exact ⟨List.mem_cons_self .., rfl⟩
  ·exact ⟨List.mem_cons_of_mem _ (a6K h).1, (a6K h).2⟩
theorem a1k (p q : Rat) : Nm.q8 p q < 0 <-> p < q := by
 unfold Nm.q8
 split
 ·simp_all
 ·split
  ·simp_all
  ·simp_all
theorem O6 (p q : Rat) : 0 < Nm.q8 p q <-> q < p := by
 unfold Nm.q8
 split
 ·rename_i h; simp; grind
 ·split
  ·rename_i h1 h2; simp; grind
  ·rename_i h1 h2; simp; grind
theorem b5h {l : Lk} (h : V3 l = 0) : a4o (l, a0x l) = 0 := by
 have hc := (a1k _ _).1 (a3g h).2.1
 unfold a4o a0x
 simp only [Nm.E9]
 rw [if_neg]
 rw [a1k, O6]
 unfold a0w a5q
 have e1 : ∀ p q : Rat, (Nm.q8 p q >= 0) <-> ¬ p < q := fun p q => by rw [<- a1k]; omega
 have e2 : ∀ p q : Rat, (Nm.q8 p q <= 0) <-> ¬ q < p := fun p q => by rw [<- O6]; omega
 simp only [e1, e2]
 repeat' split
 all_goals grind
theorem b1T {l : Lk} (h : V3 l = 0) : V7 (l, Nm.ofQ 0) = 0 := by
 have hs := (a3g h).2.2
 unfold V7
 simp only [Nm.E9]
 rw [if_neg]
 have h0 : C8 0 = 0 := rfl
 rw [h0, O6]
 have hn : 0 < (Nm.j3 l.speed).num := by
  unfold r9 at hs
  split at hs
  ·omega
  ·split at hs <;> omega
 intro hlt
 have := (Rat.lt_iff _ _).1 hlt
 simp at this
 omega
theorem b5G {a : Am} (h : J6 a = 0) (n : Nat) : a1f a (a0D a) n = 0 := by
 have hl := (a1N h).2
 unfold a1f a0D
 simp only
 have g1 : (a.links.map a0x).all F5 = true := by
  rw [List.all_eq_true]
  intro x hx
  obtain ⟨l, _, rfl⟩ := List.mem_map.1 hx
  exact decide_eq_true (Nm.a6G _)
 have g2 : (a.links.map fun _ => Nm.ofQ 0).all F5 = true := by
  rw [List.all_eq_true]
  intro x hx
  obtain ⟨l, _, rfl⟩ := List.mem_map.1 hx
  exact decide_eq_true (Nm.a6G _)
 have hf : a1n a (a.links.map a0x) = 0 := by
  rw [b1y]
  have : a3c a (a.links.map a0x).length = 0 := by
   unfold a3c
   rw [h, if_neg (by decide), c1y, if_neg (by simp)]
  rw [this, if_neg (by decide)]
  refine a5j fun x hx => ?_
  obtain ⟨h1, h2⟩ := a6K hx
  obtain ⟨x1, x2⟩ := x
  simp only at h1 h2
  rw [h2]
  exact b5h (hl x1 h1)
 rw [g1, g2, if_neg (by decide), hf, if_neg (by decide), if_neg (by simp; omega)]
 refine a5j fun x hx => ?_
 obtain ⟨h1, h2⟩ := a6K hx
 obtain ⟨x1, x2⟩ := x
 simp only at h1 h2
 rw [h2]
 exact b1T (hl x1 h1)
theorem a6U (n : Nat) : ∀ (l : List Am) (h : List Int), (∀ a ∈ l, J6 a = 0) -> (C9 (X7 n) h (l.zip (l.map a0D))).1 = 0
 | [], _, _ => rfl
 | a :: l, h, ha => by
  have e : X7 n h (a, a0D a) = (0, a1V h (-1)) := by
   unfold X7
   simp only
   rw [b5G (ha a (by simp)) n, if_neg (by decide), if_neg (by simp [a0D])]
   rfl
  simp only [c1R, List.zip_cons_cons, C9, e]
  exact a6U n l _ fun x hx => ha x (by simp [hx])
theorem b7b {w : Wk} (h : Y0 w = 0) (ha : ∀ a ∈ w.arms, J6 a = 0) (hs : ∀ s ∈ w.slots, okF s.frame = true) : I4 w (K7 w) = 0 := by
 unfold I4
 have l1 : (K7 w).arms.length = w.arms.length := by simp [K7]
 have l2 : (K7 w).parts.length = w.parts.length := by simp [K7]
 have l3 : (K7 w).gates.length = w.gates.length := by simp [K7]
 have l4 : (K7 w).people = [] := rfl
 have l5 : (K7 w).tick = 0 := rfl
 have hh : (C9 (X7 w.parts.length) [] (w.arms.zip (K7 w).arms)).1 = 0 := a6U _ w.arms [] ha
 have hp : (K7 w).parts.all a0a = true := by
  rw [List.all_eq_true]
  intro f hf
  obtain ⟨i, _, rfl⟩ := List.mem_map.1 hf
  unfold a6m
  split
  ·exact (b2K (hs _ (c1N _))).2
  ·unfold a0f a0a F5 a1R
   simp [Nm.a6G]
 rw [h, if_neg (by decide), l4, if_neg (by decide), l1, l2, l3, l5, if_neg (by simp), hh, if_neg (by decide), hp]
 rfl
theorem a3x : Rb 1048576 (Nm.ofQ 0) := ⟨c1G (Nm.F4 (k := 8) (by decide)) (by decide), c1G (Nm.F4 (k := 8) (by decide)) (by decide)⟩
theorem b6j {k : Nat} (hk : 1048576 <= k) {w : Wk} (hw : Wb k w) (ha : ∀ a ∈ w.arms, J6 a = 0) (hs : ∀ s ∈ w.slots, okF s.frame = true) : Stb k (K7 w) := by
 refine ⟨⟨?_, fun x hx => ?_⟩, ⟨?_, fun x hx => ?_⟩, ⟨c1H _, fun v hv => by cases hv⟩, ?_⟩
 ·show (w.arms.map a0D).length <= _
  rw [c1y]; exact hw.arms.1
 ·obtain ⟨a, haa, rfl⟩ := List.mem_map.1 hx
  have hab := hw.arms.2 a haa
  refine ⟨⟨?_, fun r hr => ?_⟩, ?_, fun r hr => ?_⟩
  ·show (a.links.map a0x).length <= _
   rw [c1y]; exact hab.2.2.1
  ·obtain ⟨l, hl, rfl⟩ := List.mem_map.1 hr
   have hlb := hab.2.2.2 l hl
   unfold a0x a0w a5q
   repeat' split
   all_goals first | exact hlb.2.1.fit (by omega) | exact hlb.2.2.1.fit (by omega) | exact a3x.mono hk
  ·show (a.links.map fun _ => Nm.ofQ 0).length <= _
   rw [c1y]; exact hab.2.2.1
  ·obtain ⟨l, hl, rfl⟩ := List.mem_map.1 hr
   exact a3x.mono hk
 ·show ((List.range _).map _).length <= _
  simp; exact hw.parts.1
 ·obtain ⟨i, _, rfl⟩ := List.mem_map.1 hx
  unfold a6m
  split
  ·exact (b2K (hs _ (c1N _))).1.mono hk
  ·exact ⟨a3x.mono hk, a3x.mono hk, a3x.mono hk⟩
 ·show (List.replicate _ _).length <= _
  rw [List.length_replicate]; exact hw.gates.1
def a3R (a b : Nm.Rt) : Nm.Rt := Nm.ofQ (Nm.j3 a + Nm.j3 b)
def a1z (b v : Nm.Rt) : Nm.Rt := if Nm.q8 (C8 (Nm.j3 v)) (Nm.j3 b) <= 0 then Nm.ofQ 0 else if r9 (Nm.j3 v) < 0 then a3R v b else Nm.ofQ (Nm.j3 v - Nm.j3 b)
def a3b (a : Am) (x : Ast) : List Nm.Rt := (a.links.zip x.v).map fun p => a1z p.1.brake p.2
def a4k (a : Am) (x : Ast) : List Nm.Rt := (x.q.zip (a3b a x)).map fun p => a3R p.1 p.2
def b6y (a : Am) (x : Ast) : Ast := ⟨a4k a x, a3b a x, false, x.holds⟩
def mvQ (x : Ast) (u : List Nm.Rt) : List Nm.Rt := (x.q.zip u).map fun p => a3R p.1 p.2
def mvA (x : Ast) (u : List Nm.Rt) : Ast := ⟨mvQ x u, u, true, x.holds⟩
def b7q (x : Lk × Nm.Rt × Nm.Rt) : Bool := !(decide (0 < Nm.q8 (C8 (Nm.j3 x.2.2)) (Nm.j3 x.1.speed)) || decide (0 < Nm.q8 (Nm.j3 x.1.low) (Nm.j3 x.2.1 + Nm.j3 x.2.2)) || decide (0 < Nm.q8 (Nm.j3 x.2.1 + Nm.j3 x.2.2) (Nm.j3 x.1.high)))
def a7e (a : Am) (q u : List Nm.Rt) : Bool := decide (u.length = a.links.length) && (u.all F5 && (a.links.zip (q.zip u)).all b7q)
def a1W (a : Am) (x : Ast) (u : List Nm.Rt) (p : Bool) : Ast := if p && a7e a x.q u then mvA x u else b6y a x
def O0 (a b : Fr) : Fr := ⟨Nm.ofQ (X3 a ⟨b.x, b.y⟩), Nm.ofQ (X0 a ⟨b.x, b.y⟩), (a2b a.half (x9 a.half a.t) b.half (x9 b.half b.t)).1, Nm.ofQ (a2b a.half (x9 a.half a.t) b.half (x9 b.half b.t)).2⟩
def a0C (q : Nm.Rt) : Fr := ⟨Nm.ofQ 0, Nm.ofQ 0, false, Nm.ofQ (Nm.j3 q)⟩
def a5i (l : Lk) : Fr := ⟨l.length, Nm.ofQ 0, false, Nm.ofQ 0⟩
def a0y : Fr -> List (Lk × Nm.Rt) -> List Fr
 | e, [] => [e]
 | e, (l, q) :: r => O0 e (a0C q) :: a0y (O0 (O0 e (a0C q)) (a5i l)) r
def H7 : Fr -> List (Lk × Nm.Rt) -> Fr
 | e, [] => e
 | e, (l, q) :: r => H7 (O0 (O0 e (a0C q)) (a5i l)) r
def a0V (f : Fr) : Fr := ⟨Nm.ofQ (Nm.j3 (Nm.ofQ (0 - Nm.j3 f.x)) * R8 f.half (x9 f.half (Nm.ofQ (- x9 f.half f.t))) - Nm.j3 (Nm.ofQ (0 - Nm.j3 f.y)) * R7 (x9 f.half (Nm.ofQ (- x9 f.half f.t)))), Nm.ofQ (Nm.j3 (Nm.ofQ (0 - Nm.j3 f.x)) * R7 (x9 f.half (Nm.ofQ (- x9 f.half f.t))) + Nm.j3 (Nm.ofQ (0 - Nm.j3 f.y)) * R8 f.half (x9 f.half (Nm.ofQ (- x9 f.half f.t)))), f.half, Nm.ofQ (- x9 f.half f.t)⟩
def a0q (a : Am) (q : List Nm.Rt) (g : Fr) : Fr := O0 (H7 a.base (a.links.zip q)) (a0V g)
def a5Q (w : Wk) (s : Stt) (u : List (List Nm.Rt)) (p : List Bool) : List Ast := ((w.arms.zip s.arms).zip (u.zip p)).map fun z => a1W z.1.1 z.1.2 z.2.1 z.2.2
def a8C (w : Wk) (P : List Fr) (z : Am × Ast) : List Fr :=
 if z.2.holds < 0 then P else match w.parts[z.2.holds.toNat]? with
  | some pt => P.set z.2.holds.toNat (a0q z.1 z.2.q pt.grasp)
  | none => P
def a5c (k : Nm.Rt) (v : Vt) : Bool := a2f v && !decide (0 < Nm.q8 (a0w (C8 (Nm.j3 v.x)) (C8 (Nm.j3 v.y))) (Nm.j3 k))
def a8x (p : Vt × Vt) : Vt := ⟨a3R p.1.x p.2.x, a3R p.1.y p.2.y⟩
def a3i (w : Wk) (s : Stt) (u : List (List Nm.Rt)) (p : List Bool) (v : List Vt) : Int :=
 if I4 w s ≠ 0 then I4 w s else
 if u.length ≠ w.arms.length \/ p.length ≠ w.arms.length \/ v.length ≠ s.people.length then 1 else
 if v.all (a5c w.walk) = false then 1 else
 if s.tick = 2000 then 7 else 0
def a9N (w : Wk) (s : Stt) (u : List (List Nm.Rt)) (p : List Bool) (v : List Vt) : Stt :=
 ⟨s.tick + 1, a5Q w s u p, (w.arms.zip (a5Q w s u p)).foldl (a8C w) s.parts, (s.people.zip v).map a8x, s.gates⟩
theorem b1z {n : Nat} : ∀ {l : List (Am × Ast)} {h : List Int}, (C9 (X7 n) h l).1 = 0 -> ∀ z ∈ l, a1f z.1 z.2 n = 0
 | [], _, _, z, hz => by cases hz
 | y :: l, h, e, z, hz => by
  have hy : (X7 n h y).1 = 0 := by
   unfold C9 at e
   split at e
   ·assumption
   ·exact e
  unfold C9 at e
  rw [if_pos hy] at e
  rcases List.mem_cons.1 hz with rfl | hz
  ·unfold X7 at hy
   split at hy
   ·exact hy
   ·exact Classical.not_not.1 (by assumption)
  ·exact b1z e z hz
theorem a8B {w : Wk} (h : Y0 w = 0) : ∀ a ∈ w.arms, J6 a = 0 := by
 have h1 : E5 id (a4I w) = 0 := by
  unfold Y0 at h
  split at h
  ·cases h
  ·split at h
   ·cases h
   ·split at h
    ·rename_i h2; exact absurd h h2
    ·exact Classical.not_not.1 (by assumption)
 have h2 : (C9 a0k [] w.arms).1 = 0 := by
  unfold a4I at h1
  simp only [E5, id] at h1
  split at h1
  ·assumption
  ·exact h1
 have key : ∀ (l : List Am) (n : Nms), (C9 a0k n l).1 = 0 -> ∀ a ∈ l, J6 a = 0 := by
  intro l
  induction l with
  | nil => intro n _ a ha; cases ha
  | cons x l ih =>
   intro n hn a ha
   have hx : (a0k n x).1 = 0 := by
    unfold C9 at hn
    split at hn
    ·assumption
    ·exact hn
   unfold C9 at hn
   rw [if_pos hx] at hn
   rcases List.mem_cons.1 ha with rfl | ha
   ·unfold a0k at hx
    split at hx
    ·exact hx
    ·exact Classical.not_not.1 (by assumption)
   ·exact ih _ hn a ha
 exact key _ _ h2
structure c1d (w : Wk) (s : Stt) : Prop where
 works : Y0 w = 0
 people : s.people.length <= 4
 tick : 0 <= s.tick /\ s.tick <= 2000
 arms : s.arms.length = w.arms.length
 parts : s.parts.length = w.parts.length
 gates : s.gates.length = w.gates.length
 one : ∀ z ∈ w.arms.zip s.arms, a1f z.1 z.2 w.parts.length = 0
 big : 1 <= w.arms.length /\ w.arms.length <= 4 /\ w.parts.length <= 6 /\ w.gates.length <= 4
theorem a0I {w : Wk} {s : Stt} (h : I4 w s = 0) : c1d w s := by
 unfold I4 at h
 split at h
 ·rename_i h1; exact absurd h h1
 rename_i h1
 split at h
 ·cases h
 split at h
 ·cases h
 split at h
 ·rename_i h2; exact absurd h h2
 rename_i h2 h3 h4
 have h1 := Classical.not_not.1 h1
 have hb := h1
 unfold Y0 at hb
 split at hb
 ·cases hb
 split at hb
 ·cases hb
 exact ⟨h1, by omega, by omega, by omega, by omega, by omega, b1z (Classical.not_not.1 h4), by omega⟩
structure b7F (a : Am) (x : Ast) (n : Nat) : Prop where
 arm : J6 a = 0
 q : x.q.length = a.links.length
 v : x.v.length = a.links.length
 holds : -1 <= x.holds /\ x.holds < n
theorem a6f {a : Am} {x : Ast} {n : Nat} (h : a1f a x n = 0) : b7F a x n := by
 unfold a1f at h
 split at h
 ·cases h
 split at h
 ·rename_i h1; exact absurd h h1
 rename_i h1
 split at h
 ·cases h
 have h2 := Classical.not_not.1 h1
 unfold a1n at h2
 split at h2
 ·rename_i h3; exact absurd h2 h3
 rename_i h3
 split at h2
 ·cases h2
 exact ⟨Classical.not_not.1 h3, by omega, by omega, by omega⟩
theorem T9 {a : Am} (h : J6 a = 0) : 1 <= a.links.length /\ a.links.length <= 3 := by
 unfold J6 at h
 split at h
 ·cases h
 split at h
 ·cases h
 split at h
 ·cases h
 ·omega
theorem b9o {a : Am} {n : Int} (h : J6 a = 0) (hn : n = a.links.length) : a3c a n = 0 := by
 unfold a3c
 rw [if_neg (by simp [h]), if_neg (by simp [hn])]
theorem b3r {l : Lk} (h : V3 l = 0) : 0 < r9 (Nm.j3 l.brake) := by
 unfold V3 at h
 split at h
 ·cases h
 split at h
 ·cases h
 ·omega
theorem a5N (q : Rat) : (r9 q = -1 /\ q < 0) \/ (r9 q = 0 /\ q = 0) \/ (r9 q = 1 /\ 0 < q) := by
 have h1 := @Rat.num_nonneg q
 have h2 := @Rat.num_eq_zero q
 unfold r9
 by_cases h0 : q.num = 0
 ·right; left; exact ⟨if_pos h0, h2.1 h0⟩
 rw [if_neg h0]
 by_cases hn : q.num < 0
 ·left
  refine ⟨if_pos hn, ?_⟩
  rw [<- Rat.not_le, <- h1]; omega
 ·right; right
  refine ⟨if_neg hn, ?_⟩
  have h5 : 0 <= q := h1.1 (by omega)
  have h6 : q ≠ 0 := fun e => h0 (h2.2 e)
  grind
theorem b7g {w : Wk} {s : Stt} {u : List (List Nm.Rt)} {p : List Bool} (h1 : s.arms.length = w.arms.length) (h2 : u.length = w.arms.length) (h3 : p.length = w.arms.length) : (a5Q w s u p).length = w.arms.length := by
 unfold a5Q; simp only [c1y, List.length_zip]; omega
theorem b6Y {w : Wk} {s : Stt} {u : List (List Nm.Rt)} {p : List Bool} {i : Nat} {a : Am} {x : Ast} {v : List Nm.Rt} {b : Bool} (h1 : w.arms[i]? = some a) (h2 : s.arms[i]? = some x) (h3 : u[i]? = some v) (h4 : p[i]? = some b) : (a5Q w s u p)[i]? = some (a1W a x v b) := by
 unfold a5Q
 rw [c2n, K5 (K5 h1 h2) (K5 h3 h4)]
 rfl
theorem holds_one (a : Am) (x : Ast) (u : List Nm.Rt) (p : Bool) : (a1W a x u p).holds = x.holds := by
 unfold a1W; split <;> rfl
theorem b8D {a : Am} {x : Ast} {n : Nat} {u : List Nm.Rt} {p : Bool} (h : b7F a x n) : (a1W a x u p).q.length = a.links.length /\ (a1W a x u p).v.length = a.links.length := by
 unfold a1W
 have h1 := h.q
 have h2 := h.v
 split
 ·rename_i hc
  simp only [c1J, a7e, c1D] at hc
  have h3 := hc.2.1
  simp only [mvA, mvQ, c1y, List.length_zip]; omega
 ·simp only [b6y, a4k, a3b, c1y, List.length_zip]; omega
theorem b8x {α : Type} {l m : List α} {i : Nat} {y : α} (hl : l.length = m.length) (hy : l[i]? = some y) : (l.take i ++ m.drop i).set i y = l.take (i + 1) ++ m.drop (i + 1) := by
 obtain ⟨hi, rfl⟩ := c1F.1 hy
 have h1 : (l.take i).length = i := by rw [c1M]; omega
 rw [List.set_append_right _ _ (by omega), h1, Nat.sub_self, List.drop_eq_getElem_cons (show i < m.length by omega), List.set_cons_zero, c2o hi, c2b]
 rfl
theorem a4F {α : Type} {l m : List α} {i : Nat} (hl : l.length = m.length) (hi : i <= m.length) : (l.take i ++ m.drop i).length = m.length := by
 simp only [c1C, c1M, c2l]; omega
theorem mid_end {α : Type} {l m : List α} (hl : l.length = m.length) : l.take m.length ++ m.drop m.length = l := by
 rw [<- hl, c1U, hl, List.drop_length, List.append_nil]
theorem a4s : ∀ (z : List (Lk × Nm.Rt)) (e : Fr), (a0y e z)[z.length]? = some (H7 e z) /\ (a0y e z).length = z.length + 1
 | [], e => ⟨rfl, rfl⟩
 | (l, q) :: r, e => by
  obtain ⟨h1, h2⟩ := a4s r (O0 (O0 e (a0C q)) (a5i l))
  simp only [a0y, H7, c1T, List.getElem?_cons_succ]
  exact ⟨h1, by rw [h2]⟩
set_option maxRecDepth 10000
set_option maxHeartbeats 8000000
theorem b5X (v : Vt) (hv : Vb 17179869184 v) : FZ 197 [v.c] (.v (.bool (!okV v))) := by
 refine kW Tryz.func197 (by cbv) (by rfl) fun w O hw => ?_
 obtain ⟨x, y⟩ := v
 obtain ⟨b1, b2⟩ := hv
 simp only at b1 b2
 have h1 := a0z x (b1.mono (by decide))
 have h2 := a0z y (b2.mono (by decide))
 have h3 := a2u x b1
 have h4 := a2u y b2
 unfold okV
 simp only
 generalize decide x.D6 = q1 at *
 generalize decide y.D6 = q2 at *
 generalize j4 x = q3 at *
 generalize j4 y = q4 at *
 simp only [j6]
 simp only [Vt.c, Vt.enc, rc, sb] at *
 (repeat first | refine uA ?_ | (refine uK ?_ ?_; focus first | omega | (intros; simp_all <;> omega)) | simp (disch := omega) only [go_sem, Nat.reduceBEq, Nat.reduceAdd, ww] | (refine uD h1 ?_ ?_ ?_; exact tz hw; exact rfl) | (refine uD h2 ?_ ?_ ?_; exact tz hw; exact rfl) | (refine uD h3 ?_ ?_ ?_; exact tz hw; exact rfl) | (refine uD h4 ?_ ?_ ?_; exact tz hw; exact rfl))
 have e : (!(q1 && q2 && q3 && q4)) = (!q1 || !q2 || !q3 || !q4) := by cases q1 <;> cases q2 <;> cases q3 <;> cases q4 <;> rfl
 (try rw [e])
 exact S.done (d9.out rfl (Imp.refl rfl) rfl)
theorem a7h (l : List Vt) (hl : Vbs 17179869184 l) : FZ 83 [vts l] (.v (.bool (l.all okV))) := by
 refine kW Tryz.func83 (by cbv) (by rfl) fun w O hw => ?_
 have h := b1e 197 (by kernel_rfl) (fun v => !okV v) l (by have := hl.1; omega) (fun v hv => b5X v (hl.2 v hv))
 have e : l.all okV = !l.any fun v => !okV v := by rw [List.not_any_eq_all_not]; simp
 rw [e]
 generalize (l.any fun v => !okV v) = q at *
 simp only [j6]
 simp only [vts] at *
 (repeat first | refine uA ?_ | (refine uK ?_ ?_; focus first | omega | (intros; simp_all <;> omega)) | simp (disch := omega) only [go_sem, Nat.reduceBEq, Nat.reduceAdd, ww] | (refine uD h ?_ ?_ ?_; exact tz hw; exact rfl))
 exact S.done (d9.out rfl (Imp.refl rfl) rfl)
theorem Vbs.one {k : Nat} {v : Vt} (h : 1 <= k) (h1 : Vb k v) : Vbs k [v] := ⟨h, fun x hx => by simp at hx; subst hx; exact h1⟩
theorem Vbs.two {k : Nat} {v u : Vt} (h : 2 <= k) (h1 : Vb k v) (h2 : Vb k u) : Vbs k [v, u] := ⟨h, fun x hx => by simp at hx; rcases hx with rfl | rfl <;> assumption⟩
theorem b0C (f : Fr) (hf : Fb 17179869184 f) : FZ 21 [f.c] (.v (.bool (okF f))) := by
 refine kW Tryz.func21 (by cbv) (by rfl) fun w O hw => ?_
 obtain ⟨x, y, half, t⟩ := f
 obtain ⟨b1, b2, b3⟩ := hf
 simp only at b1 b2 b3
 have h1 := a7h [⟨x, y⟩] (Vbs.one (by decide) ⟨b1, b2⟩)
 rw [List.all_cons, List.all_nil, Bool.and_true] at h1
 have h2 := a0z t (b3.mono (by decide))
 have h3 := a2u t b3
 have h4 := K8 t b3
 unfold okF a1R
 simp only
 generalize okV ⟨x, y⟩ = q1 at *
 generalize decide t.D6 = q2 at *
 generalize j4 t = q3 at *
 generalize r9 (Nm.j3 t) = n at *
 simp only [j6]
 simp only [Fr.c, Fr.enc, vts, Vt.enc, rc, sb, ints, c1R, c2d] at *
 (repeat first | refine uA ?_ | (refine uK ?_ ?_; focus first | omega | (intros; simp_all <;> omega)) | simp (disch := omega) only [go_sem, Nat.reduceBEq, Nat.reduceAdd, ww] | (refine uD h2 ?_ ?_ ?_; exact tz hw; exact rfl) | (refine uD h3 ?_ ?_ ?_; exact tz hw; exact rfl) | (refine uD h4 ?_ ?_ ?_; exact tz hw; exact rfl) | (refine uE h1 ?_ ?_ ?_ ?_; exact tz hw; exact rfl; focus (repeat' first | exact j5.nil | exact Imp.refl rfl | exact Imp.frz rfl rfl rfl | (refine Imp.M5 rfl rfl ?_ ?_; (focus ((try simp only [c1C]); omega)); (focus first | rfl | assumption)) | refine j5.cons ?_ ?_); done))
 have e : (q1 && q2 && q3 && !(half && !decide (n = 0))) = (q1 && q2 && q3 && (!half || decide (n = 0))) := by cases q1 <;> cases q2 <;> cases q3 <;> cases half <;> simp
 rw [e]
 exact S.done (d9.out rfl (Imp.refl (by rfl)) rfl)
theorem a9Y (l : List Vt) (hl : Vbs 1073741824 l) : FZ 91 [vts l] (ints (L8 l)) := by
 refine kW Tryz.func91 (by cbv) (by rfl) fun w O hw => ?_
 have h1 := a4v l hl
 have h2 := a7h l ⟨by have := hl.1; omega, fun v hv => (hl.2 v hv).mono (by decide)⟩
 unfold L8
 generalize U7 l 8 = e at *
 generalize l.all okV = q at *
 simp only [j6]
 simp only [vts, ints] at *
 (repeat first | refine uA ?_ | (refine uK ?_ ?_; focus first | omega | (intros; simp_all <;> omega)) | simp (disch := omega) only [go_sem, Nat.reduceBEq, Nat.reduceAdd, ww] | (refine uD h1 ?_ ?_ ?_; exact tz hw; exact rfl))
 refine S.cond rfl (fun hc => ?_) (fun hc => ?_)
 ·rw [if_pos (by simpa using hc)]
  (repeat first | refine uA ?_ | (refine uK ?_ ?_; focus first | omega | (intros; simp_all <;> omega)) | simp (disch := omega) only [go_sem, Nat.reduceBEq, Nat.reduceAdd, ww])
  exact S.done (d9.out rfl (Imp.refl rfl) rfl)
 rw [if_neg (by simpa using hc)]
 (repeat first | refine uA ?_ | (refine uK ?_ ?_; focus first | omega | (intros; simp_all <;> omega)) | simp (disch := omega) only [go_sem, Nat.reduceBEq, Nat.reduceAdd, ww] | (refine uD h2 ?_ ?_ ?_; exact tz hw; exact rfl))
 refine S.cond rfl (fun hc => ?_) (fun hc => ?_)
 ·rw [if_neg (by simpa using hc)]
  (repeat first | refine uA ?_ | (refine uK ?_ ?_; focus first | omega | (intros; simp_all <;> omega)) | simp (disch := omega) only [go_sem, Nat.reduceBEq, Nat.reduceAdd, ww])
  exact S.done (d9.out rfl (Imp.refl rfl) rfl)
 ·rw [if_pos (by simpa using hc)]
  (repeat first | refine uA ?_ | (refine uK ?_ ?_; focus first | omega | (intros; simp_all <;> omega)) | simp (disch := omega) only [go_sem, Nat.reduceBEq, Nat.reduceAdd, ww])
  exact S.done (d9.out rfl (Imp.refl rfl) rfl)
end Go.Proofs.YtogfpjohjphngaaGreatDoor
namespace Go.Proofs.YtogfpjohjphngaaGreatDoor.Eng
open Go Go.RowKit
theorem l8.ofT {E : Ctx} {eff : Nat -> Bool} {f : Nat} {fn : Func} {ir : a1U} (ht : Tz E) (hf : E.P.funcs[f]? = some fn) (hc : a0r eff E.P fn = some ir) {rs : List Res} {args : List C} {s : C} {rs' : List Res} {pk : List Nat} (hn : args.length <= ir.ntmps)
  (h : ∀ w own av ν, ν.length = rs.length -> Tz ⟨E.P, eff, ir.ntmps, w, own, av, ν, pk⟩ -> S ⟨E.P, eff, ir.ntmps, w, own, av, ν, pk⟩ (Fin E.P ir.results (b3n ⟨E.P, eff, ir.ntmps, w, own, av, ν, pk⟩ rs' s)) ⟨j6 0 args, rs⟩ [.code ir.body]) : l8 E rs f args s rs' pk := by
 intro av ν w vs hR hav hF hD
 have hR' : RG av (owned rs ν) w.heap.size ν rs w := ⟨hR.len, hR.res, hR.dis, fun b hb => ⟨(hR.low b hb).1, (hR.low b hb).2.1, .inl hb⟩, hR.av, c1I _⟩
 have ht' : Tz ⟨E.P, eff, ir.ntmps, w, owned rs ν, av, ν, pk⟩ := ⟨ht.at hF, fun ho => by
  rcases (hR.low _ ho).2.2 with h1 | h1
  ·exact ht.2 h1
  ·have := b7K ht.1; omega⟩
 refine (b1p (E := ⟨E.P, eff, ir.ntmps, w, owned rs ν, av, ν, pk⟩) hf hc rfl rfl hR.av rs hR' args hD hn (h w (owned rs ν) av ν hR.len ht')).mono ?_
 rintro e w' ⟨y, rfl, ν', h1, h2, h3, h4⟩
 refine ⟨y, ν', rfl, ⟨h1.len, h1.res, h1.dis, fun b hb => ?_, h1.av, c1G hR.n0 h2.size⟩, ⟨h2.os, h2.tape, h2.output, h2.size, h2.block, fun b hb => (h1.low b hb).2.2, h3⟩, h4⟩
 obtain ⟨g1, g2, g3⟩ := h1.low b hb
 refine ⟨g1, g2, ?_⟩
 rcases g3 with g3 | g3
 ·exact (hR.low b g3).2.2
 ·exact .inr (c1G hR.n0 g3)
def Res.shut : Res -> Bool
 | .gone => false
 | .box _ cs => C.clL cs
 | .row _ _ _ => true
 | .map _ _ => true
theorem a4y {ν ν' : List Value} {w : World} {O O' : Nat -> Prop} {x : Value} {r : Res} (hs : r.shut = true) (hO : ∀ b, O' b -> O b) (h : K9 ν w O x r) : K9 ν' w O' x r := by
 cases r with
 | gone => cases hs
 | box t cs =>
  obtain ⟨b, vs, h1, h2, h3, h4⟩ := h
  exact ⟨b, vs, h1, (FzL.keep (Keeps.sub hO) (h2.fz hs)).den ν', h3, h4⟩
 | row e sz es => exact a4P hO h
 | map s es => exact h
theorem b9c {r r' : Res} (hs : r.shut = true) {x : Value} {b : Nat} (h : fp r' x b) : fp r x b := by
 cases r <;> cases r' <;> first | exact False.elim h | exact h | (cases hs; done)
def at0 (k : Nat) : C -> C
 | .mp 0 => .mp k
 | .bp 0 o => .bp k o
 | .rv 0 => .rv k
 | .bnd f (.mp 0) => .bnd f (.mp k)
 | c => c
def okA : C -> Bool
 | .mp 0 => true
 | .bp 0 _ => true
 | .rv 0 => true
 | .bnd _ (.mp 0) => true
 | c => c.cl
theorem b8V {ν : List Value} {w : World} {O O' : Nat -> Prop} {k : Nat} {x : Value} (hk : ν[k]? = some x) (hO : ∀ b, O' b -> O b) {c : C} {y : Value} (hc : okA c = true) (h : Den ν w O (at0 k c) y) : Den [x] w O' c y := by
 unfold okA at hc
 split at hc
 ·simp only [at0, Den] at h ⊢
  rw [hk] at h
  exact h
 ·simp only [at0, Den] at h ⊢
  rw [hk] at h
  exact h
 ·simp only [at0, Den] at h ⊢
  rw [hk] at h
  exact h
 ·simp only [at0, Den] at h ⊢
  rw [hk] at h
  exact h
 ·rename_i c0 h1 h2 h3 h4
  have e : at0 k c = c := by
   cases c with
   | mp j => cases j with
    | zero => exact (h1 rfl).elim
    | succ j => rfl
   | bp j o => cases j with
    | zero => exact (h2 _ rfl).elim
    | succ j => rfl
   | rv j => cases j with
    | zero => exact (h3 rfl).elim
    | succ j => rfl
   | bnd g d => cases d with
    | mp j => cases j with
     | zero => exact (h4 _ rfl).elim
     | succ j => rfl
    | _ => rfl
   | _ => rfl
  rw [e] at h
  exact (Fz.keep (Keeps.sub hO) (h.fz hc)).den _
theorem b0z {ν : List Value} {w : World} {O O' : Nat -> Prop} {k : Nat} {x : Value} (hk : ν[k]? = some x) (hO : ∀ b, O' b -> O b) : ∀ {cs : List C} {vs : List Value}, cs.all okA = true -> l6 ν w O (cs.map (at0 k)) vs -> l6 [x] w O' cs vs
 | [], vs, _, h => by simpa only [c2d, l6] using h
 | c :: cs, vs, hc, h => by
  simp only [c1R, l6, List.all_cons, c1J] at h hc ⊢
  obtain ⟨y, ys, e, h1, h2⟩ := h
  exact ⟨y, ys, e, b8V hk hO hc.1 h1, b0z hk hO hc.2 h2⟩
theorem l8.lift {E : Ctx} {rs : List Res} {k f : Nat} {args : List C} {s : C} {r r' : Res} (hk : rs[k]? = some r) (h : l8 E [r] f args s [r'] []) (hs : (r.shut && r'.shut) = true) (ha : args.all okA = true) (hc : s.cl = true) : l8 E rs f (args.map (at0 k)) s (rs.set k r') [] := by
 rw [c1J] at hs
 intro av ν w vs hR hav hF hD
 obtain ⟨x, hx, hok⟩ := hR.res k r hk
 have hown : ∀ b, fp r x b -> owned rs ν b := fun b hb => ⟨k, r, x, hk, hx, hb⟩
 have ho1 : ∀ (q : Res) b, owned [q] [x] b <-> fp q x b := fun q b => by
  constructor
  ·rintro ⟨l, q', y, h1, h2, h3⟩
   cases l with
   | zero => simp at h1 h2; subst h1 h2; exact h3
   | succ l => simp at h1
  ·exact fun hb => ⟨0, q, x, rfl, rfl, hb⟩
 let av' : Nat -> Prop := fun b => OO av rs ν b /\ ¬ fp r x b
 have hOO : ∀ b, OO av' [r] [x] b -> OO av rs ν b := fun b hb => by
  rcases hb with hb | hb
  ·exact hb.1
  ·exact .inr (hown b ((ho1 r b).1 hb))
 have hRG : RG av' E.own0 E.w0.heap.size [x] [r] w := by
  refine ⟨rfl, fun l q hq => ?_, fun l m q q' y y' b hne h1 h2 => ?_, fun b hb => ?_, fun b hb => ?_, hR.n0⟩
  ·cases l with
   | zero => simp at hq; subst hq; exact ⟨x, rfl, a4y hs.1 hOO hok⟩
   | succ l => simp at hq
  ·have e1 : l = 0 := by have := (c1F.1 h1).1; simp at this; exact this
   have e2 : m = 0 := by have := (c1F.1 h2).1; simp at this; exact this
   omega
  ·have hb' := (ho1 r b).1 hb
   obtain ⟨g1, g2, g3⟩ := hR.low b (hown b hb')
   exact ⟨g1, fun h => h.2 hb', g3⟩
  ·rcases hb.1 with h1 | h1
   ·exact hR.av b h1
   ·exact (hR.low b h1).1
 have hav' : ∀ b, E.av b -> av' b := fun b hb => ⟨.inl (hav b hb), fun hf => (hR.low b (hown b hf)).2.1 (hav b hb)⟩
 have hD' : l6 [x] w (OO av' [r] [x]) args vs := b0z hx hOO ha hD
 refine (h av' [x] w vs hRG hav' hF hD').mono ?_
 rintro e w' ⟨y, ν', rfl, h1, h2, h3⟩
 have hν : ν' = [x] := by
  have hl := h1.len
  have h0 := h2.nu 0 x (fun hm => by cases hm) rfl
  match ν', hl, h0 with
  | [z], _, h0 => simp at h0; rw [h0]
 subst hν
 have hT : Turned w w' (fp r x) := ⟨h2.os, h2.tape, h2.output, h2.size, fun b hb hn => h2.block b hb fun ho => hn ((ho1 r b).1 ho)⟩
 have hOO' : ∀ b, OO av (rs.set k r') ν b -> OO av' [r'] [x] b := fun b hb => by
  rcases hb with hb | ⟨l, q, z, hq, hz, hf⟩
  ·exact .inl ⟨.inl hb, fun hf => (hR.low b (hown b hf)).2.1 hb⟩
  ·by_cases e : k = l
   ·subst e
    have hkl := (c1F.1 hk).1
    rw [List.getElem?_set_self hkl] at hq
    rw [hx] at hz
    cases hq
    cases hz
    exact .inr ((ho1 r' b).2 hf)
   ·rw [List.getElem?_set_ne e] at hq
    exact .inl ⟨.inr ⟨l, q, z, hq, hz, hf⟩, fun hf' => hR.dis k l r q x z b e hk hq hx hz hf' hf⟩
 have hup := hR.upd (r' := r') hk hx hT (fun b hb => b9c hs.1 hb) (fun _ => by
  obtain ⟨x', hx', hok'⟩ := h1.res 0 r' rfl
  simp at hx'
  subst hx'
  exact a4y hs.2 hOO' hok')
 exact ⟨y, ν, rfl, hup.1, hup.2, (Fz.keep (Keeps.sub hOO') (h3.fz hc)).den ν⟩
end Go.Proofs.YtogfpjohjphngaaGreatDoor.Eng
namespace Go.Proofs.YtogfpjohjphngaaGreatDoor
open Go Go.RowKit Eng
set_option maxRecDepth 10000
set_option maxHeartbeats 8000000
theorem c0E (n : Nms) (s : List UInt8) : (a0U (.string (bs s)) (nmE n)).getD (.bool false) = .bool (n.contains s) := by
 rw [b8W]; cases n.contains s <;> rfl
theorem a9Q {E : Ctx} (hP : E.P = Tryz.prog) (n : Nms) (s : List UInt8) (hs : s.length <= 1099511627776) :
  l8 E [.map true (nmE n)] 88 [.mp 0, sb s] (ints (J7 n s).1) [.map true (nmE (J7 n s).2)] [] := by
 obtain ⟨P, eff', N, w0, own0, av0, nu0, pk0⟩ := E
 simp only at hP
 subst hP
 refine l8.of (eff := eff) Tryz.func88 (by cbv) (by exact c1Q rfl) fun w own av ν hν => ?_
 have hν0 : ν.length <= 1 := by rw [hν]; exact c1I _
 have h1 := b8w s hs
 have hk := c0E n s
 have hp := c0i n s
 unfold J7
 generalize a0u s = q at *
 generalize n.contains s = c at *
 simp only [j6]
 simp only [sb, ints] at *
 (repeat first | refine uA ?_ | (refine uK ?_ ?_; focus first | omega | (intros; simp_all <;> omega)) | simp (disch := omega) only [go_sem, Nat.reduceBEq, Nat.reduceAdd, ww] | (refine uB h1 ?_ ?_; exact rfl))
 refine S.cond rfl (fun hc => ?_) (fun hc => ?_)
 ·rw [if_pos (by simpa using hc)]
  (repeat first | refine uA ?_ | (refine uK ?_ ?_; focus first | omega | (intros; simp_all <;> omega)) | simp (disch := omega) only [go_sem, Nat.reduceBEq, Nat.reduceAdd, ww])
  (refine S.done ?_; simp only [p8, l7, go_sem, Nat.reduceBEq, Nat.reduceAdd, Nat.reduceLeDiff, Int.reduceToNat, Int.reducePow]; (repeat (refine ⟨?_, ?_⟩; focus first | trivial | omega | simp)); exact d9.O1 (Imp.refl rfl) (by (repeat first | refine uA ?_ | (refine ⟨?_, ?_⟩; focus first | rfl | simp [slot]) | rfl | simp)) (c1G hν0 (by simp)))
 rw [if_neg (by simpa using hc)]
 (repeat first | refine uA ?_ | (refine uK ?_ ?_; focus first | omega | (intros; simp_all <;> omega)) | simp (disch := omega) only [go_sem, Nat.reduceBEq, Nat.reduceAdd, ww, hk])
 refine S.cond rfl (fun hc => ?_) (fun hc => ?_)
 ·rw [if_pos hc]
  (repeat first | refine uA ?_ | (refine uK ?_ ?_; focus first | omega | (intros; simp_all <;> omega)) | simp (disch := omega) only [go_sem, Nat.reduceBEq, Nat.reduceAdd, ww])
  (refine S.done ?_; simp only [p8, l7, go_sem, Nat.reduceBEq, Nat.reduceAdd, Nat.reduceLeDiff, Int.reduceToNat, Int.reducePow]; (repeat (refine ⟨?_, ?_⟩; focus first | trivial | omega | simp)); exact d9.O1 (Imp.refl rfl) (by (repeat first | refine uA ?_ | (refine ⟨?_, ?_⟩; focus first | rfl | simp [slot]) | rfl | simp)) (c1G hν0 (by simp)))
 ·rw [if_neg (by rw [hc]; decide)]
  have hp := hp hc
  (repeat first | refine uA ?_ | (refine uK ?_ ?_; focus first | omega | (intros; simp_all <;> omega)) | simp (disch := omega) only [go_sem, Nat.reduceBEq, Nat.reduceAdd, ww, hp])
  (refine S.done ?_; simp only [p8, l7, go_sem, Nat.reduceBEq, Nat.reduceAdd, Nat.reduceLeDiff, Int.reduceToNat, Int.reducePow]; (repeat (refine ⟨?_, ?_⟩; focus first | trivial | omega | simp)); exact d9.O1 (Imp.refl rfl) (by (repeat first | refine uA ?_ | (refine ⟨?_, ?_⟩; focus first | rfl | simp [slot]) | rfl | simp)) (c1G hν0 (by simp)))
theorem b9J {E : Ctx} (hP : E.P = Tryz.prog) (ht0 : Tz E) (n : Nms) (p : Pt) (hb : Pb 1073741824 p) :
  l8 E [.map true (nmE n)] 93 [.mp 0, p.c] (ints (Z5 n p).1) [.map true (nmE (Z5 n p).2)] [] := by
 obtain ⟨P, eff', N, w0, own0, av0, nu0, pk0⟩ := E
 simp only at hP
 subst hP
 refine l8.ofT (eff := eff) ht0 Tryz.func93 (by cbv) (by exact c1Q rfl) fun w own av ν hν ht => ?_
 have hν0 : ν.length <= 1 := by rw [hν]; exact c1I _
 obtain ⟨name, shape, ⟨x, y, half, t⟩⟩ := p
 obtain ⟨b0, b1, b2, b3, b4⟩ := hb
 simp only at b0 b1 b2 b3 b4
 have h1 := fun (E : Ctx) (hP : E.P = Tryz.prog) => a9Q hP n name (by omega)
 have h2 := a9Y shape b1
 have h3 := b0C ⟨x, y, half, t⟩ ⟨b2.mono (by decide), b3.mono (by decide), b4.mono (by decide)⟩
 unfold Z5
 simp only
 generalize J7 n name = r at *
 obtain ⟨e1, m⟩ := r
 generalize L8 shape = e2 at *
 generalize okF ⟨x, y, half, t⟩ = q at *
 simp only [j6]
 simp only [Pt.c, Pt.enc, Fr.c, Fr.enc, vts, sb, ints] at *
 (repeat first | refine uA ?_ | (refine uK ?_ ?_; focus first | omega | (intros; simp_all <;> omega)) | simp (disch := omega) only [go_sem, Nat.reduceBEq, Nat.reduceAdd, ww] | refine l9.t (l8.lift (k := 0) rfl (h1 _ rfl) rfl rfl rfl) ?_)
 refine S.cond rfl (fun hc => ?_) (fun hc => ?_)
 ·rw [if_pos (by simpa using hc)]
  (repeat first | refine uA ?_ | (refine uK ?_ ?_; focus first | omega | (intros; simp_all <;> omega)) | simp (disch := omega) only [go_sem, Nat.reduceBEq, Nat.reduceAdd, ww])
  (refine S.done ?_; simp only [p8, l7, go_sem, Nat.reduceBEq, Nat.reduceAdd, Nat.reduceLeDiff, Int.reduceToNat, Int.reducePow]; (repeat (refine ⟨?_, ?_⟩; focus first | trivial | omega | simp)); exact d9.O1 (Imp.refl rfl) (by (repeat first | refine uA ?_ | (refine ⟨?_, ?_⟩; focus first | rfl | simp [slot]) | rfl | simp)) (c1G hν0 (by simp)))
 rw [if_neg (by simpa using hc)]
 (repeat first | refine uA ?_ | (refine uK ?_ ?_; focus first | omega | (intros; simp_all <;> omega)) | simp (disch := omega) only [go_sem, Nat.reduceBEq, Nat.reduceAdd, ww] | (refine uD h2 ?_ ?_ ?_; exact ht; exact rfl))
 refine S.cond rfl (fun hc => ?_) (fun hc => ?_)
 ·rw [if_pos (by simpa using hc)]
  (repeat first | refine uA ?_ | (refine uK ?_ ?_; focus first | omega | (intros; simp_all <;> omega)) | simp (disch := omega) only [go_sem, Nat.reduceBEq, Nat.reduceAdd, ww])
  (refine S.done ?_; simp only [p8, l7, go_sem, Nat.reduceBEq, Nat.reduceAdd, Nat.reduceLeDiff, Int.reduceToNat, Int.reducePow]; (repeat (refine ⟨?_, ?_⟩; focus first | trivial | omega | simp)); exact d9.O1 (Imp.refl rfl) (by (repeat first | refine uA ?_ | (refine ⟨?_, ?_⟩; focus first | rfl | simp [slot]) | rfl | simp)) (c1G hν0 (by simp)))
 rw [if_neg (by simpa using hc)]
 (repeat first | refine uA ?_ | (refine uK ?_ ?_; focus first | omega | (intros; simp_all <;> omega)) | simp (disch := omega) only [go_sem, Nat.reduceBEq, Nat.reduceAdd, ww] | (refine uD h3 ?_ ?_ ?_; exact ht; exact rfl))
 refine S.cond rfl (fun hc => ?_) (fun hc => ?_)
 ·rw [if_neg (by simpa using hc)]
  (repeat first | refine uA ?_ | (refine uK ?_ ?_; focus first | omega | (intros; simp_all <;> omega)) | simp (disch := omega) only [go_sem, Nat.reduceBEq, Nat.reduceAdd, ww])
  (refine S.done ?_; simp only [p8, l7, go_sem, Nat.reduceBEq, Nat.reduceAdd, Nat.reduceLeDiff, Int.reduceToNat, Int.reducePow]; (repeat (refine ⟨?_, ?_⟩; focus first | trivial | omega | simp)); exact d9.O1 (Imp.refl rfl) (by (repeat first | refine uA ?_ | (refine ⟨?_, ?_⟩; focus first | rfl | simp [slot]) | rfl | simp)) (c1G hν0 (by simp)))
 ·rw [if_pos (by simpa using hc)]
  (repeat first | refine uA ?_ | (refine uK ?_ ?_; focus first | omega | (intros; simp_all <;> omega)) | simp (disch := omega) only [go_sem, Nat.reduceBEq, Nat.reduceAdd, ww])
  (refine S.done ?_; simp only [p8, l7, go_sem, Nat.reduceBEq, Nat.reduceAdd, Nat.reduceLeDiff, Int.reduceToNat, Int.reducePow]; (repeat (refine ⟨?_, ?_⟩; focus first | trivial | omega | simp)); exact d9.O1 (Imp.refl rfl) (by (repeat first | refine uA ?_ | (refine ⟨?_, ?_⟩; focus first | rfl | simp [slot]) | rfl | simp)) (c1G hν0 (by simp)))
theorem c0s {E : Ctx} (hP : E.P = Tryz.prog) (ht0 : Tz E) (n : Nms) (s : Sl) (hb : Sb 1073741824 s) :
  l8 E [.map true (nmE n)] 95 [.mp 0, s.c] (ints (Z8 n s).1) [.map true (nmE (Z8 n s).2)] [] := by
 obtain ⟨P, eff', N, w0, own0, av0, nu0, pk0⟩ := E
 simp only at hP
 subst hP
 refine l8.ofT (eff := eff) ht0 Tryz.func95 (by cbv) (by exact c1Q rfl) fun w own av ν hν ht => ?_
 have hν0 : ν.length <= 1 := by rw [hν]; exact c1I _
 obtain ⟨name, ⟨x, y, half, t⟩, within⟩ := s
 obtain ⟨b0, ⟨b2, b3, b4⟩, b5⟩ := hb
 simp only at b0 b2 b3 b4 b5
 have h1 := fun (E : Ctx) (hP : E.P = Tryz.prog) => a9Q hP n name (by omega)
 have h3 := b0C ⟨x, y, half, t⟩ ⟨b2.mono (by decide), b3.mono (by decide), b4.mono (by decide)⟩
 have h4 := a0z within (b5.mono (by decide))
 have h5 := a2u within (b5.mono (by decide))
 have h6 := K8 within (b5.mono (by decide))
 unfold Z8
 simp only
 generalize J7 n name = r at *
 obtain ⟨e1, m⟩ := r
 generalize okF ⟨x, y, half, t⟩ = q1 at *
 generalize decide within.D6 = q2 at *
 generalize j4 within = q3 at *
 generalize r9 (Nm.j3 within) = n4 at *
 simp only [j6]
 simp only [Sl.c, Sl.enc, Fr.c, Fr.enc, vts, rc, sb, ints] at *
 (repeat first | refine uA ?_ | (refine uK ?_ ?_; focus first | omega | (intros; simp_all <;> omega)) | simp (disch := omega) only [go_sem, Nat.reduceBEq, Nat.reduceAdd, ww] | refine l9.t (l8.lift (k := 0) rfl (h1 _ rfl) rfl rfl rfl) ?_)
 refine S.cond rfl (fun hc => ?_) (fun hc => ?_)
 ·rw [if_pos (by simpa using hc)]
  (repeat first | refine uA ?_ | (refine uK ?_ ?_; focus first | omega | (intros; simp_all <;> omega)) | simp (disch := omega) only [go_sem, Nat.reduceBEq, Nat.reduceAdd, ww])
  (refine S.done ?_; simp only [p8, l7, go_sem, Nat.reduceBEq, Nat.reduceAdd, Nat.reduceLeDiff, Int.reduceToNat, Int.reducePow]; (repeat (refine ⟨?_, ?_⟩; focus first | trivial | omega | simp)); exact d9.O1 (Imp.refl rfl) (by (repeat first | refine uA ?_ | (refine ⟨?_, ?_⟩; focus first | rfl | simp [slot]) | rfl | simp)) (c1G hν0 (by simp)))
 rw [if_neg (by simpa using hc)]
 (repeat first | refine uA ?_ | (refine uK ?_ ?_; focus first | omega | (intros; simp_all <;> omega)) | simp (disch := omega) only [go_sem, Nat.reduceBEq, Nat.reduceAdd, ww] | (refine uD h3 ?_ ?_ ?_; exact ht; exact rfl) | (refine uD h4 ?_ ?_ ?_; exact ht; exact rfl) | (refine uD h5 ?_ ?_ ?_; exact ht; exact rfl) | (refine uD h6 ?_ ?_ ?_; exact ht; exact rfl))
 refine S.cond rfl (fun hc => ?_) (fun hc => ?_)
 ·rw [if_neg (by simp only [c1X, Bool.not_eq_true', c1D] at hc; simp only [c1J, c1D]; rintro ⟨⟨⟨h7, h8⟩, h9⟩, h10⟩; rcases hc with ((hc | hc) | hc) | hc <;> first | (rw [hc] at h7; cases h7; done) | (rw [hc] at h8; cases h8; done) | (rw [hc] at h9; cases h9; done) | omega)]
  (repeat first | refine uA ?_ | (refine uK ?_ ?_; focus first | omega | (intros; simp_all <;> omega)) | simp (disch := omega) only [go_sem, Nat.reduceBEq, Nat.reduceAdd, ww])
  (refine S.done ?_; simp only [p8, l7, go_sem, Nat.reduceBEq, Nat.reduceAdd, Nat.reduceLeDiff, Int.reduceToNat, Int.reducePow]; (repeat (refine ⟨?_, ?_⟩; focus first | trivial | omega | simp)); exact d9.O1 (Imp.refl rfl) (by (repeat first | refine uA ?_ | (refine ⟨?_, ?_⟩; focus first | rfl | simp [slot]) | rfl | simp)) (c1G hν0 (by simp)))
 ·rw [if_pos (by simp only [c1L, Bool.not_eq_false', c1E] at hc; simp only [c1J, c1D]; obtain ⟨⟨⟨h7, h8⟩, h9⟩, h10⟩ := hc; exact ⟨⟨⟨h7, h8⟩, h9⟩, by omega⟩)]
  (repeat first | refine uA ?_ | (refine uK ?_ ?_; focus first | omega | (intros; simp_all <;> omega)) | simp (disch := omega) only [go_sem, Nat.reduceBEq, Nat.reduceAdd, ww])
  (refine S.done ?_; simp only [p8, l7, go_sem, Nat.reduceBEq, Nat.reduceAdd, Nat.reduceLeDiff, Int.reduceToNat, Int.reducePow]; (repeat (refine ⟨?_, ?_⟩; focus first | trivial | omega | simp)); exact d9.O1 (Imp.refl rfl) (by (repeat first | refine uA ?_ | (refine ⟨?_, ?_⟩; focus first | rfl | simp [slot]) | rfl | simp)) (c1G hν0 (by simp)))
theorem c0k {E : Ctx} (hP : E.P = Tryz.prog) (ht0 : Tz E) (n : Nms) (g : Gt) (hb : Gb 1073741824 g) :
  l8 E [.map true (nmE n)] 97 [.mp 0, g.c] (ints (Z9 n g).1) [.map true (nmE (Z9 n g).2)] [] := by
 obtain ⟨P, eff', N, w0, own0, av0, nu0, pk0⟩ := E
 simp only at hP
 subst hP
 refine l8.ofT (eff := eff) ht0 Tryz.func97 (by cbv) (by exact c1Q rfl) fun w own av ν hν ht => ?_
 have hν0 : ν.length <= 1 := by rw [hν]; exact c1I _
 obtain ⟨name, ⟨lx, ly⟩, ⟨hx, hy⟩⟩ := g
 obtain ⟨b0, ⟨b1, b2⟩, ⟨b3, b4⟩⟩ := hb
 simp only at b0 b1 b2 b3 b4
 have h1 := fun (E : Ctx) (hP : E.P = Tryz.prog) => a9Q hP n name (by omega)
 have h3 := a7h [⟨lx, ly⟩, ⟨hx, hy⟩] (Vbs.two (by decide) ⟨b1.mono (by decide), b2.mono (by decide)⟩ ⟨b3.mono (by decide), b4.mono (by decide)⟩)
 rw [a4N] at h3
 have h4 := N8 lx hx (b1.mono (by decide)) (b3.mono (by decide))
 have h5 := N8 ly hy (b2.mono (by decide)) (b4.mono (by decide))
 unfold Z9
 simp only
 generalize J7 n name = r at *
 obtain ⟨e1, m⟩ := r
 generalize (okV ⟨lx, ly⟩ && okV ⟨hx, hy⟩) = q1 at *
 generalize Nm.q8 (Nm.j3 lx) (Nm.j3 hx) = n1 at *
 generalize Nm.q8 (Nm.j3 ly) (Nm.j3 hy) = n2 at *
 simp only [j6]
 simp only [Gt.c, Gt.enc, vts, Vt.enc, rc, sb, ints, c1R, c2d] at *
 (repeat first | refine uA ?_ | (refine uK ?_ ?_; focus first | omega | (intros; simp_all <;> omega)) | simp (disch := omega) only [go_sem, Nat.reduceBEq, Nat.reduceAdd, ww] | refine l9.t (l8.lift (k := 0) rfl (h1 _ rfl) rfl rfl rfl) ?_)
 refine S.cond rfl (fun hc => ?_) (fun hc => ?_)
 ·rw [if_pos (by simpa using hc)]
  (repeat first | refine uA ?_ | (refine uK ?_ ?_; focus first | omega | (intros; simp_all <;> omega)) | simp (disch := omega) only [go_sem, Nat.reduceBEq, Nat.reduceAdd, ww])
  (refine S.done ?_; simp only [p8, l7, go_sem, Nat.reduceBEq, Nat.reduceAdd, Nat.reduceLeDiff, Int.reduceToNat, Int.reducePow]; (repeat (refine ⟨?_, ?_⟩; focus first | trivial | omega | simp)); exact d9.O1 (Imp.refl rfl) (by (repeat first | refine uA ?_ | (refine ⟨?_, ?_⟩; focus first | rfl | simp [slot]) | rfl | simp)) (c1G hν0 (by simp)))
 rw [if_neg (by simpa using hc)]
 (repeat first | refine uA ?_ | (refine uK ?_ ?_; focus first | omega | (intros; simp_all <;> omega)) | simp (disch := omega) only [go_sem, Nat.reduceBEq, Nat.reduceAdd, ww] | (refine uD h4 ?_ ?_ ?_; exact ht; exact rfl) | (refine uD h5 ?_ ?_ ?_; exact ht; exact rfl) | (refine uE h3 ?_ ?_ ?_ ?_; exact ht; exact rfl; focus (repeat' first | exact j5.nil | exact Imp.refl rfl | exact Imp.frz rfl rfl rfl | (refine Imp.M5 rfl rfl ?_ ?_; (focus ((try simp only [c1C]); omega)); (focus first | rfl | assumption)) | refine j5.cons ?_ ?_); done))
 refine S.cond rfl (fun hc => ?_) (fun hc => ?_)
 ·rw [if_neg (by simp only [c1X, Bool.not_eq_true', c1D] at hc; simp only [c1J, c1D]; rintro ⟨⟨h7, h8⟩, h9⟩; rcases hc with (hc | hc) | hc <;> first | (rw [hc] at h7; cases h7; done) | omega)]
  (repeat first | refine uA ?_ | (refine uK ?_ ?_; focus first | omega | (intros; simp_all <;> omega)) | simp (disch := omega) only [go_sem, Nat.reduceBEq, Nat.reduceAdd, ww])
  (refine S.done ?_; simp only [p8, l7, go_sem, Nat.reduceBEq, Nat.reduceAdd, Nat.reduceLeDiff, Int.reduceToNat, Int.reducePow]; (repeat (refine ⟨?_, ?_⟩; focus first | trivial | omega | simp)); exact d9.O1 (Imp.refl rfl) (by (repeat first | refine uA ?_ | (refine ⟨?_, ?_⟩; focus first | rfl | simp [slot]) | rfl | simp)) (c1G hν0 (by simp)))
 ·rw [if_pos (by simp only [c1L, Bool.not_eq_false', c1E] at hc; simp only [c1J, c1D]; obtain ⟨⟨h7, h8⟩, h9⟩ := hc; exact ⟨⟨h7, by omega⟩, by omega⟩)]
  (repeat first | refine uA ?_ | (refine uK ?_ ?_; focus first | omega | (intros; simp_all <;> omega)) | simp (disch := omega) only [go_sem, Nat.reduceBEq, Nat.reduceAdd, ww])
  (refine S.done ?_; simp only [p8, l7, go_sem, Nat.reduceBEq, Nat.reduceAdd, Nat.reduceLeDiff, Int.reduceToNat, Int.reducePow]; (repeat (refine ⟨?_, ?_⟩; focus first | trivial | omega | simp)); exact d9.O1 (Imp.refl rfl) (by (repeat first | refine uA ?_ | (refine ⟨?_, ?_⟩; focus first | rfl | simp [slot]) | rfl | simp)) (c1G hν0 (by simp)))
theorem b3L {E : Ctx} (hP : E.P = Tryz.prog) (ht0 : Tz E) (n : Nms) (l : List Pt) (hn : l.length <= 1073741824) (hb : ∀ x ∈ l, Pb 1073741824 x) :
  l8 E [.map true (nmE n)] 92 [pts l, .bnd 93 (.mp 0)] (ints (C9 Z5 n l).1) [.map true (nmE (C9 Z5 n l).2)] [] := by
 obtain ⟨P, eff', N, w0, own0, av0, nu0, pk0⟩ := E
 simp only at hP
 subst hP
 refine l8.ofT (eff := eff) ht0 Tryz.func92 (by cbv) (by exact c1Q rfl) fun w own av ν hν ht => ?_
 have hν0 : ν.length <= 1 := by rw [hν]; exact c1I _
 simp only [j6, pts, ints]
 (repeat first | refine uA ?_ | (refine uK ?_ ?_; focus first | omega | trivial | (intros; simp_all <;> omega)) | simp (disch := omega) only [go_sem, Nat.reduceBEq, Nat.reduceAdd, Nat.reduceLeDiff, Int.reduceToNat, Int.reducePow, ww, c1y])
 refine S.loop (X := Nat × Nms) (fun x => ⟨[(1, .bnd 93 (.mp 0)), (8, pts l), (9, ints l.length), (10, ints x.1)], [.map true (nmE x.2)]⟩) (fun x => x.1 <= l.length /\ C9 Z5 n l = C9 Z5 x.2 (l.drop x.1)) (fun x => l.length - x.1) (0, n) ⟨c1H _, rfl⟩ (by (repeat first | refine uA ?_ | (refine ⟨?_, ?_⟩; focus first | rfl | trivial | (simp [slot]; done)) | rfl | trivial | simp | exact c1G hν0 (by simp))) ?_
 rintro ⟨i, m⟩ ⟨hi, hg⟩
 simp only [pts, ints] at hi hg ⊢
 (repeat first | refine uA ?_ | (refine uK ?_ ?_; focus first | omega | trivial | (intros; simp_all <;> omega)) | simp (disch := omega) only [go_sem, Nat.reduceBEq, Nat.reduceAdd, Nat.reduceLeDiff, Int.reduceToNat, Int.reducePow, ww])
 (refine uJ rfl (fun hc => ?_) fun hc => ?_)
 ·have hi' : i < l.length := by omega
  have hgi := c1x hi'
  generalize l[i] = x at hgi
  have hst := U1 (f := Z5) (s := m) hgi
  have hnx := S9 (f := Z5) (s := m) hgi
  have hs := fun (E : Ctx) (hP : E.P = Tryz.prog) (ht : Tz E) => b9J hP ht m x (hb x (c1A hgi))
  generalize Z5 m x = r at *
  obtain ⟨e, m'⟩ := r
  simp only [Pt.c, Pt.enc, vts, sb, ints] at hs hst hnx
  (repeat first | refine uA ?_ | (refine uK ?_ ?_; focus first | omega | trivial | (intros; simp_all <;> omega)) | simp (disch := omega) only [go_sem, Nat.reduceBEq, Nat.reduceAdd, Nat.reduceLeDiff, Int.reduceToNat, Int.reducePow, ww, hgi, c1z, c1y, Pt.c, Pt.enc, vts, sb] | refine l9.t (l8.lift (k := 0) rfl (hs _ rfl ht) rfl rfl rfl) ?_)
  refine S.cond rfl (fun hc2 => ?_) (fun hc2 => ?_)
  ·rw [hg, hst (by simpa using hc2)]
   (repeat first | refine uA ?_ | (refine uK ?_ ?_; focus first | omega | trivial | (intros; simp_all <;> omega)) | simp (disch := omega) only [go_sem, Nat.reduceBEq, Nat.reduceAdd, Nat.reduceLeDiff, Int.reduceToNat, Int.reducePow, ww])
   (refine S.done ?_; simp only [p8, l7, go_sem, Nat.reduceBEq, Nat.reduceAdd, Nat.reduceLeDiff, Int.reduceToNat, Int.reducePow]; (repeat (refine ⟨?_, ?_⟩; focus first | trivial | omega | simp)); exact d9.O1 (Imp.refl rfl) (by (repeat first | refine uA ?_ | (refine ⟨?_, ?_⟩; focus first | rfl | trivial | (simp [slot]; done)) | rfl | trivial | simp)) (c1G hν0 (by simp)))
  ·have hc3 : e = 0 := by simpa using hc2
   (repeat first | refine uA ?_ | (refine uK ?_ ?_; focus first | omega | trivial | (intros; simp_all <;> omega)) | simp (disch := omega) only [go_sem, Nat.reduceBEq, Nat.reduceAdd, Nat.reduceLeDiff, Int.reduceToNat, Int.reducePow, ww])
   refine S.next (x := (i, m)) (i + 1, m') ⟨by simp only; omega, by simp only; rw [hg, hnx hc3]⟩ (by simp only; omega) (by (repeat first | refine uA ?_ | (refine ⟨?_, ?_⟩; focus first | rfl | trivial | (simp [slot]; done)) | rfl | trivial | simp | exact c1G hν0 (by simp)))
 ·rw [hg, X8 (by omega)]
  (repeat first | refine uA ?_ | (refine uK ?_ ?_; focus first | omega | trivial | (intros; simp_all <;> omega)) | simp (disch := omega) only [go_sem, Nat.reduceBEq, Nat.reduceAdd, Nat.reduceLeDiff, Int.reduceToNat, Int.reducePow, ww])
  (refine S.done ?_; simp only [p8, l7, go_sem, Nat.reduceBEq, Nat.reduceAdd, Nat.reduceLeDiff, Int.reduceToNat, Int.reducePow]; (repeat (refine ⟨?_, ?_⟩; focus first | trivial | omega | simp)); exact d9.O1 (Imp.refl rfl) (by (repeat first | refine uA ?_ | (refine ⟨?_, ?_⟩; focus first | rfl | trivial | (simp [slot]; done)) | rfl | trivial | simp)) (c1G hν0 (by simp)))
theorem b3m {E : Ctx} (hP : E.P = Tryz.prog) (ht0 : Tz E) (n : Nms) (l : List Sl) (hn : l.length <= 1073741824) (hb : ∀ x ∈ l, Sb 1073741824 x) :
  l8 E [.map true (nmE n)] 94 [sls l, .bnd 95 (.mp 0)] (ints (C9 Z8 n l).1) [.map true (nmE (C9 Z8 n l).2)] [] := by
 obtain ⟨P, eff', N, w0, own0, av0, nu0, pk0⟩ := E
 simp only at hP
 subst hP
 refine l8.ofT (eff := eff) ht0 Tryz.func94 (by cbv) (by exact c1Q rfl) fun w own av ν hν ht => ?_
 have hν0 : ν.length <= 1 := by rw [hν]; exact c1I _
 simp only [j6, sls, ints]
 (repeat first | refine uA ?_ | (refine uK ?_ ?_; focus first | omega | trivial | (intros; simp_all <;> omega)) | simp (disch := omega) only [go_sem, Nat.reduceBEq, Nat.reduceAdd, Nat.reduceLeDiff, Int.reduceToNat, Int.reducePow, ww, c1y])
 refine S.loop (X := Nat × Nms) (fun x => ⟨[(1, .bnd 95 (.mp 0)), (8, sls l), (9, ints l.length), (10, ints x.1)], [.map true (nmE x.2)]⟩) (fun x => x.1 <= l.length /\ C9 Z8 n l = C9 Z8 x.2 (l.drop x.1)) (fun x => l.length - x.1) (0, n) ⟨c1H _, rfl⟩ (by (repeat first | refine uA ?_ | (refine ⟨?_, ?_⟩; focus first | rfl | trivial | (simp [slot]; done)) | rfl | trivial | simp | exact c1G hν0 (by simp))) ?_
 rintro ⟨i, m⟩ ⟨hi, hg⟩
 simp only [sls, ints] at hi hg ⊢
 (repeat first | refine uA ?_ | (refine uK ?_ ?_; focus first | omega | trivial | (intros; simp_all <;> omega)) | simp (disch := omega) only [go_sem, Nat.reduceBEq, Nat.reduceAdd, Nat.reduceLeDiff, Int.reduceToNat, Int.reducePow, ww])
 (refine uJ rfl (fun hc => ?_) fun hc => ?_)
 ·have hi' : i < l.length := by omega
  have hgi := c1x hi'
  generalize l[i] = x at hgi
  have hst := U1 (f := Z8) (s := m) hgi
  have hnx := S9 (f := Z8) (s := m) hgi
  have hs := fun (E : Ctx) (hP : E.P = Tryz.prog) (ht : Tz E) => c0s hP ht m x (hb x (c1A hgi))
  generalize Z8 m x = r at *
  obtain ⟨e, m'⟩ := r
  simp only [Sl.c, Sl.enc, sb, ints] at hs hst hnx
  (repeat first | refine uA ?_ | (refine uK ?_ ?_; focus first | omega | trivial | (intros; simp_all <;> omega)) | simp (disch := omega) only [go_sem, Nat.reduceBEq, Nat.reduceAdd, Nat.reduceLeDiff, Int.reduceToNat, Int.reducePow, ww, hgi, c1z, c1y, Sl.c, Sl.enc, sb] | refine l9.t (l8.lift (k := 0) rfl (hs _ rfl ht) rfl rfl rfl) ?_)
  refine S.cond rfl (fun hc2 => ?_) (fun hc2 => ?_)
  ·rw [hg, hst (by simpa using hc2)]
   (repeat first | refine uA ?_ | (refine uK ?_ ?_; focus first | omega | trivial | (intros; simp_all <;> omega)) | simp (disch := omega) only [go_sem, Nat.reduceBEq, Nat.reduceAdd, Nat.reduceLeDiff, Int.reduceToNat, Int.reducePow, ww])
   (refine S.done ?_; simp only [p8, l7, go_sem, Nat.reduceBEq, Nat.reduceAdd, Nat.reduceLeDiff, Int.reduceToNat, Int.reducePow]; (repeat (refine ⟨?_, ?_⟩; focus first | trivial | omega | simp)); exact d9.O1 (Imp.refl rfl) (by (repeat first | refine uA ?_ | (refine ⟨?_, ?_⟩; focus first | rfl | trivial | (simp [slot]; done)) | rfl | trivial | simp)) (c1G hν0 (by simp)))
  ·have hc3 : e = 0 := by simpa using hc2
   (repeat first | refine uA ?_ | (refine uK ?_ ?_; focus first | omega | trivial | (intros; simp_all <;> omega)) | simp (disch := omega) only [go_sem, Nat.reduceBEq, Nat.reduceAdd, Nat.reduceLeDiff, Int.reduceToNat, Int.reducePow, ww])
   refine S.next (x := (i, m)) (i + 1, m') ⟨by simp only; omega, by simp only; rw [hg, hnx hc3]⟩ (by simp only; omega) (by (repeat first | refine uA ?_ | (refine ⟨?_, ?_⟩; focus first | rfl | trivial | (simp [slot]; done)) | rfl | trivial | simp | exact c1G hν0 (by simp)))
 ·rw [hg, X8 (by omega)]
  (repeat first | refine uA ?_ | (refine uK ?_ ?_; focus first | omega | trivial | (intros; simp_all <;> omega)) | simp (disch := omega) only [go_sem, Nat.reduceBEq, Nat.reduceAdd, Nat.reduceLeDiff, Int.reduceToNat, Int.reducePow, ww])
  (refine S.done ?_; simp only [p8, l7, go_sem, Nat.reduceBEq, Nat.reduceAdd, Nat.reduceLeDiff, Int.reduceToNat, Int.reducePow]; (repeat (refine ⟨?_, ?_⟩; focus first | trivial | omega | simp)); exact d9.O1 (Imp.refl rfl) (by (repeat first | refine uA ?_ | (refine ⟨?_, ?_⟩; focus first | rfl | trivial | (simp [slot]; done)) | rfl | trivial | simp)) (c1G hν0 (by simp)))
theorem b3t {E : Ctx} (hP : E.P = Tryz.prog) (ht0 : Tz E) (n : Nms) (l : List Gt) (hn : l.length <= 1073741824) (hb : ∀ x ∈ l, Gb 1073741824 x) :
  l8 E [.map true (nmE n)] 96 [gts l, .bnd 97 (.mp 0)] (ints (C9 Z9 n l).1) [.map true (nmE (C9 Z9 n l).2)] [] := by
 obtain ⟨P, eff', N, w0, own0, av0, nu0, pk0⟩ := E
 simp only at hP
 subst hP
 refine l8.ofT (eff := eff) ht0 Tryz.func96 (by cbv) (by exact c1Q rfl) fun w own av ν hν ht => ?_
 have hν0 : ν.length <= 1 := by rw [hν]; exact c1I _
 simp only [j6, gts, ints]
 (repeat first | refine uA ?_ | (refine uK ?_ ?_; focus first | omega | trivial | (intros; simp_all <;> omega)) | simp (disch := omega) only [go_sem, Nat.reduceBEq, Nat.reduceAdd, Nat.reduceLeDiff, Int.reduceToNat, Int.reducePow, ww, c1y])
 refine S.loop (X := Nat × Nms) (fun x => ⟨[(1, .bnd 97 (.mp 0)), (8, gts l), (9, ints l.length), (10, ints x.1)], [.map true (nmE x.2)]⟩) (fun x => x.1 <= l.length /\ C9 Z9 n l = C9 Z9 x.2 (l.drop x.1)) (fun x => l.length - x.1) (0, n) ⟨c1H _, rfl⟩ (by (repeat first | refine uA ?_ | (refine ⟨?_, ?_⟩; focus first | rfl | trivial | (simp [slot]; done)) | rfl | trivial | simp | exact c1G hν0 (by simp))) ?_
 rintro ⟨i, m⟩ ⟨hi, hg⟩
 simp only [gts, ints] at hi hg ⊢
 (repeat first | refine uA ?_ | (refine uK ?_ ?_; focus first | omega | trivial | (intros; simp_all <;> omega)) | simp (disch := omega) only [go_sem, Nat.reduceBEq, Nat.reduceAdd, Nat.reduceLeDiff, Int.reduceToNat, Int.reducePow, ww])
 (refine uJ rfl (fun hc => ?_) fun hc => ?_)
 ·have hi' : i < l.length := by omega
  have hgi := c1x hi'
  generalize l[i] = x at hgi
  have hst := U1 (f := Z9) (s := m) hgi
  have hnx := S9 (f := Z9) (s := m) hgi
  have hs := fun (E : Ctx) (hP : E.P = Tryz.prog) (ht : Tz E) => c0k hP ht m x (hb x (c1A hgi))
  generalize Z9 m x = r at *
  obtain ⟨e, m'⟩ := r
  simp only [Gt.c, Gt.enc, sb, ints] at hs hst hnx
  (repeat first | refine uA ?_ | (refine uK ?_ ?_; focus first | omega | trivial | (intros; simp_all <;> omega)) | simp (disch := omega) only [go_sem, Nat.reduceBEq, Nat.reduceAdd, Nat.reduceLeDiff, Int.reduceToNat, Int.reducePow, ww, hgi, c1z, c1y, Gt.c, Gt.enc, sb] | refine l9.t (l8.lift (k := 0) rfl (hs _ rfl ht) rfl rfl rfl) ?_)
  refine S.cond rfl (fun hc2 => ?_) (fun hc2 => ?_)
  ·rw [hg, hst (by simpa using hc2)]
   (repeat first | refine uA ?_ | (refine uK ?_ ?_; focus first | omega | trivial | (intros; simp_all <;> omega)) | simp (disch := omega) only [go_sem, Nat.reduceBEq, Nat.reduceAdd, Nat.reduceLeDiff, Int.reduceToNat, Int.reducePow, ww])
   (refine S.done ?_; simp only [p8, l7, go_sem, Nat.reduceBEq, Nat.reduceAdd, Nat.reduceLeDiff, Int.reduceToNat, Int.reducePow]; (repeat (refine ⟨?_, ?_⟩; focus first | trivial | omega | simp)); exact d9.O1 (Imp.refl rfl) (by (repeat first | refine uA ?_ | (refine ⟨?_, ?_⟩; focus first | rfl | trivial | (simp [slot]; done)) | rfl | trivial | simp)) (c1G hν0 (by simp)))
  ·have hc3 : e = 0 := by simpa using hc2
   (repeat first | refine uA ?_ | (refine uK ?_ ?_; focus first | omega | trivial | (intros; simp_all <;> omega)) | simp (disch := omega) only [go_sem, Nat.reduceBEq, Nat.reduceAdd, Nat.reduceLeDiff, Int.reduceToNat, Int.reducePow, ww])
   refine S.next (x := (i, m)) (i + 1, m') ⟨by simp only; omega, by simp only; rw [hg, hnx hc3]⟩ (by simp only; omega) (by (repeat first | refine uA ?_ | (refine ⟨?_, ?_⟩; focus first | rfl | trivial | (simp [slot]; done)) | rfl | trivial | simp | exact c1G hν0 (by simp)))
 ·rw [hg, X8 (by omega)]
  (repeat first | refine uA ?_ | (refine uK ?_ ?_; focus first | omega | trivial | (intros; simp_all <;> omega)) | simp (disch := omega) only [go_sem, Nat.reduceBEq, Nat.reduceAdd, Nat.reduceLeDiff, Int.reduceToNat, Int.reducePow, ww])
  (refine S.done ?_; simp only [p8, l7, go_sem, Nat.reduceBEq, Nat.reduceAdd, Nat.reduceLeDiff, Int.reduceToNat, Int.reducePow]; (repeat (refine ⟨?_, ?_⟩; focus first | trivial | omega | simp)); exact d9.O1 (Imp.refl rfl) (by (repeat first | refine uA ?_ | (refine ⟨?_, ?_⟩; focus first | rfl | trivial | (simp [slot]; done)) | rfl | trivial | simp)) (c1G hν0 (by simp)))
theorem b3W (l : List (List Vt)) (hn : l.length <= 1073741824) (hb : ∀ x ∈ l, Vbs 1073741824 x) : FZ 90 [wls l, .v (.func (.func 91) #[] #[])] (ints (E5 L8 l)) := by
 refine kW Tryz.func90 (by cbv) (by rfl) fun w O hw => ?_
 have hcal : callable Tryz.prog 91 = true := by kernel_rfl
 simp only [j6, wls, ints]
 (repeat first | refine uA ?_ | (refine uK ?_ ?_; focus first | omega | trivial | (intros; simp_all <;> omega)) | simp (disch := omega) only [go_sem, Nat.reduceBEq, Nat.reduceAdd, Nat.reduceLeDiff, Int.reduceToNat, Int.reducePow, ww, c1y])
 refine S.loop (X := Nat) (fun i => ⟨[(1, .v (.func (.func 91) #[] #[])), (8, wls l), (9, ints l.length), (10, ints i)], []⟩) (fun i => i <= l.length /\ E5 L8 l = E5 L8 (l.drop i)) (fun i => l.length - i) 0 ⟨c1H _, rfl⟩ (by (repeat first | refine uA ?_ | (refine ⟨?_, ?_⟩; focus first | rfl | trivial | (simp [slot]; done)) | rfl | trivial | simp)) ?_
 rintro i ⟨hi, hg⟩
 simp only [wls, ints] at hi hg ⊢
 (repeat first | refine uA ?_ | (refine uK ?_ ?_; focus first | omega | trivial | (intros; simp_all <;> omega)) | simp (disch := omega) only [go_sem, Nat.reduceBEq, Nat.reduceAdd, Nat.reduceLeDiff, Int.reduceToNat, Int.reducePow, ww])
 (refine uJ rfl (fun hc => ?_) fun hc => ?_)
 ·have hi' : i < l.length := by omega
  have hgi := c1x hi'
  generalize l[i] = x at hgi
  have hst := a0i (f := L8) hgi
  have hnx := a0m (f := L8) hgi
  have hs := a9Y x (hb x (c1A hgi))
  generalize L8 x = e at *
  simp only [ints] at hs
  (repeat first | refine uA ?_ | (refine uK ?_ ?_; focus first | omega | trivial | (intros; simp_all <;> omega)) | simp (disch := omega) only [go_sem, Nat.reduceBEq, Nat.reduceAdd, Nat.reduceLeDiff, Int.reduceToNat, Int.reducePow, ww, hgi, c1z, c1y, hcal] | (refine uD hs ?_ ?_ ?_; exact tz hw; exact rfl))
  refine S.cond rfl (fun hc2 => ?_) (fun hc2 => ?_)
  ·rw [hg, hst (by simpa using hc2)]
   (repeat first | refine uA ?_ | (refine uK ?_ ?_; focus first | omega | trivial | (intros; simp_all <;> omega)) | simp (disch := omega) only [go_sem, Nat.reduceBEq, Nat.reduceAdd, Nat.reduceLeDiff, Int.reduceToNat, Int.reducePow, ww])
   exact S.done (d9.out rfl (Imp.refl rfl) rfl)
  ·have hc3 : e = 0 := by simpa using hc2
   (repeat first | refine uA ?_ | (refine uK ?_ ?_; focus first | omega | trivial | (intros; simp_all <;> omega)) | simp (disch := omega) only [go_sem, Nat.reduceBEq, Nat.reduceAdd, Nat.reduceLeDiff, Int.reduceToNat, Int.reducePow, ww])
   refine S.next (i + 1) ⟨by omega, by rw [hg, hnx hc3]⟩ (by omega) (by (repeat first | refine uA ?_ | (refine ⟨?_, ?_⟩; focus first | rfl | trivial | (simp [slot]; done)) | rfl | trivial | simp))
 ·rw [hg, a0G (by omega)]
  (repeat first | refine uA ?_ | (refine uK ?_ ?_; focus first | omega | trivial | (intros; simp_all <;> omega)) | simp (disch := omega) only [go_sem, Nat.reduceBEq, Nat.reduceAdd, Nat.reduceLeDiff, Int.reduceToNat, Int.reducePow, ww])
  exact S.done (d9.out rfl (Imp.refl rfl) rfl)
end Go.Proofs.YtogfpjohjphngaaGreatDoor
namespace Go.Proofs.YtogfpjohjphngaaGreatDoor.Eng
open Go Go.RowKit
def Res.bdr (n : Nat) : Res -> Bool
 | .box _ cs => C.bdL n cs
 | _ => true
theorem b5c {ν : List Value} {w : World} {O O' : Nat -> Prop} {x : Value} {r : Res} {n : Nat} (hs : r.bdr n = true) (hO : ∀ b, O' b -> O b) (h : K9 ν w O x r) : K9 (ν.take n) w O' x r := by
 cases r with
 | gone => exact h
 | box t cs =>
  obtain ⟨b, vs, h1, h2, h3, h4⟩ := h
  exact ⟨b, vs, h1, l6.keep (Keeps.sub hO) (l6.takeν n hs h2), h3, h4⟩
 | row e sz es => exact a4P hO h
 | map s es => exact h
theorem b7N {ν ν' : List Value} {w : World} {O O' : Nat -> Prop} {x : Value} {r : Res} (hn : U5 [] ν ν') (hO : ∀ b, O' b -> O b) (h : K9 ν w O x r) : K9 ν' w O' x r := by
 cases r with
 | gone => exact h
 | box t cs =>
  obtain ⟨b, vs, h1, h2, h3, h4⟩ := h
  exact ⟨b, vs, h1, l6.keep (Keeps.sub hO) (l6.nu hn (fun k hk => by cases hk) h2), h3, h4⟩
 | row e sz es => exact a4P hO h
 | map s es => exact h
theorem U5.take (ν : List Value) (n : Nat) : U5 [] (ν.take n) ν := fun _ _ _ h => V4 h
theorem c0R {ν ν' : List Value} (h : U5 [] ν ν') (hl : ν'.length = ν.length) : ν' = ν := by
 apply List.ext_getElem?
 intro i
 rcases c1V i ν.length with h1 | h1
 ·have := h i _ (fun hk => by cases hk) (c1x h1)
  rw [this, c1x h1]
 ·rw [c2k h1, c2k (by omega)]
theorem a2V {rs ext : List Res} {ν : List Value} (hl : ν.length = (rs ++ ext).length) (b : Nat) : owned (rs ++ ext) ν b <-> owned rs (ν.take rs.length) b \/ ∃ k r x, ext[k]? = some r /\ ν[rs.length + k]? = some x /\ fp r x b := by
 constructor
 ·rintro ⟨k, r, x, h1, h2, h3⟩
  rcases c1V k rs.length with h | h
  ·rw [c1K h] at h1
   exact .inl ⟨k, r, x, h1, I5 h h2, h3⟩
  ·rw [c1P h] at h1
   exact .inr ⟨k - rs.length, r, x, h1, by rw [show rs.length + (k - rs.length) = k by omega]; exact h2, h3⟩
 ·rintro (⟨k, r, x, h1, h2, h3⟩ | ⟨k, r, x, h1, h2, h3⟩)
  ·have h := (c1F.1 h1).1
   exact ⟨k, r, x, by rw [c1K h]; exact h1, V4 h2, h3⟩
  ·exact ⟨rs.length + k, r, x, by rw [c1P (by omega), show rs.length + k - rs.length = k by omega]; exact h1, h2, h3⟩
theorem l8.ext {E : Ctx} {rs rs' : List Res} (ex : List Res) {f : Nat} {args : List C} {s : C} (h : l8 E rs f args s rs' []) (hl : rs'.length = rs.length) (hb : rs.all (Res.bdr rs.length) = true) (ha : C.bdL rs.length args = true) : l8 E (rs ++ ex) f args s (rs' ++ ex) [] := by
  intro av ν w vs hR hav hF hD
  have hlen := hR.len
  have hl1 : (ν.take rs.length).length = rs.length := by rw [c1M, hlen, c1C]; omega
  generalize hν1 : ν.take rs.length = ν1 at hl1
  have hown := fun b => a2V hlen b
  rw [hν1] at hown
  have hx : ∀ b k r x, ex[k]? = some r -> ν[rs.length + k]? = some x -> fp r x b -> ¬ owned rs ν1 b := by
    rintro b k r x h1 h2 h3 ⟨l, q, y, g1, g2, g3⟩
    have hlt := (c1F.1 g1).1
    rw [<- hν1] at g2
    exact hR.dis l (rs.length + k) q r y x b (by omega) (by rw [c1K hlt]; exact g1) (by rw [c1P (by omega), show rs.length + k - rs.length = k by omega]; exact h1) (V4 g2) h2 g3 h3
  let av' : Nat -> Prop := fun b => OO av (rs ++ ex) ν b /\ ¬ owned rs ν1 b
  have hOO : ∀ b, OO av' rs ν1 b -> OO av (rs ++ ex) ν b := fun b hb => by
    rcases hb with hb | hb
    · exact hb.1
    · exact .inr ((hown b).2 (.inl hb))
  have hRG : RG av' E.own0 E.w0.heap.size ν1 rs w := by
    refine ⟨hl1, fun k r hk => ?_, fun l m q q' y y' b hne h1 h2 h3 h4 => ?_, fun b hb => ?_, fun b hb => ?_, hR.n0⟩
    · have hlt := (c1F.1 hk).1
      obtain ⟨x, hx, hok⟩ := hR.res k r (by rw [c1K hlt]; exact hk)
      refine ⟨x, by rw [<- hν1]; exact I5 hlt hx, ?_⟩
      rw [<- hν1]
      rw [List.all_eq_true] at hb
      exact b5c (hb r (c1A hk)) (by rw [hν1]; exact hOO) hok
    · have g1 := (c1F.1 h1).1
      have g2 := (c1F.1 h2).1
      rw [<- hν1] at h3 h4
      exact hR.dis l m q q' y y' b hne (by rw [c1K g1]; exact h1) (by rw [c1K g2]; exact h2) (V4 h3) (V4 h4)
    · obtain ⟨g1, g2, g3⟩ := hR.low b ((hown b).2 (.inl hb))
      exact ⟨g1, fun h => h.2 hb, g3⟩
    · rcases hb.1 with h1 | h1
      · exact hR.av b h1
      · exact (hR.low b h1).1
  have hnav : ∀ b, av b -> ¬ owned rs ν1 b := fun b hb ho => (hR.low b ((hown b).2 (.inl ho))).2.1 hb
  have hD' : l6 ν1 w (OO av' rs ν1) args vs := by
    have := l6.keep (Keeps.sub hOO) (l6.takeν rs.length ha hD)
    rwa [hν1] at this
  refine (h av' ν1 w vs hRG (fun b hb => ⟨.inl (hav b hb), hnav b (hav b hb)⟩) hF hD').mono ?_
  rintro e w' ⟨y, ν', rfl, h1, h2, h3⟩
  have hν' : ν' = ν1 := c0R h2.nu (by rw [h1.len, hl, hl1])
  subst hν'
  have hlen' : ν.length = (rs' ++ ex).length := by rw [hlen, c1C, c1C, hl]
  have hν1' : ν.take rs'.length = ν' := by rw [hl]; exact hν1
  have hown' := fun b => a2V hlen' b
  rw [hν1', hl] at hown'
  have hnu : U5 [] ν' ν := by rw [<- hν1]; exact U5.take ν _
  have hxo : ∀ b k r x, ex[k]? = some r -> ν[rs.length + k]? = some x -> fp r x b -> owned (rs ++ ex) ν b := fun b k r x g1 g2 g3 => (hown b).2 (.inr ⟨k, r, x, g1, g2, g3⟩)
  have hOO' : ∀ b, OO av (rs' ++ ex) ν b -> OO av' rs' ν' b := fun b hb => by
    rcases hb with hb | hb
    · exact .inl ⟨.inl hb, hnav b hb⟩
    · rcases (hown' b).1 hb with hb | ⟨k, r, x, g1, g2, g3⟩
      · exact .inr hb
      · exact .inl ⟨.inr (hxo b k r x g1 g2 g3), hx b k r x g1 g2 g3⟩
  have hM : Mv (rs ++ ex) ν w [] (rs' ++ ex) ν w' := by
    refine ⟨h2.os, h2.tape, h2.output, h2.size, fun b hb hn => h2.block b hb fun ho => hn ((hown b).2 (.inl ho)), fun b hb => ?_, fun _ _ _ h => h⟩
    rcases (hown' b).1 hb with hb | ⟨k, r, x, g1, g2, g3⟩
    · rcases h2.own b hb with g | g
      · exact .inl ((hown b).2 (.inl g))
      · exact .inr g
    · exact .inl (hxo b k r x g1 g2 g3)
  refine ⟨y, ν, rfl, ⟨hlen', fun k r hk => ?_, fun l m q q' z z' b hne g1 g2 g3 g4 g5 => ?_, fun b hb => ?_, fun b hb => c1S (hR.av b hb) h2.size, c1G hR.n0 h2.size⟩, hM, Den.keep (Keeps.sub hOO') (Den.nu hnu (fun k hk => by cases hk) h3)⟩
  · rcases c1V k rs'.length with hlt | hge
    · rw [c1K hlt] at hk
      obtain ⟨x, hx', hok⟩ := h1.res k r hk
      exact ⟨x, hnu k x (fun hk => by cases hk) hx', b7N hnu hOO' hok⟩
    · have hk' : (rs ++ ex)[k]? = some r := by
        rw [c1P hge] at hk
        rw [c1P (by omega), <- hl]; exact hk
      obtain ⟨x, hx', hok⟩ := hR.res k r hk'
      refine ⟨x, hx', ?_⟩
      have := hok.mv (O' := OO av (rs' ++ ex) ν) (hM.keeps (av := av)) hM.nu (fun b hf => h2.block b (hR.lt hk' hx' hf) (by
        rw [c1P hge] at hk
        exact hx b (k - rs'.length) r x hk (by rw [show rs.length + (k - rs'.length) = k by omega]; exact hx') hf))
      rwa [a2g] at this
  · rcases c1V l rs'.length with hl1' | hl1' <;> rcases c1V m rs'.length with hm1 | hm1
    · rw [c1K hl1'] at g1
      rw [c1K hm1] at g2
      have e1 : ν'[l]? = some z := by rw [<- hν1']; exact I5 hl1' g3
      have e2 : ν'[m]? = some z' := by rw [<- hν1']; exact I5 hm1 g4
      exact h1.dis l m q q' z z' b hne g1 g2 e1 e2 g5
    · rw [c1K hl1'] at g1
      rw [c1P hm1] at g2
      have e1 : ν'[l]? = some z := by rw [<- hν1']; exact I5 hl1' g3
      have g4' : ν[rs.length + (m - rs'.length)]? = some z' := by rw [show rs.length + (m - rs'.length) = m by omega]; exact g4
      intro hf
      rcases h2.own b ⟨l, q, z, g1, e1, g5⟩ with ho | ho
      · exact hx b _ q' z' g2 g4' hf ho
      · have := (hR.low b (hxo b _ q' z' g2 g4' hf)).1; omega
    · rw [c1P hl1'] at g1
      rw [c1K hm1] at g2
      have e2 : ν'[m]? = some z' := by rw [<- hν1']; exact I5 hm1 g4
      have g3' : ν[rs.length + (l - rs'.length)]? = some z := by rw [show rs.length + (l - rs'.length) = l by omega]; exact g3
      intro hf
      rcases h2.own b ⟨m, q', z', g2, e2, hf⟩ with ho | ho
      · exact hx b _ q z g1 g3' g5 ho
      · have := (hR.low b (hxo b _ q z g1 g3' g5)).1; omega
    · rw [c1P hl1'] at g1
      rw [c1P hm1] at g2
      exact hR.dis l m q q' z z' b hne (by rw [c1P (by omega), <- hl]; exact g1) (by rw [c1P (by omega), <- hl]; exact g2) g3 g4 g5
  · rcases (hown' b).1 hb with hb | ⟨k, r, x, g1, g2, g3⟩
    · obtain ⟨a1, a2, a3⟩ := h1.low b hb
      exact ⟨a1, fun ha => a2 ⟨.inl ha, hnav b ha⟩, a3⟩
    · obtain ⟨a1, a2, a3⟩ := hR.low b (hxo b k r x g1 g2 g3)
      exact ⟨c1S a1 h2.size, a2, a3⟩
end Go.Proofs.YtogfpjohjphngaaGreatDoor.Eng
namespace Go.Proofs.YtogfpjohjphngaaGreatDoor
open Go Go.RowKit Eng
set_option maxRecDepth 10000
set_option maxHeartbeats 8000000
def rsW (w : Wk) (n : Nms) : List Res := [.box 31 w.enc, .map true (nmE n), .box 140 [.mp 1]]
theorem b6V {E : Ctx} (hP : E.P = Tryz.prog) (ht0 : Tz E) (w : Wk) (n : Nms) (a : Am) (hb : Ab 1073741824 a) :
  l8 E (rsW w n) 86 [a.c, .bp 2 0] (ints (a0k n a).1) (rsW w (a0k n a).2) [] := by
 obtain ⟨P, eff', N, w0, own0, av0, nu0, pk0⟩ := E
 simp only at hP
 subst hP
 refine l8.ofT (eff := eff) ht0 Tryz.func86 (by cbv) (by exact c1Q rfl) fun w' own av ν hν ht => ?_
 have hν0 : ν.length <= 3 := by rw [hν]; exact c1I _
 have b0 := hb.1
 have h2 := a7y a hb
 have h1 := fun (E : Ctx) (hP : E.P = Tryz.prog) => a9Q hP n a.name (by omega)
 unfold a0k
 generalize J7 n a.name = r at *
 obtain ⟨e1, m⟩ := r
 generalize J6 a = e2 at *
 obtain ⟨name, ⟨x, y, half, t⟩, links⟩ := a
 obtain ⟨arms, walls, parts, slots, gates, walk⟩ := w
 simp only [j6]
 simp only [Am.c, Am.enc, lks, sb, ints, rsW, Wk.enc, ams, wls, pts, sls, gts] at *
 (repeat first | refine uA ?_ | (refine uK ?_ ?_; focus first | omega | (intros; simp_all <;> omega)) | simp (disch := omega) only [go_sem, Nat.reduceBEq, Nat.reduceAdd, ww] | (refine uD h2 ?_ ?_ ?_; exact ht; exact rfl))
 refine S.cond rfl (fun hc => ?_) (fun hc => ?_)
 ·rw [if_pos (by simpa using hc)]
  (repeat first | refine uA ?_ | (refine uK ?_ ?_; focus first | omega | (intros; simp_all <;> omega)) | simp (disch := omega) only [go_sem, Nat.reduceBEq, Nat.reduceAdd, ww])
  (refine S.done ?_; simp only [p8, l7, go_sem, Nat.reduceBEq, Nat.reduceAdd, Nat.reduceLeDiff, Int.reduceToNat, Int.reducePow]; (repeat (refine ⟨?_, ?_⟩; focus first | trivial | omega | simp)); exact d9.O1 (Imp.refl rfl) (by (repeat first | refine uA ?_ | (refine ⟨?_, ?_⟩; focus first | rfl | simp [slot]) | rfl | simp)) (c1G hν0 (by simp)))
 rw [if_neg (by simpa using hc)]
 (repeat first | refine uA ?_ | (refine uK ?_ ?_; focus first | omega | (intros; simp_all <;> omega)) | simp (disch := omega) only [go_sem, Nat.reduceBEq, Nat.reduceAdd, ww] | refine l9.t (l8.lift (k := 1) rfl (h1 _ rfl) rfl rfl rfl) ?_)
 (refine S.done ?_; simp only [p8, l7, go_sem, Nat.reduceBEq, Nat.reduceAdd, Nat.reduceLeDiff, Int.reduceToNat, Int.reducePow]; (repeat (refine ⟨?_, ?_⟩; focus first | trivial | omega | simp)); exact d9.O1 (Imp.refl rfl) (by (repeat first | refine uA ?_ | (refine ⟨?_, ?_⟩; focus first | rfl | simp [slot]) | rfl | simp)) (c1G hν0 (by simp)))
theorem b5R {E : Ctx} (hP : E.P = Tryz.prog) (ht0 : Tz E) (w : Wk) (n : Nms) (l : List Am) (hn : l.length <= 1073741824) (hb : ∀ x ∈ l, Ab 1073741824 x) :
  l8 E (rsW w n) 89 [ams l, .clo 86 [.bp 2 0]] (ints (C9 a0k n l).1) (rsW w (C9 a0k n l).2) [] := by
 obtain ⟨P, eff', N, w0, own0, av0, nu0, pk0⟩ := E
 simp only at hP
 subst hP
 refine l8.ofT (eff := eff) ht0 Tryz.func89 (by cbv) (by exact c1Q rfl) fun w' own av ν hν ht => ?_
 have hν0 : ν.length <= 3 := by rw [hν]; exact c1I _
 have hcal : callable Tryz.prog 86 = true := by kernel_rfl
 simp only [j6, ams, ints]
 simp only [rsW, Wk.enc, ams, wls, pts, sls, gts]
 (repeat first | refine uA ?_ | (refine uK ?_ ?_; focus first | omega | (intros; simp_all <;> omega)) | simp (disch := omega) only [go_sem, Nat.reduceBEq, Nat.reduceAdd, ww, c1y])
 refine S.loop (X := Nat × Nms) (fun x => ⟨[(1, .clo 86 [.bp 2 0]), (8, ams l), (9, ints l.length), (10, ints x.1)], rsW w x.2⟩) (fun x => x.1 <= l.length /\ C9 a0k n l = C9 a0k x.2 (l.drop x.1)) (fun x => l.length - x.1) (0, n) ⟨c1H _, rfl⟩ (by simp only [rsW, Wk.enc, ams, wls, pts, sls, gts]; exact (by (repeat first | refine uA ?_ | (refine ⟨?_, ?_⟩; focus first | rfl | simp [slot]) | rfl | simp | exact c1G hν0 (by simp)))) ?_
 rintro ⟨i, m⟩ ⟨hi, hg⟩
 simp only [ams, ints, rsW, Wk.enc, wls, pts, sls, gts] at hi hg ⊢
 (repeat first | refine uA ?_ | (refine uK ?_ ?_; focus first | omega | (intros; simp_all <;> omega)) | simp (disch := omega) only [go_sem, Nat.reduceBEq, Nat.reduceAdd, ww])
 (refine uJ rfl (fun hc => ?_) fun hc => ?_)
 ·have hi' : i < l.length := by omega
  have hgi := c1x hi'
  generalize l[i] = x at hgi
  have hst := U1 (f := a0k) (s := m) hgi
  have hnx := S9 (f := a0k) (s := m) hgi
  have hs := fun (E : Ctx) (hP : E.P = Tryz.prog) (ht : Tz E) => b6V hP ht w m x (hb x (c1A hgi))
  generalize a0k m x = r at *
  obtain ⟨e, m'⟩ := r
  simp only [Am.c, Am.enc, lks, sb, ints, rsW, Wk.enc, ams, wls, pts, sls, gts] at hs hst hnx
  (repeat first | refine uA ?_ | (refine uK ?_ ?_; focus first | omega | (intros; simp_all <;> omega)) | simp (disch := omega) only [go_sem, Nat.reduceBEq, Nat.reduceAdd, ww, hgi, c1z, c1y, Am.enc, lks, sb, hcal] | refine l9.t (l8.ext _ (hs _ rfl ht) rfl rfl rfl) ?_)
  refine S.cond rfl (fun hc2 => ?_) (fun hc2 => ?_)
  ·rw [hg, hst (by simpa using hc2)]
   (repeat first | refine uA ?_ | (refine uK ?_ ?_; focus first | omega | (intros; simp_all <;> omega)) | simp (disch := omega) only [go_sem, Nat.reduceBEq, Nat.reduceAdd, ww])
   (refine S.done ?_; simp only [p8, l7, go_sem, Nat.reduceBEq, Nat.reduceAdd, Nat.reduceLeDiff, Int.reduceToNat, Int.reducePow]; (repeat (refine ⟨?_, ?_⟩; focus first | trivial | omega | simp)); exact d9.O1 (Imp.refl rfl) (by (repeat first | refine uA ?_ | (refine ⟨?_, ?_⟩; focus first | rfl | simp [slot]) | rfl | simp)) (c1G hν0 (by simp)))
  ·have hc3 : e = 0 := by simpa using hc2
   (repeat first | refine uA ?_ | (refine uK ?_ ?_; focus first | omega | (intros; simp_all <;> omega)) | simp (disch := omega) only [go_sem, Nat.reduceBEq, Nat.reduceAdd, ww])
   refine S.next (x := (i, m)) (i + 1, m') ⟨by simp only; omega, by simp only; rw [hg, hnx hc3]⟩ (by simp only; omega) (by (repeat first | refine uA ?_ | (refine ⟨?_, ?_⟩; focus first | rfl | simp [slot]) | rfl | simp | exact c1G hν0 (by simp)))
 ·rw [hg, X8 (by omega)]
  (repeat first | refine uA ?_ | (refine uK ?_ ?_; focus first | omega | (intros; simp_all <;> omega)) | simp (disch := omega) only [go_sem, Nat.reduceBEq, Nat.reduceAdd, ww])
  (refine S.done ?_; simp only [p8, l7, go_sem, Nat.reduceBEq, Nat.reduceAdd, Nat.reduceLeDiff, Int.reduceToNat, Int.reducePow]; (repeat (refine ⟨?_, ?_⟩; focus first | trivial | omega | simp)); exact d9.O1 (Imp.refl rfl) (by (repeat first | refine uA ?_ | (refine ⟨?_, ?_⟩; focus first | rfl | simp [slot]) | rfl | simp)) (c1G hν0 (by simp)))
theorem b6l (w : Wk) (hb : Wb 1073741824 w) : FZ 23 [w.c] (ints (Y0 w)) := by
 refine kW a8p a8t (by rfl) fun w' O hw => ?_
 have ht : Tz ⟨Tryz.prog, eff, a2k.ntmps, w', fun _ => False, O, [], []⟩ := tz hw
 obtain ⟨⟨n1, b1⟩, ⟨n2, b2⟩, ⟨n3, b3⟩, ⟨n4, b4⟩, ⟨n5, b5⟩, b6⟩ := hb
 have h1 := fun (E : Ctx) (hP : E.P = Tryz.prog) (ht : Tz E) => b5R hP ht w [] w.arms n1 b1
 have h2 := b3W w.walls n2 b2
 unfold Y0 a4I
 generalize C9 a0k [] w.arms = r1 at *
 obtain ⟨e1, m1⟩ := r1
 have h3 := fun (E : Ctx) (hP : E.P = Tryz.prog) (ht : Tz E) => b3L hP ht m1 w.parts n3 b3
 simp only at h3 ⊢
 generalize C9 Z5 m1 w.parts = r3 at *
 obtain ⟨e3, m3⟩ := r3
 have h4 := fun (E : Ctx) (hP : E.P = Tryz.prog) (ht : Tz E) => b3m hP ht m3 w.slots n4 b4
 simp only at h4 ⊢
 generalize C9 Z8 m3 w.slots = r4 at *
 obtain ⟨e4, m4⟩ := r4
 have h5 := fun (E : Ctx) (hP : E.P = Tryz.prog) (ht : Tz E) => b3t hP ht m4 w.gates n5 b5
 simp only at h5 ⊢
 generalize C9 Z9 m4 w.gates = r5 at *
 obtain ⟨e5, m5⟩ := r5
 generalize E5 L8 w.walls = e2 at *
 simp only
 have h6 := a0z w.walk (b6.mono (by decide))
 have h7 := a2u w.walk (b6.mono (by decide))
 have h8 := K8 w.walk (b6.mono (by decide))
 unfold a9O
 generalize decide w.walk.D6 = q1 at *
 generalize j4 w.walk = q2 at *
 generalize r9 (Nm.j3 w.walk) = s8 at *
 obtain ⟨arms, walls, parts, slots, gates, walk⟩ := w
 simp only [a2k, j6, TT, II, OA, OB, OC, MM, LL, VV, FF, MG, LG, VG, FG] at ht ⊢
 simp only [Wk.c, Wk.enc, rsW, ams, wls, pts, sls, gts, rc, sb, ints] at *
 (repeat first | refine uA ?_ | (refine uK ?_ ?_; focus first | omega | (intros; simp_all <;> omega)) | simp (disch := omega) only [go_sem, Nat.reduceBEq, Nat.reduceAdd, ww, c1y])
 refine S.cond rfl (fun hc => ?_) (fun hc => ?_)
 ·rw [if_pos (by simp only [c1X, c1D] at hc; omega)]
  (repeat first | refine uA ?_ | (refine uK ?_ ?_; focus first | omega | (intros; simp_all <;> omega)) | simp (disch := omega) only [go_sem, Nat.reduceBEq, Nat.reduceAdd, ww])
  exact S.done (d9.out rfl (Imp.refl rfl) rfl)
 rw [if_neg (by simp only [c1L, c1E] at hc; omega)]
 (repeat first | refine uA ?_ | (refine uK ?_ ?_; focus first | omega | (intros; simp_all <;> omega)) | simp (disch := omega) only [go_sem, Nat.reduceBEq, Nat.reduceAdd, ww, c1y])
 refine S.cond rfl (fun hc => ?_) (fun hc => ?_)
 ·rw [if_pos (by simp only [c1D] at hc; omega)]
  (repeat first | refine uA ?_ | (refine uK ?_ ?_; focus first | omega | (intros; simp_all <;> omega)) | simp (disch := omega) only [go_sem, Nat.reduceBEq, Nat.reduceAdd, ww])
  exact S.done (d9.out rfl (Imp.refl rfl) rfl)
 rw [if_neg (by simp only [c1E] at hc; omega)]
 (repeat first | refine uI ?_ | (refine uK ?_ ?_; focus first | omega | (intros; simp_all <;> omega)) | simp (disch := omega) only [go_sem, Nat.reduceBEq, Nat.reduceAdd, ww])
 refine S.U6 [.box 31 [.sl 12 (arms.map Am.enc), .sl 1 (walls.map fun s => [vts s]), .sl 12 (parts.map Pt.enc), .sl 14 (slots.map Sl.enc), .sl 13 (gates.map Gt.enc), .v (.bool walk.neg), .v (.string (bs walk.num)), .v (.string (bs walk.den))], .gone, .box 140 [.mp 1]] (by simp [Eng.F3, Eng.Y5]) ?_
 (repeat first | refine uA ?_ | (refine uK ?_ ?_; focus first | omega | (intros; simp_all <;> omega)) | simp (disch := omega) only [go_sem, Nat.reduceBEq, Nat.reduceAdd, ww, c1y, F3] | refine l9.t (h1 _ rfl ht) ?_ | refine l9.t (l8.lift (k := 1) rfl (h3 _ rfl ht) rfl rfl rfl) ?_ | refine l9.t (l8.lift (k := 1) rfl (h4 _ rfl ht) rfl rfl rfl) ?_ | refine l9.t (l8.lift (k := 1) rfl (h5 _ rfl ht) rfl rfl rfl) ?_ | (refine uD h2 ?_ ?_ ?_; exact tz hw; exact rfl))
 generalize hL : [e1, e2, e3, e4, e5] = L
 have hl5 : L.length = 5 := by rw [<- hL]; rfl
 have e63 : [[C.v (Value.int IntKind.i64 e1)], [C.v (Value.int IntKind.i64 e2)], [C.v (Value.int IntKind.i64 e3)], [C.v (Value.int IntKind.i64 e4)], [C.v (Value.int IntKind.i64 e5)]] = L.map fun e => [C.v (Value.int IntKind.i64 e)] := by rw [<- hL]; rfl
 simp only [e63]
 refine S.loop (X := Nat) (fun i => ⟨[(1, .bp 0 0), (63, .sl 1 (L.map fun e => [.v (.int .i64 e)])), (64, ints 5), (65, ints i)], [.box 31 [.sl 12 (arms.map Am.enc), .sl 1 (walls.map fun s => [vts s]), .sl 12 (parts.map Pt.enc), .sl 14 (slots.map Sl.enc), .sl 13 (gates.map Gt.enc), .v (.bool walk.neg), .v (.string (bs walk.num)), .v (.string (bs walk.den))]]⟩) (fun i => i <= 5 /\ E5 id L = E5 id (L.drop i)) (fun i => 5 - i) 0 ⟨c1H _, rfl⟩ (by (repeat first | refine uA ?_ | (refine ⟨?_, ?_⟩; focus first | rfl | simp [slot]) | rfl | simp)) ?_
 rintro i ⟨hi, hg⟩
 simp only [ints] at hi hg ⊢
 (repeat first | refine uA ?_ | (refine uK ?_ ?_; focus first | omega | (intros; simp_all <;> omega)) | simp (disch := omega) only [go_sem, Nat.reduceBEq, Nat.reduceAdd, ww])
 (refine uJ rfl (fun hc => ?_) fun hc => ?_)
 ·have hi' : i < L.length := by omega
  have hgi := c1x hi'
  generalize L[i] = x at hgi
  have hst := a0i (f := id) hgi
  have hnx := a0m (f := id) hgi
  simp only [id] at hst hnx
  (repeat first | refine uA ?_ | (refine uK ?_ ?_; focus first | omega | (intros; simp_all <;> omega)) | simp (disch := omega) only [go_sem, Nat.reduceBEq, Nat.reduceAdd, ww, hgi, c1z, c1y, hl5])
  refine S.cond rfl (fun hc2 => ?_) (fun hc2 => ?_)
  ·have h0 : x ≠ 0 := by simpa using hc2
   rw [hg, hst h0, if_pos h0]
   (repeat first | refine uA ?_ | (refine uK ?_ ?_; focus first | omega | (intros; simp_all <;> omega)) | simp (disch := omega) only [go_sem, Nat.reduceBEq, Nat.reduceAdd, ww])
   exact S.done (d9.out rfl (Imp.refl rfl) rfl)
  ·have hc3 : x = 0 := by simpa using hc2
   (repeat first | refine uA ?_ | (refine uK ?_ ?_; focus first | omega | (intros; simp_all <;> omega)) | simp (disch := omega) only [go_sem, Nat.reduceBEq, Nat.reduceAdd, ww])
   refine S.next (i + 1) ⟨by omega, by rw [hg]; exact hnx hc3⟩ (by omega) (by (repeat first | refine uA ?_ | (refine ⟨?_, ?_⟩; focus first | rfl | simp [slot]) | rfl | simp))
 ·rw [hg, a0G (by omega), if_neg (by decide)]
  (repeat first | refine uA ?_ | (refine uK ?_ ?_; focus first | omega | (intros; simp_all <;> omega)) | simp (disch := omega) only [go_sem, Nat.reduceBEq, Nat.reduceAdd, ww] | (refine uD h6 ?_ ?_ ?_; exact tz hw; exact rfl) | (refine uD h7 ?_ ?_ ?_; exact tz hw; exact rfl) | (refine uD h8 ?_ ?_ ?_; exact tz hw; exact rfl))
  refine S.cond rfl (fun hc => ?_) (fun hc => ?_)
  ·rw [if_neg (by simp only [c1X, Bool.not_eq_true', c1D] at hc; simp only [c1J, c1D]; rintro ⟨⟨g7, g8⟩, g9⟩; rcases hc with (hc | hc) | hc <;> first | (rw [hc] at g7; cases g7; done) | (rw [hc] at g8; cases g8; done) | omega)]
   (repeat first | refine uA ?_ | (refine uK ?_ ?_; focus first | omega | (intros; simp_all <;> omega)) | simp (disch := omega) only [go_sem, Nat.reduceBEq, Nat.reduceAdd, ww])
   exact S.done (d9.out rfl (Imp.refl rfl) rfl)
  ·rw [if_pos (by simp only [c1L, Bool.not_eq_false', c1E] at hc; simp only [c1J, c1D]; obtain ⟨⟨g7, g8⟩, g9⟩ := hc; exact ⟨⟨g7, g8⟩, by omega⟩)]
   (repeat first | refine uA ?_ | (refine uK ?_ ?_; focus first | omega | (intros; simp_all <;> omega)) | simp (disch := omega) only [go_sem, Nat.reduceBEq, Nat.reduceAdd, ww])
   exact S.done (d9.out rfl (Imp.refl rfl) rfl)
end Go.Proofs.YtogfpjohjphngaaGreatDoor
namespace Go.Proofs.YtogfpjohjphngaaGreatDoor.Eng
open Go Go.RowKit
mutual
def C.sh (n : Nat) : C -> C
 | .rv k => .rv (n + k)
 | .agg cs => .agg (C.shL n cs)
 | .tup cs => .tup (C.shL n cs)
 | c => c
def C.shL (n : Nat) : List C -> List C
 | [] => []
 | c :: cs => C.sh n c :: C.shL n cs
end
mutual
def C.okS : C -> Bool
 | .rv _ => true
 | .agg cs => C.b1x cs
 | .tup cs => C.b1x cs
 | c => c.cl
def C.b1x : List C -> Bool
 | [] => true
 | c :: cs => C.okS c && C.b1x cs
end
section
variable {ν ν' : List Value} {w : World} {O O' : Nat -> Prop}
mutual
theorem b4K (hO : ∀ b, O' b -> O b) : ∀ {c : C} {y : Value}, c.okS = true -> Den ν' w O c y -> Den (ν ++ ν') w O' (C.sh ν.length c) y
 | .rv k, y, _, h => by
  simp only [C.sh, Den] at h ⊢
  exact ⟨by rw [c1P (by omega), show ν.length + k - ν.length = k by omega]; exact h.1, h.2⟩
 | .agg cs, y, hc, h => by
  simp only [C.sh, Den, C.okS] at h hc ⊢
  obtain ⟨vs, h1, h2⟩ := h
  exact ⟨vs, a8A hO hc h1, h2⟩
 | .tup cs, y, hc, h => by
  simp only [C.sh, Den, C.okS] at h hc ⊢
  obtain ⟨vs, h1, h2⟩ := h
  exact ⟨vs, a8A hO hc h1, h2⟩
 | .v x, y, hc, h => by simpa only [C.sh, Den] using h
 | .sl sz es, y, hc, h => by simp only [C.sh]; exact (Fz.keep (Keeps.sub hO) (h.fz hc)).den _
 | .nl, y, hc, h => by simpa only [C.sh, Den] using h
 | .ep cs, y, hc, h => by simp only [C.sh]; exact (Fz.keep (Keeps.sub hO) (h.fz hc)).den _
 | .clo f cs, y, hc, h => by simp only [C.sh]; exact (Fz.keep (Keeps.sub hO) (h.fz hc)).den _
 | .bnd f x, y, hc, h => by simp only [C.sh]; exact (Fz.keep (Keeps.sub hO) (h.fz hc)).den _
 | .any S, y, hc, h => by simpa only [C.sh, Den] using h
 | .bp _ _, y, hc, h => by simp only [C.okS, C.cl] at hc; cases hc
 | .rp _ _ _ _, y, hc, h => by simp only [C.okS, C.cl] at hc; cases hc
 | .mp _, y, hc, h => by simp only [C.okS, C.cl] at hc; cases hc
 | .wv _ _ _ _, y, hc, h => by simp only [C.okS, C.cl] at hc; cases hc
 | .g _ _, y, hc, h => by simp only [C.okS, C.cl] at hc; cases hc
 | .junk, y, hc, h => by simp only [C.okS, C.cl] at hc; cases hc
theorem a8A (hO : ∀ b, O' b -> O b) : ∀ {cs : List C} {vs : List Value}, C.b1x cs = true -> l6 ν' w O cs vs -> l6 (ν ++ ν') w O' (C.shL ν.length cs) vs
 | [], vs, _, h => by simpa only [C.shL, l6] using h
 | c :: cs, vs, hc, h => by
  simp only [C.shL, l6, C.b1x, c1J] at h hc ⊢
  obtain ⟨y, ys, e, h1, h2⟩ := h
  exact ⟨y, ys, e, b4K hO hc.1 h1, a8A hO hc.2 h2⟩
end
end
def Res.b7J : Res -> Bool
 | .gone => true
 | r => r.shut
theorem b6h {ν ν' : List Value} {w : World} {O O' : Nat -> Prop} {x : Value} {r : Res} (hs : r.b7J = true) (hO : ∀ b, O' b -> O b) (h : K9 ν w O x r) : K9 ν' w O' x r := by
 cases r with
 | gone => trivial
 | box t cs => exact a4y hs hO h
 | row e sz es => exact a4y rfl hO h
 | map s es => exact a4y rfl hO h
theorem l8.pre {E : Ctx} {rs rs' : List Res} {f : Nat} {args : List C} {s : C} (h : l8 E [] f args s rs' []) (hr : rs'.all Res.b7J = true) (hs : s.okS = true) (ha : C.clL args = true) : l8 E rs f args (C.sh rs.length s) (rs ++ rs') [] := by
  intro av ν w vs hR hav hF hD
  rw [List.all_eq_true] at hr
  let av' : Nat -> Prop := OO av rs ν
  have hlt : ∀ b, av' b -> b < w.heap.size := fun b hb => by
    rcases hb with hb | hb
    · exact hR.av b hb
    · exact (hR.low b hb).1
  have ho0 : ∀ b, ¬ owned [] [] b := fun b ⟨k, r, x, hk, _⟩ => by simp at hk
  have hRG : RG av' E.own0 E.w0.heap.size [] [] w := ⟨rfl, fun k r hk => by simp at hk, fun k l r r' x x' b _ hk => by simp at hk, fun b hb => (ho0 b hb).elim, hlt, hR.n0⟩
  have hOO : ∀ b, OO av' [] [] b -> OO av rs ν b := fun b hb => hb.elim id fun h => (ho0 b h).elim
  refine (h av' [] w vs hRG (fun b hb => .inl (hav b hb)) hF ((FzL.keep (Keeps.sub hOO) (hD.fz ha)).den _)).mono ?_
  rintro e w' ⟨y, ν', rfl, h1, h2, h3⟩
  have hlen : (ν ++ ν').length = (rs ++ rs').length := by rw [c1C, c1C, hR.len, h1.len]
  have htk : (ν ++ ν').take rs.length = ν := by rw [<- hR.len]; simp
  have hown := fun b => a2V hlen b
  rw [htk] at hown
  have hnew : ∀ b, (∃ k r x, rs'[k]? = some r /\ (ν ++ ν')[rs.length + k]? = some x /\ fp r x b) -> owned rs' ν' b := by
    rintro b ⟨k, r, x, g1, g2, g3⟩
    rw [<- hR.len, c1P (by omega), show ν.length + k - ν.length = k by omega] at g2
    exact ⟨k, r, x, g1, g2, g3⟩
  have hge : ∀ b, owned rs' ν' b -> w.heap.size <= b := fun b hb => (h2.own b hb).elim (fun h => (ho0 b h).elim) id
  have hnu : U5 [] ν (ν ++ ν') := fun k x _ hx => by rw [c1K (c1F.1 hx).1]; exact hx
  have hM : Mv rs ν w [] (rs ++ rs') (ν ++ ν') w' := by
    refine ⟨h2.os, h2.tape, h2.output, h2.size, fun b hb _ => h2.block b hb (ho0 b), fun b hb => ?_, hnu⟩
    rcases (hown b).1 hb with hb | hb
    · exact .inl hb
    · exact .inr (hge b (hnew b hb))
  have hOO' : ∀ b, OO av (rs ++ rs') (ν ++ ν') b -> OO av' rs' ν' b := fun b hb => by
    rcases hb with hb | hb
    · exact .inl (.inl hb)
    · rcases (hown b).1 hb with hb | hb
      · exact .inl (.inr hb)
      · exact .inr (hnew b hb)
  refine ⟨y, ν ++ ν', rfl, ⟨hlen, fun k r hk => ?_, fun l m q q' z z' b hne g1 g2 g3 g4 g5 => ?_, fun b hb => ?_, fun b hb => c1S (hR.av b hb) h2.size, c1G hR.n0 h2.size⟩, hM, by rw [<- hR.len]; exact b4K hOO' hs h3⟩
  · rcases c1V k rs.length with hlt' | hge'
    · rw [c1K hlt'] at hk
      obtain ⟨x, hx, hok⟩ := hR.res k r hk
      have := hok.mv (hM.keeps (av := av)) hM.nu (fun b hf => h2.block b (hR.lt hk hx hf) (ho0 b))
      rw [a2g] at this
      exact ⟨x, hnu k x (fun h => by cases h) hx, this⟩
    · rw [c1P hge'] at hk
      obtain ⟨x, hx, hok⟩ := h1.res _ r hk
      refine ⟨x, by rw [c1P (by rw [hR.len]; exact hge'), hR.len]; exact hx, b6h (hr r (c1A hk)) hOO' hok⟩
  · have old : ∀ {l q z}, l < rs.length -> (rs ++ rs')[l]? = some q -> (ν ++ ν')[l]? = some z -> rs[l]? = some q /\ ν[l]? = some z := fun hl a1 a2 => by
      rw [c1K hl] at a1
      rw [c1K (by rw [hR.len]; exact hl)] at a2
      exact ⟨a1, a2⟩
    have new : ∀ {l q z}, rs.length <= l -> (rs ++ rs')[l]? = some q -> (ν ++ ν')[l]? = some z -> rs'[l - rs.length]? = some q /\ ν'[l - rs.length]? = some z := fun hl a1 a2 => by
      rw [c1P hl] at a1
      rw [c1P (by rw [hR.len]; exact hl), hR.len] at a2
      exact ⟨a1, a2⟩
    rcases c1V l rs.length with hl1 | hl1 <;> rcases c1V m rs.length with hm1 | hm1
    · obtain ⟨a1, a2⟩ := old hl1 g1 g3
      obtain ⟨a3, a4⟩ := old hm1 g2 g4
      exact hR.dis l m q q' z z' b hne a1 a3 a2 a4 g5
    · obtain ⟨a1, a2⟩ := old hl1 g1 g3
      obtain ⟨a3, a4⟩ := new hm1 g2 g4
      intro hf
      have := hR.lt a1 a2 g5
      have := hge b ⟨_, _, _, a3, a4, hf⟩
      omega
    · obtain ⟨a1, a2⟩ := new hl1 g1 g3
      obtain ⟨a3, a4⟩ := old hm1 g2 g4
      intro hf
      have := hR.lt a3 a4 hf
      have := hge b ⟨_, _, _, a1, a2, g5⟩
      omega
    · obtain ⟨a1, a2⟩ := new hl1 g1 g3
      obtain ⟨a3, a4⟩ := new hm1 g2 g4
      exact h1.dis _ _ q q' z z' b (by omega) a1 a3 a2 a4 g5
  · rcases (hown b).1 hb with hb | hb
    · obtain ⟨a1, a2, a3⟩ := hR.low b hb
      exact ⟨c1S a1 h2.size, a2, a3⟩
    · obtain ⟨a1, a2, a3⟩ := h1.low b (hnew b hb)
      exact ⟨a1, fun ha => a2 (.inl ha), a3⟩
end Go.Proofs.YtogfpjohjphngaaGreatDoor.Eng
namespace Go.Proofs.YtogfpjohjphngaaGreatDoor
open Go Go.RowKit Eng
set_option maxRecDepth 100000
set_option maxHeartbeats 8000000
theorem b1b (es : List (List C)) (hn : es.length <= 1073741824) : FNew Tryz.prog 63 [.sl 6 es] 51 6 es := by
 refine FNew.of (eff := eff) Tryz.func63 (by cbv) (by exact c1Q rfl) fun w O => ?_
 simp only [j6]
 (repeat first | refine uA ?_ | (refine uK ?_ ?_; focus first | omega | (intros; simp_all <;> omega)) | simp (disch := omega) only [go_sem, Nat.reduceBEq, Nat.reduceAdd, ww])
 refine S.split 4 (Sx := fun y => ∃ b, y = .bool b /\ (es ≠ [] -> b = false)) rfl fun y hy => ?_
 obtain ⟨b, rfl, hb⟩ := hy
 refine S.cond rfl (fun hc => ?_) (fun hc => ?_)
 ·have he : es = [] := Classical.byContradiction fun h => by rw [hb h] at hc; cases hc
  subst he
  (repeat first | refine uA ?_ | (refine uK ?_ ?_; focus first | omega | (intros; simp_all <;> omega)) | simp (disch := omega) only [go_sem, Nat.reduceBEq, Nat.reduceAdd, ww])
  refine S.weaken (Ent.pack 2 51 6 rfl) ?_
  exact S.done (d9.new rfl rfl rfl)
 ·(repeat first | refine uA ?_ | (refine uK ?_ ?_; focus first | omega | (intros; simp_all <;> omega)) | simp (disch := omega) only [go_sem, Nat.reduceBEq, Nat.reduceAdd, ww])
  exact S.done (d9.new rfl rfl rfl)
theorem a9A (es : List (List C)) (hn : es.length <= 1073741824) : FNew Tryz.prog 60 [.sl 1 es] 4 1 es := by
 refine FNew.of (eff := eff) Tryz.func60 (by cbv) (by exact c1Q rfl) fun w O => ?_
 simp only [j6]
 (repeat first | refine uA ?_ | (refine uK ?_ ?_; focus first | omega | (intros; simp_all <;> omega)) | simp (disch := omega) only [go_sem, Nat.reduceBEq, Nat.reduceAdd, ww])
 refine S.split 4 (Sx := fun y => ∃ b, y = .bool b /\ (es ≠ [] -> b = false)) rfl fun y hy => ?_
 obtain ⟨b, rfl, hb⟩ := hy
 refine S.cond rfl (fun hc => ?_) (fun hc => ?_)
 ·have he : es = [] := Classical.byContradiction fun h => by rw [hb h] at hc; cases hc
  subst he
  (repeat first | refine uA ?_ | (refine uK ?_ ?_; focus first | omega | (intros; simp_all <;> omega)) | simp (disch := omega) only [go_sem, Nat.reduceBEq, Nat.reduceAdd, ww])
  refine S.weaken (Ent.pack 2 4 1 rfl) ?_
  exact S.done (d9.new rfl rfl rfl)
 ·(repeat first | refine uA ?_ | (refine uK ?_ ?_; focus first | omega | (intros; simp_all <;> omega)) | simp (disch := omega) only [go_sem, Nat.reduceBEq, Nat.reduceAdd, ww])
  exact S.done (d9.new rfl rfl rfl)
theorem a3S (es : List (List C)) (hn : es.length <= 1073741824) : FNew Tryz.prog 150 [.sl 3 es] 29 3 es := by
 refine FNew.of (eff := eff) Tryz.func150 (by cbv) (by exact c1Q rfl) fun w O => ?_
 simp only [j6]
 (repeat first | refine uA ?_ | (refine uK ?_ ?_; focus first | omega | (intros; simp_all <;> omega)) | simp (disch := omega) only [go_sem, Nat.reduceBEq, Nat.reduceAdd, ww])
 refine S.split 4 (Sx := fun y => ∃ b, y = .bool b /\ (es ≠ [] -> b = false)) rfl fun y hy => ?_
 obtain ⟨b, rfl, hb⟩ := hy
 refine S.cond rfl (fun hc => ?_) (fun hc => ?_)
 ·have he : es = [] := Classical.byContradiction fun h => by rw [hb h] at hc; cases hc
  subst he
  (repeat first | refine uA ?_ | (refine uK ?_ ?_; focus first | omega | (intros; simp_all <;> omega)) | simp (disch := omega) only [go_sem, Nat.reduceBEq, Nat.reduceAdd, ww])
  refine S.weaken (Ent.pack 2 29 3 rfl) ?_
  exact S.done (d9.new rfl rfl rfl)
 ·(repeat first | refine uA ?_ | (refine uK ?_ ?_; focus first | omega | (intros; simp_all <;> omega)) | simp (disch := omega) only [go_sem, Nat.reduceBEq, Nat.reduceAdd, ww])
  exact S.done (d9.new rfl rfl rfl)
theorem a7Y (es : List (List C)) (hn : es.length <= 1073741824) : FNew Tryz.prog 149 [.sl 10 es] 55 10 es := by
 refine FNew.of (eff := eff) Tryz.func149 (by cbv) (by exact c1Q rfl) fun w O => ?_
 simp only [j6]
 (repeat first | refine uA ?_ | (refine uK ?_ ?_; focus first | omega | (intros; simp_all <;> omega)) | simp (disch := omega) only [go_sem, Nat.reduceBEq, Nat.reduceAdd, ww])
 refine S.split 4 (Sx := fun y => ∃ b, y = .bool b /\ (es ≠ [] -> b = false)) rfl fun y hy => ?_
 obtain ⟨b, rfl, hb⟩ := hy
 refine S.cond rfl (fun hc => ?_) (fun hc => ?_)
 ·have he : es = [] := Classical.byContradiction fun h => by rw [hb h] at hc; cases hc
  subst he
  (repeat first | refine uA ?_ | (refine uK ?_ ?_; focus first | omega | (intros; simp_all <;> omega)) | simp (disch := omega) only [go_sem, Nat.reduceBEq, Nat.reduceAdd, ww])
  refine S.weaken (Ent.pack 2 55 10 rfl) ?_
  exact S.done (d9.new rfl rfl rfl)
 ·(repeat first | refine uA ?_ | (refine uK ?_ ?_; focus first | omega | (intros; simp_all <;> omega)) | simp (disch := omega) only [go_sem, Nat.reduceBEq, Nat.reduceAdd, ww])
  exact S.done (d9.new rfl rfl rfl)
end Go.Proofs.YtogfpjohjphngaaGreatDoor
