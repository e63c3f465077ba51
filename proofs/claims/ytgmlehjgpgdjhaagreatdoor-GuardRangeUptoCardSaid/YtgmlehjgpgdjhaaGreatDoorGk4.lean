/- A part of the proof: lemmas only, with the conditions that each names. -/
import Derived.Test.YtgmlehjgpgdjhaaGreatDoorProg
import Derived.KernelRfl
import Derived.Test.YtgmlehjgpgdjhaaGreatDoorGk3
set_option linter.all false
namespace Go.Proofs.YtgmlehjgpgdjhaaGreatDoor
open Go Go.RowKit Eng
set_option maxRecDepth 10000
set_option maxHeartbeats 4000000
theorem c1q (i : Nat) (h : i <= 70368744177664) : IntKind.i64.wrap ((i : Int).tdiv 64) = ((i / 64 : Nat) : Int) := by
 have : (i : Int).tdiv 64 = ((i / 64 : Nat) : Int) := rfl
 rw [this, Eng.wrap_i64 (by omega)]
theorem b9P (i : Nat) : (i : Int).tmod 64 = ((i % 64 : Nat) : Int) := rfl
theorem b1S (o n : Nat) (ho : o < 18446744073709551616) : bits .or .u64 (o : Int) (((n % 18446744073709551616 : Nat)) : Int) = ((o ||| n % 18446744073709551616 : Nat) : Int) := a8R _ _ ho (Nat.mod_lt _ (by decide))
theorem b1o (x r : Nat) (hr : r <= 64) : IntKind.u64.wrap ((x : Int) * 2 ^ min r 64) = ((x * 2 ^ r % 18446744073709551616 : Nat) : Int) := by
 rw [show min r 64 = r by omega, <- a4m]; congr 1
theorem a7o {E : Ctx} (hP : E.P = Tryz.prog) (s : Bool) (u o : List Nat) (lo n by' z : Nat) (hl : u.length <= 274877906944) (hn : lo + n <= u.length) (hb : by' <= 70368744177664)
  (hu : Nm.L9 u) (hz : z ≠ 0) (hX : Nm.wv 18446744073709551616 ((u.drop lo).take n) = z * 2 ^ by') :
  by' / 64 < n /\ z < 18446744073709551616 ^ (n - by' / 64) /\ j5 E (rw2 s u o) 149 [.wv (kx s) 1 lo n, ints by'] (.wv (kx s) 1 (lo + by' / 64) (Nm.G9 (Nm.dig 18446744073709551616 (n - by' / 64) z)).length) (rw2 s (put u (lo + by' / 64) (Nm.dig 18446744073709551616 (n - by' / 64) z)) o) [] := by
 have hul : ((u.drop lo).take n).length = n := by rw [c2W, c3z]; omega
 have hua : Nm.L9 ((u.drop lo).take n) := (hu.drop lo).take _
 have e2 : 2 ^ by' = 18446744073709551616 ^ (by' / 64) * 2 ^ (by' % 64) := by
  rw [show (18446744073709551616 : Nat) = 2 ^ 64 by decide, <- Nat.pow_mul, <- Nat.pow_add]; congr 1; omega
 have hjn : by' / 64 < n := by
  rcases c3n (by' / 64) n with h | h
  ·exact h
  ·exfalso
   have h1 := Nm.L6 18446744073709551616 hua
   have h2 : 18446744073709551616 ^ n <= 18446744073709551616 ^ (by' / 64) := c3o (by decide) h
   have h3 : 18446744073709551616 ^ (by' / 64) <= 2 ^ by' := by rw [e2]; exact Nat.le_mul_of_pos_right _ (Nat.pow_pos (by decide))
   have h4 : 2 ^ by' <= z * 2 ^ by' := Nat.le_mul_of_pos_left _ (by omega)
   rw [hul] at h1
   omega
 have hdr : ((u.drop lo).take n).drop (by' / 64) = (u.drop (lo + by' / 64)).take (n - by' / 64) := by
  rw [List.drop_take, List.drop_drop]
 have hW1 : Nm.wv 18446744073709551616 ((u.drop (lo + by' / 64)).take (n - by' / 64)) = z * 2 ^ (by' % 64) := by
  rw [<- hdr, Nm.b4D hua (by omega), hX, e2, <- c3t, Nat.mul_comm z, c3t, Nat.mul_comm (18446744073709551616 ^ _) (z * _), Nat.mul_div_cancel _ (Nat.pow_pos (by decide))]
 have hb64 : by' % 64 < 64 := Nat.mod_lt _ (by decide)
 have hjb : by' / 64 <= 1099511627776 := by omega
 clear hdr hX e2
 have hq1 := c1q by' hb
 have hq2 := b9P by'
 generalize by' / 64 = j at *
 generalize by' % 64 = b at *
 generalize hp : n - j = p at *
 generalize hl1 : lo + j = l1 at *
 have hlp : l1 + p <= u.length := by omega
 have hp0 : 0 < p := by omega
 have hpn : n - j = p := hp
 have hua1 : Nm.L9 ((u.drop l1).take p) := (hu.drop l1).take _
 have hps : put u l1 ((u.drop l1).take p) = u := a3U hlp
 have hrl : ((u.drop l1).take p).length = p := by rw [c2W, c3z]; omega
 generalize (u.drop l1).take p = r0 at *
 have hzl : z < 18446744073709551616 ^ p := by
  have h1 := Nm.L6 18446744073709551616 hua1
  rw [hrl, hW1] at h1
  exact Nat.lt_of_le_of_lt (Nat.le_mul_of_pos_right _ (Nat.pow_pos (by decide))) h1
 refine ⟨hjn, hzl, ?_⟩
 clear hul hua
 obtain ⟨P, eff', N, w0, own0, av0, nu0, pk0⟩ := E
 simp only at hP
 subst hP
 cases s
 all_goals
  refine j5.of (eff := eff) Tryz.func149 (by cbv) (by exact c3c rfl) fun w own av ν hν => ?_
  simp only [l6, rw2, kx, ints]
  have hν0 : ν.length <= 2 := by rw [hν]; exact c2V _
  (repeat first | refine uA ?_ | (refine uK ?_ ?_; focus first | omega | trivial | (intro h; rw [h]; rfl) | (intro h h2; rw [h, h2]; rfl) | (intro h; (try simp at h); omega) | (intros; simp_all <;> omega)) | simp only [go_sem, Nat.reduceBEq, Nat.reduceAdd, Nat.reduceLeDiff, Int.reduceToNat, Int.reducePow, hq1, hq2, u7, hl1, hpn] | simp (disch := omega) only [ww, hq1, hq2, u7, hl1, hpn])
  (refine uJ rfl (fun hc => ?_) fun hc => ?_)
 ·(repeat first | refine uA ?_ | (refine uK ?_ ?_; focus first | omega | trivial | (intro h; rw [h]; rfl) | (intro h h2; rw [h, h2]; rfl) | (intro h; (try simp at h); omega) | (intros; simp_all <;> omega)) | simp only [go_sem, Nat.reduceBEq, Nat.reduceAdd, Nat.reduceLeDiff, Int.reduceToNat, Int.reducePow] | simp (disch := omega) only [ww])
  refine S.loop (X := Nat × List Nat) (fun s => ⟨[(0, .wv 1 1 l1 p), (1, ints b), (15, ints p), (16, ints s.1)], [.row 184 1 (ls o), .row 184 1 (ls (put u l1 s.2))]⟩) (fun s => s.1 <= p /\ Nm.a1y r0 (2 ^ b) s.1 s.2) (fun s => p - s.1) (0, r0) ⟨c2T _, Nm.a4v hua1⟩ (by simp only [hps]; exact Ent.mk _ _ (by (repeat first | refine uA ?_ | (refine ⟨?_, ?_⟩; focus first | rfl | trivial | (simp [slot]; done)) | rfl | trivial | simp)) (by (repeat first | refine uA ?_ | (refine ⟨?_, ?_⟩; focus first | rfl | trivial | (simp [slot]; done)) | rfl | trivial | simp)) hν0) ?_
  rintro ⟨i, out⟩ ⟨hi, hri⟩
  simp only [ints] at hi hri ⊢
  have hol := hri.1
  have hpl : (put u l1 out).length = u.length := Z4 (by omega)
  (repeat first | refine uA ?_ | (refine uK ?_ ?_; focus first | omega | trivial | (intro h; rw [h]; rfl) | (intro h h2; rw [h, h2]; rfl) | (intro h; (try simp at h); omega) | (intros; simp_all <;> omega)) | simp only [go_sem, Nat.reduceBEq, Nat.reduceAdd, Nat.reduceLeDiff, Int.reduceToNat, Int.reducePow] | simp (disch := omega) only [ww])
  (refine uJ rfl (fun hc => ?_) fun hc => ?_)
  ·have hi' : i < p := by omega
   have hir : i < r0.length := by omega
   have hgr : r0[i]? = some (r0[i]'hir) := c2M hir
   have hgo : (put u l1 out)[l1 + i]? = some (r0[i]'hir) := by
    rw [S9 (by omega) (by omega), Nm.a0j hri.2.2.1, hgr]
   have hr32' := hua1 _ (c2Z hir)
   have hk := fun t ht => Nm.a4H (t := t) hri hb64 hir hua1 ht
   have hset : ∀ a, (put u l1 out).set (l1 + i) a = put u l1 (out.set i a) := fun a => Z8 (by omega) (by omega)
   generalize r0[i]'hir = ri at *
   have hsh : Int.fdiv (ri : Int) (2 ^ min b 64) = ((ri / 2 ^ b : Nat) : Int) := by
    rw [show min b 64 = b by omega, <- a1V]; congr 1
   have hrb : ri / 2 ^ b < 18446744073709551616 := Nat.lt_of_le_of_lt (Nat.div_le_self _ _) hr32'
   generalize ri / 2 ^ b = rs at *
   (repeat first | refine uA ?_ | (refine uK ?_ ?_; focus first | omega | trivial | (intro h; rw [h]; rfl) | (intro h h2; rw [h, h2]; rfl) | (intro h; (try simp at h); omega) | (intros; simp_all <;> omega)) | simp only [go_sem, Nat.reduceBEq, Nat.reduceAdd, Nat.reduceLeDiff, Int.reduceToNat, Int.reducePow, u7, J4, hgo, hpl, c2O, lm, X6, hsh, hset] | simp (disch := omega) only [ww, u7, J4, hgo, hpl, c2O, lm, X6, hsh, hset])
   (refine uJ rfl (fun hc => ?_) fun hc => ?_)
   ·have hi1 : i + 1 < r0.length := by omega
    have hpl1 : (put u l1 (out.set i rs)).length = u.length := Z4 (by rw [c3A]; omega)
    have hg1 : (put u l1 (out.set i rs))[l1 + i]? = some rs := by
     rw [<- hset, List.getElem?_set_self (by omega)]
    have hg3 : r0[i + 1]? = some (r0[i + 1]'hi1) := c2M hi1
    have hg2 : (put u l1 (out.set i rs))[l1 + (i + 1)]? = some (r0[i + 1]'hi1) := by
     have := S9 (us := u) (out := out) (k := l1) (i := i + 1) (by omega) (by omega)
     rw [<- hset, List.getElem?_set_ne (by omega), this]
     have h3 := congrArg (fun l => l[1]?) hri.2.2.1
     simp only [c3B] at h3
     rw [h3, hg3]
    have hn32 := hua1 _ (c2Z hi1)
    have hgd : r0.getD (i + 1) 0 = r0[i + 1]'hi1 := Nm.getD_lt hi1
    rw [hgd] at hk
    generalize r0[i + 1]'hi1 = rn at *
    have hshl := b1o rn (64 - b) (by omega)
    have hrr : ((64 : Int) - (b : Int)).toNat = 64 - b := by omega
    have horl := b1S rs (rn * 2 ^ (64 - b)) hrb
    have hk := hk _ rfl
    rw [if_pos (by omega)] at hk
    generalize rn * 2 ^ (64 - b) = sh at *
    generalize hto : rs ||| sh % 18446744073709551616 = to at *
    have hset2 : (put u l1 (out.set i rs)).set (l1 + i) to = put u l1 (out.set i to) := by
     have := Z8 (us := u) (out := out.set i rs) (k := l1) (i := i) (v := to) (by rw [c3A]; omega) (by rw [c3A]; omega)
     rwa [List.set_set] at this
    have hi1n : ((i : Int) + 1).toNat = i + 1 := by omega
    (repeat first | refine uA ?_ | (refine uK ?_ ?_; focus first | omega | trivial | (intro h; rw [h]; rfl) | (intro h h2; rw [h, h2]; rfl) | (intro h; (try simp at h); omega) | (intros; simp_all <;> omega)) | simp only [go_sem, Nat.reduceBEq, Nat.reduceAdd, Nat.reduceLeDiff, Int.reduceToNat, Int.reducePow, u7, J4, hg1, hg2, hpl1, c2O, lm, hrr, hi1n, hshl, horl, X6, hset2] | simp (disch := omega) only [ww, u7, J4, hg1, hg2, hpl1, c2O, lm, hrr, hi1n, hshl, horl, X6, hset2])
    refine S.next (x := (i, out)) (i + 1, _) ⟨hi', hk.1⟩ (by simp only; omega) (Ent.mk _ _ (by (repeat first | refine uA ?_ | (refine ⟨?_, ?_⟩; focus first | rfl | trivial | (simp [slot]; done)) | rfl | trivial | simp)) (by (repeat first | refine uA ?_ | (refine ⟨?_, ?_⟩; focus first | rfl | trivial | (simp [slot]; done)) | rfl | trivial | simp)) hν0)
   ·have hk := hk _ rfl
    rw [if_neg (by omega)] at hk
    (repeat first | refine uA ?_ | (refine uK ?_ ?_; focus first | omega | trivial | (intro h; rw [h]; rfl) | (intro h h2; rw [h, h2]; rfl) | (intro h; (try simp at h); omega) | (intros; simp_all <;> omega)) | simp only [go_sem, Nat.reduceBEq, Nat.reduceAdd, Nat.reduceLeDiff, Int.reduceToNat, Int.reducePow] | simp (disch := omega) only [ww])
    refine S.next (x := (i, out)) (i + 1, _) ⟨hi', hk.1⟩ (by simp only; omega) (Ent.mk _ _ (by (repeat first | refine uA ?_ | (refine ⟨?_, ?_⟩; focus first | rfl | trivial | (simp [slot]; done)) | rfl | trivial | simp)) (by (repeat first | refine uA ?_ | (refine ⟨?_, ?_⟩; focus first | rfl | trivial | (simp [slot]; done)) | rfl | trivial | simp)) hν0)
  ·have hi' : i = p := by omega
   subst hi'
   rw [<- hrl] at hri
   have he := Nm.a5a hri (by omega) hW1
   have hd : out = Nm.dig 18446744073709551616 i z := Nm.V6 (by decide) hri.2.1 (by omega) he
   rw [<- hd]
   have hcut := fun (E : Ctx) (hP : E.P = Tryz.prog) => a7m (E := E) hP (match 1 with | 0 => true | _ => false) (put u l1 out) o l1 i (by omega) (by omega) (by omega)
   rw [a2a (by omega) (by omega)] at hcut
   (repeat first | refine uA ?_ | (refine uK ?_ ?_; focus first | omega | trivial | (intro h; rw [h]; rfl) | (intro h h2; rw [h, h2]; rfl) | (intro h; (try simp at h); omega) | (intros; simp_all <;> omega)) | simp only [go_sem, Nat.reduceBEq, Nat.reduceAdd, Nat.reduceLeDiff, Int.reduceToNat, Int.reducePow] | simp (disch := omega) only [ww] | refine l7.t (hcut _ rfl) ?_)
   exact S.done (j3.own rfl)
 ·have hb0 : b = 0 := by omega
  subst hb0
  rw [Nat.pow_zero, Nat.mul_one] at hW1
  have hd : r0 = Nm.dig 18446744073709551616 p z := Nm.V6 (by decide) hua1 hrl hW1
  have hcut := fun (E : Ctx) (hP : E.P = Tryz.prog) => a7m (E := E) hP (match 1 with | 0 => true | _ => false) u o l1 p (by omega) (by omega) (by omega)
  have hw : (u.drop l1).take p = r0 := by rw [<- hps]; exact a2a hrl.symm (by omega)
  rw [hw] at hcut
  rw [<- hd, hps]
  (repeat first | refine uA ?_ | (refine uK ?_ ?_; focus first | omega | trivial | (intro h; rw [h]; rfl) | (intro h h2; rw [h, h2]; rfl) | (intro h; (try simp at h); omega) | (intros; simp_all <;> omega)) | simp only [go_sem, Nat.reduceBEq, Nat.reduceAdd, Nat.reduceLeDiff, Int.reduceToNat, Int.reducePow] | simp (disch := omega) only [ww] | refine l7.t (hcut _ rfl) ?_)
  exact S.done (j3.own rfl)
 ·(repeat first | refine uA ?_ | (refine uK ?_ ?_; focus first | omega | trivial | (intro h; rw [h]; rfl) | (intro h h2; rw [h, h2]; rfl) | (intro h; (try simp at h); omega) | (intros; simp_all <;> omega)) | simp only [go_sem, Nat.reduceBEq, Nat.reduceAdd, Nat.reduceLeDiff, Int.reduceToNat, Int.reducePow] | simp (disch := omega) only [ww])
  refine S.loop (X := Nat × List Nat) (fun s => ⟨[(0, .wv 0 1 l1 p), (1, ints b), (15, ints p), (16, ints s.1)], [.row 184 1 (ls (put u l1 s.2)), .row 184 1 (ls o)]⟩) (fun s => s.1 <= p /\ Nm.a1y r0 (2 ^ b) s.1 s.2) (fun s => p - s.1) (0, r0) ⟨c2T _, Nm.a4v hua1⟩ (by simp only [hps]; exact Ent.mk _ _ (by (repeat first | refine uA ?_ | (refine ⟨?_, ?_⟩; focus first | rfl | trivial | (simp [slot]; done)) | rfl | trivial | simp)) (by (repeat first | refine uA ?_ | (refine ⟨?_, ?_⟩; focus first | rfl | trivial | (simp [slot]; done)) | rfl | trivial | simp)) hν0) ?_
  rintro ⟨i, out⟩ ⟨hi, hri⟩
  simp only [ints] at hi hri ⊢
  have hol := hri.1
  have hpl : (put u l1 out).length = u.length := Z4 (by omega)
  (repeat first | refine uA ?_ | (refine uK ?_ ?_; focus first | omega | trivial | (intro h; rw [h]; rfl) | (intro h h2; rw [h, h2]; rfl) | (intro h; (try simp at h); omega) | (intros; simp_all <;> omega)) | simp only [go_sem, Nat.reduceBEq, Nat.reduceAdd, Nat.reduceLeDiff, Int.reduceToNat, Int.reducePow] | simp (disch := omega) only [ww])
  (refine uJ rfl (fun hc => ?_) fun hc => ?_)
  ·have hi' : i < p := by omega
   have hir : i < r0.length := by omega
   have hgr : r0[i]? = some (r0[i]'hir) := c2M hir
   have hgo : (put u l1 out)[l1 + i]? = some (r0[i]'hir) := by
    rw [S9 (by omega) (by omega), Nm.a0j hri.2.2.1, hgr]
   have hr32' := hua1 _ (c2Z hir)
   have hk := fun t ht => Nm.a4H (t := t) hri hb64 hir hua1 ht
   have hset : ∀ a, (put u l1 out).set (l1 + i) a = put u l1 (out.set i a) := fun a => Z8 (by omega) (by omega)
   generalize r0[i]'hir = ri at *
   have hsh : Int.fdiv (ri : Int) (2 ^ min b 64) = ((ri / 2 ^ b : Nat) : Int) := by
    rw [show min b 64 = b by omega, <- a1V]; congr 1
   have hrb : ri / 2 ^ b < 18446744073709551616 := Nat.lt_of_le_of_lt (Nat.div_le_self _ _) hr32'
   generalize ri / 2 ^ b = rs at *
   (repeat first | refine uA ?_ | (refine uK ?_ ?_; focus first | omega | trivial | (intro h; rw [h]; rfl) | (intro h h2; rw [h, h2]; rfl) | (intro h; (try simp at h); omega) | (intros; simp_all <;> omega)) | simp only [go_sem, Nat.reduceBEq, Nat.reduceAdd, Nat.reduceLeDiff, Int.reduceToNat, Int.reducePow, u7, J4, hgo, hpl, c2O, lm, X6, hsh, hset] | simp (disch := omega) only [ww, u7, J4, hgo, hpl, c2O, lm, X6, hsh, hset])
   (refine uJ rfl (fun hc => ?_) fun hc => ?_)
   ·have hi1 : i + 1 < r0.length := by omega
    have hpl1 : (put u l1 (out.set i rs)).length = u.length := Z4 (by rw [c3A]; omega)
    have hg1 : (put u l1 (out.set i rs))[l1 + i]? = some rs := by
     rw [<- hset, List.getElem?_set_self (by omega)]
    have hg3 : r0[i + 1]? = some (r0[i + 1]'hi1) := c2M hi1
    have hg2 : (put u l1 (out.set i rs))[l1 + (i + 1)]? = some (r0[i + 1]'hi1) := by
     have := S9 (us := u) (out := out) (k := l1) (i := i + 1) (by omega) (by omega)
     rw [<- hset, List.getElem?_set_ne (by omega), this]
     have h3 := congrArg (fun l => l[1]?) hri.2.2.1
     simp only [c3B] at h3
     rw [h3, hg3]
    have hn32 := hua1 _ (c2Z hi1)
    have hgd : r0.getD (i + 1) 0 = r0[i + 1]'hi1 := Nm.getD_lt hi1
    rw [hgd] at hk
    generalize r0[i + 1]'hi1 = rn at *
    have hshl := b1o rn (64 - b) (by omega)
    have hrr : ((64 : Int) - (b : Int)).toNat = 64 - b := by omega
    have horl := b1S rs (rn * 2 ^ (64 - b)) hrb
    have hk := hk _ rfl
    rw [if_pos (by omega)] at hk
    generalize rn * 2 ^ (64 - b) = sh at *
    generalize hto : rs ||| sh % 18446744073709551616 = to at *
    have hset2 : (put u l1 (out.set i rs)).set (l1 + i) to = put u l1 (out.set i to) := by
     have := Z8 (us := u) (out := out.set i rs) (k := l1) (i := i) (v := to) (by rw [c3A]; omega) (by rw [c3A]; omega)
     rwa [List.set_set] at this
    have hi1n : ((i : Int) + 1).toNat = i + 1 := by omega
    (repeat first | refine uA ?_ | (refine uK ?_ ?_; focus first | omega | trivial | (intro h; rw [h]; rfl) | (intro h h2; rw [h, h2]; rfl) | (intro h; (try simp at h); omega) | (intros; simp_all <;> omega)) | simp only [go_sem, Nat.reduceBEq, Nat.reduceAdd, Nat.reduceLeDiff, Int.reduceToNat, Int.reducePow, u7, J4, hg1, hg2, hpl1, c2O, lm, hrr, hi1n, hshl, horl, X6, hset2] | simp (disch := omega) only [ww, u7, J4, hg1, hg2, hpl1, c2O, lm, hrr, hi1n, hshl, horl, X6, hset2])
    refine S.next (x := (i, out)) (i + 1, _) ⟨hi', hk.1⟩ (by simp only; omega) (Ent.mk _ _ (by (repeat first | refine uA ?_ | (refine ⟨?_, ?_⟩; focus first | rfl | trivial | (simp [slot]; done)) | rfl | trivial | simp)) (by (repeat first | refine uA ?_ | (refine ⟨?_, ?_⟩; focus first | rfl | trivial | (simp [slot]; done)) | rfl | trivial | simp)) hν0)
   ·have hk := hk _ rfl
    rw [if_neg (by omega)] at hk
    (repeat first | refine uA ?_ | (refine uK ?_ ?_; focus first | omega | trivial | (intro h; rw [h]; rfl) | (intro h h2; rw [h, h2]; rfl) | (intro h; (try simp at h); omega) | (intros; simp_all <;> omega)) | simp only [go_sem, Nat.reduceBEq, Nat.reduceAdd, Nat.reduceLeDiff, Int.reduceToNat, Int.reducePow] | simp (disch := omega) only [ww])
    refine S.next (x := (i, out)) (i + 1, _) ⟨hi', hk.1⟩ (by simp only; omega) (Ent.mk _ _ (by (repeat first | refine uA ?_ | (refine ⟨?_, ?_⟩; focus first | rfl | trivial | (simp [slot]; done)) | rfl | trivial | simp)) (by (repeat first | refine uA ?_ | (refine ⟨?_, ?_⟩; focus first | rfl | trivial | (simp [slot]; done)) | rfl | trivial | simp)) hν0)
  ·have hi' : i = p := by omega
   subst hi'
   rw [<- hrl] at hri
   have he := Nm.a5a hri (by omega) hW1
   have hd : out = Nm.dig 18446744073709551616 i z := Nm.V6 (by decide) hri.2.1 (by omega) he
   rw [<- hd]
   have hcut := fun (E : Ctx) (hP : E.P = Tryz.prog) => a7m (E := E) hP (match 0 with | 0 => true | _ => false) (put u l1 out) o l1 i (by omega) (by omega) (by omega)
   rw [a2a (by omega) (by omega)] at hcut
   (repeat first | refine uA ?_ | (refine uK ?_ ?_; focus first | omega | trivial | (intro h; rw [h]; rfl) | (intro h h2; rw [h, h2]; rfl) | (intro h; (try simp at h); omega) | (intros; simp_all <;> omega)) | simp only [go_sem, Nat.reduceBEq, Nat.reduceAdd, Nat.reduceLeDiff, Int.reduceToNat, Int.reducePow] | simp (disch := omega) only [ww] | refine l7.t (hcut _ rfl) ?_)
   exact S.done (j3.own rfl)
 ·have hb0 : b = 0 := by omega
  subst hb0
  rw [Nat.pow_zero, Nat.mul_one] at hW1
  have hd : r0 = Nm.dig 18446744073709551616 p z := Nm.V6 (by decide) hua1 hrl hW1
  have hcut := fun (E : Ctx) (hP : E.P = Tryz.prog) => a7m (E := E) hP (match 0 with | 0 => true | _ => false) u o l1 p (by omega) (by omega) (by omega)
  have hw : (u.drop l1).take p = r0 := by rw [<- hps]; exact a2a hrl.symm (by omega)
  rw [hw] at hcut
  rw [<- hd, hps]
  (repeat first | refine uA ?_ | (refine uK ?_ ?_; focus first | omega | trivial | (intro h; rw [h]; rfl) | (intro h h2; rw [h, h2]; rfl) | (intro h; (try simp at h); omega) | (intros; simp_all <;> omega)) | simp only [go_sem, Nat.reduceBEq, Nat.reduceAdd, Nat.reduceLeDiff, Int.reduceToNat, Int.reducePow] | simp (disch := omega) only [ww] | refine l7.t (hcut _ rfl) ?_)
  exact S.done (j3.own rfl)
structure Win (u : List Nat) (lo n v : Nat) : Prop where
 hn : lo + n <= u.length
 hlo : lo < u.length
 hl : u.length <= 17179869184
 ha : Nm.L9 u
 hv : Nm.wv 18446744073709551616 ((u.drop lo).take n) = v
 ht : Nm.G9 ((u.drop lo).take n) = (u.drop lo).take n
theorem Win.len {u : List Nat} {lo n v : Nat} (h : Win u lo n v) : ((u.drop lo).take n).length = n := by
 have := h.hn
 rw [c2W, c3z]; omega
theorem b6S {us a : List Nat} {k : Nat} (hu : Nm.L9 us) (ha : Nm.L9 a) : Nm.L9 (put us k a) := fun w hw => by
 simp only [put, List.mem_append] at hw
 rcases hw with (hw | hw) | hw
 ·exact hu w (List.mem_of_mem_take hw)
 ·exact ha w hw
 ·exact hu w (List.mem_of_mem_drop hw)
theorem Win.put {u : List Nat} {l1 p z : Nat} (h1 : l1 + p <= u.length) (h2 : l1 < u.length) (hl : u.length <= 17179869184) (ha : Nm.L9 u) (hz : z < 18446744073709551616 ^ p) :
  Win (put u l1 (Nm.dig 18446744073709551616 p z)) l1 (Nm.G9 (Nm.dig 18446744073709551616 p z)).length z := by
 have hpl : (Go.Proofs.YtgmlehjgpgdjhaaGreatDoor.put u l1 (Nm.dig 18446744073709551616 p z)).length = u.length := Z4 (by rw [Nm.J6]; omega)
 have htl := Nm.b7s (Nm.dig 18446744073709551616 p z)
 rw [Nm.J6] at htl
 have hw : ((Go.Proofs.YtgmlehjgpgdjhaaGreatDoor.put u l1 (Nm.dig 18446744073709551616 p z)).drop l1).take (Nm.G9 (Nm.dig 18446744073709551616 p z)).length = Nm.G9 (Nm.dig 18446744073709551616 p z) := by
  have e := a2a (us := u) (k := l1) (a := Nm.dig 18446744073709551616 p z) (n := p) (Nm.J6 _ _ _).symm (by rw [Nm.J6]; omega)
  have e2 := congrArg (List.take (Nm.G9 (Nm.dig 18446744073709551616 p z)).length) e
  rw [List.take_take, Nat.min_eq_left htl, Nm.b5F] at e2
  exact e2
 refine ⟨by rw [hpl]; omega, by rw [hpl]; exact h2, by rw [hpl]; exact hl, b6S ha (Nm.a0S (by decide) _ _), ?_, ?_⟩
 ·rw [hw, Nm.b9e, Nm.V5 hz]
 ·rw [hw]
  have h4 : ∀ l, Nm.G9 (Nm.G9 l) = Nm.G9 l := fun l => by
   by_cases h : Nm.G9 l = []
   ·rw [h]; rfl
   ·have h5 := Nm.a8N l h
    have h6 : Nm.G9 l = (Nm.G9 l).dropLast ++ [(Nm.G9 l).getLast h] := (List.dropLast_concat_getLast h).symm
    rw [h6, Nm.a3A h5]
  exact h4 _
theorem Win.last {u : List Nat} {lo n v : Nat} (h : Win u lo n v) : ∀ hh : (u.drop lo).take n ≠ [], ((u.drop lo).take n).getLast hh ≠ 0 := by
 have ht := h.ht
 generalize (u.drop lo).take n = x at *
 intro hh
 have := Nm.a8N x (by rw [ht]; exact hh)
 simpa only [ht] using this
theorem Win.all {u : List Nat} {lo n v : Nat} (h : Win u lo n v) : Nm.L9 ((u.drop lo).take n) := (h.ha.drop lo).take n
theorem Win.zero {u : List Nat} {lo n v : Nat} (h : Win u lo n v) (h0 : v = 0) : n = 0 := by
 rcases c3k n with h1 | h1
 ·exact h1
 ·exfalso
  have hl := h.len
  have hla := h.last
  have hv := h.hv
  generalize (u.drop lo).take n = x at *
  have hne : x ≠ [] := fun e => by subst e; simp at hl; omega
  have h2 := Nm.b2E (B := 18446744073709551616) (l := x.dropLast) (hla hne)
  rw [List.dropLast_concat_getLast hne] at h2
  have := Nat.pow_pos (n := x.dropLast.length) (show 0 < 18446744073709551616 by decide)
  omega
theorem Win.nonzero {u : List Nat} {lo n v : Nat} (h : Win u lo n v) (h0 : n = 0) : v = 0 := by
 have := h.hv; subst h0; rw [<- this]; rfl
theorem Win.le {u o : List Nat} {lo n v lo2 n2 v2 : Nat} (h : Win u lo n v) (h2 : Win o lo2 n2 v2) (hle : v2 <= v) : n2 <= n := by
 rcases c3n n n2 with h1 | h1
 ·exfalso
  have hl := h2.len
  have hla := h2.last
  have hv := h2.hv
  have hl1 := Nm.L6 18446744073709551616 h.all
  rw [h.len, h.hv] at hl1
  generalize (o.drop lo2).take n2 = x at *
  have hne : x ≠ [] := fun e => by subst e; simp at hl; omega
  have h3 := Nm.b2E (B := 18446744073709551616) (l := x.dropLast) (hla hne)
  rw [List.dropLast_concat_getLast hne, List.length_dropLast] at h3
  have h4 : 18446744073709551616 ^ n <= 18446744073709551616 ^ (x.length - 1) := c3o (by decide) (by omega)
  omega
 ·exact h1
theorem Win.v2 {u : List Nat} {lo n v : Nat} (h : Win u lo n v) (h0 : v ≠ 0) : Nm.v2 v <= 70368744177664 := by
 obtain ⟨q, h1, h2⟩ := Nm.a2F h0
 have hl1 := Nm.L6 18446744073709551616 h.all
 rw [h.len, h.hv] at hl1
 have h3 : 2 ^ Nm.v2 v <= v := by
  conv => rhs; rw [h1]
  exact Nat.le_mul_of_pos_right _ (by omega)
 have h4 : 2 ^ Nm.v2 v < 2 ^ (64 * n) := by rw [Nat.pow_mul]; exact Nat.lt_of_le_of_lt h3 hl1
 have h5 := (Nat.pow_lt_pow_iff_right (by decide : 1 < 2)).1 h4
 have := h.hn; have := h.hl
 omega
namespace Nm
theorem c0m (n k : Nat) (h : k < 8) : (be8 n)[k]? = some (oB (n / 2 ^ (56 - 8 * k))) := by
 have : k = 0 \/ k = 1 \/ k = 2 \/ k = 3 \/ k = 4 \/ k = 5 \/ k = 6 \/ k = 7 := by omega
 rcases this with rfl | rfl | rfl | rfl | rfl | rfl | rfl | rfl <;> simp [be8]
theorem a7x (n : Nat) : (be8 n).length = 8 := rfl
def a1O (l : List Nat) : List UInt8 := (l.reverse.map be8).flatten
theorem a8O (l : List Nat) (x : Nat) : a1O (l ++ [x]) = be8 x ++ a1O l := by simp [a1O]
theorem b1a (r : List Nat) (h : L9 r.reverse) : (a1O r.reverse).length = 8 * r.length /\ val (a1O r.reverse) = wv 18446744073709551616 r.reverse := by
 induction r with
 | nil => exact ⟨rfl, rfl⟩
 | cons x r ih =>
  rw [List.reverse_cons] at h ⊢
  obtain ⟨h1, h2⟩ := ih fun w hw => h w (List.mem_append_left _ hw)
  rw [a8O, a7c, b4J, h1, h2, b4M (h x (by simp)), List.length_reverse, c3a, a7x, h1, c3g]
  refine ⟨by omega, ?_⟩
  rw [Nat.pow_mul, show (256 : Nat) ^ 8 = 18446744073709551616 by decide, Nat.mul_comm x, Nat.add_comm]
theorem b0P {l : List Nat} (h : L9 l) : (a1O l).length = 8 * l.length := by
 have := (b1a l.reverse (by simpa using h)).1
 simpa using this
theorem b6d {l : List Nat} (h : L9 l) : val (a1O l) = wv 18446744073709551616 l := by
 have := (b1a l.reverse (by simpa using h)).2
 simpa using this
def a1F (l : List Nat) (i k : Nat) : List UInt8 := List.replicate (8 * (l.length - 1 - i)) 0 ++ ((be8 (l.getD i 0)).take k ++ List.replicate (8 - k) 0) ++ a1O (l.take i)
def a3T (l : List Nat) (i : Nat) : List UInt8 := List.replicate (8 * (l.length - i)) 0 ++ a1O (l.take i)
theorem b6b (l : List Nat) : a3T l 0 = List.replicate (8 * l.length) 0 := by simp [a3T, a1O]
theorem b2U (l : List Nat) : a3T l l.length = a1O l := by simp [a3T]
theorem b0T {l : List Nat} {i : Nat} (h : i < l.length) : a1F l i 0 = a3T l i := by
 rw [a1F, a3T, List.take_zero, List.nil_append, Nat.sub_zero, List.replicate_append_replicate]
 congr 2; omega
theorem a9t {l : List Nat} {i : Nat} (h : i < l.length) : a1F l i 8 = a3T l (i + 1) := by
 have e : l.take (i + 1) = l.take i ++ [l.getD i 0] := by
  rw [List.take_add_one, c2Y, c2M h]; rfl
 rw [a1F, a3T, e, a8O, c3f (by rw [a7x]; exact c2V _), Nat.sub_self, List.replicate_zero, List.append_nil, c3x]
 congr 3; omega
theorem b2J {l : List Nat} (hl : L9 l) {i k : Nat} (h : i < l.length) (hk : k <= 8) : (a1F l i k).length = 8 * l.length := by
 simp only [a1F, c3a, List.length_replicate, c2W, a7x, b0P (hl.take i), c2W]
 omega
theorem b1m {l : List Nat} {i k : Nat} (hk : k < 8) : (a1F l i k).set (8 * (l.length - 1 - i) + k) (oB (l.getD i 0 / 2 ^ (56 - 8 * k))) = a1F l i (k + 1) := by
 have e : (be8 (l.getD i 0)).take (k + 1) = (be8 (l.getD i 0)).take k ++ [oB (l.getD i 0 / 2 ^ (56 - 8 * k))] := by
  rw [List.take_add_one, c0m _ _ hk]; rfl
 have e2 : List.replicate (8 - k) (0 : UInt8) = 0 :: List.replicate (8 - (k + 1)) 0 := by rw [<- List.replicate_succ]; congr 1; omega
 have hlk : ((be8 (l.getD i 0)).take k).length = k := by rw [c2W, a7x]; omega
 rw [a1F, a1F, e, e2, List.set_append_left _ _ (by simp only [c3a, List.length_replicate, hlk, c3g]; omega), List.set_append_right _ _ (by simp), List.length_replicate, Nat.add_sub_cancel_left, List.set_append_right _ _ (by omega), hlk, Nat.sub_self, List.set_cons_zero, c3x (List.take k _), List.singleton_append]
theorem b7l (n : Nat) : val (oB (2 ^ (n % 8)) :: List.replicate (n / 8) 0) = 2 ^ n := by
 have h0 : val (List.replicate (n / 8) (0 : UInt8)) = 0 := by
  generalize n / 8 = k
  induction k with
  | zero => rfl
  | succ k ih => rw [List.replicate_succ, Y7, ih]; simp
 have h1 : 2 ^ (n % 8) < 256 := by
  have : 2 ^ (n % 8) <= 2 ^ 7 := c3o (by decide) (by omega)
  omega
 rw [Y7, h0, a1G, Nat.mod_eq_of_lt h1, List.length_replicate, Nat.add_zero, show (256 : Nat) = 2 ^ 8 by decide, <- Nat.pow_mul, <- Nat.pow_add]
 congr 1; omega
end Nm
structure Hv where
 s : Bool
 u : List Nat
 lo : Nat
 n : Nat
 v : Nat
 o : List Nat
 lo2 : Nat
 n2 : Nat
 v2 : Nat
theorem b8r (a b : List UInt8) (ha : a.length <= 68719476736) (hb : b.length <= 68719476736) (h0a : Nm.val a ≠ 0) (h0b : Nm.val b ≠ 0) : FZ 136 [sb a, sb b] (sb (Nm.enc (Nat.gcd (Nm.val a) (Nm.val b)))) := by
  refine kW b1x b1u (by rfl) fun w O hw => ?_
  simp only [a6h, l6, TT, II, OA, OB, OC, MM, LL, VV, FF, MG, LG, VG, FG, sb]
  have hla := b4S a (by omega)
  have hlb := b4S b (by omega)
  have hva := Nm.a8F a
  have hvb := Nm.a8F b
  have haa := Nm.a9b a
  have hab := Nm.a9b b
  have hna := Nm.a7X a
  have hnb := Nm.a7X b
  obtain ⟨za, hza, hoa⟩ := Nm.a2F h0a
  obtain ⟨zb, hzb, hob⟩ := Nm.a2F h0b
  have hG : Nat.gcd (Nm.val a) (Nm.val b) = 2 ^ (min (Nm.v2 (Nm.val a)) (Nm.v2 (Nm.val b))) * Nat.gcd za zb := by
    conv => lhs; rw [hza, hzb]
    exact Nm.b8Y hoa hob
  rw [hG]
  have fea := a7d (Nm.P6 a) (by omega) haa (by rw [hva]; exact h0a)
  have feb := a7d (Nm.P6 b) (by omega) hab (by rw [hvb]; exact h0b)
  rw [hva] at fea
  rw [hvb] at feb
  have hba : Nm.v2 (Nm.val a) <= 549755813888 := by
    have h1 := Nm.X4 a
    have h3 : 2 ^ Nm.v2 (Nm.val a) <= Nm.val a := by
      conv => rhs; rw [hza]
      exact Nat.le_mul_of_pos_right _ (by omega)
    have h4 : 2 ^ Nm.v2 (Nm.val a) < 2 ^ (8 * a.length) := by rw [Nat.pow_mul]; exact Nat.lt_of_le_of_lt h3 h1
    have h5 := (Nat.pow_lt_pow_iff_right (by decide : 1 < 2)).1 h4
    omega
  have hbb : Nm.v2 (Nm.val b) <= 549755813888 := by
    have h1 := Nm.X4 b
    have h3 : 2 ^ Nm.v2 (Nm.val b) <= Nm.val b := by
      conv => rhs; rw [hzb]
      exact Nat.le_mul_of_pos_right _ (by omega)
    have h4 : 2 ^ Nm.v2 (Nm.val b) < 2 ^ (8 * b.length) := by rw [Nat.pow_mul]; exact Nat.lt_of_le_of_lt h3 h1
    have h5 := (Nat.pow_lt_pow_iff_right (by decide : 1 < 2)).1 h4
    omega
  have hla0 : 0 < (Nm.P6 a).length := by
    rcases c3k (Nm.P6 a).length with h | h
    · have := List.length_eq_zero_iff.1 h
      rw [this] at hva; exact absurd hva.symm h0a
    · exact h
  have hlb0 : 0 < (Nm.P6 b).length := by
    rcases c3k (Nm.P6 b).length with h | h
    · have := List.length_eq_zero_iff.1 h
      rw [this] at hvb; exact absurd hvb.symm h0b
    · exact h
  generalize Nm.v2 (Nm.val a) = p at *
  generalize Nm.v2 (Nm.val b) = q at *
  have hwa : Nm.wv 18446744073709551616 (((Nm.P6 a).drop 0).take (Nm.P6 a).length) = za * 2 ^ p := by
    rw [List.drop_zero, c3j, hva, hza, Nat.mul_comm]
  have hwb : Nm.wv 18446744073709551616 (((Nm.P6 b).drop 0).take (Nm.P6 b).length) = zb * 2 ^ q := by
    rw [List.drop_zero, c3j, hvb, hzb, Nat.mul_comm]
  clear hG hza hzb hva hvb h0a h0b
  generalize hA : Nm.P6 a = A at *
  generalize hB : Nm.P6 b = B at *
  have hr1 := fun (E : Ctx) (hP : E.P = Tryz.prog) => a7o (E := E) hP true A B 0 A.length p za (by omega) (by omega) (by omega) haa (by omega) hwa
  obtain ⟨hj1, hz1, _⟩ := hr1 ⟨Tryz.prog, eff, 0, w, fun _ => False, O, [], []⟩ rfl
  have hr1 := fun E hP => (hr1 E hP).2.2
  have hW1 := Win.put (u := A) (l1 := 0 + p / 64) (p := A.length - p / 64) (z := za) (by omega) (by omega) (by omega) haa hz1
  generalize hA1 : put A (0 + p / 64) (Nm.dig 18446744073709551616 (A.length - p / 64) za) = A1 at *
  generalize 0 + p / 64 = la at *
  generalize (Nm.G9 (Nm.dig 18446744073709551616 (A.length - p / 64) za)).length = na at *
  have hr2 := fun (E : Ctx) (hP : E.P = Tryz.prog) => a7o (E := E) hP false B A1 0 B.length q zb (by omega) (by omega) (by omega) hab (by omega) hwb
  obtain ⟨hj2, hz2, _⟩ := hr2 ⟨Tryz.prog, eff, 0, w, fun _ => False, O, [], []⟩ rfl
  have hr2 := fun E hP => (hr2 E hP).2.2
  have hW2 := Win.put (u := B) (l1 := 0 + q / 64) (p := B.length - q / 64) (z := zb) (by omega) (by omega) (by omega) hab hz2
  generalize hB1 : put B (0 + q / 64) (Nm.dig 18446744073709551616 (B.length - q / 64) zb) = B1 at *
  generalize 0 + q / 64 = lb at *
  generalize (Nm.G9 (Nm.dig 18446744073709551616 (B.length - q / 64) zb)).length = nb at *
  have hr1' : ∀ (E : Ctx), E.P = Tryz.prog -> j5 E [.row 184 1 (ls A), .row 184 1 (ls B)] 149 [.rv 0, ints p] (.wv 0 1 la na) [.row 184 1 (ls A1), .row 184 1 (ls B)] [] := fun E hP => j5.imp (hr1 E hP) (l8.cons (Imp.win (k := 0) (e := 184) (sz := 1) (es := ls A) rfl (u7 _).symm (by simp)) (l8.cons (Imp.refl rfl) l8.nil))
  have hr2' : ∀ (E : Ctx), E.P = Tryz.prog -> j5 E [.row 184 1 (ls A1), .row 184 1 (ls B)] 149 [.rv 1, ints q] (.wv 1 1 lb nb) [.row 184 1 (ls A1), .row 184 1 (ls B1)] [] := fun E hP => j5.imp (hr2 E hP) (l8.cons (Imp.win (k := 1) (e := 184) (sz := 1) (es := ls B) rfl (u7 _).symm (by simp)) (l8.cons (Imp.refl rfl) l8.nil))
  (repeat first | refine uA ?_ | (refine uK ?_ ?_; focus first | omega | trivial | (intro h; rw [h]; rfl) | (intro h h2; rw [h, h2]; rfl) | (intro h; (try simp at h); omega) | (intros; simp_all <;> omega)) | simp only [go_sem, Nat.reduceBEq, Nat.reduceAdd, Nat.reduceLeDiff, Int.reduceToNat, Int.reducePow] | simp (disch := omega) only [ww] | refine l7.t (FNew.t hla rfl) ?_ | refine l7.t (FNew.t hlb rfl) ?_ | refine l7.t (hr1' _ rfl) ?_ | refine l7.t (hr2' _ rfl) ?_ | (refine uE fea ?_ ?_ ?_ ?_; exact tz hw; exact rfl; focus (repeat' first | exact l8.nil | exact Imp.refl rfl | exact Imp.frz rfl rfl rfl | (refine Imp.a0s rfl rfl ?_ ?_; (focus ((try simp only [c3a]); omega)); (focus first | rfl | assumption)) | refine l8.cons ?_ ?_); done) | (refine uE feb ?_ ?_ ?_ ?_; exact tz hw; exact rfl; focus (repeat' first | exact l8.nil | exact Imp.refl rfl | exact Imp.frz rfl rfl rfl | (refine Imp.a0s rfl rfl ?_ ?_; (focus ((try simp only [c3a]); omega)); (focus first | rfl | assumption)) | refine l8.cons ?_ ?_); done))
  clear hr1 hr2 hr1' hr2' hla hlb fea feb hwa hwb hA hB hA1 hB1 hz1 hz2 hj1 hj2 haa hab hla0 hlb0 hna hnb
  have hmin : min p q <= 549755813888 := by omega
  generalize hG : Nat.gcd za zb = G at *
  refine S.b9u (Y := Hv) (fun x => ⟨[(5, .wv (kx x.s) 1 x.lo x.n), (6, .wv (kx !x.s) 1 x.lo2 x.n2), (7, ints p), (8, ints q)], rw2 x.s x.u x.o⟩)
    (fun x => Win x.u x.lo x.n x.v /\ Win x.o x.lo2 x.n2 x.v2 /\ ((x.n = 0 /\ x.v2 = G) \/ (x.n = 1 /\ x.n2 = 1 /\ Nat.gcd x.v x.v2 = G))) ?_ ?_
  · refine S.loop (X := Hv) (fun x => ⟨[(5, .wv (kx x.s) 1 x.lo x.n), (6, .wv (kx !x.s) 1 x.lo2 x.n2), (7, ints p), (8, ints q)], rw2 x.s x.u x.o⟩)
      (fun x => Win x.u x.lo x.n x.v /\ Win x.o x.lo2 x.n2 x.v2 /\ x.v % 2 = 1 /\ x.v2 % 2 = 1 /\ Nat.gcd x.v x.v2 = G) (fun x => x.v + x.v2) ⟨true, A1, la, na, za, B1, lb, nb, zb⟩ ⟨hW1, hW2, hoa, hob, hG⟩ (by (repeat first | refine uA ?_ | (refine ⟨?_, ?_⟩; focus first | rfl | trivial | (simp [slot]; done)) | rfl | trivial | simp)) ?_
    clear hW1 hW2 hG hoa hob
    rintro ⟨s, u, lo, n, v, o, lo2, n2, v2⟩ ⟨hW1, hW2, hoa, hob, hG⟩
    simp only [ints] at hW1 hW2 hoa hob hG ⊢
    (repeat first | refine uA ?_ | (refine uK ?_ ?_; focus first | omega | trivial | (intro h; rw [h]; rfl) | (intro h h2; rw [h, h2]; rfl) | (intro h; (try simp at h); omega) | (intros; simp_all <;> omega)) | simp only [go_sem, Nat.reduceBEq, Nat.reduceAdd, Nat.reduceLeDiff, Int.reduceToNat, Int.reducePow] | simp (disch := omega) only [ww])
    (refine uJ rfl (fun hc => ?_) fun hc => ?_)
    · refine S.skip ?_
      refine S.block ?_
      refine S.seq ?_
      have hl1 := hW1.hl
      have hl2 := hW2.hl
      have hn1 := hW1.hn
      have hn2 := hW2.hn
      have hwl : ∀ (u : List Nat) lo n, ls ((u.drop lo).take n) = ((ls u).drop lo).take n := fun u lo n => by simp [ls, List.map_drop, List.map_take]
      refine S.join (Y := Hv) (fun x => ⟨[(5, .wv (kx x.s) 1 x.lo x.n), (6, .wv (kx !x.s) 1 x.lo2 x.n2), (7, ints p), (8, ints q)], rw2 x.s x.u x.o⟩)
        (fun x => Win x.u x.lo x.n x.v /\ Win x.o x.lo2 x.n2 x.v2 /\ x.v % 2 = 1 /\ x.v2 % 2 = 1 /\ Nat.gcd x.v x.v2 = G /\ x.v2 <= x.v /\ x.v + x.v2 = v + v2) ?_ ?_
      · have hb := c0C ((u.drop lo).take n) ((o.drop lo2).take n2) (by rw [hW1.len]; omega) (by rw [hW2.len]; omega) hW1.all hW2.all hW1.last hW2.last
        rw [hwl, hwl, hW1.hv, hW2.hv] at hb
        cases s
        all_goals
          simp only [rw2, kx, Bool.not_true, Bool.not_false]
          (repeat first | refine uA ?_ | (refine uK ?_ ?_; focus first | omega | trivial | (intro h; rw [h]; rfl) | (intro h h2; rw [h, h2]; rfl) | (intro h; (try simp at h); omega) | (intros; simp_all <;> omega)) | simp only [go_sem, Nat.reduceBEq, Nat.reduceAdd, Nat.reduceLeDiff, Int.reduceToNat, Int.reducePow, u7] | simp (disch := omega) only [ww, u7] | (refine uC hb ?_ ?_ ?_; exact rfl; focus (repeat' first | exact l8.nil | exact Imp.refl rfl | exact Imp.frz rfl rfl rfl | (refine Imp.a0s rfl rfl ?_ ?_; (focus ((try simp only [c3a, u7]); omega)); (focus first | rfl | assumption)) | refine l8.cons ?_ ?_); done))
          refine S.cond rfl (fun hc => ?_) (fun hc => ?_)
          all_goals simp only [c2U, c3b] at hc
        · (repeat first | refine uA ?_ | (refine uK ?_ ?_; focus first | omega | trivial | (intro h; rw [h]; rfl) | (intro h h2; rw [h, h2]; rfl) | (intro h; (try simp at h); omega) | (intros; simp_all <;> omega)) | simp only [go_sem, Nat.reduceBEq, Nat.reduceAdd, Nat.reduceLeDiff, Int.reduceToNat, Int.reducePow] | simp (disch := omega) only [ww])
          exact S.met ⟨true, o, lo2, n2, v2, u, lo, n, v⟩ ⟨hW2, hW1, hob, hoa, by rw [Nat.gcd_comm]; exact hG, by simp only; omega, by simp only; omega⟩ (by (repeat first | refine uA ?_ | (refine ⟨?_, ?_⟩; focus first | rfl | trivial | (simp [slot]; done)) | rfl | trivial | simp))
        · (repeat first | refine uA ?_ | (refine uK ?_ ?_; focus first | omega | trivial | (intro h; rw [h]; rfl) | (intro h h2; rw [h, h2]; rfl) | (intro h; (try simp at h); omega) | (intros; simp_all <;> omega)) | simp only [go_sem, Nat.reduceBEq, Nat.reduceAdd, Nat.reduceLeDiff, Int.reduceToNat, Int.reducePow] | simp (disch := omega) only [ww])
          exact S.met ⟨false, u, lo, n, v, o, lo2, n2, v2⟩ ⟨hW1, hW2, hoa, hob, hG, by simp only; omega, rfl⟩ (by (repeat first | refine uA ?_ | (refine ⟨?_, ?_⟩; focus first | rfl | trivial | (simp [slot]; done)) | rfl | trivial | simp))
        · (repeat first | refine uA ?_ | (refine uK ?_ ?_; focus first | omega | trivial | (intro h; rw [h]; rfl) | (intro h h2; rw [h, h2]; rfl) | (intro h; (try simp at h); omega) | (intros; simp_all <;> omega)) | simp only [go_sem, Nat.reduceBEq, Nat.reduceAdd, Nat.reduceLeDiff, Int.reduceToNat, Int.reducePow] | simp (disch := omega) only [ww])
          exact S.met ⟨false, o, lo2, n2, v2, u, lo, n, v⟩ ⟨hW2, hW1, hob, hoa, by rw [Nat.gcd_comm]; exact hG, by simp only; omega, by simp only; omega⟩ (by (repeat first | refine uA ?_ | (refine ⟨?_, ?_⟩; focus first | rfl | trivial | (simp [slot]; done)) | rfl | trivial | simp))
        · (repeat first | refine uA ?_ | (refine uK ?_ ?_; focus first | omega | trivial | (intro h; rw [h]; rfl) | (intro h h2; rw [h, h2]; rfl) | (intro h; (try simp at h); omega) | (intros; simp_all <;> omega)) | simp only [go_sem, Nat.reduceBEq, Nat.reduceAdd, Nat.reduceLeDiff, Int.reduceToNat, Int.reducePow] | simp (disch := omega) only [ww])
          exact S.met ⟨true, u, lo, n, v, o, lo2, n2, v2⟩ ⟨hW1, hW2, hoa, hob, hG, by simp only; omega, rfl⟩ (by (repeat first | refine uA ?_ | (refine ⟨?_, ?_⟩; focus first | rfl | trivial | (simp [slot]; done)) | rfl | trivial | simp))
      clear hl1 hl2 hn1 hn2 hW1 hW2 hoa hob hG hc
      rintro ⟨s, u1, lo1, n1, x1, o1, lo3, n3, x3⟩ ⟨hW1, hW2, hoa, hob, hG, hle, hsum⟩
      simp only [ints] at hW1 hW2 hoa hob hG hle hsum ⊢
      have hl1 := hW1.hl
      have hl2 := hW2.hl
      have hn1 := hW1.hn
      have hn2 := hW2.hn
      have hlo1 := hW1.hlo
      have hlt1 : x1 < 18446744073709551616 ^ n1 := by
        have := Nm.L6 18446744073709551616 hW1.all
        rwa [hW1.len, hW1.hv] at this
      have hmin := fun (E : Ctx) (hP : E.P = Tryz.prog) (s : Bool) => c0r (E := E) hP s u1 o1 lo1 n1 lo3 n3 (by omega) (by omega) hn1 hlo1 hn2 (hW1.le hW2 hle) hW1.ha hW2.ha hW1.hv.symm hW2.hv.symm hle
      have hW3 := Win.put (u := u1) (l1 := lo1) (p := n1) (z := x1 - x3) hn1 hlo1 hl1 hW1.ha (by omega)
      generalize put u1 lo1 (Nm.dig 18446744073709551616 n1 (x1 - x3)) = u2 at *
      generalize (Nm.G9 (Nm.dig 18446744073709551616 n1 (x1 - x3))).length = m1 at *
      have hl3 := hW3.hl
      have hn3 := hW3.hn
      have hmt : ∀ E : Ctx, E.P = Tryz.prog -> j5 E [.row 184 1 (ls u1), .row 184 1 (ls o1)] 151 [.wv 0 1 lo1 n1, .wv 1 1 lo3 n3] (.wv 0 1 lo1 m1) [.row 184 1 (ls u2), .row 184 1 (ls o1)] [] := fun E hP => hmin E hP true
      have hmf : ∀ E : Ctx, E.P = Tryz.prog -> j5 E [.row 184 1 (ls o1), .row 184 1 (ls u1)] 151 [.wv 1 1 lo1 n1, .wv 0 1 lo3 n3] (.wv 1 1 lo1 m1) [.row 184 1 (ls o1), .row 184 1 (ls u2)] [] := fun E hP => hmin E hP false
      clear hmin
      cases s
      all_goals
        simp only [rw2, kx, Bool.not_true, Bool.not_false]
        (repeat first | refine uA ?_ | (refine uK ?_ ?_; focus first | omega | trivial | (intro h; rw [h]; rfl) | (intro h h2; rw [h, h2]; rfl) | (intro h; (try simp at h); omega) | (intros; simp_all <;> omega)) | simp only [go_sem, Nat.reduceBEq, Nat.reduceAdd, Nat.reduceLeDiff, Int.reduceToNat, Int.reducePow, u7] | simp (disch := omega) only [ww, u7] | refine l7.t (hmt _ rfl) ?_ | refine l7.t (hmf _ rfl) ?_)
        (refine uJ rfl (fun hc => ?_) fun hc => ?_)
      · (repeat first | refine uA ?_ | (refine uK ?_ ?_; focus first | omega | trivial | (intro h; rw [h]; rfl) | (intro h h2; rw [h, h2]; rfl) | (intro h; (try simp at h); omega) | (intros; simp_all <;> omega)) | simp only [go_sem, Nat.reduceBEq, Nat.reduceAdd, Nat.reduceLeDiff, Int.reduceToNat, Int.reducePow] | simp (disch := omega) only [ww])
        have h0 := hW3.nonzero (by omega)
        have h1 : x1 = x3 := by omega
        subst h1
        rw [Nat.gcd_self] at hG
        exact S.met ⟨false, u2, lo1, m1, x1 - x1, o1, lo3, n3, x1⟩ ⟨hW3, hW2, .inl ⟨by simp only; omega, hG⟩⟩ (by (repeat first | refine uA ?_ | (refine ⟨?_, ?_⟩; focus first | rfl | trivial | (simp [slot]; done)) | rfl | trivial | simp))
      · have h0 : x1 - x3 ≠ 0 := fun h => by have := hW3.zero h; omega
        obtain ⟨z, hz, hoz⟩ := Nm.a2F h0
        have hev := a7d ((u2.drop lo1).take m1) (by rw [hW3.len]; omega) hW3.all (by rw [hW3.hv]; exact h0)
        rw [hwl, hW3.hv] at hev
        have heb := hW3.v2 h0
        generalize Nm.v2 (x1 - x3) = e at *
        have hrg := fun (E : Ctx) (hP : E.P = Tryz.prog) => a7o (E := E) hP false u2 o1 lo1 m1 e z (by omega) hn3 heb hW3.ha (by omega) (by rw [hW3.hv, hz, Nat.mul_comm])
        obtain ⟨hj, hz2, _⟩ := hrg ⟨Tryz.prog, eff, 0, w, fun _ => False, O, [], []⟩ rfl
        have hrg := fun E hP => (hrg E hP).2.2
        have hW4 := Win.put (u := u2) (l1 := lo1 + e / 64) (p := m1 - e / 64) (z := z) (by omega) (by omega) hl3 hW3.ha hz2
        generalize put u2 (lo1 + e / 64) (Nm.dig 18446744073709551616 (m1 - e / 64) z) = u4 at *
        generalize lo1 + e / 64 = lo4 at *
        generalize (Nm.G9 (Nm.dig 18446744073709551616 (m1 - e / 64) z)).length = m4 at *
        have hrg' : ∀ (E : Ctx), E.P = Tryz.prog -> j5 E [.row 184 1 (ls o1), .row 184 1 (ls u2)] 149 [.wv 1 1 lo1 m1, ints e] (.wv 1 1 lo4 m4) [.row 184 1 (ls o1), .row 184 1 (ls u4)] [] := fun E hP => hrg E hP
        have hgz : Nat.gcd z x3 = G := by
          have h1 := Nm.a5E (d := z) hob e
          rw [<- h1, <- hz, Nm.b0p hle, hG]
        have hzle : z <= x1 - x3 := by
          conv => rhs; rw [hz]
          exact Nat.le_mul_of_pos_left _ (Nat.pow_pos (by decide))
        (repeat first | refine uA ?_ | (refine uK ?_ ?_; focus first | omega | trivial | (intro h; rw [h]; rfl) | (intro h h2; rw [h, h2]; rfl) | (intro h; (try simp at h); omega) | (intros; simp_all <;> omega)) | simp only [go_sem, Nat.reduceBEq, Nat.reduceAdd, Nat.reduceLeDiff, Int.reduceToNat, Int.reducePow, u7] | simp (disch := omega) only [ww, u7] | refine l7.t (hrg' _ rfl) ?_ | (refine uE hev ?_ ?_ ?_ ?_; exact tz hw; exact rfl; focus (repeat' first | exact l8.nil | exact Imp.refl rfl | exact Imp.frz rfl rfl rfl | (refine Imp.a0s rfl rfl ?_ ?_; (focus ((try simp only [c3a, u7]); omega)); (focus first | rfl | assumption)) | refine l8.cons ?_ ?_); done))
        refine S.next (x := (⟨true, u, lo, n, v, o, lo2, n2, v2⟩ : Hv)) (⟨false, u4, lo4, m4, z, o1, lo3, n3, x3⟩ : Hv) ⟨hW4, hW2, hoz, hob, hgz⟩ (by simp only; omega) (by (repeat first | refine uA ?_ | (refine ⟨?_, ?_⟩; focus first | rfl | trivial | (simp [slot]; done)) | rfl | trivial | simp))
      · (repeat first | refine uA ?_ | (refine uK ?_ ?_; focus first | omega | trivial | (intro h; rw [h]; rfl) | (intro h h2; rw [h, h2]; rfl) | (intro h; (try simp at h); omega) | (intros; simp_all <;> omega)) | simp only [go_sem, Nat.reduceBEq, Nat.reduceAdd, Nat.reduceLeDiff, Int.reduceToNat, Int.reducePow] | simp (disch := omega) only [ww])
        have h0 := hW3.nonzero (by omega)
        have h1 : x1 = x3 := by omega
        subst h1
        rw [Nat.gcd_self] at hG
        exact S.met ⟨true, u2, lo1, m1, x1 - x1, o1, lo3, n3, x1⟩ ⟨hW3, hW2, .inl ⟨by simp only; omega, hG⟩⟩ (by (repeat first | refine uA ?_ | (refine ⟨?_, ?_⟩; focus first | rfl | trivial | (simp [slot]; done)) | rfl | trivial | simp))
      · have h0 : x1 - x3 ≠ 0 := fun h => by have := hW3.zero h; omega
        obtain ⟨z, hz, hoz⟩ := Nm.a2F h0
        have hev := a7d ((u2.drop lo1).take m1) (by rw [hW3.len]; omega) hW3.all (by rw [hW3.hv]; exact h0)
        rw [hwl, hW3.hv] at hev
        have heb := hW3.v2 h0
        generalize Nm.v2 (x1 - x3) = e at *
        have hrg := fun (E : Ctx) (hP : E.P = Tryz.prog) => a7o (E := E) hP true u2 o1 lo1 m1 e z (by omega) hn3 heb hW3.ha (by omega) (by rw [hW3.hv, hz, Nat.mul_comm])
        obtain ⟨hj, hz2, _⟩ := hrg ⟨Tryz.prog, eff, 0, w, fun _ => False, O, [], []⟩ rfl
        have hrg := fun E hP => (hrg E hP).2.2
        have hW4 := Win.put (u := u2) (l1 := lo1 + e / 64) (p := m1 - e / 64) (z := z) (by omega) (by omega) hl3 hW3.ha hz2
        generalize put u2 (lo1 + e / 64) (Nm.dig 18446744073709551616 (m1 - e / 64) z) = u4 at *
        generalize lo1 + e / 64 = lo4 at *
        generalize (Nm.G9 (Nm.dig 18446744073709551616 (m1 - e / 64) z)).length = m4 at *
        have hrg' : ∀ (E : Ctx), E.P = Tryz.prog -> j5 E [.row 184 1 (ls u2), .row 184 1 (ls o1)] 149 [.wv 0 1 lo1 m1, ints e] (.wv 0 1 lo4 m4) [.row 184 1 (ls u4), .row 184 1 (ls o1)] [] := fun E hP => hrg E hP
        have hgz : Nat.gcd z x3 = G := by
          have h1 := Nm.a5E (d := z) hob e
          rw [<- h1, <- hz, Nm.b0p hle, hG]
        have hzle : z <= x1 - x3 := by
          conv => rhs; rw [hz]
          exact Nat.le_mul_of_pos_left _ (Nat.pow_pos (by decide))
        (repeat first | refine uA ?_ | (refine uK ?_ ?_; focus first | omega | trivial | (intro h; rw [h]; rfl) | (intro h h2; rw [h, h2]; rfl) | (intro h; (try simp at h); omega) | (intros; simp_all <;> omega)) | simp only [go_sem, Nat.reduceBEq, Nat.reduceAdd, Nat.reduceLeDiff, Int.reduceToNat, Int.reducePow, u7] | simp (disch := omega) only [ww, u7] | refine l7.t (hrg' _ rfl) ?_ | (refine uE hev ?_ ?_ ?_ ?_; exact tz hw; exact rfl; focus (repeat' first | exact l8.nil | exact Imp.refl rfl | exact Imp.frz rfl rfl rfl | (refine Imp.a0s rfl rfl ?_ ?_; (focus ((try simp only [c3a, u7]); omega)); (focus first | rfl | assumption)) | refine l8.cons ?_ ?_); done))
        refine S.next (x := (⟨true, u, lo, n, v, o, lo2, n2, v2⟩ : Hv)) (⟨true, u4, lo4, m4, z, o1, lo3, n3, x3⟩ : Hv) ⟨hW4, hW2, hoz, hob, hgz⟩ (by simp only; omega) (by (repeat first | refine uA ?_ | (refine ⟨?_, ?_⟩; focus first | rfl | trivial | (simp [slot]; done)) | rfl | trivial | simp))
    · (repeat first | refine uA ?_ | (refine uK ?_ ?_; focus first | omega | trivial | (intro h; rw [h]; rfl) | (intro h h2; rw [h, h2]; rfl) | (intro h; (try simp at h); omega) | (intros; simp_all <;> omega)) | simp only [go_sem, Nat.reduceBEq, Nat.reduceAdd, Nat.reduceLeDiff, Int.reduceToNat, Int.reducePow] | simp (disch := omega) only [ww])
      have ha1 : n <= 1 /\ n2 <= 1 := by omega
      have hz1 : n ≠ 0 := fun h => by have := hW1.nonzero h; omega
      have hz2 : n2 ≠ 0 := fun h => by have := hW2.nonzero h; omega
      exact S.met ⟨s, u, lo, n, v, o, lo2, n2, v2⟩ ⟨hW1, hW2,   .inr ⟨by simp only; omega, by simp only; omega, hG⟩⟩ (by cases s <;> exact (by (repeat first | refine uA ?_ | (refine ⟨?_, ?_⟩; focus first | rfl | trivial | (simp [slot]; done)) | rfl | trivial | simp)))
  clear hW1 hW2 hG hoa hob
  rintro ⟨s, u, lo, n, v, o, lo2, n2, v2⟩ ⟨hW1, hW2, hcs⟩
  simp only [ints] at hW1 hW2 hcs ⊢
  refine S.seq ?_
  have hl1 := hW1.hl
  have hl2 := hW2.hl
  have hn1 := hW1.hn
  have hn2 := hW2.hn
  have hlo1 := hW1.hlo
  have hlo2 := hW2.hlo
  refine S.join (Y := Bool × List Nat × List Nat) (fun x => ⟨[(6, .wv (kx !x.1) 1 lo2 n2), (7, ints p), (8, ints q)], rw2 x.1 x.2.1 x.2.2⟩)
    (fun x => x.2.2.length = o.length /\ Nm.L9 x.2.2 /\ Nm.wv 18446744073709551616 ((x.2.2.drop lo2).take n2) = G) ?_ ?_
  · have one : ∀ {u : List Nat} {lo v : Nat}, Win u lo 1 v -> u[lo]? = some v /\ v < 18446744073709551616 := fun {u lo v} h => by
      have hg : u[lo]? = some (u[lo]'h.hlo) := c2M h.hlo
      have h1 := h.hv
      have h2 : (u.drop lo).take 1 = [u[lo]'h.hlo] := by rw [List.drop_eq_getElem_cons h.hlo]; rfl
      rw [h2] at h1
      simp only [Nm.wv] at h1
      have h3 := h.ha _ (c2Z h.hlo)
      rw [Nat.mul_zero, Nat.add_zero] at h1
      rw [hg, h1]
      exact ⟨rfl, by omega⟩
    (repeat first | refine uA ?_ | (refine uK ?_ ?_; focus first | omega | trivial | (intro h; rw [h]; rfl) | (intro h h2; rw [h, h2]; rfl) | (intro h; (try simp at h); omega) | (intros; simp_all <;> omega)) | simp only [go_sem, Nat.reduceBEq, Nat.reduceAdd, Nat.reduceLeDiff, Int.reduceToNat, Int.reducePow] | simp (disch := omega) only [ww])
    (refine uJ rfl (fun hc => ?_) fun hc => ?_)
    · have hn : n = 1 := by omega
      have hm : n2 = 1 := by omega
      subst hn hm
      obtain ⟨g1, b1⟩ := one hW1
      obtain ⟨g2, b2⟩ := one hW2
      have hg : Nat.gcd v v2 = G := by rcases hcs with h | h; exact absurd h.1 (by decide); exact h.2.2
      have hco := b2n v v2 b1 b2
      rw [hg] at hco
      have hres : Nm.wv 18446744073709551616 (((o.set lo2 G).drop lo2).take 1) = G := by
        rw [List.drop_eq_getElem_cons (by rw [c3A]; exact hlo2), List.getElem_set_self]
        simp [Nm.wv]
      have hG64 : G < 18446744073709551616 := by
        have : v2 ≠ 0 := fun h => by have := hW2.zero h; omega
        have := Nat.gcd_le_right v (show 0 < v2 by omega)
        omega
      cases s
      all_goals
        simp only [rw2, kx, Bool.not_true, Bool.not_false]
        (repeat first | refine uA ?_ | (refine uK ?_ ?_; focus first | omega | trivial | (intro h; rw [h]; rfl) | (intro h h2; rw [h, h2]; rfl) | (intro h; (try simp at h); omega) | (intros; simp_all <;> omega)) | simp only [go_sem, Nat.reduceBEq, Nat.reduceAdd, Nat.reduceLeDiff, Int.reduceToNat, Int.reducePow, u7, J4, g1, g2, c2O, lm, Nat.add_zero, X6] | simp (disch := omega) only [ww, u7, J4, g1, g2, c2O, lm, Nat.add_zero, X6] | (refine uB hco ?_ ?_; exact rfl))
      · exact S.met (⟨false, u, o.set lo2 G⟩ : Bool × List Nat × List Nat) ⟨by simp, fun w hw => by
          rcases Nm.mem_set hw with rfl | hw
          · exact hG64
          · exact hW2.ha w hw, hres⟩ (by (repeat first | refine uA ?_ | (refine ⟨?_, ?_⟩; focus first | rfl | trivial | (simp [slot]; done)) | rfl | trivial | simp))
      · exact S.met (⟨true, u, o.set lo2 G⟩ : Bool × List Nat × List Nat) ⟨by simp, fun w hw => by
          rcases Nm.mem_set hw with rfl | hw
          · exact hG64
          · exact hW2.ha w hw, hres⟩ (by (repeat first | refine uA ?_ | (refine ⟨?_, ?_⟩; focus first | rfl | trivial | (simp [slot]; done)) | rfl | trivial | simp))
    · (repeat first | refine uA ?_ | (refine uK ?_ ?_; focus first | omega | trivial | (intro h; rw [h]; rfl) | (intro h h2; rw [h, h2]; rfl) | (intro h; (try simp at h); omega) | (intros; simp_all <;> omega)) | simp only [go_sem, Nat.reduceBEq, Nat.reduceAdd, Nat.reduceLeDiff, Int.reduceToNat, Int.reducePow] | simp (disch := omega) only [ww])
      have hg : v2 = G := by
        rcases hcs with h | h
        · exact h.2
        · omega
      exact S.met (⟨s, u, o⟩ : Bool × List Nat × List Nat) ⟨rfl, hW2.ha, by rw [<- hg]; exact hW2.hv⟩ (by cases s <;> exact (by (repeat first | refine uA ?_ | (refine ⟨?_, ?_⟩; focus first | rfl | trivial | (simp [slot]; done)) | rfl | trivial | simp)))
  rintro ⟨s', u', o'⟩ ⟨ho1, ho2, ho3⟩
  simp only [ints] at ho1 ho2 ho3 ⊢
  have hul : ((o'.drop lo2).take n2).length = n2 := by rw [c2W, c3z]; omega
  have hua : Nm.L9 ((o'.drop lo2).take n2) := (ho2.drop lo2).take _
  have hgw : ∀ i, i < n2 -> o'[lo2 + i]? = ((o'.drop lo2).take n2)[i]? := fun i hi => by rw [List.getElem?_take_of_lt hi, c3B]
  generalize (o'.drop lo2).take n2 = W at *
  have hfm := a2V (Nm.a1O W) (Nm.oB (2 ^ (min p q % 8)) :: List.replicate (min p q / 8) 0) (by rw [Nm.b0P hua]; omega) (by rw [c3g, List.length_replicate]; omega)
  rw [Nm.b7l, Nm.b6d hua, ho3, Nat.mul_comm] at hfm
  have hWl : W.length <= 17179869184 := by omega
  have hz8 : List.replicate (8 * (n2 : Int)).toNat [C.v (.int .u8 0)] = (Nm.a3T W 0).map F5 := by
    rw [Nm.b6b, <- a2P, show (8 * (n2 : Int)).toNat = 8 * W.length by omega]
  have hqm : IntKind.i64.wrap (((min p q : Nat) : Int).tdiv 8) = ((min p q / 8 : Nat) : Int) := b5z _ (by omega)
  have hmn : (if (q : Int) < (p : Int) then (q : Int) else (p : Int)) = ((min p q : Nat) : Int) := by split <;> omega
  generalize min p q = r at *
  clear hW1 hW2 hcs hn1 hl1 hlo1 ho3
  cases s'
  all_goals
    simp only [rw2, kx, Bool.not_true, Bool.not_false]
    (repeat first | refine uA ?_ | (refine uK ?_ ?_; focus first | omega | trivial | (intro h; rw [h]; rfl) | (intro h h2; rw [h, h2]; rfl) | (intro h; (try simp at h); omega) | (intros; simp_all <;> omega)) | simp only [go_sem, Nat.reduceBEq, Nat.reduceAdd, Nat.reduceLeDiff, Int.reduceToNat, Int.reducePow, u7, hz8] | simp (disch := omega) only [ww, u7, hz8])
  · refine S.loop (X := Nat) (fun i => ⟨[(6, .wv 0 1 lo2 n2), (7, ints p), (8, ints q), (9, .rv 2), (72, .wv 0 1 lo2 n2), (73, ints n2), (74, ints i)], [.row 184 1 (ls o'), .row 184 1 (ls u')] ++ [.row 5 1 ((Nm.a3T W i).map F5)]⟩) (fun i => i <= n2) (fun i => n2 - i) 0 (c2T _) (by (repeat first | refine uA ?_ | (refine ⟨?_, ?_⟩; focus first | rfl | trivial | (simp [slot]; done)) | rfl | trivial | simp)) ?_
    intro i hi
    simp only [ints, List.cons_append, List.nil_append]
    (repeat first | refine uA ?_ | (refine uK ?_ ?_; focus first | omega | trivial | (intro h; rw [h]; rfl) | (intro h h2; rw [h, h2]; rfl) | (intro h; (try simp at h); omega) | (intros; simp_all <;> omega)) | simp only [go_sem, Nat.reduceBEq, Nat.reduceAdd, Nat.reduceLeDiff, Int.reduceToNat, Int.reducePow] | simp (disch := omega) only [ww])
    (refine uJ rfl (fun hc => ?_) fun hc => ?_)
    · have hi' : i < n2 := by omega
      have hiW : i < W.length := by omega
      have hgo : o'[lo2 + i]? = some (W[i]'hiW) := by rw [hgw i hi', c2M hiW]
      have hgd : W.getD i 0 = W[i]'hiW := Nm.getD_lt hiW
      (repeat first | refine uA ?_ | (refine uK ?_ ?_; focus first | omega | trivial | (intro h; rw [h]; rfl) | (intro h h2; rw [h, h2]; rfl) | (intro h; (try simp at h); omega) | (intros; simp_all <;> omega)) | simp only [go_sem, Nat.reduceBEq, Nat.reduceAdd, Nat.reduceLeDiff, Int.reduceToNat, Int.reducePow, u7, J4, hgo, c2O, lm] | simp (disch := omega) only [ww, u7, J4, hgo, c2O, lm])
      rw [<- Nm.b0T hiW]
      refine S.loop (X := Nat) (fun k => ⟨[(6, .wv 0 1 lo2 n2), (7, ints p), (8, ints q), (9, .rv 2), (72, .wv 0 1 lo2 n2), (73, ints n2), (74, ints i), (10, ints i), (11, .v (.int .u64 (W[i]'hiW : Int))), (79, ints k)], [.row 184 1 (ls o'), .row 184 1 (ls u')] ++ [.row 5 1 ((Nm.a1F W i k).map F5)]⟩) (fun k => k <= 8) (fun k => 8 - k) 0 (c2T _) (by (repeat first | refine uA ?_ | (refine ⟨?_, ?_⟩; focus first | rfl | trivial | (simp [slot]; done)) | rfl | trivial | simp)) ?_
      intro k hk
      simp only [ints, List.cons_append, List.nil_append]
      have hlk := Nm.b2J hua hiW hk
      (repeat first | refine uA ?_ | (refine uK ?_ ?_; focus first | omega | trivial | (intro h; rw [h]; rfl) | (intro h h2; rw [h, h2]; rfl) | (intro h; (try simp at h); omega) | (intros; simp_all <;> omega)) | simp only [go_sem, Nat.reduceBEq, Nat.reduceAdd, Nat.reduceLeDiff, Int.reduceToNat, Int.reducePow] | simp (disch := omega) only [ww])
      (refine uJ rfl (fun hc => ?_) fun hc => ?_)
      · have hk' : k < 8 := by omega
        have hst := Nm.b1m (l := W) (i := i) hk'
        rw [hgd] at hst
        have hbv : IntKind.u8.wrap (Int.fdiv ((W[i]'hiW : Nat) : Int) (2 ^ min (56 - 8 * (k : Int)).toNat 64)) = (((Nm.oB ((W[i]'hiW) / 2 ^ (56 - 8 * k))).toNat : Nat) : Int) := by
          rw [<- a5M, show min (56 - 8 * (k : Int)).toNat 64 = 56 - 8 * k by omega]
          congr 2
        have hix : (8 * ((n2 : Int) - 1 - (i : Int)) + (k : Int)).toNat = 8 * (W.length - 1 - i) + k := by omega
        have hgk : (Nm.a1F W i k)[8 * (W.length - 1 - i) + k]? = some ((Nm.a1F W i k)[8 * (W.length - 1 - i) + k]'(by omega)) := c2M (by omega)
        (repeat first | refine uA ?_ | (refine uK ?_ ?_; focus first | omega | trivial | (intro h; rw [h]; rfl) | (intro h h2; rw [h, h2]; rfl) | (intro h; (try simp at h); omega) | (intros; simp_all <;> omega)) | simp only [go_sem, Nat.reduceBEq, Nat.reduceAdd, Nat.reduceLeDiff, Int.reduceToNat, Int.reducePow, u7, c2N, hbv, hix, c3i, hgk, c2O, F5, a3k, hst] | simp (disch := omega) only [ww, u7, c2N, hbv, hix, c3i, hgk, c2O, F5, a3k, hst])
        refine S.next (x := k) (k + 1) hk' (by omega) (by (repeat first | refine uA ?_ | (refine ⟨?_, ?_⟩; focus first | rfl | trivial | (simp [slot]; done)) | rfl | trivial | simp))
      · have hk8 : k = 8 := by omega
        subst hk8
        rw [Nm.a9t hiW]
        (repeat first | refine uA ?_ | (refine uK ?_ ?_; focus first | omega | trivial | (intro h; rw [h]; rfl) | (intro h h2; rw [h, h2]; rfl) | (intro h; (try simp at h); omega) | (intros; simp_all <;> omega)) | simp only [go_sem, Nat.reduceBEq, Nat.reduceAdd, Nat.reduceLeDiff, Int.reduceToNat, Int.reducePow] | simp (disch := omega) only [ww])
        refine S.next (x := i) (i + 1) hi' (by omega) (by (repeat first | refine uA ?_ | (refine ⟨?_, ?_⟩; focus first | rfl | trivial | (simp [slot]; done)) | rfl | trivial | simp))
    · have hi' : i = n2 := by omega
      subst hi'
      rw [<- hul, Nm.b2U]
      have hr1 : ((r / 8 : Nat) : Int) + 1 = ((r / 8 + 1 : Nat) : Int) := by omega
      have hrep : List.replicate (((r / 8 + 1 : Nat) : Int)).toNat [C.v (.int .u8 0)] = (List.replicate (r / 8 + 1) (0 : UInt8)).map F5 := by rw [<- a2P]; rfl
      have hrm : (r : Int).tmod 8 = ((r % 8 : Nat) : Int) := a9u r
      have hpw : IntKind.u8.wrap (1 * 2 ^ min (r % 8) 8) = (((Nm.oB (2 ^ (r % 8))).toNat : Nat) : Int) := by
        rw [show min (r % 8) 8 = r % 8 by omega, Nm.a1G, <- a1J]; congr 1; simp
      have hby : Y8 ([C.v (.int .u8 (((Nm.oB (2 ^ (r % 8))).toNat : Nat) : Int))] :: List.replicate (r / 8) [C.v (.int .u8 0)]) = some (Nm.oB (2 ^ (r % 8)) :: List.replicate (r / 8) 0) := by
        rw [a2P]; exact V3 (Nm.oB (2 ^ (r % 8)) :: List.replicate (r / 8) 0)
      (repeat first | refine uA ?_ | (refine uK ?_ ?_; focus first | omega | trivial | (intro h; rw [h]; rfl) | (intro h h2; rw [h, h2]; rfl) | (intro h; (try simp at h); omega) | (intros; simp_all <;> omega)) | simp only [go_sem, Nat.reduceBEq, Nat.reduceAdd, Nat.reduceLeDiff, Int.reduceToNat, Int.reducePow, hmn, hqm, hr1, hrep, hrm, hpw, hby, V3, a3D, F5, c2X] | simp (disch := omega) only [ww, hmn, hqm, hr1, hrep, hrm, hpw, hby, V3, a3D, F5, c2X] | (refine uB hfm ?_ ?_; exact rfl))
      exact S.done (j3.out rfl (Imp.refl rfl) rfl)
  · refine S.loop (X := Nat) (fun i => ⟨[(6, .wv 1 1 lo2 n2), (7, ints p), (8, ints q), (9, .rv 2), (72, .wv 1 1 lo2 n2), (73, ints n2), (74, ints i)], [.row 184 1 (ls u'), .row 184 1 (ls o')] ++ [.row 5 1 ((Nm.a3T W i).map F5)]⟩) (fun i => i <= n2) (fun i => n2 - i) 0 (c2T _) (by (repeat first | refine uA ?_ | (refine ⟨?_, ?_⟩; focus first | rfl | trivial | (simp [slot]; done)) | rfl | trivial | simp)) ?_
    intro i hi
    simp only [ints, List.cons_append, List.nil_append]
    (repeat first | refine uA ?_ | (refine uK ?_ ?_; focus first | omega | trivial | (intro h; rw [h]; rfl) | (intro h h2; rw [h, h2]; rfl) | (intro h; (try simp at h); omega) | (intros; simp_all <;> omega)) | simp only [go_sem, Nat.reduceBEq, Nat.reduceAdd, Nat.reduceLeDiff, Int.reduceToNat, Int.reducePow] | simp (disch := omega) only [ww])
    (refine uJ rfl (fun hc => ?_) fun hc => ?_)
    · have hi' : i < n2 := by omega
      have hiW : i < W.length := by omega
      have hgo : o'[lo2 + i]? = some (W[i]'hiW) := by rw [hgw i hi', c2M hiW]
      have hgd : W.getD i 0 = W[i]'hiW := Nm.getD_lt hiW
      (repeat first | refine uA ?_ | (refine uK ?_ ?_; focus first | omega | trivial | (intro h; rw [h]; rfl) | (intro h h2; rw [h, h2]; rfl) | (intro h; (try simp at h); omega) | (intros; simp_all <;> omega)) | simp only [go_sem, Nat.reduceBEq, Nat.reduceAdd, Nat.reduceLeDiff, Int.reduceToNat, Int.reducePow, u7, J4, hgo, c2O, lm] | simp (disch := omega) only [ww, u7, J4, hgo, c2O, lm])
      rw [<- Nm.b0T hiW]
      refine S.loop (X := Nat) (fun k => ⟨[(6, .wv 1 1 lo2 n2), (7, ints p), (8, ints q), (9, .rv 2), (72, .wv 1 1 lo2 n2), (73, ints n2), (74, ints i), (10, ints i), (11, .v (.int .u64 (W[i]'hiW : Int))), (79, ints k)], [.row 184 1 (ls u'), .row 184 1 (ls o')] ++ [.row 5 1 ((Nm.a1F W i k).map F5)]⟩) (fun k => k <= 8) (fun k => 8 - k) 0 (c2T _) (by (repeat first | refine uA ?_ | (refine ⟨?_, ?_⟩; focus first | rfl | trivial | (simp [slot]; done)) | rfl | trivial | simp)) ?_
      intro k hk
      simp only [ints, List.cons_append, List.nil_append]
      have hlk := Nm.b2J hua hiW hk
      (repeat first | refine uA ?_ | (refine uK ?_ ?_; focus first | omega | trivial | (intro h; rw [h]; rfl) | (intro h h2; rw [h, h2]; rfl) | (intro h; (try simp at h); omega) | (intros; simp_all <;> omega)) | simp only [go_sem, Nat.reduceBEq, Nat.reduceAdd, Nat.reduceLeDiff, Int.reduceToNat, Int.reducePow] | simp (disch := omega) only [ww])
      (refine uJ rfl (fun hc => ?_) fun hc => ?_)
      · have hk' : k < 8 := by omega
        have hst := Nm.b1m (l := W) (i := i) hk'
        rw [hgd] at hst
        have hbv : IntKind.u8.wrap (Int.fdiv ((W[i]'hiW : Nat) : Int) (2 ^ min (56 - 8 * (k : Int)).toNat 64)) = (((Nm.oB ((W[i]'hiW) / 2 ^ (56 - 8 * k))).toNat : Nat) : Int) := by
          rw [<- a5M, show min (56 - 8 * (k : Int)).toNat 64 = 56 - 8 * k by omega]
          congr 2
        have hix : (8 * ((n2 : Int) - 1 - (i : Int)) + (k : Int)).toNat = 8 * (W.length - 1 - i) + k := by omega
        have hgk : (Nm.a1F W i k)[8 * (W.length - 1 - i) + k]? = some ((Nm.a1F W i k)[8 * (W.length - 1 - i) + k]'(by omega)) := c2M (by omega)
        (repeat first | refine uA ?_ | (refine uK ?_ ?_; focus first | omega | trivial | (intro h; rw [h]; rfl) | (intro h h2; rw [h, h2]; rfl) | (intro h; (try simp at h); omega) | (intros; simp_all <;> omega)) | simp only [go_sem, Nat.reduceBEq, Nat.reduceAdd, Nat.reduceLeDiff, Int.reduceToNat, Int.reducePow, u7, c2N, hbv, hix, c3i, hgk, c2O, F5, a3k, hst] | simp (disch := omega) only [ww, u7, c2N, hbv, hix, c3i, hgk, c2O, F5, a3k, hst])
        refine S.next (x := k) (k + 1) hk' (by omega) (by (repeat first | refine uA ?_ | (refine ⟨?_, ?_⟩; focus first | rfl | trivial | (simp [slot]; done)) | rfl | trivial | simp))
      · have hk8 : k = 8 := by omega
        subst hk8
        rw [Nm.a9t hiW]
        (repeat first | refine uA ?_ | (refine uK ?_ ?_; focus first | omega | trivial | (intro h; rw [h]; rfl) | (intro h h2; rw [h, h2]; rfl) | (intro h; (try simp at h); omega) | (intros; simp_all <;> omega)) | simp only [go_sem, Nat.reduceBEq, Nat.reduceAdd, Nat.reduceLeDiff, Int.reduceToNat, Int.reducePow] | simp (disch := omega) only [ww])
        refine S.next (x := i) (i + 1) hi' (by omega) (by (repeat first | refine uA ?_ | (refine ⟨?_, ?_⟩; focus first | rfl | trivial | (simp [slot]; done)) | rfl | trivial | simp))
    · have hi' : i = n2 := by omega
      subst hi'
      rw [<- hul, Nm.b2U]
      have hr1 : ((r / 8 : Nat) : Int) + 1 = ((r / 8 + 1 : Nat) : Int) := by omega
      have hrep : List.replicate (((r / 8 + 1 : Nat) : Int)).toNat [C.v (.int .u8 0)] = (List.replicate (r / 8 + 1) (0 : UInt8)).map F5 := by rw [<- a2P]; rfl
      have hrm : (r : Int).tmod 8 = ((r % 8 : Nat) : Int) := a9u r
      have hpw : IntKind.u8.wrap (1 * 2 ^ min (r % 8) 8) = (((Nm.oB (2 ^ (r % 8))).toNat : Nat) : Int) := by
        rw [show min (r % 8) 8 = r % 8 by omega, Nm.a1G, <- a1J]; congr 1; simp
      have hby : Y8 ([C.v (.int .u8 (((Nm.oB (2 ^ (r % 8))).toNat : Nat) : Int))] :: List.replicate (r / 8) [C.v (.int .u8 0)]) = some (Nm.oB (2 ^ (r % 8)) :: List.replicate (r / 8) 0) := by
        rw [a2P]; exact V3 (Nm.oB (2 ^ (r % 8)) :: List.replicate (r / 8) 0)
      (repeat first | refine uA ?_ | (refine uK ?_ ?_; focus first | omega | trivial | (intro h; rw [h]; rfl) | (intro h h2; rw [h, h2]; rfl) | (intro h; (try simp at h); omega) | (intros; simp_all <;> omega)) | simp only [go_sem, Nat.reduceBEq, Nat.reduceAdd, Nat.reduceLeDiff, Int.reduceToNat, Int.reducePow, hmn, hqm, hr1, hrep, hrm, hpw, hby, V3, a3D, F5, c2X] | simp (disch := omega) only [ww, hmn, hqm, hr1, hrep, hrm, hpw, hby, V3, a3D, F5, c2X] | (refine uB hfm ?_ ?_; exact rfl))
      exact S.done (j3.out rfl (Imp.refl rfl) rfl)
theorem b9m (a b : List UInt8) (ha : a.length <= 68719476736) (hb : b.length <= 68719476736) : FZ 94 [sb a, sb b] (sb (Nm.enc (Nat.gcd (Nm.val a) (Nm.val b)))) := by
  refine kW Tryz.func94 (by cbv) (by rfl) fun w O hw => ?_
  simp only [l6, sb]
  have hta := Nm.W9 a
  have htb := Nm.W9 b
  have hva := Nm.O8 a
  have hvb := Nm.O8 b
  have hca := Nm.U9 a
  have hcb := Nm.U9 b
  have fta := a0g a (by omega)
  have ftb := a0g b (by omega)
  rw [<- hva, <- hvb]
  clear hva hvb
  generalize Nm.trim a = x at *
  generalize Nm.trim b = y at *
  generalize hG : Nat.gcd (Nm.val x) (Nm.val y) = G at *
  (repeat first | refine uA ?_ | (refine uK ?_ ?_; focus first | omega | (intros; simp_all <;> omega)) | simp (disch := omega) only [go_sem, Nat.reduceBEq, Nat.reduceAdd, ww] | (refine uB fta ?_ ?_; exact rfl) | (refine uB ftb ?_ ?_; exact rfl))
  refine S.loop (X := List UInt8 × List UInt8) (fun s => ⟨[(0, sb s.1), (1, sb s.2)], []⟩) (fun s => Nm.canon s.1 /\ Nm.canon s.2 /\ s.1.length <= 68719476736 /\ s.2.length <= 68719476736 /\ Nat.gcd (Nm.val s.1) (Nm.val s.2) = G) (fun s => Nm.val s.1 + Nm.val s.2) (x, y) ⟨hca, hcb, by simp only; omega, by simp only; omega, hG⟩ (by (repeat first | refine uA ?_ | (refine ⟨?_, ?_⟩; focus first | rfl | simp [slot]) | rfl | simp)) ?_
  clear fta ftb hca hcb hta htb hG
  rintro ⟨x, y⟩ ⟨hcx, hcy, hlx, hly, hG⟩
  simp only [sb] at hcx hcy hlx hly hG ⊢
  (repeat first | refine uA ?_ | (refine uK ?_ ?_; focus first | omega | (intros; simp_all <;> omega)) | simp (disch := omega) only [go_sem, Nat.reduceBEq, Nat.reduceAdd, ww])
  (refine uJ rfl (fun hc => ?_) fun hc => ?_)
  · rw [a0y, a0y] at hc
    have hne := hc
    refine S.skip ?_
    refine S.block ?_
    refine S.seq ?_
    refine S.join (Y := List UInt8 × List UInt8) (fun s => ⟨[(0, sb s.1), (1, sb s.2)], []⟩) (fun s => Nm.canon s.1 /\ Nm.canon s.2 /\ s.1.length <= 68719476736 /\ s.2.length <= s.1.length /\ Nat.gcd (Nm.val s.1) (Nm.val s.2) = G /\ s.1 ≠ [] /\ s.2 ≠ [] /\ Nm.val s.1 + Nm.val s.2 = Nm.val x + Nm.val y) ?_ ?_
    · (repeat first | refine uA ?_ | (refine uK ?_ ?_; focus first | omega | (intros; simp_all <;> omega)) | simp (disch := omega) only [go_sem, Nat.reduceBEq, Nat.reduceAdd, ww, E5])
      (refine uJ rfl (fun hc => ?_) fun hc => ?_)
      · (repeat first | refine uA ?_ | (refine uK ?_ ?_; focus first | omega | (intros; simp_all <;> omega)) | simp (disch := omega) only [go_sem, Nat.reduceBEq, Nat.reduceAdd, ww])
        exact S.met (⟨y, x⟩ : List UInt8 × List UInt8) ⟨hcy, hcx, hly, by simp only; omega, by rw [Nat.gcd_comm]; exact hG, hne.2, hne.1, by simp only; omega⟩ (by (repeat first | refine uA ?_ | (refine ⟨?_, ?_⟩; focus first | rfl | simp [slot]) | rfl | simp))
      · (repeat first | refine uA ?_ | (refine uK ?_ ?_; focus first | omega | (intros; simp_all <;> omega)) | simp (disch := omega) only [go_sem, Nat.reduceBEq, Nat.reduceAdd, ww])
        exact S.met (⟨x, y⟩ : List UInt8 × List UInt8) ⟨hcx, hcy, hlx, by simp only; omega, hG, hne.1, hne.2, rfl⟩ (by (repeat first | refine uA ?_ | (refine ⟨?_, ?_⟩; focus first | rfl | simp [slot]) | rfl | simp))
    clear hcx hcy hlx hly hG hc hne
    rintro ⟨p, q⟩ ⟨hcx, hcy, hlx, hly, hG, hp0, hq0, hsum⟩
    simp only [sb] at hcx hcy hlx hly hG hp0 hq0 hsum ⊢
    have hvp : Nm.val p ≠ 0 := fun h => hp0 ((Nm.val_zero hcx).1 h)
    have hvq : Nm.val q ≠ 0 := fun h => hq0 ((Nm.val_zero hcy).1 h)
    (repeat first | refine uA ?_ | (refine uK ?_ ?_; focus first | omega | (intros; simp_all <;> omega)) | simp (disch := omega) only [go_sem, Nat.reduceBEq, Nat.reduceAdd, ww, E5])
    (refine uJ rfl (fun hc => ?_) fun hc => ?_)
    · have hx7 := Nm.a0f (l := p) (k := 8) (by omega)
      have hy7 := Nm.a0f (l := q) (k := 8) (by omega)
      have e1 : Nm.val p % 18446744073709551616 = Nm.val p := Nat.mod_eq_of_lt (by omega)
      have e2 : Nm.val q % 18446744073709551616 = Nm.val q := Nat.mod_eq_of_lt (by omega)
      have fx := a1s p (by omega)
      have fy := a1s q (by omega)
      rw [e1] at fx
      rw [e2] at fy
      have hco := b2n (Nm.val p) (Nm.val q) (by omega) (by omega)
      rw [hG] at hco
      have hle : G <= Nm.val q := by rw [<- hG]; exact Nat.gcd_le_right _ (by omega)
      have hf := a0k G (by omega)
      (repeat first | refine uA ?_ | (refine uK ?_ ?_; focus first | omega | (intros; simp_all <;> omega)) | simp (disch := omega) only [go_sem, Nat.reduceBEq, Nat.reduceAdd, ww] | (refine uB fx ?_ ?_; exact rfl) | (refine uB fy ?_ ?_; exact rfl) | (refine uB hco ?_ ?_; exact rfl) | (refine uB hf ?_ ?_; exact rfl))
      exact S.done (j3.out rfl (Imp.refl rfl) rfl)
    (repeat first | refine uA ?_ | (refine uK ?_ ?_; focus first | omega | (intros; simp_all <;> omega)) | simp (disch := omega) only [go_sem, Nat.reduceBEq, Nat.reduceAdd, ww, E5])
    (refine uJ rfl (fun hc => ?_) fun hc => ?_)
    · have hh := b8r p q hlx (by omega) hvp hvq
      rw [hG] at hh
      (repeat first | refine uA ?_ | (refine uK ?_ ?_; focus first | omega | (intros; simp_all <;> omega)) | simp (disch := omega) only [go_sem, Nat.reduceBEq, Nat.reduceAdd, ww] | (refine uD hh ?_ ?_ ?_; exact tz hw; exact rfl))
      exact S.done (j3.out rfl (Imp.refl rfl) rfl)
    · have hd := b1J p q (by omega) (by omega) hvq
      have hlt : Nm.val p % Nm.val q < Nm.val q := Nat.mod_lt _ (by omega)
      have hlq := Nm.X4 q
      have hpq := Nm.a2z hcx (a := q) (b := p) (by omega)
      have hrl : (Nm.enc (Nm.val p % Nm.val q)).length <= q.length := Nm.F4 (by omega)
      (repeat first | refine uA ?_ | (refine uK ?_ ?_; focus first | omega | (intros; simp_all <;> omega)) | simp (disch := omega) only [go_sem, Nat.reduceBEq, Nat.reduceAdd, ww] | (refine uB hd ?_ ?_; exact rfl))
      refine S.next (x := (x, y)) (q, Nm.enc (Nm.val p % Nm.val q)) ⟨hcy, Nm.a2h _, by simp only; omega, by simp only; omega, ?_⟩ (by simp only [Nm.I6]; omega) (by (repeat first | refine uA ?_ | (refine ⟨?_, ?_⟩; focus first | rfl | simp [slot]) | rfl | simp))
      simp only [Nm.I6]
      rw [Nat.gcd_comm, <- Nat.gcd_rec, Nat.gcd_comm]; exact hG
  · have hr : Nm.enc G = x ++ y := by
      rw [a0y, a0y] at hc
      rcases Classical.em (x = []) with h | h
      · subst h
        rw [Nm.a9U, Nat.gcd_zero_left] at hG
        rw [<- hG, Nm.a1g hcy]; rfl
      · have hy : y = [] := by
          rcases hc with hc | hc
          · exact absurd hc h
          · exact hc
        subst hy
        rw [Nm.a9U, Nat.gcd_zero_right] at hG
        rw [<- hG, Nm.a1g hcx, List.append_nil]
    rw [hr]
    (repeat first | refine uA ?_ | (refine uK ?_ ?_; focus first | omega | (intros; simp_all <;> omega)) | simp (disch := omega) only [go_sem, Nat.reduceBEq, Nat.reduceAdd, ww, c1h, E5])
    exact S.done (j3.out rfl (Imp.refl rfl) rfl)
def rc (a : Nm.Rt) : C := .agg [.v (.bool a.neg), sb a.num, sb a.den]
def rq (q : Rat) : C := rc (Nm.ofQ q)
def Rb (k : Nat) (a : Nm.Rt) : Prop := a.num.length <= k /\ a.den.length <= k
theorem a5i (l : List UInt8) : (bs l = (⟨#[1]⟩ : ByteArray)) = (l = [1]) := b5C l [1]
theorem b0u (l : List UInt8) : Nm.canon l <-> (l = [] \/ l.getD 0 0 ≠ 0) := by
 cases l with
 | nil => simp [Nm.a6K]
 | cons b r =>
  simp only [List.getD_cons_zero, reduceCtorEq, false_or]
  constructor
  ·intro h h0; exact h r (by rw [h0])
  ·intro h q e; injection e with e1 _; exact h e1
theorem a1e (a : Nm.Rt) (ha : Rb 68719476736 a) : FZ 40 [rc a] (.v (.bool (decide a.H8))) := by
  refine kW Tryz.func40 (by cbv) (by rfl) fun w O hw => ?_
  obtain ⟨neg, num, den⟩ := a
  obtain ⟨hn, hd⟩ := ha
  simp only [rc] at hn hd ⊢
  simp only [l6, sb]
  have hg := b9m num den (by omega) (by omega)
  have hgood : Nm.Rt.H8 ⟨neg, num, den⟩ <-> den ≠ [] /\ Nm.canon den /\ Nm.canon num /\ (num = [] -> neg = false /\ den = [1]) /\ (den = [1] \/ Nat.gcd (Nm.val num) (Nm.val den) = 1) := Iff.rfl
  rw [b0u, b0u] at hgood
  have hdl : (!decide (den = [])) = true -> 0 < (den.length : Int) := fun h => by
    have : den ≠ [] := by simpa using h
    have := List.length_pos_iff.2 this
    omega
  have hnl : num ≠ [] -> 0 < (num.length : Int) := fun h => by
    have := List.length_pos_iff.2 h
    omega
  have hgb0 : ∀ {p : Prop} [Decidable p], (Nm.Rt.H8 ⟨neg, num, den⟩ <-> p) -> decide (Nm.Rt.H8 ⟨neg, num, den⟩) = decide p := fun h => decide_eq_decide.2 h
  have hgb := hgb0 hgood
  clear hgood hgb0
  generalize decide (Nm.Rt.H8 ⟨neg, num, den⟩) = gb at *
  (repeat first | refine uA ?_ | (refine uK ?_ ?_; focus first | omega | trivial | (intro h; rw [h]; rfl) | (intro h h2; rw [h, h2]; rfl) | (intro h; (try simp at h); omega) | (intros; simp_all <;> omega)) | simp only [go_sem, Nat.reduceBEq, Nat.reduceAdd, Nat.reduceLeDiff, Int.reduceToNat, Int.reducePow, E5, R8, a7b, a0y, a5i] | simp (disch := omega) only [ww, E5, R8, a7b, a0y, a5i])
  refine S.cond rfl (fun hc => ?_) (fun hc => ?_)
  · have : gb = false := by
      rw [hgb, c3b]
      simp only [c3C, c2S, c2U, Bool.not_eq_true', c3b] at hc
      grind
    rw [this]
    (repeat first | refine uA ?_ | (refine uK ?_ ?_; focus first | omega | trivial | (intro h; rw [h]; rfl) | (intro h h2; rw [h, h2]; rfl) | (intro h; (try simp at h); omega) | (intros; simp_all <;> omega)) | simp only [go_sem, Nat.reduceBEq, Nat.reduceAdd, Nat.reduceLeDiff, Int.reduceToNat, Int.reducePow] | simp (disch := omega) only [ww])
    exact S.done (j3.out rfl (Imp.refl rfl) rfl)
  · have hone : (Nm.enc (Nat.gcd (Nm.val num) (Nm.val den)) = [1]) = (Nat.gcd (Nm.val num) (Nm.val den) = 1) := by
      rw [<- Nm.a0V]
      exact propext ⟨Nm.b0g, fun h => by rw [h]⟩
    have : gb = (decide (den = [1]) || decide (Nat.gcd (Nm.val num) (Nm.val den) = 1)) := by
      rw [hgb, <- Bool.decide_or]
      simp only [c3r, Bool.and_eq_false_iff, c2U, Bool.not_eq_false', c3b] at hc
      refine decide_eq_decide.2 ⟨fun h => h.2.2.2.2, fun h => ?_⟩
      grind
    rw [this]
    (repeat first | refine uA ?_ | (refine uK ?_ ?_; focus first | omega | trivial | (intro h; rw [h]; rfl) | (intro h h2; rw [h, h2]; rfl) | (intro h; (try simp at h); omega) | (intros; simp_all <;> omega)) | simp only [go_sem, Nat.reduceBEq, Nat.reduceAdd, Nat.reduceLeDiff, Int.reduceToNat, Int.reducePow, a0y, a5i, hone] | simp (disch := omega) only [ww, a0y, a5i, hone] | (refine uD hg ?_ ?_ ?_; exact tz hw; exact rfl))
    exact S.done (j3.out rfl (Imp.refl rfl) rfl)
theorem b7q : G5 Tryz.prog 123 [] (rc Nm.a2Y) := by
 refine kS Tryz.func123 (by cbv) (by rfl) fun w O => ?_
 simp only [l6, rc, Nm.a2Y, sb]
 (repeat first | refine uA ?_ | (refine uK ?_ ?_; focus first | omega | (intros; simp_all <;> omega)) | simp (disch := omega) only [go_sem, Nat.reduceBEq, Nat.reduceAdd, ww])
 (refine S.done ?_; simp only [p9, p8, go_sem, Nat.reduceBEq, Nat.reduceAdd, Nat.reduceLeDiff, Int.reduceToNat, Int.reducePow]; (repeat (refine ⟨?_, ?_⟩; focus first | trivial | omega | simp)); exact j3.out rfl (Imp.refl rfl) rfl)
theorem c2t (a : Nm.Rt) (ha : Rb 68719476736 a) : FZ 77 [rc a] (rq (Nm.d9 a)) := by
 refine kW Tryz.func77 (by cbv) (by rfl) fun w O hw => ?_
 have hg := a1e a ha
 have fz := b7q
 unfold rq
 by_cases h : a.H8
 ·rw [Nm.b3o h]
  rw [show decide a.H8 = true from decide_eq_true h] at hg
  simp only [l6, rc, sb] at hg ⊢
  (repeat first | refine uA ?_ | (refine uK ?_ ?_; focus first | omega | (intros; simp_all <;> omega)) | simp (disch := omega) only [go_sem, Nat.reduceBEq, Nat.reduceAdd, ww] | (refine uD hg ?_ ?_ ?_; exact tz hw; exact rfl))
  exact S.cond rfl (fun hc => by cases hc) (fun _ => by
   (repeat first | refine uA ?_ | (refine uK ?_ ?_; focus first | omega | (intros; simp_all <;> omega)) | simp (disch := omega) only [go_sem, Nat.reduceBEq, Nat.reduceAdd, ww])
   (refine S.done ?_; simp only [p9, p8, go_sem, Nat.reduceBEq, Nat.reduceAdd, Nat.reduceLeDiff, Int.reduceToNat, Int.reducePow]; (repeat (refine ⟨?_, ?_⟩; focus first | trivial | omega | simp)); exact j3.out rfl (Imp.refl rfl) rfl))
 ·have e : Nm.ofQ (Nm.d9 a) = Nm.a2Y := by unfold Nm.d9; rw [if_neg h, Nm.a2D]
  rw [e]
  rw [show decide a.H8 = false from decide_eq_false h] at hg
  simp only [l6, rc, sb, Nm.a2Y] at hg fz ⊢
  (repeat first | refine uA ?_ | (refine uK ?_ ?_; focus first | omega | (intros; simp_all <;> omega)) | simp (disch := omega) only [go_sem, Nat.reduceBEq, Nat.reduceAdd, ww] | (refine uD hg ?_ ?_ ?_; exact tz hw; exact rfl))
  exact S.cond rfl (fun _ => by
   (repeat first | refine uA ?_ | (refine uK ?_ ?_; focus first | omega | (intros; simp_all <;> omega)) | simp (disch := omega) only [go_sem, Nat.reduceBEq, Nat.reduceAdd, ww] | (refine uB fz ?_ ?_; exact rfl))
   (refine S.done ?_; simp only [p9, p8, go_sem, Nat.reduceBEq, Nat.reduceAdd, Nat.reduceLeDiff, Int.reduceToNat, Int.reducePow]; (repeat (refine ⟨?_, ?_⟩; focus first | trivial | omega | simp)); exact j3.out rfl (Imp.refl rfl) rfl)) (fun hc => by cases hc)
theorem b9W {n d k : Nat} (hd : 0 < d) (h : (Nm.enc d).length <= k) : (Nm.enc (Nat.gcd n d)).length <= k := Nm.F4 (Nat.lt_of_le_of_lt (Nat.gcd_le_right n hd) (Nm.Z5 h))
theorem a3V (neg : Bool) (n d : Nat) (hd : d ≠ 0) (hn : (Nm.enc n).length <= 68719476736) (hdl : (Nm.enc d).length <= 68719476736) :
  FZ 118 [.v (.bool neg), sb (Nm.enc n), sb (Nm.enc d)] (rq (mkRat (Nm.sgn neg n) d)) := by
 refine kW Tryz.func118 (by cbv) (by rfl) fun w O hw => ?_
 have fz := b7q
 have hg := b9m (Nm.enc n) (Nm.enc d) hn hdl
 rw [Nm.I6, Nm.I6] at hg
 unfold rq
 rw [<- Nm.b0c neg hd]
 have hz : (Nm.enc n = []) = (n = 0) := propext ⟨fun h => Classical.byContradiction fun h0 => Nm.a5v h0 h, fun h => by rw [h, Nm.a1n]⟩
 have h1 : ∀ d, (Nm.enc d = [1]) = (d = 1) := fun d => by
  rw [<- Nm.a0V]; exact propext ⟨Nm.b0g, fun h => by rw [h]⟩
 have hgp : Nat.gcd n d ≠ 0 := fun h => hd (Nat.eq_zero_of_gcd_eq_zero_right h)
 have hgl : (Nm.enc (Nat.gcd n d)).length <= 68719476736 := by
  exact b9W (by omega) hdl
 have hd1 := b1J (Nm.enc n) (Nm.enc (Nat.gcd n d)) (by omega) (by omega) (by rw [Nm.I6]; exact hgp)
 have hd2 := b1J (Nm.enc d) (Nm.enc (Nat.gcd n d)) (by omega) (by omega) (by rw [Nm.I6]; exact hgp)
 simp only [Nm.I6] at hd1 hd2
 generalize hgg : Nat.gcd n d = g at *
 simp only [l6, sb]
 (repeat first | refine uA ?_ | (refine uK ?_ ?_; focus first | omega | (intros; simp_all <;> omega)) | simp (disch := omega) only [go_sem, Nat.reduceBEq, Nat.reduceAdd, ww, a0y, hz])
 (refine uJ rfl (fun hc => ?_) fun hc => ?_)
 ·rw [if_pos hc]
  simp only [rc, Nm.a2Y, sb] at fz ⊢
  (repeat first | refine uA ?_ | (refine uK ?_ ?_; focus first | omega | (intros; simp_all <;> omega)) | simp (disch := omega) only [go_sem, Nat.reduceBEq, Nat.reduceAdd, ww] | (refine uB fz ?_ ?_; exact rfl))
  (refine S.done ?_; simp only [p9, p8, go_sem, Nat.reduceBEq, Nat.reduceAdd, Nat.reduceLeDiff, Int.reduceToNat, Int.reducePow]; (repeat (refine ⟨?_, ?_⟩; focus first | trivial | omega | simp)); exact j3.out rfl (Imp.refl rfl) rfl)
 rw [if_neg hc]
 simp only [rc, sb]
 (repeat first | refine uA ?_ | (refine uK ?_ ?_; focus first | omega | (intros; simp_all <;> omega)) | simp (disch := omega) only [go_sem, Nat.reduceBEq, Nat.reduceAdd, ww, a5i, h1])
 (refine uJ rfl (fun hc => ?_) fun hc => ?_)
 ·(repeat first | refine uA ?_ | (refine uK ?_ ?_; focus first | omega | (intros; simp_all <;> omega)) | simp (disch := omega) only [go_sem, Nat.reduceBEq, Nat.reduceAdd, ww, a5i, h1] | (refine uD hg ?_ ?_ ?_; exact tz hw; exact rfl))
  (refine uJ rfl (fun hc => ?_) fun hc => ?_)
  ·(repeat first | refine uA ?_ | (refine uK ?_ ?_; focus first | omega | (intros; simp_all <;> omega)) | simp (disch := omega) only [go_sem, Nat.reduceBEq, Nat.reduceAdd, ww] | (refine uB hd1 ?_ ?_; exact rfl) | (refine uB hd2 ?_ ?_; exact rfl))
   (refine S.done ?_; simp only [p9, p8, go_sem, Nat.reduceBEq, Nat.reduceAdd, Nat.reduceLeDiff, Int.reduceToNat, Int.reducePow]; (repeat (refine ⟨?_, ?_⟩; focus first | trivial | omega | simp)); exact j3.out rfl (Imp.refl rfl) rfl)
  ·rw [hc, Nat.div_one, Nat.div_one]
   (repeat first | refine uA ?_ | (refine uK ?_ ?_; focus first | omega | (intros; simp_all <;> omega)) | simp (disch := omega) only [go_sem, Nat.reduceBEq, Nat.reduceAdd, ww])
   (refine S.done ?_; simp only [p9, p8, go_sem, Nat.reduceBEq, Nat.reduceAdd, Nat.reduceLeDiff, Int.reduceToNat, Int.reducePow]; (repeat (refine ⟨?_, ?_⟩; focus first | trivial | omega | simp)); exact j3.out rfl (Imp.refl rfl) rfl)
 ·rw [hc, Nat.gcd_one_right] at hgg
  subst hgg
  rw [hc, Nat.div_one, Nat.div_one]
  (repeat first | refine uA ?_ | (refine uK ?_ ?_; focus first | omega | (intros; simp_all <;> omega)) | simp (disch := omega) only [go_sem, Nat.reduceBEq, Nat.reduceAdd, ww])
  (refine S.done ?_; simp only [p9, p8, go_sem, Nat.reduceBEq, Nat.reduceAdd, Nat.reduceLeDiff, Int.reduceToNat, Int.reducePow]; (repeat (refine ⟨?_, ?_⟩; focus first | trivial | omega | simp)); exact j3.out rfl (Imp.refl rfl) rfl)
theorem b2i (neg mi : Bool) (a b : List UInt8) (ha : a.length <= 68719476736) (hb : b.length <= 68719476736) :
  G5 Tryz.prog 117 [.v (.bool neg), sb a, .v (.bool mi), sb b] (.tup [.v (.bool (Nm.M5 neg (Nm.val a) mi (Nm.val b)).1), sb (Nm.enc (Nm.M5 neg (Nm.val a) mi (Nm.val b)).2)]) := by
 refine kS Tryz.func117 (by cbv) (by rfl) fun w O => ?_
 have hadd := f_add a b (by omega) (by omega)
 have hs1 := b9B a b (by omega) (by omega)
 have hs2 := b9B b a (by omega) (by omega)
 simp only [l6, sb]
 (repeat first | refine uA ?_ | (refine uK ?_ ?_; focus first | omega | (intros; simp_all <;> omega)) | simp (disch := omega) only [go_sem, Nat.reduceBEq, Nat.reduceAdd, ww])
 refine S.cond rfl (fun hc => ?_) (fun hc => ?_)
 ·have e : neg = mi := by simpa using hc
  subst e
  unfold Nm.M5
  rw [if_pos rfl]
  (repeat first | refine uA ?_ | (refine uK ?_ ?_; focus first | omega | (intros; simp_all <;> omega)) | simp (disch := omega) only [go_sem, Nat.reduceBEq, Nat.reduceAdd, ww] | (refine uB hadd ?_ ?_; exact rfl))
  exact S.done (j3.out rfl (Imp.refl rfl) rfl)
 ·have e : neg ≠ mi := by simpa using hc
  unfold Nm.M5
  rw [if_neg e]
  by_cases h : Nm.val b <= Nm.val a
  ·rw [if_pos h]
   have e1 : F3 (Nm.val a) (Nm.val b) = Nm.enc (Nm.val a - Nm.val b) := by unfold F3; rw [if_pos h]
   have e2 : a4o (Nm.val a) (Nm.val b) = 0 := by unfold a4o; rw [if_pos h]
   rw [e1, e2] at hs1
   (repeat first | refine uA ?_ | (refine uK ?_ ?_; focus first | omega | (intros; simp_all <;> omega)) | simp (disch := omega) only [go_sem, Nat.reduceBEq, Nat.reduceAdd, ww] | (refine uB hs1 ?_ ?_; exact rfl))
   refine S.cond rfl (fun hc => ?_) (fun hc => ?_)
   ·(repeat first | refine uA ?_ | (refine uK ?_ ?_; focus first | omega | (intros; simp_all <;> omega)) | simp (disch := omega) only [go_sem, Nat.reduceBEq, Nat.reduceAdd, ww])
    exact S.done (j3.out rfl (Imp.refl rfl) rfl)
   ·simp at hc
  ·rw [if_neg h]
   have e1 : F3 (Nm.val a) (Nm.val b) = [] := by unfold F3; rw [if_neg h]
   have e2 : a4o (Nm.val a) (Nm.val b) = 1 := by unfold a4o; rw [if_neg h]
   have e3 : F3 (Nm.val b) (Nm.val a) = Nm.enc (Nm.val b - Nm.val a) := by unfold F3; rw [if_pos (by omega)]
   have e4 : a4o (Nm.val b) (Nm.val a) = 0 := by unfold a4o; rw [if_pos (by omega)]
   rw [e1, e2] at hs1
   rw [e3, e4] at hs2
   (repeat first | refine uA ?_ | (refine uK ?_ ?_; focus first | omega | (intros; simp_all <;> omega)) | simp (disch := omega) only [go_sem, Nat.reduceBEq, Nat.reduceAdd, ww] | (refine uB hs1 ?_ ?_; exact rfl))
   refine S.cond rfl (fun hc => ?_) (fun hc => ?_)
   ·simp at hc
   ·(repeat first | refine uA ?_ | (refine uK ?_ ?_; focus first | omega | (intros; simp_all <;> omega)) | simp (disch := omega) only [go_sem, Nat.reduceBEq, Nat.reduceAdd, ww] | (refine uB hs2 ?_ ?_; exact rfl))
    exact S.done (j3.out rfl (Imp.refl rfl) rfl)
namespace Nm
theorem J3 {a b k m : Nat} (ha : (enc a).length <= k) (hb : (enc b).length <= m) : (enc (a * b)).length <= k + m := by
 refine F4 ?_
 rw [Nat.pow_add]
 exact Nat.mul_lt_mul'' (Z5 ha) (Z5 hb)
theorem a4Z {a b k : Nat} (ha : (enc a).length <= k) (hb : (enc b).length <= k) : (enc (a + b)).length <= k + 1 := by
 refine F4 ?_
 have h1 := Z5 ha
 have h2 := Z5 hb
 rw [c3y]; omega
theorem a2K {a b : Nat} (h : a <= b) : (enc a).length <= (enc b).length := F4 (Nat.lt_of_le_of_lt h (Z5 (c2V _)))
theorem a5w (neg : Bool) (a : Nat) (mi : Bool) (b : Nat) : (M5 neg a mi b).2 <= a + b := by
 unfold M5; repeat' split
 all_goals simp only; omega
theorem add_same {p q : Rat} (h : p.den = q.den) : p + q = mkRat (p.num + q.num) p.den := by
 rw [Rat.add_def', <- h, <- Int.add_mul, Rat.mkRat_mul_right p.den_nz]
theorem a7h (p : Rat) : sgn (decide (p.num < 0)) p.num.natAbs = p.num := b4I p
theorem b9c {p q : Rat} (h : p.den = q.den) : mkRat (sgn (M5 (decide (p.num < 0)) p.num.natAbs (decide (q.num < 0)) q.num.natAbs).1 (M5 (decide (p.num < 0)) p.num.natAbs (decide (q.num < 0)) q.num.natAbs).2) p.den = p + q := by
 rw [b0J, a7h, a7h, add_same h]
theorem b0v (p q : Rat) : mkRat (sgn (M5 (decide (p.num < 0)) (p.num.natAbs * q.den) (decide (q.num < 0)) (q.num.natAbs * p.den)).1 (M5 (decide (p.num < 0)) (p.num.natAbs * q.den) (decide (q.num < 0)) (q.num.natAbs * p.den)).2) (p.den * q.den) = p + q := by
 rw [b0J, a4S, a4S, a7h, a7h, Rat.add_def']
theorem b1R (p q : Rat) : mkRat (sgn (decide (p.num < 0) != decide (q.num < 0)) (p.num.natAbs * q.num.natAbs)) (p.den * q.den) = p * q := by
 rw [c0Q, a7h, a7h, Rat.mul_def']
theorem b2M (p q : Rat) (h : q ≠ 0) : mkRat (sgn (decide (p.num < 0) != decide (q.num < 0)) (p.num.natAbs * q.den)) (p.den * q.num.natAbs) = p / q := by
 have hn : q.num ≠ 0 := fun e => h (Rat.num_eq_zero.1 e)
 have hn' : q.num.natAbs ≠ 0 := by omega
 generalize hr : mkRat (sgn (decide (p.num < 0) != decide (q.num < 0)) (p.num.natAbs * q.den)) (p.den * q.num.natAbs) = r
 have key : p = r * q := by
  rw [<- hr]
  have e1 : p = mkRat p.num p.den := (Rat.mkRat_self p).symm
  have e2 : q = mkRat q.num q.den := (Rat.mkRat_self q).symm
  have hD : p.den * q.num.natAbs * q.den ≠ 0 := Nat.mul_ne_zero (Nat.mul_ne_zero p.den_nz hn') q.den_nz
  have e3 : mkRat (sgn (decide (p.num < 0) != decide (q.num < 0)) (p.num.natAbs * q.den)) (p.den * q.num.natAbs) * q = mkRat (sgn (decide (p.num < 0) != decide (q.num < 0)) (p.num.natAbs * q.den) * q.num) (p.den * q.num.natAbs * q.den) := by
   conv => lhs; rw [e2]
   rw [Rat.mkRat_mul_mkRat]
   simp only [Rat.mkRat_self]
  rw [e3]
  conv => lhs; rw [e1]
  rw [Rat.mkRat_eq_iff p.den_nz hD]
  have hx : sgn (decide (p.num < 0) != decide (q.num < 0)) (p.num.natAbs * q.den) * q.num = p.num * ((q.num.natAbs : Nat) : Int) * q.den := by
   rw [a4S]
   have : sgn (decide (p.num < 0) != decide (q.num < 0)) p.num.natAbs * q.num = p.num * ((q.num.natAbs : Nat) : Int) := by
    unfold sgn
    by_cases hA : p.num < 0
    ·by_cases hB : q.num < 0
     ·simp only [hA, hB, decide_true, bne_self_eq_false, c3u, if_false]
      have e1 : ((p.num.natAbs : Nat) : Int) = -p.num := by omega
      have e2 : ((q.num.natAbs : Nat) : Int) = -q.num := by omega
      rw [e1, e2]; grind
     ·simp only [hA, hB, decide_true, decide_false, Bool.bne_false, if_true]
      have e1 : ((p.num.natAbs : Nat) : Int) = -p.num := by omega
      have e2 : ((q.num.natAbs : Nat) : Int) = q.num := by omega
      rw [e1, e2]; grind
    ·by_cases hB : q.num < 0
     ·simp only [hA, hB, decide_true, decide_false, Bool.bne_true, Bool.not_false, if_true]
      have e1 : ((p.num.natAbs : Nat) : Int) = p.num := by omega
      have e2 : ((q.num.natAbs : Nat) : Int) = -q.num := by omega
      rw [e1, e2]; grind
     ·simp only [hA, hB, decide_false, bne_self_eq_false, c3u, if_false]
      have e1 : ((p.num.natAbs : Nat) : Int) = p.num := by omega
      have e2 : ((q.num.natAbs : Nat) : Int) = q.num := by omega
      rw [e1, e2]
   calc sgn (decide (p.num < 0) != decide (q.num < 0)) p.num.natAbs * (q.den : Int) * q.num = (sgn (decide (p.num < 0) != decide (q.num < 0)) p.num.natAbs * q.num) * (q.den : Int) := by grind
    _ = _ := by rw [this]
  rw [hx]
  push_cast
  grind
 rw [Rat.div_def]
 conv => rhs; rw [key]
 rw [Rat.mul_assoc, Rat.mul_inv_cancel _ h, Rat.mul_one]
end Nm
theorem Rb.fit {k : Nat} {a : Nm.Rt} (h : Rb k a) (hk : 1 <= k) : Rb k (Nm.ofQ (Nm.d9 a)) := by
 by_cases hg : a.H8
 ·rw [Nm.b3o hg]; exact h
 ·have e : Nm.ofQ (Nm.d9 a) = Nm.a2Y := by unfold Nm.d9; rw [if_neg hg, Nm.a2D]
  rw [e]; exact ⟨c2T _, hk⟩
theorem R9 (a : Nm.Rt) (ha : Rb 17179869184 a) : FZ 77 [rc a] (rq (Nm.d9 a)) := c2t a ⟨by have := ha.1; omega, by have := ha.2; omega⟩
theorem c0I (a b : Nat) : (Nm.enc a = Nm.enc b) = (a = b) := propext ⟨Nm.b0g, fun h => by rw [h]⟩
theorem a6M (n : Nat) : (Nm.enc n = []) = (n = 0) := propext ⟨fun h => Classical.byContradiction fun h0 => Nm.a5v h0 h, fun h => by rw [h, Nm.a1n]⟩
theorem a2y (n : Int) (h1 : -9223372036854775808 <= n) (h2 : n <= 9223372036854775807) : FZ 86 [ints n] (rq (n : Rat)) := by
 refine kW Tryz.func86 (by cbv) (by rfl) fun w O hw => ?_
 have hb : ∀ k : Nat, k <= 9223372036854775808 -> (Nm.enc k).length <= 8 := fun k hk => Nm.F4 (by omega)
 have e1 : sb [1] = sb (Nm.enc 1) := by rw [Nm.a0V]
 simp only [l6, ints]
 (repeat first | refine uA ?_ | (refine uK ?_ ?_; focus first | omega | (intros; simp_all <;> omega)) | simp (disch := omega) only [go_sem, Nat.reduceBEq, Nat.reduceAdd, ww])
 (refine uJ rfl (fun hc => ?_) fun hc => ?_)
 ·have hof := b5j n (by omega)
  have hm := a3V false n.toNat 1 (by decide) (by have := hb n.toNat (by omega); omega) (by have := hb 1 (by decide); omega)
  have e : mkRat (Nm.sgn false n.toNat) 1 = (n : Rat) := by
   rw [Rat.mkRat_one]; congr 1; unfold Nm.sgn; simp; omega
  rw [e, Nm.a0V] at hm
  simp only [rq, rc, sb, ints] at hm hof ⊢
  (repeat first | refine uA ?_ | (refine uK ?_ ?_; focus first | omega | (intros; simp_all <;> omega)) | simp (disch := omega) only [go_sem, Nat.reduceBEq, Nat.reduceAdd, ww] | (refine uB hof ?_ ?_; exact rfl) | (refine uD hm ?_ ?_ ?_; exact tz hw; exact rfl))
  (refine S.done ?_; simp only [p9, p8, go_sem, Nat.reduceBEq, Nat.reduceAdd, Nat.reduceLeDiff, Int.reduceToNat, Int.reducePow]; (repeat (refine ⟨?_, ?_⟩; focus first | trivial | omega | simp)); exact j3.out rfl (Imp.refl rfl) rfl)
 ·have hof := b5j (-(n + 1)) (by omega)
  have hadd := f_add (Nm.enc (-(n + 1)).toNat) [1] (by have := hb (-(n + 1)).toNat (by omega); omega) (by decide)
  have hm := a3V true ((-(n + 1)).toNat + 1) 1 (by decide) (by have := hb ((-(n + 1)).toNat + 1) (by omega); omega) (by have := hb 1 (by decide); omega)
  have e : mkRat (Nm.sgn true ((-(n + 1)).toNat + 1)) 1 = (n : Rat) := by
   rw [Rat.mkRat_one]; congr 1; unfold Nm.sgn; simp; omega
  rw [Nm.I6, show Nm.val [1] = 1 from rfl] at hadd
  rw [e, Nm.a0V] at hm
  have hneg : IntKind.i64.wrap (0 - (n + 1)) = -(n + 1) := by rw [Eng.wrap_i64 (by omega)]; omega
  simp only [rq, rc, sb, ints] at hm hof hadd ⊢
  (repeat first | refine uA ?_ | (refine uK ?_ ?_; focus first | omega | (intros; simp_all <;> omega)) | simp (disch := omega) only [go_sem, Nat.reduceBEq, Nat.reduceAdd, ww, hneg] | (refine uB hof ?_ ?_; exact rfl) | (refine uB hadd ?_ ?_; exact rfl) | (refine uD hm ?_ ?_ ?_; exact tz hw; exact rfl))
  (refine S.done ?_; simp only [p9, p8, go_sem, Nat.reduceBEq, Nat.reduceAdd, Nat.reduceLeDiff, Int.reduceToNat, Int.reducePow]; (repeat (refine ⟨?_, ?_⟩; focus first | trivial | omega | simp)); exact j3.out rfl (Imp.refl rfl) rfl)
theorem a1h (a b : Nm.Rt) (ha : Rb 17179869184 a) (hb : Rb 17179869184 b) : FZ 72 [rc a, rc b] (rq (Nm.d9 a + Nm.d9 b)) := by
 refine kW Tryz.func72 (by cbv) (by rfl) fun w O hw => ?_
 have hfa := R9 a ha
 have hfb := R9 b hb
 obtain ⟨n1, d1⟩ := ha.fit (by decide)
 obtain ⟨n2, d2⟩ := hb.fit (by decide)
 generalize Nm.d9 a = p at *
 generalize Nm.d9 b = q at *
 simp only [Nm.ofQ] at n1 d1 n2 d2
 have hp := p.den_nz
 have hq := q.den_nz
 have l1 := Nm.J3 n1 d2
 have l2 := Nm.J3 n2 d1
 have l3 := Nm.J3 d1 d2
 have s1 := b2i (decide (p.num < 0)) (decide (q.num < 0)) (Nm.enc p.num.natAbs) (Nm.enc q.num.natAbs) (by omega) (by omega)
 have m1 := a2V (Nm.enc p.num.natAbs) (Nm.enc q.den) (by omega) (by omega)
 have m2 := a2V (Nm.enc q.num.natAbs) (Nm.enc p.den) (by omega) (by omega)
 have m3 := a2V (Nm.enc p.den) (Nm.enc q.den) (by omega) (by omega)
 simp only [Nm.I6] at s1 m1 m2 m3
 have s2 := b2i (decide (p.num < 0)) (decide (q.num < 0)) (Nm.enc (p.num.natAbs * q.den)) (Nm.enc (q.num.natAbs * p.den)) (by omega) (by omega)
 simp only [Nm.I6] at s2
 have k1 : (Nm.enc (Nm.M5 (decide (p.num < 0)) p.num.natAbs (decide (q.num < 0)) q.num.natAbs).2).length <= 17179869185 := c2Q (Nm.a2K (Nm.a5w _ _ _ _)) (Nm.a4Z n1 n2)
 have k2 : (Nm.enc (Nm.M5 (decide (p.num < 0)) (p.num.natAbs * q.den) (decide (q.num < 0)) (q.num.natAbs * p.den)).2).length <= 34359738369 := c2Q (Nm.a2K (Nm.a5w _ _ _ _)) (Nm.a4Z l1 l2)
 have v1 := a3V (Nm.M5 (decide (p.num < 0)) p.num.natAbs (decide (q.num < 0)) q.num.natAbs).1 (Nm.M5 (decide (p.num < 0)) p.num.natAbs (decide (q.num < 0)) q.num.natAbs).2 p.den hp (by omega) (by omega)
 have v2 := a3V (Nm.M5 (decide (p.num < 0)) (p.num.natAbs * q.den) (decide (q.num < 0)) (q.num.natAbs * p.den)).1 (Nm.M5 (decide (p.num < 0)) (p.num.natAbs * q.den) (decide (q.num < 0)) (q.num.natAbs * p.den)).2 (p.den * q.den) (Nat.mul_ne_zero hp hq) (by omega) (by omega)
 rw [Nm.b0v] at v2
 have hsame := fun h => Nm.b9c (p := p) (q := q) h
 generalize p + q = r at *
 generalize Nm.M5 (decide (p.num < 0)) p.num.natAbs (decide (q.num < 0)) q.num.natAbs = t1 at *
 generalize Nm.M5 (decide (p.num < 0)) (p.num.natAbs * q.den) (decide (q.num < 0)) (q.num.natAbs * p.den) = t2 at *
 simp only [l6]
 simp only [rq, rc, sb, Nm.ofQ] at *
 (repeat first | refine uA ?_ | (refine uK ?_ ?_; focus first | omega | (intros; simp_all <;> omega)) | simp (disch := omega) only [go_sem, Nat.reduceBEq, Nat.reduceAdd, ww, b5C, c0I] | (refine uD hfa ?_ ?_ ?_; exact tz hw; exact rfl) | (refine uD hfb ?_ ?_ ?_; exact tz hw; exact rfl))
 (refine uJ rfl (fun hc => ?_) fun hc => ?_)
 ·rw [hsame hc] at v1
  (repeat first | refine uA ?_ | (refine uK ?_ ?_; focus first | omega | (intros; simp_all <;> omega)) | simp (disch := omega) only [go_sem, Nat.reduceBEq, Nat.reduceAdd, ww] | (refine uB s1 ?_ ?_; exact rfl) | (refine uD v1 ?_ ?_ ?_; exact tz hw; exact rfl))
  (refine S.done ?_; simp only [p9, p8, go_sem, Nat.reduceBEq, Nat.reduceAdd, Nat.reduceLeDiff, Int.reduceToNat, Int.reducePow]; (repeat (refine ⟨?_, ?_⟩; focus first | trivial | omega | simp)); exact j3.out rfl (Imp.refl rfl) rfl)
 ·(repeat first | refine uA ?_ | (refine uK ?_ ?_; focus first | omega | (intros; simp_all <;> omega)) | simp (disch := omega) only [go_sem, Nat.reduceBEq, Nat.reduceAdd, ww] | (refine uB m1 ?_ ?_; exact rfl) | (refine uB m2 ?_ ?_; exact rfl) | (refine uB m3 ?_ ?_; exact rfl) | (refine uB s2 ?_ ?_; exact rfl) | (refine uD v2 ?_ ?_ ?_; exact tz hw; exact rfl))
  (refine S.done ?_; simp only [p9, p8, go_sem, Nat.reduceBEq, Nat.reduceAdd, Nat.reduceLeDiff, Int.reduceToNat, Int.reducePow]; (repeat (refine ⟨?_, ?_⟩; focus first | trivial | omega | simp)); exact j3.out rfl (Imp.refl rfl) rfl)
theorem a5s (a b : Nm.Rt) (ha : Rb 17179869184 a) (hb : Rb 17179869184 b) : FZ 106 [rc a, rc b] (rq (Nm.d9 a * Nm.d9 b)) := by
 refine kW Tryz.func106 (by cbv) (by rfl) fun w O hw => ?_
 have hfa := R9 a ha
 have hfb := R9 b hb
 obtain ⟨n1, d1⟩ := ha.fit (by decide)
 obtain ⟨n2, d2⟩ := hb.fit (by decide)
 generalize Nm.d9 a = p at *
 generalize Nm.d9 b = q at *
 simp only [Nm.ofQ] at n1 d1 n2 d2
 have hp := p.den_nz
 have hq := q.den_nz
 have l1 := Nm.J3 n1 n2
 have l3 := Nm.J3 d1 d2
 have m1 := a2V (Nm.enc p.num.natAbs) (Nm.enc q.num.natAbs) (by omega) (by omega)
 have m3 := a2V (Nm.enc p.den) (Nm.enc q.den) (by omega) (by omega)
 simp only [Nm.I6] at m1 m3
 have v2 := a3V (decide (p.num < 0) != decide (q.num < 0)) (p.num.natAbs * q.num.natAbs) (p.den * q.den) (Nat.mul_ne_zero hp hq) (by omega) (by omega)
 rw [Nm.b1R] at v2
 generalize p * q = r at *
 simp only [l6]
 simp only [rq, rc, sb, Nm.ofQ] at *
 (repeat first | refine uA ?_ | (refine uK ?_ ?_; focus first | omega | (intros; simp_all <;> omega)) | simp (disch := omega) only [go_sem, Nat.reduceBEq, Nat.reduceAdd, ww] | (refine uB m1 ?_ ?_; exact rfl) | (refine uB m3 ?_ ?_; exact rfl) | (refine uD hfa ?_ ?_ ?_; exact tz hw; exact rfl) | (refine uD hfb ?_ ?_ ?_; exact tz hw; exact rfl) | (refine uD v2 ?_ ?_ ?_; exact tz hw; exact rfl))
 (refine S.done ?_; simp only [p9, p8, go_sem, Nat.reduceBEq, Nat.reduceAdd, Nat.reduceLeDiff, Int.reduceToNat, Int.reducePow]; (repeat (refine ⟨?_, ?_⟩; focus first | trivial | omega | simp)); exact j3.out rfl (Imp.refl rfl) rfl)
def y9 (q : Rat) : Int := if q.num = 0 then 0 else if q.num < 0 then -1 else 1
theorem a9c (p : Rat) : Nm.ofQ (-p) = ⟨!decide (p.num < 0) && !decide (p.num.natAbs = 0), Nm.enc p.num.natAbs, Nm.enc p.den⟩ := by
 unfold Nm.ofQ
 rw [Rat.neg_num, Rat.neg_den, Int.natAbs_neg]
 congr 1
 by_cases h : p.num < 0
 ·simp [h]; omega
 ·by_cases h0 : p.num = 0
  ·simp [h0]
  ·have : ¬ p.num.natAbs = 0 := by omega
   simp [h, this]; omega
theorem a9A (a : Nm.Rt) (ha : Rb 17179869184 a) : FZ 68 [rc a] (rq (- Nm.d9 a)) := by
 refine kW Tryz.func68 (by cbv) (by rfl) fun w O hw => ?_
 have hfa := R9 a ha
 generalize Nm.d9 a = p at *
 simp only [l6]
 unfold rq at *
 rw [a9c]
 simp only [rc, sb, Nm.ofQ] at *
 (repeat first | refine uA ?_ | (refine uK ?_ ?_; focus first | omega | (intros; simp_all <;> omega)) | simp (disch := omega) only [go_sem, Nat.reduceBEq, Nat.reduceAdd, ww, a0y, a6M] | (refine uD hfa ?_ ?_ ?_; exact tz hw; exact rfl))
 (refine S.done ?_; simp only [p9, p8, go_sem, Nat.reduceBEq, Nat.reduceAdd, Nat.reduceLeDiff, Int.reduceToNat, Int.reducePow]; (repeat (refine ⟨?_, ?_⟩; focus first | trivial | omega | simp)); exact j3.out rfl (Imp.refl rfl) rfl)
theorem b2P {k : Nat} {a : Nm.Rt} (h : Rb k a) (hk : 1 <= k) : Rb k (Nm.ofQ (- Nm.d9 a)) := by
 obtain ⟨h1, h2⟩ := h.fit hk
 rw [a9c]
 exact ⟨h1, h2⟩
theorem a5b (a b : Nm.Rt) (ha : Rb 17179869184 a) (hb : Rb 17179869184 b) : FZ 66 [rc a, rc b] (rq (Nm.d9 a - Nm.d9 b)) := by
 refine kW Tryz.func66 (by cbv) (by rfl) fun w O hw => ?_
 have hn := a9A b hb
 have hadd := a1h a (Nm.ofQ (- Nm.d9 b)) ha (b2P hb (by decide))
 rw [Nm.r9, <- Rat.sub_eq_add_neg] at hadd
 unfold rq at *
 generalize Nm.ofQ (- Nm.d9 b) = c at *
 generalize Nm.ofQ (Nm.d9 a - Nm.d9 b) = d at *
 simp only [l6]
 simp only [rc, sb] at *
 (repeat first | refine uA ?_ | (refine uK ?_ ?_; focus first | omega | (intros; simp_all <;> omega)) | simp (disch := omega) only [go_sem, Nat.reduceBEq, Nat.reduceAdd, ww] | (refine uD hn ?_ ?_ ?_; exact tz hw; exact rfl) | (refine uD hadd ?_ ?_ ?_; exact tz hw; exact rfl))
 (refine S.done ?_; simp only [p9, p8, go_sem, Nat.reduceBEq, Nat.reduceAdd, Nat.reduceLeDiff, Int.reduceToNat, Int.reducePow]; (repeat (refine ⟨?_, ?_⟩; focus first | trivial | omega | simp)); exact j3.out rfl (Imp.refl rfl) rfl)
def a0I (p q : Rat) : Nm.Rt := if q = 0 then ⟨false, [], []⟩ else Nm.ofQ (p / q)
def a1X (q : Rat) : Int := if q = 0 then 12 else 0
theorem b2s (a b : Nm.Rt) (ha : Rb 17179869184 a) (hb : Rb 17179869184 b) : FZ 105 [rc a, rc b] (.tup [rc (a0I (Nm.d9 a) (Nm.d9 b)), ints (a1X (Nm.d9 b))]) := by
 refine kW Tryz.func105 (by cbv) (by rfl) fun w O hw => ?_
 have hfa := R9 a ha
 have hfb := R9 b hb
 obtain ⟨n1, d1⟩ := ha.fit (by decide)
 obtain ⟨n2, d2⟩ := hb.fit (by decide)
 generalize Nm.d9 a = p at *
 generalize Nm.d9 b = q at *
 simp only [Nm.ofQ] at n1 d1 n2 d2
 have hp := p.den_nz
 have l1 := Nm.J3 n1 d2
 have l3 := Nm.J3 d1 n2
 have m1 := a2V (Nm.enc p.num.natAbs) (Nm.enc q.den) (by omega) (by omega)
 have m3 := a2V (Nm.enc p.den) (Nm.enc q.num.natAbs) (by omega) (by omega)
 simp only [Nm.I6] at m1 m3
 have v2 := fun h0 : q.num.natAbs ≠ 0 => a3V (decide (p.num < 0) != decide (q.num < 0)) (p.num.natAbs * q.den) (p.den * q.num.natAbs) (Nat.mul_ne_zero hp h0) (by omega) (by omega)
 have hdm := fun h => Nm.b2M p q h
 simp only [l6]
 simp only [rq, rc, sb, Nm.ofQ, ints] at *
 (repeat first | refine uA ?_ | (refine uK ?_ ?_; focus first | omega | (intros; simp_all <;> omega)) | simp (disch := omega) only [go_sem, Nat.reduceBEq, Nat.reduceAdd, ww, a0y, a6M] | (refine uD hfa ?_ ?_ ?_; exact tz hw; exact rfl) | (refine uD hfb ?_ ?_ ?_; exact tz hw; exact rfl))
 (refine uJ rfl (fun hc => ?_) fun hc => ?_)
 ·have h0 : q = 0 := Rat.num_eq_zero.1 (by omega)
  have e1 : a0I p q = ⟨false, [], []⟩ := by unfold a0I; rw [if_pos h0]
  have e2 : a1X q = 12 := by unfold a1X; rw [if_pos h0]
  rw [e1, e2]
  (repeat first | refine uA ?_ | (refine uK ?_ ?_; focus first | omega | (intros; simp_all <;> omega)) | simp (disch := omega) only [go_sem, Nat.reduceBEq, Nat.reduceAdd, ww])
  (refine S.done ?_; simp only [p9, p8, go_sem, Nat.reduceBEq, Nat.reduceAdd, Nat.reduceLeDiff, Int.reduceToNat, Int.reducePow]; (repeat (refine ⟨?_, ?_⟩; focus first | trivial | omega | simp)); exact j3.out rfl (Imp.refl rfl) rfl)
 ·have h0 : q ≠ 0 := fun h => hc (by rw [Rat.num_eq_zero.2 h]; rfl)
  have e1 : a0I p q = Nm.ofQ (p / q) := by unfold a0I; rw [if_neg h0]
  have e2 : a1X q = 0 := by unfold a1X; rw [if_neg h0]
  rw [e1, e2]
  have v2 := v2 hc
  rw [hdm h0] at v2
  generalize p / q = r at *
  simp only [Nm.ofQ] at *
  (repeat first | refine uA ?_ | (refine uK ?_ ?_; focus first | omega | (intros; simp_all <;> omega)) | simp (disch := omega) only [go_sem, Nat.reduceBEq, Nat.reduceAdd, ww] | (refine uB m1 ?_ ?_; exact rfl) | (refine uB m3 ?_ ?_; exact rfl) | (refine uD v2 ?_ ?_ ?_; exact tz hw; exact rfl))
  (refine S.done ?_; simp only [p9, p8, go_sem, Nat.reduceBEq, Nat.reduceAdd, Nat.reduceLeDiff, Int.reduceToNat, Int.reducePow]; (repeat (refine ⟨?_, ?_⟩; focus first | trivial | omega | simp)); exact j3.out rfl (Imp.refl rfl) rfl)
theorem V8 (a : Nm.Rt) (ha : Rb 17179869184 a) : FZ 42 [rc a] (ints (y9 (Nm.d9 a))) := by
 refine kW Tryz.func42 (by cbv) (by rfl) fun w O hw => ?_
 have hfa := R9 a ha
 generalize Nm.d9 a = p at *
 simp only [l6]
 simp only [rq, rc, sb, Nm.ofQ, ints] at *
 (repeat first | refine uA ?_ | (refine uK ?_ ?_; focus first | omega | (intros; simp_all <;> omega)) | simp (disch := omega) only [go_sem, Nat.reduceBEq, Nat.reduceAdd, ww, a0y, a6M] | (refine uD hfa ?_ ?_ ?_; exact tz hw; exact rfl))
 (refine uJ rfl (fun hc => ?_) fun hc => ?_)
 ·have : y9 p = 0 := by unfold y9; rw [if_pos (by omega)]
  rw [this]
  (repeat first | refine uA ?_ | (refine uK ?_ ?_; focus first | omega | (intros; simp_all <;> omega)) | simp (disch := omega) only [go_sem, Nat.reduceBEq, Nat.reduceAdd, ww])
  exact S.done (j3.out rfl (Imp.refl rfl) rfl)
 (repeat first | refine uA ?_ | (refine uK ?_ ?_; focus first | omega | (intros; simp_all <;> omega)) | simp (disch := omega) only [go_sem, Nat.reduceBEq, Nat.reduceAdd, ww])
 (refine uJ rfl (fun hc => ?_) fun hc => ?_)
 ·have : y9 p = -1 := by unfold y9; rw [if_neg (by omega), if_pos hc]
  rw [this]
  (repeat first | refine uA ?_ | (refine uK ?_ ?_; focus first | omega | (intros; simp_all <;> omega)) | simp (disch := omega) only [go_sem, Nat.reduceBEq, Nat.reduceAdd, ww])
  exact S.done (j3.out rfl (Imp.refl rfl) rfl)
 ·have : y9 p = 1 := by unfold y9; rw [if_neg (by omega), if_neg hc]
  rw [this]
  (repeat first | refine uA ?_ | (refine uK ?_ ?_; focus first | omega | (intros; simp_all <;> omega)) | simp (disch := omega) only [go_sem, Nat.reduceBEq, Nat.reduceAdd, ww])
  exact S.done (j3.out rfl (Imp.refl rfl) rfl)
theorem b5Q (a b : Nat) : -1 <= Nm.a0l a b /\ Nm.a0l a b <= 1 := by
 unfold Nm.a0l
 by_cases h : a < b
 ·rw [if_pos h]; omega
 ·rw [if_neg h]; split <;> omega
theorem X5 (a b : Nm.Rt) (ha : Rb 17179869184 a) (hb : Rb 17179869184 b) : FZ 22 [rc a, rc b] (ints (Nm.z8 (Nm.d9 a) (Nm.d9 b))) := by
 refine kW Tryz.func22 (by cbv) (by rfl) fun w O hw => ?_
 have hfa := R9 a ha
 have hfb := R9 b hb
 obtain ⟨n1, d1⟩ := ha.fit (by decide)
 obtain ⟨n2, d2⟩ := hb.fit (by decide)
 generalize Nm.d9 a = p at *
 generalize Nm.d9 b = q at *
 rw [Nm.c0o]
 simp only [Nm.ofQ] at n1 d1 n2 d2
 have l1 := Nm.J3 n1 d2
 have l2 := Nm.J3 n2 d1
 have m1 := a2V (Nm.enc p.num.natAbs) (Nm.enc q.den) (by omega) (by omega)
 have m2 := a2V (Nm.enc q.num.natAbs) (Nm.enc p.den) (by omega) (by omega)
 simp only [Nm.I6] at m1 m2
 have hcmp := a8S (Nm.enc (p.num.natAbs * q.den)) (Nm.enc (q.num.natAbs * p.den)) (by omega) (by omega)
 simp only [Nm.I6] at hcmp
 have hcr := b5Q (p.num.natAbs * q.den) (q.num.natAbs * p.den)
 generalize Nm.a0l (p.num.natAbs * q.den) (q.num.natAbs * p.den) = cn at *
 simp only [l6]
 simp only [rq, rc, sb, Nm.ofQ, ints] at *
 generalize decide (p.num < 0) = bp at *
 generalize decide (q.num < 0) = bq at *
 (repeat first | refine uA ?_ | (refine uK ?_ ?_; focus first | omega | (intros; simp_all <;> omega)) | simp (disch := omega) only [go_sem, Nat.reduceBEq, Nat.reduceAdd, ww] | (refine uD hfa ?_ ?_ ?_; exact tz hw; exact rfl) | (refine uD hfb ?_ ?_ ?_; exact tz hw; exact rfl))
 refine S.cond rfl (fun hc => ?_) (fun hc => ?_)
 ·have hne : bp ≠ bq := by simpa using hc
  rw [if_pos hne]
  (repeat first | refine uA ?_ | (refine uK ?_ ?_; focus first | omega | (intros; simp_all <;> omega)) | simp (disch := omega) only [go_sem, Nat.reduceBEq, Nat.reduceAdd, ww])
  refine S.cond rfl (fun hc => ?_) (fun hc => ?_)
  ·rw [if_pos hc]
   (repeat first | refine uA ?_ | (refine uK ?_ ?_; focus first | omega | (intros; simp_all <;> omega)) | simp (disch := omega) only [go_sem, Nat.reduceBEq, Nat.reduceAdd, ww])
   exact S.done (j3.out rfl (Imp.refl rfl) rfl)
  ·rw [if_neg (by simp [hc])]
   (repeat first | refine uA ?_ | (refine uK ?_ ?_; focus first | omega | (intros; simp_all <;> omega)) | simp (disch := omega) only [go_sem, Nat.reduceBEq, Nat.reduceAdd, ww])
   exact S.done (j3.out rfl (Imp.refl rfl) rfl)
 ·have he : bp = bq := by simpa using hc
  rw [if_neg (by simp [he])]
  (repeat first | refine uA ?_ | (refine uK ?_ ?_; focus first | omega | (intros; simp_all <;> omega)) | simp (disch := omega) only [go_sem, Nat.reduceBEq, Nat.reduceAdd, ww] | (refine uB m1 ?_ ?_; exact rfl) | (refine uB m2 ?_ ?_; exact rfl) | (refine uB hcmp ?_ ?_; exact rfl))
  refine S.cond rfl (fun hc => ?_) (fun hc => ?_)
  ·rw [if_pos hc]
   have hneg : IntKind.i64.wrap (0 - cn) = - cn := by rw [Eng.wrap_i64 (by omega)]; omega
   (repeat first | refine uA ?_ | (refine uK ?_ ?_; focus first | omega | (intros; simp_all <;> omega)) | simp (disch := omega) only [go_sem, Nat.reduceBEq, Nat.reduceAdd, ww, hneg])
   exact S.done (j3.out rfl (Imp.refl rfl) rfl)
  ·rw [if_neg (by simp [hc])]
   (repeat first | refine uA ?_ | (refine uK ?_ ?_; focus first | omega | (intros; simp_all <;> omega)) | simp (disch := omega) only [go_sem, Nat.reduceBEq, Nat.reduceAdd, ww])
   exact S.done (j3.out rfl (Imp.refl rfl) rfl)
def J7 (p q : Rat) : Rat := if Nm.z8 p q <= 0 then p else q
def O4 (p q : Rat) : Rat := if Nm.z8 p q >= 0 then p else q
theorem a5j (a b : Nm.Rt) (ha : Rb 17179869184 a) (hb : Rb 17179869184 b) : FZ 69 [rc a, rc b] (rq (J7 (Nm.d9 a) (Nm.d9 b))) := by
 refine kW Tryz.func69 (by cbv) (by rfl) fun w O hw => ?_
 have hfa := R9 a ha
 have hfb := R9 b hb
 have hc := X5 a b ha hb
 unfold J7
 generalize Nm.z8 (Nm.d9 a) (Nm.d9 b) = cn at *
 simp only [l6]
 unfold rq at *
 generalize Nm.d9 a = p at *
 generalize Nm.d9 b = q at *
 simp only [rc, sb, ints] at *
 (repeat first | refine uA ?_ | (refine uK ?_ ?_; focus first | omega | (intros; simp_all <;> omega)) | simp (disch := omega) only [go_sem, Nat.reduceBEq, Nat.reduceAdd, ww] | (refine uD hc ?_ ?_ ?_; exact tz hw; exact rfl))
 (refine uJ rfl (fun hc => ?_) fun hc => ?_)
 ·rw [if_pos hc]
  (repeat first | refine uA ?_ | (refine uK ?_ ?_; focus first | omega | (intros; simp_all <;> omega)) | simp (disch := omega) only [go_sem, Nat.reduceBEq, Nat.reduceAdd, ww] | (refine uD hfa ?_ ?_ ?_; exact tz hw; exact rfl))
  (refine S.done ?_; simp only [p9, p8, go_sem, Nat.reduceBEq, Nat.reduceAdd, Nat.reduceLeDiff, Int.reduceToNat, Int.reducePow]; (repeat (refine ⟨?_, ?_⟩; focus first | trivial | omega | simp)); exact j3.out rfl (Imp.refl rfl) rfl)
 ·rw [if_neg hc]
  (repeat first | refine uA ?_ | (refine uK ?_ ?_; focus first | omega | (intros; simp_all <;> omega)) | simp (disch := omega) only [go_sem, Nat.reduceBEq, Nat.reduceAdd, ww] | (refine uD hfb ?_ ?_ ?_; exact tz hw; exact rfl))
  (refine S.done ?_; simp only [p9, p8, go_sem, Nat.reduceBEq, Nat.reduceAdd, Nat.reduceLeDiff, Int.reduceToNat, Int.reducePow]; (repeat (refine ⟨?_, ?_⟩; focus first | trivial | omega | simp)); exact j3.out rfl (Imp.refl rfl) rfl)
theorem a9i (a b : Nm.Rt) (ha : Rb 17179869184 a) (hb : Rb 17179869184 b) : FZ 67 [rc a, rc b] (rq (O4 (Nm.d9 a) (Nm.d9 b))) := by
 refine kW Tryz.func67 (by cbv) (by rfl) fun w O hw => ?_
 have hfa := R9 a ha
 have hfb := R9 b hb
 have hc := X5 a b ha hb
 unfold O4
 generalize Nm.z8 (Nm.d9 a) (Nm.d9 b) = cn at *
 simp only [l6]
 unfold rq at *
 generalize Nm.d9 a = p at *
 generalize Nm.d9 b = q at *
 simp only [rc, sb, ints] at *
 (repeat first | refine uA ?_ | (refine uK ?_ ?_; focus first | omega | (intros; simp_all <;> omega)) | simp (disch := omega) only [go_sem, Nat.reduceBEq, Nat.reduceAdd, ww] | (refine uD hc ?_ ?_ ?_; exact tz hw; exact rfl))
 (refine uJ rfl (fun hc => ?_) fun hc => ?_)
 ·rw [if_pos hc]
  (repeat first | refine uA ?_ | (refine uK ?_ ?_; focus first | omega | (intros; simp_all <;> omega)) | simp (disch := omega) only [go_sem, Nat.reduceBEq, Nat.reduceAdd, ww] | (refine uD hfa ?_ ?_ ?_; exact tz hw; exact rfl))
  (refine S.done ?_; simp only [p9, p8, go_sem, Nat.reduceBEq, Nat.reduceAdd, Nat.reduceLeDiff, Int.reduceToNat, Int.reducePow]; (repeat (refine ⟨?_, ?_⟩; focus first | trivial | omega | simp)); exact j3.out rfl (Imp.refl rfl) rfl)
 ·rw [if_neg hc]
  (repeat first | refine uA ?_ | (refine uK ?_ ?_; focus first | omega | (intros; simp_all <;> omega)) | simp (disch := omega) only [go_sem, Nat.reduceBEq, Nat.reduceAdd, ww] | (refine uD hfb ?_ ?_ ?_; exact tz hw; exact rfl))
  (refine S.done ?_; simp only [p9, p8, go_sem, Nat.reduceBEq, Nat.reduceAdd, Nat.reduceLeDiff, Int.reduceToNat, Int.reducePow]; (repeat (refine ⟨?_, ?_⟩; focus first | trivial | omega | simp)); exact j3.out rfl (Imp.refl rfl) rfl)
theorem c1F (a : Nm.Rt) (ha : Rb 17179869184 a) : FZ 61 [rc a] (rc ⟨false, Nm.enc (Nm.d9 a).num.natAbs, Nm.enc (Nm.d9 a).den⟩) := by
 refine kW Tryz.func61 (by cbv) (by rfl) fun w O hw => ?_
 have hfa := R9 a ha
 generalize Nm.d9 a = p at *
 simp only [l6]
 unfold rq at *
 simp only [rc, sb, Nm.ofQ] at *
 (repeat first | refine uA ?_ | (refine uK ?_ ?_; focus first | omega | (intros; simp_all <;> omega)) | simp (disch := omega) only [go_sem, Nat.reduceBEq, Nat.reduceAdd, ww] | (refine uD hfa ?_ ?_ ?_; exact tz hw; exact rfl))
 (refine S.done ?_; simp only [p9, p8, go_sem, Nat.reduceBEq, Nat.reduceAdd, Nat.reduceLeDiff, Int.reduceToNat, Int.reducePow]; (repeat (refine ⟨?_, ?_⟩; focus first | trivial | omega | simp)); exact j3.out rfl (Imp.refl rfl) rfl)
def j4 (a : Nm.Rt) : Bool := decide (a.num.length <= 3) && decide (a.den.length <= 2) && decide a.H8 && decide (Nm.val a.num <= 1000000) && decide (Nm.val a.den <= 1000)
theorem b4R (a b : Nat) : (Nm.a0l a b <= 0) = (a <= b) := by
 unfold Nm.a0l
 by_cases h : a < b
 ·rw [if_pos h]; simp; omega
 ·rw [if_neg h]; split
  ·simp; omega
  ·simp; omega
theorem a3L (a : Nm.Rt) (ha : Rb 17179869184 a) : FZ 41 [rc a] (.v (.bool (j4 a))) := by
 refine kW Tryz.func41 (by cbv) (by rfl) fun w O hw => ?_
 have hg := a1e a ⟨by have := ha.1; omega, by have := ha.2; omega⟩
 have ho1 := b5j 1000000 (by decide)
 have ho2 := b5j 1000 (by decide)
 have hb : ∀ k : Nat, k <= 1000000 -> (Nm.enc k).length <= 8 := fun k hk => Nm.F4 (by omega)
 have hb1 := hb 1000000 (by decide)
 have hb2 := hb 1000 (by decide)
 have hc1 := a8S a.num (Nm.enc 1000000) (by have := ha.1; omega) (by omega)
 have hc2 := a8S a.den (Nm.enc 1000) (by have := ha.2; omega) (by omega)
 rw [Nm.I6] at hc1 hc2
 rw [show (1000000 : Int).toNat = 1000000 from rfl] at ho1
 rw [show (1000 : Int).toNat = 1000 from rfl] at ho2
 have hl1 := b4R (Nm.val a.num) 1000000
 have hl2 := b4R (Nm.val a.den) 1000
 unfold j4
 generalize decide a.H8 = g at *
 generalize Nm.enc 1000000 = e1 at *
 generalize Nm.enc 1000 = e2 at *
 obtain ⟨neg, num, den⟩ := a
 obtain ⟨r1, r2⟩ := ha
 simp only [l6]
 simp only [rc, sb, ints] at *
 generalize Nm.a0l (Nm.val num) 1000000 = c1 at *
 generalize Nm.a0l (Nm.val den) 1000 = c2 at *
 simp only [<- hl1, <- hl2]
 have hi1 : decide ((num.length : Int) <= 3) = decide (num.length <= 3) := decide_eq_decide.2 (by omega)
 have hi2 : decide ((den.length : Int) <= 2) = decide (den.length <= 2) := decide_eq_decide.2 (by omega)
 (repeat first | refine uA ?_ | (refine uK ?_ ?_; focus first | omega | (intros; simp_all <;> omega)) | simp (disch := omega) only [go_sem, Nat.reduceBEq, Nat.reduceAdd, ww, E5, hi1, hi2] | (refine uB ho1 ?_ ?_; exact rfl) | (refine uB ho2 ?_ ?_; exact rfl) | (refine uB hc1 ?_ ?_; exact rfl) | (refine uB hc2 ?_ ?_; exact rfl) | (refine uD hg ?_ ?_ ?_; exact tz hw; exact rfl))
 exact S.done (j3.out rfl (Imp.refl rfl) rfl)
open Go Eng
def a6S : U3 := ⟨60, [.tmp 2], .seq (.reg [OA 1 (.box 51 (TT 0)), OA 2 (.mv (II 0))]) (.seq (.seq (.reg [FF 7 0 1, VV 8 7, OA 9 (.call 87 [TT 8]), OA 10 (.un .not (TT 9))]) (.cond (TT 10) (.seq (.reg [OA 2 (.mv (II 3))]) .ret) .skip)) (.seq (.seq
 (.reg [FF 11 11 1, VV 12 11, OA 13 (.len false (TT 12)), OA 14 (.bin .gtr (TT 13) (II 3))]) (.cond (TT 14) (.seq (.reg [OA 2 (.mv (II 2))]) .ret) .skip)) (.seq (.reg [FF 15 1 1, LL 16 10 15, OA 3 (.alloc 48 [.bool false, .string
 ⟨#[]⟩, .string ⟨#[]⟩, .bool false, .string ⟨#[]⟩, .string ⟨#[]⟩, .bool false, .bool false, .string ⟨#[]⟩, .string ⟨#[]⟩]), OB (.store 10 (TT 3) (TT 16))]) (.seq (.seq (.reg [FF 17 11 1, VV 18 17, OA 19 (.len false (TT 18)), OA
 20 (.bin .eql (TT 19) (II 0)), MM 21 20, FG 22 0 3 21 false, FG 23 0 22 21 false, LG 24 3 23 21 false, FG 25 0 3 21 false, FG 26 3 25 21 false, LG 27 3 26 21 false, FG 28 6 3 21 false, FG 29 1 28 21 false, LG 30 3 29 21 false,
 OC 31 (.bsl 29 3 3 [.bool false, .string ⟨#[]⟩, .string ⟨#[]⟩] [(0, TT 24), (1, TT 27), (2, TT 30)]) 21 false, OC 32 (.call 88 [TT 31]) 21 false, OC 33 (.un .not (TT 32)) 21 false, OA 34 (.pick (TT 21) (.const (.bool true)) (TT
 33)), MM 35 34, FG 36 6 3 35 false, FG 37 0 36 35 false, VG 38 37 35 false, MG 39 38 35 false, FG 40 6 3 39 true, FG 41 1 40 39 true, LG 42 3 41 39 true, OC 43 (.call 42 [TT 42]) 39 true, OC 44 (.bin .neq (TT 43) (II 0)) 39
 true, OC 45 (.pick (TT 39) (TT 44) (.const (.bool false))) 35 false, OA 46 (.pick (TT 35) (.const (.bool true)) (TT 45))]) (.cond (TT 46) (.seq (.reg [OA 2 (.mv (II 1))]) .ret) .skip)) (.seq (.seq (.reg [FF 47 11 1, VV 48 47, OA
 49 (.len false (TT 48)), OA 50 (.mv (II 0))]) (.block 0 (.loop (.seq (.reg [OA 51 (.bin .lss (TT 50) (TT 49))]) (.seq (.cond (TT 51) .skip (.exit 0)) (.seq (.block 1 (.seq (.reg [OA 52 (.q8 16 (TT 48) (TT 50)), LL 53 16 52,
 OA 5 (.alloc 53 [.bool false, .string ⟨#[]⟩, .string ⟨#[]⟩, .bool false, .string ⟨#[]⟩, .string ⟨#[]⟩, .bool false, .string ⟨#[]⟩, .string ⟨#[]⟩, .bool false, .string ⟨#[]⟩, .string ⟨#[]⟩, .bool false, .string ⟨#[]⟩, .string
 ⟨#[]⟩, .slice none 0 0]), OB (.store 16 (TT 5) (TT 53))]) (.seq (.reg [LL 54 16 5, OA 55 (.call 89 [TT 54]), MM 6 55]) (.seq (.reg [MM 56 6, OA 57 (.bin .neq (TT 56) (II 0))]) (.cond (TT 57) (.seq (.reg [MM 58 6, MM 2 58]) .ret)
 .skip))))) (.reg [OA 59 (.bin .add (TT 50) (II 1)), MM 50 59]))))))) (.seq (.reg [OA 2 (.mv (II 0))]) .ret))))))⟩
theorem b3q : M9 eff Tryz.prog Tryz.f29 = some a6S := by kernel_rfl
theorem b3x : Tryz.prog.funcs[29]? = some Tryz.f29 := Tryz.func29
def tc (h : Bool) (a : Nm.Rt) : C := .agg [.v (.bool h), .v (.bool a.neg), sb a.num, sb a.den]
def tq (h : Bool) (q : Rat) : C := tc h (Nm.ofQ q)
theorem a5I (a : Nm.Rt) (ha : Rb 17179869184 a) : FZ 102 [rc a] (tq false (Nm.d9 a)) := by
 refine kW Tryz.func102 (by cbv) (by rfl) fun w O hw => ?_
 have hm := a5j a a ha ha
 have e : J7 (Nm.d9 a) (Nm.d9 a) = Nm.d9 a := by unfold J7; split <;> rfl
 rw [e] at hm
 unfold rq tq at *
 generalize Nm.ofQ (Nm.d9 a) = r at *
 simp only [l6]
 simp only [rc, tc, sb] at *
 (repeat first | refine uA ?_ | (refine uK ?_ ?_; focus first | omega | (intros; simp_all <;> omega)) | simp (disch := omega) only [go_sem, Nat.reduceBEq, Nat.reduceAdd, ww] | (refine uD hm ?_ ?_ ?_; exact tz hw; exact rfl))
 (refine S.done ?_; simp only [p9, p8, go_sem, Nat.reduceBEq, Nat.reduceAdd, Nat.reduceLeDiff, Int.reduceToNat, Int.reducePow]; (repeat (refine ⟨?_, ?_⟩; focus first | trivial | omega | simp)); exact j3.out rfl (Imp.refl rfl) rfl)
theorem a9C {neg : Bool} {n d k m : Nat} (hd : d ≠ 0) (hn : (Nm.enc n).length <= k) (hdl : (Nm.enc d).length <= k) (hk : 1 <= k) (hm : k <= m) : Rb m (Nm.ofQ (mkRat (Nm.sgn neg n) d)) := by
 rw [<- Nm.b0c neg hd]
 split
 ·exact ⟨c2T _, c2Q hk hm⟩
 ·exact ⟨c2Q (Nm.a2K (Nat.div_le_self _ _)) (c2Q hn hm), c2Q (Nm.a2K (Nat.div_le_self _ _)) (c2Q hdl hm)⟩
theorem b2R {k : Nat} {p : Rat} (h : Rb k (Nm.ofQ p)) : 1 <= k := by
 have h1 := h.2
 simp only [Nm.ofQ] at h1
 have : Nm.enc p.den ≠ [] := Nm.a5v p.den_nz
 have := List.length_pos_iff.2 this
 omega
theorem M7 {k m : Nat} {p q : Rat} (hp : Rb k (Nm.ofQ p)) (hq : Rb m (Nm.ofQ q)) : Rb (k + m + 1) (Nm.ofQ (p + q)) := by
 have h1 := b2R hp
 rw [<- Nm.b0v p q]
 have l1 := Nm.J3 hp.1 hq.2
 have l2 := Nm.J3 hq.1 hp.2
 have l3 := Nm.J3 hp.2 hq.2
 exact a9C (k := k + m + 1) (Nat.mul_ne_zero p.den_nz q.den_nz) (c2Q (Nm.a2K (Nm.a5w _ _ _ _)) (Nm.a4Z l1 (by omega))) (by omega) (by omega) (c2V _)
theorem J5 {k m : Nat} {p q : Rat} (hp : Rb k (Nm.ofQ p)) (hq : Rb m (Nm.ofQ q)) : Rb (k + m) (Nm.ofQ (p * q)) := by
 have h1 := b2R hp
 rw [<- Nm.b1R p q]
 exact a9C (k := k + m) (Nat.mul_ne_zero p.den_nz q.den_nz) (Nm.J3 hp.1 hq.1) (Nm.J3 hp.2 hq.2) (by omega) (c2V _)
theorem a3i {k m : Nat} {p q : Rat} (h : q ≠ 0) (hp : Rb k (Nm.ofQ p)) (hq : Rb m (Nm.ofQ q)) : Rb (k + m) (Nm.ofQ (p / q)) := by
 have h1 := b2R hp
 rw [<- Nm.b2M p q h]
 have hn : q.num.natAbs ≠ 0 := fun e => h (Rat.num_eq_zero.1 (by omega))
 exact a9C (k := k + m) (Nat.mul_ne_zero p.den_nz hn) (Nm.J3 hp.1 hq.2) (Nm.J3 hp.2 hq.1) (by omega) (c2V _)
theorem a3J {k : Nat} {p : Rat} (hp : Rb k (Nm.ofQ p)) : Rb k (Nm.ofQ (-p)) := by
 rw [a9c]; exact hp
theorem M6 {k m : Nat} {p q : Rat} (hp : Rb k (Nm.ofQ p)) (hq : Rb m (Nm.ofQ q)) : Rb (k + m + 1) (Nm.ofQ (p - q)) := by
 rw [Rat.sub_eq_add_neg]; exact M7 hp (a3J hq)
theorem Rb.mono {k m : Nat} {a : Nm.Rt} (h : Rb k a) (hm : k <= m) : Rb m a := ⟨c2Q h.1 hm, c2Q h.2 hm⟩
theorem a9o (p q : Rat) (hp : Rb 17179869184 (Nm.ofQ p)) (hq : Rb 17179869184 (Nm.ofQ q)) : FZ 72 [rq p, rq q] (rq (p + q)) := by
 have := a1h (Nm.ofQ p) (Nm.ofQ q) hp hq
 rwa [Nm.r9, Nm.r9] at this
theorem b1F (p q : Rat) (hp : Rb 17179869184 (Nm.ofQ p)) (hq : Rb 17179869184 (Nm.ofQ q)) : FZ 66 [rq p, rq q] (rq (p - q)) := by
 have := a5b (Nm.ofQ p) (Nm.ofQ q) hp hq
 rwa [Nm.r9, Nm.r9] at this
theorem a7n (p q : Rat) (hp : Rb 17179869184 (Nm.ofQ p)) (hq : Rb 17179869184 (Nm.ofQ q)) : FZ 106 [rq p, rq q] (rq (p * q)) := by
 have := a5s (Nm.ofQ p) (Nm.ofQ q) hp hq
 rwa [Nm.r9, Nm.r9] at this
theorem b5T (p q : Rat) (hp : Rb 17179869184 (Nm.ofQ p)) (hq : Rb 17179869184 (Nm.ofQ q)) : FZ 105 [rq p, rq q] (.tup [rc (a0I p q), ints (a1X q)]) := by
 have := b2s (Nm.ofQ p) (Nm.ofQ q) hp hq
 rwa [Nm.r9, Nm.r9] at this
theorem b3m : FZ 107 [] (tq true 0) := by
 refine kW Tryz.func107 (by cbv) (by rfl) fun w O hw => ?_
 have ho := a2y 0 (by decide) (by decide)
 rw [show ((0 : Int) : Rat) = 0 from rfl] at ho
 unfold rq tq at *
 generalize Nm.ofQ 0 = r at *
 simp only [l6]
 simp only [rc, tc, sb, ints] at *
 (repeat first | refine uA ?_ | (refine uK ?_ ?_; focus first | omega | (intros; simp_all <;> omega)) | simp (disch := omega) only [go_sem, Nat.reduceBEq, Nat.reduceAdd, ww] | (refine uD ho ?_ ?_ ?_; exact tz hw; exact rfl))
 (refine S.done ?_; simp only [p9, p8, go_sem, Nat.reduceBEq, Nat.reduceAdd, Nat.reduceLeDiff, Int.reduceToNat, Int.reducePow]; (repeat (refine ⟨?_, ?_⟩; focus first | trivial | omega | simp)); exact j3.out rfl (Imp.refl rfl) rfl)
def x9 (h : Bool) (a : Nm.Rt) : Rat := if h then 0 else Nm.d9 a
theorem a6C (h : Bool) (a : Nm.Rt) (ha : Rb 17179869184 a) : FZ 103 [tc h a] (tq h (x9 h a)) := by
 refine kW Tryz.func103 (by cbv) (by rfl) fun w O hw => ?_
 have ho := b3m
 have hf := a5I a ha
 unfold x9 tq at *
 cases h
 ·simp only [c3u, if_false]
  generalize Nm.ofQ (Nm.d9 a) = r at *
  simp only [l6]
  simp only [rc, tc, sb, ints] at *
  (repeat first | refine uA ?_ | (refine uK ?_ ?_; focus first | omega | (intros; simp_all <;> omega)) | simp (disch := omega) only [go_sem, Nat.reduceBEq, Nat.reduceAdd, ww])
  exact S.cond rfl (fun hc => by cases hc) (fun _ => by
   (repeat first | refine uA ?_ | (refine uK ?_ ?_; focus first | omega | (intros; simp_all <;> omega)) | simp (disch := omega) only [go_sem, Nat.reduceBEq, Nat.reduceAdd, ww] | (refine uD hf ?_ ?_ ?_; exact tz hw; exact rfl))
   (refine S.done ?_; simp only [p9, p8, go_sem, Nat.reduceBEq, Nat.reduceAdd, Nat.reduceLeDiff, Int.reduceToNat, Int.reducePow]; (repeat (refine ⟨?_, ?_⟩; focus first | trivial | omega | simp)); exact j3.out rfl (Imp.refl rfl) rfl))
 ·simp only [if_true]
  generalize Nm.ofQ 0 = r at *
  simp only [l6]
  simp only [rc, tc, sb, ints] at *
  (repeat first | refine uA ?_ | (refine uK ?_ ?_; focus first | omega | (intros; simp_all <;> omega)) | simp (disch := omega) only [go_sem, Nat.reduceBEq, Nat.reduceAdd, ww])
  exact S.cond rfl (fun _ => by
   (repeat first | refine uA ?_ | (refine uK ?_ ?_; focus first | omega | (intros; simp_all <;> omega)) | simp (disch := omega) only [go_sem, Nat.reduceBEq, Nat.reduceAdd, ww] | (refine uD ho ?_ ?_ ?_; exact tz hw; exact rfl))
   (refine S.done ?_; simp only [p9, p8, go_sem, Nat.reduceBEq, Nat.reduceAdd, Nat.reduceLeDiff, Int.reduceToNat, Int.reducePow]; (repeat (refine ⟨?_, ?_⟩; focus first | trivial | omega | simp)); exact j3.out rfl (Imp.refl rfl) rfl)) (fun hc => by cases hc)
def U7 (h : Bool) (t : Rat) : Rat := if h then -1 else (1 - t * t) / (1 + t * t)
def U6 (t : Rat) : Rat := (t + t) / (1 + t * t)
theorem sq_nonneg (t : Rat) : 0 <= t * t := by
 rcases Rat.le_total (a := 0) (b := t) with h | h
 ·exact Rat.mul_nonneg h h
 ·have h1 : 0 <= -t := by grind
  have := Rat.mul_nonneg h1 h1
  grind
theorem a9v (t : Rat) : 1 + t * t ≠ 0 := by
 have := sq_nonneg t
 intro h
 have h1 : (0 : Rat) < 1 := by decide
 grind
theorem a0a : Rb 8 (Nm.ofQ 1) := ⟨Nm.F4 (by decide), Nm.F4 (by decide)⟩
theorem c1l (h : Bool) (a : Nm.Rt) (ha : Rb 4294967296 a) : FZ 108 [tc h a] (rq (U7 h (x9 h a))) := by
 refine kW Tryz.func108 (by cbv) (by rfl) fun w O hw => ?_
 have hf := a6C h a (ha.mono (by decide))
 have ho := a2y 1 (by decide) (by decide)
 have hm1 := a2y (-1) (by decide) (by decide)
 rw [show ((1 : Int) : Rat) = 1 from rfl] at ho
 rw [show ((-1 : Int) : Rat) = -1 from rfl] at hm1
 have hk : Rb 4294967296 (Nm.ofQ (x9 h a)) := by
  unfold x9; cases h
  ·exact ha.fit (by decide)
  ·simp only [if_true]; rw [Nm.a2D]; exact ⟨by decide, by decide⟩
 generalize x9 h a = t at *
 have hsq := a7n t t (hk.mono (by decide)) (hk.mono (by decide))
 have k2 := J5 hk hk
 have hs := b1F 1 (t * t) (a0a.mono (by decide)) (k2.mono (by decide))
 have hp := a9o 1 (t * t) (a0a.mono (by decide)) (k2.mono (by decide))
 have hd := b5T (1 - t * t) (1 + t * t) ((M6 a0a k2).mono (by decide)) ((M7 a0a k2).mono (by decide))
 rw [show a0I (1 - t * t) (1 + t * t) = Nm.ofQ ((1 - t * t) / (1 + t * t)) by unfold a0I; rw [if_neg (a9v t)]] at hd
 unfold U7
 cases h
 ·simp only [c3u, if_false]
  generalize (1 - t * t) / (1 + t * t) = r at *
  unfold tq rq at *
  generalize Nm.ofQ t = rt at *
  generalize Nm.ofQ (t * t) = rs at *
  generalize Nm.ofQ (1 - t * t) = r1 at *
  generalize Nm.ofQ (1 + t * t) = r2 at *
  generalize Nm.ofQ r = r3 at *
  generalize Nm.ofQ 1 = r4 at *
  simp only [l6]
  simp only [rc, tc, sb, ints] at *
  (repeat first | refine uA ?_ | (refine uK ?_ ?_; focus first | omega | (intros; simp_all <;> omega)) | simp (disch := omega) only [go_sem, Nat.reduceBEq, Nat.reduceAdd, ww] | (refine uD hf ?_ ?_ ?_; exact tz hw; exact rfl))
  refine S.cond rfl (fun hc => by cases hc) (fun _ => ?_)
  (repeat first | refine uA ?_ | (refine uK ?_ ?_; focus first | omega | (intros; simp_all <;> omega)) | simp (disch := omega) only [go_sem, Nat.reduceBEq, Nat.reduceAdd, ww] | (refine uD hsq ?_ ?_ ?_; exact tz hw; exact rfl) | (refine uD ho ?_ ?_ ?_; exact tz hw; exact rfl) | (refine uD hs ?_ ?_ ?_; exact tz hw; exact rfl) | (refine uD hp ?_ ?_ ?_; exact tz hw; exact rfl) | (refine uD hd ?_ ?_ ?_; exact tz hw; exact rfl))
  (refine S.done ?_; simp only [p9, p8, go_sem, Nat.reduceBEq, Nat.reduceAdd, Nat.reduceLeDiff, Int.reduceToNat, Int.reducePow]; (repeat (refine ⟨?_, ?_⟩; focus first | trivial | omega | simp)); exact j3.out rfl (Imp.refl rfl) rfl)
 ·simp only [if_true]
  unfold tq rq at *
  generalize Nm.ofQ t = rt at *
  generalize Nm.ofQ (-1) = r4 at *
  simp only [l6]
  simp only [rc, tc, sb, ints] at *
  (repeat first | refine uA ?_ | (refine uK ?_ ?_; focus first | omega | (intros; simp_all <;> omega)) | simp (disch := omega) only [go_sem, Nat.reduceBEq, Nat.reduceAdd, ww] | (refine uD hf ?_ ?_ ?_; exact tz hw; exact rfl))
  refine S.cond rfl (fun _ => ?_) (fun hc => by cases hc)
  (repeat first | refine uA ?_ | (refine uK ?_ ?_; focus first | omega | (intros; simp_all <;> omega)) | simp (disch := omega) only [go_sem, Nat.reduceBEq, Nat.reduceAdd, ww] | (refine uD hm1 ?_ ?_ ?_; exact tz hw; exact rfl))
  (refine S.done ?_; simp only [p9, p8, go_sem, Nat.reduceBEq, Nat.reduceAdd, Nat.reduceLeDiff, Int.reduceToNat, Int.reducePow]; (repeat (refine ⟨?_, ?_⟩; focus first | trivial | omega | simp)); exact j3.out rfl (Imp.refl rfl) rfl)
theorem V7 {k : Nat} {h : Bool} {a : Nm.Rt} (ha : Rb k a) (hk : 1 <= k) : Rb k (Nm.ofQ (x9 h a)) := by
 unfold x9; cases h
 ·exact ha.fit hk
 ·simp only [if_true]; rw [Nm.a2D]; exact ⟨c2T _, hk⟩
theorem c1A (h : Bool) (a : Nm.Rt) (ha : Rb 4294967296 a) : FZ 109 [tc h a] (rq (U6 (x9 h a))) := by
 refine kW Tryz.func109 (by cbv) (by rfl) fun w O hw => ?_
 have hf := a6C h a (ha.mono (by decide))
 have ho := a2y 1 (by decide) (by decide)
 rw [show ((1 : Int) : Rat) = 1 from rfl] at ho
 have hk : Rb 4294967296 (Nm.ofQ (x9 h a)) := V7 ha (by decide)
 generalize x9 h a = t at *
 have hsq := a7n t t (hk.mono (by decide)) (hk.mono (by decide))
 have k2 := J5 hk hk
 have hs := a9o t t (hk.mono (by decide)) (hk.mono (by decide))
 have hp := a9o 1 (t * t) (a0a.mono (by decide)) (k2.mono (by decide))
 have hd := b5T (t + t) (1 + t * t) ((M7 hk hk).mono (by decide)) ((M7 a0a k2).mono (by decide))
 rw [show a0I (t + t) (1 + t * t) = Nm.ofQ ((t + t) / (1 + t * t)) by unfold a0I; rw [if_neg (a9v t)]] at hd
 unfold U6
 generalize (t + t) / (1 + t * t) = r at *
 unfold tq rq at *
 generalize Nm.ofQ t = rt at *
 generalize Nm.ofQ (t * t) = rs at *
 generalize Nm.ofQ (t + t) = r1 at *
 generalize Nm.ofQ (1 + t * t) = r2 at *
 generalize Nm.ofQ r = r3 at *
 generalize Nm.ofQ 1 = r4 at *
 simp only [l6]
 simp only [rc, tc, sb, ints] at *
 (repeat first | refine uA ?_ | (refine uK ?_ ?_; focus first | omega | (intros; simp_all <;> omega)) | simp (disch := omega) only [go_sem, Nat.reduceBEq, Nat.reduceAdd, ww] | (refine uD hf ?_ ?_ ?_; exact tz hw; exact rfl) | (refine uD hsq ?_ ?_ ?_; exact tz hw; exact rfl) | (refine uD ho ?_ ?_ ?_; exact tz hw; exact rfl) | (refine uD hs ?_ ?_ ?_; exact tz hw; exact rfl) | (refine uD hp ?_ ?_ ?_; exact tz hw; exact rfl) | (refine uD hd ?_ ?_ ?_; exact tz hw; exact rfl))
 (refine S.done ?_; simp only [p9, p8, go_sem, Nat.reduceBEq, Nat.reduceAdd, Nat.reduceLeDiff, Int.reduceToNat, Int.reducePow]; (repeat (refine ⟨?_, ?_⟩; focus first | trivial | omega | simp)); exact j3.out rfl (Imp.refl rfl) rfl)
def vc (x y : Nm.Rt) : C := .agg [.v (.bool x.neg), sb x.num, sb x.den, .v (.bool y.neg), sb y.num, sb y.den]
def vq (x y : Rat) : C := vc (Nm.ofQ x) (Nm.ofQ y)
theorem c1Y (a b c d : Nm.Rt) (ha : Rb 17179869184 a) (hb : Rb 17179869184 b) (hc : Rb 17179869184 c) (hd : Rb 17179869184 d) :
  FZ 65 [vc a b, vc c d] (vq (Nm.d9 a + Nm.d9 c) (Nm.d9 b + Nm.d9 d)) := by
 refine kW Tryz.func65 (by cbv) (by rfl) fun w O hw => ?_
 have h1 := a1h a c ha hc
 have h2 := a1h b d hb hd
 unfold vq rq at *
 generalize Nm.ofQ (Nm.d9 a + Nm.d9 c) = r1 at *
 generalize Nm.ofQ (Nm.d9 b + Nm.d9 d) = r2 at *
 simp only [l6]
 simp only [rc, vc, sb] at *
 (repeat first | refine uA ?_ | (refine uK ?_ ?_; focus first | omega | (intros; simp_all <;> omega)) | simp (disch := omega) only [go_sem, Nat.reduceBEq, Nat.reduceAdd, ww] | (refine uD h1 ?_ ?_ ?_; exact tz hw; exact rfl) | (refine uD h2 ?_ ?_ ?_; exact tz hw; exact rfl))
 (refine S.done ?_; simp only [p9, p8, go_sem, Nat.reduceBEq, Nat.reduceAdd, Nat.reduceLeDiff, Int.reduceToNat, Int.reducePow]; (repeat (refine ⟨?_, ?_⟩; focus first | trivial | omega | simp)); exact j3.out rfl (Imp.refl rfl) rfl)
theorem b2T (a b c d : Nm.Rt) (ha : Rb 17179869184 a) (hb : Rb 17179869184 b) (hc : Rb 17179869184 c) (hd : Rb 17179869184 d) :
  FZ 55 [vc a b, vc c d] (vq (Nm.d9 a - Nm.d9 c) (Nm.d9 b - Nm.d9 d)) := by
 refine kW Tryz.func55 (by cbv) (by rfl) fun w O hw => ?_
 have h1 := a5b a c ha hc
 have h2 := a5b b d hb hd
 unfold vq rq at *
 generalize Nm.ofQ (Nm.d9 a - Nm.d9 c) = r1 at *
 generalize Nm.ofQ (Nm.d9 b - Nm.d9 d) = r2 at *
 simp only [l6]
 simp only [rc, vc, sb] at *
 (repeat first | refine uA ?_ | (refine uK ?_ ?_; focus first | omega | (intros; simp_all <;> omega)) | simp (disch := omega) only [go_sem, Nat.reduceBEq, Nat.reduceAdd, ww] | (refine uD h1 ?_ ?_ ?_; exact tz hw; exact rfl) | (refine uD h2 ?_ ?_ ?_; exact tz hw; exact rfl))
 (refine S.done ?_; simp only [p9, p8, go_sem, Nat.reduceBEq, Nat.reduceAdd, Nat.reduceLeDiff, Int.reduceToNat, Int.reducePow]; (repeat (refine ⟨?_, ?_⟩; focus first | trivial | omega | simp)); exact j3.out rfl (Imp.refl rfl) rfl)
theorem a9n {k : Nat} {t : Rat} (h : Bool) (ht : Rb k (Nm.ofQ t)) : Rb (4 * k + 18) (Nm.ofQ (U7 h t)) := by
 unfold U7
 have h1 := J5 ht ht
 have h2 := M6 a0a h1
 have h3 := M7 a0a h1
 cases h
 ·exact (a3i (a9v t) h2 h3).mono (by omega)
 ·exact (a3J a0a).mono (by omega)
theorem a9e {k : Nat} {t : Rat} (ht : Rb k (Nm.ofQ t)) : Rb (4 * k + 18) (Nm.ofQ (U6 t)) := by
 unfold U6
 exact (a3i (a9v t) (M7 ht ht) (M7 a0a (J5 ht ht))).mono (by omega)
theorem b4F (a b t : Nm.Rt) (h : Bool) (ha : Rb 268435456 a) (hb : Rb 268435456 b) (ht : Rb 268435456 t) :
  FZ 54 [vc a b, tc h t] (vq (Nm.d9 a * U7 h (x9 h t) - Nm.d9 b * U6 (x9 h t)) (Nm.d9 a * U6 (x9 h t) + Nm.d9 b * U7 h (x9 h t))) := by
 refine kW Tryz.func54 (by cbv) (by rfl) fun w O hw => ?_
 have k1 := c1l h t (ht.mono (by decide))
 have k2 := c1A h t (ht.mono (by decide))
 have ft := V7 (h := h) ht (by decide)
 have rc1 := a9n h ft
 have rs1 := a9e ft
 have fa := ha.fit (by decide)
 have fb := hb.fit (by decide)
 have m1 := a5s a (Nm.ofQ (U7 h (x9 h t))) (ha.mono (by decide)) (rc1.mono (by decide))
 have m2 := a5s b (Nm.ofQ (U6 (x9 h t))) (hb.mono (by decide)) (rs1.mono (by decide))
 have m3 := a5s a (Nm.ofQ (U6 (x9 h t))) (ha.mono (by decide)) (rs1.mono (by decide))
 have m4 := a5s b (Nm.ofQ (U7 h (x9 h t))) (hb.mono (by decide)) (rc1.mono (by decide))
 simp only [Nm.r9] at m1 m2 m3 m4
 have s1 := a5b (Nm.ofQ (Nm.d9 a * U7 h (x9 h t))) (Nm.ofQ (Nm.d9 b * U6 (x9 h t))) ((J5 fa rc1).mono (by decide)) ((J5 fb rs1).mono (by decide))
 have s2 := a1h (Nm.ofQ (Nm.d9 a * U6 (x9 h t))) (Nm.ofQ (Nm.d9 b * U7 h (x9 h t))) ((J5 fa rs1).mono (by decide)) ((J5 fb rc1).mono (by decide))
 simp only [Nm.r9] at s1 s2
 unfold vq rq at *
 generalize Nm.ofQ (Nm.d9 a * U7 h (x9 h t) - Nm.d9 b * U6 (x9 h t)) = r1 at *
 generalize Nm.ofQ (Nm.d9 a * U6 (x9 h t) + Nm.d9 b * U7 h (x9 h t)) = r2 at *
 generalize Nm.ofQ (Nm.d9 a * U7 h (x9 h t)) = p1 at *
 generalize Nm.ofQ (Nm.d9 b * U6 (x9 h t)) = p2 at *
 generalize Nm.ofQ (Nm.d9 a * U6 (x9 h t)) = p3 at *
 generalize Nm.ofQ (Nm.d9 b * U7 h (x9 h t)) = p4 at *
 generalize Nm.ofQ (U7 h (x9 h t)) = c at *
 generalize Nm.ofQ (U6 (x9 h t)) = s at *
 simp only [l6]
 simp only [rc, vc, tc, sb] at *
 (repeat first | refine uA ?_ | (refine uK ?_ ?_; focus first | omega | (intros; simp_all <;> omega)) | simp (disch := omega) only [go_sem, Nat.reduceBEq, Nat.reduceAdd, ww] | (refine uD k1 ?_ ?_ ?_; exact tz hw; exact rfl) | (refine uD k2 ?_ ?_ ?_; exact tz hw; exact rfl) | (refine uD m1 ?_ ?_ ?_; exact tz hw; exact rfl) | (refine uD m2 ?_ ?_ ?_; exact tz hw; exact rfl) | (refine uD m3 ?_ ?_ ?_; exact tz hw; exact rfl) | (refine uD m4 ?_ ?_ ?_; exact tz hw; exact rfl) | (refine uD s1 ?_ ?_ ?_; exact tz hw; exact rfl) | (refine uD s2 ?_ ?_ ?_; exact tz hw; exact rfl))
 (refine S.done ?_; simp only [p9, p8, go_sem, Nat.reduceBEq, Nat.reduceAdd, Nat.reduceLeDiff, Int.reduceToNat, Int.reducePow]; (repeat (refine ⟨?_, ?_⟩; focus first | trivial | omega | simp)); exact j3.out rfl (Imp.refl rfl) rfl)
structure Vt where
 x : Nm.Rt
 y : Nm.Rt
def Vt.enc (v : Vt) : List C := [.v (.bool v.x.neg), sb v.x.num, sb v.x.den, .v (.bool v.y.neg), sb v.y.num, sb v.y.den]
def Vt.c (v : Vt) : C := .agg v.enc
def Vt.zero : Vt := ⟨⟨false, [], []⟩, ⟨false, [], []⟩⟩
def Vb (k : Nat) (v : Vt) : Prop := Rb k v.x /\ Rb k v.y
theorem Vb.mono {k m : Nat} {v : Vt} (h : Vb k v) (hm : k <= m) : Vb m v := ⟨h.1.mono hm, h.2.mono hm⟩
theorem b8h (a b c d : Rat) (ha : Rb 4294967296 (Nm.ofQ a)) (hb : Rb 4294967296 (Nm.ofQ b)) (hc : Rb 4294967296 (Nm.ofQ c)) (hd : Rb 4294967296 (Nm.ofQ d)) :
  FZ 155 [vq a b, vq c d] (rq (a * d - b * c)) := by
 refine kW Tryz.func155 (by cbv) (by rfl) fun w O hw => ?_
 have h1 := a7n a d (ha.mono (by decide)) (hd.mono (by decide))
 have h2 := a7n b c (hb.mono (by decide)) (hc.mono (by decide))
 have h3 := b1F (a * d) (b * c) ((J5 ha hd).mono (by decide)) ((J5 hb hc).mono (by decide))
 unfold vq rq at *
 generalize Nm.ofQ (a * d - b * c) = r3 at *
 generalize Nm.ofQ (a * d) = r1 at *
 generalize Nm.ofQ (b * c) = r2 at *
 generalize Nm.ofQ a = ra at *
 generalize Nm.ofQ b = rb at *
 generalize Nm.ofQ c = r at *
 generalize Nm.ofQ d = rd at *
 simp only [l6]
 simp only [rc, vc, sb] at *
 (repeat first | refine uA ?_ | (refine uK ?_ ?_; focus first | omega | (intros; simp_all <;> omega)) | simp (disch := omega) only [go_sem, Nat.reduceBEq, Nat.reduceAdd, ww] | (refine uD h1 ?_ ?_ ?_; exact tz hw; exact rfl) | (refine uD h2 ?_ ?_ ?_; exact tz hw; exact rfl) | (refine uD h3 ?_ ?_ ?_; exact tz hw; exact rfl))
 (refine S.done ?_; simp only [p9, p8, go_sem, Nat.reduceBEq, Nat.reduceAdd, Nat.reduceLeDiff, Int.reduceToNat, Int.reducePow]; (repeat (refine ⟨?_, ?_⟩; focus first | trivial | omega | simp)); exact j3.out rfl (Imp.refl rfl) rfl)
def a7k (a b c : Vt) : Int := y9 ((Nm.d9 b.x - Nm.d9 a.x) * (Nm.d9 c.y - Nm.d9 a.y) - (Nm.d9 b.y - Nm.d9 a.y) * (Nm.d9 c.x - Nm.d9 a.x))
theorem c1z (a b c : Vt) (ha : Vb 1073741824 a) (hb : Vb 1073741824 b) (hc : Vb 1073741824 c) : FZ 146 [a.c, b.c, c.c] (ints (a7k a b c)) := by
 refine kW Tryz.func146 (by cbv) (by rfl) fun w O hw => ?_
 have h1 := b2T b.x b.y a.x a.y (hb.1.mono (by decide)) (hb.2.mono (by decide)) (ha.1.mono (by decide)) (ha.2.mono (by decide))
 have h2 := b2T c.x c.y a.x a.y (hc.1.mono (by decide)) (hc.2.mono (by decide)) (ha.1.mono (by decide)) (ha.2.mono (by decide))
 have g1 := M6 (hb.1.fit (by decide)) (ha.1.fit (by decide))
 have g2 := M6 (hb.2.fit (by decide)) (ha.2.fit (by decide))
 have g3 := M6 (hc.1.fit (by decide)) (ha.1.fit (by decide))
 have g4 := M6 (hc.2.fit (by decide)) (ha.2.fit (by decide))
 unfold a7k
 generalize Nm.d9 b.x - Nm.d9 a.x = p1 at *
 generalize Nm.d9 b.y - Nm.d9 a.y = p2 at *
 generalize Nm.d9 c.x - Nm.d9 a.x = p3 at *
 generalize Nm.d9 c.y - Nm.d9 a.y = p4 at *
 have h3 := b8h p1 p2 p3 p4 (g1.mono (by decide)) (g2.mono (by decide)) (g3.mono (by decide)) (g4.mono (by decide))
 have g5 := M6 (J5 g1 g4) (J5 g2 g3)
 have h4 := V8 (Nm.ofQ (p1 * p4 - p2 * p3)) (g5.mono (by decide))
 rw [Nm.r9] at h4
 generalize p1 * p4 - p2 * p3 = p5 at *
 unfold vq rq at *
 generalize Nm.ofQ p1 = r1 at *
 generalize Nm.ofQ p2 = r2 at *
 generalize Nm.ofQ p3 = r3 at *
 generalize Nm.ofQ p4 = r4 at *
 generalize Nm.ofQ p5 = r5 at *
 simp only [l6]
 simp only [rc, vc, sb, Vt.c, Vt.enc] at *
 (repeat first | refine uA ?_ | (refine uK ?_ ?_; focus first | omega | (intros; simp_all <;> omega)) | simp (disch := omega) only [go_sem, Nat.reduceBEq, Nat.reduceAdd, ww] | (refine uD h1 ?_ ?_ ?_; exact tz hw; exact rfl) | (refine uD h2 ?_ ?_ ?_; exact tz hw; exact rfl) | (refine uD h3 ?_ ?_ ?_; exact tz hw; exact rfl) | (refine uD h4 ?_ ?_ ?_; exact tz hw; exact rfl))
 (refine S.done ?_; simp only [p9, p8, go_sem, Nat.reduceBEq, Nat.reduceAdd, Nat.reduceLeDiff, Int.reduceToNat, Int.reducePow]; (repeat (refine ⟨?_, ?_⟩; focus first | trivial | omega | simp)); exact j3.out rfl (Imp.refl rfl) rfl)
def H7 {α : Type} (f : α -> Int) : List α -> Int
 | [] => 0
 | x :: r => if f x = 0 then H7 f r else f x
def u6 {α σ : Type} (f : σ -> α -> Int × σ) : σ -> List α -> Int × σ
 | s, [] => (0, s)
 | s, x :: r => if (f s x).1 = 0 then u6 f (f s x).2 r else f s x
theorem drop_at {α : Type} {l : List α} {i : Nat} {x : α} (h : l[i]? = some x) : l.drop i = x :: l.drop (i + 1) := by
 obtain ⟨hi, rfl⟩ := c2R.1 h
 exact List.drop_eq_getElem_cons hi
theorem a1K {α : Type} {f : α -> Int} {l : List α} {i : Nat} {x : α} (h : l[i]? = some x) (h0 : f x ≠ 0) : H7 f (l.drop i) = f x := by
 rw [drop_at h, H7, if_neg h0]
theorem a1I {α : Type} {f : α -> Int} {l : List α} {i : Nat} {x : α} (h : l[i]? = some x) (h0 : f x = 0) : H7 f (l.drop i) = H7 f (l.drop (i + 1)) := by
 rw [drop_at h, H7, if_pos h0]
theorem a2s {α : Type} {f : α -> Int} {l : List α} {i : Nat} (h : l.length <= i) : H7 f (l.drop i) = 0 := by
 rw [List.drop_eq_nil_of_le h, H7]
theorem a2t {α σ : Type} {f : σ -> α -> Int × σ} {s : σ} {l : List α} {i : Nat} {x : α} (h : l[i]? = some x) (h0 : (f s x).1 ≠ 0) : u6 f s (l.drop i) = f s x := by
 rw [drop_at h, u6, if_neg h0]
theorem a2o {α σ : Type} {f : σ -> α -> Int × σ} {s : σ} {l : List α} {i : Nat} {x : α} (h : l[i]? = some x) (h0 : (f s x).1 = 0) : u6 f s (l.drop i) = u6 f (f s x).2 (l.drop (i + 1)) := by
 rw [drop_at h, u6, if_pos h0]
theorem a3c {α σ : Type} {f : σ -> α -> Int × σ} {s : σ} {l : List α} {i : Nat} (h : l.length <= i) : u6 f s (l.drop i) = (0, s) := by
 rw [List.drop_eq_nil_of_le h, u6]
structure Fr where
 x : Nm.Rt
 y : Nm.Rt
 half : Bool
 t : Nm.Rt
structure Lk where
 length : Nm.Rt
 low : Nm.Rt
 high : Nm.Rt
 speed : Nm.Rt
 brake : Nm.Rt
 shape : List Vt
structure Am where
 name : List UInt8
 base : Fr
 links : List Lk
structure Pt where
 name : List UInt8
 shape : List Vt
 grasp : Fr
structure Sl where
 name : List UInt8
 frame : Fr
 within : Nm.Rt
structure Gt where
 name : List UInt8
 low : Vt
 high : Vt
structure Wk where
 arms : List Am
 walls : List (List Vt)
 parts : List Pt
 slots : List Sl
 gates : List Gt
 walk : Nm.Rt
def rcs (a : Nm.Rt) : List C := [.v (.bool a.neg), sb a.num, sb a.den]
def Fr.enc (f : Fr) : List C := [.v (.bool f.x.neg), sb f.x.num, sb f.x.den, .v (.bool f.y.neg), sb f.y.num, sb f.y.den, .v (.bool f.half), .v (.bool f.t.neg), sb f.t.num, sb f.t.den]
def Fr.c (f : Fr) : C := .agg f.enc
def vts (l : List Vt) : C := .sl 6 (l.map Vt.enc)
def Lk.enc (l : Lk) : List C := [.v (.bool l.length.neg), sb l.length.num, sb l.length.den, .v (.bool l.low.neg), sb l.low.num, sb l.low.den, .v (.bool l.high.neg), sb l.high.num, sb l.high.den, .v (.bool l.speed.neg), sb l.speed.num, sb l.speed.den, .v (.bool l.brake.neg), sb l.brake.num, sb l.brake.den, vts l.shape]
def Lk.c (l : Lk) : C := .agg l.enc
def lks (l : List Lk) : C := .sl 16 (l.map Lk.enc)
def Am.enc (a : Am) : List C := [sb a.name, .v (.bool a.base.x.neg), sb a.base.x.num, sb a.base.x.den, .v (.bool a.base.y.neg), sb a.base.y.num, sb a.base.y.den, .v (.bool a.base.half), .v (.bool a.base.t.neg), sb a.base.t.num, sb a.base.t.den, lks a.links]
def Am.c (a : Am) : C := .agg a.enc
def ams (l : List Am) : C := .sl 12 (l.map Am.enc)
def Pt.enc (p : Pt) : List C := [sb p.name, vts p.shape, .v (.bool p.grasp.x.neg), sb p.grasp.x.num, sb p.grasp.x.den, .v (.bool p.grasp.y.neg), sb p.grasp.y.num, sb p.grasp.y.den, .v (.bool p.grasp.half), .v (.bool p.grasp.t.neg), sb p.grasp.t.num, sb p.grasp.t.den]
def Pt.c (p : Pt) : C := .agg p.enc
def pts (l : List Pt) : C := .sl 12 (l.map Pt.enc)
def Sl.enc (s : Sl) : List C := [sb s.name, .v (.bool s.frame.x.neg), sb s.frame.x.num, sb s.frame.x.den, .v (.bool s.frame.y.neg), sb s.frame.y.num, sb s.frame.y.den, .v (.bool s.frame.half), .v (.bool s.frame.t.neg), sb s.frame.t.num, sb s.frame.t.den, .v (.bool s.within.neg), sb s.within.num, sb s.within.den]
def Sl.c (s : Sl) : C := .agg s.enc
def sls (l : List Sl) : C := .sl 14 (l.map Sl.enc)
def Gt.enc (g : Gt) : List C := [sb g.name, .v (.bool g.low.x.neg), sb g.low.x.num, sb g.low.x.den, .v (.bool g.low.y.neg), sb g.low.y.num, sb g.low.y.den, .v (.bool g.high.x.neg), sb g.high.x.num, sb g.high.x.den, .v (.bool g.high.y.neg), sb g.high.y.num, sb g.high.y.den]
def Gt.c (g : Gt) : C := .agg g.enc
def gts (l : List Gt) : C := .sl 13 (l.map Gt.enc)
def wls (l : List (List Vt)) : C := .sl 1 (l.map fun s => [vts s])
def Wk.enc (w : Wk) : List C := [ams w.arms, wls w.walls, pts w.parts, sls w.slots, gts w.gates, .v (.bool w.walk.neg), sb w.walk.num, sb w.walk.den]
def Wk.c (w : Wk) : C := .agg w.enc
def Fb (k : Nat) (f : Fr) : Prop := Rb k f.x /\ Rb k f.y /\ Rb k f.t
def Vbs (k : Nat) (l : List Vt) : Prop := l.length <= k /\ ∀ v ∈ l, Vb k v
def Lb (k : Nat) (l : Lk) : Prop := Rb k l.length /\ Rb k l.low /\ Rb k l.high /\ Rb k l.speed /\ Rb k l.brake /\ Vbs k l.shape
def Ab (k : Nat) (a : Am) : Prop := a.name.length <= k /\ Fb k a.base /\ a.links.length <= k /\ ∀ l ∈ a.links, Lb k l
def Pb (k : Nat) (p : Pt) : Prop := p.name.length <= k /\ Vbs k p.shape /\ Fb k p.grasp
def Sb (k : Nat) (s : Sl) : Prop := s.name.length <= k /\ Fb k s.frame /\ Rb k s.within
def Gb (k : Nat) (g : Gt) : Prop := g.name.length <= k /\ Vb k g.low /\ Vb k g.high
structure Wb (k : Nat) (w : Wk) : Prop where
 arms : w.arms.length <= k /\ ∀ x ∈ w.arms, Ab k x
 walls : w.walls.length <= k /\ ∀ x ∈ w.walls, Vbs k x
 parts : w.parts.length <= k /\ ∀ x ∈ w.parts, Pb k x
 slots : w.slots.length <= k /\ ∀ x ∈ w.slots, Sb k x
 gates : w.gates.length <= k /\ ∀ x ∈ w.gates, Gb k x
 walk : Rb k w.walk
def a1v (s : List UInt8) : Bool := (s.all fun b => decide (97 <= b.toNat) && decide (b.toNat <= 122)) && decide (1 <= s.length) && decide (s.length <= 12)
def a2k (l : List Vt) (i k : Nat) : Int := a7k (l.getD i Vt.zero) (l.getD ((i + 1) % l.length) Vt.zero) (l.getD ((i + k) % l.length) Vt.zero)
def U5 (l : List Vt) (most : Nat) : Int :=
 if most < l.length then 2 else if l.length < 3 then 3 else
 if (List.range l.length).all fun i => (List.range l.length).all fun k => decide (k < 2) || decide (0 < a2k l i k) then 0 else 3
def a4C (h : Bool) (t : Nm.Rt) : Bool := h && !decide (y9 (Nm.d9 t) = 0)
def N7 (l : Lk) : Int :=
 if (j4 l.length && j4 l.low && j4 l.high && j4 l.speed && j4 l.brake) = false \/ y9 (Nm.d9 l.length) <= 0 \/ 0 <= Nm.z8 (Nm.d9 l.low) (Nm.d9 l.high) then 1 else
 if y9 (Nm.d9 l.speed) <= 0 \/ y9 (Nm.d9 l.brake) <= 0 then 1 else
 if U5 l.shape 8 ≠ 0 then U5 l.shape 8 else
 if (l.shape.all fun v => j4 v.x && j4 v.y) then 0 else 1
def G8 (a : Am) : Int :=
 if a1v a.name = false then 3 else
 if 3 < a.links.length then 2 else
 if a.links.length = 0 \/ (j4 a.base.x && j4 a.base.y && j4 a.base.t) = false \/ a4C a.base.half a.base.t = true then 1 else
 H7 N7 a.links
def a0n (a : Am) (q : List Nm.Rt) : Int :=
 if G8 a ≠ 0 then G8 a else if q.length ≠ a.links.length then 1 else
 H7 (fun x : Lk × Nm.Rt => if Nm.z8 (Nm.d9 x.2) (Nm.d9 x.1.low) < 0 \/ 0 < Nm.z8 (Nm.d9 x.2) (Nm.d9 x.1.high) then 17 else 0) (a.links.zip q)
abbrev Nms := List (List UInt8)
def K8 (n : Nms) (s : List UInt8) : Int × Nms := if a1v s = false then (3, n) else if n.contains s then (5, n) else (0, n ++ [s])
def okV (v : Vt) : Bool := decide v.x.H8 && decide v.y.H8 && j4 v.x && j4 v.y
def okF (f : Fr) : Bool := okV ⟨f.x, f.y⟩ && decide f.t.H8 && j4 f.t && !a4C f.half f.t
def K5 (l : List Vt) : Int := if U5 l 8 ≠ 0 then U5 l 8 else if l.all okV then 0 else 1
def a1U (n : Nms) (a : Am) : Int × Nms := if G8 a ≠ 0 then (G8 a, n) else K8 n a.name
def a0F (n : Nms) (p : Pt) : Int × Nms :=
 if (K8 n p.name).1 ≠ 0 then K8 n p.name else
 if K5 p.shape ≠ 0 then (K5 p.shape, (K8 n p.name).2) else
 (if okF p.grasp then 0 else 1, (K8 n p.name).2)
def a0L (n : Nms) (s : Sl) : Int × Nms :=
 if (K8 n s.name).1 ≠ 0 then K8 n s.name else
 (if okF s.frame && decide s.within.H8 && j4 s.within && decide (0 < y9 (Nm.d9 s.within)) then 0 else 1, (K8 n s.name).2)
def a0N (n : Nms) (g : Gt) : Int × Nms :=
 if (K8 n g.name).1 ≠ 0 then K8 n g.name else
 (if okV g.low && okV g.high && decide (Nm.z8 (Nm.d9 g.low.x) (Nm.d9 g.high.x) <= 0) && decide (Nm.z8 (Nm.d9 g.low.y) (Nm.d9 g.high.y) <= 0) then 0 else 1, (K8 n g.name).2)
def b1D (a : Nm.Rt) : Int := if decide a.H8 && j4 a && decide (0 <= y9 (Nm.d9 a)) then 0 else 1
def a6v (w : Wk) : List Int :=
 let a := u6 a1U [] w.arms
 let p := u6 a0F a.2 w.parts
 let s := u6 a0L p.2 w.slots
 let g := u6 a0N s.2 w.gates
 [a.1, H7 K5 w.walls, p.1, s.1, g.1]
def X7 (w : Wk) : Int :=
 if 4 < w.arms.length \/ 10 < w.walls.length \/ 6 < w.parts.length \/ 8 < w.slots.length \/ 4 < w.gates.length then 2 else
 if w.arms.length = 0 then 4 else
 if H7 id (a6v w) ≠ 0 then H7 id (a6v w) else b1D w.walk
def nmE (n : Nms) : List (Value × Value) := n.map fun s => (.string (bs s), .bool true)
theorem b9V (n : Nms) (s : List UInt8) : a0Z (.string (bs s)) (nmE n) = if n.contains s then some (.bool true) else none := by
 induction n with
 | nil => rfl
 | cons a n ih =>
  simp only [nmE, c3e, a0Z, a1b]
  simp only [nmE] at ih
  rw [ih]
  by_cases h : s = a
  ·subst h; simp
  ·have h1 : ¬ bs s = bs a := fun e => h (b2Z e)
   have h2 : (s == a) = false := by simpa using h
   rw [List.contains_cons]
   simp only [h2, Bool.false_or, decide_eq_false h1, c3u, if_false]
theorem c0Z (n : Nms) (s : List UInt8) (h : n.contains s = false) : a0W (.string (bs s)) (.bool true) (nmE n) = nmE (n ++ [s]) := by
 induction n with
 | nil => rfl
 | cons a n ih =>
  rw [List.contains_cons, c3r] at h
  have h1 : ¬ bs s = bs a := fun e => by have := b2Z e; subst this; simp at h
  have h3 := ih h.2
  simp only [nmE, c3e, List.cons_append, a0W, a1b, decide_eq_false h1, c3u, if_false] at h3 ⊢
  rw [h3]
def a8q (f : Fr) (c : Vt) : Rat := Nm.d9 f.x + (Nm.d9 c.x * U7 f.half (x9 f.half f.t) - Nm.d9 c.y * U6 (x9 f.half f.t))
def a8u (f : Fr) (c : Vt) : Rat := Nm.d9 f.y + (Nm.d9 c.x * U6 (x9 f.half f.t) + Nm.d9 c.y * U7 f.half (x9 f.half f.t))
theorem c2g (f : Fr) (c : Vt) (hx : Rb 4294967296 f.x) (hy : Rb 4294967296 f.y) (ht : Rb 268435456 f.t) (ha : Rb 268435456 c.x) (hb : Rb 268435456 c.y) :
  FZ 18 [f.c, c.c] (vq (a8q f c) (a8u f c)) := by
 refine kW Tryz.func18 (by cbv) (by rfl) fun w O hw => ?_
 obtain ⟨x, y, h, t⟩ := f
 obtain ⟨a, b⟩ := c
 simp only at hx hy ht ha hb
 have k1 := b4F a b t h ha hb ht
 have ft := V7 (h := h) ht (by decide)
 have rc1 := a9n h ft
 have rs1 := a9e ft
 have fa := ha.fit (by decide)
 have fb := hb.fit (by decide)
 have k2 := c1Y x y (Nm.ofQ (Nm.d9 a * U7 h (x9 h t) - Nm.d9 b * U6 (x9 h t))) (Nm.ofQ (Nm.d9 a * U6 (x9 h t) + Nm.d9 b * U7 h (x9 h t))) (hx.mono (by decide)) (hy.mono (by decide)) ((M6 (J5 fa rc1) (J5 fb rs1)).mono (by decide)) ((M7 (J5 fa rs1) (J5 fb rc1)).mono (by decide))
 simp only [Nm.r9] at k2
 unfold a8q a8u
 simp only
 unfold vq at *
 generalize Nm.ofQ (Nm.d9 x + (Nm.d9 a * U7 h (x9 h t) - Nm.d9 b * U6 (x9 h t))) = r1 at *
 generalize Nm.ofQ (Nm.d9 y + (Nm.d9 a * U6 (x9 h t) + Nm.d9 b * U7 h (x9 h t))) = r2 at *
 generalize Nm.ofQ (Nm.d9 a * U7 h (x9 h t) - Nm.d9 b * U6 (x9 h t)) = p1 at *
 generalize Nm.ofQ (Nm.d9 a * U6 (x9 h t) + Nm.d9 b * U7 h (x9 h t)) = p2 at *
 simp only [l6]
 simp only [Fr.c, Fr.enc, Vt.c, Vt.enc, vc, tc, sb] at *
 (repeat first | refine uA ?_ | (refine uK ?_ ?_; focus first | omega | (intros; simp_all <;> omega)) | simp (disch := omega) only [go_sem, Nat.reduceBEq, Nat.reduceAdd, ww] | (refine uD k1 ?_ ?_ ?_; exact tz hw; exact rfl) | (refine uD k2 ?_ ?_ ?_; exact tz hw; exact rfl))
 (refine S.done ?_; simp only [p9, p8, go_sem, Nat.reduceBEq, Nat.reduceAdd, Nat.reduceLeDiff, Int.reduceToNat, Int.reducePow]; (repeat (refine ⟨?_, ?_⟩; focus first | trivial | omega | simp)); exact j3.out rfl (Imp.refl rfl) rfl)
theorem c0g (h : Bool) (a : Nm.Rt) (ha : Rb 4294967296 a) : FZ 53 [tc h a] (tq h (- x9 h a)) := by
 refine kW Tryz.func53 (by cbv) (by rfl) fun w O hw => ?_
 have hf := a6C h a (ha.mono (by decide))
 have hk : Rb 4294967296 (Nm.ofQ (x9 h a)) := V7 ha (by decide)
 generalize x9 h a = t at *
 have hn := a9A (Nm.ofQ t) (hk.mono (by decide))
 rw [Nm.r9] at hn
 unfold tq rq at *
 generalize Nm.ofQ t = rt at *
 generalize Nm.ofQ (-t) = rn at *
 simp only [l6]
 simp only [rc, tc, sb, ints] at *
 (repeat first | refine uA ?_ | (refine uK ?_ ?_; focus first | omega | (intros; simp_all <;> omega)) | simp (disch := omega) only [go_sem, Nat.reduceBEq, Nat.reduceAdd, ww] | (refine uD hf ?_ ?_ ?_; exact tz hw; exact rfl) | (refine uD hn ?_ ?_ ?_; exact tz hw; exact rfl))
 (refine S.done ?_; simp only [p9, p8, go_sem, Nat.reduceBEq, Nat.reduceAdd, Nat.reduceLeDiff, Int.reduceToNat, Int.reducePow]; (repeat (refine ⟨?_, ?_⟩; focus first | trivial | omega | simp)); exact j3.out rfl (Imp.refl rfl) rfl)
theorem b6A (h : Bool) (a : Nm.Rt) (ha : Rb 4294967296 a) : FZ 104 [tc h a] (if Nm.d9 a = 0 then tq true 0 else tq false (-1 / Nm.d9 a)) := by
 refine kW Tryz.func104 (by cbv) (by rfl) fun w O hw => ?_
 have hm1 := a2y (-1) (by decide) (by decide)
 rw [show ((-1 : Int) : Rat) = -1 from rfl] at hm1
 have kb : Rb 8 (Nm.ofQ (-1)) := ⟨Nm.F4 (by decide), Nm.F4 (by decide)⟩
 have hd := b2s (Nm.ofQ (-1)) a (kb.mono (by decide)) (ha.mono (by decide))
 rw [Nm.r9] at hd
 have hk := ha.fit (by decide)
 have hh := b3m
 by_cases h0 : Nm.d9 a = 0
 ·rw [if_pos h0]
  have e1 : a0I (-1) (Nm.d9 a) = ⟨false, [], []⟩ := by unfold a0I; rw [if_pos h0]
  have e2 : a1X (Nm.d9 a) = 12 := by unfold a1X; rw [if_pos h0]
  rw [e1, e2] at hd
  unfold rq tq at *
  generalize Nm.ofQ (-1) = r1 at *
  generalize Nm.ofQ 0 = r0 at *
  simp only [l6]
  simp only [rc, tc, sb, ints] at *
  (repeat first | refine uA ?_ | (refine uK ?_ ?_; focus first | omega | (intros; simp_all <;> omega)) | simp (disch := omega) only [go_sem, Nat.reduceBEq, Nat.reduceAdd, ww] | (refine uD hm1 ?_ ?_ ?_; exact tz hw; exact rfl) | (refine uD hd ?_ ?_ ?_; exact tz hw; exact rfl))
  refine S.cond rfl (fun _ => ?_) (fun hc => by simp at hc)
  (repeat first | refine uA ?_ | (refine uK ?_ ?_; focus first | omega | (intros; simp_all <;> omega)) | simp (disch := omega) only [go_sem, Nat.reduceBEq, Nat.reduceAdd, ww] | (refine uD hh ?_ ?_ ?_; exact tz hw; exact rfl))
  (refine S.done ?_; simp only [p9, p8, go_sem, Nat.reduceBEq, Nat.reduceAdd, Nat.reduceLeDiff, Int.reduceToNat, Int.reducePow]; (repeat (refine ⟨?_, ?_⟩; focus first | trivial | omega | simp)); exact j3.out rfl (Imp.refl rfl) rfl)
 ·rw [if_neg h0]
  have e1 : a0I (-1) (Nm.d9 a) = Nm.ofQ (-1 / Nm.d9 a) := by unfold a0I; rw [if_neg h0]
  have e2 : a1X (Nm.d9 a) = 0 := by unfold a1X; rw [if_neg h0]
  rw [e1, e2] at hd
  have hof := a5I (Nm.ofQ (-1 / Nm.d9 a)) ((a3i h0 kb hk).mono (by decide))
  rw [Nm.r9] at hof
  unfold rq tq at *
  generalize Nm.ofQ (-1) = r1 at *
  generalize Nm.ofQ (-1 / Nm.d9 a) = r2 at *
  simp only [l6]
  simp only [rc, tc, sb, ints] at *
  (repeat first | refine uA ?_ | (refine uK ?_ ?_; focus first | omega | (intros; simp_all <;> omega)) | simp (disch := omega) only [go_sem, Nat.reduceBEq, Nat.reduceAdd, ww] | (refine uD hm1 ?_ ?_ ?_; exact tz hw; exact rfl) | (refine uD hd ?_ ?_ ?_; exact tz hw; exact rfl))
  refine S.cond rfl (fun hc => by simp at hc) (fun _ => ?_)
  (repeat first | refine uA ?_ | (refine uK ?_ ?_; focus first | omega | (intros; simp_all <;> omega)) | simp (disch := omega) only [go_sem, Nat.reduceBEq, Nat.reduceAdd, ww] | (refine uD hof ?_ ?_ ?_; exact tz hw; exact rfl))
  (refine S.done ?_; simp only [p9, p8, go_sem, Nat.reduceBEq, Nat.reduceAdd, Nat.reduceLeDiff, Int.reduceToNat, Int.reducePow]; (repeat (refine ⟨?_, ?_⟩; focus first | trivial | omega | simp)); exact j3.out rfl (Imp.refl rfl) rfl)
def a2x (h1 : Bool) (t1 : Rat) (h2 : Bool) (t2 : Rat) : Bool × Rat :=
 if h1 && h2 then (false, 0) else if h1 then (if t2 = 0 then (true, 0) else (false, -1 / t2)) else if h2 then (if t1 = 0 then (true, 0) else (false, -1 / t1)) else if 1 - t1 * t2 = 0 then (true, 0) else (false, (t1 + t2) / (1 - t1 * t2))
theorem c0J (h1 : Bool) (a : Nm.Rt) (h2 : Bool) (b : Nm.Rt) (ha : Rb 1073741824 a) (hb : Rb 1073741824 b) :
  FZ 52 [tc h1 a, tc h2 b] (tq (a2x h1 (x9 h1 a) h2 (x9 h2 b)).1 (a2x h1 (x9 h1 a) h2 (x9 h2 b)).2) := by
 refine kW Tryz.func52 (by cbv) (by rfl) fun w O hw => ?_
 have hf := a6C h1 a (ha.mono (by decide))
 have hg := a6C h2 b (hb.mono (by decide))
 have hk : Rb 1073741824 (Nm.ofQ (x9 h1 a)) := V7 ha (by decide)
 have hl : Rb 1073741824 (Nm.ofQ (x9 h2 b)) := V7 hb (by decide)
 have ho0 := a2y 0 (by decide) (by decide)
 have ho1 := a2y 1 (by decide) (by decide)
 rw [show ((0 : Int) : Rat) = 0 from rfl] at ho0
 rw [show ((1 : Int) : Rat) = 1 from rfl] at ho1
 have hz := a5I (Nm.ofQ 0) (by rw [Nm.a2D]; exact ⟨by decide, by decide⟩)
 rw [Nm.r9] at hz
 have hh := b3m
 generalize x9 h1 a = s at *
 generalize x9 h2 b = t at *
 have o1 := b6A false (Nm.ofQ s) (hk.mono (by decide))
 have o2 := b6A false (Nm.ofQ t) (hl.mono (by decide))
 rw [Nm.r9] at o1 o2
 have kst := J5 hk hl
 have m1 := a7n s t (hk.mono (by decide)) (hl.mono (by decide))
 have m2 := a9o s t (hk.mono (by decide)) (hl.mono (by decide))
 have m3 := b1F 1 (s * t) (a0a.mono (by decide)) (kst.mono (by decide))
 have m4 := b5T (s + t) (1 - s * t) ((M7 hk hl).mono (by decide)) ((M6 a0a kst).mono (by decide))
 cases h1 <;> cases h2
 ·simp only [a2x, Bool.and_false, c3u, if_false]
  clear o1 o2 hz
  by_cases h0 : 1 - s * t = 0
  ·rw [if_pos h0]
   rw [show a0I (s + t) (1 - s * t) = ⟨false, [], []⟩ by unfold a0I; rw [if_pos h0], show a1X (1 - s * t) = 12 by unfold a1X; rw [if_pos h0]] at m4
   unfold rq tq at *
   simp only [l6]
   generalize Nm.ofQ s = r0 at *
   generalize Nm.ofQ t = r1 at *
   generalize Nm.ofQ (s * t) = r2 at *
   generalize Nm.ofQ (s + t) = r3 at *
   generalize Nm.ofQ (1 - s * t) = r4 at *
   generalize Nm.ofQ 0 = r5 at *
   generalize Nm.ofQ 1 = r6 at *
   simp only [rc, tc, sb, ints] at *
   (repeat first | refine uA ?_ | (refine uK ?_ ?_; focus first | omega | (intros; simp_all <;> omega)) | simp (disch := omega) only [go_sem, Nat.reduceBEq, Nat.reduceAdd, ww] | (refine uD hf ?_ ?_ ?_; exact tz hw; exact rfl) | (refine uD hg ?_ ?_ ?_; exact tz hw; exact rfl))
   refine S.cond rfl (fun hc => by simp at hc) (fun _ => ?_)
   (repeat first | refine uA ?_ | (refine uK ?_ ?_; focus first | omega | (intros; simp_all <;> omega)) | simp (disch := omega) only [go_sem, Nat.reduceBEq, Nat.reduceAdd, ww])
   refine S.cond rfl (fun hc => by simp at hc) (fun _ => ?_)
   (repeat first | refine uA ?_ | (refine uK ?_ ?_; focus first | omega | (intros; simp_all <;> omega)) | simp (disch := omega) only [go_sem, Nat.reduceBEq, Nat.reduceAdd, ww])
   refine S.cond rfl (fun hc => by simp at hc) (fun _ => ?_)
   (repeat first | refine uA ?_ | (refine uK ?_ ?_; focus first | omega | (intros; simp_all <;> omega)) | simp (disch := omega) only [go_sem, Nat.reduceBEq, Nat.reduceAdd, ww] | (refine uD m1 ?_ ?_ ?_; exact tz hw; exact rfl) | (refine uD m2 ?_ ?_ ?_; exact tz hw; exact rfl) | (refine uD m3 ?_ ?_ ?_; exact tz hw; exact rfl) | (refine uD m4 ?_ ?_ ?_; exact tz hw; exact rfl) | (refine uD ho1 ?_ ?_ ?_; exact tz hw; exact rfl))
   refine S.cond rfl (fun _ => ?_) (fun hc => by simp at hc)
   (repeat first | refine uA ?_ | (refine uK ?_ ?_; focus first | omega | (intros; simp_all <;> omega)) | simp (disch := omega) only [go_sem, Nat.reduceBEq, Nat.reduceAdd, ww] | (refine uD hh ?_ ?_ ?_; exact tz hw; exact rfl))
   (refine S.done ?_; simp only [p9, p8, go_sem, Nat.reduceBEq, Nat.reduceAdd, Nat.reduceLeDiff, Int.reduceToNat, Int.reducePow]; (repeat (refine ⟨?_, ?_⟩; focus first | trivial | omega | simp)); exact j3.out rfl (Imp.refl rfl) rfl)
  ·rw [if_neg h0]
   rw [show a0I (s + t) (1 - s * t) = Nm.ofQ ((s + t) / (1 - s * t)) by unfold a0I; rw [if_neg h0], show a1X (1 - s * t) = 0 by unfold a1X; rw [if_neg h0]] at m4
   have hq := a5I (Nm.ofQ ((s + t) / (1 - s * t))) ((a3i h0 (M7 hk hl) (M6 a0a kst)).mono (by decide))
   rw [Nm.r9] at hq
   unfold rq tq at *
   simp only [l6]
   generalize Nm.ofQ s = r0 at *
   generalize Nm.ofQ t = r1 at *
   generalize Nm.ofQ (s * t) = r2 at *
   generalize Nm.ofQ (s + t) = r3 at *
   generalize Nm.ofQ (1 - s * t) = r4 at *
   generalize Nm.ofQ ((s + t) / (1 - s * t)) = r5 at *
   generalize Nm.ofQ 0 = r6 at *
   generalize Nm.ofQ 1 = r7 at *
   simp only [rc, tc, sb, ints] at *
   (repeat first | refine uA ?_ | (refine uK ?_ ?_; focus first | omega | (intros; simp_all <;> omega)) | simp (disch := omega) only [go_sem, Nat.reduceBEq, Nat.reduceAdd, ww] | (refine uD hf ?_ ?_ ?_; exact tz hw; exact rfl) | (refine uD hg ?_ ?_ ?_; exact tz hw; exact rfl))
   refine S.cond rfl (fun hc => by simp at hc) (fun _ => ?_)
   (repeat first | refine uA ?_ | (refine uK ?_ ?_; focus first | omega | (intros; simp_all <;> omega)) | simp (disch := omega) only [go_sem, Nat.reduceBEq, Nat.reduceAdd, ww])
   refine S.cond rfl (fun hc => by simp at hc) (fun _ => ?_)
   (repeat first | refine uA ?_ | (refine uK ?_ ?_; focus first | omega | (intros; simp_all <;> omega)) | simp (disch := omega) only [go_sem, Nat.reduceBEq, Nat.reduceAdd, ww])
   refine S.cond rfl (fun hc => by simp at hc) (fun _ => ?_)
   (repeat first | refine uA ?_ | (refine uK ?_ ?_; focus first | omega | (intros; simp_all <;> omega)) | simp (disch := omega) only [go_sem, Nat.reduceBEq, Nat.reduceAdd, ww] | (refine uD m1 ?_ ?_ ?_; exact tz hw; exact rfl) | (refine uD m2 ?_ ?_ ?_; exact tz hw; exact rfl) | (refine uD m3 ?_ ?_ ?_; exact tz hw; exact rfl) | (refine uD m4 ?_ ?_ ?_; exact tz hw; exact rfl) | (refine uD ho1 ?_ ?_ ?_; exact tz hw; exact rfl))
   refine S.cond rfl (fun hc => by simp at hc) (fun _ => ?_)
   (repeat first | refine uA ?_ | (refine uK ?_ ?_; focus first | omega | (intros; simp_all <;> omega)) | simp (disch := omega) only [go_sem, Nat.reduceBEq, Nat.reduceAdd, ww] | (refine uD hq ?_ ?_ ?_; exact tz hw; exact rfl))
   (refine S.done ?_; simp only [p9, p8, go_sem, Nat.reduceBEq, Nat.reduceAdd, Nat.reduceLeDiff, Int.reduceToNat, Int.reducePow]; (repeat (refine ⟨?_, ?_⟩; focus first | trivial | omega | simp)); exact j3.out rfl (Imp.refl rfl) rfl)
 ·simp only [a2x, Bool.and_false, Bool.and_true, c3u, if_false, if_true]
  by_cases h0 : s = 0
  ·rw [if_pos h0] at o1 ⊢
   unfold rq tq at *
   simp only [l6]
   generalize Nm.ofQ s = r0 at *
   generalize Nm.ofQ t = r1 at *
   generalize Nm.ofQ (s * t) = r2 at *
   generalize Nm.ofQ (s + t) = r3 at *
   generalize Nm.ofQ (1 - s * t) = r4 at *
   generalize Nm.ofQ 0 = r5 at *
   generalize Nm.ofQ 1 = r6 at *
   simp only [rc, tc, sb, ints] at *
   (repeat first | refine uA ?_ | (refine uK ?_ ?_; focus first | omega | (intros; simp_all <;> omega)) | simp (disch := omega) only [go_sem, Nat.reduceBEq, Nat.reduceAdd, ww] | (refine uD hf ?_ ?_ ?_; exact tz hw; exact rfl) | (refine uD hg ?_ ?_ ?_; exact tz hw; exact rfl))
   refine S.cond rfl (fun hc => by simp at hc) (fun _ => ?_)
   (repeat first | refine uA ?_ | (refine uK ?_ ?_; focus first | omega | (intros; simp_all <;> omega)) | simp (disch := omega) only [go_sem, Nat.reduceBEq, Nat.reduceAdd, ww])
   refine S.cond rfl (fun hc => by simp at hc) (fun _ => ?_)
   (repeat first | refine uA ?_ | (refine uK ?_ ?_; focus first | omega | (intros; simp_all <;> omega)) | simp (disch := omega) only [go_sem, Nat.reduceBEq, Nat.reduceAdd, ww])
   refine S.cond rfl (fun _ => ?_) (fun hc => by simp at hc)
   (repeat first | refine uA ?_ | (refine uK ?_ ?_; focus first | omega | (intros; simp_all <;> omega)) | simp (disch := omega) only [go_sem, Nat.reduceBEq, Nat.reduceAdd, ww] | (refine uD o1 ?_ ?_ ?_; exact tz hw; exact rfl))
   (refine S.done ?_; simp only [p9, p8, go_sem, Nat.reduceBEq, Nat.reduceAdd, Nat.reduceLeDiff, Int.reduceToNat, Int.reducePow]; (repeat (refine ⟨?_, ?_⟩; focus first | trivial | omega | simp)); exact j3.out rfl (Imp.refl rfl) rfl)
  ·rw [if_neg h0] at o1 ⊢
   unfold rq tq at *
   simp only [l6]
   generalize Nm.ofQ s = r0 at *
   generalize Nm.ofQ t = r1 at *
   generalize Nm.ofQ (s * t) = r2 at *
   generalize Nm.ofQ (s + t) = r3 at *
   generalize Nm.ofQ (1 - s * t) = r4 at *
   generalize Nm.ofQ (-1 / s) = r5 at *
   generalize Nm.ofQ 0 = r6 at *
   generalize Nm.ofQ 1 = r7 at *
   simp only [rc, tc, sb, ints] at *
   (repeat first | refine uA ?_ | (refine uK ?_ ?_; focus first | omega | (intros; simp_all <;> omega)) | simp (disch := omega) only [go_sem, Nat.reduceBEq, Nat.reduceAdd, ww] | (refine uD hf ?_ ?_ ?_; exact tz hw; exact rfl) | (refine uD hg ?_ ?_ ?_; exact tz hw; exact rfl))
   refine S.cond rfl (fun hc => by simp at hc) (fun _ => ?_)
   (repeat first | refine uA ?_ | (refine uK ?_ ?_; focus first | omega | (intros; simp_all <;> omega)) | simp (disch := omega) only [go_sem, Nat.reduceBEq, Nat.reduceAdd, ww])
   refine S.cond rfl (fun hc => by simp at hc) (fun _ => ?_)
   (repeat first | refine uA ?_ | (refine uK ?_ ?_; focus first | omega | (intros; simp_all <;> omega)) | simp (disch := omega) only [go_sem, Nat.reduceBEq, Nat.reduceAdd, ww])
   refine S.cond rfl (fun _ => ?_) (fun hc => by simp at hc)
   (repeat first | refine uA ?_ | (refine uK ?_ ?_; focus first | omega | (intros; simp_all <;> omega)) | simp (disch := omega) only [go_sem, Nat.reduceBEq, Nat.reduceAdd, ww] | (refine uD o1 ?_ ?_ ?_; exact tz hw; exact rfl))
   (refine S.done ?_; simp only [p9, p8, go_sem, Nat.reduceBEq, Nat.reduceAdd, Nat.reduceLeDiff, Int.reduceToNat, Int.reducePow]; (repeat (refine ⟨?_, ?_⟩; focus first | trivial | omega | simp)); exact j3.out rfl (Imp.refl rfl) rfl)
 ·simp only [a2x, Bool.and_false, Bool.and_true, c3u, if_false, if_true]
  by_cases h0 : t = 0
  ·rw [if_pos h0] at o2 ⊢
   unfold rq tq at *
   simp only [l6]
   generalize Nm.ofQ s = r0 at *
   generalize Nm.ofQ t = r1 at *
   generalize Nm.ofQ (s * t) = r2 at *
   generalize Nm.ofQ (s + t) = r3 at *
   generalize Nm.ofQ (1 - s * t) = r4 at *
   generalize Nm.ofQ 0 = r5 at *
   generalize Nm.ofQ 1 = r6 at *
   simp only [rc, tc, sb, ints] at *
   (repeat first | refine uA ?_ | (refine uK ?_ ?_; focus first | omega | (intros; simp_all <;> omega)) | simp (disch := omega) only [go_sem, Nat.reduceBEq, Nat.reduceAdd, ww] | (refine uD hf ?_ ?_ ?_; exact tz hw; exact rfl) | (refine uD hg ?_ ?_ ?_; exact tz hw; exact rfl))
   refine S.cond rfl (fun hc => by simp at hc) (fun _ => ?_)
   (repeat first | refine uA ?_ | (refine uK ?_ ?_; focus first | omega | (intros; simp_all <;> omega)) | simp (disch := omega) only [go_sem, Nat.reduceBEq, Nat.reduceAdd, ww])
   refine S.cond rfl (fun _ => ?_) (fun hc => by simp at hc)
   (repeat first | refine uA ?_ | (refine uK ?_ ?_; focus first | omega | (intros; simp_all <;> omega)) | simp (disch := omega) only [go_sem, Nat.reduceBEq, Nat.reduceAdd, ww] | (refine uD o2 ?_ ?_ ?_; exact tz hw; exact rfl))
   (refine S.done ?_; simp only [p9, p8, go_sem, Nat.reduceBEq, Nat.reduceAdd, Nat.reduceLeDiff, Int.reduceToNat, Int.reducePow]; (repeat (refine ⟨?_, ?_⟩; focus first | trivial | omega | simp)); exact j3.out rfl (Imp.refl rfl) rfl)
  ·rw [if_neg h0] at o2 ⊢
   unfold rq tq at *
   simp only [l6]
   generalize Nm.ofQ s = r0 at *
   generalize Nm.ofQ t = r1 at *
   generalize Nm.ofQ (s * t) = r2 at *
   generalize Nm.ofQ (s + t) = r3 at *
   generalize Nm.ofQ (1 - s * t) = r4 at *
   generalize Nm.ofQ (-1 / t) = r5 at *
   generalize Nm.ofQ 0 = r6 at *
   generalize Nm.ofQ 1 = r7 at *
   simp only [rc, tc, sb, ints] at *
   (repeat first | refine uA ?_ | (refine uK ?_ ?_; focus first | omega | (intros; simp_all <;> omega)) | simp (disch := omega) only [go_sem, Nat.reduceBEq, Nat.reduceAdd, ww] | (refine uD hf ?_ ?_ ?_; exact tz hw; exact rfl) | (refine uD hg ?_ ?_ ?_; exact tz hw; exact rfl))
   refine S.cond rfl (fun hc => by simp at hc) (fun _ => ?_)
   (repeat first | refine uA ?_ | (refine uK ?_ ?_; focus first | omega | (intros; simp_all <;> omega)) | simp (disch := omega) only [go_sem, Nat.reduceBEq, Nat.reduceAdd, ww])
   refine S.cond rfl (fun _ => ?_) (fun hc => by simp at hc)
   (repeat first | refine uA ?_ | (refine uK ?_ ?_; focus first | omega | (intros; simp_all <;> omega)) | simp (disch := omega) only [go_sem, Nat.reduceBEq, Nat.reduceAdd, ww] | (refine uD o2 ?_ ?_ ?_; exact tz hw; exact rfl))
   (refine S.done ?_; simp only [p9, p8, go_sem, Nat.reduceBEq, Nat.reduceAdd, Nat.reduceLeDiff, Int.reduceToNat, Int.reducePow]; (repeat (refine ⟨?_, ?_⟩; focus first | trivial | omega | simp)); exact j3.out rfl (Imp.refl rfl) rfl)
 ·simp only [a2x, Bool.and_true, if_true]
  unfold rq tq at *
  simp only [l6]
  generalize Nm.ofQ s = r0 at *
  generalize Nm.ofQ t = r1 at *
  generalize Nm.ofQ (s * t) = r2 at *
  generalize Nm.ofQ (s + t) = r3 at *
  generalize Nm.ofQ (1 - s * t) = r4 at *
  generalize Nm.ofQ 0 = r5 at *
  generalize Nm.ofQ 1 = r6 at *
  simp only [rc, tc, sb, ints] at *
  (repeat first | refine uA ?_ | (refine uK ?_ ?_; focus first | omega | (intros; simp_all <;> omega)) | simp (disch := omega) only [go_sem, Nat.reduceBEq, Nat.reduceAdd, ww] | (refine uD hf ?_ ?_ ?_; exact tz hw; exact rfl) | (refine uD hg ?_ ?_ ?_; exact tz hw; exact rfl))
  refine S.cond rfl (fun _ => ?_) (fun hc => by simp at hc)
  (repeat first | refine uA ?_ | (refine uK ?_ ?_; focus first | omega | (intros; simp_all <;> omega)) | simp (disch := omega) only [go_sem, Nat.reduceBEq, Nat.reduceAdd, ww] | (refine uD ho0 ?_ ?_ ?_; exact tz hw; exact rfl) | (refine uD hz ?_ ?_ ?_; exact tz hw; exact rfl))
  (refine S.done ?_; simp only [p9, p8, go_sem, Nat.reduceBEq, Nat.reduceAdd, Nat.reduceLeDiff, Int.reduceToNat, Int.reducePow]; (repeat (refine ⟨?_, ?_⟩; focus first | trivial | omega | simp)); exact j3.out rfl (Imp.refl rfl) rfl)
structure Ast where
 q : List Nm.Rt
 v : List Nm.Rt
 power : Bool
 holds : Int
structure Stt where
 tick : Int
 arms : List Ast
 parts : List Fr
 people : List Vt
 gates : List Bool
def rts (l : List Nm.Rt) : C := .sl 3 (l.map rcs)
def Ast.enc (x : Ast) : List C := [rts x.q, rts x.v, .v (.bool x.power), ints x.holds]
def Ast.c (x : Ast) : C := .agg x.enc
def R5 (l : List Ast) : C := .sl 4 (l.map Ast.enc)
def frs (l : List Fr) : C := .sl 10 (l.map Fr.enc)
def bls (l : List Bool) : C := .sl 1 (l.map fun b => [.v (.bool b)])
def Stt.enc (s : Stt) : List C := [ints s.tick, R5 s.arms, frs s.parts, vts s.people, bls s.gates]
def Stt.c (s : Stt) : C := .agg s.enc
def Rbs (k : Nat) (l : List Nm.Rt) : Prop := l.length <= k /\ ∀ a ∈ l, Rb k a
def Asb (k : Nat) (x : Ast) : Prop := Rbs k x.q /\ Rbs k x.v
structure Stb (k : Nat) (s : Stt) : Prop where
 arms : s.arms.length <= k /\ ∀ x ∈ s.arms, Asb k x
 parts : s.parts.length <= k /\ ∀ x ∈ s.parts, Fb k x
 people : Vbs k s.people
 gates : s.gates.length <= k
def w9 (q : Rat) : Rat := if q.num < 0 then -q else q
def Y9 (x : Lk × Nm.Rt) : Int := if 0 < Nm.z8 (w9 (Nm.d9 x.2)) (Nm.d9 x.1.speed) then 1 else 0
def F9 (a : Nm.Rt) : Bool := decide a.H8
def Q9 (a : Am) (x : Ast) (parts : Nat) : Int :=
 if (x.q.all F9 && x.v.all F9) = false then 3 else
 if a0n a x.q ≠ 0 then a0n a x.q else
 if x.v.length ≠ a.links.length \/ x.holds < -1 \/ (parts : Int) <= x.holds then 1 else
 H7 Y9 (a.links.zip x.v)
def a7t (h : List Int) (n : Int) : List Int := if h.contains n then h else h ++ [n]
def hdE (h : List Int) : List (Value × Value) := h.map fun n => (.int .i64 n, .bool true)
def K3 (parts : Nat) (h : List Int) (x : Am × Ast) : Int × List Int :=
 if Q9 x.1 x.2 parts ≠ 0 then (Q9 x.1 x.2 parts, h) else
 if (decide (0 <= x.2.holds) && h.contains x.2.holds) = true then (10, h) else (0, a7t h x.2.holds)
def a1d (f : Fr) : Bool := (F9 f.x && F9 f.y && F9 f.t) && !a4C f.half f.t
def a6e (v : Vt) : Bool := F9 v.x && F9 v.y
def I5 (w : Wk) (s : Stt) : Int :=
 if X7 w ≠ 0 then X7 w else
 if 4 < s.people.length then 2 else
 if s.tick < 0 \/ 2000 < s.tick \/ s.arms.length ≠ w.arms.length \/ s.parts.length ≠ w.parts.length \/ s.gates.length ≠ w.gates.length then 1 else
 if (u6 (K3 w.parts.length) [] (w.arms.zip s.arms)).1 ≠ 0 then (u6 (K3 w.parts.length) [] (w.arms.zip s.arms)).1 else
 if s.parts.all a1d && s.people.all a6e then 0 else 3
theorem b9L (h : List Int) (n : Int) : a0Z (.int .i64 n) (hdE h) = if h.contains n then some (.bool true) else none := by
 induction h with
 | nil => rfl
 | cons a h ih =>
  simp only [hdE, c3e, a0Z, a1b]
  simp only [hdE] at ih
  rw [ih, List.contains_cons]
  by_cases e : n = a
  ·subst e; simp
  ·have e2 : (n == a) = false := by simpa using e
   simp only [e2, Bool.false_or, c3u, if_false]
theorem c1g (h : List Int) (n : Int) : a0W (.int .i64 n) (.bool true) (hdE h) = hdE (a7t h n) := by
 induction h with
 | nil => rfl
 | cons a h ih =>
  unfold a7t at ih ⊢
  rw [List.contains_cons]
  by_cases e : n = a
  ·subst e
   simp [hdE, a0W, a1b]
  ·have e2 : (n == a) = false := by simpa using e
   simp only [hdE, c3e, a0W, a1b, e2, Bool.false_or, c3u, if_false]
   simp only [hdE] at ih
   rw [ih]
   split <;> simp [hdE]
def a0w (l : Lk) : Nm.Rt := Nm.ofQ (O4 (Nm.d9 l.low) (J7 (Nm.d9 l.high) 0))
def O5 (a : Am) : Ast := ⟨a.links.map a0w, a.links.map fun _ => Nm.ofQ 0, false, -1⟩
def a2T : Fr := ⟨Nm.ofQ 0, Nm.ofQ 0, false, Nm.ofQ 0⟩
def a6G (w : Wk) (i : Nat) : Fr := if h : i < w.slots.length then (w.slots[i]).frame else a2T
def D9 (w : Wk) : Stt := ⟨0, w.arms.map O5, (List.range w.parts.length).map (a6G w), [], List.replicate w.gates.length false⟩
def nx (l : List Int) (n : Int) : Int := l.headD 0 % n
abbrev Q (n d : Int) : Nm.Rt := Nm.ofQ (mkRat n d.toNat)
def atV (x y : Int) : Vt := ⟨Q x 4, Q y 4⟩
def a4N (x y u v : Int) : List Vt := [atV x y, atV u y, atV u v, atV x v]
def a1D (w h k s : Int) : List Vt :=
 if k = 0 then [atV (-w) (-h), atV w (-h), atV w h, atV (-w) h] else
 if k = 1 then [atV (-w) (-h), atV w (-h), atV (s - w) h] else
 if k = 2 then [atV (-w - 1) (-h - 1), atV w (-h - 1), atV (w + 1) (-h), atV (w + 1) h, atV (-w - 1) h] else
 [atV (-w) 0, atV 0 (-h), atV w 0, atV 0 h]
def a1u (l : List Int) : List Vt × List Int :=
 let w := 1 + nx l 6
 let h := 1 + nx (l.drop 1) 6
 let k := nx (l.drop 2) 4
 if k = 1 then (a1D w h k (nx (l.drop 3) (2 * w + 1)), l.drop 4) else (a1D w h k 0, l.drop 3)
def a4L (a lo hi sp br tri : Int) : Lk :=
 ⟨Q (4 + 2 * a) 4, Q (-1 - lo) 3, Q (1 + hi) 3, Q 1 (4 + sp), Q 1 (10 + br), if tri = 2 then [atV (-1) (-1), atV (4 + 2 * a + 1) 0, atV (-1) 1] else a4N (-1) (-1) (4 + 2 * a + 1) 1⟩
def b1K (l : List Int) : Lk := a4L (nx l 4) (nx (l.drop 1) 6) (nx (l.drop 2) 6) (nx (l.drop 3) 8) (nx (l.drop 4) 20) (nx (l.drop 5) 3)
def a1j : Nat -> List Int -> List Lk
 | 0, _ => []
 | n + 1, l => b1K l :: a1j n (l.drop 6)
def a2Z (k : Int) : Int := if k = 0 then 0 else if k = 2 then -1 else 1
def a4f (n : Nat) : List UInt8 := [[111, 110, 101], [116, 119, 111], [116, 104, 114, 101, 101], [102, 111, 117, 114]].getD n []
def a3G (l : List Int) : Nat := (1 + nx (l.drop 2) 3).toNat
def b0f (l : List Int) (n : Nat) : Am := ⟨a4f n, ⟨Q (40 * n) 4, Q 0 4, false, Q (a2Z (nx l 4)) (1 + nx (l.drop 1) 3)⟩, a1j (a3G l) (l.drop 3)⟩
def a9D (l : List Int) : List Int := l.drop (3 + 6 * a3G l)
def a0p : Nat -> Nat -> List Int -> List Am
 | 0, _, _ => []
 | k + 1, n, l => b0f l n :: a0p k (n + 1) (a9D l)
def a5N : Nat -> List Int -> List Int
 | 0, l => l
 | k + 1, l => a5N k (a9D l)
def a0Y (l : List Int) : Int := if nx (l.drop 2) 2 = 1 then -(12 + nx (l.drop 1) 30) - 6 else 12 + nx (l.drop 1) 30
def b1L (l : List Int) : List Vt :=
 a4N (nx l 80 - 30) (a0Y l) (nx l 80 - 30 + 1 + nx (l.drop 3) 20) (a0Y l + 1 + nx (l.drop 4) 5)
def a1H : Nat -> List Int -> List (List Vt)
 | 0, _ => []
 | k + 1, l => b1L l :: a1H k (l.drop 5)
def a3C (n : Nat) : List UInt8 := [[98, 111, 108, 116], [110, 117, 116]].getD n []
def b9A (l : List Int) (n : Nat) : Pt := ⟨a3C n, (a1u l).1, ⟨Q 0 4, Q 0 4, false, Q 0 1⟩⟩
def a0t : Nat -> Nat -> List Int -> List Pt
 | 0, _, _ => []
 | k + 1, n, l => b9A l n :: a0t k (n + 1) (a1u l).2
def a4k : Nat -> List Int -> List Int
 | 0, l => l
 | k + 1, l => a4k k (a1u l).2
def a4E (n : Nat) : List UInt8 := [[104, 101, 114, 101], [116, 104, 101, 114, 101], [98, 101, 121, 111, 110, 100]].getD n []
def b5h (l : List Int) (n : Nat) : Sl := ⟨a4E n, ⟨Q (nx l 40 - 20) 4, Q (nx (l.drop 1) 24 - 12) 4, false, Q (nx (l.drop 2) 5 - 2) 2⟩, Q 1 (8 + nx (l.drop 3) 20)⟩
def a0z : Nat -> Nat -> List Int -> List Sl
 | 0, _, _ => []
 | k + 1, n, l => b5h l n :: a0z k (n + 1) (l.drop 4)
def b5x (l : List Int) : Gt := ⟨[100, 111, 111, 114], atV (nx l 60 - 30) (nx (l.drop 1) 60 - 30), atV (nx l 60 - 30 + nx (l.drop 2) 12) (nx (l.drop 1) 60 - 30 + nx (l.drop 3) 12)⟩
def a0A : Nat -> List Int -> List Gt
 | 0, _ => []
 | k + 1, l => b5x l :: a0A k (l.drop 4)
def nA (l : List Int) : Nat := (1 + nx l 2).toNat
def l1 (l : List Int) : List Int := a5N (nA l) (l.drop 1)
def nW (l : List Int) : Nat := (nx (l1 l) 3).toNat
def l2 (l : List Int) : List Int := (l1 l).drop (1 + 5 * nW l)
def nP (l : List Int) : Nat := (nx (l2 l) 3).toNat
def l3 (l : List Int) : List Int := a4k (nP l) ((l2 l).drop 1)
def nS (l : List Int) : Nat := nP l + (nx (l3 l) 2).toNat
def l4 (l : List Int) : List Int := (l3 l).drop (1 + 4 * nS l)
def nG (l : List Int) : Nat := (nx (l4 l) 2).toNat
def l5 (l : List Int) : List Int := (l4 l).drop (1 + 4 * nG l)
def D6 (l : List Int) : Wk :=
 ⟨a0p (nA l) 0 (l.drop 1), a1H (nW l) ((l1 l).drop 1), a0t (nP l) 0 ((l2 l).drop 1), a0z (nS l) 0 ((l3 l).drop 1), a0A (nG l) ((l4 l).drop 1), Q (nx (l5 l) 4) 8⟩
theorem l9 (l : List Int) {n : Int} (h : 0 < n) : 0 <= nx l n := Int.emod_nonneg _ (by omega)
theorem D5 (l : List Int) {n : Int} (h : 0 < n) : nx l n < n := Int.emod_lt_of_pos _ h
set_option maxRecDepth 100000
theorem a8b (n d : Int) (hd : 1 <= d) : ∃ g : Nat, 0 < g /\ (∃ k : Int, n = g * k /\ (mkRat n d.toNat).num = k) /\ (mkRat n d.toNat).den <= d.toNat := by
 have hd0 : d.toNat ≠ 0 := by omega
 rw [Rat.num_mkRat, Rat.den_mkRat, if_neg hd0, if_neg hd0]
 have hg : 0 < Nat.gcd d.toNat n.natAbs := Nat.gcd_pos_of_pos_left _ (by omega)
 refine ⟨Nat.gcd d.toNat n.natAbs, hg, ?_, Nat.div_le_self _ _⟩
 have hdv : ((Nat.gcd d.toNat n.natAbs : Nat) : Int) ∣ n := Int.ofNat_dvd_left.2 (Nat.gcd_dvd_right ..)
 obtain ⟨k, hk⟩ := hdv
 refine ⟨k, hk, ?_⟩
 conv => lhs; arg 1; rw [hk]
 exact Int.mul_ediv_cancel_left _ (by omega)
theorem b8x (q : Rat) : y9 q = q.num.sign := by
 unfold y9
 by_cases h : q.num = 0
 ·rw [if_pos h, h]; rfl
 ·rw [if_neg h]
  by_cases h2 : q.num < 0
  ·rw [if_pos h2, Int.sign_eq_neg_one_of_neg h2]
  ·rw [if_neg h2, Int.sign_eq_one_of_pos (by omega)]
theorem a5e (n d : Int) (hd : 1 <= d) : y9 (mkRat n d.toNat) = n.sign := by
 obtain ⟨g, hg, ⟨k, h1, h2⟩, _⟩ := a8b n d hd
 rw [b8x, h2, h1, Int.sign_mul, Int.sign_eq_one_of_pos (show (0 : Int) < (g : Int) by omega), Int.one_mul]
theorem U1 (n d : Int) (hn : -1000000 <= n /\ n <= 1000000) (hd : 1 <= d /\ d <= 1000) : j4 (Q n d) = true := by
 obtain ⟨g, hg, ⟨k, h1, h2⟩, h3⟩ := a8b n d hd.1
 have hk : k.natAbs <= 1000000 := by
  have : n.natAbs = g * k.natAbs := by rw [h1, Int.natAbs_mul]; simp
  have : k.natAbs <= g * k.natAbs := Nat.le_mul_of_pos_left _ hg
  omega
 unfold j4
 simp only [c2S, c2U]
 have e1 : (Q n d).num = Nm.enc k.natAbs := by unfold Q Nm.ofQ; rw [h2]
 have e2 : (Q n d).den = Nm.enc (mkRat n d.toNat).den := rfl
 rw [e1, e2, Nm.I6, Nm.I6]
 exact ⟨⟨⟨⟨Nm.F4 (by omega), Nm.F4 (by omega)⟩, Nm.Y2 _⟩, hk⟩, by omega⟩
theorem a4r (n d : Int) : (Q n d).H8 := Nm.Y2 _
theorem a2r (n d : Int) : Nm.d9 (Q n d) = mkRat n d.toNat := Nm.r9 _
theorem a5o (a b : Int) {n : Nat} (hn : n ≠ 0) : mkRat a n - mkRat b n = mkRat (a - b) n := by
 rw [Rat.sub_eq_add_neg, Rat.neg_mkRat, Rat.mkRat_add_mkRat _ _ hn hn, <- Int.add_mul, Rat.mkRat_mul_right hn]
 rw [Int.sub_eq_add_neg]
theorem mk_pos (a : Int) {n : Nat} (hn : n ≠ 0) : 0 < mkRat a n <-> 0 < a := by
 have h := a5e a (n : Int) (by omega)
 rw [c2X] at h
 have hnp : 0 < mkRat a n <-> 0 < (mkRat a n).num := by
  rw [<- Rat.not_le, <- Int.not_le]
  refine not_congr ?_
  rw [Rat.le_iff]
  simp
 rw [hnp]
 unfold y9 at h
 rcases Int.lt_trichotomy a 0 with h1 | h1 | h1
 ·rw [Int.sign_eq_neg_one_of_neg h1] at h
  split at h
  ·cases h
  ·split at h
   ·omega
   ·cases h
 ·subst h1
  simp at h ⊢
 ·rw [Int.sign_eq_one_of_pos h1] at h
  split at h
  ·cases h
  ·split at h
   ·cases h
   ·omega
theorem b6j {a b : Int} {n : Nat} (hn : n ≠ 0) (h : a < b) : Nm.z8 (mkRat a n) (mkRat b n) = -1 := by
 unfold Nm.z8
 rw [if_pos]
 have h1 := (mk_pos (b - a) hn).2 (by omega)
 rw [<- a5o b a hn] at h1
 grind
theorem b6Q {a b : Int} {n : Nat} (hn : n ≠ 0) (h : a <= b) : Nm.z8 (mkRat a n) (mkRat b n) <= 0 := by
 rcases Int.lt_or_eq_of_le h with h1 | h1
 ·rw [b6j hn h1]; decide
 ·subst h1
  unfold Nm.z8
  rw [if_neg (Rat.lt_irrefl), if_pos rfl]
  exact Int.le_refl _
def a6t (p q r : Int × Int) : Int := (q.1 - p.1) * (r.2 - p.2) - (q.2 - p.2) * (r.1 - p.1)
theorem left_at (p q r : Int × Int) : a7k (atV p.1 p.2) (atV q.1 q.2) (atV r.1 r.2) = (a6t p q r).sign := by
 unfold a7k atV a6t
 simp only [a2r]
 rw [show Int.toNat 4 = 4 from rfl, a5o _ _ (by decide), a5o _ _ (by decide), a5o _ _ (by decide), a5o _ _ (by decide), Rat.mkRat_mul_mkRat, Rat.mkRat_mul_mkRat, a5o _ _ (by decide)]
 exact a5e _ 16 (by decide)
def a7r (l : List (Int × Int)) : Bool := (List.range l.length).all fun i => (List.range l.length).all fun k => decide (k < 2) || decide (0 < a6t (l.getD i (0, 0)) (l.getD ((i + 1) % l.length) (0, 0)) (l.getD ((i + k) % l.length) (0, 0)))
def a4d (l : List (Int × Int)) : List Vt := l.map fun p => atV p.1 p.2
theorem a8r (l : List (Int × Int)) (i : Nat) (h : i < l.length) : (a4d l).getD i Vt.zero = atV (l.getD i (0, 0)).1 (l.getD i (0, 0)).2 := by
 rw [c2Y, c2Y, a4d, c3i, c2M h]
 rfl
theorem c0v (l : List (Int × Int)) (h3 : 3 <= l.length) (h8 : l.length <= 8) (h : a7r l = true) : U5 (a4d l) 8 = 0 := by
 have hl : (a4d l).length = l.length := by simp [a4d]
 unfold U5
 rw [if_neg (by omega), if_neg (by omega), if_pos]
 rw [hl, <- h]
 unfold a7r
 have key : ∀ i, i < l.length -> ∀ k, decide (0 < a2k (a4d l) i k) = decide (0 < a6t (l.getD i (0, 0)) (l.getD ((i + 1) % l.length) (0, 0)) (l.getD ((i + k) % l.length) (0, 0))) := by
  intro i hi k
  unfold a2k
  rw [hl, a8r l i hi, a8r l _ (Nat.mod_lt _ (by omega)), a8r l _ (Nat.mod_lt _ (by omega)), left_at]
  refine decide_eq_decide.2 ?_
  exact Int.sign_pos_iff
 rw [Bool.eq_iff_iff, List.all_eq_true, List.all_eq_true]
 refine forall_congr' fun i => ?_
 refine imp_congr_right fun hi => ?_
 rw [List.all_eq_true, List.all_eq_true]
 refine forall_congr' fun k => ?_
 refine imp_congr_right fun hk => ?_
 rw [key i (List.mem_range.1 hi) k]
theorem b7D (x y u v : Int) (h1 : x < u) (h2 : y < v) : a7r [(x, y), (u, y), (u, v), (x, v)] = true := by
 have hp : 0 < (u - x) * (v - y) := Int.mul_pos (by omega) (by omega)
 unfold a7r
 simp only [c3g, List.length_nil, show List.range (0 + 1 + 1 + 1 + 1) = [0, 1, 2, 3] from rfl, List.all_cons, List.all_nil, Bool.and_true, c2S, c3C, c2U]
 refine ⟨⟨.inl (by decide), .inl (by decide), .inr ?_, .inr ?_⟩, ⟨.inl (by decide), .inl (by decide), .inr ?_, .inr ?_⟩, ⟨.inl (by decide), .inl (by decide), .inr ?_, .inr ?_⟩, ⟨.inl (by decide), .inl (by decide), .inr ?_, .inr ?_⟩⟩ <;>
 ·simp [a6t]
  grind
theorem a8j (l : List (Int × Int)) (h3 : 3 <= l.length) (h8 : l.length <= 8) (h : a7r l = true) (hb : ∀ p ∈ l, (-1000000 <= p.1 /\ p.1 <= 1000000) /\ -1000000 <= p.2 /\ p.2 <= 1000000) : K5 (a4d l) = 0 /\ (a4d l).all (fun v => j4 v.x && j4 v.y) = true := by
 have hs : ∀ v ∈ a4d l, j4 v.x = true /\ j4 v.y = true /\ v.x.H8 /\ v.y.H8 := by
  intro v hv
  obtain ⟨p, hp, rfl⟩ := List.mem_map.1 hv
  have := hb p hp
  exact ⟨U1 _ _ this.1 (by decide), U1 _ _ this.2 (by decide), a4r _ _, a4r _ _⟩
 refine ⟨?_, ?_⟩
 ·unfold K5
  rw [c0v l h3 h8 h, if_neg (by decide), if_pos]
  rw [List.all_eq_true]
  intro v hv
  obtain ⟨a1, a2, a3, a4⟩ := hs v hv
  unfold okV
  simp [a1, a2, a3, a4]
 ·rw [List.all_eq_true]
  intro v hv
  obtain ⟨a1, a2, a3, a4⟩ := hs v hv
  simp [a1, a2]
def a2c (w h k s : Int) : List (Int × Int) :=
 if k = 0 then [(-w, -h), (w, -h), (w, h), (-w, h)] else
 if k = 1 then [(-w, -h), (w, -h), (s - w, h)] else
 if k = 2 then [(-w - 1, -h - 1), (w, -h - 1), (w + 1, -h), (w + 1, h), (-w - 1, h)] else
 [(-w, 0), (0, -h), (w, 0), (0, h)]
theorem b7t (w h k s : Int) : a1D w h k s = a4d (a2c w h k s) := by
 unfold a1D a2c
 split
 ·rfl
 split
 ·rfl
 split <;> rfl
theorem b5Z : ∀ w h : Fin 6, ∀ k : Fin 4, ∀ s : Fin 13, (s : Nat) <= 2 * (w + 1 : Nat) -> a7r (a2c ((w : Nat) + 1 : Int) ((h : Nat) + 1 : Int) ((k : Nat) : Int) ((s : Nat) : Int)) = true := by decide +kernel
theorem b7W (w h k s : Int) : 3 <= (a2c w h k s).length /\ (a2c w h k s).length <= 8 := by
 unfold a2c
 split
 ·simp
 split
 ·simp
 split <;> simp
theorem b4V {w h k s : Int} (hw : 1 <= w /\ w <= 6) (hh : 1 <= h /\ h <= 6) (hs : 0 <= s /\ s <= 12) : ∀ p ∈ a2c w h k s, (-1000000 <= p.1 /\ p.1 <= 1000000) /\ -1000000 <= p.2 /\ p.2 <= 1000000 := by
 unfold a2c
 intro p hp
 split at hp
 ·simp at hp; rcases hp with rfl | rfl | rfl | rfl <;> simp only <;> omega
 split at hp
 ·simp at hp; rcases hp with rfl | rfl | rfl <;> simp only <;> omega
 split at hp
 ·simp at hp; rcases hp with rfl | rfl | rfl | rfl | rfl <;> simp only <;> omega
 ·simp at hp; rcases hp with rfl | rfl | rfl | rfl <;> simp only <;> omega
theorem b2L {w h k s : Int} (hw : 1 <= w /\ w <= 6) (hh : 1 <= h /\ h <= 6) (hk : 0 <= k /\ k <= 3) (hs : 0 <= s /\ s <= 2 * w) : K5 (a1D w h k s) = 0 /\ (a1D w h k s).length <= 8 := by
 have hc := b5Z ⟨(w - 1).toNat, by omega⟩ ⟨(h - 1).toNat, by omega⟩ ⟨k.toNat, by omega⟩ ⟨s.toNat, by omega⟩ (by simp only; omega)
 simp only at hc
 rw [show (((w - 1).toNat : Nat) + 1 : Int) = w by omega, show (((h - 1).toNat : Nat) + 1 : Int) = h by omega, show ((k.toNat : Nat) : Int) = k by omega, show ((s.toNat : Nat) : Int) = s by omega] at hc
 rw [b7t]
 obtain ⟨l1, l2⟩ := b7W w h k s
 exact ⟨(a8j _ l1 l2 hc (b4V hw hh (by omega))).1, by simpa [a4d] using l2⟩
theorem b3p (l : List Int) : K5 (a1u l).1 = 0 /\ (a1u l).1.length <= 8 := by
 have b1 := l9 l (n := 6) (by decide)
 have b2 := D5 l (n := 6) (by decide)
 have b3 := l9 (l.drop 1) (n := 6) (by decide)
 have b4 := D5 (l.drop 1) (n := 6) (by decide)
 have b5 := l9 (l.drop 2) (n := 4) (by decide)
 have b6 := D5 (l.drop 2) (n := 4) (by decide)
 unfold a1u
 simp only
 split
 ·rename_i h
  have b7 := l9 (l.drop 3) (n := 2 * (1 + nx l 6) + 1) (by omega)
  have b8 := D5 (l.drop 3) (n := 2 * (1 + nx l 6) + 1) (by omega)
  exact b2L (by omega) (by omega) (by omega) (by omega)
 ·exact b2L (by omega) (by omega) (by omega) (by omega)
theorem b4P {x y u v : Int} (h1 : x < u) (h2 : y < v) (hb : -1000000 <= x /\ u <= 1000000 /\ -1000000 <= y /\ v <= 1000000) : K5 (a4N x y u v) = 0 /\ (a4N x y u v).all (fun v => j4 v.x && j4 v.y) = true :=
 a8j [(x, y), (u, y), (u, v), (x, v)] (by simp) (by simp) (b7D x y u v h1 h2) (fun p hp => by simp at hp; rcases hp with rfl | rfl | rfl | rfl <;> simp only <;> omega)
theorem a4O {l : List Vt} (h : K5 l = 0) : U5 l 8 = 0 := by
 unfold K5 at h
 split at h
 ·rename_i h1; exact absurd h h1
 ·rename_i h1; exact Classical.not_not.1 h1
theorem b9F {a lo hi sp br tri : Int} (ha : 0 <= a /\ a < 4) (h1 : 0 <= lo /\ lo < 6) (h2 : 0 <= hi /\ hi < 6) (h3 : 0 <= sp /\ sp < 8) (h4 : 0 <= br /\ br < 20) : N7 (a4L a lo hi sp br tri) = 0 := by
 have hs : ∀ n d : Int, 0 < n -> 1 <= d -> y9 (Nm.d9 (Q n d)) = 1 := fun n d hn hd => by rw [a2r, a5e _ _ hd, Int.sign_eq_one_of_pos hn]
 have hsh : K5 (a4L a lo hi sp br tri).shape = 0 /\ (a4L a lo hi sp br tri).shape.all (fun v => j4 v.x && j4 v.y) = true := by
  unfold a4L
  simp only
  split
  ·refine a8j [(-1, -1), (4 + 2 * a + 1, 0), (-1, 1)] (by simp) (by simp) ?_ (fun p hp => by simp at hp; rcases hp with rfl | rfl | rfl <;> simp only <;> omega)
   have : a = 0 \/ a = 1 \/ a = 2 \/ a = 3 := by omega
   rcases this with rfl | rfl | rfl | rfl <;> decide
  ·exact b4P (by omega) (by omega) (by omega)
 have hpe := a4O hsh.1
 unfold N7
 rw [hpe, hsh.2, if_neg, if_neg, if_neg (by decide), if_pos rfl]
 ·unfold a4L
  simp only
  rw [hs 1 (4 + sp) (by decide) (by omega), hs 1 (10 + br) (by decide) (by omega)]
  decide
 ·unfold a4L
  simp only
  rw [U1 _ _ (by omega) (by omega), U1 _ _ (by omega) (by omega), U1 _ _ (by omega) (by omega), U1 _ _ (by omega) (by omega), U1 _ _ (by omega) (by omega), hs (4 + 2 * a) 4 (by omega) (by decide), a2r, a2r, b6j (by decide) (by omega)]
  decide
theorem a8d : ∀ (n : Nat) (l : List Int), H7 N7 (a1j n l) = 0 /\ (a1j n l).length = n
 | 0, _ => ⟨rfl, rfl⟩
 | n + 1, l => by
  have h := b9F (a := nx l 4) (lo := nx (l.drop 1) 6) (hi := nx (l.drop 2) 6) (sp := nx (l.drop 3) 8) (br := nx (l.drop 4) 20) (tri := nx (l.drop 5) 3)
   ⟨l9 _ (by decide), D5 _ (by decide)⟩ ⟨l9 _ (by decide), D5 _ (by decide)⟩ ⟨l9 _ (by decide), D5 _ (by decide)⟩ ⟨l9 _ (by decide), D5 _ (by decide)⟩ ⟨l9 _ (by decide), D5 _ (by decide)⟩
  have e : N7 (b1K l) = 0 := h
  simp only [a1j, H7, c3g]
  rw [if_pos e]
  exact ⟨(a8d n _).1, by rw [(a8d n _).2]⟩
theorem b4W (k : Int) : -1 <= a2Z k /\ a2Z k <= 1 := by unfold a2Z; split; omega; split <;> omega
theorem c1D (l : List Int) (n : Nat) (hn : n <= 3) : G8 (b0f l n) = 0 := by
 have a3 := l9 (l.drop 1) (n := 3) (by decide)
 have a4 := D5 (l.drop 1) (n := 3) (by decide)
 have a5 := l9 (l.drop 2) (n := 3) (by decide)
 have a6 := D5 (l.drop 2) (n := 3) (by decide)
 have ht := b4W (nx l 4)
 obtain ⟨g1, g2⟩ := a8d (a3G l) (l.drop 3)
 have hc : a3G l = (1 + nx (l.drop 2) 3).toNat := rfl
 have hnm : a1v (a4f n) = true := by
  have : n = 0 \/ n = 1 \/ n = 2 \/ n = 3 := by omega
  rcases this with rfl | rfl | rfl | rfl <;> decide
 unfold G8 b0f
 simp only
 rw [g1, hnm, if_neg (by decide), if_neg (by rw [g2]; omega), if_neg]
 rw [g2, U1 _ _ (by omega) (by decide), U1 _ _ (by omega) (by decide), U1 _ _ (by omega) (by omega)]
 rintro (h | h | h)
 ·omega
 ·cases h
 ·cases h
theorem b2C : ∀ (l : List Am) (n : Nms), (∀ a ∈ l, G8 a = 0) -> u6 a1U n l = u6 K8 n (l.map Am.name)
 | [], _, _ => rfl
 | a :: l, n, h => by
  have h0 := h a (by simp)
  have e : a1U n a = K8 n a.name := by unfold a1U; rw [h0, if_neg (by decide)]
  simp only [u6, c3e, e]
  split
  ·exact b2C l _ fun x hx => h x (by simp [hx])
  ·rfl
theorem b0o : ∀ (l : List Pt) (n : Nms), (∀ a ∈ l, K5 a.shape = 0 /\ okF a.grasp = true) -> u6 a0F n l = u6 K8 n (l.map Pt.name)
 | [], _, _ => rfl
 | a :: l, n, h => by
  obtain ⟨h0, h1⟩ := h a (by simp)
  have e : a0F n a = K8 n a.name := by
   unfold a0F
   by_cases h2 : (K8 n a.name).1 = 0
   ·rw [if_neg (by rw [h2]; decide), h0, if_neg (by decide), h1, if_pos rfl]
    rw [<- h2]
   ·rw [if_pos h2]
  simp only [u6, c3e, e]
  split
  ·exact b0o l _ fun x hx => h x (by simp [hx])
  ·rfl
theorem b0W : ∀ (l : List Sl) (n : Nms), (∀ s ∈ l, (okF s.frame && decide s.within.H8 && j4 s.within && decide (0 < y9 (Nm.d9 s.within))) = true) -> u6 a0L n l = u6 K8 n (l.map Sl.name)
 | [], _, _ => rfl
 | a :: l, n, h => by
  have h1 := h a (by simp)
  have e : a0L n a = K8 n a.name := by
   unfold a0L
   by_cases h2 : (K8 n a.name).1 = 0
   ·rw [if_neg (by rw [h2]; decide), h1, if_pos rfl]
    rw [<- h2]
   ·rw [if_pos h2]
  simp only [u6, c3e, e]
  split
  ·exact b0W l _ fun x hx => h x (by simp [hx])
  ·rfl
theorem b0Q : ∀ (l : List Gt) (n : Nms), (∀ g ∈ l, (okV g.low && okV g.high && decide (Nm.z8 (Nm.d9 g.low.x) (Nm.d9 g.high.x) <= 0) && decide (Nm.z8 (Nm.d9 g.low.y) (Nm.d9 g.high.y) <= 0)) = true) -> u6 a0N n l = u6 K8 n (l.map Gt.name)
 | [], _, _ => rfl
 | a :: l, n, h => by
  have h1 := h a (by simp)
  have e : a0N n a = K8 n a.name := by
   unfold a0N
   by_cases h2 : (K8 n a.name).1 = 0
   ·rw [if_neg (by rw [h2]; decide), h1, if_pos rfl]
    rw [<- h2]
   ·rw [if_pos h2]
  simp only [u6, c3e, e]
  split
  ·exact b0Q l _ fun x hx => h x (by simp [hx])
  ·rfl
theorem a0D {α : Type} {f : α -> Int} : ∀ {l : List α}, (∀ x ∈ l, f x = 0) -> H7 f l = 0
 | [], _ => rfl
 | x :: l, h => by rw [H7, if_pos (h x (by simp))]; exact a0D fun y hy => h y (by simp [hy])
theorem a5z : ∀ (c n : Nat) (l : List Int), n + c <= 4 -> ∀ a ∈ a0p c n l, G8 a = 0
 | 0, _, _, _, a, ha => by cases ha
 | c + 1, n, l, h, a, ha => by
  rcases List.mem_cons.1 ha with rfl | ha
  ·exact c1D l n (by omega)
  ·exact a5z c (n + 1) _ (by omega) a ha
theorem a7F : ∀ (c n : Nat) (l : List Int), (a0p c n l).map Am.name = (List.range c).map fun i => a4f (n + i)
 | 0, _, _ => rfl
 | c + 1, n, l => by
  rw [a0p, c3e, a7F c, List.range_succ_eq_map, c3e, List.map_map]
  congr 1
  refine List.map_congr_left fun i _ => ?_
  simp only [Function.comp]
  congr 1
  omega
theorem a6I : ∀ (c n : Nat) (l : List Int), (a0p c n l).length = c
 | 0, _, _ => rfl
 | c + 1, n, l => by rw [a0p, c3g, a6I]
theorem b8k (l : List Int) : K5 (b1L l) = 0 /\ (b1L l).all (fun v => j4 v.x && j4 v.y) = true := by
 have a1 := l9 l (n := 80) (by decide)
 have a2 := D5 l (n := 80) (by decide)
 have a3 := l9 (l.drop 1) (n := 30) (by decide)
 have a4 := D5 (l.drop 1) (n := 30) (by decide)
 have a5 := l9 (l.drop 3) (n := 20) (by decide)
 have a6 := D5 (l.drop 3) (n := 20) (by decide)
 have a7 := l9 (l.drop 4) (n := 5) (by decide)
 have a8 := D5 (l.drop 4) (n := 5) (by decide)
 have hy : -1000 <= a0Y l /\ a0Y l <= 1000 := by unfold a0Y; split <;> omega
 exact b4P (by omega) (by omega) (by omega)
theorem a4z : ∀ (c : Nat) (l : List Int), (∀ x ∈ a1H c l, K5 x = 0 /\ x.all (fun v => j4 v.x && j4 v.y) = true) /\ (a1H c l).length = c
 | 0, _ => ⟨fun x hx => (by cases hx), rfl⟩
 | c + 1, l => by
  refine ⟨fun x hx => ?_, by rw [a1H, c3g, (a4z c _).2]⟩
  rcases List.mem_cons.1 hx with rfl | hx
  ·exact b8k l
  ·exact (a4z c _).1 x hx
theorem b5e {a b c d : Int} (ha : -1000000 <= a /\ a <= 1000000) (hb : 1 <= b /\ b <= 1000) (hc : -1000000 <= c /\ c <= 1000000) (hd : 1 <= d /\ d <= 1000) : okV ⟨Q a b, Q c d⟩ = true := by
 unfold okV
 simp only [U1 _ _ ha hb, U1 _ _ hc hd, decide_eq_true (a4r a b), decide_eq_true (a4r c d), Bool.and_self]
theorem b9r {a c e f : Int} (ha : -1000000 <= a /\ a <= 1000000) (hc : -1000000 <= c /\ c <= 1000000) (he : -1000000 <= e /\ e <= 1000000) (hf : 1 <= f /\ f <= 1000) : okF ⟨Q a 4, Q c 4, false, Q e f⟩ = true := by
 unfold okF a4C
 simp only [b5e ha (show (1 : Int) <= 4 /\ (4 : Int) <= 1000 by decide) hc (show (1 : Int) <= 4 /\ (4 : Int) <= 1000 by decide), U1 _ _ he hf, decide_eq_true (a4r e f), Bool.false_and, Bool.not_false, Bool.and_self]
theorem a6J : ∀ (c n : Nat) (l : List Int), (∀ p ∈ a0t c n l, (K5 p.shape = 0 /\ okF p.grasp = true) /\ p.shape.length <= 8) /\ (a0t c n l).length = c /\ (a0t c n l).map Pt.name = (List.range c).map fun i => a3C (n + i)
 | 0, _, _ => ⟨fun x hx => (by cases hx), rfl, rfl⟩
 | c + 1, n, l => by
  obtain ⟨h1, h2, h3⟩ := a6J c (n + 1) (a1u l).2
  refine ⟨fun x hx => ?_, by rw [a0t, c3g, h2], ?_⟩
  ·rcases List.mem_cons.1 hx with rfl | hx
   ·exact ⟨⟨(b3p l).1, b9r (by decide) (by decide) (by decide) (by decide)⟩, (b3p l).2⟩
   ·exact h1 x hx
  ·rw [a0t, c3e, h3, List.range_succ_eq_map, c3e, List.map_map]
   congr 1
   refine List.map_congr_left fun i _ => ?_
   simp only [Function.comp]
   congr 1
   omega
theorem a4D : ∀ (c n : Nat) (l : List Int), (∀ s ∈ a0z c n l, (okF s.frame && decide s.within.H8 && j4 s.within && decide (0 < y9 (Nm.d9 s.within))) = true) /\ (a0z c n l).length = c /\ (a0z c n l).map Sl.name = (List.range c).map fun i => a4E (n + i)
 | 0, _, _ => ⟨fun x hx => (by cases hx), rfl, rfl⟩
 | c + 1, n, l => by
  obtain ⟨h1, h2, h3⟩ := a4D c (n + 1) (l.drop 4)
  have a1 := l9 l (n := 40) (by decide)
  have a2 := D5 l (n := 40) (by decide)
  have a3 := l9 (l.drop 1) (n := 24) (by decide)
  have a4 := D5 (l.drop 1) (n := 24) (by decide)
  have a5 := l9 (l.drop 2) (n := 5) (by decide)
  have a6 := D5 (l.drop 2) (n := 5) (by decide)
  have a7 := l9 (l.drop 3) (n := 20) (by decide)
  have a8 := D5 (l.drop 3) (n := 20) (by decide)
  refine ⟨fun x hx => ?_, by rw [a0z, c3g, h2], ?_⟩
  ·rcases List.mem_cons.1 hx with rfl | hx
   ·unfold b5h
    simp only
    rw [b9r (by omega) (by omega) (by omega) (by decide), U1 _ _ (by decide) (by omega), decide_eq_true (a4r _ _), a2r, a5e _ _ (by omega)]
    decide
   ·exact h1 x hx
  ·rw [a0z, c3e, h3, List.range_succ_eq_map, c3e, List.map_map]
   congr 1
   refine List.map_congr_left fun i _ => ?_
   simp only [Function.comp]
   congr 1
   omega
theorem a6T : ∀ (c : Nat) (l : List Int), (∀ g ∈ a0A c l, (okV g.low && okV g.high && decide (Nm.z8 (Nm.d9 g.low.x) (Nm.d9 g.high.x) <= 0) && decide (Nm.z8 (Nm.d9 g.low.y) (Nm.d9 g.high.y) <= 0)) = true) /\ (a0A c l).length = c /\ (a0A c l).map Gt.name = List.replicate c [100, 111, 111, 114]
 | 0, _ => ⟨fun x hx => (by cases hx), rfl, rfl⟩
 | c + 1, l => by
  obtain ⟨h1, h2, h3⟩ := a6T c (l.drop 4)
  have a1 := l9 l (n := 60) (by decide)
  have a2 := D5 l (n := 60) (by decide)
  have a3 := l9 (l.drop 1) (n := 60) (by decide)
  have a4 := D5 (l.drop 1) (n := 60) (by decide)
  have a5 := l9 (l.drop 2) (n := 12) (by decide)
  have a6 := D5 (l.drop 2) (n := 12) (by decide)
  have a7 := l9 (l.drop 3) (n := 12) (by decide)
  have a8 := D5 (l.drop 3) (n := 12) (by decide)
  refine ⟨fun x hx => ?_, by rw [a0A, c3g, h2], ?_⟩
  ·rcases List.mem_cons.1 hx with rfl | hx
   ·unfold b5x atV
    simp only
    rw [b5e (by omega) (by decide) (by omega) (by decide), b5e (by omega) (by decide) (by omega) (by decide), a2r, a2r, a2r, a2r, decide_eq_true (b6Q (by decide) (by omega)), decide_eq_true (b6Q (by decide) (by omega))]
    decide
   ·exact h1 x hx
  ·rw [a0A, c3e, h3, List.replicate_succ]
   rfl
theorem counts (l : List Int) : (1 <= nA l /\ nA l <= 2) /\ nW l <= 2 /\ nP l <= 2 /\ (nP l <= nS l /\ nS l <= nP l + 1) /\ nG l <= 1 := by
 have a1 := l9 l (n := 2) (by decide)
 have a2 := D5 l (n := 2) (by decide)
 have a3 := l9 (l1 l) (n := 3) (by decide)
 have a4 := D5 (l1 l) (n := 3) (by decide)
 have a5 := l9 (l2 l) (n := 3) (by decide)
 have a6 := D5 (l2 l) (n := 3) (by decide)
 have a7 := l9 (l3 l) (n := 2) (by decide)
 have a8 := D5 (l3 l) (n := 2) (by decide)
 have a9 := l9 (l4 l) (n := 2) (by decide)
 have a10 := D5 (l4 l) (n := 2) (by decide)
 unfold nS
 unfold nA nW nP nG
 omega
theorem b8V : ∀ a w p s g : Nat, (1 <= a /\ a <= 2) -> p <= 2 -> (p <= s /\ s <= p + 1) -> g <= 1 ->
  (u6 K8 [] ((List.range a).map fun i => a4f (0 + i))).1 = 0 /\
  (u6 K8 (u6 K8 [] ((List.range a).map fun i => a4f (0 + i))).2 ((List.range p).map fun i => a3C (0 + i))).1 = 0 /\
  (u6 K8 (u6 K8 (u6 K8 [] ((List.range a).map fun i => a4f (0 + i))).2 ((List.range p).map fun i => a3C (0 + i))).2 ((List.range s).map fun i => a4E (0 + i))).1 = 0 /\
  (u6 K8 (u6 K8 (u6 K8 (u6 K8 [] ((List.range a).map fun i => a4f (0 + i))).2 ((List.range p).map fun i => a3C (0 + i))).2 ((List.range s).map fun i => a4E (0 + i))).2 (List.replicate g [100, 111, 111, 114])).1 = 0 := by
 intro a w p s g ha hp hs hg
 have h1 : a = 1 \/ a = 2 := by omega
 have h2 : p = 0 \/ p = 1 \/ p = 2 := by omega
 have h3 : s = p \/ s = p + 1 := by omega
 have h4 : g = 0 \/ g = 1 := by omega
 rcases h1 with rfl | rfl <;> rcases h2 with rfl | rfl | rfl <;> rcases h3 with rfl | rfl <;> rcases h4 with rfl | rfl <;> decide
theorem a8l (l : List Int) : X7 (D6 l) = 0 := by
 obtain ⟨c1, c2, c3, c4, c5⟩ := counts l
 have x1 := a5z (nA l) 0 (l.drop 1) (by omega)
 have x2 := a4z (nW l) ((l1 l).drop 1)
 have x3 := a6J (nP l) 0 ((l2 l).drop 1)
 have x4 := a4D (nS l) 0 ((l3 l).drop 1)
 have x5 := a6T (nG l) ((l4 l).drop 1)
 have hn := b8V (nA l) 0 (nP l) (nS l) (nG l) c1 c3 c4 c5
 have a1 := l9 (l5 l) (n := 4) (by decide)
 have a2 := D5 (l5 l) (n := 4) (by decide)
 have hw : b1D (Q (nx (l5 l) 4) 8) = 0 := by
  unfold b1D
  rw [U1 _ _ (by omega) (by decide), decide_eq_true (a4r _ _), a2r, a5e _ _ (by decide)]
  have : 0 <= (nx (l5 l) 4).sign := by
   rcases Int.lt_or_eq_of_le a1 with h | h
   ·rw [Int.sign_eq_one_of_pos h]; decide
   ·rw [<- h]; decide
  simp [this]
 have hL : a6v (D6 l) = [0, 0, 0, 0, 0] := by
  unfold a6v D6
  simp only
  rw [b2C _ _ x1, a7F, b0o _ _ (fun a ha => (x3.1 a ha).1), x3.2.2, b0W _ _ x4.1, x4.2.2, b0Q _ _ x5.1, x5.2.2, a0D (fun a ha => (x2.1 a ha).1), hn.1, hn.2.1, hn.2.2.1, hn.2.2.2]
 unfold X7
 rw [hL]
 have l1' : (D6 l).arms.length = nA l := a6I ..
 have l2' : (D6 l).walls.length = nW l := x2.2
 have l3' : (D6 l).parts.length = nP l := x3.2.1
 have l4' : (D6 l).slots.length = nS l := x4.2.1
 have l5' : (D6 l).gates.length = nG l := x5.2.1
 rw [if_neg (by omega), if_neg (by omega), if_neg (by decide)]
 exact hw
set_option maxRecDepth 10000
theorem b6h {l : List Vt} {most i k : Nat} (h1 : ¬ most < l.length) (h2 : ¬ l.length < 3) (hi : i < l.length) (hk2 : 2 <= k) (hk : k < l.length) (h : ¬ 0 < a2k l i k) : U5 l most = 3 := by
 unfold U5
 rw [if_neg h1, if_neg h2, if_neg]
 intro ha
 rw [List.all_eq_true] at ha
 have h3 := ha i (List.mem_range.2 hi)
 rw [List.all_eq_true] at h3
 have h4 := h3 k (List.mem_range.2 hk)
 rw [c3C, c2U, c2U] at h4
 omega
theorem b5u {l : List Vt} {most : Nat} (h1 : ¬ most < l.length) (h2 : ¬ l.length < 3) (h : ∀ i, i < l.length -> ∀ k, 2 <= k -> k < l.length -> 0 < a2k l i k) : U5 l most = 0 := by
 unfold U5
 rw [if_neg h1, if_neg h2, if_pos]
 rw [List.all_eq_true]
 intro i hi
 rw [List.all_eq_true]
 intro k hk
 rw [c3C, c2U, c2U]
 rcases c3n k 2 with h3 | h3
 ·exact .inl h3
 ·exact .inr (h i (List.mem_range.1 hi) k h3 (List.mem_range.1 hk))
theorem b7H {l : List Vt} {i k : Nat} {x y z : Vt} (hx : l[i]? = some x) (hy : l[(i + 1) % l.length]? = some y) (hz : l[(i + k) % l.length]? = some z) : a2k l i k = a7k x y z := by
 unfold a2k
 rw [c2Y, c2Y, c2Y, hx, hy, hz]
 rfl
theorem b7O (i k n : Nat) : Int.tmod ((i : Int) + (k : Int)) (n : Int) = (((i + k) % n : Nat) : Int) := rfl
theorem tmod_one (i n : Nat) : Int.tmod ((i : Int) + 1) (n : Int) = (((i + 1) % n : Nat) : Int) := rfl
theorem c1R (v : Vt) : v.enc.length = 6 := rfl
theorem b8L (l : List Vt) (most : Nat) (hl : Vbs 1073741824 l) (hm : most <= 1000000) : FZ 133 [vts l, ints most] (ints (U5 l most)) := by
 refine kW Tryz.func133 (by cbv) (by rfl) fun w O hw => ?_
 obtain ⟨hn, hb⟩ := hl
 simp only [l6, ints, vts]
 (repeat first | refine uA ?_ | (refine uK ?_ ?_; focus first | omega | trivial | (intros; simp_all <;> omega)) | simp (disch := omega) only [go_sem, Nat.reduceBEq, Nat.reduceAdd, Nat.reduceLeDiff, Int.reduceToNat, Int.reducePow, ww, c2N])
 (refine uJ rfl (fun hc => ?_) fun hc => ?_)
 ·have he : U5 l most = 2 := by unfold U5; rw [if_pos (by omega)]
  rw [he]
  (repeat first | refine uA ?_ | (refine uK ?_ ?_; focus first | omega | trivial | (intros; simp_all <;> omega)) | simp (disch := omega) only [go_sem, Nat.reduceBEq, Nat.reduceAdd, Nat.reduceLeDiff, Int.reduceToNat, Int.reducePow, ww])
  exact S.done (j3.out rfl (Imp.refl rfl) rfl)
 have h1 : ¬ most < l.length := by omega
 (repeat first | refine uA ?_ | (refine uK ?_ ?_; focus first | omega | trivial | (intros; simp_all <;> omega)) | simp (disch := omega) only [go_sem, Nat.reduceBEq, Nat.reduceAdd, Nat.reduceLeDiff, Int.reduceToNat, Int.reducePow, ww, c2N])
 (refine uJ rfl (fun hc => ?_) fun hc => ?_)
 ·have he : U5 l most = 3 := by unfold U5; rw [if_neg h1, if_pos (by omega)]
  rw [he]
  (repeat first | refine uA ?_ | (refine uK ?_ ?_; focus first | omega | trivial | (intros; simp_all <;> omega)) | simp (disch := omega) only [go_sem, Nat.reduceBEq, Nat.reduceAdd, Nat.reduceLeDiff, Int.reduceToNat, Int.reducePow, ww])
  exact S.done (j3.out rfl (Imp.refl rfl) rfl)
 have h2 : ¬ l.length < 3 := by omega
 (repeat first | refine uA ?_ | (refine uK ?_ ?_; focus first | omega | trivial | (intros; simp_all <;> omega)) | simp (disch := omega) only [go_sem, Nat.reduceBEq, Nat.reduceAdd, Nat.reduceLeDiff, Int.reduceToNat, Int.reducePow, ww, c2N])
 refine S.loop (X := Nat) (fun i => ⟨[(0, vts l), (5, ints l.length), (18, vts l), (19, ints l.length), (20, ints i)], []⟩)
  (fun i => i <= l.length /\ ∀ j, j < i -> ∀ k, 2 <= k -> k < l.length -> 0 < a2k l j k) (fun i => l.length - i) 0 ⟨c2T _, fun _ h => absurd h (Nat.not_lt_zero _)⟩ (by (repeat first | refine uA ?_ | (refine ⟨?_, ?_⟩; focus first | rfl | trivial | (simp [slot]; done)) | rfl | trivial | simp)) ?_
 rintro i ⟨hi, hg⟩
 simp only [ints, vts] at hi ⊢
 (repeat first | refine uA ?_ | (refine uK ?_ ?_; focus first | omega | trivial | (intros; simp_all <;> omega)) | simp (disch := omega) only [go_sem, Nat.reduceBEq, Nat.reduceAdd, Nat.reduceLeDiff, Int.reduceToNat, Int.reducePow, ww])
 (refine uJ rfl (fun hc => ?_) fun hc => ?_)
 ·have hi' : i < l.length := by omega
  have hgi := c2M hi'
  generalize l[i] = x at hgi
  (repeat first | refine uA ?_ | (refine uK ?_ ?_; focus first | omega | trivial | (intros; simp_all <;> omega)) | simp (disch := omega) only [go_sem, Nat.reduceBEq, Nat.reduceAdd, Nat.reduceLeDiff, Int.reduceToNat, Int.reducePow, ww, hgi, c2O, c2N, c1R])
  refine S.loop (X := Nat) (fun k => ⟨[(0, vts l), (5, ints l.length), (6, ints i), (7, .bp 0 0), (8, ints k), (18, vts l), (19, ints l.length), (20, ints i)], [.box 44 x.enc]⟩)
   (fun k => 2 <= k /\ k <= l.length /\ ∀ k', 2 <= k' -> k' < k -> 0 < a2k l i k') (fun k => l.length - k) 2 ⟨c2V _, by omega, fun _ h h' => by omega⟩ (by (repeat first | refine uA ?_ | (refine ⟨?_, ?_⟩; focus first | rfl | trivial | (simp [slot]; done)) | rfl | trivial | simp)) ?_
  rintro k ⟨hk2, hk, hgk⟩
  simp only [ints, vts] at hk ⊢
  (repeat first | refine uA ?_ | (refine uK ?_ ?_; focus first | omega | trivial | (intros; simp_all <;> omega)) | simp (disch := omega) only [go_sem, Nat.reduceBEq, Nat.reduceAdd, Nat.reduceLeDiff, Int.reduceToNat, Int.reducePow, ww])
  (refine uJ rfl (fun hc => ?_) fun hc => ?_)
  ·have hk' : k < l.length := by omega
   have hy := c2M (show (i + 1) % l.length < l.length from Nat.mod_lt _ (by omega))
   have hz := c2M (show (i + k) % l.length < l.length from Nat.mod_lt _ (by omega))
   have hylt : (i + 1) % l.length < l.length := Nat.mod_lt _ (by omega)
   have hzlt : (i + k) % l.length < l.length := Nat.mod_lt _ (by omega)
   generalize l[(i + 1) % l.length]'_ = y at hy
   generalize l[(i + k) % l.length]'_ = z at hz
   have hla := b7H hgi hy hz
   have hcall := c1z x y z (hb x (c2P hgi)) (hb y (c2P hy)) (hb z (c2P hz))
   rw [<- hla] at hcall
   simp only [Vt.c, Vt.enc, sb, ints] at hcall
   (repeat first | refine uA ?_ | (refine uK ?_ ?_; focus first | omega | trivial | (intros; simp_all <;> omega)) | simp (disch := omega) only [go_sem, Nat.reduceBEq, Nat.reduceAdd, Nat.reduceLeDiff, Int.reduceToNat, Int.reducePow, ww, hy, hz, c2O, b7O, tmod_one, c2N, Vt.enc, sb, c2X] | (refine uD hcall ?_ ?_ ?_; exact tz hw; exact rfl))
   (refine uJ rfl (fun hc => ?_) fun hc => ?_)
   ·rw [b6h h1 h2 hi' hk2 hk' (by omega)]
    (repeat first | refine uA ?_ | (refine uK ?_ ?_; focus first | omega | trivial | (intros; simp_all <;> omega)) | simp (disch := omega) only [go_sem, Nat.reduceBEq, Nat.reduceAdd, Nat.reduceLeDiff, Int.reduceToNat, Int.reducePow, ww])
    exact S.done (j3.out rfl (Imp.refl rfl) rfl)
   ·(repeat first | refine uA ?_ | (refine uK ?_ ?_; focus first | omega | trivial | (intros; simp_all <;> omega)) | simp (disch := omega) only [go_sem, Nat.reduceBEq, Nat.reduceAdd, Nat.reduceLeDiff, Int.reduceToNat, Int.reducePow, ww])
    refine S.next (k + 1) ⟨by omega, by omega, fun k' hk1 hk3 => ?_⟩ (by omega) (by (repeat first | refine uA ?_ | (refine ⟨?_, ?_⟩; focus first | rfl | trivial | (simp [slot]; done)) | rfl | trivial | simp))
    rcases c3n k' k with h | h
    ·exact hgk k' hk1 h
    ·have : k' = k := by omega
     subst this
     omega
  ·have hk' : k = l.length := by omega
   subst hk'
   (repeat first | refine uA ?_ | (refine uK ?_ ?_; focus first | omega | trivial | (intros; simp_all <;> omega)) | simp (disch := omega) only [go_sem, Nat.reduceBEq, Nat.reduceAdd, Nat.reduceLeDiff, Int.reduceToNat, Int.reducePow, ww])
   refine S.next (i + 1) ⟨by omega, fun j hj => ?_⟩ (by omega) (by (repeat first | refine uA ?_ | (refine ⟨?_, ?_⟩; focus first | rfl | trivial | (simp [slot]; done)) | rfl | trivial | simp))
   rcases c3n j i with h | h
   ·exact hg j h
   ·have : j = i := by omega
    subst this
    exact hgk
 ·have hi' : i = l.length := by omega
  subst hi'
  rw [b5u h1 h2 hg]
  (repeat first | refine uA ?_ | (refine uK ?_ ?_; focus first | omega | trivial | (intros; simp_all <;> omega)) | simp (disch := omega) only [go_sem, Nat.reduceBEq, Nat.reduceAdd, Nat.reduceLeDiff, Int.reduceToNat, Int.reducePow, ww])
  exact S.done (j3.out rfl (Imp.refl rfl) rfl)
theorem a7R (l : List Vt) (hl : Vbs 1073741824 l) : FZ 91 [vts l] (ints (U5 l 8)) := by
 refine kW Tryz.func91 (by cbv) (by rfl) fun w O hw => ?_
 have h := b8L l 8 hl (by decide)
 simp only [l6]
 simp only [vts, ints] at *
 generalize U5 l 8 = e at *
 rw [show ((8 : Nat) : Int) = 8 from rfl] at h
 (repeat first | refine uA ?_ | (refine uK ?_ ?_; focus first | omega | trivial | (intros; simp_all <;> omega)) | simp (disch := omega) only [go_sem, Nat.reduceBEq, Nat.reduceAdd, Nat.reduceLeDiff, Int.reduceToNat, Int.reducePow, ww] | (refine uD h ?_ ?_ ?_; exact tz hw; exact rfl))
 exact S.done (j3.out rfl (Imp.refl rfl) rfl)
def a2L : U3 := ⟨89, [.tmp 2], .seq (.reg [OA 1 (.box 31 (TT 0)), OA 2 (.mv (II 0))]) (.seq (.seq (.reg [FF 7 0 1, VV 8 7, OA 9 (.len false (TT 8)), OA 10 (.bin .gtr (TT 9) (II 4)), MM 11 10, FG 12 1 1 11 false, VG 13 12 11 false, OC 14 (.len
 false (TT 13)) 11 false, OC 15 (.bin .gtr (TT 14) (II 10)) 11 false, OA 16 (.pick (TT 11) (.const (.bool true)) (TT 15)), MM 17 16, FG 18 2 1 17 false, VG 19 18 17 false, OC 20 (.len false (TT 19)) 17 false, OC 21 (.bin .gtr (TT
 20) (II 6)) 17 false, OA 22 (.pick (TT 17) (.const (.bool true)) (TT 21)), MM 23 22, FG 24 3 1 23 false, VG 25 24 23 false, OC 26 (.len false (TT 25)) 23 false, OC 27 (.bin .gtr (TT 26) (II 8)) 23 false, OA 28 (.pick (TT 23)
 (.const (.bool true)) (TT 27)), MM 29 28, FG 30 4 1 29 false, VG 31 30 29 false, OC 32 (.len false (TT 31)) 29 false, OC 33 (.bin .gtr (TT 32) (II 4)) 29 false, OA 34 (.pick (TT 29) (.const (.bool true)) (TT 33))]) (.cond (TT
 34) (.seq (.reg [OA 2 (.mv (II 2))]) .ret) .skip)) (.seq (.seq (.reg [FF 35 0 1, VV 36 35, OA 37 (.len false (TT 36)), OA 38 (.bin .eql (TT 37) (II 0))]) (.cond (TT 38) (.seq (.reg [OA 2 (.mv (II 4))]) .ret) .skip)) (.seq (.reg
 [OA 39 (.a2j true), OA 3 (.alloc 94 [.map none]), OB (.store 1 (TT 3) (TT 39))]) (.seq (.reg [OA 40 (.clo 28 [TT 3]), MM 4 40]) (.seq (.seq (.G6 [.q, .q, .q, .e none false, .l, .l, .q, .l, .l, .l, .l, .e none false, .l, .l,
 .l, .l, .e none false, .l, .l, .l, .l, .e none false, .q, .q, .l] [FF 41 0 1, VV 42 41, MM 43 4, OA 44 (.call 31 [TT 42, TT 43]), FF 45 1 1, VV 46 45, OA 47 (.call 32 [TT 46, .func 33]), FF 48 2 1, VV 49 48, VV 50 3, OA 51 (.bnd
 35 (TT 50)), OA 52 (.call 34 [TT 49, TT 51]), FF 53 3 1, VV 54 53, VV 55 3, OA 56 (.bnd 37 (TT 55)), OA 57 (.call 36 [TT 54, TT 56]), FF 58 4 1, VV 59 58, VV 60 3, OA 61 (.bnd 39 (TT 60)), OA 62 (.call 38 [TT 59, TT 61]), OA 63
 (.bsl 41 1 5 [.int .i64 0] [(0, TT 44), (1, TT 47), (2, TT 52), (3, TT 57), (4, TT 62)]), OA 64 (.len false (TT 63)), OA 65 (.mv (II 0))]) (.block 0 (.loop (.seq (.reg [OA 66 (.bin .lss (TT 65) (TT 64))]) (.seq (.cond (TT 66)
 .skip (.exit 0)) (.seq (.block 1 (.seq (.reg [OA 67 (.q8 1 (TT 63) (TT 65)), VV 68 67, MM 6 68]) (.seq (.reg [MM 69 6, OA 70 (.bin .neq (TT 69) (II 0))]) (.cond (TT 70) (.seq (.reg [MM 71 6, MM 2 71]) .ret) .skip)))) (.reg
 [OA 72 (.bin .add (TT 65) (II 1)), MM 65 72]))))))) (.seq (.seq (.reg [FF 73 5 1, LL 74 3 73, OA 75 (.call 40 [TT 74]), OA 76 (.un .not (TT 75)), MM 77 76, FG 78 5 1 77 false, LG 79 3 78 77 false, OC 80 (.call 41 [TT 79]) 77
 false, OC 81 (.un .not (TT 80)) 77 false, OA 82 (.pick (TT 77) (.const (.bool true)) (TT 81)), MM 83 82, FG 84 5 1 83 false, LG 85 3 84 83 false, OC 86 (.call 42 [TT 85]) 83 false, OC 87 (.bin .lss (TT 86) (II 0)) 83 false, OA
 88 (.pick (TT 83) (.const (.bool true)) (TT 87))]) (.cond (TT 88) (.seq (.reg [OA 2 (.mv (II 1))]) .ret) .skip)) (.seq (.reg [OA 2 (.mv (II 0))]) .ret)))))))⟩
theorem a9G : M9 eff Tryz.prog Tryz.f8 = some a2L := by kernel_rfl
theorem a9H : Tryz.prog.funcs[8]? = some Tryz.f8 := Tryz.func8
def a5l : U3 := ⟨97, [.tmp 4], .seq (.reg [OA 2 (.box 31 (TT 0)), OA 3 (.box 37 (TT 1)), OA 4 (.mv (II 0))]) (.seq (.seq (.reg [LL 10 8 2, OA 11 (.call 8 [TT 10]), MM 5 11]) (.seq (.reg [MM 12 5, OA 13 (.bin .neq (TT 12) (II 0))]) (.cond (TT 13)
 (.seq (.reg [MM 14 5, MM 4 14]) .ret) .skip))) (.seq (.seq (.reg [FF 15 3 3, VV 16 15, OA 17 (.len false (TT 16)), OA 18 (.bin .gtr (TT 17) (II 4))]) (.cond (TT 18) (.seq (.reg [OA 4 (.mv (II 2))]) .ret) .skip)) (.seq (.seq
 (.reg [FF 19 0 3, VV 20 19, OA 21 (.bin .lss (TT 20) (II 0)), MM 22 21, FG 23 0 3 22 false, VG 24 23 22 false, OC 25 (.bin .gtr (TT 24) (II 2000)) 22 false, OA 26 (.pick (TT 22) (.const (.bool true)) (TT 25)), MM 27 26, FG 28 1
 3 27 false, VG 29 28 27 false, OC 30 (.len false (TT 29)) 27 false, FG 31 0 2 27 false, VG 32 31 27 false, OC 33 (.len false (TT 32)) 27 false, OC 34 (.bin .neq (TT 30) (TT 33)) 27 false, OA 35 (.pick (TT 27) (.const (.bool
 true)) (TT 34)), MM 36 35, FG 37 2 3 36 false, VG 38 37 36 false, OC 39 (.len false (TT 38)) 36 false, FG 40 2 2 36 false, VG 41 40 36 false, OC 42 (.len false (TT 41)) 36 false, OC 43 (.bin .neq (TT 39) (TT 42)) 36 false, OA 44
 (.pick (TT 36) (.const (.bool true)) (TT 43)), MM 45 44, FG 46 4 3 45 false, VG 47 46 45 false, OC 48 (.len false (TT 47)) 45 false, FG 49 4 2 45 false, VG 50 49 45 false, OC 51 (.len false (TT 50)) 45 false, OC 52 (.bin .neq
 (TT 48) (TT 51)) 45 false, OA 53 (.pick (TT 45) (.const (.bool true)) (TT 52))]) (.cond (TT 53) (.seq (.reg [OA 4 (.mv (II 1))]) .ret) .skip)) (.seq (.reg [OA 54 (.a2j false), MM 6 54]) (.seq (.seq (.reg [FF 55 1 3, VV 56 55,
 OA 57 (.len false (TT 56)), OA 58 (.mv (II 0))]) (.block 0 (.loop (.seq (.reg [OA 59 (.bin .lss (TT 58) (TT 57))]) (.seq (.cond (TT 59) .skip (.exit 0)) (.seq (.block 1 (.seq (.reg [MM 60 58, OA 61 (.q8 4 (TT 56) (TT 58)), LL
 62 4 61, OA 8 (.alloc 61 [.slice none 0 0, .slice none 0 0, .bool false, .int .i64 0]), MM 7 60, OB (.store 4 (TT 8) (TT 62))]) (.seq (.seq (.G6 [.q, .q, .q, .q, .q, .q, .q, .q, .q, .q, .q] [FF 63 0 2, VV 64 63, MM 65 7, OA 66
 (.q8 12 (TT 64) (TT 65)), LL 67 12 66, LL 68 4 8, FF 69 2 2, VV 70 69, OA 71 (.len false (TT 70)), OA 72 (.call 43 [TT 67, TT 68, TT 71]), MM 9 72]) (.seq (.reg [MM 73 9, OA 74 (.bin .neq (TT 73) (II 0))]) (.cond (TT 74)
 (.seq (.reg [MM 75 9, MM 4 75]) .ret) .skip))) (.seq (.seq (.reg [FF 76 3 8, VV 77 76, OA 78 (.bin .geq (TT 77) (II 0)), MM 79 78, MG 80 6 79 true, FG 81 3 8 79 true, VG 82 81 79 true, OC 83 (.lkp false (.bool false) false (TT
 80) (TT 82)) 79 true, OA 84 (.pick (TT 79) (TT 83) (.const (.bool false)))]) (.cond (TT 84) (.seq (.reg [OA 4 (.mv (II 10))]) .ret) .skip)) (.reg [MM 85 6, FF 86 3 8, VV 87 86, OB (.a5L false (TT 85) (TT 87) (.const (.bool
 true)))]))))) (.reg [OA 88 (.bin .add (TT 58) (II 1)), MM 58 88]))))))) (.seq (.seq (.reg [FF 89 2 3, VV 90 89, OA 91 (.call 44 [TT 90, .func 45]), MM 92 91, FG 93 3 3 92 false, VG 94 93 92 false, OC 95 (.call 47 [TT 94, .func
 48]) 92 false, OA 96 (.pick (TT 92) (.const (.bool true)) (TT 95))]) (.cond (TT 96) (.seq (.reg [OA 4 (.mv (II 3))]) .ret) .skip)) (.seq (.reg [OA 4 (.mv (II 0))]) .ret)))))))⟩
theorem b0h : M9 eff Tryz.prog Tryz.f9 = some a5l := by kernel_rfl
theorem a9X : Tryz.prog.funcs[9]? = some Tryz.f9 := Tryz.func9
def a5u : U3 := ⟨91, [.cell 2 true 5, .tmp 3], .seq (.reg [OA 1 (.box 31 (TT 0)), OA 2 (.alloc 37 [.int .i64 0, .slice none 0 0, .slice none 0 0, .slice none 0 0, .slice none 0 0]), OA 3 (.mv (II 0))]) (.seq (.seq (.reg [LL 13 8 1, OA 14 (.call 8
 [TT 13]), MM 4 14]) (.seq (.reg [MM 15 4, OA 16 (.bin .neq (TT 15) (II 0))]) (.cond (TT 16) (.seq (.reg [OA 17 (.build [.int .i64 0, .slice none 0 0, .slice none 0 0, .slice none 0 0, .slice none 0 0] []), MM 18 4, OB (.store 5
 (TT 2) (TT 17)), MM 3 18]) .ret) .skip))) (.seq (.reg [OA 5 (.alloc 37 [.int .i64 0, .slice none 0 0, .slice none 0 0, .slice none 0 0, .slice none 0 0])]) (.seq (.seq (.reg [FF 19 0 1, VV 20 19, OA 21 (.len false (TT 20)), OA
 22 (.mv (II 0))]) (.block 0 (.loop (.seq (.reg [OA 23 (.bin .lss (TT 22) (TT 21))]) (.seq (.cond (TT 23) .skip (.exit 0)) (.seq (.block 1 (.seq (.reg [OA 24 (.q8 12 (TT 20) (TT 22)), LL 25 12 24, OA 7 (.alloc 51 [.string
 ⟨#[]⟩, .bool false, .string ⟨#[]⟩, .string ⟨#[]⟩, .bool false, .string ⟨#[]⟩, .string ⟨#[]⟩, .bool false, .bool false, .string ⟨#[]⟩, .string ⟨#[]⟩, .slice none 0 0]), OB (.store 12 (TT 7) (TT 25))]) (.seq (.reg [OA 26 (.build
 [.slice none 0 0, .slice none 0 0, .bool false, .int .i64 0] [(3, (1, II (-1)))]), OA 8 (.alloc 61 [.slice none 0 0, .slice none 0 0, .bool false, .int .i64 0]), OB (.store 4 (TT 8) (TT 26))]) (.seq (.seq (.reg [FF 27 11 7, VV
 28 27, OA 29 (.len false (TT 28)), OA 30 (.mv (II 0))]) (.block 2 (.loop (.seq (.reg [OA 31 (.bin .lss (TT 30) (TT 29))]) (.seq (.cond (TT 31) .skip (.exit 2)) (.seq (.block 3 (.seq (.reg [OA 32 (.q8 16 (TT 28) (TT 30)), LL
 33 16 32, OA 10 (.alloc 53 [.bool false, .string ⟨#[]⟩, .string ⟨#[]⟩, .bool false, .string ⟨#[]⟩, .string ⟨#[]⟩, .bool false, .string ⟨#[]⟩, .string ⟨#[]⟩, .bool false, .string ⟨#[]⟩, .string ⟨#[]⟩, .bool false, .string ⟨#[]⟩,
 .string ⟨#[]⟩, .slice none 0 0]), OB (.store 16 (TT 10) (TT 33))]) (.seq (.G6 [.q, .q, .q, .q, .q, .q, .q, .q, .q, .q, .e none true, .q, .e none true] [FF 34 0 8, VV 35 34, FF 36 3 10, LL 37 3 36, FF 38 6 10, LL 39 3 38, OA 40
 (.call 86 [II 0]), OA 41 (.call 69 [TT 39, TT 40]), OA 42 (.call 67 [TT 37, TT 41]), OA 43 (.bsl 29 3 1 [.bool false, .string ⟨#[]⟩, .string ⟨#[]⟩] [(0, TT 42)]), OA 44 (.app 29 3 40 (TT 35) (TT 43)), FF 45 0 8, OB (.store 1 (TT
 45) (TT 44))]) (.G6 [.q, .q, .q, .q, .e none true, .q, .e none true] [FF 46 1 8, VV 47 46, OA 48 (.call 86 [II 0]), OA 49 (.bsl 29 3 1 [.bool false, .string ⟨#[]⟩, .string ⟨#[]⟩] [(0, TT 48)]), OA 50 (.app 29 3 40 (TT 47) (TT
 49)), FF 51 1 8, OB (.store 1 (TT 51) (TT 50))])))) (.reg [OA 52 (.bin .add (TT 30) (II 1)), MM 30 52]))))))) (.reg [FF 53 1 5, VV 54 53, LL 55 4 8, OA 56 (.bsl 61 4 1 [.slice none 0 0, .slice none 0 0, .bool false, .int .i64 0]
 [(0, TT 55)]), OA 57 (.app 61 4 64 (TT 54) (TT 56)), FF 58 1 5, OB (.store 1 (TT 58) (TT 57))]))))) (.reg [OA 59 (.bin .add (TT 22) (II 1)), MM 22 59]))))))) (.seq (.seq (.reg [FF 60 2 1, VV 61 60, OA 62 (.len false (TT 61)), OA
 63 (.mv (II 0))]) (.block 4 (.loop (.seq (.reg [OA 64 (.bin .lss (TT 63) (TT 62))]) (.seq (.cond (TT 64) .skip (.exit 4)) (.seq (.block 5 (.seq (.reg [MM 65 63, MM 11 65]) (.seq (.reg [OA 66 (.call 56 []), OA 12 (.alloc 48
 [.bool false, .string ⟨#[]⟩, .string ⟨#[]⟩, .bool false, .string ⟨#[]⟩, .string ⟨#[]⟩, .bool false, .bool false, .string ⟨#[]⟩, .string ⟨#[]⟩]), OB (.store 10 (TT 12) (TT 66))]) (.seq (.seq (.reg [MM 67 11, FF 68 3 1, VV 69 68,
 OA 70 (.len false (TT 69)), OA 71 (.bin .lss (TT 67) (TT 70))]) (.cond (TT 71) (.reg [FF 72 3 1, VV 73 72, MM 74 11, OA 75 (.q8 14 (TT 73) (TT 74)), FF 76 1 75, LL 77 10 76, OB (.store 10 (TT 12) (TT 77))]) .skip)) (.reg [FF
 78 2 5, VV 79 78, LL 80 10 12, OA 81 (.bsl 48 10 1 [.bool false, .string ⟨#[]⟩, .string ⟨#[]⟩, .bool false, .string ⟨#[]⟩, .string ⟨#[]⟩, .bool false, .bool false, .string ⟨#[]⟩, .string ⟨#[]⟩] [(0, TT 80)]), OA 82 (.app 48 10
 128 (TT 79) (TT 81)), FF 83 2 5, OB (.store 1 (TT 83) (TT 82))]))))) (.reg [OA 84 (.bin .add (TT 63) (II 1)), MM 63 84]))))))) (.seq (.reg [FF 85 4 1, VV 86 85, OA 87 (.len false (TT 86)), OA 88 (.a1p 4 1 [.bool false] (TT 87)
 (TT 87)), FF 89 4 5, OB (.store 1 (TT 89) (TT 88))]) (.seq (.reg [LL 90 5 5, OB (.store 5 (TT 2) (TT 90)), OA 3 (.mv (II 0))]) .ret))))))⟩
theorem a9R : M9 eff Tryz.prog Tryz.f24 = some a5u := by kernel_rfl
theorem a9N : Tryz.prog.funcs[24]? = some Tryz.f24 := Tryz.func24
def a3x : U3 := ⟨159, [.cell 2 true 8], .seq (.reg [OA 2 (.alloc 31 [.slice none 0 0, .slice none 0 0, .slice none 0 0, .slice none 0 0, .slice none 0 0, .bool false, .string ⟨#[]⟩, .string ⟨#[]⟩])]) (.seq (.reg [MM 12 0, OA 13 (.build [.slice
 none 0 0] [(0, (1, TT 12))]), OA 14 (.box 145 (TT 13)), MM 3 14]) (.seq (.reg [OA 4 (.alloc 31 [.slice none 0 0, .slice none 0 0, .slice none 0 0, .slice none 0 0, .slice none 0 0, .bool false, .string ⟨#[]⟩, .string ⟨#[]⟩])])
 (.seq (.seq (.reg [MM 15 3, OA 16 (.call 80 [TT 15, II 2]), OA 17 (.bin .add (II 1) (TT 16)), OA 18 (.mv (II 0))]) (.block 0 (.loop (.seq (.reg [OA 19 (.bin .lss (TT 18) (TT 17))]) (.seq (.cond (TT 19) .skip (.exit 0)) (.seq
 (.block 1 (.seq (.reg [MM 20 18, MM 5 20]) (.G6 [.l, .l, .q, .q, .e none false, .q, .e none true, .q, .e none true] [FF 21 0 4, VV 22 21, MM 23 3, MM 24 5, OA 25 (.call 81 [TT 23, TT 24]), OA 26 (.bsl 51 12 1 [.string ⟨#[]⟩,
 .bool false, .string ⟨#[]⟩, .string ⟨#[]⟩, .bool false, .string ⟨#[]⟩, .string ⟨#[]⟩, .bool false, .bool false, .string ⟨#[]⟩, .string ⟨#[]⟩, .slice none 0 0] [(0, TT 25)]), OA 27 (.app 51 12 168 (TT 22) (TT 26)), FF 28 0 4, OB
 (.store 1 (TT 28) (TT 27))]))) (.reg [OA 29 (.bin .add (TT 18) (II 1)), MM 18 29]))))))) (.seq (.seq (.reg [MM 30 3, OA 31 (.call 80 [TT 30, II 3]), OA 32 (.mv (II 0))]) (.block 2 (.loop (.seq (.reg [OA 33 (.bin .lss (TT 32) (TT
 31))]) (.seq (.cond (TT 33) .skip (.exit 2)) (.seq (.block 3 (.seq (.reg [MM 34 3, OA 35 (.call 80 [TT 34, II 80]), OA 36 (.bin .sub (TT 35) (II 30)), MM 37 3, OA 38 (.call 80 [TT 37, II 30]), OA 39 (.bin .add (II 12) (TT 38)),
 MM 6 36, MM 7 39]) (.seq (.seq (.reg [MM 40 3, OA 41 (.call 80 [TT 40, II 2]), OA 42 (.bin .eql (TT 41) (II 1))]) (.cond (TT 42) (.reg [MM 43 7, OA 44 (.un .neg (TT 43)), OA 45 (.bin .sub (TT 44) (II 6)), MM 7 45]) .skip))
 (.G6 [.l, .l, .l, .l, .l, .l, .q, .e none false, .l, .l, .l, .l, .e none false, .q, .q, .q, .e none true, .q, .e none true] [FF 46 1 4, VV 47 46, MM 48 6, MM 49 7, MM 50 6, OA 51 (.bin .add (TT 50) (II 1)), MM 52 3, OA 53
 (.call 80 [TT 52, II 20]), OA 54 (.bin .add (TT 51) (TT 53)), MM 55 7, OA 56 (.bin .add (TT 55) (II 1)), MM 57 3, OA 58 (.call 80 [TT 57, II 5]), OA 59 (.bin .add (TT 56) (TT 58)), OA 60 (.call 82 [TT 48, TT 49, TT 54, TT 59]),
 OA 61 (.bsl 34 1 1 [.slice none 0 0] [(0, TT 60)]), OA 62 (.app 34 1 24 (TT 47) (TT 61)), FF 63 1 4, OB (.store 1 (TT 63) (TT 62))])))) (.reg [OA 64 (.bin .add (TT 32) (II 1)), MM 32 64]))))))) (.seq (.seq (.reg [MM 65 3, OA 66
 (.call 80 [TT 65, II 3]), OA 67 (.mv (II 0))]) (.block 4 (.loop (.seq (.reg [OA 68 (.bin .lss (TT 67) (TT 66))]) (.seq (.cond (TT 68) .skip (.exit 4)) (.seq (.block 5 (.seq (.reg [MM 69 67, MM 8 69]) (.G6 [.l, .l, .l, .l, .l,
 .l, .q, .e none false, .q, .q, .q, .q, .q, .q, .e none true, .q, .e none true] [FF 70 2 4, VV 71 70, OA 72 (.bsl 9 1 2 [.string ⟨#[]⟩] [(0, .const (.string ⟨#[98, 111, 108, 116]⟩)), (1, .const (.string ⟨#[110, 117, 116]⟩))]), MM
 73 8, OA 74 (.q8 1 (TT 72) (TT 73)), VV 75 74, MM 76 3, OA 77 (.call 83 [TT 76]), OA 78 (.call 84 [II 0, II 0]), OA 79 (.call 85 [II 0, II 1]), OA 80 (.build [.bool false, .bool false, .string ⟨#[]⟩, .string ⟨#[]⟩] [(1, (3,
 TT 79))]), OA 81 (.build [.bool false, .string ⟨#[]⟩, .string ⟨#[]⟩, .bool false, .string ⟨#[]⟩, .string ⟨#[]⟩, .bool false, .bool false, .string ⟨#[]⟩, .string ⟨#[]⟩] [(0, (6, TT 78)), (6, (4, TT 80))]), OA 82 (.build [.string
 ⟨#[]⟩, .slice none 0 0, .bool false, .string ⟨#[]⟩, .string ⟨#[]⟩, .bool false, .string ⟨#[]⟩, .string ⟨#[]⟩, .bool false, .bool false, .string ⟨#[]⟩, .string ⟨#[]⟩] [(0, (1, TT 75)), (1, (1, TT 77)), (2, (10, TT 81))]), OA 83
 (.bsl 65 12 1 [.string ⟨#[]⟩, .slice none 0 0, .bool false, .string ⟨#[]⟩, .string ⟨#[]⟩, .bool false, .string ⟨#[]⟩, .string ⟨#[]⟩, .bool false, .bool false, .string ⟨#[]⟩, .string ⟨#[]⟩] [(0, TT 82)]), OA 84 (.app 65 12 168
 (TT 71) (TT 83)), FF 85 2 4, OB (.store 1 (TT 85) (TT 84))]))) (.reg [OA 86 (.bin .add (TT 67) (II 1)), MM 67 86]))))))) (.seq (.seq (.G6 [.l, .l, .l, .q, .e none false, .q, .l] [FF 87 2 4, VV 88 87, OA 89 (.len false (TT
 88)), MM 90 3, OA 91 (.call 80 [TT 90, II 2]), OA 92 (.bin .add (TT 89) (TT 91)), OA 93 (.mv (II 0))]) (.block 6 (.loop (.seq (.reg [OA 94 (.bin .lss (TT 93) (TT 92))]) (.seq (.cond (TT 94) .skip (.exit 6)) (.seq (.block 7 (.seq
 (.reg [MM 95 93, MM 9 95]) (.G6 [.l, .l, .l, .l, .l, .l, .q, .e none false, .l, .l, .e none false, .q, .q, .l, .e none false, .q, .q, .l, .l, .l, .e none false, .q, .q, .q, .q, .e none true, .q, .e none true] [FF 96 3 4, VV 97
 96, OA 98 (.bsl 9 1 3 [.string ⟨#[]⟩] [(0, .const (.string ⟨#[104, 101, 114, 101]⟩)), (1, .const (.string ⟨#[116, 104, 101, 114, 101]⟩)), (2, .const (.string ⟨#[98, 101, 121, 111, 110, 100]⟩))]), MM 99 9, OA 100 (.q8 1 (TT
 98) (TT 99)), VV 101 100, MM 102 3, OA 103 (.call 80 [TT 102, II 40]), OA 104 (.bin .sub (TT 103) (II 20)), MM 105 3, OA 106 (.call 80 [TT 105, II 24]), OA 107 (.bin .sub (TT 106) (II 12)), OA 108 (.call 84 [TT 104, TT 107]), MM
 109 3, OA 110 (.call 80 [TT 109, II 5]), OA 111 (.bin .sub (TT 110) (II 2)), OA 112 (.call 85 [TT 111, II 2]), OA 113 (.build [.bool false, .bool false, .string ⟨#[]⟩, .string ⟨#[]⟩] [(1, (3, TT 112))]), OA 114 (.build [.bool
 false, .string ⟨#[]⟩, .string ⟨#[]⟩, .bool false, .string ⟨#[]⟩, .string ⟨#[]⟩, .bool false, .bool false, .string ⟨#[]⟩, .string ⟨#[]⟩] [(0, (6, TT 108)), (6, (4, TT 113))]), MM 115 3, OA 116 (.call 80 [TT 115, II 20]), OA 117
 (.bin .add (II 8) (TT 116)), OA 118 (.call 85 [II 1, TT 117]), OA 119 (.build [.string ⟨#[]⟩, .bool false, .string ⟨#[]⟩, .string ⟨#[]⟩, .bool false, .string ⟨#[]⟩, .string ⟨#[]⟩, .bool false, .bool false, .string ⟨#[]⟩, .string
 ⟨#[]⟩, .bool false, .string ⟨#[]⟩, .string ⟨#[]⟩] [(0, (1, TT 101)), (1, (10, TT 114)), (11, (3, TT 118))]), OA 120 (.bsl 86 14 1 [.string ⟨#[]⟩, .bool false, .string ⟨#[]⟩, .string ⟨#[]⟩, .bool false, .string ⟨#[]⟩, .string
 ⟨#[]⟩, .bool false, .bool false, .string ⟨#[]⟩, .string ⟨#[]⟩, .bool false, .string ⟨#[]⟩, .string ⟨#[]⟩] [(0, TT 119)]), OA 121 (.app 86 14 184 (TT 97) (TT 120)), FF 122 3 4, OB (.store 1 (TT 122) (TT 121))]))) (.reg [OA 123
 (.bin .add (TT 93) (II 1)), MM 93 123]))))))) (.seq (.seq (.reg [MM 124 3, OA 125 (.call 80 [TT 124, II 2]), OA 126 (.mv (II 0))]) (.block 8 (.loop (.seq (.reg [OA 127 (.bin .lss (TT 126) (TT 125))]) (.seq (.cond (TT 127) .skip
 (.exit 8)) (.seq (.block 9 (.seq (.reg [MM 128 3, OA 129 (.call 80 [TT 128, II 60]), OA 130 (.bin .sub (TT 129) (II 30)), MM 131 3, OA 132 (.call 80 [TT 131, II 60]), OA 133 (.bin .sub (TT 132) (II 30)), MM 10 130, MM 11 133])
 (.G6 [.l, .l, .q, .q, .q, .l, .q, .e none false, .l, .l, .l, .e none false, .q, .q, .q, .q, .q, .e none true, .q, .e none true] [FF 134 4 4, VV 135 134, MM 136 10, MM 137 11, OA 138 (.call 84 [TT 136, TT 137]), MM 139 10, MM
 140 3, OA 141 (.call 80 [TT 140, II 12]), OA 142 (.bin .add (TT 139) (TT 141)), MM 143 11, MM 144 3, OA 145 (.call 80 [TT 144, II 12]), OA 146 (.bin .add (TT 143) (TT 145)), OA 147 (.call 84 [TT 142, TT 146]), OA 148 (.build
 [.bool false, .string ⟨#[]⟩, .string ⟨#[]⟩, .bool false, .string ⟨#[]⟩, .string ⟨#[]⟩, .bool false, .string ⟨#[]⟩, .string ⟨#[]⟩, .bool false, .string ⟨#[]⟩, .string ⟨#[]⟩] [(0, (6, TT 138)), (6, (6, TT 147))]), OA 149 (.build
 [.string ⟨#[]⟩, .bool false, .string ⟨#[]⟩, .string ⟨#[]⟩, .bool false, .string ⟨#[]⟩, .string ⟨#[]⟩, .bool false, .string ⟨#[]⟩, .string ⟨#[]⟩, .bool false, .string ⟨#[]⟩, .string ⟨#[]⟩] [(0, (1, .const (.string ⟨#[100, 111,
 111, 114]⟩))), (1, (12, TT 148))]), OA 150 (.bsl 91 13 1 [.string ⟨#[]⟩, .bool false, .string ⟨#[]⟩, .string ⟨#[]⟩, .bool false, .string ⟨#[]⟩, .string ⟨#[]⟩, .bool false, .string ⟨#[]⟩, .string ⟨#[]⟩, .bool false, .string
 ⟨#[]⟩, .string ⟨#[]⟩] [(0, TT 149)]), OA 151 (.app 91 13 176 (TT 135) (TT 150)), FF 152 4 4, OB (.store 1 (TT 152) (TT 151))]))) (.reg [OA 153 (.bin .add (TT 126) (II 1)), MM 126 153]))))))) (.seq (.reg [MM 154 3, OA 155 (.call
 80 [TT 154, II 4]), OA 156 (.call 85 [TT 155, II 8]), FF 157 5 4, OB (.store 3 (TT 157) (TT 156))]) (.seq (.reg [LL 158 8 4, OB (.store 8 (TT 2) (TT 158))]) .ret)))))))))⟩
theorem a7y : M9 eff Tryz.prog Tryz.f23 = some a3x := by kernel_rfl
theorem a7C : Tryz.prog.funcs[23]? = some Tryz.f23 := Tryz.func23
def a4K : U3 := ⟨77, [.cell 4 true 12], .seq (.reg [OA 4 (.alloc 51 [.string ⟨#[]⟩, .bool false, .string ⟨#[]⟩, .string ⟨#[]⟩, .bool false, .string ⟨#[]⟩, .string ⟨#[]⟩, .bool false, .bool false, .string ⟨#[]⟩, .string ⟨#[]⟩, .slice none 0 0])])
 (.seq (.reg [OA 8 (.bsl 9 1 4 [.string ⟨#[]⟩] [(0, .const (.string ⟨#[111, 110, 101]⟩)), (1, .const (.string ⟨#[116, 119, 111]⟩)), (2, .const (.string ⟨#[116, 104, 114, 101, 101]⟩)), (3, .const (.string ⟨#[102, 111, 117,
 114]⟩))]), MM 9 1, OA 10 (.q8 1 (TT 8) (TT 9)), VV 11 10, OA 12 (.build [.string ⟨#[]⟩, .bool false, .string ⟨#[]⟩, .string ⟨#[]⟩, .bool false, .string ⟨#[]⟩, .string ⟨#[]⟩, .bool false, .bool false, .string ⟨#[]⟩, .string
 ⟨#[]⟩, .slice none 0 0] [(0, (1, TT 11))]), OA 5 (.alloc 51 [.string ⟨#[]⟩, .bool false, .string ⟨#[]⟩, .string ⟨#[]⟩, .bool false, .string ⟨#[]⟩, .string ⟨#[]⟩, .bool false, .bool false, .string ⟨#[]⟩, .string ⟨#[]⟩, .slice
 none 0 0]), OB (.store 12 (TT 5) (TT 12))]) (.seq (.G6 [.q, .q, .q, .l, .q, .e none false, .l, .l, .l, .e none false, .q, .q, .q, .q, .q, .e none true] [MM 13 1, OA 14 (.bin .mul (II 40) (TT 13)), OA 15 (.call 84 [TT 14, II
 0]), OA 16 (.bsl 3 1 4 [.int .i64 0] [(0, II 0), (1, II 1), (2, II (-1)), (3, II 1)]), MM 17 0, OA 18 (.call 80 [TT 17, II 4]), OA 19 (.q8 1 (TT 16) (TT 18)), VV 20 19, MM 21 0, OA 22 (.call 80 [TT 21, II 3]), OA 23 (.bin
 .add (II 1) (TT 22)), OA 24 (.call 85 [TT 20, TT 23]), OA 25 (.build [.bool false, .bool false, .string ⟨#[]⟩, .string ⟨#[]⟩] [(1, (3, TT 24))]), OA 26 (.build [.bool false, .string ⟨#[]⟩, .string ⟨#[]⟩, .bool false, .string
 ⟨#[]⟩, .string ⟨#[]⟩, .bool false, .bool false, .string ⟨#[]⟩, .string ⟨#[]⟩] [(0, (6, TT 15)), (6, (4, TT 25))]), FF 27 1 5, OB (.store 10 (TT 27) (TT 26))]) (.seq (.seq (.reg [MM 28 0, OA 29 (.call 80 [TT 28, II 3]), OA 30
 (.bin .add (II 1) (TT 29)), OA 31 (.mv (II 0))]) (.block 0 (.loop (.seq (.reg [OA 32 (.bin .lss (TT 31) (TT 30))]) (.seq (.cond (TT 32) .skip (.exit 0)) (.seq (.block 1 (.seq (.reg [MM 33 0, OA 34 (.call 80 [TT 33, II 4]), OA 35
 (.bin .mul (II 2) (TT 34)), OA 36 (.bin .add (II 4) (TT 35)), MM 6 36]) (.seq (.reg [MM 37 6, OA 38 (.call 85 [TT 37, II 4]), MM 39 0, OA 40 (.call 80 [TT 39, II 6]), OA 41 (.bin .sub (II (-1)) (TT 40)), OA 42 (.call 85 [TT 41,
 II 3]), MM 43 0, OA 44 (.call 80 [TT 43, II 6]), OA 45 (.bin .add (II 1) (TT 44)), OA 46 (.call 85 [TT 45, II 3]), MM 47 0, OA 48 (.call 80 [TT 47, II 8]), OA 49 (.bin .add (II 4) (TT 48)), OA 50 (.call 85 [II 1, TT 49]), MM 51
 0, OA 52 (.call 80 [TT 51, II 20]), OA 53 (.bin .add (II 10) (TT 52)), OA 54 (.call 85 [II 1, TT 53]), MM 55 6, OA 56 (.bin .add (TT 55) (II 1)), OA 57 (.call 82 [II (-1), II (-1), TT 56, II 1]), OA 58 (.build [.bool false,
 .string ⟨#[]⟩, .string ⟨#[]⟩, .bool false, .string ⟨#[]⟩, .string ⟨#[]⟩, .bool false, .string ⟨#[]⟩, .string ⟨#[]⟩, .bool false, .string ⟨#[]⟩, .string ⟨#[]⟩, .bool false, .string ⟨#[]⟩, .string ⟨#[]⟩, .slice none 0 0] [(0, (3,
 TT 38)), (3, (3, TT 42)), (6, (3, TT 46)), (9, (3, TT 50)), (12, (3, TT 54)), (15, (1, TT 57))]), OA 7 (.alloc 53 [.bool false, .string ⟨#[]⟩, .string ⟨#[]⟩, .bool false, .string ⟨#[]⟩, .string ⟨#[]⟩, .bool false, .string ⟨#[]⟩,
 .string ⟨#[]⟩, .bool false, .string ⟨#[]⟩, .string ⟨#[]⟩, .bool false, .string ⟨#[]⟩, .string ⟨#[]⟩, .slice none 0 0]), OB (.store 16 (TT 7) (TT 58))]) (.seq (.seq (.reg [MM 59 0, OA 60 (.call 80 [TT 59, II 3]), OA 61 (.bin .eql
 (TT 60) (II 2))]) (.cond (TT 61) (.reg [OA 62 (.call 84 [II (-1), II (-1)]), MM 63 6, OA 64 (.bin .add (TT 63) (II 1)), OA 65 (.call 84 [TT 64, II 0]), OA 66 (.call 84 [II (-1), II 1]), OA 67 (.bsl 44 6 3 [.bool false, .string
 ⟨#[]⟩, .string ⟨#[]⟩, .bool false, .string ⟨#[]⟩, .string ⟨#[]⟩] [(0, TT 62), (1, TT 65), (2, TT 66)]), FF 68 15 7, OB (.store 1 (TT 68) (TT 67))]) .skip)) (.reg [FF 69 11 5, VV 70 69, LL 71 16 7, OA 72 (.bsl 53 16 1 [.bool
 false, .string ⟨#[]⟩, .string ⟨#[]⟩, .bool false, .string ⟨#[]⟩, .string ⟨#[]⟩, .bool false, .string ⟨#[]⟩, .string ⟨#[]⟩, .bool false, .string ⟨#[]⟩, .string ⟨#[]⟩, .bool false, .string ⟨#[]⟩, .string ⟨#[]⟩, .slice none 0 0]
 [(0, TT 71)]), OA 73 (.app 53 16 224 (TT 70) (TT 72)), FF 74 11 5, OB (.store 1 (TT 74) (TT 73))]))))) (.reg [OA 75 (.bin .add (TT 31) (II 1)), MM 31 75]))))))) (.seq (.reg [LL 76 12 5, OB (.store 12 (TT 4) (TT 76))]) .ret))))⟩
theorem a9q : M9 eff Tryz.prog Tryz.f81 = some a4K := by kernel_rfl
theorem a8I : Tryz.prog.funcs[81]? = some Tryz.f81 := Tryz.func81
def a3Q : U3 := ⟨93, [.tmp 2], .seq (.reg [OA 2 (.mv (.const (.slice none 0 0)))]) (.seq (.reg [MM 5 0, OA 6 (.call 80 [TT 5, II 6]), OA 7 (.bin .add (II 1) (TT 6)), MM 8 0, OA 9 (.call 80 [TT 8, II 6]), OA 10 (.bin .add (II 1) (TT 9)), MM 3 7,
 MM 4 10]) (.seq (.seq (.reg [MM 11 0, OA 12 (.call 80 [TT 11, II 4])]) (.block 0 (.seq (.reg [OA 14 (.bin .eql (TT 12) (II 0)), MM 13 14]) (.cond (TT 13) (.seq (.reg [MM 15 3, OA 16 (.un .neg (TT 15)), MM 17 4, OA 18 (.un .neg
 (TT 17)), OA 19 (.call 84 [TT 16, TT 18]), MM 20 3, MM 21 4, OA 22 (.un .neg (TT 21)), OA 23 (.call 84 [TT 20, TT 22]), MM 24 3, MM 25 4, OA 26 (.call 84 [TT 24, TT 25]), MM 27 3, OA 28 (.un .neg (TT 27)), MM 29 4, OA 30 (.call
 84 [TT 28, TT 29]), OA 31 (.bsl 44 6 4 [.bool false, .string ⟨#[]⟩, .string ⟨#[]⟩, .bool false, .string ⟨#[]⟩, .string ⟨#[]⟩] [(0, TT 19), (1, TT 23), (2, TT 26), (3, TT 30)]), MM 2 31]) .ret) (.seq (.reg [OA 33 (.bin .eql (TT
 12) (II 1)), MM 32 33]) (.cond (TT 32) (.seq (.reg [MM 34 3, OA 35 (.un .neg (TT 34)), MM 36 4, OA 37 (.un .neg (TT 36)), OA 38 (.call 84 [TT 35, TT 37]), MM 39 3, MM 40 4, OA 41 (.un .neg (TT 40)), OA 42 (.call 84 [TT 39, TT
 41]), MM 43 0, MM 44 3, OA 45 (.bin .mul (II 2) (TT 44)), OA 46 (.bin .add (TT 45) (II 1)), OA 47 (.call 80 [TT 43, TT 46]), MM 48 3, OA 49 (.bin .sub (TT 47) (TT 48)), MM 50 4, OA 51 (.call 84 [TT 49, TT 50]), OA 52 (.bsl 44 6
 3 [.bool false, .string ⟨#[]⟩, .string ⟨#[]⟩, .bool false, .string ⟨#[]⟩, .string ⟨#[]⟩] [(0, TT 38), (1, TT 42), (2, TT 51)]), MM 2 52]) .ret) (.seq (.reg [OA 54 (.bin .eql (TT 12) (II 2)), MM 53 54]) (.cond (TT 53) (.seq (.reg
 [MM 55 3, OA 56 (.un .neg (TT 55)), OA 57 (.bin .sub (TT 56) (II 1)), MM 58 4, OA 59 (.un .neg (TT 58)), OA 60 (.bin .sub (TT 59) (II 1)), OA 61 (.call 84 [TT 57, TT 60]), MM 62 3, MM 63 4, OA 64 (.un .neg (TT 63)), OA 65 (.bin
 .sub (TT 64) (II 1)), OA 66 (.call 84 [TT 62, TT 65]), MM 67 3, OA 68 (.bin .add (TT 67) (II 1)), MM 69 4, OA 70 (.un .neg (TT 69)), OA 71 (.call 84 [TT 68, TT 70]), MM 72 3, OA 73 (.bin .add (TT 72) (II 1)), MM 74 4, OA 75
 (.call 84 [TT 73, TT 74]), MM 76 3, OA 77 (.un .neg (TT 76)), OA 78 (.bin .sub (TT 77) (II 1)), MM 79 4, OA 80 (.call 84 [TT 78, TT 79]), OA 81 (.bsl 44 6 5 [.bool false, .string ⟨#[]⟩, .string ⟨#[]⟩, .bool false, .string ⟨#[]⟩,
 .string ⟨#[]⟩] [(0, TT 61), (1, TT 66), (2, TT 71), (3, TT 75), (4, TT 80)]), MM 2 81]) .ret) .skip)))))))) (.seq (.reg [MM 82 3, OA 83 (.un .neg (TT 82)), OA 84 (.call 84 [TT 83, II 0]), MM 85 4, OA 86 (.un .neg (TT 85)), OA 87
 (.call 84 [II 0, TT 86]), MM 88 3, OA 89 (.call 84 [TT 88, II 0]), MM 90 4, OA 91 (.call 84 [II 0, TT 90]), OA 92 (.bsl 44 6 4 [.bool false, .string ⟨#[]⟩, .string ⟨#[]⟩, .bool false, .string ⟨#[]⟩, .string ⟨#[]⟩] [(0, TT 84),
 (1, TT 87), (2, TT 89), (3, TT 91)]), MM 2 92]) .ret)))⟩
theorem a8i : M9 eff Tryz.prog Tryz.f83 = some a3Q := by kernel_rfl
theorem a8m : Tryz.prog.funcs[83]? = some Tryz.f83 := Tryz.func83
def Y3 (b : UInt8) : Bool := decide (97 <= b.toNat) && decide (b.toNat <= 122)
theorem b0x {s : List UInt8} {i : Nat} (hi : i < s.length) (h : Y3 s[i] = false) : a1v s = false := by
 unfold a1v
 have : (s.all fun b => decide (97 <= b.toNat) && decide (b.toNat <= 122)) = false := by
  rw [List.all_eq_false]
  exact ⟨s[i], c2Z hi, by unfold Y3 at h; rw [h]; decide⟩
 rw [this]
 rfl
theorem b1P {s : List UInt8} (h : ∀ j (h : j < s.length), Y3 s[j] = true) : a1v s = (decide (1 <= s.length) && decide (s.length <= 12)) := by
 unfold a1v
 have : (s.all fun b => decide (97 <= b.toNat) && decide (b.toNat <= 122)) = true := by
  rw [List.all_eq_true]
  intro x hx
  obtain ⟨j, hj, rfl⟩ := List.mem_iff_getElem.1 hx
  exact h j hj
 rw [this, Bool.true_and]
theorem b8d (s : List UInt8) (hs : s.length <= 1099511627776) : G5 Tryz.prog 87 [sb s] (.v (.bool (a1v s))) := by
  refine kS Tryz.func87 (by cbv) (by rfl) fun w O => ?_
  simp only [l6, sb]
  (repeat first | refine uA ?_ | (refine uK ?_ ?_; focus first | omega | (intros; simp_all <;> omega)) | simp (disch := omega) only [go_sem, Nat.reduceBEq, Nat.reduceAdd, ww, E5])
  refine S.loop (X := Nat) (fun i => ⟨[(0, sb s), (5, ints s.length), (6, ints i)], []⟩) (fun i => i <= s.length /\ ∀ j (h : j < s.length), j < i -> Y3 s[j] = true) (fun i => s.length - i) 0 ⟨c2T _, fun _ _ h => absurd h (Nat.not_lt_zero _)⟩ (by (repeat first | refine uA ?_ | (refine ⟨?_, ?_⟩; focus first | rfl | simp [slot]) | rfl | simp)) ?_
  rintro i ⟨hi, hg⟩
  simp only [sb, ints]
  (repeat first | refine uA ?_ | (refine uK ?_ ?_; focus first | omega | (intros; simp_all <;> omega)) | simp (disch := omega) only [go_sem, Nat.reduceBEq, Nat.reduceAdd, ww])
  (refine uJ rfl (fun hc => ?_) fun hc => ?_)
  · have hi' : i < s.length := by omega
    have hgi : s.getD i 0 = s[i] := by rw [c2Y, c2M hi']; rfl
    (repeat first | refine uA ?_ | (refine uK ?_ ?_; focus first | omega | (intros; simp_all <;> omega)) | simp (disch := omega) only [go_sem, Nat.reduceBEq, Nat.reduceAdd, ww, E5, R8, hgi, c2X])
    refine S.cond rfl (fun hc => ?_) (fun hc => ?_)
    · have hl : Y3 s[i] = false := by
        unfold Y3
        simp only [c3C, c2U] at hc
        rw [Bool.and_eq_false_iff, c3b, c3b]
        omega
      rw [b0x hi' hl]
      (repeat first | refine uA ?_ | (refine uK ?_ ?_; focus first | omega | (intros; simp_all <;> omega)) | simp (disch := omega) only [go_sem, Nat.reduceBEq, Nat.reduceAdd, ww])
      exact S.done (j3.out rfl (Imp.refl rfl) rfl)
    · have hl : Y3 s[i] = true := by
        unfold Y3
        simp only [c3r, c3b] at hc
        rw [c2S, c2U, c2U]
        omega
      (repeat first | refine uA ?_ | (refine uK ?_ ?_; focus first | omega | (intros; simp_all <;> omega)) | simp (disch := omega) only [go_sem, Nat.reduceBEq, Nat.reduceAdd, ww])
      refine S.next (i + 1) ⟨by omega, fun j h hj => ?_⟩ (by omega) (by (repeat first | refine uA ?_ | (refine ⟨?_, ?_⟩; focus first | rfl | simp [slot]) | rfl | simp))
      rcases c3n j i with h1 | h1
      · exact hg j h h1
      · have : j = i := by omega
        subst this
        exact hl
  · have hi' : i = s.length := by omega
    subst hi'
    have e1 : decide ((1 : Int) <= (s.length : Int)) = decide (1 <= s.length) := decide_eq_decide.2 (by omega)
    have e2 : decide ((s.length : Int) <= 12) = decide (s.length <= 12) := decide_eq_decide.2 (by omega)
    rw [b1P fun j h => hg j h h]
    (repeat first | refine uA ?_ | (refine uK ?_ ?_; focus first | omega | (intros; simp_all <;> omega)) | simp (disch := omega) only [go_sem, Nat.reduceBEq, Nat.reduceAdd, ww, E5, e1, e2])
    (try simp only [e1, e2, go_sem])
    exact S.done (j3.out rfl (Imp.refl rfl) rfl)
theorem b9M (s : List UInt8) (hs : s.length <= 1099511627776) : G5 Tryz.prog 90 [sb s] (.v (.bool (a1v s))) := by
  refine kS Tryz.func90 (by cbv) (by rfl) fun w O => ?_
  simp only [l6, sb]
  (repeat first | refine uA ?_ | (refine uK ?_ ?_; focus first | omega | (intros; simp_all <;> omega)) | simp (disch := omega) only [go_sem, Nat.reduceBEq, Nat.reduceAdd, ww, E5])
  refine S.loop (X := Nat) (fun i => ⟨[(0, sb s), (5, ints s.length), (6, ints i)], []⟩) (fun i => i <= s.length /\ ∀ j (h : j < s.length), j < i -> Y3 s[j] = true) (fun i => s.length - i) 0 ⟨c2T _, fun _ _ h => absurd h (Nat.not_lt_zero _)⟩ (by (repeat first | refine uA ?_ | (refine ⟨?_, ?_⟩; focus first | rfl | simp [slot]) | rfl | simp)) ?_
  rintro i ⟨hi, hg⟩
  simp only [sb, ints]
  (repeat first | refine uA ?_ | (refine uK ?_ ?_; focus first | omega | (intros; simp_all <;> omega)) | simp (disch := omega) only [go_sem, Nat.reduceBEq, Nat.reduceAdd, ww])
  (refine uJ rfl (fun hc => ?_) fun hc => ?_)
  · have hi' : i < s.length := by omega
    have hgi : s.getD i 0 = s[i] := by rw [c2Y, c2M hi']; rfl
    (repeat first | refine uA ?_ | (refine uK ?_ ?_; focus first | omega | (intros; simp_all <;> omega)) | simp (disch := omega) only [go_sem, Nat.reduceBEq, Nat.reduceAdd, ww, E5, R8, hgi, c2X])
    refine S.cond rfl (fun hc => ?_) (fun hc => ?_)
    · have hl : Y3 s[i] = false := by
        unfold Y3
        simp only [c3C, c2U] at hc
        rw [Bool.and_eq_false_iff, c3b, c3b]
        omega
      rw [b0x hi' hl]
      (repeat first | refine uA ?_ | (refine uK ?_ ?_; focus first | omega | (intros; simp_all <;> omega)) | simp (disch := omega) only [go_sem, Nat.reduceBEq, Nat.reduceAdd, ww])
      exact S.done (j3.out rfl (Imp.refl rfl) rfl)
    · have hl : Y3 s[i] = true := by
        unfold Y3
        simp only [c3r, c3b] at hc
        rw [c2S, c2U, c2U]
        omega
      (repeat first | refine uA ?_ | (refine uK ?_ ?_; focus first | omega | (intros; simp_all <;> omega)) | simp (disch := omega) only [go_sem, Nat.reduceBEq, Nat.reduceAdd, ww])
      refine S.next (i + 1) ⟨by omega, fun j h hj => ?_⟩ (by omega) (by (repeat first | refine uA ?_ | (refine ⟨?_, ?_⟩; focus first | rfl | simp [slot]) | rfl | simp))
      rcases c3n j i with h1 | h1
      · exact hg j h h1
      · have : j = i := by omega
        subst this
        exact hl
  · have hi' : i = s.length := by omega
    subst hi'
    have e1 : decide ((1 : Int) <= (s.length : Int)) = decide (1 <= s.length) := decide_eq_decide.2 (by omega)
    have e2 : decide ((s.length : Int) <= 12) = decide (s.length <= 12) := decide_eq_decide.2 (by omega)
    rw [b1P fun j h => hg j h h]
    (repeat first | refine uA ?_ | (refine uK ?_ ?_; focus first | omega | (intros; simp_all <;> omega)) | simp (disch := omega) only [go_sem, Nat.reduceBEq, Nat.reduceAdd, ww, E5, e1, e2])
    (try simp only [e1, e2, go_sem])
    exact S.done (j3.out rfl (Imp.refl rfl) rfl)
theorem a8g (l : List Nm.Rt) (hl : Rbs 17179869184 l) : FZ 88 [rts l] (.v (.bool (l.all j4))) := by
  refine kW Tryz.func88 (by cbv) (by rfl) fun w O hw => ?_
  obtain ⟨hn, hb⟩ := hl
  simp only [l6, rts]
  (repeat first | refine uA ?_ | (refine uK ?_ ?_; focus first | omega | (intros; simp_all <;> omega)) | simp (disch := omega) only [go_sem, Nat.reduceBEq, Nat.reduceAdd, ww, c2N])
  refine S.loop (X := Nat) (fun i => ⟨[(5, rts l), (6, ints l.length), (7, ints i)], []⟩) (fun i => i <= l.length /\ l.all j4 = (l.drop i).all j4) (fun i => l.length - i) 0 ⟨c2T _, rfl⟩ (by (repeat first | refine uA ?_ | (refine ⟨?_, ?_⟩; focus first | rfl | simp [slot]) | rfl | simp)) ?_
  rintro i ⟨hi, hg⟩
  simp only [rts, ints]
  (repeat first | refine uA ?_ | (refine uK ?_ ?_; focus first | omega | (intros; simp_all <;> omega)) | simp (disch := omega) only [go_sem, Nat.reduceBEq, Nat.reduceAdd, ww])
  (refine uJ rfl (fun hc => ?_) fun hc => ?_)
  · have hi' : i < l.length := by omega
    have hgi := c2M hi'
    generalize l[i] = x at hgi
    have hd := drop_at hgi
    have hs := a3L x (hb x (c2P hgi))
    simp only [rc] at hs
    simp only [sb] at hs
    (repeat first | refine uA ?_ | (refine uK ?_ ?_; focus first | omega | (intros; simp_all <;> omega)) | simp (disch := omega) only [go_sem, Nat.reduceBEq, Nat.reduceAdd, ww, hgi, c2O, c2N, rcs, sb] | (refine uD hs ?_ ?_ ?_; exact tz hw; exact rfl))
    refine S.cond rfl (fun hc => ?_) (fun hc => ?_)
    · have : l.all j4 = false := by
        rw [hg, hd, List.all_cons]
        simp only [Bool.not_eq_true'] at hc
        rw [hc]; rfl
      rw [this]
      (repeat first | refine uA ?_ | (refine uK ?_ ?_; focus first | omega | (intros; simp_all <;> omega)) | simp (disch := omega) only [go_sem, Nat.reduceBEq, Nat.reduceAdd, ww])
      exact S.done (j3.out rfl (Imp.refl rfl) rfl)
    · (repeat first | refine uA ?_ | (refine uK ?_ ?_; focus first | omega | (intros; simp_all <;> omega)) | simp (disch := omega) only [go_sem, Nat.reduceBEq, Nat.reduceAdd, ww])
      refine S.next (i + 1) ⟨by omega, ?_⟩ (by omega) (by (repeat first | refine uA ?_ | (refine ⟨?_, ?_⟩; focus first | rfl | simp [slot]) | rfl | simp))
      rw [hg, hd, List.all_cons]
      simp only [Bool.not_eq_false'] at hc
      rw [hc]; rfl
  · have : l.all j4 = true := by rw [hg, List.drop_eq_nil_of_le (by omega)]; rfl
    rw [this]
    (repeat first | refine uA ?_ | (refine uK ?_ ?_; focus first | omega | (intros; simp_all <;> omega)) | simp (disch := omega) only [go_sem, Nat.reduceBEq, Nat.reduceAdd, ww])
    exact S.done (j3.out rfl (Imp.refl rfl) rfl)
namespace Eng
def frS (fr : List (Nat × C)) : List (Nat × C) -> Prop
 | [] => True
 | (t, s) :: r => (s = .junk \/ slot fr t = s) /\ frS fr r
theorem b2Q {fr : List (Nat × C)} : ∀ {fr' : List (Nat × C)}, frS fr fr' -> ∀ t, slot fr' t = .junk \/ slot fr t = slot fr' t
 | [], _, t => .inl rfl
 | (u, s) :: r, h, t => by
  simp only [slot]
  cases hb : (u == t) with
  | true =>
   have : u = t := by simpa using hb
   subst this
   exact h.1
  | false => exact b2Q h.2 t
theorem Ent.fr {E : Ctx} {fr fr' : List (Nat × C)} {rs rs' : List Res} (h : rs = rs') (hf : frS fr fr') : Ent E ⟨fr, rs⟩ ⟨fr', rs'⟩ := by
 subst h
 intro wf ν a w hG
 refine ⟨ν, hG.dfr, hG.size, fun t => ?_, hG.rg, hG.frm, hG.nu⟩
 rcases b2Q hf t with e | e
 ·rw [e]; simp only [Den]
 ·rw [<- e]; exact hG.fr t
end Eng
def a3r {α : Type} (p : α -> Bool) (l : List α) : Int := match l.findIdx? p with | some i => i | none => -1
theorem a7Z {α : Type} {p : α -> Bool} {l : List α} {i : Nat} {x : α} (h : l[i]? = some x) (hp : p x = true) (hm : ∀ j, j < i -> ∀ y, l[j]? = some y -> p y = false) : a3r p l = i := by
 obtain ⟨hi, rfl⟩ := c2R.1 h
 have : l.findIdx? p = some i := by
  rw [List.findIdx?_eq_some_iff_getElem]
  refine ⟨hi, hp, fun j hj => ?_⟩
  simp [hm j hj l[j] (c2M _)]
 unfold a3r
 rw [this]
theorem a6B {α : Type} {p : α -> Bool} {l : List α} (hm : ∀ j, j < l.length -> ∀ y, l[j]? = some y -> p y = false) : a3r p l = -1 := by
 have : l.findIdx? p = none := by
  rw [List.findIdx?_eq_none_iff]
  intro x hx
  obtain ⟨j, hj⟩ := List.mem_iff_getElem?.1 hx
  exact hm j (c2R.1 hj).1 x hj
 unfold a3r
 rw [this]
theorem a8w {α : Type} (p : α -> Bool) (l : List α) : decide (0 <= a3r p l) = l.any p := by
 unfold a3r
 cases h : l.findIdx? p with
 | none =>
  rw [List.findIdx?_eq_none_iff] at h
  have : l.any p = false := by rw [List.any_eq_false]; intro x hx; simp [h x hx]
  rw [this]; rfl
 | some i =>
  rw [List.findIdx?_eq_some_iff_getElem] at h
  obtain ⟨h1, h2, _⟩ := h
  have : l.any p = true := by rw [List.any_eq_true]; exact ⟨_, c2Z h1, h2⟩
  rw [this]
  exact decide_eq_true (show (0 : Int) <= (i : Int) by omega)
theorem b8E (g : Nat) (hcal : callable Tryz.prog g = true) (p : Vt -> Bool) (l : List Vt) (hn : l.length <= 1099511627776) (hg : ∀ x ∈ l, FZ g [x.c] (.v (.bool (p x)))) :
  FZ 98 [vts l, .v (.func (.func g) #[] #[])] (ints (a3r p l)) := by
 refine kW Tryz.func98 (by cbv) (by rfl) fun w O hw => ?_
 simp only [l6, vts]
 (repeat first | refine uA ?_ | (refine uK ?_ ?_; focus first | omega | (intros; simp_all <;> omega)) | simp (disch := omega) only [go_sem, Nat.reduceBEq, Nat.reduceAdd, ww, c2N])
 refine S.loop (X := Nat) (fun i => ⟨[(0, vts l), (1, .v (.func (.func g) #[] #[])), (7, ints l.length), (8, ints i)], []⟩) (fun i => i <= l.length /\ ∀ j, j < i -> ∀ x, l[j]? = some x -> p x = false) (fun i => l.length - i) 0 ⟨c2T _, fun _ h => absurd h (Nat.not_lt_zero _)⟩ (by (repeat first | refine uA ?_ | (refine ⟨?_, ?_⟩; focus first | rfl | simp [slot]) | rfl | simp)) ?_
 rintro i ⟨hi, hm⟩
 simp only [vts, ints]
 (repeat first | refine uA ?_ | (refine uK ?_ ?_; focus first | omega | (intros; simp_all <;> omega)) | simp (disch := omega) only [go_sem, Nat.reduceBEq, Nat.reduceAdd, ww])
 (refine uJ rfl (fun hc => ?_) fun hc => ?_)
 ·have hi' : i < l.length := by omega
  have hgi := c2M hi'
  generalize l[i] = x at hgi
  have hs := hg x (c2P hgi)
  simp only [Vt.c, Vt.enc, sb] at hs
  (repeat first | refine uA ?_ | (refine uK ?_ ?_; focus first | omega | (intros; simp_all <;> omega)) | simp (disch := omega) only [go_sem, Nat.reduceBEq, Nat.reduceAdd, ww, hgi, c2O, c2N, Vt.c, Vt.enc, sb, c2X, hcal] | (refine uD hs ?_ ?_ ?_; exact tz hw; exact rfl))
  refine S.cond rfl (fun hc2 => ?_) (fun hc2 => ?_)
  ·rw [a7Z hgi hc2 hm]
   (repeat first | refine uA ?_ | (refine uK ?_ ?_; focus first | omega | (intros; simp_all <;> omega)) | simp (disch := omega) only [go_sem, Nat.reduceBEq, Nat.reduceAdd, ww])
   exact S.done (j3.out rfl (Imp.refl rfl) rfl)
  ·(repeat first | refine uA ?_ | (refine uK ?_ ?_; focus first | omega | (intros; simp_all <;> omega)) | simp (disch := omega) only [go_sem, Nat.reduceBEq, Nat.reduceAdd, ww])
   refine S.next (i + 1) ⟨by omega, fun j hj y hy => ?_⟩ (by omega) (by (repeat first | refine uA ?_ | (refine ⟨?_, ?_⟩; focus first | rfl | simp [slot]) | rfl | simp))
   rcases c3n j i with h1 | h1
   ·exact hm j h1 y hy
   ·have : j = i := by omega
    subst this
    rw [hgi] at hy
    cases hy
    exact hc2
 ·have hi' : i = l.length := by omega
  subst hi'
  rw [a6B hm]
  (repeat first | refine uA ?_ | (refine uK ?_ ?_; focus first | omega | (intros; simp_all <;> omega)) | simp (disch := omega) only [go_sem, Nat.reduceBEq, Nat.reduceAdd, ww])
  exact S.done (j3.out rfl (Imp.refl rfl) rfl)
theorem b2D (g : Nat) (hcal : callable Tryz.prog g = true) (p : Vt -> Bool) (l : List Vt) (hn : l.length <= 1099511627776) (hg : ∀ x ∈ l, FZ g [x.c] (.v (.bool (p x)))) :
  FZ 47 [vts l, .v (.func (.func g) #[] #[])] (.v (.bool (l.any p))) := by
 refine kW Tryz.func47 (by cbv) (by rfl) fun w O hw => ?_
 have h := b8E g hcal p l hn hg
 have e := a8w p l
 generalize a3r p l = n at *
 simp only [l6]
 simp only [vts, ints] at *
 (repeat first | refine uA ?_ | (refine uK ?_ ?_; focus first | omega | (intros; simp_all <;> omega)) | simp (disch := omega) only [go_sem, Nat.reduceBEq, Nat.reduceAdd, ww] | (refine uD h ?_ ?_ ?_; exact tz hw; exact rfl))
 rw [e]
 exact S.done (j3.out rfl (Imp.refl rfl) rfl)
theorem b8v (g : Nat) (hcal : callable Tryz.prog g = true) (p : Nm.Rt -> Bool) (l : List Nm.Rt) (hn : l.length <= 1099511627776) (hg : ∀ x ∈ l, FZ g [rc x] (.v (.bool (p x)))) :
  FZ 116 [rts l, .v (.func (.func g) #[] #[])] (ints (a3r p l)) := by
 refine kW Tryz.func116 (by cbv) (by rfl) fun w O hw => ?_
 simp only [l6, rts]
 (repeat first | refine uA ?_ | (refine uK ?_ ?_; focus first | omega | (intros; simp_all <;> omega)) | simp (disch := omega) only [go_sem, Nat.reduceBEq, Nat.reduceAdd, ww, c2N])
 refine S.loop (X := Nat) (fun i => ⟨[(0, rts l), (1, .v (.func (.func g) #[] #[])), (7, ints l.length), (8, ints i)], []⟩) (fun i => i <= l.length /\ ∀ j, j < i -> ∀ x, l[j]? = some x -> p x = false) (fun i => l.length - i) 0 ⟨c2T _, fun _ h => absurd h (Nat.not_lt_zero _)⟩ (by (repeat first | refine uA ?_ | (refine ⟨?_, ?_⟩; focus first | rfl | simp [slot]) | rfl | simp)) ?_
 rintro i ⟨hi, hm⟩
 simp only [rts, ints]
 (repeat first | refine uA ?_ | (refine uK ?_ ?_; focus first | omega | (intros; simp_all <;> omega)) | simp (disch := omega) only [go_sem, Nat.reduceBEq, Nat.reduceAdd, ww])
 (refine uJ rfl (fun hc => ?_) fun hc => ?_)
 ·have hi' : i < l.length := by omega
  have hgi := c2M hi'
  generalize l[i] = x at hgi
  have hs := hg x (c2P hgi)
  simp only [rc, rcs, sb] at hs
  (repeat first | refine uA ?_ | (refine uK ?_ ?_; focus first | omega | (intros; simp_all <;> omega)) | simp (disch := omega) only [go_sem, Nat.reduceBEq, Nat.reduceAdd, ww, hgi, c2O, c2N, rc, rcs, sb, c2X, hcal] | (refine uD hs ?_ ?_ ?_; exact tz hw; exact rfl))
  refine S.cond rfl (fun hc2 => ?_) (fun hc2 => ?_)
  ·rw [a7Z hgi hc2 hm]
   (repeat first | refine uA ?_ | (refine uK ?_ ?_; focus first | omega | (intros; simp_all <;> omega)) | simp (disch := omega) only [go_sem, Nat.reduceBEq, Nat.reduceAdd, ww])
   exact S.done (j3.out rfl (Imp.refl rfl) rfl)
  ·(repeat first | refine uA ?_ | (refine uK ?_ ?_; focus first | omega | (intros; simp_all <;> omega)) | simp (disch := omega) only [go_sem, Nat.reduceBEq, Nat.reduceAdd, ww])
   refine S.next (i + 1) ⟨by omega, fun j hj y hy => ?_⟩ (by omega) (by (repeat first | refine uA ?_ | (refine ⟨?_, ?_⟩; focus first | rfl | simp [slot]) | rfl | simp))
   rcases c3n j i with h1 | h1
   ·exact hm j h1 y hy
   ·have : j = i := by omega
    subst this
    rw [hgi] at hy
    cases hy
    exact hc2
 ·have hi' : i = l.length := by omega
  subst hi'
  rw [a6B hm]
  (repeat first | refine uA ?_ | (refine uK ?_ ?_; focus first | omega | (intros; simp_all <;> omega)) | simp (disch := omega) only [go_sem, Nat.reduceBEq, Nat.reduceAdd, ww])
  exact S.done (j3.out rfl (Imp.refl rfl) rfl)
theorem b2m (g : Nat) (hcal : callable Tryz.prog g = true) (p : Nm.Rt -> Bool) (l : List Nm.Rt) (hn : l.length <= 1099511627776) (hg : ∀ x ∈ l, FZ g [rc x] (.v (.bool (p x)))) :
  FZ 70 [rts l, .v (.func (.func g) #[] #[])] (.v (.bool (l.any p))) := by
 refine kW Tryz.func70 (by cbv) (by rfl) fun w O hw => ?_
 have h := b8v g hcal p l hn hg
 have e := a8w p l
 generalize a3r p l = n at *
 simp only [l6]
 simp only [rts, ints] at *
 (repeat first | refine uA ?_ | (refine uK ?_ ?_; focus first | omega | (intros; simp_all <;> omega)) | simp (disch := omega) only [go_sem, Nat.reduceBEq, Nat.reduceAdd, ww] | (refine uD h ?_ ?_ ?_; exact tz hw; exact rfl))
 rw [e]
 exact S.done (j3.out rfl (Imp.refl rfl) rfl)
theorem b5w (g : Nat) (hcal : callable Tryz.prog g = true) (p : Fr -> Bool) (l : List Fr) (hn : l.length <= 1099511627776) (hg : ∀ x ∈ l, FZ g [x.c] (.v (.bool (p x)))) :
  FZ 97 [frs l, .v (.func (.func g) #[] #[])] (ints (a3r p l)) := by
 refine kW Tryz.func97 (by cbv) (by rfl) fun w O hw => ?_
 simp only [l6, frs]
 (repeat first | refine uA ?_ | (refine uK ?_ ?_; focus first | omega | (intros; simp_all <;> omega)) | simp (disch := omega) only [go_sem, Nat.reduceBEq, Nat.reduceAdd, ww, c2N])
 refine S.loop (X := Nat) (fun i => ⟨[(0, frs l), (1, .v (.func (.func g) #[] #[])), (7, ints l.length), (8, ints i)], []⟩) (fun i => i <= l.length /\ ∀ j, j < i -> ∀ x, l[j]? = some x -> p x = false) (fun i => l.length - i) 0 ⟨c2T _, fun _ h => absurd h (Nat.not_lt_zero _)⟩ (by (repeat first | refine uA ?_ | (refine ⟨?_, ?_⟩; focus first | rfl | simp [slot]) | rfl | simp)) ?_
 rintro i ⟨hi, hm⟩
 simp only [frs, ints]
 (repeat first | refine uA ?_ | (refine uK ?_ ?_; focus first | omega | (intros; simp_all <;> omega)) | simp (disch := omega) only [go_sem, Nat.reduceBEq, Nat.reduceAdd, ww])
 (refine uJ rfl (fun hc => ?_) fun hc => ?_)
 ·have hi' : i < l.length := by omega
  have hgi := c2M hi'
  generalize l[i] = x at hgi
  have hs := hg x (c2P hgi)
  simp only [Fr.c, Fr.enc, sb] at hs
  (repeat first | refine uA ?_ | (refine uK ?_ ?_; focus first | omega | (intros; simp_all <;> omega)) | simp (disch := omega) only [go_sem, Nat.reduceBEq, Nat.reduceAdd, ww, hgi, c2O, c2N, Fr.c, Fr.enc, sb, c2X, hcal] | (refine uD hs ?_ ?_ ?_; exact tz hw; exact rfl))
  refine S.cond rfl (fun hc2 => ?_) (fun hc2 => ?_)
  ·rw [a7Z hgi hc2 hm]
   (repeat first | refine uA ?_ | (refine uK ?_ ?_; focus first | omega | (intros; simp_all <;> omega)) | simp (disch := omega) only [go_sem, Nat.reduceBEq, Nat.reduceAdd, ww])
   exact S.done (j3.out rfl (Imp.refl rfl) rfl)
  ·(repeat first | refine uA ?_ | (refine uK ?_ ?_; focus first | omega | (intros; simp_all <;> omega)) | simp (disch := omega) only [go_sem, Nat.reduceBEq, Nat.reduceAdd, ww])
   refine S.next (i + 1) ⟨by omega, fun j hj y hy => ?_⟩ (by omega) (by (repeat first | refine uA ?_ | (refine ⟨?_, ?_⟩; focus first | rfl | simp [slot]) | rfl | simp))
   rcases c3n j i with h1 | h1
   ·exact hm j h1 y hy
   ·have : j = i := by omega
    subst this
    rw [hgi] at hy
    cases hy
    exact hc2
 ·have hi' : i = l.length := by omega
  subst hi'
  rw [a6B hm]
  (repeat first | refine uA ?_ | (refine uK ?_ ?_; focus first | omega | (intros; simp_all <;> omega)) | simp (disch := omega) only [go_sem, Nat.reduceBEq, Nat.reduceAdd, ww])
  exact S.done (j3.out rfl (Imp.refl rfl) rfl)
theorem b5K (g : Nat) (hcal : callable Tryz.prog g = true) (p : Fr -> Bool) (l : List Fr) (hn : l.length <= 1099511627776) (hg : ∀ x ∈ l, FZ g [x.c] (.v (.bool (p x)))) :
  FZ 44 [frs l, .v (.func (.func g) #[] #[])] (.v (.bool (l.any p))) := by
 refine kW Tryz.func44 (by cbv) (by rfl) fun w O hw => ?_
 have h := b5w g hcal p l hn hg
 have e := a8w p l
 generalize a3r p l = n at *
 simp only [l6]
 simp only [frs, ints] at *
 (repeat first | refine uA ?_ | (refine uK ?_ ?_; focus first | omega | (intros; simp_all <;> omega)) | simp (disch := omega) only [go_sem, Nat.reduceBEq, Nat.reduceAdd, ww] | (refine uD h ?_ ?_ ?_; exact tz hw; exact rfl))
 rw [e]
 exact S.done (j3.out rfl (Imp.refl rfl) rfl)
end Go.Proofs.YtgmlehjgpgdjhaaGreatDoor
