/- A part of the proof: lemmas only, with the conditions that each names. -/
import Derived.Test.YtpjjiegfigpgnaaGreatDoorProg
import Derived.KernelRfl
import Derived.Test.YtpjjiegfigpgnaaGreatDoorPk3
set_option linter.all false
namespace Go.Proofs.YtpjjiegfigpgnaaGreatDoor
open Go Go.RowKit Eng
set_option maxRecDepth 10000
set_option maxHeartbeats 4000000
theorem b6J (i : Nat) (h : i <= 70368744177664) : IntKind.i64.wrap ((i : Int).tdiv 64) = ((i / 64 : Nat) : Int) := by
 have : (i : Int).tdiv 64 = ((i / 64 : Nat) : Int) := rfl
 rw [this, Eng.wrap_i64 (by omega)]
theorem b5n (i : Nat) : (i : Int).tmod 64 = ((i % 64 : Nat) : Int) := rfl
theorem a8i (o n : Nat) (ho : o < 18446744073709551616) : bits .or .u64 (o : Int) (((n % 18446744073709551616 : Nat)) : Int) = ((o ||| n % 18446744073709551616 : Nat) : Int) := a6a _ _ ho (Nat.mod_lt _ (by decide))
theorem a7h (x r : Nat) (hr : r <= 64) : IntKind.u64.wrap ((x : Int) * 2 ^ min r 64) = ((x * 2 ^ r % 18446744073709551616 : Nat) : Int) := by
 rw [show min r 64 = r by omega, <- a2q]; congr 1
theorem a4S {E : Ctx} (hP : E.P = Tryz.prog) (s : Bool) (u o : List Nat) (lo n by' z : Nat) (hl : u.length <= 274877906944) (hn : lo + n <= u.length) (hb : by' <= 70368744177664)
  (hu : Nm.I5 u) (hz : z ≠ 0) (hX : Nm.wv 18446744073709551616 ((u.drop lo).take n) = z * 2 ^ by') :
  by' / 64 < n /\ z < 18446744073709551616 ^ (n - by' / 64) /\ l7 E (rw2 s u o) 209 [.wv (kx s) 1 lo n, ints by'] (.wv (kx s) 1 (lo + by' / 64) (Nm.E5 (Nm.dig 18446744073709551616 (n - by' / 64) z)).length) (rw2 s (put u (lo + by' / 64) (Nm.dig 18446744073709551616 (n - by' / 64) z)) o) [] := by
 have hul : ((u.drop lo).take n).length = n := by rw [b8i, b8I]; omega
 have hua : Nm.I5 ((u.drop lo).take n) := (hu.drop lo).take _
 have e2 : 2 ^ by' = 18446744073709551616 ^ (by' / 64) * 2 ^ (by' % 64) := by
  rw [show (18446744073709551616 : Nat) = 2 ^ 64 by decide, <- Nat.pow_mul, <- Nat.pow_add]; congr 1; omega
 have hjn : by' / 64 < n := by
  rcases b8s (by' / 64) n with h | h
  ·exact h
  ·exfalso
   have h1 := Nm.H9 18446744073709551616 hua
   have h2 : 18446744073709551616 ^ n <= 18446744073709551616 ^ (by' / 64) := b8x (by decide) h
   have h3 : 18446744073709551616 ^ (by' / 64) <= 2 ^ by' := by rw [e2]; exact Nat.le_mul_of_pos_right _ (Nat.pow_pos (by decide))
   have h4 : 2 ^ by' <= z * 2 ^ by' := Nat.le_mul_of_pos_left _ (by omega)
   rw [hul] at h1
   omega
 have hdr : ((u.drop lo).take n).drop (by' / 64) = (u.drop (lo + by' / 64)).take (n - by' / 64) := by
  rw [List.drop_take, List.drop_drop]
 have hW1 : Nm.wv 18446744073709551616 ((u.drop (lo + by' / 64)).take (n - by' / 64)) = z * 2 ^ (by' % 64) := by
  rw [<- hdr, Nm.b0G hua (by omega), hX, e2, <- b8B, Nat.mul_comm z, b8B, Nat.mul_comm (18446744073709551616 ^ _) (z * _), Nat.mul_div_cancel _ (Nat.pow_pos (by decide))]
 have hb64 : by' % 64 < 64 := Nat.mod_lt _ (by decide)
 have hjb : by' / 64 <= 1099511627776 := by omega
 clear hdr hX e2
 have hq1 := b6J by' hb
 have hq2 := b5n by'
 generalize by' / 64 = j at *
 generalize by' % 64 = b at *
 generalize hp : n - j = p at *
 generalize hl1 : lo + j = l1 at *
 have hlp : l1 + p <= u.length := by omega
 have hp0 : 0 < p := by omega
 have hpn : n - j = p := hp
 have hua1 : Nm.I5 ((u.drop l1).take p) := (hu.drop l1).take _
 have hps : put u l1 ((u.drop l1).take p) = u := a2j hlp
 have hrl : ((u.drop l1).take p).length = p := by rw [b8i, b8I]; omega
 generalize (u.drop l1).take p = r0 at *
 have hzl : z < 18446744073709551616 ^ p := by
  have h1 := Nm.H9 18446744073709551616 hua1
  rw [hrl, hW1] at h1
  exact Nat.lt_of_le_of_lt (Nat.le_mul_of_pos_right _ (Nat.pow_pos (by decide))) h1
 refine ⟨hjn, hzl, ?_⟩
 clear hul hua
 obtain ⟨P, eff', N, w0, own0, av0, nu0, pk0⟩ := E
 simp only at hP
 subst hP
 cases s
 all_goals
  refine l7.of (eff := eff) Tryz.func209 (by cbv) (by exact b8q rfl) fun w own av ν hν => ?_
  simp only [j6, rw2, kx, ints]
  have hν0 : ν.length <= 2 := by rw [hν]; exact b8f _
  (repeat first | refine uA ?_ | (refine uK ?_ ?_; focus first | omega | trivial | (intro h; rw [h]; rfl) | (intro h h2; rw [h, h2]; rfl) | (intro h; (try simp at h); omega) | (intros; simp_all <;> omega)) | simp only [go_sem, Nat.reduceBEq, Nat.reduceAdd, Nat.reduceLeDiff, Int.reduceToNat, Int.reducePow, hq1, hq2, q9, hl1, hpn] | simp (disch := omega) only [ww, hq1, hq2, q9, hl1, hpn])
  (refine uJ rfl (fun hc => ?_) fun hc => ?_)
 ·(repeat first | refine uA ?_ | (refine uK ?_ ?_; focus first | omega | trivial | (intro h; rw [h]; rfl) | (intro h h2; rw [h, h2]; rfl) | (intro h; (try simp at h); omega) | (intros; simp_all <;> omega)) | simp only [go_sem, Nat.reduceBEq, Nat.reduceAdd, Nat.reduceLeDiff, Int.reduceToNat, Int.reducePow] | simp (disch := omega) only [ww])
  refine S.loop (X := Nat × List Nat) (fun s => ⟨[(0, .wv 1 1 l1 p), (1, ints b), (15, ints p), (16, ints s.1)], [.row 160 1 (ls o), .row 160 1 (ls (put u l1 s.2))]⟩) (fun s => s.1 <= p /\ Nm.a0w r0 (2 ^ b) s.1 s.2) (fun s => p - s.1) (0, r0) ⟨b8b _, Nm.a2N hua1⟩ (by simp only [hps]; exact Ent.mk _ _ (by (repeat first | refine uA ?_ | (refine ⟨?_, ?_⟩; focus first | rfl | trivial | (simp [slot]; done)) | rfl | trivial | simp)) (by (repeat first | refine uA ?_ | (refine ⟨?_, ?_⟩; focus first | rfl | trivial | (simp [slot]; done)) | rfl | trivial | simp)) hν0) ?_
  rintro ⟨i, out⟩ ⟨hi, hri⟩
  simp only [ints] at hi hri ⊢
  have hol := hri.1
  have hpl : (put u l1 out).length = u.length := U4 (by omega)
  (repeat first | refine uA ?_ | (refine uK ?_ ?_; focus first | omega | trivial | (intro h; rw [h]; rfl) | (intro h h2; rw [h, h2]; rfl) | (intro h; (try simp at h); omega) | (intros; simp_all <;> omega)) | simp only [go_sem, Nat.reduceBEq, Nat.reduceAdd, Nat.reduceLeDiff, Int.reduceToNat, Int.reducePow] | simp (disch := omega) only [ww])
  (refine uJ rfl (fun hc => ?_) fun hc => ?_)
  ·have hi' : i < p := by omega
   have hir : i < r0.length := by omega
   have hgr : r0[i]? = some (r0[i]'hir) := b7W hir
   have hgo : (put u l1 out)[l1 + i]? = some (r0[i]'hir) := by
    rw [M9 (by omega) (by omega), Nm.X6 hri.2.2.1, hgr]
   have hr32' := hua1 _ (b8j hir)
   have hk := fun t ht => Nm.a2H (t := t) hri hb64 hir hua1 ht
   have hset : ∀ a, (put u l1 out).set (l1 + i) a = put u l1 (out.set i a) := fun a => U3 (by omega) (by omega)
   generalize r0[i]'hir = ri at *
   have hsh : Int.fdiv (ri : Int) (2 ^ min b 64) = ((ri / 2 ^ b : Nat) : Int) := by
    rw [show min b 64 = b by omega, <- a0G]; congr 1
   have hrb : ri / 2 ^ b < 18446744073709551616 := Nat.lt_of_le_of_lt (Nat.div_le_self _ _) hr32'
   generalize ri / 2 ^ b = rs at *
   (repeat first | refine uA ?_ | (refine uK ?_ ?_; focus first | omega | trivial | (intro h; rw [h]; rfl) | (intro h h2; rw [h, h2]; rfl) | (intro h; (try simp at h); omega) | (intros; simp_all <;> omega)) | simp only [go_sem, Nat.reduceBEq, Nat.reduceAdd, Nat.reduceLeDiff, Int.reduceToNat, Int.reducePow, q9, F8, hgo, hpl, b7Y, lm, Q5, hsh, hset] | simp (disch := omega) only [ww, q9, F8, hgo, hpl, b7Y, lm, Q5, hsh, hset])
   (refine uJ rfl (fun hc => ?_) fun hc => ?_)
   ·have hi1 : i + 1 < r0.length := by omega
    have hpl1 : (put u l1 (out.set i rs)).length = u.length := U4 (by rw [b8G]; omega)
    have hg1 : (put u l1 (out.set i rs))[l1 + i]? = some rs := by
     rw [<- hset, List.getElem?_set_self (by omega)]
    have hg3 : r0[i + 1]? = some (r0[i + 1]'hi1) := b7W hi1
    have hg2 : (put u l1 (out.set i rs))[l1 + (i + 1)]? = some (r0[i + 1]'hi1) := by
     have := M9 (us := u) (out := out) (k := l1) (i := i + 1) (by omega) (by omega)
     rw [<- hset, List.getElem?_set_ne (by omega), this]
     have h3 := congrArg (fun l => l[1]?) hri.2.2.1
     simp only [b8H] at h3
     rw [h3, hg3]
    have hn32 := hua1 _ (b8j hi1)
    have hgd : r0.getD (i + 1) 0 = r0[i + 1]'hi1 := Nm.getD_lt hi1
    rw [hgd] at hk
    generalize r0[i + 1]'hi1 = rn at *
    have hshl := a7h rn (64 - b) (by omega)
    have hrr : ((64 : Int) - (b : Int)).toNat = 64 - b := by omega
    have horl := a8i rs (rn * 2 ^ (64 - b)) hrb
    have hk := hk _ rfl
    rw [if_pos (by omega)] at hk
    generalize rn * 2 ^ (64 - b) = sh at *
    generalize hto : rs ||| sh % 18446744073709551616 = to at *
    have hset2 : (put u l1 (out.set i rs)).set (l1 + i) to = put u l1 (out.set i to) := by
     have := U3 (us := u) (out := out.set i rs) (k := l1) (i := i) (v := to) (by rw [b8G]; omega) (by rw [b8G]; omega)
     rwa [List.set_set] at this
    have hi1n : ((i : Int) + 1).toNat = i + 1 := by omega
    (repeat first | refine uA ?_ | (refine uK ?_ ?_; focus first | omega | trivial | (intro h; rw [h]; rfl) | (intro h h2; rw [h, h2]; rfl) | (intro h; (try simp at h); omega) | (intros; simp_all <;> omega)) | simp only [go_sem, Nat.reduceBEq, Nat.reduceAdd, Nat.reduceLeDiff, Int.reduceToNat, Int.reducePow, q9, F8, hg1, hg2, hpl1, b7Y, lm, hrr, hi1n, hshl, horl, Q5, hset2] | simp (disch := omega) only [ww, q9, F8, hg1, hg2, hpl1, b7Y, lm, hrr, hi1n, hshl, horl, Q5, hset2])
    refine S.next (x := (i, out)) (i + 1, _) ⟨hi', hk.1⟩ (by simp only; omega) (Ent.mk _ _ (by (repeat first | refine uA ?_ | (refine ⟨?_, ?_⟩; focus first | rfl | trivial | (simp [slot]; done)) | rfl | trivial | simp)) (by (repeat first | refine uA ?_ | (refine ⟨?_, ?_⟩; focus first | rfl | trivial | (simp [slot]; done)) | rfl | trivial | simp)) hν0)
   ·have hk := hk _ rfl
    rw [if_neg (by omega)] at hk
    (repeat first | refine uA ?_ | (refine uK ?_ ?_; focus first | omega | trivial | (intro h; rw [h]; rfl) | (intro h h2; rw [h, h2]; rfl) | (intro h; (try simp at h); omega) | (intros; simp_all <;> omega)) | simp only [go_sem, Nat.reduceBEq, Nat.reduceAdd, Nat.reduceLeDiff, Int.reduceToNat, Int.reducePow] | simp (disch := omega) only [ww])
    refine S.next (x := (i, out)) (i + 1, _) ⟨hi', hk.1⟩ (by simp only; omega) (Ent.mk _ _ (by (repeat first | refine uA ?_ | (refine ⟨?_, ?_⟩; focus first | rfl | trivial | (simp [slot]; done)) | rfl | trivial | simp)) (by (repeat first | refine uA ?_ | (refine ⟨?_, ?_⟩; focus first | rfl | trivial | (simp [slot]; done)) | rfl | trivial | simp)) hν0)
  ·have hi' : i = p := by omega
   subst hi'
   rw [<- hrl] at hri
   have he := Nm.a3m hri (by omega) hW1
   have hd : out = Nm.dig 18446744073709551616 i z := Nm.P8 (by decide) hri.2.1 (by omega) he
   rw [<- hd]
   have hcut := fun (E : Ctx) (hP : E.P = Tryz.prog) => a4N (E := E) hP (match 1 with | 0 => true | _ => false) (put u l1 out) o l1 i (by omega) (by omega) (by omega)
   rw [a0O (by omega) (by omega)] at hcut
   (repeat first | refine uA ?_ | (refine uK ?_ ?_; focus first | omega | trivial | (intro h; rw [h]; rfl) | (intro h h2; rw [h, h2]; rfl) | (intro h; (try simp at h); omega) | (intros; simp_all <;> omega)) | simp only [go_sem, Nat.reduceBEq, Nat.reduceAdd, Nat.reduceLeDiff, Int.reduceToNat, Int.reducePow] | simp (disch := omega) only [ww] | refine p8.t (hcut _ rfl) ?_)
   exact S.done (d9.own rfl)
 ·have hb0 : b = 0 := by omega
  subst hb0
  rw [Nat.pow_zero, Nat.mul_one] at hW1
  have hd : r0 = Nm.dig 18446744073709551616 p z := Nm.P8 (by decide) hua1 hrl hW1
  have hcut := fun (E : Ctx) (hP : E.P = Tryz.prog) => a4N (E := E) hP (match 1 with | 0 => true | _ => false) u o l1 p (by omega) (by omega) (by omega)
  have hw : (u.drop l1).take p = r0 := by rw [<- hps]; exact a0O hrl.symm (by omega)
  rw [hw] at hcut
  rw [<- hd, hps]
  (repeat first | refine uA ?_ | (refine uK ?_ ?_; focus first | omega | trivial | (intro h; rw [h]; rfl) | (intro h h2; rw [h, h2]; rfl) | (intro h; (try simp at h); omega) | (intros; simp_all <;> omega)) | simp only [go_sem, Nat.reduceBEq, Nat.reduceAdd, Nat.reduceLeDiff, Int.reduceToNat, Int.reducePow] | simp (disch := omega) only [ww] | refine p8.t (hcut _ rfl) ?_)
  exact S.done (d9.own rfl)
 ·(repeat first | refine uA ?_ | (refine uK ?_ ?_; focus first | omega | trivial | (intro h; rw [h]; rfl) | (intro h h2; rw [h, h2]; rfl) | (intro h; (try simp at h); omega) | (intros; simp_all <;> omega)) | simp only [go_sem, Nat.reduceBEq, Nat.reduceAdd, Nat.reduceLeDiff, Int.reduceToNat, Int.reducePow] | simp (disch := omega) only [ww])
  refine S.loop (X := Nat × List Nat) (fun s => ⟨[(0, .wv 0 1 l1 p), (1, ints b), (15, ints p), (16, ints s.1)], [.row 160 1 (ls (put u l1 s.2)), .row 160 1 (ls o)]⟩) (fun s => s.1 <= p /\ Nm.a0w r0 (2 ^ b) s.1 s.2) (fun s => p - s.1) (0, r0) ⟨b8b _, Nm.a2N hua1⟩ (by simp only [hps]; exact Ent.mk _ _ (by (repeat first | refine uA ?_ | (refine ⟨?_, ?_⟩; focus first | rfl | trivial | (simp [slot]; done)) | rfl | trivial | simp)) (by (repeat first | refine uA ?_ | (refine ⟨?_, ?_⟩; focus first | rfl | trivial | (simp [slot]; done)) | rfl | trivial | simp)) hν0) ?_
  rintro ⟨i, out⟩ ⟨hi, hri⟩
  simp only [ints] at hi hri ⊢
  have hol := hri.1
  have hpl : (put u l1 out).length = u.length := U4 (by omega)
  (repeat first | refine uA ?_ | (refine uK ?_ ?_; focus first | omega | trivial | (intro h; rw [h]; rfl) | (intro h h2; rw [h, h2]; rfl) | (intro h; (try simp at h); omega) | (intros; simp_all <;> omega)) | simp only [go_sem, Nat.reduceBEq, Nat.reduceAdd, Nat.reduceLeDiff, Int.reduceToNat, Int.reducePow] | simp (disch := omega) only [ww])
  (refine uJ rfl (fun hc => ?_) fun hc => ?_)
  ·have hi' : i < p := by omega
   have hir : i < r0.length := by omega
   have hgr : r0[i]? = some (r0[i]'hir) := b7W hir
   have hgo : (put u l1 out)[l1 + i]? = some (r0[i]'hir) := by
    rw [M9 (by omega) (by omega), Nm.X6 hri.2.2.1, hgr]
   have hr32' := hua1 _ (b8j hir)
   have hk := fun t ht => Nm.a2H (t := t) hri hb64 hir hua1 ht
   have hset : ∀ a, (put u l1 out).set (l1 + i) a = put u l1 (out.set i a) := fun a => U3 (by omega) (by omega)
   generalize r0[i]'hir = ri at *
   have hsh : Int.fdiv (ri : Int) (2 ^ min b 64) = ((ri / 2 ^ b : Nat) : Int) := by
    rw [show min b 64 = b by omega, <- a0G]; congr 1
   have hrb : ri / 2 ^ b < 18446744073709551616 := Nat.lt_of_le_of_lt (Nat.div_le_self _ _) hr32'
   generalize ri / 2 ^ b = rs at *
   (repeat first | refine uA ?_ | (refine uK ?_ ?_; focus first | omega | trivial | (intro h; rw [h]; rfl) | (intro h h2; rw [h, h2]; rfl) | (intro h; (try simp at h); omega) | (intros; simp_all <;> omega)) | simp only [go_sem, Nat.reduceBEq, Nat.reduceAdd, Nat.reduceLeDiff, Int.reduceToNat, Int.reducePow, q9, F8, hgo, hpl, b7Y, lm, Q5, hsh, hset] | simp (disch := omega) only [ww, q9, F8, hgo, hpl, b7Y, lm, Q5, hsh, hset])
   (refine uJ rfl (fun hc => ?_) fun hc => ?_)
   ·have hi1 : i + 1 < r0.length := by omega
    have hpl1 : (put u l1 (out.set i rs)).length = u.length := U4 (by rw [b8G]; omega)
    have hg1 : (put u l1 (out.set i rs))[l1 + i]? = some rs := by
     rw [<- hset, List.getElem?_set_self (by omega)]
    have hg3 : r0[i + 1]? = some (r0[i + 1]'hi1) := b7W hi1
    have hg2 : (put u l1 (out.set i rs))[l1 + (i + 1)]? = some (r0[i + 1]'hi1) := by
     have := M9 (us := u) (out := out) (k := l1) (i := i + 1) (by omega) (by omega)
     rw [<- hset, List.getElem?_set_ne (by omega), this]
     have h3 := congrArg (fun l => l[1]?) hri.2.2.1
     simp only [b8H] at h3
     rw [h3, hg3]
    have hn32 := hua1 _ (b8j hi1)
    have hgd : r0.getD (i + 1) 0 = r0[i + 1]'hi1 := Nm.getD_lt hi1
    rw [hgd] at hk
    generalize r0[i + 1]'hi1 = rn at *
    have hshl := a7h rn (64 - b) (by omega)
    have hrr : ((64 : Int) - (b : Int)).toNat = 64 - b := by omega
    have horl := a8i rs (rn * 2 ^ (64 - b)) hrb
    have hk := hk _ rfl
    rw [if_pos (by omega)] at hk
    generalize rn * 2 ^ (64 - b) = sh at *
    generalize hto : rs ||| sh % 18446744073709551616 = to at *
    have hset2 : (put u l1 (out.set i rs)).set (l1 + i) to = put u l1 (out.set i to) := by
     have := U3 (us := u) (out := out.set i rs) (k := l1) (i := i) (v := to) (by rw [b8G]; omega) (by rw [b8G]; omega)
     rwa [List.set_set] at this
    have hi1n : ((i : Int) + 1).toNat = i + 1 := by omega
    (repeat first | refine uA ?_ | (refine uK ?_ ?_; focus first | omega | trivial | (intro h; rw [h]; rfl) | (intro h h2; rw [h, h2]; rfl) | (intro h; (try simp at h); omega) | (intros; simp_all <;> omega)) | simp only [go_sem, Nat.reduceBEq, Nat.reduceAdd, Nat.reduceLeDiff, Int.reduceToNat, Int.reducePow, q9, F8, hg1, hg2, hpl1, b7Y, lm, hrr, hi1n, hshl, horl, Q5, hset2] | simp (disch := omega) only [ww, q9, F8, hg1, hg2, hpl1, b7Y, lm, hrr, hi1n, hshl, horl, Q5, hset2])
    refine S.next (x := (i, out)) (i + 1, _) ⟨hi', hk.1⟩ (by simp only; omega) (Ent.mk _ _ (by (repeat first | refine uA ?_ | (refine ⟨?_, ?_⟩; focus first | rfl | trivial | (simp [slot]; done)) | rfl | trivial | simp)) (by (repeat first | refine uA ?_ | (refine ⟨?_, ?_⟩; focus first | rfl | trivial | (simp [slot]; done)) | rfl | trivial | simp)) hν0)
   ·have hk := hk _ rfl
    rw [if_neg (by omega)] at hk
    (repeat first | refine uA ?_ | (refine uK ?_ ?_; focus first | omega | trivial | (intro h; rw [h]; rfl) | (intro h h2; rw [h, h2]; rfl) | (intro h; (try simp at h); omega) | (intros; simp_all <;> omega)) | simp only [go_sem, Nat.reduceBEq, Nat.reduceAdd, Nat.reduceLeDiff, Int.reduceToNat, Int.reducePow] | simp (disch := omega) only [ww])
    refine S.next (x := (i, out)) (i + 1, _) ⟨hi', hk.1⟩ (by simp only; omega) (Ent.mk _ _ (by (repeat first | refine uA ?_ | (refine ⟨?_, ?_⟩; focus first | rfl | trivial | (simp [slot]; done)) | rfl | trivial | simp)) (by (repeat first | refine uA ?_ | (refine ⟨?_, ?_⟩; focus first | rfl | trivial | (simp [slot]; done)) | rfl | trivial | simp)) hν0)
  ·have hi' : i = p := by omega
   subst hi'
   rw [<- hrl] at hri
   have he := Nm.a3m hri (by omega) hW1
   have hd : out = Nm.dig 18446744073709551616 i z := Nm.P8 (by decide) hri.2.1 (by omega) he
   rw [<- hd]
   have hcut := fun (E : Ctx) (hP : E.P = Tryz.prog) => a4N (E := E) hP (match 0 with | 0 => true | _ => false) (put u l1 out) o l1 i (by omega) (by omega) (by omega)
   rw [a0O (by omega) (by omega)] at hcut
   (repeat first | refine uA ?_ | (refine uK ?_ ?_; focus first | omega | trivial | (intro h; rw [h]; rfl) | (intro h h2; rw [h, h2]; rfl) | (intro h; (try simp at h); omega) | (intros; simp_all <;> omega)) | simp only [go_sem, Nat.reduceBEq, Nat.reduceAdd, Nat.reduceLeDiff, Int.reduceToNat, Int.reducePow] | simp (disch := omega) only [ww] | refine p8.t (hcut _ rfl) ?_)
   exact S.done (d9.own rfl)
 ·have hb0 : b = 0 := by omega
  subst hb0
  rw [Nat.pow_zero, Nat.mul_one] at hW1
  have hd : r0 = Nm.dig 18446744073709551616 p z := Nm.P8 (by decide) hua1 hrl hW1
  have hcut := fun (E : Ctx) (hP : E.P = Tryz.prog) => a4N (E := E) hP (match 0 with | 0 => true | _ => false) u o l1 p (by omega) (by omega) (by omega)
  have hw : (u.drop l1).take p = r0 := by rw [<- hps]; exact a0O hrl.symm (by omega)
  rw [hw] at hcut
  rw [<- hd, hps]
  (repeat first | refine uA ?_ | (refine uK ?_ ?_; focus first | omega | trivial | (intro h; rw [h]; rfl) | (intro h h2; rw [h, h2]; rfl) | (intro h; (try simp at h); omega) | (intros; simp_all <;> omega)) | simp only [go_sem, Nat.reduceBEq, Nat.reduceAdd, Nat.reduceLeDiff, Int.reduceToNat, Int.reducePow] | simp (disch := omega) only [ww] | refine p8.t (hcut _ rfl) ?_)
  exact S.done (d9.own rfl)
structure Win (u : List Nat) (lo n v : Nat) : Prop where
 hn : lo + n <= u.length
 hlo : lo < u.length
 hl : u.length <= 17179869184
 ha : Nm.I5 u
 hv : Nm.wv 18446744073709551616 ((u.drop lo).take n) = v
 ht : Nm.E5 ((u.drop lo).take n) = (u.drop lo).take n
theorem Win.len {u : List Nat} {lo n v : Nat} (h : Win u lo n v) : ((u.drop lo).take n).length = n := by
 have := h.hn
 rw [b8i, b8I]; omega
theorem b2E {us a : List Nat} {k : Nat} (hu : Nm.I5 us) (ha : Nm.I5 a) : Nm.I5 (put us k a) := fun w hw => by
 simp only [put, List.mem_append] at hw
 rcases hw with (hw | hw) | hw
 ·exact hu w (List.mem_of_mem_take hw)
 ·exact ha w hw
 ·exact hu w (List.mem_of_mem_drop hw)
theorem Win.put {u : List Nat} {l1 p z : Nat} (h1 : l1 + p <= u.length) (h2 : l1 < u.length) (hl : u.length <= 17179869184) (ha : Nm.I5 u) (hz : z < 18446744073709551616 ^ p) :
  Win (put u l1 (Nm.dig 18446744073709551616 p z)) l1 (Nm.E5 (Nm.dig 18446744073709551616 p z)).length z := by
 have hpl : (Go.Proofs.YtpjjiegfigpgnaaGreatDoor.put u l1 (Nm.dig 18446744073709551616 p z)).length = u.length := U4 (by rw [Nm.F9]; omega)
 have htl := Nm.b2B (Nm.dig 18446744073709551616 p z)
 rw [Nm.F9] at htl
 have hw : ((Go.Proofs.YtpjjiegfigpgnaaGreatDoor.put u l1 (Nm.dig 18446744073709551616 p z)).drop l1).take (Nm.E5 (Nm.dig 18446744073709551616 p z)).length = Nm.E5 (Nm.dig 18446744073709551616 p z) := by
  have e := a0O (us := u) (k := l1) (a := Nm.dig 18446744073709551616 p z) (n := p) (Nm.F9 _ _ _).symm (by rw [Nm.F9]; omega)
  have e2 := congrArg (List.take (Nm.E5 (Nm.dig 18446744073709551616 p z)).length) e
  rw [List.take_take, Nat.min_eq_left htl, Nm.b1s] at e2
  exact e2
 refine ⟨by rw [hpl]; omega, by rw [hpl]; exact h2, by rw [hpl]; exact hl, b2E ha (Nm.Z9 (by decide) _ _), ?_, ?_⟩
 ·rw [hw, Nm.b3E, Nm.O9 hz]
 ·rw [hw]
  have h4 : ∀ l, Nm.E5 (Nm.E5 l) = Nm.E5 l := fun l => by
   by_cases h : Nm.E5 l = []
   ·rw [h]; rfl
   ·have h5 := Nm.a6m l h
    have h6 : Nm.E5 l = (Nm.E5 l).dropLast ++ [(Nm.E5 l).getLast h] := (List.dropLast_concat_getLast h).symm
    rw [h6, Nm.a1Y h5]
  exact h4 _
theorem Win.last {u : List Nat} {lo n v : Nat} (h : Win u lo n v) : ∀ hh : (u.drop lo).take n ≠ [], ((u.drop lo).take n).getLast hh ≠ 0 := by
 have ht := h.ht
 generalize (u.drop lo).take n = x at *
 intro hh
 have := Nm.a6m x (by rw [ht]; exact hh)
 simpa only [ht] using this
theorem Win.all {u : List Nat} {lo n v : Nat} (h : Win u lo n v) : Nm.I5 ((u.drop lo).take n) := (h.ha.drop lo).take n
theorem Win.zero {u : List Nat} {lo n v : Nat} (h : Win u lo n v) (h0 : v = 0) : n = 0 := by
 rcases b8t n with h1 | h1
 ·exact h1
 ·exfalso
  have hl := h.len
  have hla := h.last
  have hv := h.hv
  generalize (u.drop lo).take n = x at *
  have hne : x ≠ [] := fun e => by subst e; simp at hl; omega
  have h2 := Nm.a9f (B := 18446744073709551616) (l := x.dropLast) (hla hne)
  rw [List.dropLast_concat_getLast hne] at h2
  have := Nat.pow_pos (n := x.dropLast.length) (show 0 < 18446744073709551616 by decide)
  omega
theorem Win.nonzero {u : List Nat} {lo n v : Nat} (h : Win u lo n v) (h0 : n = 0) : v = 0 := by
 have := h.hv; subst h0; rw [<- this]; rfl
theorem Win.le {u o : List Nat} {lo n v lo2 n2 v2 : Nat} (h : Win u lo n v) (h2 : Win o lo2 n2 v2) (hle : v2 <= v) : n2 <= n := by
 rcases b8s n n2 with h1 | h1
 ·exfalso
  have hl := h2.len
  have hla := h2.last
  have hv := h2.hv
  have hl1 := Nm.H9 18446744073709551616 h.all
  rw [h.len, h.hv] at hl1
  generalize (o.drop lo2).take n2 = x at *
  have hne : x ≠ [] := fun e => by subst e; simp at hl; omega
  have h3 := Nm.a9f (B := 18446744073709551616) (l := x.dropLast) (hla hne)
  rw [List.dropLast_concat_getLast hne, List.length_dropLast] at h3
  have h4 : 18446744073709551616 ^ n <= 18446744073709551616 ^ (x.length - 1) := b8x (by decide) (by omega)
  omega
 ·exact h1
theorem Win.v2 {u : List Nat} {lo n v : Nat} (h : Win u lo n v) (h0 : v ≠ 0) : Nm.v2 v <= 70368744177664 := by
 obtain ⟨q, h1, h2⟩ := Nm.a1l h0
 have hl1 := Nm.H9 18446744073709551616 h.all
 rw [h.len, h.hv] at hl1
 have h3 : 2 ^ Nm.v2 v <= v := by
  conv => rhs; rw [h1]
  exact Nat.le_mul_of_pos_right _ (by omega)
 have h4 : 2 ^ Nm.v2 v < 2 ^ (64 * n) := by rw [Nat.pow_mul]; exact Nat.lt_of_le_of_lt h3 hl1
 have h5 := (Nat.pow_lt_pow_iff_right (by decide : 1 < 2)).1 h4
 have := h.hn; have := h.hl
 omega
namespace Nm
theorem b5U (n k : Nat) (h : k < 8) : (be8 n)[k]? = some (oB (n / 2 ^ (56 - 8 * k))) := by
 have : k = 0 \/ k = 1 \/ k = 2 \/ k = 3 \/ k = 4 \/ k = 5 \/ k = 6 \/ k = 7 := by omega
 rcases this with rfl | rfl | rfl | rfl | rfl | rfl | rfl | rfl <;> simp [be8]
theorem a5b (n : Nat) : (be8 n).length = 8 := rfl
def a0B (l : List Nat) : List UInt8 := (l.reverse.map be8).flatten
theorem a6C (l : List Nat) (x : Nat) : a0B (l ++ [x]) = be8 x ++ a0B l := by simp [a0B]
theorem a7G (r : List Nat) (h : I5 r.reverse) : (a0B r.reverse).length = 8 * r.length /\ val (a0B r.reverse) = wv 18446744073709551616 r.reverse := by
 induction r with
 | nil => exact ⟨rfl, rfl⟩
 | cons x r ih =>
  rw [List.reverse_cons] at h ⊢
  obtain ⟨h1, h2⟩ := ih fun w hw => h w (List.mem_append_left _ hw)
  rw [a6C, a4M, b0D, h1, h2, b0x (h x (by simp)), List.length_reverse, b7X, a5b, h1, b8r]
  refine ⟨by omega, ?_⟩
  rw [Nat.pow_mul, show (256 : Nat) ^ 8 = 18446744073709551616 by decide, Nat.mul_comm x, Nat.add_comm]
theorem a7f {l : List Nat} (h : I5 l) : (a0B l).length = 8 * l.length := by
 have := (a7G l.reverse (by simpa using h)).1
 simpa using this
theorem b3m {l : List Nat} (h : I5 l) : val (a0B l) = wv 18446744073709551616 l := by
 have := (a7G l.reverse (by simpa using h)).2
 simpa using this
def a0y (l : List Nat) (i k : Nat) : List UInt8 := List.replicate (8 * (l.length - 1 - i)) 0 ++ ((be8 (l.getD i 0)).take k ++ List.replicate (8 - k) 0) ++ a0B (l.take i)
def a2y (l : List Nat) (i : Nat) : List UInt8 := List.replicate (8 * (l.length - i)) 0 ++ a0B (l.take i)
theorem b2X (l : List Nat) : a2y l 0 = List.replicate (8 * l.length) 0 := by simp [a2y, a0B]
theorem a9e (l : List Nat) : a2y l l.length = a0B l := by simp [a2y]
theorem a7O {l : List Nat} {i : Nat} (h : i < l.length) : a0y l i 0 = a2y l i := by
 rw [a0y, a2y, List.take_zero, List.nil_append, Nat.sub_zero, List.replicate_append_replicate]
 congr 2; omega
theorem a6o {l : List Nat} {i : Nat} (h : i < l.length) : a0y l i 8 = a2y l (i + 1) := by
 have e : l.take (i + 1) = l.take i ++ [l.getD i 0] := by
  rw [List.take_add_one, b8h, b7W h]; rfl
 rw [a0y, a2y, e, a6C, b8z (by rw [a5b]; exact b8f _), Nat.sub_self, List.replicate_zero, List.append_nil, b8l]
 congr 3; omega
theorem a8g {l : List Nat} (hl : I5 l) {i k : Nat} (h : i < l.length) (hk : k <= 8) : (a0y l i k).length = 8 * l.length := by
 simp only [a0y, b7X, List.length_replicate, b8i, a5b, a7f (hl.take i), b8i]
 omega
theorem a7m {l : List Nat} {i k : Nat} (hk : k < 8) : (a0y l i k).set (8 * (l.length - 1 - i) + k) (oB (l.getD i 0 / 2 ^ (56 - 8 * k))) = a0y l i (k + 1) := by
 have e : (be8 (l.getD i 0)).take (k + 1) = (be8 (l.getD i 0)).take k ++ [oB (l.getD i 0 / 2 ^ (56 - 8 * k))] := by
  rw [List.take_add_one, b5U _ _ hk]; rfl
 have e2 : List.replicate (8 - k) (0 : UInt8) = 0 :: List.replicate (8 - (k + 1)) 0 := by rw [<- List.replicate_succ]; congr 1; omega
 have hlk : ((be8 (l.getD i 0)).take k).length = k := by rw [b8i, a5b]; omega
 rw [a0y, a0y, e, e2, List.set_append_left _ _ (by simp only [b7X, List.length_replicate, hlk, b8r]; omega), List.set_append_right _ _ (by simp), List.length_replicate, Nat.add_sub_cancel_left, List.set_append_right _ _ (by omega), hlk, Nat.sub_self, List.set_cons_zero, b8l (List.take k _), List.singleton_append]
theorem b2N (n : Nat) : val (oB (2 ^ (n % 8)) :: List.replicate (n / 8) 0) = 2 ^ n := by
 have h0 : val (List.replicate (n / 8) (0 : UInt8)) = 0 := by
  generalize n / 8 = k
  induction k with
  | zero => rfl
  | succ k ih => rw [List.replicate_succ, R6, ih]; simp
 have h1 : 2 ^ (n % 8) < 256 := by
  have : 2 ^ (n % 8) <= 2 ^ 7 := b8x (by decide) (by omega)
  omega
 rw [R6, h0, a0A, Nat.mod_eq_of_lt h1, List.length_replicate, Nat.add_zero, show (256 : Nat) = 2 ^ 8 by decide, <- Nat.pow_mul, <- Nat.pow_add]
 congr 1; omega
end Nm
structure Hv where
 s : Bool
 u : List Nat
 lo : Nat
 n : Nat
 v : Nat
 o : List Nat
 lo2 : Nat
 n2 : Nat
 v2 : Nat
theorem b4v (a b : List UInt8) (ha : a.length <= 68719476736) (hb : b.length <= 68719476736) (h0a : Nm.val a ≠ 0) (h0b : Nm.val b ≠ 0) : FZ 192 [sb a, sb b] (sb (Nm.enc (Nat.gcd (Nm.val a) (Nm.val b)))) := by
  refine kW Tryz.func192 (by cbv) (by rfl) fun w O hw => ?_
  simp only [j6, sb]
  have hla := b0C a (by omega)
  have hlb := b0C b (by omega)
  have hva := Nm.a6t a
  have hvb := Nm.a6t b
  have haa := Nm.a5Y a
  have hab := Nm.a5Y b
  have hna := Nm.a5l a
  have hnb := Nm.a5l b
  obtain ⟨za, hza, hoa⟩ := Nm.a1l h0a
  obtain ⟨zb, hzb, hob⟩ := Nm.a1l h0b
  have hG : Nat.gcd (Nm.val a) (Nm.val b) = 2 ^ (min (Nm.v2 (Nm.val a)) (Nm.v2 (Nm.val b))) * Nat.gcd za zb := by
    conv => lhs; rw [hza, hzb]
    exact Nm.b3z hoa hob
  rw [hG]
  have fea := a4V (Nm.K7 a) (by omega) haa (by rw [hva]; exact h0a)
  have feb := a4V (Nm.K7 b) (by omega) hab (by rw [hvb]; exact h0b)
  rw [hva] at fea
  rw [hvb] at feb
  have hba : Nm.v2 (Nm.val a) <= 549755813888 := by
    have h1 := Nm.R8 a
    have h3 : 2 ^ Nm.v2 (Nm.val a) <= Nm.val a := by
      conv => rhs; rw [hza]
      exact Nat.le_mul_of_pos_right _ (by omega)
    have h4 : 2 ^ Nm.v2 (Nm.val a) < 2 ^ (8 * a.length) := by rw [Nat.pow_mul]; exact Nat.lt_of_le_of_lt h3 h1
    have h5 := (Nat.pow_lt_pow_iff_right (by decide : 1 < 2)).1 h4
    omega
  have hbb : Nm.v2 (Nm.val b) <= 549755813888 := by
    have h1 := Nm.R8 b
    have h3 : 2 ^ Nm.v2 (Nm.val b) <= Nm.val b := by
      conv => rhs; rw [hzb]
      exact Nat.le_mul_of_pos_right _ (by omega)
    have h4 : 2 ^ Nm.v2 (Nm.val b) < 2 ^ (8 * b.length) := by rw [Nat.pow_mul]; exact Nat.lt_of_le_of_lt h3 h1
    have h5 := (Nat.pow_lt_pow_iff_right (by decide : 1 < 2)).1 h4
    omega
  have hla0 : 0 < (Nm.K7 a).length := by
    rcases b8t (Nm.K7 a).length with h | h
    · have := List.length_eq_zero_iff.1 h
      rw [this] at hva; exact absurd hva.symm h0a
    · exact h
  have hlb0 : 0 < (Nm.K7 b).length := by
    rcases b8t (Nm.K7 b).length with h | h
    · have := List.length_eq_zero_iff.1 h
      rw [this] at hvb; exact absurd hvb.symm h0b
    · exact h
  generalize Nm.v2 (Nm.val a) = p at *
  generalize Nm.v2 (Nm.val b) = q at *
  have hwa : Nm.wv 18446744073709551616 (((Nm.K7 a).drop 0).take (Nm.K7 a).length) = za * 2 ^ p := by
    rw [List.drop_zero, b8n, hva, hza, Nat.mul_comm]
  have hwb : Nm.wv 18446744073709551616 (((Nm.K7 b).drop 0).take (Nm.K7 b).length) = zb * 2 ^ q := by
    rw [List.drop_zero, b8n, hvb, hzb, Nat.mul_comm]
  clear hG hza hzb hva hvb h0a h0b
  generalize hA : Nm.K7 a = A at *
  generalize hB : Nm.K7 b = B at *
  have hr1 := fun (E : Ctx) (hP : E.P = Tryz.prog) => a4S (E := E) hP true A B 0 A.length p za (by omega) (by omega) (by omega) haa (by omega) hwa
  obtain ⟨hj1, hz1, _⟩ := hr1 ⟨Tryz.prog, eff, 0, w, fun _ => False, O, [], []⟩ rfl
  have hr1 := fun E hP => (hr1 E hP).2.2
  have hW1 := Win.put (u := A) (l1 := 0 + p / 64) (p := A.length - p / 64) (z := za) (by omega) (by omega) (by omega) haa hz1
  generalize hA1 : put A (0 + p / 64) (Nm.dig 18446744073709551616 (A.length - p / 64) za) = A1 at *
  generalize 0 + p / 64 = la at *
  generalize (Nm.E5 (Nm.dig 18446744073709551616 (A.length - p / 64) za)).length = na at *
  have hr2 := fun (E : Ctx) (hP : E.P = Tryz.prog) => a4S (E := E) hP false B A1 0 B.length q zb (by omega) (by omega) (by omega) hab (by omega) hwb
  obtain ⟨hj2, hz2, _⟩ := hr2 ⟨Tryz.prog, eff, 0, w, fun _ => False, O, [], []⟩ rfl
  have hr2 := fun E hP => (hr2 E hP).2.2
  have hW2 := Win.put (u := B) (l1 := 0 + q / 64) (p := B.length - q / 64) (z := zb) (by omega) (by omega) (by omega) hab hz2
  generalize hB1 : put B (0 + q / 64) (Nm.dig 18446744073709551616 (B.length - q / 64) zb) = B1 at *
  generalize 0 + q / 64 = lb at *
  generalize (Nm.E5 (Nm.dig 18446744073709551616 (B.length - q / 64) zb)).length = nb at *
  have hr1' : ∀ (E : Ctx), E.P = Tryz.prog -> l7 E [.row 160 1 (ls A), .row 160 1 (ls B)] 209 [.rv 0, ints p] (.wv 0 1 la na) [.row 160 1 (ls A1), .row 160 1 (ls B)] [] := fun E hP => l7.imp (hr1 E hP) (l5.cons (Imp.win (k := 0) (e := 160) (sz := 1) (es := ls A) rfl (q9 _).symm (by simp)) (l5.cons (Imp.refl rfl) l5.nil))
  have hr2' : ∀ (E : Ctx), E.P = Tryz.prog -> l7 E [.row 160 1 (ls A1), .row 160 1 (ls B)] 209 [.rv 1, ints q] (.wv 1 1 lb nb) [.row 160 1 (ls A1), .row 160 1 (ls B1)] [] := fun E hP => l7.imp (hr2 E hP) (l5.cons (Imp.win (k := 1) (e := 160) (sz := 1) (es := ls B) rfl (q9 _).symm (by simp)) (l5.cons (Imp.refl rfl) l5.nil))
  (repeat first | refine uA ?_ | (refine uK ?_ ?_; focus first | omega | trivial | (intro h; rw [h]; rfl) | (intro h h2; rw [h, h2]; rfl) | (intro h; (try simp at h); omega) | (intros; simp_all <;> omega)) | simp only [go_sem, Nat.reduceBEq, Nat.reduceAdd, Nat.reduceLeDiff, Int.reduceToNat, Int.reducePow] | simp (disch := omega) only [ww] | refine p8.t (FNew.t hla rfl) ?_ | refine p8.t (FNew.t hlb rfl) ?_ | refine p8.t (hr1' _ rfl) ?_ | refine p8.t (hr2' _ rfl) ?_ | (refine uE fea ?_ ?_ ?_ ?_; exact tz hw; exact rfl; focus (repeat' first | exact l5.nil | exact Imp.refl rfl | exact Imp.frz rfl rfl rfl | (refine Imp.J6 rfl rfl ?_ ?_; (focus ((try simp only [b7X]); omega)); (focus first | rfl | assumption)) | refine l5.cons ?_ ?_); done) | (refine uE feb ?_ ?_ ?_ ?_; exact tz hw; exact rfl; focus (repeat' first | exact l5.nil | exact Imp.refl rfl | exact Imp.frz rfl rfl rfl | (refine Imp.J6 rfl rfl ?_ ?_; (focus ((try simp only [b7X]); omega)); (focus first | rfl | assumption)) | refine l5.cons ?_ ?_); done))
  clear hr1 hr2 hr1' hr2' hla hlb fea feb hwa hwb hA hB hA1 hB1 hz1 hz2 hj1 hj2 haa hab hla0 hlb0 hna hnb
  have hmin : min p q <= 549755813888 := by omega
  generalize hG : Nat.gcd za zb = G at *
  refine S.b4X (Y := Hv) (fun x => ⟨[(5, .wv (kx x.s) 1 x.lo x.n), (6, .wv (kx !x.s) 1 x.lo2 x.n2), (7, ints p), (8, ints q)], rw2 x.s x.u x.o⟩)
    (fun x => Win x.u x.lo x.n x.v /\ Win x.o x.lo2 x.n2 x.v2 /\ ((x.n = 0 /\ x.v2 = G) \/ (x.n = 1 /\ x.n2 = 1 /\ Nat.gcd x.v x.v2 = G))) ?_ ?_
  · refine S.loop (X := Hv) (fun x => ⟨[(5, .wv (kx x.s) 1 x.lo x.n), (6, .wv (kx !x.s) 1 x.lo2 x.n2), (7, ints p), (8, ints q)], rw2 x.s x.u x.o⟩)
      (fun x => Win x.u x.lo x.n x.v /\ Win x.o x.lo2 x.n2 x.v2 /\ x.v % 2 = 1 /\ x.v2 % 2 = 1 /\ Nat.gcd x.v x.v2 = G) (fun x => x.v + x.v2) ⟨true, A1, la, na, za, B1, lb, nb, zb⟩ ⟨hW1, hW2, hoa, hob, hG⟩ (by (repeat first | refine uA ?_ | (refine ⟨?_, ?_⟩; focus first | rfl | trivial | (simp [slot]; done)) | rfl | trivial | simp)) ?_
    clear hW1 hW2 hG hoa hob
    rintro ⟨s, u, lo, n, v, o, lo2, n2, v2⟩ ⟨hW1, hW2, hoa, hob, hG⟩
    simp only [ints] at hW1 hW2 hoa hob hG ⊢
    (repeat first | refine uA ?_ | (refine uK ?_ ?_; focus first | omega | trivial | (intro h; rw [h]; rfl) | (intro h h2; rw [h, h2]; rfl) | (intro h; (try simp at h); omega) | (intros; simp_all <;> omega)) | simp only [go_sem, Nat.reduceBEq, Nat.reduceAdd, Nat.reduceLeDiff, Int.reduceToNat, Int.reducePow] | simp (disch := omega) only [ww])
    (refine uJ rfl (fun hc => ?_) fun hc => ?_)
    · refine S.skip ?_
      refine S.block ?_
      refine S.seq ?_
      have hl1 := hW1.hl
      have hl2 := hW2.hl
      have hn1 := hW1.hn
      have hn2 := hW2.hn
      have hwl : ∀ (u : List Nat) lo n, ls ((u.drop lo).take n) = ((ls u).drop lo).take n := fun u lo n => by simp [ls, List.map_drop, List.map_take]
      refine S.join (Y := Hv) (fun x => ⟨[(5, .wv (kx x.s) 1 x.lo x.n), (6, .wv (kx !x.s) 1 x.lo2 x.n2), (7, ints p), (8, ints q)], rw2 x.s x.u x.o⟩)
        (fun x => Win x.u x.lo x.n x.v /\ Win x.o x.lo2 x.n2 x.v2 /\ x.v % 2 = 1 /\ x.v2 % 2 = 1 /\ Nat.gcd x.v x.v2 = G /\ x.v2 <= x.v /\ x.v + x.v2 = v + v2) ?_ ?_
      · have hb := b5R ((u.drop lo).take n) ((o.drop lo2).take n2) (by rw [hW1.len]; omega) (by rw [hW2.len]; omega) hW1.all hW2.all hW1.last hW2.last
        rw [hwl, hwl, hW1.hv, hW2.hv] at hb
        cases s
        all_goals
          simp only [rw2, kx, Bool.not_true, Bool.not_false]
          (repeat first | refine uA ?_ | (refine uK ?_ ?_; focus first | omega | trivial | (intro h; rw [h]; rfl) | (intro h h2; rw [h, h2]; rfl) | (intro h; (try simp at h); omega) | (intros; simp_all <;> omega)) | simp only [go_sem, Nat.reduceBEq, Nat.reduceAdd, Nat.reduceLeDiff, Int.reduceToNat, Int.reducePow, q9] | simp (disch := omega) only [ww, q9] | (refine uC hb ?_ ?_ ?_; exact rfl; focus (repeat' first | exact l5.nil | exact Imp.refl rfl | exact Imp.frz rfl rfl rfl | (refine Imp.J6 rfl rfl ?_ ?_; (focus ((try simp only [b7X, q9]); omega)); (focus first | rfl | assumption)) | refine l5.cons ?_ ?_); done))
          refine S.cond rfl (fun hc => ?_) (fun hc => ?_)
          all_goals simp only [b8o, b8v] at hc
        · (repeat first | refine uA ?_ | (refine uK ?_ ?_; focus first | omega | trivial | (intro h; rw [h]; rfl) | (intro h h2; rw [h, h2]; rfl) | (intro h; (try simp at h); omega) | (intros; simp_all <;> omega)) | simp only [go_sem, Nat.reduceBEq, Nat.reduceAdd, Nat.reduceLeDiff, Int.reduceToNat, Int.reducePow] | simp (disch := omega) only [ww])
          exact S.met ⟨true, o, lo2, n2, v2, u, lo, n, v⟩ ⟨hW2, hW1, hob, hoa, by rw [Nat.gcd_comm]; exact hG, by simp only; omega, by simp only; omega⟩ (by (repeat first | refine uA ?_ | (refine ⟨?_, ?_⟩; focus first | rfl | trivial | (simp [slot]; done)) | rfl | trivial | simp))
        · (repeat first | refine uA ?_ | (refine uK ?_ ?_; focus first | omega | trivial | (intro h; rw [h]; rfl) | (intro h h2; rw [h, h2]; rfl) | (intro h; (try simp at h); omega) | (intros; simp_all <;> omega)) | simp only [go_sem, Nat.reduceBEq, Nat.reduceAdd, Nat.reduceLeDiff, Int.reduceToNat, Int.reducePow] | simp (disch := omega) only [ww])
          exact S.met ⟨false, u, lo, n, v, o, lo2, n2, v2⟩ ⟨hW1, hW2, hoa, hob, hG, by simp only; omega, rfl⟩ (by (repeat first | refine uA ?_ | (refine ⟨?_, ?_⟩; focus first | rfl | trivial | (simp [slot]; done)) | rfl | trivial | simp))
        · (repeat first | refine uA ?_ | (refine uK ?_ ?_; focus first | omega | trivial | (intro h; rw [h]; rfl) | (intro h h2; rw [h, h2]; rfl) | (intro h; (try simp at h); omega) | (intros; simp_all <;> omega)) | simp only [go_sem, Nat.reduceBEq, Nat.reduceAdd, Nat.reduceLeDiff, Int.reduceToNat, Int.reducePow] | simp (disch := omega) only [ww])
          exact S.met ⟨false, o, lo2, n2, v2, u, lo, n, v⟩ ⟨hW2, hW1, hob, hoa, by rw [Nat.gcd_comm]; exact hG, by simp only; omega, by simp only; omega⟩ (by (repeat first | refine uA ?_ | (refine ⟨?_, ?_⟩; focus first | rfl | trivial | (simp [slot]; done)) | rfl | trivial | simp))
        · (repeat first | refine uA ?_ | (refine uK ?_ ?_; focus first | omega | trivial | (intro h; rw [h]; rfl) | (intro h h2; rw [h, h2]; rfl) | (intro h; (try simp at h); omega) | (intros; simp_all <;> omega)) | simp only [go_sem, Nat.reduceBEq, Nat.reduceAdd, Nat.reduceLeDiff, Int.reduceToNat, Int.reducePow] | simp (disch := omega) only [ww])
          exact S.met ⟨true, u, lo, n, v, o, lo2, n2, v2⟩ ⟨hW1, hW2, hoa, hob, hG, by simp only; omega, rfl⟩ (by (repeat first | refine uA ?_ | (refine ⟨?_, ?_⟩; focus first | rfl | trivial | (simp [slot]; done)) | rfl | trivial | simp))
      clear hl1 hl2 hn1 hn2 hW1 hW2 hoa hob hG hc
      rintro ⟨s, u1, lo1, n1, x1, o1, lo3, n3, x3⟩ ⟨hW1, hW2, hoa, hob, hG, hle, hsum⟩
      simp only [ints] at hW1 hW2 hoa hob hG hle hsum ⊢
      have hl1 := hW1.hl
      have hl2 := hW2.hl
      have hn1 := hW1.hn
      have hn2 := hW2.hn
      have hlo1 := hW1.hlo
      have hlt1 : x1 < 18446744073709551616 ^ n1 := by
        have := Nm.H9 18446744073709551616 hW1.all
        rwa [hW1.len, hW1.hv] at this
      have hmin := fun (E : Ctx) (hP : E.P = Tryz.prog) (s : Bool) => b5B (E := E) hP s u1 o1 lo1 n1 lo3 n3 (by omega) (by omega) hn1 hlo1 hn2 (hW1.le hW2 hle) hW1.ha hW2.ha hW1.hv.symm hW2.hv.symm hle
      have hW3 := Win.put (u := u1) (l1 := lo1) (p := n1) (z := x1 - x3) hn1 hlo1 hl1 hW1.ha (by omega)
      generalize put u1 lo1 (Nm.dig 18446744073709551616 n1 (x1 - x3)) = u2 at *
      generalize (Nm.E5 (Nm.dig 18446744073709551616 n1 (x1 - x3))).length = m1 at *
      have hl3 := hW3.hl
      have hn3 := hW3.hn
      have hmt : ∀ E : Ctx, E.P = Tryz.prog -> l7 E [.row 160 1 (ls u1), .row 160 1 (ls o1)] 211 [.wv 0 1 lo1 n1, .wv 1 1 lo3 n3] (.wv 0 1 lo1 m1) [.row 160 1 (ls u2), .row 160 1 (ls o1)] [] := fun E hP => hmin E hP true
      have hmf : ∀ E : Ctx, E.P = Tryz.prog -> l7 E [.row 160 1 (ls o1), .row 160 1 (ls u1)] 211 [.wv 1 1 lo1 n1, .wv 0 1 lo3 n3] (.wv 1 1 lo1 m1) [.row 160 1 (ls o1), .row 160 1 (ls u2)] [] := fun E hP => hmin E hP false
      clear hmin
      cases s
      all_goals
        simp only [rw2, kx, Bool.not_true, Bool.not_false]
        (repeat first | refine uA ?_ | (refine uK ?_ ?_; focus first | omega | trivial | (intro h; rw [h]; rfl) | (intro h h2; rw [h, h2]; rfl) | (intro h; (try simp at h); omega) | (intros; simp_all <;> omega)) | simp only [go_sem, Nat.reduceBEq, Nat.reduceAdd, Nat.reduceLeDiff, Int.reduceToNat, Int.reducePow, q9] | simp (disch := omega) only [ww, q9] | refine p8.t (hmt _ rfl) ?_ | refine p8.t (hmf _ rfl) ?_)
        (refine uJ rfl (fun hc => ?_) fun hc => ?_)
      · (repeat first | refine uA ?_ | (refine uK ?_ ?_; focus first | omega | trivial | (intro h; rw [h]; rfl) | (intro h h2; rw [h, h2]; rfl) | (intro h; (try simp at h); omega) | (intros; simp_all <;> omega)) | simp only [go_sem, Nat.reduceBEq, Nat.reduceAdd, Nat.reduceLeDiff, Int.reduceToNat, Int.reducePow] | simp (disch := omega) only [ww])
        have h0 := hW3.nonzero (by omega)
        have h1 : x1 = x3 := by omega
        subst h1
        rw [Nat.gcd_self] at hG
        exact S.met ⟨false, u2, lo1, m1, x1 - x1, o1, lo3, n3, x1⟩ ⟨hW3, hW2, .inl ⟨by simp only; omega, hG⟩⟩ (by (repeat first | refine uA ?_ | (refine ⟨?_, ?_⟩; focus first | rfl | trivial | (simp [slot]; done)) | rfl | trivial | simp))
      · have h0 : x1 - x3 ≠ 0 := fun h => by have := hW3.zero h; omega
        obtain ⟨z, hz, hoz⟩ := Nm.a1l h0
        have hev := a4V ((u2.drop lo1).take m1) (by rw [hW3.len]; omega) hW3.all (by rw [hW3.hv]; exact h0)
        rw [hwl, hW3.hv] at hev
        have heb := hW3.v2 h0
        generalize Nm.v2 (x1 - x3) = e at *
        have hrg := fun (E : Ctx) (hP : E.P = Tryz.prog) => a4S (E := E) hP false u2 o1 lo1 m1 e z (by omega) hn3 heb hW3.ha (by omega) (by rw [hW3.hv, hz, Nat.mul_comm])
        obtain ⟨hj, hz2, _⟩ := hrg ⟨Tryz.prog, eff, 0, w, fun _ => False, O, [], []⟩ rfl
        have hrg := fun E hP => (hrg E hP).2.2
        have hW4 := Win.put (u := u2) (l1 := lo1 + e / 64) (p := m1 - e / 64) (z := z) (by omega) (by omega) hl3 hW3.ha hz2
        generalize put u2 (lo1 + e / 64) (Nm.dig 18446744073709551616 (m1 - e / 64) z) = u4 at *
        generalize lo1 + e / 64 = lo4 at *
        generalize (Nm.E5 (Nm.dig 18446744073709551616 (m1 - e / 64) z)).length = m4 at *
        have hrg' : ∀ (E : Ctx), E.P = Tryz.prog -> l7 E [.row 160 1 (ls o1), .row 160 1 (ls u2)] 209 [.wv 1 1 lo1 m1, ints e] (.wv 1 1 lo4 m4) [.row 160 1 (ls o1), .row 160 1 (ls u4)] [] := fun E hP => hrg E hP
        have hgz : Nat.gcd z x3 = G := by
          have h1 := Nm.a4a (d := z) hob e
          rw [<- h1, <- hz, Nm.a7r hle, hG]
        have hzle : z <= x1 - x3 := by
          conv => rhs; rw [hz]
          exact Nat.le_mul_of_pos_left _ (Nat.pow_pos (by decide))
        (repeat first | refine uA ?_ | (refine uK ?_ ?_; focus first | omega | trivial | (intro h; rw [h]; rfl) | (intro h h2; rw [h, h2]; rfl) | (intro h; (try simp at h); omega) | (intros; simp_all <;> omega)) | simp only [go_sem, Nat.reduceBEq, Nat.reduceAdd, Nat.reduceLeDiff, Int.reduceToNat, Int.reducePow, q9] | simp (disch := omega) only [ww, q9] | refine p8.t (hrg' _ rfl) ?_ | (refine uE hev ?_ ?_ ?_ ?_; exact tz hw; exact rfl; focus (repeat' first | exact l5.nil | exact Imp.refl rfl | exact Imp.frz rfl rfl rfl | (refine Imp.J6 rfl rfl ?_ ?_; (focus ((try simp only [b7X, q9]); omega)); (focus first | rfl | assumption)) | refine l5.cons ?_ ?_); done))
        refine S.next (x := (⟨true, u, lo, n, v, o, lo2, n2, v2⟩ : Hv)) (⟨false, u4, lo4, m4, z, o1, lo3, n3, x3⟩ : Hv) ⟨hW4, hW2, hoz, hob, hgz⟩ (by simp only; omega) (by (repeat first | refine uA ?_ | (refine ⟨?_, ?_⟩; focus first | rfl | trivial | (simp [slot]; done)) | rfl | trivial | simp))
      · (repeat first | refine uA ?_ | (refine uK ?_ ?_; focus first | omega | trivial | (intro h; rw [h]; rfl) | (intro h h2; rw [h, h2]; rfl) | (intro h; (try simp at h); omega) | (intros; simp_all <;> omega)) | simp only [go_sem, Nat.reduceBEq, Nat.reduceAdd, Nat.reduceLeDiff, Int.reduceToNat, Int.reducePow] | simp (disch := omega) only [ww])
        have h0 := hW3.nonzero (by omega)
        have h1 : x1 = x3 := by omega
        subst h1
        rw [Nat.gcd_self] at hG
        exact S.met ⟨true, u2, lo1, m1, x1 - x1, o1, lo3, n3, x1⟩ ⟨hW3, hW2, .inl ⟨by simp only; omega, hG⟩⟩ (by (repeat first | refine uA ?_ | (refine ⟨?_, ?_⟩; focus first | rfl | trivial | (simp [slot]; done)) | rfl | trivial | simp))
      · have h0 : x1 - x3 ≠ 0 := fun h => by have := hW3.zero h; omega
        obtain ⟨z, hz, hoz⟩ := Nm.a1l h0
        have hev := a4V ((u2.drop lo1).take m1) (by rw [hW3.len]; omega) hW3.all (by rw [hW3.hv]; exact h0)
        rw [hwl, hW3.hv] at hev
        have heb := hW3.v2 h0
        generalize Nm.v2 (x1 - x3) = e at *
        have hrg := fun (E : Ctx) (hP : E.P = Tryz.prog) => a4S (E := E) hP true u2 o1 lo1 m1 e z (by omega) hn3 heb hW3.ha (by omega) (by rw [hW3.hv, hz, Nat.mul_comm])
        obtain ⟨hj, hz2, _⟩ := hrg ⟨Tryz.prog, eff, 0, w, fun _ => False, O, [], []⟩ rfl
        have hrg := fun E hP => (hrg E hP).2.2
        have hW4 := Win.put (u := u2) (l1 := lo1 + e / 64) (p := m1 - e / 64) (z := z) (by omega) (by omega) hl3 hW3.ha hz2
        generalize put u2 (lo1 + e / 64) (Nm.dig 18446744073709551616 (m1 - e / 64) z) = u4 at *
        generalize lo1 + e / 64 = lo4 at *
        generalize (Nm.E5 (Nm.dig 18446744073709551616 (m1 - e / 64) z)).length = m4 at *
        have hrg' : ∀ (E : Ctx), E.P = Tryz.prog -> l7 E [.row 160 1 (ls u2), .row 160 1 (ls o1)] 209 [.wv 0 1 lo1 m1, ints e] (.wv 0 1 lo4 m4) [.row 160 1 (ls u4), .row 160 1 (ls o1)] [] := fun E hP => hrg E hP
        have hgz : Nat.gcd z x3 = G := by
          have h1 := Nm.a4a (d := z) hob e
          rw [<- h1, <- hz, Nm.a7r hle, hG]
        have hzle : z <= x1 - x3 := by
          conv => rhs; rw [hz]
          exact Nat.le_mul_of_pos_left _ (Nat.pow_pos (by decide))
        (repeat first | refine uA ?_ | (refine uK ?_ ?_; focus first | omega | trivial | (intro h; rw [h]; rfl) | (intro h h2; rw [h, h2]; rfl) | (intro h; (try simp at h); omega) | (intros; simp_all <;> omega)) | simp only [go_sem, Nat.reduceBEq, Nat.reduceAdd, Nat.reduceLeDiff, Int.reduceToNat, Int.reducePow, q9] | simp (disch := omega) only [ww, q9] | refine p8.t (hrg' _ rfl) ?_ | (refine uE hev ?_ ?_ ?_ ?_; exact tz hw; exact rfl; focus (repeat' first | exact l5.nil | exact Imp.refl rfl | exact Imp.frz rfl rfl rfl | (refine Imp.J6 rfl rfl ?_ ?_; (focus ((try simp only [b7X, q9]); omega)); (focus first | rfl | assumption)) | refine l5.cons ?_ ?_); done))
        refine S.next (x := (⟨true, u, lo, n, v, o, lo2, n2, v2⟩ : Hv)) (⟨true, u4, lo4, m4, z, o1, lo3, n3, x3⟩ : Hv) ⟨hW4, hW2, hoz, hob, hgz⟩ (by simp only; omega) (by (repeat first | refine uA ?_ | (refine ⟨?_, ?_⟩; focus first | rfl | trivial | (simp [slot]; done)) | rfl | trivial | simp))
    · (repeat first | refine uA ?_ | (refine uK ?_ ?_; focus first | omega | trivial | (intro h; rw [h]; rfl) | (intro h h2; rw [h, h2]; rfl) | (intro h; (try simp at h); omega) | (intros; simp_all <;> omega)) | simp only [go_sem, Nat.reduceBEq, Nat.reduceAdd, Nat.reduceLeDiff, Int.reduceToNat, Int.reducePow] | simp (disch := omega) only [ww])
      have ha1 : n <= 1 /\ n2 <= 1 := by omega
      have hz1 : n ≠ 0 := fun h => by have := hW1.nonzero h; omega
      have hz2 : n2 ≠ 0 := fun h => by have := hW2.nonzero h; omega
      exact S.met ⟨s, u, lo, n, v, o, lo2, n2, v2⟩ ⟨hW1, hW2,   .inr ⟨by simp only; omega, by simp only; omega, hG⟩⟩ (by cases s <;> exact (by (repeat first | refine uA ?_ | (refine ⟨?_, ?_⟩; focus first | rfl | trivial | (simp [slot]; done)) | rfl | trivial | simp)))
  clear hW1 hW2 hG hoa hob
  rintro ⟨s, u, lo, n, v, o, lo2, n2, v2⟩ ⟨hW1, hW2, hcs⟩
  simp only [ints] at hW1 hW2 hcs ⊢
  refine S.seq ?_
  have hl1 := hW1.hl
  have hl2 := hW2.hl
  have hn1 := hW1.hn
  have hn2 := hW2.hn
  have hlo1 := hW1.hlo
  have hlo2 := hW2.hlo
  refine S.join (Y := Bool × List Nat × List Nat) (fun x => ⟨[(6, .wv (kx !x.1) 1 lo2 n2), (7, ints p), (8, ints q)], rw2 x.1 x.2.1 x.2.2⟩)
    (fun x => x.2.2.length = o.length /\ Nm.I5 x.2.2 /\ Nm.wv 18446744073709551616 ((x.2.2.drop lo2).take n2) = G) ?_ ?_
  · have one : ∀ {u : List Nat} {lo v : Nat}, Win u lo 1 v -> u[lo]? = some v /\ v < 18446744073709551616 := fun {u lo v} h => by
      have hg : u[lo]? = some (u[lo]'h.hlo) := b7W h.hlo
      have h1 := h.hv
      have h2 : (u.drop lo).take 1 = [u[lo]'h.hlo] := by rw [List.drop_eq_getElem_cons h.hlo]; rfl
      rw [h2] at h1
      simp only [Nm.wv] at h1
      have h3 := h.ha _ (b8j h.hlo)
      rw [Nat.mul_zero, Nat.add_zero] at h1
      rw [hg, h1]
      exact ⟨rfl, by omega⟩
    (repeat first | refine uA ?_ | (refine uK ?_ ?_; focus first | omega | trivial | (intro h; rw [h]; rfl) | (intro h h2; rw [h, h2]; rfl) | (intro h; (try simp at h); omega) | (intros; simp_all <;> omega)) | simp only [go_sem, Nat.reduceBEq, Nat.reduceAdd, Nat.reduceLeDiff, Int.reduceToNat, Int.reducePow] | simp (disch := omega) only [ww])
    (refine uJ rfl (fun hc => ?_) fun hc => ?_)
    · have hn : n = 1 := by omega
      have hm : n2 = 1 := by omega
      subst hn hm
      obtain ⟨g1, b1⟩ := one hW1
      obtain ⟨g2, b2⟩ := one hW2
      have hg : Nat.gcd v v2 = G := by rcases hcs with h | h; exact absurd h.1 (by decide); exact h.2.2
      have hco := a8J v v2 b1 b2
      rw [hg] at hco
      have hres : Nm.wv 18446744073709551616 (((o.set lo2 G).drop lo2).take 1) = G := by
        rw [List.drop_eq_getElem_cons (by rw [b8G]; exact hlo2), List.getElem_set_self]
        simp [Nm.wv]
      have hG64 : G < 18446744073709551616 := by
        have : v2 ≠ 0 := fun h => by have := hW2.zero h; omega
        have := Nat.gcd_le_right v (show 0 < v2 by omega)
        omega
      cases s
      all_goals
        simp only [rw2, kx, Bool.not_true, Bool.not_false]
        (repeat first | refine uA ?_ | (refine uK ?_ ?_; focus first | omega | trivial | (intro h; rw [h]; rfl) | (intro h h2; rw [h, h2]; rfl) | (intro h; (try simp at h); omega) | (intros; simp_all <;> omega)) | simp only [go_sem, Nat.reduceBEq, Nat.reduceAdd, Nat.reduceLeDiff, Int.reduceToNat, Int.reducePow, q9, F8, g1, g2, b7Y, lm, Nat.add_zero, Q5] | simp (disch := omega) only [ww, q9, F8, g1, g2, b7Y, lm, Nat.add_zero, Q5] | (refine uB hco ?_ ?_; exact rfl))
      · exact S.met (⟨false, u, o.set lo2 G⟩ : Bool × List Nat × List Nat) ⟨by simp, fun w hw => by
          rcases Nm.mem_set hw with rfl | hw
          · exact hG64
          · exact hW2.ha w hw, hres⟩ (by (repeat first | refine uA ?_ | (refine ⟨?_, ?_⟩; focus first | rfl | trivial | (simp [slot]; done)) | rfl | trivial | simp))
      · exact S.met (⟨true, u, o.set lo2 G⟩ : Bool × List Nat × List Nat) ⟨by simp, fun w hw => by
          rcases Nm.mem_set hw with rfl | hw
          · exact hG64
          · exact hW2.ha w hw, hres⟩ (by (repeat first | refine uA ?_ | (refine ⟨?_, ?_⟩; focus first | rfl | trivial | (simp [slot]; done)) | rfl | trivial | simp))
    · (repeat first | refine uA ?_ | (refine uK ?_ ?_; focus first | omega | trivial | (intro h; rw [h]; rfl) | (intro h h2; rw [h, h2]; rfl) | (intro h; (try simp at h); omega) | (intros; simp_all <;> omega)) | simp only [go_sem, Nat.reduceBEq, Nat.reduceAdd, Nat.reduceLeDiff, Int.reduceToNat, Int.reducePow] | simp (disch := omega) only [ww])
      have hg : v2 = G := by
        rcases hcs with h | h
        · exact h.2
        · omega
      exact S.met (⟨s, u, o⟩ : Bool × List Nat × List Nat) ⟨rfl, hW2.ha, by rw [<- hg]; exact hW2.hv⟩ (by cases s <;> exact (by (repeat first | refine uA ?_ | (refine ⟨?_, ?_⟩; focus first | rfl | trivial | (simp [slot]; done)) | rfl | trivial | simp)))
  rintro ⟨s', u', o'⟩ ⟨ho1, ho2, ho3⟩
  simp only [ints] at ho1 ho2 ho3 ⊢
  have hul : ((o'.drop lo2).take n2).length = n2 := by rw [b8i, b8I]; omega
  have hua : Nm.I5 ((o'.drop lo2).take n2) := (ho2.drop lo2).take _
  have hgw : ∀ i, i < n2 -> o'[lo2 + i]? = ((o'.drop lo2).take n2)[i]? := fun i hi => by rw [List.getElem?_take_of_lt hi, b8H]
  generalize (o'.drop lo2).take n2 = W at *
  have hfm := a2I (Nm.a0B W) (Nm.oB (2 ^ (min p q % 8)) :: List.replicate (min p q / 8) 0) (by rw [Nm.a7f hua]; omega) (by rw [b8r, List.length_replicate]; omega)
  rw [Nm.b2N, Nm.b3m hua, ho3, Nat.mul_comm] at hfm
  have hWl : W.length <= 17179869184 := by omega
  have hz8 : List.replicate (8 * (n2 : Int)).toNat [C.v (.int .u8 0)] = (Nm.a2y W 0).map D5 := by
    rw [Nm.b2X, <- a1n, show (8 * (n2 : Int)).toNat = 8 * W.length by omega]
  have hqm : IntKind.i64.wrap (((min p q : Nat) : Int).tdiv 8) = ((min p q / 8 : Nat) : Int) := b1m _ (by omega)
  have hmn : (if (q : Int) < (p : Int) then (q : Int) else (p : Int)) = ((min p q : Nat) : Int) := by split <;> omega
  generalize min p q = r at *
  clear hW1 hW2 hcs hn1 hl1 hlo1 ho3
  cases s'
  all_goals
    simp only [rw2, kx, Bool.not_true, Bool.not_false]
    (repeat first | refine uA ?_ | (refine uK ?_ ?_; focus first | omega | trivial | (intro h; rw [h]; rfl) | (intro h h2; rw [h, h2]; rfl) | (intro h; (try simp at h); omega) | (intros; simp_all <;> omega)) | simp only [go_sem, Nat.reduceBEq, Nat.reduceAdd, Nat.reduceLeDiff, Int.reduceToNat, Int.reducePow, q9, hz8] | simp (disch := omega) only [ww, q9, hz8])
  · refine S.loop (X := Nat) (fun i => ⟨[(6, .wv 0 1 lo2 n2), (7, ints p), (8, ints q), (9, .rv 2), (72, .wv 0 1 lo2 n2), (73, ints n2), (74, ints i)], [.row 160 1 (ls o'), .row 160 1 (ls u')] ++ [.row 5 1 ((Nm.a2y W i).map D5)]⟩) (fun i => i <= n2) (fun i => n2 - i) 0 (b8b _) (by (repeat first | refine uA ?_ | (refine ⟨?_, ?_⟩; focus first | rfl | trivial | (simp [slot]; done)) | rfl | trivial | simp)) ?_
    intro i hi
    simp only [ints, List.cons_append, List.nil_append]
    (repeat first | refine uA ?_ | (refine uK ?_ ?_; focus first | omega | trivial | (intro h; rw [h]; rfl) | (intro h h2; rw [h, h2]; rfl) | (intro h; (try simp at h); omega) | (intros; simp_all <;> omega)) | simp only [go_sem, Nat.reduceBEq, Nat.reduceAdd, Nat.reduceLeDiff, Int.reduceToNat, Int.reducePow] | simp (disch := omega) only [ww])
    (refine uJ rfl (fun hc => ?_) fun hc => ?_)
    · have hi' : i < n2 := by omega
      have hiW : i < W.length := by omega
      have hgo : o'[lo2 + i]? = some (W[i]'hiW) := by rw [hgw i hi', b7W hiW]
      have hgd : W.getD i 0 = W[i]'hiW := Nm.getD_lt hiW
      (repeat first | refine uA ?_ | (refine uK ?_ ?_; focus first | omega | trivial | (intro h; rw [h]; rfl) | (intro h h2; rw [h, h2]; rfl) | (intro h; (try simp at h); omega) | (intros; simp_all <;> omega)) | simp only [go_sem, Nat.reduceBEq, Nat.reduceAdd, Nat.reduceLeDiff, Int.reduceToNat, Int.reducePow, q9, F8, hgo, b7Y, lm] | simp (disch := omega) only [ww, q9, F8, hgo, b7Y, lm])
      rw [<- Nm.a7O hiW]
      refine S.loop (X := Nat) (fun k => ⟨[(6, .wv 0 1 lo2 n2), (7, ints p), (8, ints q), (9, .rv 2), (72, .wv 0 1 lo2 n2), (73, ints n2), (74, ints i), (10, ints i), (11, .v (.int .u64 (W[i]'hiW : Int))), (79, ints k)], [.row 160 1 (ls o'), .row 160 1 (ls u')] ++ [.row 5 1 ((Nm.a0y W i k).map D5)]⟩) (fun k => k <= 8) (fun k => 8 - k) 0 (b8b _) (by (repeat first | refine uA ?_ | (refine ⟨?_, ?_⟩; focus first | rfl | trivial | (simp [slot]; done)) | rfl | trivial | simp)) ?_
      intro k hk
      simp only [ints, List.cons_append, List.nil_append]
      have hlk := Nm.a8g hua hiW hk
      (repeat first | refine uA ?_ | (refine uK ?_ ?_; focus first | omega | trivial | (intro h; rw [h]; rfl) | (intro h h2; rw [h, h2]; rfl) | (intro h; (try simp at h); omega) | (intros; simp_all <;> omega)) | simp only [go_sem, Nat.reduceBEq, Nat.reduceAdd, Nat.reduceLeDiff, Int.reduceToNat, Int.reducePow] | simp (disch := omega) only [ww])
      (refine uJ rfl (fun hc => ?_) fun hc => ?_)
      · have hk' : k < 8 := by omega
        have hst := Nm.a7m (l := W) (i := i) hk'
        rw [hgd] at hst
        have hbv : IntKind.u8.wrap (Int.fdiv ((W[i]'hiW : Nat) : Int) (2 ^ min (56 - 8 * (k : Int)).toNat 64)) = (((Nm.oB ((W[i]'hiW) / 2 ^ (56 - 8 * k))).toNat : Nat) : Int) := by
          rw [<- a3V, show min (56 - 8 * (k : Int)).toNat 64 = 56 - 8 * k by omega]
          congr 2
        have hix : (8 * ((n2 : Int) - 1 - (i : Int)) + (k : Int)).toNat = 8 * (W.length - 1 - i) + k := by omega
        have hgk : (Nm.a0y W i k)[8 * (W.length - 1 - i) + k]? = some ((Nm.a0y W i k)[8 * (W.length - 1 - i) + k]'(by omega)) := b7W (by omega)
        (repeat first | refine uA ?_ | (refine uK ?_ ?_; focus first | omega | trivial | (intro h; rw [h]; rfl) | (intro h h2; rw [h, h2]; rfl) | (intro h; (try simp at h); omega) | (intros; simp_all <;> omega)) | simp only [go_sem, Nat.reduceBEq, Nat.reduceAdd, Nat.reduceLeDiff, Int.reduceToNat, Int.reducePow, q9, b7Z, hbv, hix, b8K, hgk, b7Y, D5, a1H, hst] | simp (disch := omega) only [ww, q9, b7Z, hbv, hix, b8K, hgk, b7Y, D5, a1H, hst])
        refine S.next (x := k) (k + 1) hk' (by omega) (by (repeat first | refine uA ?_ | (refine ⟨?_, ?_⟩; focus first | rfl | trivial | (simp [slot]; done)) | rfl | trivial | simp))
      · have hk8 : k = 8 := by omega
        subst hk8
        rw [Nm.a6o hiW]
        (repeat first | refine uA ?_ | (refine uK ?_ ?_; focus first | omega | trivial | (intro h; rw [h]; rfl) | (intro h h2; rw [h, h2]; rfl) | (intro h; (try simp at h); omega) | (intros; simp_all <;> omega)) | simp only [go_sem, Nat.reduceBEq, Nat.reduceAdd, Nat.reduceLeDiff, Int.reduceToNat, Int.reducePow] | simp (disch := omega) only [ww])
        refine S.next (x := i) (i + 1) hi' (by omega) (by (repeat first | refine uA ?_ | (refine ⟨?_, ?_⟩; focus first | rfl | trivial | (simp [slot]; done)) | rfl | trivial | simp))
    · have hi' : i = n2 := by omega
      subst hi'
      rw [<- hul, Nm.a9e]
      have hr1 : ((r / 8 : Nat) : Int) + 1 = ((r / 8 + 1 : Nat) : Int) := by omega
      have hrep : List.replicate (((r / 8 + 1 : Nat) : Int)).toNat [C.v (.int .u8 0)] = (List.replicate (r / 8 + 1) (0 : UInt8)).map D5 := by rw [<- a1n]; rfl
      have hrm : (r : Int).tmod 8 = ((r % 8 : Nat) : Int) := a6i r
      have hpw : IntKind.u8.wrap (1 * 2 ^ min (r % 8) 8) = (((Nm.oB (2 ^ (r % 8))).toNat : Nat) : Int) := by
        rw [show min (r % 8) 8 = r % 8 by omega, Nm.a0A, <- a0z]; congr 1; simp
      have hby : Q6 ([C.v (.int .u8 (((Nm.oB (2 ^ (r % 8))).toNat : Nat) : Int))] :: List.replicate (r / 8) [C.v (.int .u8 0)]) = some (Nm.oB (2 ^ (r % 8)) :: List.replicate (r / 8) 0) := by
        rw [a1n]; exact M7 (Nm.oB (2 ^ (r % 8)) :: List.replicate (r / 8) 0)
      (repeat first | refine uA ?_ | (refine uK ?_ ?_; focus first | omega | trivial | (intro h; rw [h]; rfl) | (intro h h2; rw [h, h2]; rfl) | (intro h; (try simp at h); omega) | (intros; simp_all <;> omega)) | simp only [go_sem, Nat.reduceBEq, Nat.reduceAdd, Nat.reduceLeDiff, Int.reduceToNat, Int.reducePow, hmn, hqm, hr1, hrep, hrm, hpw, hby, M7, a0C, D5, b8m] | simp (disch := omega) only [ww, hmn, hqm, hr1, hrep, hrm, hpw, hby, M7, a0C, D5, b8m] | (refine uB hfm ?_ ?_; exact rfl))
      exact S.done (d9.out rfl (Imp.refl rfl) rfl)
  · refine S.loop (X := Nat) (fun i => ⟨[(6, .wv 1 1 lo2 n2), (7, ints p), (8, ints q), (9, .rv 2), (72, .wv 1 1 lo2 n2), (73, ints n2), (74, ints i)], [.row 160 1 (ls u'), .row 160 1 (ls o')] ++ [.row 5 1 ((Nm.a2y W i).map D5)]⟩) (fun i => i <= n2) (fun i => n2 - i) 0 (b8b _) (by (repeat first | refine uA ?_ | (refine ⟨?_, ?_⟩; focus first | rfl | trivial | (simp [slot]; done)) | rfl | trivial | simp)) ?_
    intro i hi
    simp only [ints, List.cons_append, List.nil_append]
    (repeat first | refine uA ?_ | (refine uK ?_ ?_; focus first | omega | trivial | (intro h; rw [h]; rfl) | (intro h h2; rw [h, h2]; rfl) | (intro h; (try simp at h); omega) | (intros; simp_all <;> omega)) | simp only [go_sem, Nat.reduceBEq, Nat.reduceAdd, Nat.reduceLeDiff, Int.reduceToNat, Int.reducePow] | simp (disch := omega) only [ww])
    (refine uJ rfl (fun hc => ?_) fun hc => ?_)
    · have hi' : i < n2 := by omega
      have hiW : i < W.length := by omega
      have hgo : o'[lo2 + i]? = some (W[i]'hiW) := by rw [hgw i hi', b7W hiW]
      have hgd : W.getD i 0 = W[i]'hiW := Nm.getD_lt hiW
      (repeat first | refine uA ?_ | (refine uK ?_ ?_; focus first | omega | trivial | (intro h; rw [h]; rfl) | (intro h h2; rw [h, h2]; rfl) | (intro h; (try simp at h); omega) | (intros; simp_all <;> omega)) | simp only [go_sem, Nat.reduceBEq, Nat.reduceAdd, Nat.reduceLeDiff, Int.reduceToNat, Int.reducePow, q9, F8, hgo, b7Y, lm] | simp (disch := omega) only [ww, q9, F8, hgo, b7Y, lm])
      rw [<- Nm.a7O hiW]
      refine S.loop (X := Nat) (fun k => ⟨[(6, .wv 1 1 lo2 n2), (7, ints p), (8, ints q), (9, .rv 2), (72, .wv 1 1 lo2 n2), (73, ints n2), (74, ints i), (10, ints i), (11, .v (.int .u64 (W[i]'hiW : Int))), (79, ints k)], [.row 160 1 (ls u'), .row 160 1 (ls o')] ++ [.row 5 1 ((Nm.a0y W i k).map D5)]⟩) (fun k => k <= 8) (fun k => 8 - k) 0 (b8b _) (by (repeat first | refine uA ?_ | (refine ⟨?_, ?_⟩; focus first | rfl | trivial | (simp [slot]; done)) | rfl | trivial | simp)) ?_
      intro k hk
      simp only [ints, List.cons_append, List.nil_append]
      have hlk := Nm.a8g hua hiW hk
      (repeat first | refine uA ?_ | (refine uK ?_ ?_; focus first | omega | trivial | (intro h; rw [h]; rfl) | (intro h h2; rw [h, h2]; rfl) | (intro h; (try simp at h); omega) | (intros; simp_all <;> omega)) | simp only [go_sem, Nat.reduceBEq, Nat.reduceAdd, Nat.reduceLeDiff, Int.reduceToNat, Int.reducePow] | simp (disch := omega) only [ww])
      (refine uJ rfl (fun hc => ?_) fun hc => ?_)
      · have hk' : k < 8 := by omega
        have hst := Nm.a7m (l := W) (i := i) hk'
        rw [hgd] at hst
        have hbv : IntKind.u8.wrap (Int.fdiv ((W[i]'hiW : Nat) : Int) (2 ^ min (56 - 8 * (k : Int)).toNat 64)) = (((Nm.oB ((W[i]'hiW) / 2 ^ (56 - 8 * k))).toNat : Nat) : Int) := by
          rw [<- a3V, show min (56 - 8 * (k : Int)).toNat 64 = 56 - 8 * k by omega]
          congr 2
        have hix : (8 * ((n2 : Int) - 1 - (i : Int)) + (k : Int)).toNat = 8 * (W.length - 1 - i) + k := by omega
        have hgk : (Nm.a0y W i k)[8 * (W.length - 1 - i) + k]? = some ((Nm.a0y W i k)[8 * (W.length - 1 - i) + k]'(by omega)) := b7W (by omega)
        (repeat first | refine uA ?_ | (refine uK ?_ ?_; focus first | omega | trivial | (intro h; rw [h]; rfl) | (intro h h2; rw [h, h2]; rfl) | (intro h; (try simp at h); omega) | (intros; simp_all <;> omega)) | simp only [go_sem, Nat.reduceBEq, Nat.reduceAdd, Nat.reduceLeDiff, Int.reduceToNat, Int.reducePow, q9, b7Z, hbv, hix, b8K, hgk, b7Y, D5, a1H, hst] | simp (disch := omega) only [ww, q9, b7Z, hbv, hix, b8K, hgk, b7Y, D5, a1H, hst])
        refine S.next (x := k) (k + 1) hk' (by omega) (by (repeat first | refine uA ?_ | (refine ⟨?_, ?_⟩; focus first | rfl | trivial | (simp [slot]; done)) | rfl | trivial | simp))
      · have hk8 : k = 8 := by omega
        subst hk8
        rw [Nm.a6o hiW]
        (repeat first | refine uA ?_ | (refine uK ?_ ?_; focus first | omega | trivial | (intro h; rw [h]; rfl) | (intro h h2; rw [h, h2]; rfl) | (intro h; (try simp at h); omega) | (intros; simp_all <;> omega)) | simp only [go_sem, Nat.reduceBEq, Nat.reduceAdd, Nat.reduceLeDiff, Int.reduceToNat, Int.reducePow] | simp (disch := omega) only [ww])
        refine S.next (x := i) (i + 1) hi' (by omega) (by (repeat first | refine uA ?_ | (refine ⟨?_, ?_⟩; focus first | rfl | trivial | (simp [slot]; done)) | rfl | trivial | simp))
    · have hi' : i = n2 := by omega
      subst hi'
      rw [<- hul, Nm.a9e]
      have hr1 : ((r / 8 : Nat) : Int) + 1 = ((r / 8 + 1 : Nat) : Int) := by omega
      have hrep : List.replicate (((r / 8 + 1 : Nat) : Int)).toNat [C.v (.int .u8 0)] = (List.replicate (r / 8 + 1) (0 : UInt8)).map D5 := by rw [<- a1n]; rfl
      have hrm : (r : Int).tmod 8 = ((r % 8 : Nat) : Int) := a6i r
      have hpw : IntKind.u8.wrap (1 * 2 ^ min (r % 8) 8) = (((Nm.oB (2 ^ (r % 8))).toNat : Nat) : Int) := by
        rw [show min (r % 8) 8 = r % 8 by omega, Nm.a0A, <- a0z]; congr 1; simp
      have hby : Q6 ([C.v (.int .u8 (((Nm.oB (2 ^ (r % 8))).toNat : Nat) : Int))] :: List.replicate (r / 8) [C.v (.int .u8 0)]) = some (Nm.oB (2 ^ (r % 8)) :: List.replicate (r / 8) 0) := by
        rw [a1n]; exact M7 (Nm.oB (2 ^ (r % 8)) :: List.replicate (r / 8) 0)
      (repeat first | refine uA ?_ | (refine uK ?_ ?_; focus first | omega | trivial | (intro h; rw [h]; rfl) | (intro h h2; rw [h, h2]; rfl) | (intro h; (try simp at h); omega) | (intros; simp_all <;> omega)) | simp only [go_sem, Nat.reduceBEq, Nat.reduceAdd, Nat.reduceLeDiff, Int.reduceToNat, Int.reducePow, hmn, hqm, hr1, hrep, hrm, hpw, hby, M7, a0C, D5, b8m] | simp (disch := omega) only [ww, hmn, hqm, hr1, hrep, hrm, hpw, hby, M7, a0C, D5, b8m] | (refine uB hfm ?_ ?_; exact rfl))
      exact S.done (d9.out rfl (Imp.refl rfl) rfl)
theorem b4I (a b : List UInt8) (ha : a.length <= 68719476736) (hb : b.length <= 68719476736) : FZ 138 [sb a, sb b] (sb (Nm.enc (Nat.gcd (Nm.val a) (Nm.val b)))) := by
  refine kW Tryz.func138 (by cbv) (by rfl) fun w O hw => ?_
  simp only [j6, sb]
  have hta := Nm.Q0 a
  have htb := Nm.Q0 b
  have hva := Nm.K6 a
  have hvb := Nm.K6 b
  have hca := Nm.O7 a
  have hcb := Nm.O7 b
  have fta := Y2 a (by omega)
  have ftb := Y2 b (by omega)
  rw [<- hva, <- hvb]
  clear hva hvb
  generalize Nm.trim a = x at *
  generalize Nm.trim b = y at *
  generalize hG : Nat.gcd (Nm.val x) (Nm.val y) = G at *
  (repeat first | refine uA ?_ | (refine uK ?_ ?_; focus first | omega | (intros; simp_all <;> omega)) | simp (disch := omega) only [go_sem, Nat.reduceBEq, Nat.reduceAdd, ww] | (refine uB fta ?_ ?_; exact rfl) | (refine uB ftb ?_ ?_; exact rfl))
  refine S.loop (X := List UInt8 × List UInt8) (fun s => ⟨[(0, sb s.1), (1, sb s.2)], []⟩) (fun s => Nm.canon s.1 /\ Nm.canon s.2 /\ s.1.length <= 68719476736 /\ s.2.length <= 68719476736 /\ Nat.gcd (Nm.val s.1) (Nm.val s.2) = G) (fun s => Nm.val s.1 + Nm.val s.2) (x, y) ⟨hca, hcb, by simp only; omega, by simp only; omega, hG⟩ (by (repeat first | refine uA ?_ | (refine ⟨?_, ?_⟩; focus first | rfl | simp [slot]) | rfl | simp)) ?_
  clear fta ftb hca hcb hta htb hG
  rintro ⟨x, y⟩ ⟨hcx, hcy, hlx, hly, hG⟩
  simp only [sb] at hcx hcy hlx hly hG ⊢
  (repeat first | refine uA ?_ | (refine uK ?_ ?_; focus first | omega | (intros; simp_all <;> omega)) | simp (disch := omega) only [go_sem, Nat.reduceBEq, Nat.reduceAdd, ww])
  (refine uJ rfl (fun hc => ?_) fun hc => ?_)
  · rw [Y3, Y3] at hc
    have hne := hc
    refine S.skip ?_
    refine S.block ?_
    refine S.seq ?_
    refine S.join (Y := List UInt8 × List UInt8) (fun s => ⟨[(0, sb s.1), (1, sb s.2)], []⟩) (fun s => Nm.canon s.1 /\ Nm.canon s.2 /\ s.1.length <= 68719476736 /\ s.2.length <= s.1.length /\ Nat.gcd (Nm.val s.1) (Nm.val s.2) = G /\ s.1 ≠ [] /\ s.2 ≠ [] /\ Nm.val s.1 + Nm.val s.2 = Nm.val x + Nm.val y) ?_ ?_
    · (repeat first | refine uA ?_ | (refine uK ?_ ?_; focus first | omega | (intros; simp_all <;> omega)) | simp (disch := omega) only [go_sem, Nat.reduceBEq, Nat.reduceAdd, ww, l8])
      (refine uJ rfl (fun hc => ?_) fun hc => ?_)
      · (repeat first | refine uA ?_ | (refine uK ?_ ?_; focus first | omega | (intros; simp_all <;> omega)) | simp (disch := omega) only [go_sem, Nat.reduceBEq, Nat.reduceAdd, ww])
        exact S.met (⟨y, x⟩ : List UInt8 × List UInt8) ⟨hcy, hcx, hly, by simp only; omega, by rw [Nat.gcd_comm]; exact hG, hne.2, hne.1, by simp only; omega⟩ (by (repeat first | refine uA ?_ | (refine ⟨?_, ?_⟩; focus first | rfl | simp [slot]) | rfl | simp))
      · (repeat first | refine uA ?_ | (refine uK ?_ ?_; focus first | omega | (intros; simp_all <;> omega)) | simp (disch := omega) only [go_sem, Nat.reduceBEq, Nat.reduceAdd, ww])
        exact S.met (⟨x, y⟩ : List UInt8 × List UInt8) ⟨hcx, hcy, hlx, by simp only; omega, hG, hne.1, hne.2, rfl⟩ (by (repeat first | refine uA ?_ | (refine ⟨?_, ?_⟩; focus first | rfl | simp [slot]) | rfl | simp))
    clear hcx hcy hlx hly hG hc hne
    rintro ⟨p, q⟩ ⟨hcx, hcy, hlx, hly, hG, hp0, hq0, hsum⟩
    simp only [sb] at hcx hcy hlx hly hG hp0 hq0 hsum ⊢
    have hvp : Nm.val p ≠ 0 := fun h => hp0 ((Nm.val_zero hcx).1 h)
    have hvq : Nm.val q ≠ 0 := fun h => hq0 ((Nm.val_zero hcy).1 h)
    (repeat first | refine uA ?_ | (refine uK ?_ ?_; focus first | omega | (intros; simp_all <;> omega)) | simp (disch := omega) only [go_sem, Nat.reduceBEq, Nat.reduceAdd, ww, l8])
    (refine uJ rfl (fun hc => ?_) fun hc => ?_)
    · have hx7 := Nm.V9 (l := p) (k := 8) (by omega)
      have hy7 := Nm.V9 (l := q) (k := 8) (by omega)
      have e1 : Nm.val p % 18446744073709551616 = Nm.val p := Nat.mod_eq_of_lt (by omega)
      have e2 : Nm.val q % 18446744073709551616 = Nm.val q := Nat.mod_eq_of_lt (by omega)
      have fx := a0S p (by omega)
      have fy := a0S q (by omega)
      rw [e1] at fx
      rw [e2] at fy
      have hco := a8J (Nm.val p) (Nm.val q) (by omega) (by omega)
      rw [hG] at hco
      have hle : G <= Nm.val q := by rw [<- hG]; exact Nat.gcd_le_right _ (by omega)
      have hf := X4 G (by omega)
      (repeat first | refine uA ?_ | (refine uK ?_ ?_; focus first | omega | (intros; simp_all <;> omega)) | simp (disch := omega) only [go_sem, Nat.reduceBEq, Nat.reduceAdd, ww] | (refine uB fx ?_ ?_; exact rfl) | (refine uB fy ?_ ?_; exact rfl) | (refine uB hco ?_ ?_; exact rfl) | (refine uB hf ?_ ?_; exact rfl))
      exact S.done (d9.out rfl (Imp.refl rfl) rfl)
    (repeat first | refine uA ?_ | (refine uK ?_ ?_; focus first | omega | (intros; simp_all <;> omega)) | simp (disch := omega) only [go_sem, Nat.reduceBEq, Nat.reduceAdd, ww, l8])
    (refine uJ rfl (fun hc => ?_) fun hc => ?_)
    · have hh := b4v p q hlx (by omega) hvp hvq
      rw [hG] at hh
      (repeat first | refine uA ?_ | (refine uK ?_ ?_; focus first | omega | (intros; simp_all <;> omega)) | simp (disch := omega) only [go_sem, Nat.reduceBEq, Nat.reduceAdd, ww] | (refine uD hh ?_ ?_ ?_; exact tz hw; exact rfl))
      exact S.done (d9.out rfl (Imp.refl rfl) rfl)
    · have hd := b1U p q (by omega) (by omega) hvq
      have hlt : Nm.val p % Nm.val q < Nm.val q := Nat.mod_lt _ (by omega)
      have hlq := Nm.R8 q
      have hpq := Nm.a0Y hcx (a := q) (b := p) (by omega)
      have hrl : (Nm.enc (Nm.val p % Nm.val q)).length <= q.length := Nm.O5 (by omega)
      (repeat first | refine uA ?_ | (refine uK ?_ ?_; focus first | omega | (intros; simp_all <;> omega)) | simp (disch := omega) only [go_sem, Nat.reduceBEq, Nat.reduceAdd, ww] | (refine uB hd ?_ ?_; exact rfl))
      refine S.next (x := (x, y)) (q, Nm.enc (Nm.val p % Nm.val q)) ⟨hcy, Nm.a1N _, by simp only; omega, by simp only; omega, ?_⟩ (by simp only [Nm.H8]; omega) (by (repeat first | refine uA ?_ | (refine ⟨?_, ?_⟩; focus first | rfl | simp [slot]) | rfl | simp))
      simp only [Nm.H8]
      rw [Nat.gcd_comm, <- Nat.gcd_rec, Nat.gcd_comm]; exact hG
  · have hr : Nm.enc G = x ++ y := by
      rw [Y3, Y3] at hc
      rcases Classical.em (x = []) with h | h
      · subst h
        rw [Nm.a6K, Nat.gcd_zero_left] at hG
        rw [<- hG, Nm.a0p hcy]; rfl
      · have hy : y = [] := by
          rcases hc with hc | hc
          · exact absurd hc h
          · exact hc
        subst hy
        rw [Nm.a6K, Nat.gcd_zero_right] at hG
        rw [<- hG, Nm.a0p hcx, List.append_nil]
    rw [hr]
    (repeat first | refine uA ?_ | (refine uK ?_ ?_; focus first | omega | (intros; simp_all <;> omega)) | simp (disch := omega) only [go_sem, Nat.reduceBEq, Nat.reduceAdd, ww, F7, l8])
    exact S.done (d9.out rfl (Imp.refl rfl) rfl)
def rc (a : Nm.Rt) : C := .agg [.v (.bool a.neg), sb a.num, sb a.den]
def rq (q : Rat) : C := rc (Nm.ofQ q)
def Rb (k : Nat) (a : Nm.Rt) : Prop := a.num.length <= k /\ a.den.length <= k
theorem a3r (l : List UInt8) : (bs l = (⟨#[1]⟩ : ByteArray)) = (l = [1]) := a1y l [1]
theorem a7d (l : List UInt8) : Nm.canon l <-> (l = [] \/ l.getD 0 0 ≠ 0) := by
 cases l with
 | nil => simp [Nm.a4H]
 | cons b r =>
  simp only [List.getD_cons_zero, reduceCtorEq, false_or]
  constructor
  ·intro h h0; exact h r (by rw [h0])
  ·intro h q e; injection e with e1 _; exact h e1
theorem a1K (a : Nm.Rt) (ha : Rb 68719476736 a) : FZ 45 [rc a] (.v (.bool (decide a.D8))) := by
  refine kW Tryz.func45 (by cbv) (by rfl) fun w O hw => ?_
  obtain ⟨neg, num, den⟩ := a
  obtain ⟨hn, hd⟩ := ha
  simp only [rc] at hn hd ⊢
  simp only [j6, sb]
  have hg := b4I num den (by omega) (by omega)
  have hgood : Nm.Rt.D8 ⟨neg, num, den⟩ <-> den ≠ [] /\ Nm.canon den /\ Nm.canon num /\ (num = [] -> neg = false /\ den = [1]) /\ (den = [1] \/ Nat.gcd (Nm.val num) (Nm.val den) = 1) := Iff.rfl
  rw [a7d, a7d] at hgood
  have hdl : (!decide (den = [])) = true -> 0 < (den.length : Int) := fun h => by
    have : den ≠ [] := by simpa using h
    have := List.length_pos_iff.2 this
    omega
  have hnl : num ≠ [] -> 0 < (num.length : Int) := fun h => by
    have := List.length_pos_iff.2 h
    omega
  have hgb0 : ∀ {p : Prop} [Decidable p], (Nm.Rt.D8 ⟨neg, num, den⟩ <-> p) -> decide (Nm.Rt.D8 ⟨neg, num, den⟩) = decide p := fun h => decide_eq_decide.2 h
  have hgb := hgb0 hgood
  clear hgood hgb0
  generalize decide (Nm.Rt.D8 ⟨neg, num, den⟩) = gb at *
  (repeat first | refine uA ?_ | (refine uK ?_ ?_; focus first | omega | trivial | (intro h; rw [h]; rfl) | (intro h h2; rw [h, h2]; rfl) | (intro h; (try simp at h); omega) | (intros; simp_all <;> omega)) | simp only [go_sem, Nat.reduceBEq, Nat.reduceAdd, Nat.reduceLeDiff, Int.reduceToNat, Int.reducePow, l8, K9, a4T, Y3, a3r] | simp (disch := omega) only [ww, l8, K9, a4T, Y3, a3r])
  refine S.cond rfl (fun hc => ?_) (fun hc => ?_)
  · have : gb = false := by
      rw [hgb, b8v]
      simp only [b8N, b8g, b8o, Bool.not_eq_true', b8v] at hc
      grind
    rw [this]
    (repeat first | refine uA ?_ | (refine uK ?_ ?_; focus first | omega | trivial | (intro h; rw [h]; rfl) | (intro h h2; rw [h, h2]; rfl) | (intro h; (try simp at h); omega) | (intros; simp_all <;> omega)) | simp only [go_sem, Nat.reduceBEq, Nat.reduceAdd, Nat.reduceLeDiff, Int.reduceToNat, Int.reducePow] | simp (disch := omega) only [ww])
    exact S.done (d9.out rfl (Imp.refl rfl) rfl)
  · have hone : (Nm.enc (Nat.gcd (Nm.val num) (Nm.val den)) = [1]) = (Nat.gcd (Nm.val num) (Nm.val den) = 1) := by
      rw [<- Nm.a0N]
      exact propext ⟨Nm.a6N, fun h => by rw [h]⟩
    have : gb = (decide (den = [1]) || decide (Nat.gcd (Nm.val num) (Nm.val den) = 1)) := by
      rw [hgb, <- Bool.decide_or]
      simp only [b8J, Bool.and_eq_false_iff, b8o, Bool.not_eq_false', b8v] at hc
      refine decide_eq_decide.2 ⟨fun h => h.2.2.2.2, fun h => ?_⟩
      grind
    rw [this]
    (repeat first | refine uA ?_ | (refine uK ?_ ?_; focus first | omega | trivial | (intro h; rw [h]; rfl) | (intro h h2; rw [h, h2]; rfl) | (intro h; (try simp at h); omega) | (intros; simp_all <;> omega)) | simp only [go_sem, Nat.reduceBEq, Nat.reduceAdd, Nat.reduceLeDiff, Int.reduceToNat, Int.reducePow, Y3, a3r, hone] | simp (disch := omega) only [ww, Y3, a3r, hone] | (refine uD hg ?_ ?_ ?_; exact tz hw; exact rfl))
    exact S.done (d9.out rfl (Imp.refl rfl) rfl)
theorem b2k : l6 Tryz.prog 165 [] (rc Nm.a1D) := by
 refine kS Tryz.func165 (by cbv) (by rfl) fun w O => ?_
 simp only [j6, rc, Nm.a1D, sb]
 (repeat first | refine uA ?_ | (refine uK ?_ ?_; focus first | omega | (intros; simp_all <;> omega)) | simp (disch := omega) only [go_sem, Nat.reduceBEq, Nat.reduceAdd, ww])
 (refine S.done ?_; simp only [z8, r9, go_sem, Nat.reduceBEq, Nat.reduceAdd, Nat.reduceLeDiff, Int.reduceToNat, Int.reducePow]; (repeat (refine ⟨?_, ?_⟩; focus first | trivial | omega | simp)); exact d9.out rfl (Imp.refl rfl) rfl)
theorem b7s (a : Nm.Rt) (ha : Rb 68719476736 a) : FZ 107 [rc a] (rq (Nm.j5 a)) := by
 refine kW Tryz.func107 (by cbv) (by rfl) fun w O hw => ?_
 have hg := a1K a ha
 have fz := b2k
 unfold rq
 by_cases h : a.D8
 ·rw [Nm.a4E h]
  rw [show decide a.D8 = true from decide_eq_true h] at hg
  simp only [j6, rc, sb] at hg ⊢
  (repeat first | refine uA ?_ | (refine uK ?_ ?_; focus first | omega | (intros; simp_all <;> omega)) | simp (disch := omega) only [go_sem, Nat.reduceBEq, Nat.reduceAdd, ww] | (refine uD hg ?_ ?_ ?_; exact tz hw; exact rfl))
  exact S.cond rfl (fun hc => by cases hc) (fun _ => by
   (repeat first | refine uA ?_ | (refine uK ?_ ?_; focus first | omega | (intros; simp_all <;> omega)) | simp (disch := omega) only [go_sem, Nat.reduceBEq, Nat.reduceAdd, ww])
   (refine S.done ?_; simp only [z8, r9, go_sem, Nat.reduceBEq, Nat.reduceAdd, Nat.reduceLeDiff, Int.reduceToNat, Int.reducePow]; (repeat (refine ⟨?_, ?_⟩; focus first | trivial | omega | simp)); exact d9.out rfl (Imp.refl rfl) rfl))
 ·have e : Nm.ofQ (Nm.j5 a) = Nm.a1D := by unfold Nm.j5; rw [if_neg h, Nm.a5E]
  rw [e]
  rw [show decide a.D8 = false from decide_eq_false h] at hg
  simp only [j6, rc, sb, Nm.a1D] at hg fz ⊢
  (repeat first | refine uA ?_ | (refine uK ?_ ?_; focus first | omega | (intros; simp_all <;> omega)) | simp (disch := omega) only [go_sem, Nat.reduceBEq, Nat.reduceAdd, ww] | (refine uD hg ?_ ?_ ?_; exact tz hw; exact rfl))
  exact S.cond rfl (fun _ => by
   (repeat first | refine uA ?_ | (refine uK ?_ ?_; focus first | omega | (intros; simp_all <;> omega)) | simp (disch := omega) only [go_sem, Nat.reduceBEq, Nat.reduceAdd, ww] | (refine uB fz ?_ ?_; exact rfl))
   (refine S.done ?_; simp only [z8, r9, go_sem, Nat.reduceBEq, Nat.reduceAdd, Nat.reduceLeDiff, Int.reduceToNat, Int.reducePow]; (repeat (refine ⟨?_, ?_⟩; focus first | trivial | omega | simp)); exact d9.out rfl (Imp.refl rfl) rfl)) (fun hc => by cases hc)
theorem b5j {n d k : Nat} (hd : 0 < d) (h : (Nm.enc d).length <= k) : (Nm.enc (Nat.gcd n d)).length <= k := Nm.O5 (Nat.lt_of_le_of_lt (Nat.gcd_le_right n hd) (Nm.R9 h))
theorem a4D (neg : Bool) (n d : Nat) (hd : d ≠ 0) (hn : (Nm.enc n).length <= 68719476736) (hdl : (Nm.enc d).length <= 68719476736) :
  FZ 197 [.v (.bool neg), sb (Nm.enc n), sb (Nm.enc d)] (rq (mkRat (Nm.sgn neg n) d)) := by
 refine kW Tryz.func197 (by cbv) (by rfl) fun w O hw => ?_
 have fz := b2k
 have hg := b4I (Nm.enc n) (Nm.enc d) hn hdl
 rw [Nm.H8, Nm.H8] at hg
 unfold rq
 rw [<- Nm.a6G neg hd]
 have hz : (Nm.enc n = []) = (n = 0) := propext ⟨fun h => Classical.byContradiction fun h0 => Nm.a3k h0 h, fun h => by rw [h, Nm.a0k]⟩
 have h1 : ∀ d, (Nm.enc d = [1]) = (d = 1) := fun d => by
  rw [<- Nm.a0N]; exact propext ⟨Nm.a6N, fun h => by rw [h]⟩
 have hgp : Nat.gcd n d ≠ 0 := fun h => hd (Nat.eq_zero_of_gcd_eq_zero_right h)
 have hgl : (Nm.enc (Nat.gcd n d)).length <= 68719476736 := by
  exact b5j (by omega) hdl
 have hd1 := b1U (Nm.enc n) (Nm.enc (Nat.gcd n d)) (by omega) (by omega) (by rw [Nm.H8]; exact hgp)
 have hd2 := b1U (Nm.enc d) (Nm.enc (Nat.gcd n d)) (by omega) (by omega) (by rw [Nm.H8]; exact hgp)
 simp only [Nm.H8] at hd1 hd2
 generalize hgg : Nat.gcd n d = g at *
 simp only [j6, sb]
 (repeat first | refine uA ?_ | (refine uK ?_ ?_; focus first | omega | (intros; simp_all <;> omega)) | simp (disch := omega) only [go_sem, Nat.reduceBEq, Nat.reduceAdd, ww, Y3, hz])
 (refine uJ rfl (fun hc => ?_) fun hc => ?_)
 ·rw [if_pos hc]
  simp only [rc, Nm.a1D, sb] at fz ⊢
  (repeat first | refine uA ?_ | (refine uK ?_ ?_; focus first | omega | (intros; simp_all <;> omega)) | simp (disch := omega) only [go_sem, Nat.reduceBEq, Nat.reduceAdd, ww] | (refine uB fz ?_ ?_; exact rfl))
  (refine S.done ?_; simp only [z8, r9, go_sem, Nat.reduceBEq, Nat.reduceAdd, Nat.reduceLeDiff, Int.reduceToNat, Int.reducePow]; (repeat (refine ⟨?_, ?_⟩; focus first | trivial | omega | simp)); exact d9.out rfl (Imp.refl rfl) rfl)
 rw [if_neg hc]
 simp only [rc, sb]
 (repeat first | refine uA ?_ | (refine uK ?_ ?_; focus first | omega | (intros; simp_all <;> omega)) | simp (disch := omega) only [go_sem, Nat.reduceBEq, Nat.reduceAdd, ww, a3r, h1])
 (refine uJ rfl (fun hc => ?_) fun hc => ?_)
 ·(repeat first | refine uA ?_ | (refine uK ?_ ?_; focus first | omega | (intros; simp_all <;> omega)) | simp (disch := omega) only [go_sem, Nat.reduceBEq, Nat.reduceAdd, ww, a3r, h1] | (refine uD hg ?_ ?_ ?_; exact tz hw; exact rfl))
  (refine uJ rfl (fun hc => ?_) fun hc => ?_)
  ·(repeat first | refine uA ?_ | (refine uK ?_ ?_; focus first | omega | (intros; simp_all <;> omega)) | simp (disch := omega) only [go_sem, Nat.reduceBEq, Nat.reduceAdd, ww] | (refine uB hd1 ?_ ?_; exact rfl) | (refine uB hd2 ?_ ?_; exact rfl))
   (refine S.done ?_; simp only [z8, r9, go_sem, Nat.reduceBEq, Nat.reduceAdd, Nat.reduceLeDiff, Int.reduceToNat, Int.reducePow]; (repeat (refine ⟨?_, ?_⟩; focus first | trivial | omega | simp)); exact d9.out rfl (Imp.refl rfl) rfl)
  ·rw [hc, Nat.div_one, Nat.div_one]
   (repeat first | refine uA ?_ | (refine uK ?_ ?_; focus first | omega | (intros; simp_all <;> omega)) | simp (disch := omega) only [go_sem, Nat.reduceBEq, Nat.reduceAdd, ww])
   (refine S.done ?_; simp only [z8, r9, go_sem, Nat.reduceBEq, Nat.reduceAdd, Nat.reduceLeDiff, Int.reduceToNat, Int.reducePow]; (repeat (refine ⟨?_, ?_⟩; focus first | trivial | omega | simp)); exact d9.out rfl (Imp.refl rfl) rfl)
 ·rw [hc, Nat.gcd_one_right] at hgg
  subst hgg
  rw [hc, Nat.div_one, Nat.div_one]
  (repeat first | refine uA ?_ | (refine uK ?_ ?_; focus first | omega | (intros; simp_all <;> omega)) | simp (disch := omega) only [go_sem, Nat.reduceBEq, Nat.reduceAdd, ww])
  (refine S.done ?_; simp only [z8, r9, go_sem, Nat.reduceBEq, Nat.reduceAdd, Nat.reduceLeDiff, Int.reduceToNat, Int.reducePow]; (repeat (refine ⟨?_, ?_⟩; focus first | trivial | omega | simp)); exact d9.out rfl (Imp.refl rfl) rfl)
theorem a8P (neg mi : Bool) (a b : List UInt8) (ha : a.length <= 68719476736) (hb : b.length <= 68719476736) :
  l6 Tryz.prog 201 [.v (.bool neg), sb a, .v (.bool mi), sb b] (.tup [.v (.bool (Nm.I6 neg (Nm.val a) mi (Nm.val b)).1), sb (Nm.enc (Nm.I6 neg (Nm.val a) mi (Nm.val b)).2)]) := by
 refine kS Tryz.func201 (by cbv) (by rfl) fun w O => ?_
 have hadd := f_add a b (by omega) (by omega)
 have hs1 := b4V a b (by omega) (by omega)
 have hs2 := b4V b a (by omega) (by omega)
 simp only [j6, sb]
 (repeat first | refine uA ?_ | (refine uK ?_ ?_; focus first | omega | (intros; simp_all <;> omega)) | simp (disch := omega) only [go_sem, Nat.reduceBEq, Nat.reduceAdd, ww])
 refine S.cond rfl (fun hc => ?_) (fun hc => ?_)
 ·have e : neg = mi := by simpa using hc
  subst e
  unfold Nm.I6
  rw [if_pos rfl]
  (repeat first | refine uA ?_ | (refine uK ?_ ?_; focus first | omega | (intros; simp_all <;> omega)) | simp (disch := omega) only [go_sem, Nat.reduceBEq, Nat.reduceAdd, ww] | (refine uB hadd ?_ ?_; exact rfl))
  exact S.done (d9.out rfl (Imp.refl rfl) rfl)
 ·have e : neg ≠ mi := by simpa using hc
  unfold Nm.I6
  rw [if_neg e]
  by_cases h : Nm.val b <= Nm.val a
  ·rw [if_pos h]
   have e1 : F3 (Nm.val a) (Nm.val b) = Nm.enc (Nm.val a - Nm.val b) := by unfold F3; rw [if_pos h]
   have e2 : a2l (Nm.val a) (Nm.val b) = 0 := by unfold a2l; rw [if_pos h]
   rw [e1, e2] at hs1
   (repeat first | refine uA ?_ | (refine uK ?_ ?_; focus first | omega | (intros; simp_all <;> omega)) | simp (disch := omega) only [go_sem, Nat.reduceBEq, Nat.reduceAdd, ww] | (refine uB hs1 ?_ ?_; exact rfl))
   refine S.cond rfl (fun hc => ?_) (fun hc => ?_)
   ·(repeat first | refine uA ?_ | (refine uK ?_ ?_; focus first | omega | (intros; simp_all <;> omega)) | simp (disch := omega) only [go_sem, Nat.reduceBEq, Nat.reduceAdd, ww])
    exact S.done (d9.out rfl (Imp.refl rfl) rfl)
   ·simp at hc
  ·rw [if_neg h]
   have e1 : F3 (Nm.val a) (Nm.val b) = [] := by unfold F3; rw [if_neg h]
   have e2 : a2l (Nm.val a) (Nm.val b) = 1 := by unfold a2l; rw [if_neg h]
   have e3 : F3 (Nm.val b) (Nm.val a) = Nm.enc (Nm.val b - Nm.val a) := by unfold F3; rw [if_pos (by omega)]
   have e4 : a2l (Nm.val b) (Nm.val a) = 0 := by unfold a2l; rw [if_pos (by omega)]
   rw [e1, e2] at hs1
   rw [e3, e4] at hs2
   (repeat first | refine uA ?_ | (refine uK ?_ ?_; focus first | omega | (intros; simp_all <;> omega)) | simp (disch := omega) only [go_sem, Nat.reduceBEq, Nat.reduceAdd, ww] | (refine uB hs1 ?_ ?_; exact rfl))
   refine S.cond rfl (fun hc => ?_) (fun hc => ?_)
   ·simp at hc
   ·(repeat first | refine uA ?_ | (refine uK ?_ ?_; focus first | omega | (intros; simp_all <;> omega)) | simp (disch := omega) only [go_sem, Nat.reduceBEq, Nat.reduceAdd, ww] | (refine uB hs2 ?_ ?_; exact rfl))
    exact S.done (d9.out rfl (Imp.refl rfl) rfl)
namespace Nm
theorem J4 {a b k m : Nat} (ha : (enc a).length <= k) (hb : (enc b).length <= m) : (enc (a * b)).length <= k + m := by
 refine O5 ?_
 rw [Nat.pow_add]
 exact Nat.mul_lt_mul'' (R9 ha) (R9 hb)
theorem a3e {a b k : Nat} (ha : (enc a).length <= k) (hb : (enc b).length <= k) : (enc (a + b)).length <= k + 1 := by
 refine O5 ?_
 have h1 := R9 ha
 have h2 := R9 hb
 rw [b8C]; omega
theorem a2o {a b : Nat} (h : a <= b) : (enc a).length <= (enc b).length := O5 (Nat.lt_of_le_of_lt h (R9 (b8f _)))
theorem a3R (neg : Bool) (a : Nat) (mi : Bool) (b : Nat) : (I6 neg a mi b).2 <= a + b := by
 unfold I6; repeat' split
 all_goals simp only; omega
theorem add_same {p q : Rat} (h : p.den = q.den) : p + q = mkRat (p.num + q.num) p.den := by
 rw [Rat.add_def', <- h, <- Int.add_mul, Rat.mkRat_mul_right p.den_nz]
theorem a5c (p : Rat) : sgn (decide (p.num < 0)) p.num.natAbs = p.num := b0V p
theorem b4z {p q : Rat} (h : p.den = q.den) : mkRat (sgn (I6 (decide (p.num < 0)) p.num.natAbs (decide (q.num < 0)) q.num.natAbs).1 (I6 (decide (p.num < 0)) p.num.natAbs (decide (q.num < 0)) q.num.natAbs).2) p.den = p + q := by
 rw [a7K, a5c, a5c, add_same h]
theorem a7q (p q : Rat) : mkRat (sgn (I6 (decide (p.num < 0)) (p.num.natAbs * q.den) (decide (q.num < 0)) (q.num.natAbs * p.den)).1 (I6 (decide (p.num < 0)) (p.num.natAbs * q.den) (decide (q.num < 0)) (q.num.natAbs * p.den)).2) (p.den * q.den) = p + q := by
 rw [a7K, a5s, a5s, a5c, a5c, Rat.add_def']
theorem a8h (p q : Rat) : mkRat (sgn (decide (p.num < 0) != decide (q.num < 0)) (p.num.natAbs * q.num.natAbs)) (p.den * q.den) = p * q := by
 rw [b6f, a5c, a5c, Rat.mul_def']
end Nm
theorem Rb.fit {k : Nat} {a : Nm.Rt} (h : Rb k a) (hk : 1 <= k) : Rb k (Nm.ofQ (Nm.j5 a)) := by
 by_cases hg : a.D8
 ·rw [Nm.a4E hg]; exact h
 ·have e : Nm.ofQ (Nm.j5 a) = Nm.a1D := by unfold Nm.j5; rw [if_neg hg, Nm.a5E]
  rw [e]; exact ⟨b8b _, hk⟩
theorem a0d (a : Nm.Rt) (ha : Rb 17179869184 a) : FZ 107 [rc a] (rq (Nm.j5 a)) := b7s a ⟨by have := ha.1; omega, by have := ha.2; omega⟩
theorem b5u (a b : Nat) : (Nm.enc a = Nm.enc b) = (a = b) := propext ⟨Nm.a6N, fun h => by rw [h]⟩
theorem a7p (n : Nat) : (Nm.enc n = []) = (n = 0) := propext ⟨fun h => Classical.byContradiction fun h0 => Nm.a3k h0 h, fun h => by rw [h, Nm.a0k]⟩
theorem b7f (n : Int) (h1 : -9223372036854775808 <= n) (h2 : n <= 9223372036854775807) : FZ 157 [ints n] (rq (n : Rat)) := by
 refine kW Tryz.func157 (by cbv) (by rfl) fun w O hw => ?_
 have hb : ∀ k : Nat, k <= 9223372036854775808 -> (Nm.enc k).length <= 8 := fun k hk => Nm.O5 (by omega)
 have e1 : sb [1] = sb (Nm.enc 1) := by rw [Nm.a0N]
 simp only [j6, ints]
 (repeat first | refine uA ?_ | (refine uK ?_ ?_; focus first | omega | (intros; simp_all <;> omega)) | simp (disch := omega) only [go_sem, Nat.reduceBEq, Nat.reduceAdd, ww])
 (refine uJ rfl (fun hc => ?_) fun hc => ?_)
 ·have hof := b1Q n (by omega)
  have hm := a4D false n.toNat 1 (by decide) (by have := hb n.toNat (by omega); omega) (by have := hb 1 (by decide); omega)
  have e : mkRat (Nm.sgn false n.toNat) 1 = (n : Rat) := by
   rw [Rat.mkRat_one]; congr 1; unfold Nm.sgn; simp; omega
  rw [e, Nm.a0N] at hm
  simp only [rq, rc, sb, ints] at hm hof ⊢
  (repeat first | refine uA ?_ | (refine uK ?_ ?_; focus first | omega | (intros; simp_all <;> omega)) | simp (disch := omega) only [go_sem, Nat.reduceBEq, Nat.reduceAdd, ww] | (refine uB hof ?_ ?_; exact rfl) | (refine uD hm ?_ ?_ ?_; exact tz hw; exact rfl))
  (refine S.done ?_; simp only [z8, r9, go_sem, Nat.reduceBEq, Nat.reduceAdd, Nat.reduceLeDiff, Int.reduceToNat, Int.reducePow]; (repeat (refine ⟨?_, ?_⟩; focus first | trivial | omega | simp)); exact d9.out rfl (Imp.refl rfl) rfl)
 ·have hof := b1Q (-(n + 1)) (by omega)
  have hadd := f_add (Nm.enc (-(n + 1)).toNat) [1] (by have := hb (-(n + 1)).toNat (by omega); omega) (by decide)
  have hm := a4D true ((-(n + 1)).toNat + 1) 1 (by decide) (by have := hb ((-(n + 1)).toNat + 1) (by omega); omega) (by have := hb 1 (by decide); omega)
  have e : mkRat (Nm.sgn true ((-(n + 1)).toNat + 1)) 1 = (n : Rat) := by
   rw [Rat.mkRat_one]; congr 1; unfold Nm.sgn; simp; omega
  rw [Nm.H8, show Nm.val [1] = 1 from rfl] at hadd
  rw [e, Nm.a0N] at hm
  have hneg : IntKind.i64.wrap (0 - (n + 1)) = -(n + 1) := by rw [Eng.wrap_i64 (by omega)]; omega
  simp only [rq, rc, sb, ints] at hm hof hadd ⊢
  (repeat first | refine uA ?_ | (refine uK ?_ ?_; focus first | omega | (intros; simp_all <;> omega)) | simp (disch := omega) only [go_sem, Nat.reduceBEq, Nat.reduceAdd, ww, hneg] | (refine uB hof ?_ ?_; exact rfl) | (refine uB hadd ?_ ?_; exact rfl) | (refine uD hm ?_ ?_ ?_; exact tz hw; exact rfl))
  (refine S.done ?_; simp only [z8, r9, go_sem, Nat.reduceBEq, Nat.reduceAdd, Nat.reduceLeDiff, Int.reduceToNat, Int.reducePow]; (repeat (refine ⟨?_, ?_⟩; focus first | trivial | omega | simp)); exact d9.out rfl (Imp.refl rfl) rfl)
theorem b6B (a b : Nm.Rt) (ha : Rb 17179869184 a) (hb : Rb 17179869184 b) : FZ 163 [rc a, rc b] (rq (Nm.j5 a + Nm.j5 b)) := by
 refine kW Tryz.func163 (by cbv) (by rfl) fun w O hw => ?_
 have hfa := a0d a ha
 have hfb := a0d b hb
 obtain ⟨n1, d1⟩ := ha.fit (by decide)
 obtain ⟨n2, d2⟩ := hb.fit (by decide)
 generalize Nm.j5 a = p at *
 generalize Nm.j5 b = q at *
 simp only [Nm.ofQ] at n1 d1 n2 d2
 have hp := p.den_nz
 have hq := q.den_nz
 have l1 := Nm.J4 n1 d2
 have l2 := Nm.J4 n2 d1
 have l3 := Nm.J4 d1 d2
 have s1 := a8P (decide (p.num < 0)) (decide (q.num < 0)) (Nm.enc p.num.natAbs) (Nm.enc q.num.natAbs) (by omega) (by omega)
 have m1 := a2I (Nm.enc p.num.natAbs) (Nm.enc q.den) (by omega) (by omega)
 have m2 := a2I (Nm.enc q.num.natAbs) (Nm.enc p.den) (by omega) (by omega)
 have m3 := a2I (Nm.enc p.den) (Nm.enc q.den) (by omega) (by omega)
 simp only [Nm.H8] at s1 m1 m2 m3
 have s2 := a8P (decide (p.num < 0)) (decide (q.num < 0)) (Nm.enc (p.num.natAbs * q.den)) (Nm.enc (q.num.natAbs * p.den)) (by omega) (by omega)
 simp only [Nm.H8] at s2
 have k1 : (Nm.enc (Nm.I6 (decide (p.num < 0)) p.num.natAbs (decide (q.num < 0)) q.num.natAbs).2).length <= 17179869185 := b8a (Nm.a2o (Nm.a3R _ _ _ _)) (Nm.a3e n1 n2)
 have k2 : (Nm.enc (Nm.I6 (decide (p.num < 0)) (p.num.natAbs * q.den) (decide (q.num < 0)) (q.num.natAbs * p.den)).2).length <= 34359738369 := b8a (Nm.a2o (Nm.a3R _ _ _ _)) (Nm.a3e l1 l2)
 have v1 := a4D (Nm.I6 (decide (p.num < 0)) p.num.natAbs (decide (q.num < 0)) q.num.natAbs).1 (Nm.I6 (decide (p.num < 0)) p.num.natAbs (decide (q.num < 0)) q.num.natAbs).2 p.den hp (by omega) (by omega)
 have v2 := a4D (Nm.I6 (decide (p.num < 0)) (p.num.natAbs * q.den) (decide (q.num < 0)) (q.num.natAbs * p.den)).1 (Nm.I6 (decide (p.num < 0)) (p.num.natAbs * q.den) (decide (q.num < 0)) (q.num.natAbs * p.den)).2 (p.den * q.den) (Nat.mul_ne_zero hp hq) (by omega) (by omega)
 rw [Nm.a7q] at v2
 have hsame := fun h => Nm.b4z (p := p) (q := q) h
 generalize p + q = r at *
 generalize Nm.I6 (decide (p.num < 0)) p.num.natAbs (decide (q.num < 0)) q.num.natAbs = t1 at *
 generalize Nm.I6 (decide (p.num < 0)) (p.num.natAbs * q.den) (decide (q.num < 0)) (q.num.natAbs * p.den) = t2 at *
 simp only [j6]
 simp only [rq, rc, sb, Nm.ofQ] at *
 (repeat first | refine uA ?_ | (refine uK ?_ ?_; focus first | omega | (intros; simp_all <;> omega)) | simp (disch := omega) only [go_sem, Nat.reduceBEq, Nat.reduceAdd, ww, a1y, b5u] | (refine uD hfa ?_ ?_ ?_; exact tz hw; exact rfl) | (refine uD hfb ?_ ?_ ?_; exact tz hw; exact rfl))
 (refine uJ rfl (fun hc => ?_) fun hc => ?_)
 ·rw [hsame hc] at v1
  (repeat first | refine uA ?_ | (refine uK ?_ ?_; focus first | omega | (intros; simp_all <;> omega)) | simp (disch := omega) only [go_sem, Nat.reduceBEq, Nat.reduceAdd, ww] | (refine uB s1 ?_ ?_; exact rfl) | (refine uD v1 ?_ ?_ ?_; exact tz hw; exact rfl))
  (refine S.done ?_; simp only [z8, r9, go_sem, Nat.reduceBEq, Nat.reduceAdd, Nat.reduceLeDiff, Int.reduceToNat, Int.reducePow]; (repeat (refine ⟨?_, ?_⟩; focus first | trivial | omega | simp)); exact d9.out rfl (Imp.refl rfl) rfl)
 ·(repeat first | refine uA ?_ | (refine uK ?_ ?_; focus first | omega | (intros; simp_all <;> omega)) | simp (disch := omega) only [go_sem, Nat.reduceBEq, Nat.reduceAdd, ww] | (refine uB m1 ?_ ?_; exact rfl) | (refine uB m2 ?_ ?_; exact rfl) | (refine uB m3 ?_ ?_; exact rfl) | (refine uB s2 ?_ ?_; exact rfl) | (refine uD v2 ?_ ?_ ?_; exact tz hw; exact rfl))
  (refine S.done ?_; simp only [z8, r9, go_sem, Nat.reduceBEq, Nat.reduceAdd, Nat.reduceLeDiff, Int.reduceToNat, Int.reducePow]; (repeat (refine ⟨?_, ?_⟩; focus first | trivial | omega | simp)); exact d9.out rfl (Imp.refl rfl) rfl)
theorem b6T (a b : Nm.Rt) (ha : Rb 17179869184 a) (hb : Rb 17179869184 b) : FZ 181 [rc a, rc b] (rq (Nm.j5 a * Nm.j5 b)) := by
 refine kW Tryz.func181 (by cbv) (by rfl) fun w O hw => ?_
 have hfa := a0d a ha
 have hfb := a0d b hb
 obtain ⟨n1, d1⟩ := ha.fit (by decide)
 obtain ⟨n2, d2⟩ := hb.fit (by decide)
 generalize Nm.j5 a = p at *
 generalize Nm.j5 b = q at *
 simp only [Nm.ofQ] at n1 d1 n2 d2
 have hp := p.den_nz
 have hq := q.den_nz
 have l1 := Nm.J4 n1 n2
 have l3 := Nm.J4 d1 d2
 have m1 := a2I (Nm.enc p.num.natAbs) (Nm.enc q.num.natAbs) (by omega) (by omega)
 have m3 := a2I (Nm.enc p.den) (Nm.enc q.den) (by omega) (by omega)
 simp only [Nm.H8] at m1 m3
 have v2 := a4D (decide (p.num < 0) != decide (q.num < 0)) (p.num.natAbs * q.num.natAbs) (p.den * q.den) (Nat.mul_ne_zero hp hq) (by omega) (by omega)
 rw [Nm.a8h] at v2
 generalize p * q = r at *
 simp only [j6]
 simp only [rq, rc, sb, Nm.ofQ] at *
 (repeat first | refine uA ?_ | (refine uK ?_ ?_; focus first | omega | (intros; simp_all <;> omega)) | simp (disch := omega) only [go_sem, Nat.reduceBEq, Nat.reduceAdd, ww] | (refine uB m1 ?_ ?_; exact rfl) | (refine uB m3 ?_ ?_; exact rfl) | (refine uD hfa ?_ ?_ ?_; exact tz hw; exact rfl) | (refine uD hfb ?_ ?_ ?_; exact tz hw; exact rfl) | (refine uD v2 ?_ ?_ ?_; exact tz hw; exact rfl))
 (refine S.done ?_; simp only [z8, r9, go_sem, Nat.reduceBEq, Nat.reduceAdd, Nat.reduceLeDiff, Int.reduceToNat, Int.reducePow]; (repeat (refine ⟨?_, ?_⟩; focus first | trivial | omega | simp)); exact d9.out rfl (Imp.refl rfl) rfl)
def D6 (q : Rat) : Int := if q.num = 0 then 0 else if q.num < 0 then -1 else 1
theorem a8L (p : Rat) : Nm.ofQ (-p) = ⟨!decide (p.num < 0) && !decide (p.num.natAbs = 0), Nm.enc p.num.natAbs, Nm.enc p.den⟩ := by
 unfold Nm.ofQ
 rw [Rat.neg_num, Rat.neg_den, Int.natAbs_neg]
 congr 1
 by_cases h : p.num < 0
 ·simp [h]; omega
 ·by_cases h0 : p.num = 0
  ·simp [h0]
  ·have : ¬ p.num.natAbs = 0 := by omega
   simp [h, this]; omega
theorem b7d (a : Nm.Rt) (ha : Rb 17179869184 a) : FZ 105 [rc a] (rq (- Nm.j5 a)) := by
 refine kW Tryz.func105 (by cbv) (by rfl) fun w O hw => ?_
 have hfa := a0d a ha
 generalize Nm.j5 a = p at *
 simp only [j6]
 unfold rq at *
 rw [a8L]
 simp only [rc, sb, Nm.ofQ] at *
 (repeat first | refine uA ?_ | (refine uK ?_ ?_; focus first | omega | (intros; simp_all <;> omega)) | simp (disch := omega) only [go_sem, Nat.reduceBEq, Nat.reduceAdd, ww, Y3, a7p] | (refine uD hfa ?_ ?_ ?_; exact tz hw; exact rfl))
 (refine S.done ?_; simp only [z8, r9, go_sem, Nat.reduceBEq, Nat.reduceAdd, Nat.reduceLeDiff, Int.reduceToNat, Int.reducePow]; (repeat (refine ⟨?_, ?_⟩; focus first | trivial | omega | simp)); exact d9.out rfl (Imp.refl rfl) rfl)
theorem b6O {k : Nat} {a : Nm.Rt} (h : Rb k a) (hk : 1 <= k) : Rb k (Nm.ofQ (- Nm.j5 a)) := by
 obtain ⟨h1, h2⟩ := h.fit hk
 rw [a8L]
 exact ⟨h1, h2⟩
theorem a8j (a b : Nm.Rt) (ha : Rb 17179869184 a) (hb : Rb 17179869184 b) : FZ 103 [rc a, rc b] (rq (Nm.j5 a - Nm.j5 b)) := by
 refine kW Tryz.func103 (by cbv) (by rfl) fun w O hw => ?_
 have hn := b7d b hb
 have hadd := b6B a (Nm.ofQ (- Nm.j5 b)) ha (b6O hb (by decide))
 rw [Nm.a2F, <- Rat.sub_eq_add_neg] at hadd
 unfold rq at *
 generalize Nm.ofQ (- Nm.j5 b) = c at *
 generalize Nm.ofQ (Nm.j5 a - Nm.j5 b) = d at *
 simp only [j6]
 simp only [rc, sb] at *
 (repeat first | refine uA ?_ | (refine uK ?_ ?_; focus first | omega | (intros; simp_all <;> omega)) | simp (disch := omega) only [go_sem, Nat.reduceBEq, Nat.reduceAdd, ww] | (refine uD hn ?_ ?_ ?_; exact tz hw; exact rfl) | (refine uD hadd ?_ ?_ ?_; exact tz hw; exact rfl))
 (refine S.done ?_; simp only [z8, r9, go_sem, Nat.reduceBEq, Nat.reduceAdd, Nat.reduceLeDiff, Int.reduceToNat, Int.reducePow]; (repeat (refine ⟨?_, ?_⟩; focus first | trivial | omega | simp)); exact d9.out rfl (Imp.refl rfl) rfl)
theorem R4 (a : Nm.Rt) (ha : Rb 17179869184 a) : FZ 31 [rc a] (ints (D6 (Nm.j5 a))) := by
 refine kW Tryz.func31 (by cbv) (by rfl) fun w O hw => ?_
 have hfa := a0d a ha
 generalize Nm.j5 a = p at *
 simp only [j6]
 simp only [rq, rc, sb, Nm.ofQ, ints] at *
 (repeat first | refine uA ?_ | (refine uK ?_ ?_; focus first | omega | (intros; simp_all <;> omega)) | simp (disch := omega) only [go_sem, Nat.reduceBEq, Nat.reduceAdd, ww, Y3, a7p] | (refine uD hfa ?_ ?_ ?_; exact tz hw; exact rfl))
 (refine uJ rfl (fun hc => ?_) fun hc => ?_)
 ·have : D6 p = 0 := by unfold D6; rw [if_pos (by omega)]
  rw [this]
  (repeat first | refine uA ?_ | (refine uK ?_ ?_; focus first | omega | (intros; simp_all <;> omega)) | simp (disch := omega) only [go_sem, Nat.reduceBEq, Nat.reduceAdd, ww])
  exact S.done (d9.out rfl (Imp.refl rfl) rfl)
 (repeat first | refine uA ?_ | (refine uK ?_ ?_; focus first | omega | (intros; simp_all <;> omega)) | simp (disch := omega) only [go_sem, Nat.reduceBEq, Nat.reduceAdd, ww])
 (refine uJ rfl (fun hc => ?_) fun hc => ?_)
 ·have : D6 p = -1 := by unfold D6; rw [if_neg (by omega), if_pos hc]
  rw [this]
  (repeat first | refine uA ?_ | (refine uK ?_ ?_; focus first | omega | (intros; simp_all <;> omega)) | simp (disch := omega) only [go_sem, Nat.reduceBEq, Nat.reduceAdd, ww])
  exact S.done (d9.out rfl (Imp.refl rfl) rfl)
 ·have : D6 p = 1 := by unfold D6; rw [if_neg (by omega), if_neg hc]
  rw [this]
  (repeat first | refine uA ?_ | (refine uK ?_ ?_; focus first | omega | (intros; simp_all <;> omega)) | simp (disch := omega) only [go_sem, Nat.reduceBEq, Nat.reduceAdd, ww])
  exact S.done (d9.out rfl (Imp.refl rfl) rfl)
theorem a6B (a b : Nat) : -1 <= Nm.X3 a b /\ Nm.X3 a b <= 1 := by
 unfold Nm.X3
 by_cases h : a < b
 ·rw [if_pos h]; omega
 ·rw [if_neg h]; split <;> omega
theorem a3j (a b : Nm.Rt) (ha : Rb 17179869184 a) (hb : Rb 17179869184 b) : FZ 29 [rc a, rc b] (ints (Nm.G5 (Nm.j5 a) (Nm.j5 b))) := by
 refine kW Tryz.func29 (by cbv) (by rfl) fun w O hw => ?_
 have hfa := a0d a ha
 have hfb := a0d b hb
 obtain ⟨n1, d1⟩ := ha.fit (by decide)
 obtain ⟨n2, d2⟩ := hb.fit (by decide)
 generalize Nm.j5 a = p at *
 generalize Nm.j5 b = q at *
 rw [Nm.b5i]
 simp only [Nm.ofQ] at n1 d1 n2 d2
 have l1 := Nm.J4 n1 d2
 have l2 := Nm.J4 n2 d1
 have m1 := a2I (Nm.enc p.num.natAbs) (Nm.enc q.den) (by omega) (by omega)
 have m2 := a2I (Nm.enc q.num.natAbs) (Nm.enc p.den) (by omega) (by omega)
 simp only [Nm.H8] at m1 m2
 have hcmp := a6l (Nm.enc (p.num.natAbs * q.den)) (Nm.enc (q.num.natAbs * p.den)) (by omega) (by omega)
 simp only [Nm.H8] at hcmp
 have hcr := a6B (p.num.natAbs * q.den) (q.num.natAbs * p.den)
 generalize Nm.X3 (p.num.natAbs * q.den) (q.num.natAbs * p.den) = cn at *
 simp only [j6]
 simp only [rq, rc, sb, Nm.ofQ, ints] at *
 generalize decide (p.num < 0) = bp at *
 generalize decide (q.num < 0) = bq at *
 (repeat first | refine uA ?_ | (refine uK ?_ ?_; focus first | omega | (intros; simp_all <;> omega)) | simp (disch := omega) only [go_sem, Nat.reduceBEq, Nat.reduceAdd, ww] | (refine uD hfa ?_ ?_ ?_; exact tz hw; exact rfl) | (refine uD hfb ?_ ?_ ?_; exact tz hw; exact rfl))
 refine S.cond rfl (fun hc => ?_) (fun hc => ?_)
 ·have hne : bp ≠ bq := by simpa using hc
  rw [if_pos hne]
  (repeat first | refine uA ?_ | (refine uK ?_ ?_; focus first | omega | (intros; simp_all <;> omega)) | simp (disch := omega) only [go_sem, Nat.reduceBEq, Nat.reduceAdd, ww])
  refine S.cond rfl (fun hc => ?_) (fun hc => ?_)
  ·rw [if_pos hc]
   (repeat first | refine uA ?_ | (refine uK ?_ ?_; focus first | omega | (intros; simp_all <;> omega)) | simp (disch := omega) only [go_sem, Nat.reduceBEq, Nat.reduceAdd, ww])
   exact S.done (d9.out rfl (Imp.refl rfl) rfl)
  ·rw [if_neg (by simp [hc])]
   (repeat first | refine uA ?_ | (refine uK ?_ ?_; focus first | omega | (intros; simp_all <;> omega)) | simp (disch := omega) only [go_sem, Nat.reduceBEq, Nat.reduceAdd, ww])
   exact S.done (d9.out rfl (Imp.refl rfl) rfl)
 ·have he : bp = bq := by simpa using hc
  rw [if_neg (by simp [he])]
  (repeat first | refine uA ?_ | (refine uK ?_ ?_; focus first | omega | (intros; simp_all <;> omega)) | simp (disch := omega) only [go_sem, Nat.reduceBEq, Nat.reduceAdd, ww] | (refine uB m1 ?_ ?_; exact rfl) | (refine uB m2 ?_ ?_; exact rfl) | (refine uB hcmp ?_ ?_; exact rfl))
  refine S.cond rfl (fun hc => ?_) (fun hc => ?_)
  ·rw [if_pos hc]
   have hneg : IntKind.i64.wrap (0 - cn) = - cn := by rw [Eng.wrap_i64 (by omega)]; omega
   (repeat first | refine uA ?_ | (refine uK ?_ ?_; focus first | omega | (intros; simp_all <;> omega)) | simp (disch := omega) only [go_sem, Nat.reduceBEq, Nat.reduceAdd, ww, hneg])
   exact S.done (d9.out rfl (Imp.refl rfl) rfl)
  ·rw [if_neg (by simp [hc])]
   (repeat first | refine uA ?_ | (refine uK ?_ ?_; focus first | omega | (intros; simp_all <;> omega)) | simp (disch := omega) only [go_sem, Nat.reduceBEq, Nat.reduceAdd, ww])
   exact S.done (d9.out rfl (Imp.refl rfl) rfl)
def a5B (p q : Rat) : Rat := if Nm.G5 p q <= 0 then p else q
def b3t (p q : Rat) : Rat := if Nm.G5 p q >= 0 then p else q
theorem b6r (a b : Nm.Rt) (ha : Rb 17179869184 a) (hb : Rb 17179869184 b) : FZ 106 [rc a, rc b] (rq (a5B (Nm.j5 a) (Nm.j5 b))) := by
 refine kW Tryz.func106 (by cbv) (by rfl) fun w O hw => ?_
 have hfa := a0d a ha
 have hfb := a0d b hb
 have hc := a3j a b ha hb
 unfold a5B
 generalize Nm.G5 (Nm.j5 a) (Nm.j5 b) = cn at *
 simp only [j6]
 unfold rq at *
 generalize Nm.j5 a = p at *
 generalize Nm.j5 b = q at *
 simp only [rc, sb, ints] at *
 (repeat first | refine uA ?_ | (refine uK ?_ ?_; focus first | omega | (intros; simp_all <;> omega)) | simp (disch := omega) only [go_sem, Nat.reduceBEq, Nat.reduceAdd, ww] | (refine uD hc ?_ ?_ ?_; exact tz hw; exact rfl))
 (refine uJ rfl (fun hc => ?_) fun hc => ?_)
 ·rw [if_pos hc]
  (repeat first | refine uA ?_ | (refine uK ?_ ?_; focus first | omega | (intros; simp_all <;> omega)) | simp (disch := omega) only [go_sem, Nat.reduceBEq, Nat.reduceAdd, ww] | (refine uD hfa ?_ ?_ ?_; exact tz hw; exact rfl))
  (refine S.done ?_; simp only [z8, r9, go_sem, Nat.reduceBEq, Nat.reduceAdd, Nat.reduceLeDiff, Int.reduceToNat, Int.reducePow]; (repeat (refine ⟨?_, ?_⟩; focus first | trivial | omega | simp)); exact d9.out rfl (Imp.refl rfl) rfl)
 ·rw [if_neg hc]
  (repeat first | refine uA ?_ | (refine uK ?_ ?_; focus first | omega | (intros; simp_all <;> omega)) | simp (disch := omega) only [go_sem, Nat.reduceBEq, Nat.reduceAdd, ww] | (refine uD hfb ?_ ?_ ?_; exact tz hw; exact rfl))
  (refine S.done ?_; simp only [z8, r9, go_sem, Nat.reduceBEq, Nat.reduceAdd, Nat.reduceLeDiff, Int.reduceToNat, Int.reducePow]; (repeat (refine ⟨?_, ?_⟩; focus first | trivial | omega | simp)); exact d9.out rfl (Imp.refl rfl) rfl)
def j4 (a : Nm.Rt) : Bool := decide (a.num.length <= 3) && decide (a.den.length <= 2) && decide a.D8 && decide (Nm.val a.num <= 1000000) && decide (Nm.val a.den <= 1000)
theorem b0q (a b : Nat) : (Nm.X3 a b <= 0) = (a <= b) := by
 unfold Nm.X3
 by_cases h : a < b
 ·rw [if_pos h]; simp; omega
 ·rw [if_neg h]; split
  ·simp; omega
  ·simp; omega
theorem a1u (a : Nm.Rt) (ha : Rb 17179869184 a) : FZ 46 [rc a] (.v (.bool (j4 a))) := by
 refine kW Tryz.func46 (by cbv) (by rfl) fun w O hw => ?_
 have hg := a1K a ⟨by have := ha.1; omega, by have := ha.2; omega⟩
 have ho1 := b1Q 1000000 (by decide)
 have ho2 := b1Q 1000 (by decide)
 have hb : ∀ k : Nat, k <= 1000000 -> (Nm.enc k).length <= 8 := fun k hk => Nm.O5 (by omega)
 have hb1 := hb 1000000 (by decide)
 have hb2 := hb 1000 (by decide)
 have hc1 := a6l a.num (Nm.enc 1000000) (by have := ha.1; omega) (by omega)
 have hc2 := a6l a.den (Nm.enc 1000) (by have := ha.2; omega) (by omega)
 rw [Nm.H8] at hc1 hc2
 rw [show (1000000 : Int).toNat = 1000000 from rfl] at ho1
 rw [show (1000 : Int).toNat = 1000 from rfl] at ho2
 have hl1 := b0q (Nm.val a.num) 1000000
 have hl2 := b0q (Nm.val a.den) 1000
 unfold j4
 generalize decide a.D8 = g at *
 generalize Nm.enc 1000000 = e1 at *
 generalize Nm.enc 1000 = e2 at *
 obtain ⟨neg, num, den⟩ := a
 obtain ⟨r1, r2⟩ := ha
 simp only [j6]
 simp only [rc, sb, ints] at *
 generalize Nm.X3 (Nm.val num) 1000000 = c1 at *
 generalize Nm.X3 (Nm.val den) 1000 = c2 at *
 simp only [<- hl1, <- hl2]
 have hi1 : decide ((num.length : Int) <= 3) = decide (num.length <= 3) := decide_eq_decide.2 (by omega)
 have hi2 : decide ((den.length : Int) <= 2) = decide (den.length <= 2) := decide_eq_decide.2 (by omega)
 (repeat first | refine uA ?_ | (refine uK ?_ ?_; focus first | omega | (intros; simp_all <;> omega)) | simp (disch := omega) only [go_sem, Nat.reduceBEq, Nat.reduceAdd, ww, l8, hi1, hi2] | (refine uB ho1 ?_ ?_; exact rfl) | (refine uB ho2 ?_ ?_; exact rfl) | (refine uB hc1 ?_ ?_; exact rfl) | (refine uB hc2 ?_ ?_; exact rfl) | (refine uD hg ?_ ?_ ?_; exact tz hw; exact rfl))
 exact S.done (d9.out rfl (Imp.refl rfl) rfl)
open Go Eng
def tc (h : Bool) (a : Nm.Rt) : C := .agg [.v (.bool h), .v (.bool a.neg), sb a.num, sb a.den]
def tq (h : Bool) (q : Rat) : C := tc h (Nm.ofQ q)
theorem b7x (a : Nm.Rt) (ha : Rb 17179869184 a) : FZ 177 [rc a] (tq false (Nm.j5 a)) := by
 refine kW Tryz.func177 (by cbv) (by rfl) fun w O hw => ?_
 have hm := b6r a a ha ha
 have e : a5B (Nm.j5 a) (Nm.j5 a) = Nm.j5 a := by unfold a5B; split <;> rfl
 rw [e] at hm
 unfold rq tq at *
 generalize Nm.ofQ (Nm.j5 a) = r at *
 simp only [j6]
 simp only [rc, tc, sb] at *
 (repeat first | refine uA ?_ | (refine uK ?_ ?_; focus first | omega | (intros; simp_all <;> omega)) | simp (disch := omega) only [go_sem, Nat.reduceBEq, Nat.reduceAdd, ww] | (refine uD hm ?_ ?_ ?_; exact tz hw; exact rfl))
 (refine S.done ?_; simp only [z8, r9, go_sem, Nat.reduceBEq, Nat.reduceAdd, Nat.reduceLeDiff, Int.reduceToNat, Int.reducePow]; (repeat (refine ⟨?_, ?_⟩; focus first | trivial | omega | simp)); exact d9.out rfl (Imp.refl rfl) rfl)
theorem b0B {neg : Bool} {n d k m : Nat} (hd : d ≠ 0) (hn : (Nm.enc n).length <= k) (hdl : (Nm.enc d).length <= k) (hk : 1 <= k) (hm : k <= m) : Rb m (Nm.ofQ (mkRat (Nm.sgn neg n) d)) := by
 rw [<- Nm.a6G neg hd]
 split
 ·exact ⟨b8b _, b8a hk hm⟩
 ·exact ⟨b8a (Nm.a2o (Nat.div_le_self _ _)) (b8a hn hm), b8a (Nm.a2o (Nat.div_le_self _ _)) (b8a hdl hm)⟩
theorem b3o {k : Nat} {p : Rat} (h : Rb k (Nm.ofQ p)) : 1 <= k := by
 have h1 := h.2
 simp only [Nm.ofQ] at h1
 have : Nm.enc p.den ≠ [] := Nm.a3k p.den_nz
 have := List.length_pos_iff.2 this
 omega
theorem b6C {k m : Nat} {p q : Rat} (hp : Rb k (Nm.ofQ p)) (hq : Rb m (Nm.ofQ q)) : Rb (k + m + 1) (Nm.ofQ (p + q)) := by
 have h1 := b3o hp
 rw [<- Nm.a7q p q]
 have l1 := Nm.J4 hp.1 hq.2
 have l2 := Nm.J4 hq.1 hp.2
 have l3 := Nm.J4 hp.2 hq.2
 exact b0B (k := k + m + 1) (Nat.mul_ne_zero p.den_nz q.den_nz) (b8a (Nm.a2o (Nm.a3R _ _ _ _)) (Nm.a3e l1 (by omega))) (by omega) (by omega) (b8f _)
theorem a6e {k m : Nat} {p q : Rat} (hp : Rb k (Nm.ofQ p)) (hq : Rb m (Nm.ofQ q)) : Rb (k + m) (Nm.ofQ (p * q)) := by
 have h1 := b3o hp
 rw [<- Nm.a8h p q]
 exact b0B (k := k + m) (Nat.mul_ne_zero p.den_nz q.den_nz) (Nm.J4 hp.1 hq.1) (Nm.J4 hp.2 hq.2) (by omega) (b8f _)
theorem b5W {k : Nat} {p : Rat} (hp : Rb k (Nm.ofQ p)) : Rb k (Nm.ofQ (-p)) := by
 rw [a8L]; exact hp
theorem a4m {k m : Nat} {p q : Rat} (hp : Rb k (Nm.ofQ p)) (hq : Rb m (Nm.ofQ q)) : Rb (k + m + 1) (Nm.ofQ (p - q)) := by
 rw [Rat.sub_eq_add_neg]; exact b6C hp (b5W hq)
theorem Rb.mono {k m : Nat} {a : Nm.Rt} (h : Rb k a) (hm : k <= m) : Rb m a := ⟨b8a h.1 hm, b8a h.2 hm⟩
theorem b7m (p q : Rat) (hp : Rb 17179869184 (Nm.ofQ p)) (hq : Rb 17179869184 (Nm.ofQ q)) : FZ 103 [rq p, rq q] (rq (p - q)) := by
 have := a8j (Nm.ofQ p) (Nm.ofQ q) hp hq
 rwa [Nm.a2F, Nm.a2F] at this
theorem b4Y (p q : Rat) (hp : Rb 17179869184 (Nm.ofQ p)) (hq : Rb 17179869184 (Nm.ofQ q)) : FZ 181 [rq p, rq q] (rq (p * q)) := by
 have := b6T (Nm.ofQ p) (Nm.ofQ q) hp hq
 rwa [Nm.a2F, Nm.a2F] at this
def vc (x y : Nm.Rt) : C := .agg [.v (.bool x.neg), sb x.num, sb x.den, .v (.bool y.neg), sb y.num, sb y.den]
def vq (x y : Rat) : C := vc (Nm.ofQ x) (Nm.ofQ y)
theorem b2U (a b c d : Nm.Rt) (ha : Rb 17179869184 a) (hb : Rb 17179869184 b) (hc : Rb 17179869184 c) (hd : Rb 17179869184 d) :
  FZ 121 [vc a b, vc c d] (vq (Nm.j5 a - Nm.j5 c) (Nm.j5 b - Nm.j5 d)) := by
 refine kW Tryz.func121 (by cbv) (by rfl) fun w O hw => ?_
 have h1 := a8j a c ha hc
 have h2 := a8j b d hb hd
 unfold vq rq at *
 generalize Nm.ofQ (Nm.j5 a - Nm.j5 c) = r1 at *
 generalize Nm.ofQ (Nm.j5 b - Nm.j5 d) = r2 at *
 simp only [j6]
 simp only [rc, vc, sb] at *
 (repeat first | refine uA ?_ | (refine uK ?_ ?_; focus first | omega | (intros; simp_all <;> omega)) | simp (disch := omega) only [go_sem, Nat.reduceBEq, Nat.reduceAdd, ww] | (refine uD h1 ?_ ?_ ?_; exact tz hw; exact rfl) | (refine uD h2 ?_ ?_ ?_; exact tz hw; exact rfl))
 (refine S.done ?_; simp only [z8, r9, go_sem, Nat.reduceBEq, Nat.reduceAdd, Nat.reduceLeDiff, Int.reduceToNat, Int.reducePow]; (repeat (refine ⟨?_, ?_⟩; focus first | trivial | omega | simp)); exact d9.out rfl (Imp.refl rfl) rfl)
structure Vt where
 x : Nm.Rt
 y : Nm.Rt
def Vt.enc (v : Vt) : List C := [.v (.bool v.x.neg), sb v.x.num, sb v.x.den, .v (.bool v.y.neg), sb v.y.num, sb v.y.den]
def Vt.c (v : Vt) : C := .agg v.enc
def Vt.zero : Vt := ⟨⟨false, [], []⟩, ⟨false, [], []⟩⟩
def Vb (k : Nat) (v : Vt) : Prop := Rb k v.x /\ Rb k v.y
theorem Vb.mono {k m : Nat} {v : Vt} (h : Vb k v) (hm : k <= m) : Vb m v := ⟨h.1.mono hm, h.2.mono hm⟩
theorem b3q (a b c d : Rat) (ha : Rb 4294967296 (Nm.ofQ a)) (hb : Rb 4294967296 (Nm.ofQ b)) (hc : Rb 4294967296 (Nm.ofQ c)) (hd : Rb 4294967296 (Nm.ofQ d)) :
  FZ 228 [vq a b, vq c d] (rq (a * d - b * c)) := by
 refine kW Tryz.func228 (by cbv) (by rfl) fun w O hw => ?_
 have h1 := b4Y a d (ha.mono (by decide)) (hd.mono (by decide))
 have h2 := b4Y b c (hb.mono (by decide)) (hc.mono (by decide))
 have h3 := b7m (a * d) (b * c) ((a6e ha hd).mono (by decide)) ((a6e hb hc).mono (by decide))
 unfold vq rq at *
 generalize Nm.ofQ (a * d - b * c) = r3 at *
 generalize Nm.ofQ (a * d) = r1 at *
 generalize Nm.ofQ (b * c) = r2 at *
 generalize Nm.ofQ a = ra at *
 generalize Nm.ofQ b = rb at *
 generalize Nm.ofQ c = r at *
 generalize Nm.ofQ d = rd at *
 simp only [j6]
 simp only [rc, vc, sb] at *
 (repeat first | refine uA ?_ | (refine uK ?_ ?_; focus first | omega | (intros; simp_all <;> omega)) | simp (disch := omega) only [go_sem, Nat.reduceBEq, Nat.reduceAdd, ww] | (refine uD h1 ?_ ?_ ?_; exact tz hw; exact rfl) | (refine uD h2 ?_ ?_ ?_; exact tz hw; exact rfl) | (refine uD h3 ?_ ?_ ?_; exact tz hw; exact rfl))
 (refine S.done ?_; simp only [z8, r9, go_sem, Nat.reduceBEq, Nat.reduceAdd, Nat.reduceLeDiff, Int.reduceToNat, Int.reducePow]; (repeat (refine ⟨?_, ?_⟩; focus first | trivial | omega | simp)); exact d9.out rfl (Imp.refl rfl) rfl)
def a8d (a b c : Vt) : Int := D6 ((Nm.j5 b.x - Nm.j5 a.x) * (Nm.j5 c.y - Nm.j5 a.y) - (Nm.j5 b.y - Nm.j5 a.y) * (Nm.j5 c.x - Nm.j5 a.x))
theorem b6H (a b c : Vt) (ha : Vb 1073741824 a) (hb : Vb 1073741824 b) (hc : Vb 1073741824 c) : FZ 213 [a.c, b.c, c.c] (ints (a8d a b c)) := by
 refine kW Tryz.func213 (by cbv) (by rfl) fun w O hw => ?_
 have h1 := b2U b.x b.y a.x a.y (hb.1.mono (by decide)) (hb.2.mono (by decide)) (ha.1.mono (by decide)) (ha.2.mono (by decide))
 have h2 := b2U c.x c.y a.x a.y (hc.1.mono (by decide)) (hc.2.mono (by decide)) (ha.1.mono (by decide)) (ha.2.mono (by decide))
 have g1 := a4m (hb.1.fit (by decide)) (ha.1.fit (by decide))
 have g2 := a4m (hb.2.fit (by decide)) (ha.2.fit (by decide))
 have g3 := a4m (hc.1.fit (by decide)) (ha.1.fit (by decide))
 have g4 := a4m (hc.2.fit (by decide)) (ha.2.fit (by decide))
 unfold a8d
 generalize Nm.j5 b.x - Nm.j5 a.x = p1 at *
 generalize Nm.j5 b.y - Nm.j5 a.y = p2 at *
 generalize Nm.j5 c.x - Nm.j5 a.x = p3 at *
 generalize Nm.j5 c.y - Nm.j5 a.y = p4 at *
 have h3 := b3q p1 p2 p3 p4 (g1.mono (by decide)) (g2.mono (by decide)) (g3.mono (by decide)) (g4.mono (by decide))
 have g5 := a4m (a6e g1 g4) (a6e g2 g3)
 have h4 := R4 (Nm.ofQ (p1 * p4 - p2 * p3)) (g5.mono (by decide))
 rw [Nm.a2F] at h4
 generalize p1 * p4 - p2 * p3 = p5 at *
 unfold vq rq at *
 generalize Nm.ofQ p1 = r1 at *
 generalize Nm.ofQ p2 = r2 at *
 generalize Nm.ofQ p3 = r3 at *
 generalize Nm.ofQ p4 = r4 at *
 generalize Nm.ofQ p5 = r5 at *
 simp only [j6]
 simp only [rc, vc, sb, Vt.c, Vt.enc] at *
 (repeat first | refine uA ?_ | (refine uK ?_ ?_; focus first | omega | (intros; simp_all <;> omega)) | simp (disch := omega) only [go_sem, Nat.reduceBEq, Nat.reduceAdd, ww] | (refine uD h1 ?_ ?_ ?_; exact tz hw; exact rfl) | (refine uD h2 ?_ ?_ ?_; exact tz hw; exact rfl) | (refine uD h3 ?_ ?_ ?_; exact tz hw; exact rfl) | (refine uD h4 ?_ ?_ ?_; exact tz hw; exact rfl))
 (refine S.done ?_; simp only [z8, r9, go_sem, Nat.reduceBEq, Nat.reduceAdd, Nat.reduceLeDiff, Int.reduceToNat, Int.reducePow]; (repeat (refine ⟨?_, ?_⟩; focus first | trivial | omega | simp)); exact d9.out rfl (Imp.refl rfl) rfl)
def F6 {α : Type} (f : α -> Int) : List α -> Int
 | [] => 0
 | x :: r => if f x = 0 then F6 f r else f x
def D9 {α σ : Type} (f : σ -> α -> Int × σ) : σ -> List α -> Int × σ
 | s, [] => (0, s)
 | s, x :: r => if (f s x).1 = 0 then D9 f (f s x).2 r else f s x
theorem drop_at {α : Type} {l : List α} {i : Nat} {x : α} (h : l[i]? = some x) : l.drop i = x :: l.drop (i + 1) := by
 obtain ⟨hi, rfl⟩ := b8e.1 h
 exact List.drop_eq_getElem_cons hi
theorem a1z {α : Type} {f : α -> Int} {l : List α} {i : Nat} {x : α} (h : l[i]? = some x) (h0 : f x ≠ 0) : F6 f (l.drop i) = f x := by
 rw [drop_at h, F6, if_neg h0]
theorem a1v {α : Type} {f : α -> Int} {l : List α} {i : Nat} {x : α} (h : l[i]? = some x) (h0 : f x = 0) : F6 f (l.drop i) = F6 f (l.drop (i + 1)) := by
 rw [drop_at h, F6, if_pos h0]
theorem a1W {α : Type} {f : α -> Int} {l : List α} {i : Nat} (h : l.length <= i) : F6 f (l.drop i) = 0 := by
 rw [List.drop_eq_nil_of_le h, F6]
theorem V6 {α σ : Type} {f : σ -> α -> Int × σ} {s : σ} {l : List α} {i : Nat} {x : α} (h : l[i]? = some x) (h0 : (f s x).1 ≠ 0) : D9 f s (l.drop i) = f s x := by
 rw [drop_at h, D9, if_neg h0]
theorem U8 {α σ : Type} {f : σ -> α -> Int × σ} {s : σ} {l : List α} {i : Nat} {x : α} (h : l[i]? = some x) (h0 : (f s x).1 = 0) : D9 f s (l.drop i) = D9 f (f s x).2 (l.drop (i + 1)) := by
 rw [drop_at h, D9, if_pos h0]
theorem Y6 {α σ : Type} {f : σ -> α -> Int × σ} {s : σ} {l : List α} {i : Nat} (h : l.length <= i) : D9 f s (l.drop i) = (0, s) := by
 rw [List.drop_eq_nil_of_le h, D9]
structure Fr where
 x : Nm.Rt
 y : Nm.Rt
 half : Bool
 t : Nm.Rt
structure Lk where
 length : Nm.Rt
 low : Nm.Rt
 high : Nm.Rt
 speed : Nm.Rt
 brake : Nm.Rt
 shape : List Vt
structure Am where
 name : List UInt8
 base : Fr
 links : List Lk
structure Pt where
 name : List UInt8
 shape : List Vt
 grasp : Fr
structure Sl where
 name : List UInt8
 frame : Fr
 within : Nm.Rt
structure Gt where
 name : List UInt8
 low : Vt
 high : Vt
structure Wk where
 arms : List Am
 walls : List (List Vt)
 parts : List Pt
 slots : List Sl
 gates : List Gt
 walk : Nm.Rt
def rcs (a : Nm.Rt) : List C := [.v (.bool a.neg), sb a.num, sb a.den]
def Fr.enc (f : Fr) : List C := [.v (.bool f.x.neg), sb f.x.num, sb f.x.den, .v (.bool f.y.neg), sb f.y.num, sb f.y.den, .v (.bool f.half), .v (.bool f.t.neg), sb f.t.num, sb f.t.den]
def Fr.c (f : Fr) : C := .agg f.enc
def vts (l : List Vt) : C := .sl 6 (l.map Vt.enc)
def Lk.enc (l : Lk) : List C := [.v (.bool l.length.neg), sb l.length.num, sb l.length.den, .v (.bool l.low.neg), sb l.low.num, sb l.low.den, .v (.bool l.high.neg), sb l.high.num, sb l.high.den, .v (.bool l.speed.neg), sb l.speed.num, sb l.speed.den, .v (.bool l.brake.neg), sb l.brake.num, sb l.brake.den, vts l.shape]
def Lk.c (l : Lk) : C := .agg l.enc
def lks (l : List Lk) : C := .sl 16 (l.map Lk.enc)
def Am.enc (a : Am) : List C := [sb a.name, .v (.bool a.base.x.neg), sb a.base.x.num, sb a.base.x.den, .v (.bool a.base.y.neg), sb a.base.y.num, sb a.base.y.den, .v (.bool a.base.half), .v (.bool a.base.t.neg), sb a.base.t.num, sb a.base.t.den, lks a.links]
def Am.c (a : Am) : C := .agg a.enc
def ams (l : List Am) : C := .sl 12 (l.map Am.enc)
def Pt.enc (p : Pt) : List C := [sb p.name, vts p.shape, .v (.bool p.grasp.x.neg), sb p.grasp.x.num, sb p.grasp.x.den, .v (.bool p.grasp.y.neg), sb p.grasp.y.num, sb p.grasp.y.den, .v (.bool p.grasp.half), .v (.bool p.grasp.t.neg), sb p.grasp.t.num, sb p.grasp.t.den]
def Pt.c (p : Pt) : C := .agg p.enc
def pts (l : List Pt) : C := .sl 12 (l.map Pt.enc)
def Sl.enc (s : Sl) : List C := [sb s.name, .v (.bool s.frame.x.neg), sb s.frame.x.num, sb s.frame.x.den, .v (.bool s.frame.y.neg), sb s.frame.y.num, sb s.frame.y.den, .v (.bool s.frame.half), .v (.bool s.frame.t.neg), sb s.frame.t.num, sb s.frame.t.den, .v (.bool s.within.neg), sb s.within.num, sb s.within.den]
def Sl.c (s : Sl) : C := .agg s.enc
def sls (l : List Sl) : C := .sl 14 (l.map Sl.enc)
def Gt.enc (g : Gt) : List C := [sb g.name, .v (.bool g.low.x.neg), sb g.low.x.num, sb g.low.x.den, .v (.bool g.low.y.neg), sb g.low.y.num, sb g.low.y.den, .v (.bool g.high.x.neg), sb g.high.x.num, sb g.high.x.den, .v (.bool g.high.y.neg), sb g.high.y.num, sb g.high.y.den]
def Gt.c (g : Gt) : C := .agg g.enc
def gts (l : List Gt) : C := .sl 13 (l.map Gt.enc)
def wls (l : List (List Vt)) : C := .sl 1 (l.map fun s => [vts s])
def Wk.enc (w : Wk) : List C := [ams w.arms, wls w.walls, pts w.parts, sls w.slots, gts w.gates, .v (.bool w.walk.neg), sb w.walk.num, sb w.walk.den]
def Wk.c (w : Wk) : C := .agg w.enc
def Fb (k : Nat) (f : Fr) : Prop := Rb k f.x /\ Rb k f.y /\ Rb k f.t
def Vbs (k : Nat) (l : List Vt) : Prop := l.length <= k /\ ∀ v ∈ l, Vb k v
def Lb (k : Nat) (l : Lk) : Prop := Rb k l.length /\ Rb k l.low /\ Rb k l.high /\ Rb k l.speed /\ Rb k l.brake /\ Vbs k l.shape
def Ab (k : Nat) (a : Am) : Prop := a.name.length <= k /\ Fb k a.base /\ a.links.length <= k /\ ∀ l ∈ a.links, Lb k l
def Pb (k : Nat) (p : Pt) : Prop := p.name.length <= k /\ Vbs k p.shape /\ Fb k p.grasp
def Sb (k : Nat) (s : Sl) : Prop := s.name.length <= k /\ Fb k s.frame /\ Rb k s.within
def Gb (k : Nat) (g : Gt) : Prop := g.name.length <= k /\ Vb k g.low /\ Vb k g.high
structure Wb (k : Nat) (w : Wk) : Prop where
 arms : w.arms.length <= k /\ ∀ x ∈ w.arms, Ab k x
 walls : w.walls.length <= k /\ ∀ x ∈ w.walls, Vbs k x
 parts : w.parts.length <= k /\ ∀ x ∈ w.parts, Pb k x
 slots : w.slots.length <= k /\ ∀ x ∈ w.slots, Sb k x
 gates : w.gates.length <= k /\ ∀ x ∈ w.gates, Gb k x
 walk : Rb k w.walk
def Q7 (s : List UInt8) : Bool := (s.all fun b => decide (97 <= b.toNat) && decide (b.toNat <= 122)) && decide (1 <= s.length) && decide (s.length <= 12)
def a2s (l : List Vt) (i k : Nat) : Int := a8d (l.getD i Vt.zero) (l.getD ((i + 1) % l.length) Vt.zero) (l.getD ((i + k) % l.length) Vt.zero)
def P7 (l : List Vt) (most : Nat) : Int :=
 if most < l.length then 2 else if l.length < 3 then 3 else
 if (List.range l.length).all fun i => (List.range l.length).all fun k => decide (k < 2) || decide (0 < a2s l i k) then 0 else 3
def a3G (h : Bool) (t : Nm.Rt) : Bool := h && !decide (D6 (Nm.j5 t) = 0)
def a0r (l : Lk) : Int :=
 if (j4 l.length && j4 l.low && j4 l.high && j4 l.speed && j4 l.brake) = false \/ D6 (Nm.j5 l.length) <= 0 \/ 0 <= Nm.G5 (Nm.j5 l.low) (Nm.j5 l.high) then 1 else
 if D6 (Nm.j5 l.speed) <= 0 \/ D6 (Nm.j5 l.brake) <= 0 then 1 else
 if P7 l.shape 8 ≠ 0 then P7 l.shape 8 else
 if (l.shape.all fun v => j4 v.x && j4 v.y) then 0 else 1
def a0I (a : Am) : Int :=
 if Q7 a.name = false then 3 else
 if 3 < a.links.length then 2 else
 if a.links.length = 0 \/ (j4 a.base.x && j4 a.base.y && j4 a.base.t) = false \/ a3G a.base.half a.base.t = true then 1 else
 F6 a0r a.links
def b5a (a : Am) (q : List Nm.Rt) : Int :=
 if a0I a ≠ 0 then a0I a else if q.length ≠ a.links.length then 1 else
 F6 (fun x : Lk × Nm.Rt => if Nm.G5 (Nm.j5 x.2) (Nm.j5 x.1.low) < 0 \/ 0 < Nm.G5 (Nm.j5 x.2) (Nm.j5 x.1.high) then 17 else 0) (a.links.zip q)
abbrev Nms := List (List UInt8)
def I4 (n : Nms) (s : List UInt8) : Int × Nms := if Q7 s = false then (3, n) else if n.contains s then (5, n) else (0, n ++ [s])
def okV (v : Vt) : Bool := decide v.x.D8 && decide v.y.D8 && j4 v.x && j4 v.y
def okF (f : Fr) : Bool := okV ⟨f.x, f.y⟩ && decide f.t.D8 && j4 f.t && !a3G f.half f.t
def I9 (l : List Vt) : Int := if P7 l 8 ≠ 0 then P7 l 8 else if l.all okV then 0 else 1
def X5 (n : Nms) (a : Am) : Int × Nms := if a0I a ≠ 0 then (a0I a, n) else I4 n a.name
def W9 (n : Nms) (p : Pt) : Int × Nms :=
 if (I4 n p.name).1 ≠ 0 then I4 n p.name else
 if I9 p.shape ≠ 0 then (I9 p.shape, (I4 n p.name).2) else
 (if okF p.grasp then 0 else 1, (I4 n p.name).2)
def V5 (n : Nms) (s : Sl) : Int × Nms :=
 if (I4 n s.name).1 ≠ 0 then I4 n s.name else
 (if okF s.frame && decide s.within.D8 && j4 s.within && decide (0 < D6 (Nm.j5 s.within)) then 0 else 1, (I4 n s.name).2)
def V3 (n : Nms) (g : Gt) : Int × Nms :=
 if (I4 n g.name).1 ≠ 0 then I4 n g.name else
 (if okV g.low && okV g.high && decide (Nm.G5 (Nm.j5 g.low.x) (Nm.j5 g.high.x) <= 0) && decide (Nm.G5 (Nm.j5 g.low.y) (Nm.j5 g.high.y) <= 0) then 0 else 1, (I4 n g.name).2)
def a8b (a : Nm.Rt) : Int := if decide a.D8 && j4 a && decide (0 <= D6 (Nm.j5 a)) then 0 else 1
def a3i (w : Wk) : List Int :=
 let a := D9 X5 [] w.arms
 let p := D9 W9 a.2 w.parts
 let s := D9 V5 p.2 w.slots
 let g := D9 V3 s.2 w.gates
 [a.1, F6 I9 w.walls, p.1, s.1, g.1]
def a0j (w : Wk) : Int :=
 if 4 < w.arms.length \/ 10 < w.walls.length \/ 6 < w.parts.length \/ 8 < w.slots.length \/ 4 < w.gates.length then 2 else
 if w.arms.length = 0 then 4 else
 if F6 id (a3i w) ≠ 0 then F6 id (a3i w) else a8b w.walk
def nmE (n : Nms) : List (Value × Value) := n.map fun s => (.string (bs s), .bool true)
theorem b5y (n : Nms) (s : List UInt8) : a1c (.string (bs s)) (nmE n) = if n.contains s then some (.bool true) else none := by
 induction n with
 | nil => rfl
 | cons a n ih =>
  simp only [nmE, b8y, a1c, a1d]
  simp only [nmE] at ih
  rw [ih]
  by_cases h : s = a
  ·subst h; simp
  ·have h1 : ¬ bs s = bs a := fun e => h (a9d e)
   have h2 : (s == a) = false := by simpa using h
   rw [List.contains_cons]
   simp only [h2, Bool.false_or, decide_eq_false h1, b8M, if_false]
theorem b6Z (n : Nms) (s : List UInt8) (h : n.contains s = false) : a0K (.string (bs s)) (.bool true) (nmE n) = nmE (n ++ [s]) := by
 induction n with
 | nil => rfl
 | cons a n ih =>
  rw [List.contains_cons, b8J] at h
  have h1 : ¬ bs s = bs a := fun e => by have := a9d e; subst this; simp at h
  have h3 := ih h.2
  simp only [nmE, b8y, List.cons_append, a0K, a1d, decide_eq_false h1, b8M, if_false] at h3 ⊢
  rw [h3]
structure Ast where
 q : List Nm.Rt
 v : List Nm.Rt
 power : Bool
 holds : Int
structure Stt where
 tick : Int
 arms : List Ast
 parts : List Fr
 people : List Vt
 gates : List Bool
def rts (l : List Nm.Rt) : C := .sl 3 (l.map rcs)
def Ast.enc (x : Ast) : List C := [rts x.q, rts x.v, .v (.bool x.power), ints x.holds]
def Ast.c (x : Ast) : C := .agg x.enc
def a3a (l : List Ast) : C := .sl 4 (l.map Ast.enc)
def frs (l : List Fr) : C := .sl 10 (l.map Fr.enc)
def bls (l : List Bool) : C := .sl 1 (l.map fun b => [.v (.bool b)])
def Stt.enc (s : Stt) : List C := [ints s.tick, a3a s.arms, frs s.parts, vts s.people, bls s.gates]
def Stt.c (s : Stt) : C := .agg s.enc
def Rbs (k : Nat) (l : List Nm.Rt) : Prop := l.length <= k /\ ∀ a ∈ l, Rb k a
def Asb (k : Nat) (x : Ast) : Prop := Rbs k x.q /\ Rbs k x.v
structure Stb (k : Nat) (s : Stt) : Prop where
 arms : s.arms.length <= k /\ ∀ x ∈ s.arms, Asb k x
 parts : s.parts.length <= k /\ ∀ x ∈ s.parts, Fb k x
 people : Vbs k s.people
 gates : s.gates.length <= k
def b7G (q : Rat) : Rat := if q.num < 0 then -q else q
def b6M (x : Lk × Nm.Rt) : Int := if 0 < Nm.G5 (b7G (Nm.j5 x.2)) (Nm.j5 x.1.speed) then 1 else 0
def b5c (a : Nm.Rt) : Bool := decide a.D8
def b7P (a : Am) (x : Ast) (parts : Nat) : Int :=
 if (x.q.all b5c && x.v.all b5c) = false then 3 else
 if b5a a x.q ≠ 0 then b5a a x.q else
 if x.v.length ≠ a.links.length \/ x.holds < -1 \/ (parts : Int) <= x.holds then 1 else
 F6 b6M (a.links.zip x.v)
def a3o (l : Lk) : Nm.Rt := Nm.ofQ (b3t (Nm.j5 l.low) (a5B (Nm.j5 l.high) 0))
def a2E (a : Am) : Ast := ⟨a.links.map a3o, a.links.map fun _ => Nm.ofQ 0, false, -1⟩
def a3U : Fr := ⟨Nm.ofQ 0, Nm.ofQ 0, false, Nm.ofQ 0⟩
def a9o (w : Wk) (i : Nat) : Fr := if h : i < w.slots.length then (w.slots[i]).frame else a3U
def a4u (w : Wk) : Stt := ⟨0, w.arms.map a2E, (List.range w.parts.length).map (a9o w), [], List.replicate w.gates.length false⟩
theorem b3d {l : List Vt} {most i k : Nat} (h1 : ¬ most < l.length) (h2 : ¬ l.length < 3) (hi : i < l.length) (hk2 : 2 <= k) (hk : k < l.length) (h : ¬ 0 < a2s l i k) : P7 l most = 3 := by
 unfold P7
 rw [if_neg h1, if_neg h2, if_neg]
 intro ha
 rw [List.all_eq_true] at ha
 have h3 := ha i (List.mem_range.2 hi)
 rw [List.all_eq_true] at h3
 have h4 := h3 k (List.mem_range.2 hk)
 rw [b8N, b8o, b8o] at h4
 omega
theorem b1v {l : List Vt} {most : Nat} (h1 : ¬ most < l.length) (h2 : ¬ l.length < 3) (h : ∀ i, i < l.length -> ∀ k, 2 <= k -> k < l.length -> 0 < a2s l i k) : P7 l most = 0 := by
 unfold P7
 rw [if_neg h1, if_neg h2, if_pos]
 rw [List.all_eq_true]
 intro i hi
 rw [List.all_eq_true]
 intro k hk
 rw [b8N, b8o, b8o]
 rcases b8s k 2 with h3 | h3
 ·exact .inl h3
 ·exact .inr (h i (List.mem_range.1 hi) k h3 (List.mem_range.1 hk))
theorem b2o {l : List Vt} {i k : Nat} {x y z : Vt} (hx : l[i]? = some x) (hy : l[(i + 1) % l.length]? = some y) (hz : l[(i + k) % l.length]? = some z) : a2s l i k = a8d x y z := by
 unfold a2s
 rw [b8h, b8h, b8h, hx, hy, hz]
 rfl
theorem b4u (i k n : Nat) : Int.tmod ((i : Int) + (k : Int)) (n : Int) = (((i + k) % n : Nat) : Int) := rfl
theorem tmod_one (i n : Nat) : Int.tmod ((i : Int) + 1) (n : Int) = (((i + 1) % n : Nat) : Int) := rfl
theorem b6A (v : Vt) : v.enc.length = 6 := rfl
theorem b4c (l : List Vt) (most : Nat) (hl : Vbs 1073741824 l) (hm : most <= 1000000) : FZ 194 [vts l, ints most] (ints (P7 l most)) := by
 refine kW Tryz.func194 (by cbv) (by rfl) fun w O hw => ?_
 obtain ⟨hn, hb⟩ := hl
 simp only [j6, ints, vts]
 (repeat first | refine uA ?_ | (refine uK ?_ ?_; focus first | omega | trivial | (intros; simp_all <;> omega)) | simp (disch := omega) only [go_sem, Nat.reduceBEq, Nat.reduceAdd, Nat.reduceLeDiff, Int.reduceToNat, Int.reducePow, ww, b7Z])
 (refine uJ rfl (fun hc => ?_) fun hc => ?_)
 ·have he : P7 l most = 2 := by unfold P7; rw [if_pos (by omega)]
  rw [he]
  (repeat first | refine uA ?_ | (refine uK ?_ ?_; focus first | omega | trivial | (intros; simp_all <;> omega)) | simp (disch := omega) only [go_sem, Nat.reduceBEq, Nat.reduceAdd, Nat.reduceLeDiff, Int.reduceToNat, Int.reducePow, ww])
  exact S.done (d9.out rfl (Imp.refl rfl) rfl)
 have h1 : ¬ most < l.length := by omega
 (repeat first | refine uA ?_ | (refine uK ?_ ?_; focus first | omega | trivial | (intros; simp_all <;> omega)) | simp (disch := omega) only [go_sem, Nat.reduceBEq, Nat.reduceAdd, Nat.reduceLeDiff, Int.reduceToNat, Int.reducePow, ww, b7Z])
 (refine uJ rfl (fun hc => ?_) fun hc => ?_)
 ·have he : P7 l most = 3 := by unfold P7; rw [if_neg h1, if_pos (by omega)]
  rw [he]
  (repeat first | refine uA ?_ | (refine uK ?_ ?_; focus first | omega | trivial | (intros; simp_all <;> omega)) | simp (disch := omega) only [go_sem, Nat.reduceBEq, Nat.reduceAdd, Nat.reduceLeDiff, Int.reduceToNat, Int.reducePow, ww])
  exact S.done (d9.out rfl (Imp.refl rfl) rfl)
 have h2 : ¬ l.length < 3 := by omega
 (repeat first | refine uA ?_ | (refine uK ?_ ?_; focus first | omega | trivial | (intros; simp_all <;> omega)) | simp (disch := omega) only [go_sem, Nat.reduceBEq, Nat.reduceAdd, Nat.reduceLeDiff, Int.reduceToNat, Int.reducePow, ww, b7Z])
 refine S.loop (X := Nat) (fun i => ⟨[(0, vts l), (5, ints l.length), (18, vts l), (19, ints l.length), (20, ints i)], []⟩)
  (fun i => i <= l.length /\ ∀ j, j < i -> ∀ k, 2 <= k -> k < l.length -> 0 < a2s l j k) (fun i => l.length - i) 0 ⟨b8b _, fun _ h => absurd h (Nat.not_lt_zero _)⟩ (by (repeat first | refine uA ?_ | (refine ⟨?_, ?_⟩; focus first | rfl | trivial | (simp [slot]; done)) | rfl | trivial | simp)) ?_
 rintro i ⟨hi, hg⟩
 simp only [ints, vts] at hi ⊢
 (repeat first | refine uA ?_ | (refine uK ?_ ?_; focus first | omega | trivial | (intros; simp_all <;> omega)) | simp (disch := omega) only [go_sem, Nat.reduceBEq, Nat.reduceAdd, Nat.reduceLeDiff, Int.reduceToNat, Int.reducePow, ww])
 (refine uJ rfl (fun hc => ?_) fun hc => ?_)
 ·have hi' : i < l.length := by omega
  have hgi := b7W hi'
  generalize l[i] = x at hgi
  (repeat first | refine uA ?_ | (refine uK ?_ ?_; focus first | omega | trivial | (intros; simp_all <;> omega)) | simp (disch := omega) only [go_sem, Nat.reduceBEq, Nat.reduceAdd, Nat.reduceLeDiff, Int.reduceToNat, Int.reducePow, ww, hgi, b7Y, b7Z, b6A])
  refine S.loop (X := Nat) (fun k => ⟨[(0, vts l), (5, ints l.length), (6, ints i), (7, .bp 0 0), (8, ints k), (18, vts l), (19, ints l.length), (20, ints i)], [.box 32 x.enc]⟩)
   (fun k => 2 <= k /\ k <= l.length /\ ∀ k', 2 <= k' -> k' < k -> 0 < a2s l i k') (fun k => l.length - k) 2 ⟨b8f _, by omega, fun _ h h' => by omega⟩ (by (repeat first | refine uA ?_ | (refine ⟨?_, ?_⟩; focus first | rfl | trivial | (simp [slot]; done)) | rfl | trivial | simp)) ?_
  rintro k ⟨hk2, hk, hgk⟩
  simp only [ints, vts] at hk ⊢
  (repeat first | refine uA ?_ | (refine uK ?_ ?_; focus first | omega | trivial | (intros; simp_all <;> omega)) | simp (disch := omega) only [go_sem, Nat.reduceBEq, Nat.reduceAdd, Nat.reduceLeDiff, Int.reduceToNat, Int.reducePow, ww])
  (refine uJ rfl (fun hc => ?_) fun hc => ?_)
  ·have hk' : k < l.length := by omega
   have hy := b7W (show (i + 1) % l.length < l.length from Nat.mod_lt _ (by omega))
   have hz := b7W (show (i + k) % l.length < l.length from Nat.mod_lt _ (by omega))
   have hylt : (i + 1) % l.length < l.length := Nat.mod_lt _ (by omega)
   have hzlt : (i + k) % l.length < l.length := Nat.mod_lt _ (by omega)
   generalize l[(i + 1) % l.length]'_ = y at hy
   generalize l[(i + k) % l.length]'_ = z at hz
   have hla := b2o hgi hy hz
   have hcall := b6H x y z (hb x (b8c hgi)) (hb y (b8c hy)) (hb z (b8c hz))
   rw [<- hla] at hcall
   simp only [Vt.c, Vt.enc, sb, ints] at hcall
   (repeat first | refine uA ?_ | (refine uK ?_ ?_; focus first | omega | trivial | (intros; simp_all <;> omega)) | simp (disch := omega) only [go_sem, Nat.reduceBEq, Nat.reduceAdd, Nat.reduceLeDiff, Int.reduceToNat, Int.reducePow, ww, hy, hz, b7Y, b4u, tmod_one, b7Z, Vt.enc, sb, b8m] | (refine uD hcall ?_ ?_ ?_; exact tz hw; exact rfl))
   (refine uJ rfl (fun hc => ?_) fun hc => ?_)
   ·rw [b3d h1 h2 hi' hk2 hk' (by omega)]
    (repeat first | refine uA ?_ | (refine uK ?_ ?_; focus first | omega | trivial | (intros; simp_all <;> omega)) | simp (disch := omega) only [go_sem, Nat.reduceBEq, Nat.reduceAdd, Nat.reduceLeDiff, Int.reduceToNat, Int.reducePow, ww])
    exact S.done (d9.out rfl (Imp.refl rfl) rfl)
   ·(repeat first | refine uA ?_ | (refine uK ?_ ?_; focus first | omega | trivial | (intros; simp_all <;> omega)) | simp (disch := omega) only [go_sem, Nat.reduceBEq, Nat.reduceAdd, Nat.reduceLeDiff, Int.reduceToNat, Int.reducePow, ww])
    refine S.next (k + 1) ⟨by omega, by omega, fun k' hk1 hk3 => ?_⟩ (by omega) (by (repeat first | refine uA ?_ | (refine ⟨?_, ?_⟩; focus first | rfl | trivial | (simp [slot]; done)) | rfl | trivial | simp))
    rcases b8s k' k with h | h
    ·exact hgk k' hk1 h
    ·have : k' = k := by omega
     subst this
     omega
  ·have hk' : k = l.length := by omega
   subst hk'
   (repeat first | refine uA ?_ | (refine uK ?_ ?_; focus first | omega | trivial | (intros; simp_all <;> omega)) | simp (disch := omega) only [go_sem, Nat.reduceBEq, Nat.reduceAdd, Nat.reduceLeDiff, Int.reduceToNat, Int.reducePow, ww])
   refine S.next (i + 1) ⟨by omega, fun j hj => ?_⟩ (by omega) (by (repeat first | refine uA ?_ | (refine ⟨?_, ?_⟩; focus first | rfl | trivial | (simp [slot]; done)) | rfl | trivial | simp))
   rcases b8s j i with h | h
   ·exact hg j h
   ·have : j = i := by omega
    subst this
    exact hgk
 ·have hi' : i = l.length := by omega
  subst hi'
  rw [b1v h1 h2 hg]
  (repeat first | refine uA ?_ | (refine uK ?_ ?_; focus first | omega | trivial | (intros; simp_all <;> omega)) | simp (disch := omega) only [go_sem, Nat.reduceBEq, Nat.reduceAdd, Nat.reduceLeDiff, Int.reduceToNat, Int.reducePow, ww])
  exact S.done (d9.out rfl (Imp.refl rfl) rfl)
theorem a2X (l : List Vt) (hl : Vbs 1073741824 l) : FZ 143 [vts l] (ints (P7 l 8)) := by
 refine kW Tryz.func143 (by cbv) (by rfl) fun w O hw => ?_
 have h := b4c l 8 hl (by decide)
 simp only [j6]
 simp only [vts, ints] at *
 generalize P7 l 8 = e at *
 rw [show ((8 : Nat) : Int) = 8 from rfl] at h
 (repeat first | refine uA ?_ | (refine uK ?_ ?_; focus first | omega | trivial | (intros; simp_all <;> omega)) | simp (disch := omega) only [go_sem, Nat.reduceBEq, Nat.reduceAdd, Nat.reduceLeDiff, Int.reduceToNat, Int.reducePow, ww] | (refine uD h ?_ ?_ ?_; exact tz hw; exact rfl))
 exact S.done (d9.out rfl (Imp.refl rfl) rfl)
def a1o : a1q := ⟨89, [.tmp 2], .seq (.reg [OA 1 (.box 30 (TT 0)), OA 2 (.mv (II 0))]) (.seq (.seq (.reg [FF 7 0 1, VV 8 7, OA 9 (.len false (TT 8)), OA 10 (.bin .gtr (TT 9) (II 4)), MM 11 10, FG 12 1 1 11 false, VG 13 12 11 false, OC 14 (.len
 false (TT 13)) 11 false, OC 15 (.bin .gtr (TT 14) (II 10)) 11 false, OA 16 (.pick (TT 11) (.const (.bool true)) (TT 15)), MM 17 16, FG 18 2 1 17 false, VG 19 18 17 false, OC 20 (.len false (TT 19)) 17 false, OC 21 (.bin .gtr (TT
 20) (II 6)) 17 false, OA 22 (.pick (TT 17) (.const (.bool true)) (TT 21)), MM 23 22, FG 24 3 1 23 false, VG 25 24 23 false, OC 26 (.len false (TT 25)) 23 false, OC 27 (.bin .gtr (TT 26) (II 8)) 23 false, OA 28 (.pick (TT 23)
 (.const (.bool true)) (TT 27)), MM 29 28, FG 30 4 1 29 false, VG 31 30 29 false, OC 32 (.len false (TT 31)) 29 false, OC 33 (.bin .gtr (TT 32) (II 4)) 29 false, OA 34 (.pick (TT 29) (.const (.bool true)) (TT 33))]) (.cond (TT
 34) (.seq (.reg [OA 2 (.mv (II 2))]) .ret) .skip)) (.seq (.seq (.reg [FF 35 0 1, VV 36 35, OA 37 (.len false (TT 36)), OA 38 (.bin .eql (TT 37) (II 0))]) (.cond (TT 38) (.seq (.reg [OA 2 (.mv (II 4))]) .ret) .skip)) (.seq (.reg
 [OA 39 (.a1w true), OA 3 (.alloc 105 [.map none]), OB (.store 1 (TT 3) (TT 39))]) (.seq (.reg [OA 40 (.clo 48 [TT 3]), MM 4 40]) (.seq (.seq (.Z6 [.q, .q, .q, .e none false, .l, .l, .q, .l, .l, .l, .l, .e none false, .l, .l,
 .l, .l, .e none false, .l, .l, .l, .l, .e none false, .q, .q, .l] [FF 41 0 1, VV 42 41, MM 43 4, OA 44 (.call 51 [TT 42, TT 43]), FF 45 1 1, VV 46 45, OA 47 (.call 52 [TT 46, .func 53]), FF 48 2 1, VV 49 48, VV 50 3, OA 51 (.bnd
 55 (TT 50)), OA 52 (.call 54 [TT 49, TT 51]), FF 53 3 1, VV 54 53, VV 55 3, OA 56 (.bnd 57 (TT 55)), OA 57 (.call 56 [TT 54, TT 56]), FF 58 4 1, VV 59 58, VV 60 3, OA 61 (.bnd 59 (TT 60)), OA 62 (.call 58 [TT 59, TT 61]), OA 63
 (.bsl 40 1 5 [.int .i64 0] [(0, TT 44), (1, TT 47), (2, TT 52), (3, TT 57), (4, TT 62)]), OA 64 (.len false (TT 63)), OA 65 (.mv (II 0))]) (.block 0 (.loop (.seq (.reg [OA 66 (.bin .lss (TT 65) (TT 64))]) (.seq (.cond (TT 66)
 .skip (.exit 0)) (.seq (.block 1 (.seq (.reg [OA 67 (.K3 1 (TT 63) (TT 65)), VV 68 67, MM 6 68]) (.seq (.reg [MM 69 6, OA 70 (.bin .neq (TT 69) (II 0))]) (.cond (TT 70) (.seq (.reg [MM 71 6, MM 2 71]) .ret) .skip)))) (.reg
 [OA 72 (.bin .add (TT 65) (II 1)), MM 65 72]))))))) (.seq (.seq (.reg [FF 73 5 1, LL 74 3 73, OA 75 (.call 45 [TT 74]), OA 76 (.un .not (TT 75)), MM 77 76, FG 78 5 1 77 false, LG 79 3 78 77 false, OC 80 (.call 46 [TT 79]) 77
 false, OC 81 (.un .not (TT 80)) 77 false, OA 82 (.pick (TT 77) (.const (.bool true)) (TT 81)), MM 83 82, FG 84 5 1 83 false, LG 85 3 84 83 false, OC 86 (.call 31 [TT 85]) 83 false, OC 87 (.bin .lss (TT 86) (II 0)) 83 false, OA
 88 (.pick (TT 83) (.const (.bool true)) (TT 87))]) (.cond (TT 88) (.seq (.reg [OA 2 (.mv (II 1))]) .ret) .skip)) (.seq (.reg [OA 2 (.mv (II 0))]) .ret)))))))⟩
theorem a6Z : Z4 eff Tryz.prog Tryz.f11 = some a1o := by kernel_rfl
theorem a6M : Tryz.prog.funcs[11]? = some Tryz.f11 := Tryz.func11
def G6 (b : UInt8) : Bool := decide (97 <= b.toNat) && decide (b.toNat <= 122)
theorem a7M {s : List UInt8} {i : Nat} (hi : i < s.length) (h : G6 s[i] = false) : Q7 s = false := by
 unfold Q7
 have : (s.all fun b => decide (97 <= b.toNat) && decide (b.toNat <= 122)) = false := by
  rw [List.all_eq_false]
  exact ⟨s[i], b8j hi, by unfold G6 at h; rw [h]; decide⟩
 rw [this]
 rfl
theorem a9C {s : List UInt8} (h : ∀ j (h : j < s.length), G6 s[j] = true) : Q7 s = (decide (1 <= s.length) && decide (s.length <= 12)) := by
 unfold Q7
 have : (s.all fun b => decide (97 <= b.toNat) && decide (b.toNat <= 122)) = true := by
  rw [List.all_eq_true]
  intro x hx
  obtain ⟨j, hj, rfl⟩ := List.mem_iff_getElem.1 hx
  exact h j hj
 rw [this, Bool.true_and]
theorem b3Y (s : List UInt8) (hs : s.length <= 1099511627776) : l6 Tryz.prog 140 [sb s] (.v (.bool (Q7 s))) := by
  refine kS Tryz.func140 (by cbv) (by rfl) fun w O => ?_
  simp only [j6, sb]
  (repeat first | refine uA ?_ | (refine uK ?_ ?_; focus first | omega | (intros; simp_all <;> omega)) | simp (disch := omega) only [go_sem, Nat.reduceBEq, Nat.reduceAdd, ww, l8])
  refine S.loop (X := Nat) (fun i => ⟨[(0, sb s), (5, ints s.length), (6, ints i)], []⟩) (fun i => i <= s.length /\ ∀ j (h : j < s.length), j < i -> G6 s[j] = true) (fun i => s.length - i) 0 ⟨b8b _, fun _ _ h => absurd h (Nat.not_lt_zero _)⟩ (by (repeat first | refine uA ?_ | (refine ⟨?_, ?_⟩; focus first | rfl | simp [slot]) | rfl | simp)) ?_
  rintro i ⟨hi, hg⟩
  simp only [sb, ints]
  (repeat first | refine uA ?_ | (refine uK ?_ ?_; focus first | omega | (intros; simp_all <;> omega)) | simp (disch := omega) only [go_sem, Nat.reduceBEq, Nat.reduceAdd, ww])
  (refine uJ rfl (fun hc => ?_) fun hc => ?_)
  · have hi' : i < s.length := by omega
    have hgi : s.getD i 0 = s[i] := by rw [b8h, b7W hi']; rfl
    (repeat first | refine uA ?_ | (refine uK ?_ ?_; focus first | omega | (intros; simp_all <;> omega)) | simp (disch := omega) only [go_sem, Nat.reduceBEq, Nat.reduceAdd, ww, l8, K9, hgi, b8m])
    refine S.cond rfl (fun hc => ?_) (fun hc => ?_)
    · have hl : G6 s[i] = false := by
        unfold G6
        simp only [b8N, b8o] at hc
        rw [Bool.and_eq_false_iff, b8v, b8v]
        omega
      rw [a7M hi' hl]
      (repeat first | refine uA ?_ | (refine uK ?_ ?_; focus first | omega | (intros; simp_all <;> omega)) | simp (disch := omega) only [go_sem, Nat.reduceBEq, Nat.reduceAdd, ww])
      exact S.done (d9.out rfl (Imp.refl rfl) rfl)
    · have hl : G6 s[i] = true := by
        unfold G6
        simp only [b8J, b8v] at hc
        rw [b8g, b8o, b8o]
        omega
      (repeat first | refine uA ?_ | (refine uK ?_ ?_; focus first | omega | (intros; simp_all <;> omega)) | simp (disch := omega) only [go_sem, Nat.reduceBEq, Nat.reduceAdd, ww])
      refine S.next (i + 1) ⟨by omega, fun j h hj => ?_⟩ (by omega) (by (repeat first | refine uA ?_ | (refine ⟨?_, ?_⟩; focus first | rfl | simp [slot]) | rfl | simp))
      rcases b8s j i with h1 | h1
      · exact hg j h h1
      · have : j = i := by omega
        subst this
        exact hl
  · have hi' : i = s.length := by omega
    subst hi'
    have e1 : decide ((1 : Int) <= (s.length : Int)) = decide (1 <= s.length) := decide_eq_decide.2 (by omega)
    have e2 : decide ((s.length : Int) <= 12) = decide (s.length <= 12) := decide_eq_decide.2 (by omega)
    rw [a9C fun j h => hg j h h]
    (repeat first | refine uA ?_ | (refine uK ?_ ?_; focus first | omega | (intros; simp_all <;> omega)) | simp (disch := omega) only [go_sem, Nat.reduceBEq, Nat.reduceAdd, ww, l8, e1, e2])
    (try simp only [e1, e2, go_sem])
    exact S.done (d9.out rfl (Imp.refl rfl) rfl)
theorem a4K (s : List UInt8) (hs : s.length <= 1099511627776) : l6 Tryz.prog 7 [sb s] (.v (.bool (Q7 s))) := by
  refine kS Tryz.func7 (by cbv) (by rfl) fun w O => ?_
  simp only [j6, sb]
  (repeat first | refine uA ?_ | (refine uK ?_ ?_; focus first | omega | (intros; simp_all <;> omega)) | simp (disch := omega) only [go_sem, Nat.reduceBEq, Nat.reduceAdd, ww, l8])
  refine S.loop (X := Nat) (fun i => ⟨[(0, sb s), (5, ints s.length), (6, ints i)], []⟩) (fun i => i <= s.length /\ ∀ j (h : j < s.length), j < i -> G6 s[j] = true) (fun i => s.length - i) 0 ⟨b8b _, fun _ _ h => absurd h (Nat.not_lt_zero _)⟩ (by (repeat first | refine uA ?_ | (refine ⟨?_, ?_⟩; focus first | rfl | simp [slot]) | rfl | simp)) ?_
  rintro i ⟨hi, hg⟩
  simp only [sb, ints]
  (repeat first | refine uA ?_ | (refine uK ?_ ?_; focus first | omega | (intros; simp_all <;> omega)) | simp (disch := omega) only [go_sem, Nat.reduceBEq, Nat.reduceAdd, ww])
  (refine uJ rfl (fun hc => ?_) fun hc => ?_)
  · have hi' : i < s.length := by omega
    have hgi : s.getD i 0 = s[i] := by rw [b8h, b7W hi']; rfl
    (repeat first | refine uA ?_ | (refine uK ?_ ?_; focus first | omega | (intros; simp_all <;> omega)) | simp (disch := omega) only [go_sem, Nat.reduceBEq, Nat.reduceAdd, ww, l8, K9, hgi, b8m])
    refine S.cond rfl (fun hc => ?_) (fun hc => ?_)
    · have hl : G6 s[i] = false := by
        unfold G6
        simp only [b8N, b8o] at hc
        rw [Bool.and_eq_false_iff, b8v, b8v]
        omega
      rw [a7M hi' hl]
      (repeat first | refine uA ?_ | (refine uK ?_ ?_; focus first | omega | (intros; simp_all <;> omega)) | simp (disch := omega) only [go_sem, Nat.reduceBEq, Nat.reduceAdd, ww])
      exact S.done (d9.out rfl (Imp.refl rfl) rfl)
    · have hl : G6 s[i] = true := by
        unfold G6
        simp only [b8J, b8v] at hc
        rw [b8g, b8o, b8o]
        omega
      (repeat first | refine uA ?_ | (refine uK ?_ ?_; focus first | omega | (intros; simp_all <;> omega)) | simp (disch := omega) only [go_sem, Nat.reduceBEq, Nat.reduceAdd, ww])
      refine S.next (i + 1) ⟨by omega, fun j h hj => ?_⟩ (by omega) (by (repeat first | refine uA ?_ | (refine ⟨?_, ?_⟩; focus first | rfl | simp [slot]) | rfl | simp))
      rcases b8s j i with h1 | h1
      · exact hg j h h1
      · have : j = i := by omega
        subst this
        exact hl
  · have hi' : i = s.length := by omega
    subst hi'
    have e1 : decide ((1 : Int) <= (s.length : Int)) = decide (1 <= s.length) := decide_eq_decide.2 (by omega)
    have e2 : decide ((s.length : Int) <= 12) = decide (s.length <= 12) := decide_eq_decide.2 (by omega)
    rw [a9C fun j h => hg j h h]
    (repeat first | refine uA ?_ | (refine uK ?_ ?_; focus first | omega | (intros; simp_all <;> omega)) | simp (disch := omega) only [go_sem, Nat.reduceBEq, Nat.reduceAdd, ww, l8, e1, e2])
    (try simp only [e1, e2, go_sem])
    exact S.done (d9.out rfl (Imp.refl rfl) rfl)
theorem a5G (l : List Nm.Rt) (hl : Rbs 17179869184 l) : FZ 141 [rts l] (.v (.bool (l.all j4))) := by
  refine kW Tryz.func141 (by cbv) (by rfl) fun w O hw => ?_
  obtain ⟨hn, hb⟩ := hl
  simp only [j6, rts]
  (repeat first | refine uA ?_ | (refine uK ?_ ?_; focus first | omega | (intros; simp_all <;> omega)) | simp (disch := omega) only [go_sem, Nat.reduceBEq, Nat.reduceAdd, ww, b7Z])
  refine S.loop (X := Nat) (fun i => ⟨[(5, rts l), (6, ints l.length), (7, ints i)], []⟩) (fun i => i <= l.length /\ l.all j4 = (l.drop i).all j4) (fun i => l.length - i) 0 ⟨b8b _, rfl⟩ (by (repeat first | refine uA ?_ | (refine ⟨?_, ?_⟩; focus first | rfl | simp [slot]) | rfl | simp)) ?_
  rintro i ⟨hi, hg⟩
  simp only [rts, ints]
  (repeat first | refine uA ?_ | (refine uK ?_ ?_; focus first | omega | (intros; simp_all <;> omega)) | simp (disch := omega) only [go_sem, Nat.reduceBEq, Nat.reduceAdd, ww])
  (refine uJ rfl (fun hc => ?_) fun hc => ?_)
  · have hi' : i < l.length := by omega
    have hgi := b7W hi'
    generalize l[i] = x at hgi
    have hd := drop_at hgi
    have hs := a1u x (hb x (b8c hgi))
    simp only [rc] at hs
    simp only [sb] at hs
    (repeat first | refine uA ?_ | (refine uK ?_ ?_; focus first | omega | (intros; simp_all <;> omega)) | simp (disch := omega) only [go_sem, Nat.reduceBEq, Nat.reduceAdd, ww, hgi, b7Y, b7Z, rcs, sb] | (refine uD hs ?_ ?_ ?_; exact tz hw; exact rfl))
    refine S.cond rfl (fun hc => ?_) (fun hc => ?_)
    · have : l.all j4 = false := by
        rw [hg, hd, List.all_cons]
        simp only [Bool.not_eq_true'] at hc
        rw [hc]; rfl
      rw [this]
      (repeat first | refine uA ?_ | (refine uK ?_ ?_; focus first | omega | (intros; simp_all <;> omega)) | simp (disch := omega) only [go_sem, Nat.reduceBEq, Nat.reduceAdd, ww])
      exact S.done (d9.out rfl (Imp.refl rfl) rfl)
    · (repeat first | refine uA ?_ | (refine uK ?_ ?_; focus first | omega | (intros; simp_all <;> omega)) | simp (disch := omega) only [go_sem, Nat.reduceBEq, Nat.reduceAdd, ww])
      refine S.next (i + 1) ⟨by omega, ?_⟩ (by omega) (by (repeat first | refine uA ?_ | (refine ⟨?_, ?_⟩; focus first | rfl | simp [slot]) | rfl | simp))
      rw [hg, hd, List.all_cons]
      simp only [Bool.not_eq_false'] at hc
      rw [hc]; rfl
  · have : l.all j4 = true := by rw [hg, List.drop_eq_nil_of_le (by omega)]; rfl
    rw [this]
    (repeat first | refine uA ?_ | (refine uK ?_ ?_; focus first | omega | (intros; simp_all <;> omega)) | simp (disch := omega) only [go_sem, Nat.reduceBEq, Nat.reduceAdd, ww])
    exact S.done (d9.out rfl (Imp.refl rfl) rfl)
namespace Eng
def frS (fr : List (Nat × C)) : List (Nat × C) -> Prop
 | [] => True
 | (t, s) :: r => (s = .junk \/ slot fr t = s) /\ frS fr r
theorem a8s {fr : List (Nat × C)} : ∀ {fr' : List (Nat × C)}, frS fr fr' -> ∀ t, slot fr' t = .junk \/ slot fr t = slot fr' t
 | [], _, t => .inl rfl
 | (u, s) :: r, h, t => by
  simp only [slot]
  cases hb : (u == t) with
  | true =>
   have : u = t := by simpa using hb
   subst this
   exact h.1
  | false => exact a8s h.2 t
theorem Ent.fr {E : Ctx} {fr fr' : List (Nat × C)} {rs rs' : List Res} (h : rs = rs') (hf : frS fr fr') : Ent E ⟨fr, rs⟩ ⟨fr', rs'⟩ := by
 subst h
 intro wf ν a w hG
 refine ⟨ν, hG.dfr, hG.size, fun t => ?_, hG.rg, hG.frm, hG.nu⟩
 rcases a8s hf t with e | e
 ·rw [e]; simp only [Den]
 ·rw [<- e]; exact hG.fr t
end Eng
def O0 {α : Type} (p : α -> Bool) (l : List α) : Int := match l.findIdx? p with | some i => i | none => -1
theorem a2t {α : Type} {p : α -> Bool} {l : List α} {i : Nat} {x : α} (h : l[i]? = some x) (hp : p x = true) (hm : ∀ j, j < i -> ∀ y, l[j]? = some y -> p y = false) : O0 p l = i := by
 obtain ⟨hi, rfl⟩ := b8e.1 h
 have : l.findIdx? p = some i := by
  rw [List.findIdx?_eq_some_iff_getElem]
  refine ⟨hi, hp, fun j hj => ?_⟩
  simp [hm j hj l[j] (b7W _)]
 unfold O0
 rw [this]
theorem a1G {α : Type} {p : α -> Bool} {l : List α} (hm : ∀ j, j < l.length -> ∀ y, l[j]? = some y -> p y = false) : O0 p l = -1 := by
 have : l.findIdx? p = none := by
  rw [List.findIdx?_eq_none_iff]
  intro x hx
  obtain ⟨j, hj⟩ := List.mem_iff_getElem?.1 hx
  exact hm j (b8e.1 hj).1 x hj
 unfold O0
 rw [this]
theorem a8f {α : Type} (p : α -> Bool) (l : List α) : decide (0 <= O0 p l) = l.any p := by
 unfold O0
 cases h : l.findIdx? p with
 | none =>
  rw [List.findIdx?_eq_none_iff] at h
  have : l.any p = false := by rw [List.any_eq_false]; intro x hx; simp [h x hx]
  rw [this]; rfl
 | some i =>
  rw [List.findIdx?_eq_some_iff_getElem] at h
  obtain ⟨h1, h2, _⟩ := h
  have : l.any p = true := by rw [List.any_eq_true]; exact ⟨_, b8j h1, h2⟩
  rw [this]
  exact decide_eq_true (show (0 : Int) <= (i : Int) by omega)
theorem b3G (g : Nat) (hcal : callable Tryz.prog g = true) (p : Vt -> Bool) (l : List Vt) (hn : l.length <= 1099511627776) (hg : ∀ x ∈ l, FZ g [x.c] (.v (.bool (p x)))) :
  FZ 174 [vts l, .v (.func (.func g) #[] #[])] (ints (O0 p l)) := by
 refine kW Tryz.func174 (by cbv) (by rfl) fun w O hw => ?_
 simp only [j6, vts]
 (repeat first | refine uA ?_ | (refine uK ?_ ?_; focus first | omega | (intros; simp_all <;> omega)) | simp (disch := omega) only [go_sem, Nat.reduceBEq, Nat.reduceAdd, ww, b7Z])
 refine S.loop (X := Nat) (fun i => ⟨[(0, vts l), (1, .v (.func (.func g) #[] #[])), (7, ints l.length), (8, ints i)], []⟩) (fun i => i <= l.length /\ ∀ j, j < i -> ∀ x, l[j]? = some x -> p x = false) (fun i => l.length - i) 0 ⟨b8b _, fun _ h => absurd h (Nat.not_lt_zero _)⟩ (by (repeat first | refine uA ?_ | (refine ⟨?_, ?_⟩; focus first | rfl | simp [slot]) | rfl | simp)) ?_
 rintro i ⟨hi, hm⟩
 simp only [vts, ints]
 (repeat first | refine uA ?_ | (refine uK ?_ ?_; focus first | omega | (intros; simp_all <;> omega)) | simp (disch := omega) only [go_sem, Nat.reduceBEq, Nat.reduceAdd, ww])
 (refine uJ rfl (fun hc => ?_) fun hc => ?_)
 ·have hi' : i < l.length := by omega
  have hgi := b7W hi'
  generalize l[i] = x at hgi
  have hs := hg x (b8c hgi)
  simp only [Vt.c, Vt.enc, sb] at hs
  (repeat first | refine uA ?_ | (refine uK ?_ ?_; focus first | omega | (intros; simp_all <;> omega)) | simp (disch := omega) only [go_sem, Nat.reduceBEq, Nat.reduceAdd, ww, hgi, b7Y, b7Z, Vt.c, Vt.enc, sb, b8m, hcal] | (refine uD hs ?_ ?_ ?_; exact tz hw; exact rfl))
  refine S.cond rfl (fun hc2 => ?_) (fun hc2 => ?_)
  ·rw [a2t hgi hc2 hm]
   (repeat first | refine uA ?_ | (refine uK ?_ ?_; focus first | omega | (intros; simp_all <;> omega)) | simp (disch := omega) only [go_sem, Nat.reduceBEq, Nat.reduceAdd, ww])
   exact S.done (d9.out rfl (Imp.refl rfl) rfl)
  ·(repeat first | refine uA ?_ | (refine uK ?_ ?_; focus first | omega | (intros; simp_all <;> omega)) | simp (disch := omega) only [go_sem, Nat.reduceBEq, Nat.reduceAdd, ww])
   refine S.next (i + 1) ⟨by omega, fun j hj y hy => ?_⟩ (by omega) (by (repeat first | refine uA ?_ | (refine ⟨?_, ?_⟩; focus first | rfl | simp [slot]) | rfl | simp))
   rcases b8s j i with h1 | h1
   ·exact hm j h1 y hy
   ·have : j = i := by omega
    subst this
    rw [hgi] at hy
    cases hy
    exact hc2
 ·have hi' : i = l.length := by omega
  subst hi'
  rw [a1G hm]
  (repeat first | refine uA ?_ | (refine uK ?_ ?_; focus first | omega | (intros; simp_all <;> omega)) | simp (disch := omega) only [go_sem, Nat.reduceBEq, Nat.reduceAdd, ww])
  exact S.done (d9.out rfl (Imp.refl rfl) rfl)
theorem b4l (g : Nat) (hcal : callable Tryz.prog g = true) (p : Vt -> Bool) (l : List Vt) (hn : l.length <= 1099511627776) (hg : ∀ x ∈ l, FZ g [x.c] (.v (.bool (p x)))) :
  FZ 114 [vts l, .v (.func (.func g) #[] #[])] (.v (.bool (l.any p))) := by
 refine kW Tryz.func114 (by cbv) (by rfl) fun w O hw => ?_
 have h := b3G g hcal p l hn hg
 have e := a8f p l
 generalize O0 p l = n at *
 simp only [j6]
 simp only [vts, ints] at *
 (repeat first | refine uA ?_ | (refine uK ?_ ?_; focus first | omega | (intros; simp_all <;> omega)) | simp (disch := omega) only [go_sem, Nat.reduceBEq, Nat.reduceAdd, ww] | (refine uD h ?_ ?_ ?_; exact tz hw; exact rfl))
 rw [e]
 exact S.done (d9.out rfl (Imp.refl rfl) rfl)
set_option maxHeartbeats 8000000
def a3d (n : Int) : Int := if n < 0 then 0 else n
def a3g (n : Int) : Int := if n < 0 then 16 else 0
def a3T (n : Int) : C := .tup [ints (a3d n), ints (a3g n)]
theorem a7c (i : Int) : l6 Tryz.prog 92 [ints i] (a3T i) := by
 refine kS Tryz.func92 (by cbv) (by rfl) fun w O => ?_
 simp only [j6]
 unfold a3T a3d a3g
 simp only [ints]
 by_cases h : i < 0
 ·rw [if_pos h, if_pos h]
  (repeat first | refine uA ?_ | (refine uK ?_ ?_; focus first | omega | (intros; simp_all <;> omega)) | simp (disch := omega) only [go_sem, Nat.reduceBEq, Nat.reduceAdd, ww])
  refine S.cond rfl (fun hc => ?_) (fun hc => by simp at hc; omega)
  (repeat first | refine uA ?_ | (refine uK ?_ ?_; focus first | omega | (intros; simp_all <;> omega)) | simp (disch := omega) only [go_sem, Nat.reduceBEq, Nat.reduceAdd, ww])
  (refine S.done ?_; simp only [z8, r9, go_sem, Nat.reduceBEq, Nat.reduceAdd, Nat.reduceLeDiff, Int.reduceToNat, Int.reducePow]; (repeat (refine ⟨?_, ?_⟩; focus first | trivial | omega | simp)); exact d9.out rfl (Imp.tup (by (repeat' (first | exact l5.nil | exact Imp.refl rfl | exact Imp.frz rfl rfl rfl | exact Imp.O1 | refine Imp.agg ?_ | refine l5.cons ?_ ?_)))) rfl)
 ·rw [if_neg h, if_neg h]
  (repeat first | refine uA ?_ | (refine uK ?_ ?_; focus first | omega | (intros; simp_all <;> omega)) | simp (disch := omega) only [go_sem, Nat.reduceBEq, Nat.reduceAdd, ww])
  refine S.cond rfl (fun hc => by simp at hc; omega) (fun hc => ?_)
  (repeat first | refine uA ?_ | (refine uK ?_ ?_; focus first | omega | (intros; simp_all <;> omega)) | simp (disch := omega) only [go_sem, Nat.reduceBEq, Nat.reduceAdd, ww])
  (refine S.done ?_; simp only [z8, r9, go_sem, Nat.reduceBEq, Nat.reduceAdd, Nat.reduceLeDiff, Int.reduceToNat, Int.reducePow]; (repeat (refine ⟨?_, ?_⟩; focus first | trivial | omega | simp)); exact d9.out rfl (Imp.tup (by (repeat' (first | exact l5.nil | exact Imp.refl rfl | exact Imp.frz rfl rfl rfl | exact Imp.O1 | refine Imp.agg ?_ | refine l5.cons ?_ ?_)))) rfl)
theorem a6F (n : Int) : l6 Tryz.prog 15 [ints (a3d n), ints (a3g n), ints n] (.v (.bool true)) := by
 refine kS Tryz.func15 (by cbv) (by rfl) fun w O => ?_
 simp only [j6]
 unfold a3d a3g
 simp only [ints]
 by_cases h : n < 0
 ·rw [if_pos h, if_pos h]
  have e1 : decide (n < 0) = true := decide_eq_true h
  have e2 : decide (0 <= n) = false := decide_eq_false (by omega)
  (repeat first | refine uA ?_ | (refine uK ?_ ?_; focus first | omega | (intros; simp_all <;> omega)) | simp (disch := omega) only [go_sem, Nat.reduceBEq, Nat.reduceAdd, ww, e1, e2])
  exact S.done (d9.out rfl (Imp.refl rfl) rfl)
 ·rw [if_neg h, if_neg h]
  have e1 : decide (n < 0) = false := decide_eq_false h
  have e2 : decide (0 <= n) = true := decide_eq_true (by omega)
  (repeat first | refine uA ?_ | (refine uK ?_ ?_; focus first | omega | (intros; simp_all <;> omega)) | simp (disch := omega) only [go_sem, Nat.reduceBEq, Nat.reduceAdd, ww, e1, e2])
  exact S.done (d9.out rfl (Imp.refl rfl) rfl)
theorem a8D (g : Nat) (hcal : callable Tryz.prog g = true) (nm : List UInt8) (l : List Am) (hn : l.length <= 1099511627776) (hg : ∀ x : Am, l6 Tryz.prog g [x.c, .ep [sb nm]] (.v (.bool (decide (x.name = nm))))) :
  l6 Tryz.prog 19 [ams l, .clo g [.ep [sb nm]]] (ints (O0 (fun x => decide (x.name = nm)) l)) := by
 refine kS Tryz.func19 (by cbv) (by rfl) fun w O => ?_
 simp only [j6, ams, sb, ints]
 (repeat first | refine uA ?_ | (refine uK ?_ ?_; focus first | omega | (intros; simp_all <;> omega)) | simp (disch := omega) only [go_sem, Nat.reduceBEq, Nat.reduceAdd, ww, b7Z])
 refine S.loop (X := Nat) (fun i => ⟨[(0, ams l), (1, .clo g [.ep [sb nm]]), (7, ints l.length), (8, ints i)], []⟩) (fun i => i <= l.length /\ ∀ j, j < i -> ∀ x, l[j]? = some x -> decide (x.name = nm) = false) (fun i => l.length - i) 0 ⟨b8b _, fun _ h => absurd h (Nat.not_lt_zero _)⟩ (by (repeat first | refine uA ?_ | (refine ⟨?_, ?_⟩; focus first | rfl | simp [slot]) | rfl | simp)) ?_
 rintro i ⟨hi, hm⟩
 simp only [ams, sb, ints]
 (repeat first | refine uA ?_ | (refine uK ?_ ?_; focus first | omega | (intros; simp_all <;> omega)) | simp (disch := omega) only [go_sem, Nat.reduceBEq, Nat.reduceAdd, ww])
 (refine uJ rfl (fun hc => ?_) fun hc => ?_)
 ·have hi' : i < l.length := by omega
  have hgi := b7W hi'
  generalize l[i] = x at hgi
  have hs := hg x
  simp only [Am.c, Am.enc, lks, sb, ints] at hs
  (repeat first | refine uA ?_ | (refine uK ?_ ?_; focus first | omega | (intros; simp_all <;> omega)) | simp (disch := omega) only [go_sem, Nat.reduceBEq, Nat.reduceAdd, ww, hgi, b7Y, b7Z, Am.c, Am.enc, lks, sb, ints, b8m, hcal] | (refine uB hs ?_ ?_; exact rfl))
  refine S.cond rfl (fun hc2 => ?_) (fun hc2 => ?_)
  ·rw [a2t (p := fun x : Am => decide (x.name = nm)) hgi hc2 hm]
   (repeat first | refine uA ?_ | (refine uK ?_ ?_; focus first | omega | (intros; simp_all <;> omega)) | simp (disch := omega) only [go_sem, Nat.reduceBEq, Nat.reduceAdd, ww])
   exact S.done (d9.out rfl (Imp.refl rfl) rfl)
  ·(repeat first | refine uA ?_ | (refine uK ?_ ?_; focus first | omega | (intros; simp_all <;> omega)) | simp (disch := omega) only [go_sem, Nat.reduceBEq, Nat.reduceAdd, ww])
   refine S.next (i + 1) ⟨by omega, fun j hj y hy => ?_⟩ (by omega) (by (repeat first | refine uA ?_ | (refine ⟨?_, ?_⟩; focus first | rfl | simp [slot]) | rfl | simp))
   rcases b8s j i with h1 | h1
   ·exact hm j h1 y hy
   ·have : j = i := by omega
    subst this
    rw [hgi] at hy
    cases hy
    exact hc2
 ·have hi' : i = l.length := by omega
  subst hi'
  rw [a1G hm]
  (repeat first | refine uA ?_ | (refine uK ?_ ?_; focus first | omega | (intros; simp_all <;> omega)) | simp (disch := omega) only [go_sem, Nat.reduceBEq, Nat.reduceAdd, ww])
  exact S.done (d9.out rfl (Imp.refl rfl) rfl)
theorem b5J (x : Am) (nm : List UInt8) : l6 Tryz.prog 93 [x.c, .ep [sb nm]] (.v (.bool (decide (x.name = nm)))) := by
 refine kS Tryz.func93 (by cbv) (by rfl) fun w O => ?_
 simp only [j6, Am.c, Am.enc, lks, sb, ints]
 (repeat first | refine uA ?_ | (refine uK ?_ ?_; focus first | omega | (intros; simp_all <;> omega)) | simp (disch := omega) only [go_sem, Nat.reduceBEq, Nat.reduceAdd, ww, a1y])
 exact S.done (d9.out rfl (Imp.refl rfl) rfl)
theorem b5N (x : Am) (nm : List UInt8) : l6 Tryz.prog 20 [x.c, .ep [sb nm]] (.v (.bool (decide (x.name = nm)))) := by
 refine kS Tryz.func20 (by cbv) (by rfl) fun w O => ?_
 simp only [j6, Am.c, Am.enc, lks, sb, ints]
 (repeat first | refine uA ?_ | (refine uK ?_ ?_; focus first | omega | (intros; simp_all <;> omega)) | simp (disch := omega) only [go_sem, Nat.reduceBEq, Nat.reduceAdd, ww, a1y])
 exact S.done (d9.out rfl (Imp.refl rfl) rfl)
theorem b6Y (w : Wk) (nm : List UInt8) (hn : w.arms.length <= 1099511627776) : l6 Tryz.prog 16 [w.c, sb nm] (a3T (O0 (fun x => decide (x.name = nm)) w.arms)) := by
 refine kS Tryz.func16 (by cbv) (by rfl) fun w' O => ?_
 have hcal : callable Tryz.prog 93 = true := by kernel_rfl
 have h1 := a8D 93 hcal nm w.arms hn fun x => b5J x nm
 have h2 := a7c (O0 (fun x => decide (x.name = nm)) w.arms)
 generalize O0 (fun x : Am => decide (x.name = nm)) w.arms = n at *
 obtain ⟨arms, walls, parts, slots, gates, walk⟩ := w
 unfold a3T at *
 simp only [j6]
 simp only [Wk.c, Wk.enc, ams, wls, pts, sls, gts, sb, ints] at h1 h2 ⊢
 generalize a3d n = a at *
 generalize a3g n = b at *
 (repeat first | refine uA ?_ | (refine uK ?_ ?_; focus first | omega | (intros; simp_all <;> omega)) | simp (disch := omega) only [go_sem, Nat.reduceBEq, Nat.reduceAdd, ww] | (refine uB h2 ?_ ?_; exact rfl) | (refine uC h1 ?_ ?_ ?_; exact rfl; focus (repeat' first | exact l5.nil | exact Imp.refl rfl | exact Imp.O1 | exact Imp.fbx rfl rfl (l5.refl rfl) rfl rfl | refine Imp.clo ?_ | exact Imp.frz rfl rfl rfl | (refine Imp.J6 rfl rfl ?_ ?_; (focus ((try simp only [b7X]); omega)); (focus first | rfl | assumption)) | refine Imp.agg ?_ | refine l5.cons ?_ ?_); done))
 (refine S.done ?_; simp only [z8, r9, go_sem, Nat.reduceBEq, Nat.reduceAdd, Nat.reduceLeDiff, Int.reduceToNat, Int.reducePow]; (repeat (refine ⟨?_, ?_⟩; focus first | trivial | omega | simp)); exact d9.out rfl (Imp.tup (by (repeat' (first | exact l5.nil | exact Imp.refl rfl | exact Imp.frz rfl rfl rfl | exact Imp.O1 | refine Imp.agg ?_ | refine l5.cons ?_ ?_)))) rfl)
theorem a8w (g : Nat) (hcal : callable Tryz.prog g = true) (nm : List UInt8) (l : List Pt) (hn : l.length <= 1099511627776) (hg : ∀ x : Pt, l6 Tryz.prog g [x.c, .ep [sb nm]] (.v (.bool (decide (x.name = nm))))) :
  l6 Tryz.prog 21 [pts l, .clo g [.ep [sb nm]]] (ints (O0 (fun x => decide (x.name = nm)) l)) := by
 refine kS Tryz.func21 (by cbv) (by rfl) fun w O => ?_
 simp only [j6, pts, sb, ints]
 (repeat first | refine uA ?_ | (refine uK ?_ ?_; focus first | omega | (intros; simp_all <;> omega)) | simp (disch := omega) only [go_sem, Nat.reduceBEq, Nat.reduceAdd, ww, b7Z])
 refine S.loop (X := Nat) (fun i => ⟨[(0, pts l), (1, .clo g [.ep [sb nm]]), (7, ints l.length), (8, ints i)], []⟩) (fun i => i <= l.length /\ ∀ j, j < i -> ∀ x, l[j]? = some x -> decide (x.name = nm) = false) (fun i => l.length - i) 0 ⟨b8b _, fun _ h => absurd h (Nat.not_lt_zero _)⟩ (by (repeat first | refine uA ?_ | (refine ⟨?_, ?_⟩; focus first | rfl | simp [slot]) | rfl | simp)) ?_
 rintro i ⟨hi, hm⟩
 simp only [pts, sb, ints]
 (repeat first | refine uA ?_ | (refine uK ?_ ?_; focus first | omega | (intros; simp_all <;> omega)) | simp (disch := omega) only [go_sem, Nat.reduceBEq, Nat.reduceAdd, ww])
 (refine uJ rfl (fun hc => ?_) fun hc => ?_)
 ·have hi' : i < l.length := by omega
  have hgi := b7W hi'
  generalize l[i] = x at hgi
  have hs := hg x
  simp only [Pt.c, Pt.enc, vts, sb, ints] at hs
  (repeat first | refine uA ?_ | (refine uK ?_ ?_; focus first | omega | (intros; simp_all <;> omega)) | simp (disch := omega) only [go_sem, Nat.reduceBEq, Nat.reduceAdd, ww, hgi, b7Y, b7Z, Pt.c, Pt.enc, vts, sb, ints, b8m, hcal] | (refine uB hs ?_ ?_; exact rfl))
  refine S.cond rfl (fun hc2 => ?_) (fun hc2 => ?_)
  ·rw [a2t (p := fun x : Pt => decide (x.name = nm)) hgi hc2 hm]
   (repeat first | refine uA ?_ | (refine uK ?_ ?_; focus first | omega | (intros; simp_all <;> omega)) | simp (disch := omega) only [go_sem, Nat.reduceBEq, Nat.reduceAdd, ww])
   exact S.done (d9.out rfl (Imp.refl rfl) rfl)
  ·(repeat first | refine uA ?_ | (refine uK ?_ ?_; focus first | omega | (intros; simp_all <;> omega)) | simp (disch := omega) only [go_sem, Nat.reduceBEq, Nat.reduceAdd, ww])
   refine S.next (i + 1) ⟨by omega, fun j hj y hy => ?_⟩ (by omega) (by (repeat first | refine uA ?_ | (refine ⟨?_, ?_⟩; focus first | rfl | simp [slot]) | rfl | simp))
   rcases b8s j i with h1 | h1
   ·exact hm j h1 y hy
   ·have : j = i := by omega
    subst this
    rw [hgi] at hy
    cases hy
    exact hc2
 ·have hi' : i = l.length := by omega
  subst hi'
  rw [a1G hm]
  (repeat first | refine uA ?_ | (refine uK ?_ ?_; focus first | omega | (intros; simp_all <;> omega)) | simp (disch := omega) only [go_sem, Nat.reduceBEq, Nat.reduceAdd, ww])
  exact S.done (d9.out rfl (Imp.refl rfl) rfl)
theorem b3P (x : Pt) (nm : List UInt8) : l6 Tryz.prog 94 [x.c, .ep [sb nm]] (.v (.bool (decide (x.name = nm)))) := by
 refine kS Tryz.func94 (by cbv) (by rfl) fun w O => ?_
 simp only [j6, Pt.c, Pt.enc, vts, sb, ints]
 (repeat first | refine uA ?_ | (refine uK ?_ ?_; focus first | omega | (intros; simp_all <;> omega)) | simp (disch := omega) only [go_sem, Nat.reduceBEq, Nat.reduceAdd, ww, a1y])
 exact S.done (d9.out rfl (Imp.refl rfl) rfl)
theorem b3S (x : Pt) (nm : List UInt8) : l6 Tryz.prog 22 [x.c, .ep [sb nm]] (.v (.bool (decide (x.name = nm)))) := by
 refine kS Tryz.func22 (by cbv) (by rfl) fun w O => ?_
 simp only [j6, Pt.c, Pt.enc, vts, sb, ints]
 (repeat first | refine uA ?_ | (refine uK ?_ ?_; focus first | omega | (intros; simp_all <;> omega)) | simp (disch := omega) only [go_sem, Nat.reduceBEq, Nat.reduceAdd, ww, a1y])
 exact S.done (d9.out rfl (Imp.refl rfl) rfl)
theorem b6d (w : Wk) (nm : List UInt8) (hn : w.parts.length <= 1099511627776) : l6 Tryz.prog 17 [w.c, sb nm] (a3T (O0 (fun x => decide (x.name = nm)) w.parts)) := by
 refine kS Tryz.func17 (by cbv) (by rfl) fun w' O => ?_
 have hcal : callable Tryz.prog 94 = true := by kernel_rfl
 have h1 := a8w 94 hcal nm w.parts hn fun x => b3P x nm
 have h2 := a7c (O0 (fun x => decide (x.name = nm)) w.parts)
 generalize O0 (fun x : Pt => decide (x.name = nm)) w.parts = n at *
 obtain ⟨arms, walls, parts, slots, gates, walk⟩ := w
 unfold a3T at *
 simp only [j6]
 simp only [Wk.c, Wk.enc, ams, wls, pts, sls, gts, sb, ints] at h1 h2 ⊢
 generalize a3d n = a at *
 generalize a3g n = b at *
 (repeat first | refine uA ?_ | (refine uK ?_ ?_; focus first | omega | (intros; simp_all <;> omega)) | simp (disch := omega) only [go_sem, Nat.reduceBEq, Nat.reduceAdd, ww] | (refine uB h2 ?_ ?_; exact rfl) | (refine uC h1 ?_ ?_ ?_; exact rfl; focus (repeat' first | exact l5.nil | exact Imp.refl rfl | exact Imp.O1 | exact Imp.fbx rfl rfl (l5.refl rfl) rfl rfl | refine Imp.clo ?_ | exact Imp.frz rfl rfl rfl | (refine Imp.J6 rfl rfl ?_ ?_; (focus ((try simp only [b7X]); omega)); (focus first | rfl | assumption)) | refine Imp.agg ?_ | refine l5.cons ?_ ?_); done))
 (refine S.done ?_; simp only [z8, r9, go_sem, Nat.reduceBEq, Nat.reduceAdd, Nat.reduceLeDiff, Int.reduceToNat, Int.reducePow]; (repeat (refine ⟨?_, ?_⟩; focus first | trivial | omega | simp)); exact d9.out rfl (Imp.tup (by (repeat' (first | exact l5.nil | exact Imp.refl rfl | exact Imp.frz rfl rfl rfl | exact Imp.O1 | refine Imp.agg ?_ | refine l5.cons ?_ ?_)))) rfl)
theorem a8p (g : Nat) (hcal : callable Tryz.prog g = true) (nm : List UInt8) (l : List Sl) (hn : l.length <= 1099511627776) (hg : ∀ x : Sl, l6 Tryz.prog g [x.c, .ep [sb nm]] (.v (.bool (decide (x.name = nm))))) :
  l6 Tryz.prog 23 [sls l, .clo g [.ep [sb nm]]] (ints (O0 (fun x => decide (x.name = nm)) l)) := by
 refine kS Tryz.func23 (by cbv) (by rfl) fun w O => ?_
 simp only [j6, sls, sb, ints]
 (repeat first | refine uA ?_ | (refine uK ?_ ?_; focus first | omega | (intros; simp_all <;> omega)) | simp (disch := omega) only [go_sem, Nat.reduceBEq, Nat.reduceAdd, ww, b7Z])
 refine S.loop (X := Nat) (fun i => ⟨[(0, sls l), (1, .clo g [.ep [sb nm]]), (7, ints l.length), (8, ints i)], []⟩) (fun i => i <= l.length /\ ∀ j, j < i -> ∀ x, l[j]? = some x -> decide (x.name = nm) = false) (fun i => l.length - i) 0 ⟨b8b _, fun _ h => absurd h (Nat.not_lt_zero _)⟩ (by (repeat first | refine uA ?_ | (refine ⟨?_, ?_⟩; focus first | rfl | simp [slot]) | rfl | simp)) ?_
 rintro i ⟨hi, hm⟩
 simp only [sls, sb, ints]
 (repeat first | refine uA ?_ | (refine uK ?_ ?_; focus first | omega | (intros; simp_all <;> omega)) | simp (disch := omega) only [go_sem, Nat.reduceBEq, Nat.reduceAdd, ww])
 (refine uJ rfl (fun hc => ?_) fun hc => ?_)
 ·have hi' : i < l.length := by omega
  have hgi := b7W hi'
  generalize l[i] = x at hgi
  have hs := hg x
  simp only [Sl.c, Sl.enc, sb, ints] at hs
  (repeat first | refine uA ?_ | (refine uK ?_ ?_; focus first | omega | (intros; simp_all <;> omega)) | simp (disch := omega) only [go_sem, Nat.reduceBEq, Nat.reduceAdd, ww, hgi, b7Y, b7Z, Sl.c, Sl.enc, sb, ints, b8m, hcal] | (refine uB hs ?_ ?_; exact rfl))
  refine S.cond rfl (fun hc2 => ?_) (fun hc2 => ?_)
  ·rw [a2t (p := fun x : Sl => decide (x.name = nm)) hgi hc2 hm]
   (repeat first | refine uA ?_ | (refine uK ?_ ?_; focus first | omega | (intros; simp_all <;> omega)) | simp (disch := omega) only [go_sem, Nat.reduceBEq, Nat.reduceAdd, ww])
   exact S.done (d9.out rfl (Imp.refl rfl) rfl)
  ·(repeat first | refine uA ?_ | (refine uK ?_ ?_; focus first | omega | (intros; simp_all <;> omega)) | simp (disch := omega) only [go_sem, Nat.reduceBEq, Nat.reduceAdd, ww])
   refine S.next (i + 1) ⟨by omega, fun j hj y hy => ?_⟩ (by omega) (by (repeat first | refine uA ?_ | (refine ⟨?_, ?_⟩; focus first | rfl | simp [slot]) | rfl | simp))
   rcases b8s j i with h1 | h1
   ·exact hm j h1 y hy
   ·have : j = i := by omega
    subst this
    rw [hgi] at hy
    cases hy
    exact hc2
 ·have hi' : i = l.length := by omega
  subst hi'
  rw [a1G hm]
  (repeat first | refine uA ?_ | (refine uK ?_ ?_; focus first | omega | (intros; simp_all <;> omega)) | simp (disch := omega) only [go_sem, Nat.reduceBEq, Nat.reduceAdd, ww])
  exact S.done (d9.out rfl (Imp.refl rfl) rfl)
theorem b3K (x : Sl) (nm : List UInt8) : l6 Tryz.prog 95 [x.c, .ep [sb nm]] (.v (.bool (decide (x.name = nm)))) := by
 refine kS Tryz.func95 (by cbv) (by rfl) fun w O => ?_
 simp only [j6, Sl.c, Sl.enc, sb, ints]
 (repeat first | refine uA ?_ | (refine uK ?_ ?_; focus first | omega | (intros; simp_all <;> omega)) | simp (disch := omega) only [go_sem, Nat.reduceBEq, Nat.reduceAdd, ww, a1y])
 exact S.done (d9.out rfl (Imp.refl rfl) rfl)
theorem b4a (x : Sl) (nm : List UInt8) : l6 Tryz.prog 24 [x.c, .ep [sb nm]] (.v (.bool (decide (x.name = nm)))) := by
 refine kS Tryz.func24 (by cbv) (by rfl) fun w O => ?_
 simp only [j6, Sl.c, Sl.enc, sb, ints]
 (repeat first | refine uA ?_ | (refine uK ?_ ?_; focus first | omega | (intros; simp_all <;> omega)) | simp (disch := omega) only [go_sem, Nat.reduceBEq, Nat.reduceAdd, ww, a1y])
 exact S.done (d9.out rfl (Imp.refl rfl) rfl)
theorem b5F (w : Wk) (nm : List UInt8) (hn : w.slots.length <= 1099511627776) : l6 Tryz.prog 18 [w.c, sb nm] (a3T (O0 (fun x => decide (x.name = nm)) w.slots)) := by
 refine kS Tryz.func18 (by cbv) (by rfl) fun w' O => ?_
 have hcal : callable Tryz.prog 95 = true := by kernel_rfl
 have h1 := a8p 95 hcal nm w.slots hn fun x => b3K x nm
 have h2 := a7c (O0 (fun x => decide (x.name = nm)) w.slots)
 generalize O0 (fun x : Sl => decide (x.name = nm)) w.slots = n at *
 obtain ⟨arms, walls, parts, slots, gates, walk⟩ := w
 unfold a3T at *
 simp only [j6]
 simp only [Wk.c, Wk.enc, ams, wls, pts, sls, gts, sb, ints] at h1 h2 ⊢
 generalize a3d n = a at *
 generalize a3g n = b at *
 (repeat first | refine uA ?_ | (refine uK ?_ ?_; focus first | omega | (intros; simp_all <;> omega)) | simp (disch := omega) only [go_sem, Nat.reduceBEq, Nat.reduceAdd, ww] | (refine uB h2 ?_ ?_; exact rfl) | (refine uC h1 ?_ ?_ ?_; exact rfl; focus (repeat' first | exact l5.nil | exact Imp.refl rfl | exact Imp.O1 | exact Imp.fbx rfl rfl (l5.refl rfl) rfl rfl | refine Imp.clo ?_ | exact Imp.frz rfl rfl rfl | (refine Imp.J6 rfl rfl ?_ ?_; (focus ((try simp only [b7X]); omega)); (focus first | rfl | assumption)) | refine Imp.agg ?_ | refine l5.cons ?_ ?_); done))
 (refine S.done ?_; simp only [z8, r9, go_sem, Nat.reduceBEq, Nat.reduceAdd, Nat.reduceLeDiff, Int.reduceToNat, Int.reducePow]; (repeat (refine ⟨?_, ?_⟩; focus first | trivial | omega | simp)); exact d9.out rfl (Imp.tup (by (repeat' (first | exact l5.nil | exact Imp.refl rfl | exact Imp.frz rfl rfl rfl | exact Imp.O1 | refine Imp.agg ?_ | refine l5.cons ?_ ?_)))) rfl)
theorem b3w {α : Type} (p : α -> Bool) (a b c d e : α) : [a, b, c, d, e].all p = (p a && p b && p c && p d && p e) := by simp [Bool.and_assoc]
theorem a7w {α : Type} (p : α -> Bool) (a b c : α) : [a, b, c].all p = (p a && p b && p c) := by simp [Bool.and_assoc]
theorem a6E {α : Type} (p : α -> Bool) (a b : α) : [a, b].all p = (p a && p b) := by simp
theorem Rbs.five {k : Nat} {a b c d e : Nm.Rt} (h : 5 <= k) (h1 : Rb k a) (h2 : Rb k b) (h3 : Rb k c) (h4 : Rb k d) (h5 : Rb k e) : Rbs k [a, b, c, d, e] := ⟨h, fun x hx => by simp at hx; rcases hx with rfl | rfl | rfl | rfl | rfl <;> assumption⟩
theorem Rbs.three {k : Nat} {a b c : Nm.Rt} (h : 3 <= k) (h1 : Rb k a) (h2 : Rb k b) (h3 : Rb k c) : Rbs k [a, b, c] := ⟨h, fun x hx => by simp at hx; rcases hx with rfl | rfl | rfl <;> assumption⟩
theorem Rbs.two {k : Nat} {a b : Nm.Rt} (h : 2 <= k) (h1 : Rb k a) (h2 : Rb k b) : Rbs k [a, b] := ⟨h, fun x hx => by simp at hx; rcases hx with rfl | rfl <;> assumption⟩
theorem b5z (l : Lk) (hl : Lb 1073741824 l) : FZ 142 [l.c] (ints (a0r l)) := by
  refine kW Tryz.func142 (by cbv) (by rfl) fun w O hw => ?_
  obtain ⟨length, low, high, speed, brake, shape⟩ := l
  obtain ⟨b1, b2, b3, b4, b5, b6⟩ := hl
  simp only at b1 b2 b3 b4 b5 b6
  have c1 := b1.mono (m := 17179869184) (by decide)
  have c2 := b2.mono (m := 17179869184) (by decide)
  have c3 := b3.mono (m := 17179869184) (by decide)
  have c4 := b4.mono (m := 17179869184) (by decide)
  have c5 := b5.mono (m := 17179869184) (by decide)
  have hsm := a5G _ (Rbs.five (by decide) c1 c2 c3 c4 c5)
  rw [b3w] at hsm
  have hs1 := R4 length c1
  have hcm := a3j low high c2 c3
  have hs2 := R4 speed c4
  have hs3 := R4 brake c5
  have hp := a2X shape b6
  have hv := fun (v : Vt) (h : v ∈ shape) => a5G _ (Rbs.two (by decide) ((b6.2 v h).1.mono (m := 17179869184) (by decide)) ((b6.2 v h).2.mono (m := 17179869184) (by decide)))
  have hn := b6.1
  unfold a0r
  simp only
  generalize (j4 length && j4 low && j4 high && j4 speed && j4 brake) = q at *
  generalize D6 (Nm.j5 length) = n1 at *
  generalize Nm.G5 (Nm.j5 low) (Nm.j5 high) = n2 at *
  generalize D6 (Nm.j5 speed) = n3 at *
  generalize D6 (Nm.j5 brake) = n4 at *
  generalize P7 shape 8 = n5 at *
  simp only [j6]
  simp only [Lk.c, Lk.enc, rc, rts, rcs, vts, sb, ints, b8y, b8E] at *
  (repeat first | refine uG hs1 ?_ | refine uG hcm ?_ | refine uG hsm ?_ | refine uA ?_ | (refine uK ?_ ?_; focus first | omega | (intros; simp_all <;> omega)) | simp (disch := omega) only [go_sem, Nat.reduceBEq, Nat.reduceAdd, ww] | (refine uD hs1 ?_ ?_ ?_; exact tz hw; exact rfl) | (refine uD hcm ?_ ?_ ?_; exact tz hw; exact rfl) | (refine uE hsm ?_ ?_ ?_ ?_; exact tz hw; exact rfl; focus (repeat' first | exact l5.nil | exact Imp.refl rfl | exact Imp.frz rfl rfl rfl | (refine Imp.J6 rfl rfl ?_ ?_; (focus ((try simp only [b7X]); omega)); (focus first | rfl | assumption)) | refine l5.cons ?_ ?_); done))
  refine S.cond rfl (fun hc => ?_) (fun hc => ?_)
  · rw [if_pos (by simp only [b8N, Bool.not_eq_true', b8o] at hc; rcases hc with (hc | hc) | hc <;> simp [hc])]
    (repeat first | refine uA ?_ | (refine uK ?_ ?_; focus first | omega | (intros; simp_all <;> omega)) | simp (disch := omega) only [go_sem, Nat.reduceBEq, Nat.reduceAdd, ww])
    exact S.done (d9.out rfl (Imp.refl rfl) rfl)
  rw [if_neg (by simp only [b8J, Bool.not_eq_false', b8v] at hc; simp [hc])]
  (repeat first | refine uG hs2 ?_ | refine uG hs3 ?_ | refine uA ?_ | (refine uK ?_ ?_; focus first | omega | (intros; simp_all <;> omega)) | simp (disch := omega) only [go_sem, Nat.reduceBEq, Nat.reduceAdd, ww] | (refine uD hs2 ?_ ?_ ?_; exact tz hw; exact rfl) | (refine uD hs3 ?_ ?_ ?_; exact tz hw; exact rfl))
  refine S.cond rfl (fun hc => ?_) (fun hc => ?_)
  · rw [if_pos (by simp only [b8N, b8o] at hc; exact hc)]
    (repeat first | refine uA ?_ | (refine uK ?_ ?_; focus first | omega | (intros; simp_all <;> omega)) | simp (disch := omega) only [go_sem, Nat.reduceBEq, Nat.reduceAdd, ww])
    exact S.done (d9.out rfl (Imp.refl rfl) rfl)
  rw [if_neg (by simp only [b8J, b8v] at hc; simp [hc])]
  (repeat first | refine uG hp ?_ | refine uA ?_ | (refine uK ?_ ?_; focus first | omega | (intros; simp_all <;> omega)) | simp (disch := omega) only [go_sem, Nat.reduceBEq, Nat.reduceAdd, ww] | (refine uD hp ?_ ?_ ?_; exact tz hw; exact rfl))
  refine S.cond rfl (fun hc => ?_) (fun hc => ?_)
  · rw [if_pos (by simpa using hc)]
    (repeat first | refine uA ?_ | (refine uK ?_ ?_; focus first | omega | (intros; simp_all <;> omega)) | simp (disch := omega) only [go_sem, Nat.reduceBEq, Nat.reduceAdd, ww])
    exact S.done (d9.out rfl (Imp.refl rfl) rfl)
  rw [if_neg (by simpa using hc)]
  (repeat first | refine uA ?_ | (refine uK ?_ ?_; focus first | omega | (intros; simp_all <;> omega)) | simp (disch := omega) only [go_sem, Nat.reduceBEq, Nat.reduceAdd, ww, b7Z])
  refine S.loop (X := Nat) (fun i => ⟨[(50, vts shape), (51, ints shape.length), (52, ints i)], []⟩) (fun i => i <= shape.length /\ (shape.all fun v => j4 v.x && j4 v.y) = (shape.drop i).all fun v => j4 v.x && j4 v.y) (fun i => shape.length - i) 0 ⟨b8b _, rfl⟩ (by (repeat first | refine uA ?_ | (refine ⟨?_, ?_⟩; focus first | rfl | simp [slot]) | rfl | simp)) ?_
  rintro i ⟨hi, hg⟩
  simp only [vts, ints]
  (repeat first | refine uA ?_ | (refine uK ?_ ?_; focus first | omega | (intros; simp_all <;> omega)) | simp (disch := omega) only [go_sem, Nat.reduceBEq, Nat.reduceAdd, ww])
  (refine uJ rfl (fun hc => ?_) fun hc => ?_)
  · have hi' : i < shape.length := by omega
    have hgi := b7W hi'
    generalize shape[i] = x at hgi
    have hd := drop_at hgi
    have hs := hv x (b8c hgi)
    rw [a6E] at hs
    (repeat first | refine uG hs ?_ | refine uA ?_ | (refine uK ?_ ?_; focus first | omega | (intros; simp_all <;> omega)) | simp (disch := omega) only [go_sem, Nat.reduceBEq, Nat.reduceAdd, ww, hgi, b7Y, b7Z, Vt.enc, sb] | (refine uE hs ?_ ?_ ?_ ?_; exact tz hw; exact rfl; focus (repeat' first | exact l5.nil | exact Imp.refl rfl | exact Imp.frz rfl rfl rfl | (refine Imp.J6 rfl rfl ?_ ?_; (focus ((try simp only [b7X, hgi, b7Y, b7Z, Vt.enc, sb]); omega)); (focus first | rfl | assumption)) | refine l5.cons ?_ ?_); done))
    refine S.cond rfl (fun hc2 => ?_) (fun hc2 => ?_)
    · have : (shape.all fun v => j4 v.x && j4 v.y) = false := by
        rw [hg, hd, List.all_cons]
        simp only [Bool.not_eq_true'] at hc2
        rw [hc2]; rfl
      rw [this]
      (repeat first | refine uA ?_ | (refine uK ?_ ?_; focus first | omega | (intros; simp_all <;> omega)) | simp (disch := omega) only [go_sem, Nat.reduceBEq, Nat.reduceAdd, ww])
      exact S.done (d9.out rfl (Imp.refl rfl) rfl)
    · (repeat first | refine uA ?_ | (refine uK ?_ ?_; focus first | omega | (intros; simp_all <;> omega)) | simp (disch := omega) only [go_sem, Nat.reduceBEq, Nat.reduceAdd, ww])
      refine S.next (i + 1) ⟨by omega, ?_⟩ (by omega) (by (repeat first | refine uA ?_ | (refine ⟨?_, ?_⟩; focus first | rfl | simp [slot]) | rfl | simp))
      rw [hg, hd, List.all_cons]
      simp only [Bool.not_eq_false'] at hc2
      rw [hc2]; rfl
  · have : (shape.all fun v => j4 v.x && j4 v.y) = true := by rw [hg, List.drop_eq_nil_of_le (by omega)]; rfl
    rw [this]
    (repeat first | refine uA ?_ | (refine uK ?_ ?_; focus first | omega | (intros; simp_all <;> omega)) | simp (disch := omega) only [go_sem, Nat.reduceBEq, Nat.reduceAdd, ww])
    exact S.done (d9.out rfl (Imp.refl rfl) rfl)
theorem b3k (a : Am) (hl : Ab 1073741824 a) : FZ 49 [a.c] (ints (a0I a)) := by
 refine kW Tryz.func49 (by cbv) (by rfl) fun w O hw => ?_
 obtain ⟨name, ⟨x, y, half, t⟩, links⟩ := a
 obtain ⟨b0, ⟨b1, b2, b3⟩, hn, hb⟩ := hl
 simp only at b0 b1 b2 b3 hn hb
 have c1 := b1.mono (m := 17179869184) (by decide)
 have c2 := b2.mono (m := 17179869184) (by decide)
 have c3 := b3.mono (m := 17179869184) (by decide)
 have hnm := b3Y name (by omega)
 have hsm := a5G _ (Rbs.three (by decide) c1 c2 c3)
 rw [a7w] at hsm
 have hs := R4 t c3
 unfold a0I a3G
 simp only
 generalize Q7 name = q0 at *
 generalize (j4 x && j4 y && j4 t) = q at *
 generalize D6 (Nm.j5 t) = n1 at *
 simp only [j6]
 simp only [Am.c, Am.enc, rc, rts, rcs, lks, sb, ints, b8y, b8E] at *
 (repeat first | refine uF hnm ?_ | refine uA ?_ | (refine uK ?_ ?_; focus first | omega | (intros; simp_all <;> omega)) | simp (disch := omega) only [go_sem, Nat.reduceBEq, Nat.reduceAdd, ww] | (refine uB hnm ?_ ?_; exact rfl))
 refine S.cond rfl (fun hc => ?_) (fun hc => ?_)
 ·rw [if_pos (by simpa using hc)]
  (repeat first | refine uA ?_ | (refine uK ?_ ?_; focus first | omega | (intros; simp_all <;> omega)) | simp (disch := omega) only [go_sem, Nat.reduceBEq, Nat.reduceAdd, ww])
  exact S.done (d9.out rfl (Imp.refl rfl) rfl)
 rw [if_neg (by simpa using hc)]
 (repeat first | refine uA ?_ | (refine uK ?_ ?_; focus first | omega | (intros; simp_all <;> omega)) | simp (disch := omega) only [go_sem, Nat.reduceBEq, Nat.reduceAdd, ww, b7Z])
 refine S.cond rfl (fun hc => ?_) (fun hc => ?_)
 ·rw [if_pos (by simp only [b8o] at hc; omega)]
  (repeat first | refine uA ?_ | (refine uK ?_ ?_; focus first | omega | (intros; simp_all <;> omega)) | simp (disch := omega) only [go_sem, Nat.reduceBEq, Nat.reduceAdd, ww])
  exact S.done (d9.out rfl (Imp.refl rfl) rfl)
 rw [if_neg (by simp only [b8v] at hc; omega)]
 by_cases h0 : links.length = 0
 ·rw [if_pos (.inl h0)]
  have e0 : decide ((links.length : Int) = 0) = true := decide_eq_true (by omega)
  (repeat first | refine uG hs ?_ | refine uG hsm ?_ | refine uA ?_ | (refine uK ?_ ?_; focus first | omega | (intros; simp_all <;> omega)) | simp (disch := omega) only [go_sem, Nat.reduceBEq, Nat.reduceAdd, ww, b7Z, e0] | (refine uD hs ?_ ?_ ?_; exact tz hw; exact rfl) | (refine uE hsm ?_ ?_ ?_ ?_; exact tz hw; exact rfl; focus (repeat' first | exact l5.nil | exact Imp.refl rfl | exact Imp.frz rfl rfl rfl | (refine Imp.J6 rfl rfl ?_ ?_; (focus ((try simp only [b7X, b7Z, e0]); omega)); (focus first | rfl | assumption)) | refine l5.cons ?_ ?_); done))
  refine S.cond rfl (fun _ => ?_) (fun hc => by simp at hc)
  (repeat first | refine uA ?_ | (refine uK ?_ ?_; focus first | omega | (intros; simp_all <;> omega)) | simp (disch := omega) only [go_sem, Nat.reduceBEq, Nat.reduceAdd, ww])
  exact S.done (d9.out rfl (Imp.refl rfl) rfl)
 have e0 : decide ((links.length : Int) = 0) = false := decide_eq_false (by omega)
 (repeat first | refine uG hs ?_ | refine uG hsm ?_ | refine uA ?_ | (refine uK ?_ ?_; focus first | omega | (intros; simp_all <;> omega)) | simp (disch := omega) only [go_sem, Nat.reduceBEq, Nat.reduceAdd, ww, b7Z, e0] | (refine uD hs ?_ ?_ ?_; exact tz hw; exact rfl) | (refine uE hsm ?_ ?_ ?_ ?_; exact tz hw; exact rfl; focus (repeat' first | exact l5.nil | exact Imp.refl rfl | exact Imp.frz rfl rfl rfl | (refine Imp.J6 rfl rfl ?_ ?_; (focus ((try simp only [b7X, b7Z, e0]); omega)); (focus first | rfl | assumption)) | refine l5.cons ?_ ?_); done))
 refine S.cond rfl (fun hc => ?_) (fun hc => ?_)
 ·rw [if_pos (by simp only [b8N, Bool.not_eq_true', b8o] at hc; rcases hc with hc | hc; (· exact .inr (.inl hc)); (· exact .inr (.inr (by cases half <;> simp_all))))]
  (repeat first | refine uA ?_ | (refine uK ?_ ?_; focus first | omega | (intros; simp_all <;> omega)) | simp (disch := omega) only [go_sem, Nat.reduceBEq, Nat.reduceAdd, ww])
  exact S.done (d9.out rfl (Imp.refl rfl) rfl)
 rw [if_neg (by simp only [b8J, Bool.not_eq_false', b8v] at hc; rintro (h | h | h); (· omega); (· simp_all); (· cases half <;> simp_all))]
 (repeat first | refine uA ?_ | (refine uK ?_ ?_; focus first | omega | (intros; simp_all <;> omega)) | simp (disch := omega) only [go_sem, Nat.reduceBEq, Nat.reduceAdd, ww, b7Z])
 refine S.loop (X := Nat) (fun i => ⟨[(48, lks links), (49, ints links.length), (50, ints i)], []⟩) (fun i => i <= links.length /\ F6 a0r links = F6 a0r (links.drop i)) (fun i => links.length - i) 0 ⟨b8b _, rfl⟩ (by (repeat first | refine uA ?_ | (refine ⟨?_, ?_⟩; focus first | rfl | simp [slot]) | rfl | simp)) ?_
 rintro i ⟨hi, hg⟩
 simp only [lks, ints]
 (repeat first | refine uA ?_ | (refine uK ?_ ?_; focus first | omega | (intros; simp_all <;> omega)) | simp (disch := omega) only [go_sem, Nat.reduceBEq, Nat.reduceAdd, ww])
 (refine uJ rfl (fun hc => ?_) fun hc => ?_)
 ·have hi' : i < links.length := by omega
  have hgi := b7W hi'
  generalize links[i] = x at hgi
  have hst := a1z (f := a0r) hgi
  have hnx := a1v (f := a0r) hgi
  have hs := b5z x (hb x (b8c hgi))
  generalize a0r x = e at *
  simp only [Lk.c, Lk.enc, vts, sb, ints] at hs
  (repeat first | refine uG hs ?_ | refine uA ?_ | (refine uK ?_ ?_; focus first | omega | (intros; simp_all <;> omega)) | simp (disch := omega) only [go_sem, Nat.reduceBEq, Nat.reduceAdd, ww, hgi, b7Y, b7Z, Lk.enc, vts, sb] | (refine uD hs ?_ ?_ ?_; exact tz hw; exact rfl))
  refine S.cond rfl (fun hc2 => ?_) (fun hc2 => ?_)
  ·rw [hg, hst (by simpa using hc2)]
   (repeat first | refine uA ?_ | (refine uK ?_ ?_; focus first | omega | (intros; simp_all <;> omega)) | simp (disch := omega) only [go_sem, Nat.reduceBEq, Nat.reduceAdd, ww])
   exact S.done (d9.out rfl (Imp.refl rfl) rfl)
  ·(repeat first | refine uA ?_ | (refine uK ?_ ?_; focus first | omega | (intros; simp_all <;> omega)) | simp (disch := omega) only [go_sem, Nat.reduceBEq, Nat.reduceAdd, ww])
   refine S.next (i + 1) ⟨by omega, ?_⟩ (by omega) (by (repeat first | refine uA ?_ | (refine ⟨?_, ?_⟩; focus first | rfl | simp [slot]) | rfl | simp))
   rw [hg, hnx (by simpa using hc2)]
 ·rw [hg, a1W (by omega)]
  (repeat first | refine uA ?_ | (refine uK ?_ ?_; focus first | omega | (intros; simp_all <;> omega)) | simp (disch := omega) only [go_sem, Nat.reduceBEq, Nat.reduceAdd, ww])
  exact S.done (d9.out rfl (Imp.refl rfl) rfl)
theorem b2g (v : Vt) (hv : Vb 17179869184 v) : FZ 137 [v.c] (.v (.bool (!okV v))) := by
 refine kW Tryz.func137 (by cbv) (by rfl) fun w O hw => ?_
 obtain ⟨x, y⟩ := v
 obtain ⟨b1, b2⟩ := hv
 simp only at b1 b2
 have h1 := a1K x (b1.mono (by decide))
 have h2 := a1K y (b2.mono (by decide))
 have h3 := a1u x b1
 have h4 := a1u y b2
 unfold okV
 simp only
 generalize decide x.D8 = q1 at *
 generalize decide y.D8 = q2 at *
 generalize j4 x = q3 at *
 generalize j4 y = q4 at *
 simp only [j6]
 simp only [Vt.c, Vt.enc, rc, sb] at *
 (repeat first | refine uA ?_ | (refine uK ?_ ?_; focus first | omega | (intros; simp_all <;> omega)) | simp (disch := omega) only [go_sem, Nat.reduceBEq, Nat.reduceAdd, ww] | (refine uD h1 ?_ ?_ ?_; exact tz hw; exact rfl) | (refine uD h2 ?_ ?_ ?_; exact tz hw; exact rfl) | (refine uD h3 ?_ ?_ ?_; exact tz hw; exact rfl) | (refine uD h4 ?_ ?_ ?_; exact tz hw; exact rfl))
 have e : (!(q1 && q2 && q3 && q4)) = (!q1 || !q2 || !q3 || !q4) := by cases q1 <;> cases q2 <;> cases q3 <;> cases q4 <;> rfl
 (try rw [e])
 exact S.done (d9.out rfl (Imp.refl rfl) rfl)
theorem a5C (l : List Vt) (hl : Vbs 17179869184 l) : FZ 44 [vts l] (.v (.bool (l.all okV))) := by
 refine kW Tryz.func44 (by cbv) (by rfl) fun w O hw => ?_
 have h := b4l 137 (by kernel_rfl) (fun v => !okV v) l (by have := hl.1; omega) (fun v hv => b2g v (hl.2 v hv))
 have e : l.all okV = !l.any fun v => !okV v := by rw [List.not_any_eq_all_not]; simp
 rw [e]
 generalize (l.any fun v => !okV v) = q at *
 simp only [j6]
 simp only [vts] at *
 (repeat first | refine uA ?_ | (refine uK ?_ ?_; focus first | omega | (intros; simp_all <;> omega)) | simp (disch := omega) only [go_sem, Nat.reduceBEq, Nat.reduceAdd, ww] | (refine uD h ?_ ?_ ?_; exact tz hw; exact rfl))
 exact S.done (d9.out rfl (Imp.refl rfl) rfl)
theorem Vbs.one {k : Nat} {v : Vt} (h : 1 <= k) (h1 : Vb k v) : Vbs k [v] := ⟨h, fun x hx => by simp at hx; subst hx; exact h1⟩
theorem Vbs.two {k : Nat} {v u : Vt} (h : 2 <= k) (h1 : Vb k v) (h2 : Vb k u) : Vbs k [v, u] := ⟨h, fun x hx => by simp at hx; rcases hx with rfl | rfl <;> assumption⟩
theorem a5I (f : Fr) (hf : Fb 17179869184 f) : FZ 9 [f.c] (.v (.bool (okF f))) := by
 refine kW Tryz.func9 (by cbv) (by rfl) fun w O hw => ?_
 obtain ⟨x, y, half, t⟩ := f
 obtain ⟨b1, b2, b3⟩ := hf
 simp only at b1 b2 b3
 have h1 := a5C [⟨x, y⟩] (Vbs.one (by decide) ⟨b1, b2⟩)
 rw [List.all_cons, List.all_nil, Bool.and_true] at h1
 have h2 := a1K t (b3.mono (by decide))
 have h3 := a1u t b3
 have h4 := R4 t b3
 unfold okF a3G
 simp only
 generalize okV ⟨x, y⟩ = q1 at *
 generalize decide t.D8 = q2 at *
 generalize j4 t = q3 at *
 generalize D6 (Nm.j5 t) = n at *
 simp only [j6]
 simp only [Fr.c, Fr.enc, vts, Vt.enc, rc, sb, ints, b8y, b8E] at *
 (repeat first | refine uA ?_ | (refine uK ?_ ?_; focus first | omega | (intros; simp_all <;> omega)) | simp (disch := omega) only [go_sem, Nat.reduceBEq, Nat.reduceAdd, ww] | (refine uD h2 ?_ ?_ ?_; exact tz hw; exact rfl) | (refine uD h3 ?_ ?_ ?_; exact tz hw; exact rfl) | (refine uD h4 ?_ ?_ ?_; exact tz hw; exact rfl) | (refine uE h1 ?_ ?_ ?_ ?_; exact tz hw; exact rfl; focus (repeat' first | exact l5.nil | exact Imp.refl rfl | exact Imp.frz rfl rfl rfl | (refine Imp.J6 rfl rfl ?_ ?_; (focus ((try simp only [b7X]); omega)); (focus first | rfl | assumption)) | refine l5.cons ?_ ?_); done))
 have e : (q1 && q2 && q3 && !(half && !decide (n = 0))) = (q1 && q2 && q3 && (!half || decide (n = 0))) := by cases q1 <;> cases q2 <;> cases q3 <;> cases half <;> simp
 rw [e]
 exact S.done (d9.out rfl (Imp.refl (by rfl)) rfl)
theorem a9B (l : List Vt) (hl : Vbs 1073741824 l) : FZ 53 [vts l] (ints (I9 l)) := by
 refine kW Tryz.func53 (by cbv) (by rfl) fun w O hw => ?_
 have h1 := a2X l hl
 have h2 := a5C l ⟨by have := hl.1; omega, fun v hv => (hl.2 v hv).mono (by decide)⟩
 unfold I9
 generalize P7 l 8 = e at *
 generalize l.all okV = q at *
 simp only [j6]
 simp only [vts, ints] at *
 (repeat first | refine uA ?_ | (refine uK ?_ ?_; focus first | omega | (intros; simp_all <;> omega)) | simp (disch := omega) only [go_sem, Nat.reduceBEq, Nat.reduceAdd, ww] | (refine uD h1 ?_ ?_ ?_; exact tz hw; exact rfl))
 refine S.cond rfl (fun hc => ?_) (fun hc => ?_)
 ·rw [if_pos (by simpa using hc)]
  (repeat first | refine uA ?_ | (refine uK ?_ ?_; focus first | omega | (intros; simp_all <;> omega)) | simp (disch := omega) only [go_sem, Nat.reduceBEq, Nat.reduceAdd, ww])
  exact S.done (d9.out rfl (Imp.refl rfl) rfl)
 rw [if_neg (by simpa using hc)]
 (repeat first | refine uA ?_ | (refine uK ?_ ?_; focus first | omega | (intros; simp_all <;> omega)) | simp (disch := omega) only [go_sem, Nat.reduceBEq, Nat.reduceAdd, ww] | (refine uD h2 ?_ ?_ ?_; exact tz hw; exact rfl))
 refine S.cond rfl (fun hc => ?_) (fun hc => ?_)
 ·rw [if_neg (by simpa using hc)]
  (repeat first | refine uA ?_ | (refine uK ?_ ?_; focus first | omega | (intros; simp_all <;> omega)) | simp (disch := omega) only [go_sem, Nat.reduceBEq, Nat.reduceAdd, ww])
  exact S.done (d9.out rfl (Imp.refl rfl) rfl)
 ·rw [if_pos (by simpa using hc)]
  (repeat first | refine uA ?_ | (refine uK ?_ ?_; focus first | omega | (intros; simp_all <;> omega)) | simp (disch := omega) only [go_sem, Nat.reduceBEq, Nat.reduceAdd, ww])
  exact S.done (d9.out rfl (Imp.refl rfl) rfl)
end Go.Proofs.YtpjjiegfigpgnaaGreatDoor
namespace Go.Proofs.YtpjjiegfigpgnaaGreatDoor.Eng
open Go Go.RowKit
theorem l7.ofT {E : Ctx} {eff : Nat -> Bool} {f : Nat} {fn : Func} {ir : a1q} (ht : Tz E) (hf : E.P.funcs[f]? = some fn) (hc : Z4 eff E.P fn = some ir) {rs : List Res} {args : List C} {s : C} {rs' : List Res} {pk : List Nat} (hn : args.length <= ir.ntmps)
  (h : ∀ w own av ν, ν.length = rs.length -> Tz ⟨E.P, eff, ir.ntmps, w, own, av, ν, pk⟩ -> S ⟨E.P, eff, ir.ntmps, w, own, av, ν, pk⟩ (Fin E.P ir.results (b1u ⟨E.P, eff, ir.ntmps, w, own, av, ν, pk⟩ rs' s)) ⟨j6 0 args, rs⟩ [.code ir.body]) : l7 E rs f args s rs' pk := by
 intro av ν w vs hR hav hF hD
 have hR' : RG av (owned rs ν) w.heap.size ν rs w := ⟨hR.len, hR.res, hR.dis, fun b hb => ⟨(hR.low b hb).1, (hR.low b hb).2.1, .inl hb⟩, hR.av, b8f _⟩
 have ht' : Tz ⟨E.P, eff, ir.ntmps, w, owned rs ν, av, ν, pk⟩ := ⟨ht.at hF, fun ho => by
  rcases (hR.low _ ho).2.2 with h1 | h1
  ·exact ht.2 h1
  ·have := b4O ht.1; omega⟩
 refine (a8t (E := ⟨E.P, eff, ir.ntmps, w, owned rs ν, av, ν, pk⟩) hf hc rfl rfl hR.av rs hR' args hD hn (h w (owned rs ν) av ν hR.len ht')).mono ?_
 rintro e w' ⟨y, rfl, ν', h1, h2, h3, h4⟩
 refine ⟨y, ν', rfl, ⟨h1.len, h1.res, h1.dis, fun b hb => ?_, h1.av, b8a hR.n0 h2.size⟩, ⟨h2.os, h2.tape, h2.output, h2.size, h2.block, fun b hb => (h1.low b hb).2.2, h3⟩, h4⟩
 obtain ⟨g1, g2, g3⟩ := h1.low b hb
 refine ⟨g1, g2, ?_⟩
 rcases g3 with g3 | g3
 ·exact (hR.low b g3).2.2
 ·exact .inr (b8a hR.n0 g3)
def Res.shut : Res -> Bool
 | .gone => false
 | .box _ cs => C.clL cs
 | .row _ _ _ => true
 | .map _ _ => true
theorem a3l {ν ν' : List Value} {w : World} {O O' : Nat -> Prop} {x : Value} {r : Res} (hs : r.shut = true) (hO : ∀ b, O' b -> O b) (h : I7 ν w O x r) : I7 ν' w O' x r := by
 cases r with
 | gone => cases hs
 | box t cs =>
  obtain ⟨b, vs, h1, h2, h3, h4⟩ := h
  exact ⟨b, vs, h1, (FzL.keep (Keeps.sub hO) (h2.fz hs)).den ν', h3, h4⟩
 | row e sz es => exact a3n hO h
 | map s es => exact h
theorem b5V {r r' : Res} (hs : r.shut = true) {x : Value} {b : Nat} (h : fp r' x b) : fp r x b := by
 cases r <;> cases r' <;> first | exact False.elim h | exact h | (cases hs; done)
def at0 (k : Nat) : C -> C
 | .mp 0 => .mp k
 | .bp 0 o => .bp k o
 | .rv 0 => .rv k
 | .bnd f (.mp 0) => .bnd f (.mp k)
 | c => c
def okA : C -> Bool
 | .mp 0 => true
 | .bp 0 _ => true
 | .rv 0 => true
 | .bnd _ (.mp 0) => true
 | c => c.cl
theorem b5Z {ν : List Value} {w : World} {O O' : Nat -> Prop} {k : Nat} {x : Value} (hk : ν[k]? = some x) (hO : ∀ b, O' b -> O b) {c : C} {y : Value} (hc : okA c = true) (h : Den ν w O (at0 k c) y) : Den [x] w O' c y := by
 unfold okA at hc
 split at hc
 ·simp only [at0, Den] at h ⊢
  rw [hk] at h
  exact h
 ·simp only [at0, Den] at h ⊢
  rw [hk] at h
  exact h
 ·simp only [at0, Den] at h ⊢
  rw [hk] at h
  exact h
 ·simp only [at0, Den] at h ⊢
  rw [hk] at h
  exact h
 ·rename_i c0 h1 h2 h3 h4
  have e : at0 k c = c := by
   cases c with
   | mp j => cases j with
    | zero => exact (h1 rfl).elim
    | succ j => rfl
   | bp j o => cases j with
    | zero => exact (h2 _ rfl).elim
    | succ j => rfl
   | rv j => cases j with
    | zero => exact (h3 rfl).elim
    | succ j => rfl
   | bnd g d => cases d with
    | mp j => cases j with
     | zero => exact (h4 _ rfl).elim
     | succ j => rfl
    | _ => rfl
   | _ => rfl
  rw [e] at h
  exact (Fz.keep (Keeps.sub hO) (h.fz hc)).den _
theorem a9n {ν : List Value} {w : World} {O O' : Nat -> Prop} {k : Nat} {x : Value} (hk : ν[k]? = some x) (hO : ∀ b, O' b -> O b) : ∀ {cs : List C} {vs : List Value}, cs.all okA = true -> j3 ν w O (cs.map (at0 k)) vs -> j3 [x] w O' cs vs
 | [], vs, _, h => by simpa only [b8E, j3] using h
 | c :: cs, vs, hc, h => by
  simp only [b8y, j3, List.all_cons, b8g] at h hc ⊢
  obtain ⟨y, ys, e, h1, h2⟩ := h
  exact ⟨y, ys, e, b5Z hk hO hc.1 h1, a9n hk hO hc.2 h2⟩
theorem l7.lift {E : Ctx} {rs : List Res} {k f : Nat} {args : List C} {s : C} {r r' : Res} (hk : rs[k]? = some r) (h : l7 E [r] f args s [r'] []) (hs : (r.shut && r'.shut) = true) (ha : args.all okA = true) (hc : s.cl = true) : l7 E rs f (args.map (at0 k)) s (rs.set k r') [] := by
 rw [b8g] at hs
 intro av ν w vs hR hav hF hD
 obtain ⟨x, hx, hok⟩ := hR.res k r hk
 have hown : ∀ b, fp r x b -> owned rs ν b := fun b hb => ⟨k, r, x, hk, hx, hb⟩
 have ho1 : ∀ (q : Res) b, owned [q] [x] b <-> fp q x b := fun q b => by
  constructor
  ·rintro ⟨l, q', y, h1, h2, h3⟩
   cases l with
   | zero => simp at h1 h2; subst h1 h2; exact h3
   | succ l => simp at h1
  ·exact fun hb => ⟨0, q, x, rfl, rfl, hb⟩
 let av' : Nat -> Prop := fun b => OO av rs ν b /\ ¬ fp r x b
 have hOO : ∀ b, OO av' [r] [x] b -> OO av rs ν b := fun b hb => by
  rcases hb with hb | hb
  ·exact hb.1
  ·exact .inr (hown b ((ho1 r b).1 hb))
 have hRG : RG av' E.own0 E.w0.heap.size [x] [r] w := by
  refine ⟨rfl, fun l q hq => ?_, fun l m q q' y y' b hne h1 h2 => ?_, fun b hb => ?_, fun b hb => ?_, hR.n0⟩
  ·cases l with
   | zero => simp at hq; subst hq; exact ⟨x, rfl, a3l hs.1 hOO hok⟩
   | succ l => simp at hq
  ·have e1 : l = 0 := by have := (b8e.1 h1).1; simp at this; exact this
   have e2 : m = 0 := by have := (b8e.1 h2).1; simp at this; exact this
   omega
  ·have hb' := (ho1 r b).1 hb
   obtain ⟨g1, g2, g3⟩ := hR.low b (hown b hb')
   exact ⟨g1, fun h => h.2 hb', g3⟩
  ·rcases hb.1 with h1 | h1
   ·exact hR.av b h1
   ·exact (hR.low b h1).1
 have hav' : ∀ b, E.av b -> av' b := fun b hb => ⟨.inl (hav b hb), fun hf => (hR.low b (hown b hf)).2.1 (hav b hb)⟩
 have hD' : j3 [x] w (OO av' [r] [x]) args vs := a9n hx hOO ha hD
 refine (h av' [x] w vs hRG hav' hF hD').mono ?_
 rintro e w' ⟨y, ν', rfl, h1, h2, h3⟩
 have hν : ν' = [x] := by
  have hl := h1.len
  have h0 := h2.nu 0 x (fun hm => by cases hm) rfl
  match ν', hl, h0 with
  | [z], _, h0 => simp at h0; rw [h0]
 subst hν
 have hT : Turned w w' (fp r x) := ⟨h2.os, h2.tape, h2.output, h2.size, fun b hb hn => h2.block b hb fun ho => hn ((ho1 r b).1 ho)⟩
 have hOO' : ∀ b, OO av (rs.set k r') ν b -> OO av' [r'] [x] b := fun b hb => by
  rcases hb with hb | ⟨l, q, z, hq, hz, hf⟩
  ·exact .inl ⟨.inl hb, fun hf => (hR.low b (hown b hf)).2.1 hb⟩
  ·by_cases e : k = l
   ·subst e
    have hkl := (b8e.1 hk).1
    rw [List.getElem?_set_self hkl] at hq
    rw [hx] at hz
    cases hq
    cases hz
    exact .inr ((ho1 r' b).2 hf)
   ·rw [List.getElem?_set_ne e] at hq
    exact .inl ⟨.inr ⟨l, q, z, hq, hz, hf⟩, fun hf' => hR.dis k l r q x z b e hk hq hx hz hf' hf⟩
 have hup := hR.upd (r' := r') hk hx hT (fun b hb => b5V hs.1 hb) (fun _ => by
  obtain ⟨x', hx', hok'⟩ := h1.res 0 r' rfl
  simp at hx'
  subst hx'
  exact a3l hs.2 hOO' hok')
 exact ⟨y, ν, rfl, hup.1, hup.2, (Fz.keep (Keeps.sub hOO') (h3.fz hc)).den ν⟩
end Go.Proofs.YtpjjiegfigpgnaaGreatDoor.Eng
namespace Go.Proofs.YtpjjiegfigpgnaaGreatDoor
open Go Go.RowKit Eng
set_option maxRecDepth 10000
set_option maxHeartbeats 8000000
theorem b7z (n : Nms) (s : List UInt8) : (a1c (.string (bs s)) (nmE n)).getD (.bool false) = .bool (n.contains s) := by
 rw [b5y]; cases n.contains s <;> rfl
theorem a8e {E : Ctx} (hP : E.P = Tryz.prog) (n : Nms) (s : List UInt8) (hs : s.length <= 1099511627776) :
  l7 E [.map true (nmE n)] 50 [.mp 0, sb s] (ints (I4 n s).1) [.map true (nmE (I4 n s).2)] [] := by
 obtain ⟨P, eff', N, w0, own0, av0, nu0, pk0⟩ := E
 simp only at hP
 subst hP
 refine l7.of (eff := eff) Tryz.func50 (by cbv) (by exact b8q rfl) fun w own av ν hν => ?_
 have hν0 : ν.length <= 1 := by rw [hν]; exact b8f _
 have h1 := a4K s hs
 have hk := b7z n s
 have hp := b6Z n s
 unfold I4
 generalize Q7 s = q at *
 generalize n.contains s = c at *
 simp only [j6]
 simp only [sb, ints] at *
 (repeat first | refine uA ?_ | (refine uK ?_ ?_; focus first | omega | (intros; simp_all <;> omega)) | simp (disch := omega) only [go_sem, Nat.reduceBEq, Nat.reduceAdd, ww] | (refine uB h1 ?_ ?_; exact rfl))
 refine S.cond rfl (fun hc => ?_) (fun hc => ?_)
 ·rw [if_pos (by simpa using hc)]
  (repeat first | refine uA ?_ | (refine uK ?_ ?_; focus first | omega | (intros; simp_all <;> omega)) | simp (disch := omega) only [go_sem, Nat.reduceBEq, Nat.reduceAdd, ww])
  (refine S.done ?_; simp only [z8, r9, go_sem, Nat.reduceBEq, Nat.reduceAdd, Nat.reduceLeDiff, Int.reduceToNat, Int.reducePow]; (repeat (refine ⟨?_, ?_⟩; focus first | trivial | omega | simp)); exact d9.M5 (Imp.refl rfl) (by (repeat first | refine uA ?_ | (refine ⟨?_, ?_⟩; focus first | rfl | simp [slot]) | rfl | simp)) (b8a hν0 (by simp)))
 rw [if_neg (by simpa using hc)]
 (repeat first | refine uA ?_ | (refine uK ?_ ?_; focus first | omega | (intros; simp_all <;> omega)) | simp (disch := omega) only [go_sem, Nat.reduceBEq, Nat.reduceAdd, ww, hk])
 refine S.cond rfl (fun hc => ?_) (fun hc => ?_)
 ·rw [if_pos hc]
  (repeat first | refine uA ?_ | (refine uK ?_ ?_; focus first | omega | (intros; simp_all <;> omega)) | simp (disch := omega) only [go_sem, Nat.reduceBEq, Nat.reduceAdd, ww])
  (refine S.done ?_; simp only [z8, r9, go_sem, Nat.reduceBEq, Nat.reduceAdd, Nat.reduceLeDiff, Int.reduceToNat, Int.reducePow]; (repeat (refine ⟨?_, ?_⟩; focus first | trivial | omega | simp)); exact d9.M5 (Imp.refl rfl) (by (repeat first | refine uA ?_ | (refine ⟨?_, ?_⟩; focus first | rfl | simp [slot]) | rfl | simp)) (b8a hν0 (by simp)))
 ·rw [if_neg (by rw [hc]; decide)]
  have hp := hp hc
  (repeat first | refine uA ?_ | (refine uK ?_ ?_; focus first | omega | (intros; simp_all <;> omega)) | simp (disch := omega) only [go_sem, Nat.reduceBEq, Nat.reduceAdd, ww, hp])
  (refine S.done ?_; simp only [z8, r9, go_sem, Nat.reduceBEq, Nat.reduceAdd, Nat.reduceLeDiff, Int.reduceToNat, Int.reducePow]; (repeat (refine ⟨?_, ?_⟩; focus first | trivial | omega | simp)); exact d9.M5 (Imp.refl rfl) (by (repeat first | refine uA ?_ | (refine ⟨?_, ?_⟩; focus first | rfl | simp [slot]) | rfl | simp)) (b8a hν0 (by simp)))
theorem b7b {E : Ctx} (hP : E.P = Tryz.prog) (ht0 : Tz E) (n : Nms) (p : Pt) (hb : Pb 1073741824 p) :
  l7 E [.map true (nmE n)] 55 [.mp 0, p.c] (ints (W9 n p).1) [.map true (nmE (W9 n p).2)] [] := by
 obtain ⟨P, eff', N, w0, own0, av0, nu0, pk0⟩ := E
 simp only at hP
 subst hP
 refine l7.ofT (eff := eff) ht0 Tryz.func55 (by cbv) (by exact b8q rfl) fun w own av ν hν ht => ?_
 have hν0 : ν.length <= 1 := by rw [hν]; exact b8f _
 obtain ⟨name, shape, ⟨x, y, half, t⟩⟩ := p
 obtain ⟨b0, b1, b2, b3, b4⟩ := hb
 simp only at b0 b1 b2 b3 b4
 have h1 := fun (E : Ctx) (hP : E.P = Tryz.prog) => a8e hP n name (by omega)
 have h2 := a9B shape b1
 have h3 := a5I ⟨x, y, half, t⟩ ⟨b2.mono (by decide), b3.mono (by decide), b4.mono (by decide)⟩
 unfold W9
 simp only
 generalize I4 n name = r at *
 obtain ⟨e1, m⟩ := r
 generalize I9 shape = e2 at *
 generalize okF ⟨x, y, half, t⟩ = q at *
 simp only [j6]
 simp only [Pt.c, Pt.enc, Fr.c, Fr.enc, vts, sb, ints] at *
 (repeat first | refine uA ?_ | (refine uK ?_ ?_; focus first | omega | (intros; simp_all <;> omega)) | simp (disch := omega) only [go_sem, Nat.reduceBEq, Nat.reduceAdd, ww] | refine p8.t (l7.lift (k := 0) rfl (h1 _ rfl) rfl rfl rfl) ?_)
 refine S.cond rfl (fun hc => ?_) (fun hc => ?_)
 ·rw [if_pos (by simpa using hc)]
  (repeat first | refine uA ?_ | (refine uK ?_ ?_; focus first | omega | (intros; simp_all <;> omega)) | simp (disch := omega) only [go_sem, Nat.reduceBEq, Nat.reduceAdd, ww])
  (refine S.done ?_; simp only [z8, r9, go_sem, Nat.reduceBEq, Nat.reduceAdd, Nat.reduceLeDiff, Int.reduceToNat, Int.reducePow]; (repeat (refine ⟨?_, ?_⟩; focus first | trivial | omega | simp)); exact d9.M5 (Imp.refl rfl) (by (repeat first | refine uA ?_ | (refine ⟨?_, ?_⟩; focus first | rfl | simp [slot]) | rfl | simp)) (b8a hν0 (by simp)))
 rw [if_neg (by simpa using hc)]
 (repeat first | refine uA ?_ | (refine uK ?_ ?_; focus first | omega | (intros; simp_all <;> omega)) | simp (disch := omega) only [go_sem, Nat.reduceBEq, Nat.reduceAdd, ww] | (refine uD h2 ?_ ?_ ?_; exact ht; exact rfl))
 refine S.cond rfl (fun hc => ?_) (fun hc => ?_)
 ·rw [if_pos (by simpa using hc)]
  (repeat first | refine uA ?_ | (refine uK ?_ ?_; focus first | omega | (intros; simp_all <;> omega)) | simp (disch := omega) only [go_sem, Nat.reduceBEq, Nat.reduceAdd, ww])
  (refine S.done ?_; simp only [z8, r9, go_sem, Nat.reduceBEq, Nat.reduceAdd, Nat.reduceLeDiff, Int.reduceToNat, Int.reducePow]; (repeat (refine ⟨?_, ?_⟩; focus first | trivial | omega | simp)); exact d9.M5 (Imp.refl rfl) (by (repeat first | refine uA ?_ | (refine ⟨?_, ?_⟩; focus first | rfl | simp [slot]) | rfl | simp)) (b8a hν0 (by simp)))
 rw [if_neg (by simpa using hc)]
 (repeat first | refine uA ?_ | (refine uK ?_ ?_; focus first | omega | (intros; simp_all <;> omega)) | simp (disch := omega) only [go_sem, Nat.reduceBEq, Nat.reduceAdd, ww] | (refine uD h3 ?_ ?_ ?_; exact ht; exact rfl))
 refine S.cond rfl (fun hc => ?_) (fun hc => ?_)
 ·rw [if_neg (by simpa using hc)]
  (repeat first | refine uA ?_ | (refine uK ?_ ?_; focus first | omega | (intros; simp_all <;> omega)) | simp (disch := omega) only [go_sem, Nat.reduceBEq, Nat.reduceAdd, ww])
  (refine S.done ?_; simp only [z8, r9, go_sem, Nat.reduceBEq, Nat.reduceAdd, Nat.reduceLeDiff, Int.reduceToNat, Int.reducePow]; (repeat (refine ⟨?_, ?_⟩; focus first | trivial | omega | simp)); exact d9.M5 (Imp.refl rfl) (by (repeat first | refine uA ?_ | (refine ⟨?_, ?_⟩; focus first | rfl | simp [slot]) | rfl | simp)) (b8a hν0 (by simp)))
 ·rw [if_pos (by simpa using hc)]
  (repeat first | refine uA ?_ | (refine uK ?_ ?_; focus first | omega | (intros; simp_all <;> omega)) | simp (disch := omega) only [go_sem, Nat.reduceBEq, Nat.reduceAdd, ww])
  (refine S.done ?_; simp only [z8, r9, go_sem, Nat.reduceBEq, Nat.reduceAdd, Nat.reduceLeDiff, Int.reduceToNat, Int.reducePow]; (repeat (refine ⟨?_, ?_⟩; focus first | trivial | omega | simp)); exact d9.M5 (Imp.refl rfl) (by (repeat first | refine uA ?_ | (refine ⟨?_, ?_⟩; focus first | rfl | simp [slot]) | rfl | simp)) (b8a hν0 (by simp)))
theorem b6W {E : Ctx} (hP : E.P = Tryz.prog) (ht0 : Tz E) (n : Nms) (s : Sl) (hb : Sb 1073741824 s) :
  l7 E [.map true (nmE n)] 57 [.mp 0, s.c] (ints (V5 n s).1) [.map true (nmE (V5 n s).2)] [] := by
 obtain ⟨P, eff', N, w0, own0, av0, nu0, pk0⟩ := E
 simp only at hP
 subst hP
 refine l7.ofT (eff := eff) ht0 Tryz.func57 (by cbv) (by exact b8q rfl) fun w own av ν hν ht => ?_
 have hν0 : ν.length <= 1 := by rw [hν]; exact b8f _
 obtain ⟨name, ⟨x, y, half, t⟩, within⟩ := s
 obtain ⟨b0, ⟨b2, b3, b4⟩, b5⟩ := hb
 simp only at b0 b2 b3 b4 b5
 have h1 := fun (E : Ctx) (hP : E.P = Tryz.prog) => a8e hP n name (by omega)
 have h3 := a5I ⟨x, y, half, t⟩ ⟨b2.mono (by decide), b3.mono (by decide), b4.mono (by decide)⟩
 have h4 := a1K within (b5.mono (by decide))
 have h5 := a1u within (b5.mono (by decide))
 have h6 := R4 within (b5.mono (by decide))
 unfold V5
 simp only
 generalize I4 n name = r at *
 obtain ⟨e1, m⟩ := r
 generalize okF ⟨x, y, half, t⟩ = q1 at *
 generalize decide within.D8 = q2 at *
 generalize j4 within = q3 at *
 generalize D6 (Nm.j5 within) = n4 at *
 simp only [j6]
 simp only [Sl.c, Sl.enc, Fr.c, Fr.enc, vts, rc, sb, ints] at *
 (repeat first | refine uA ?_ | (refine uK ?_ ?_; focus first | omega | (intros; simp_all <;> omega)) | simp (disch := omega) only [go_sem, Nat.reduceBEq, Nat.reduceAdd, ww] | refine p8.t (l7.lift (k := 0) rfl (h1 _ rfl) rfl rfl rfl) ?_)
 refine S.cond rfl (fun hc => ?_) (fun hc => ?_)
 ·rw [if_pos (by simpa using hc)]
  (repeat first | refine uA ?_ | (refine uK ?_ ?_; focus first | omega | (intros; simp_all <;> omega)) | simp (disch := omega) only [go_sem, Nat.reduceBEq, Nat.reduceAdd, ww])
  (refine S.done ?_; simp only [z8, r9, go_sem, Nat.reduceBEq, Nat.reduceAdd, Nat.reduceLeDiff, Int.reduceToNat, Int.reducePow]; (repeat (refine ⟨?_, ?_⟩; focus first | trivial | omega | simp)); exact d9.M5 (Imp.refl rfl) (by (repeat first | refine uA ?_ | (refine ⟨?_, ?_⟩; focus first | rfl | simp [slot]) | rfl | simp)) (b8a hν0 (by simp)))
 rw [if_neg (by simpa using hc)]
 (repeat first | refine uA ?_ | (refine uK ?_ ?_; focus first | omega | (intros; simp_all <;> omega)) | simp (disch := omega) only [go_sem, Nat.reduceBEq, Nat.reduceAdd, ww] | (refine uD h3 ?_ ?_ ?_; exact ht; exact rfl) | (refine uD h4 ?_ ?_ ?_; exact ht; exact rfl) | (refine uD h5 ?_ ?_ ?_; exact ht; exact rfl) | (refine uD h6 ?_ ?_ ?_; exact ht; exact rfl))
 refine S.cond rfl (fun hc => ?_) (fun hc => ?_)
 ·rw [if_neg (by simp only [b8N, Bool.not_eq_true', b8o] at hc; simp only [b8g, b8o]; rintro ⟨⟨⟨h7, h8⟩, h9⟩, h10⟩; rcases hc with ((hc | hc) | hc) | hc <;> first | (rw [hc] at h7; cases h7; done) | (rw [hc] at h8; cases h8; done) | (rw [hc] at h9; cases h9; done) | omega)]
  (repeat first | refine uA ?_ | (refine uK ?_ ?_; focus first | omega | (intros; simp_all <;> omega)) | simp (disch := omega) only [go_sem, Nat.reduceBEq, Nat.reduceAdd, ww])
  (refine S.done ?_; simp only [z8, r9, go_sem, Nat.reduceBEq, Nat.reduceAdd, Nat.reduceLeDiff, Int.reduceToNat, Int.reducePow]; (repeat (refine ⟨?_, ?_⟩; focus first | trivial | omega | simp)); exact d9.M5 (Imp.refl rfl) (by (repeat first | refine uA ?_ | (refine ⟨?_, ?_⟩; focus first | rfl | simp [slot]) | rfl | simp)) (b8a hν0 (by simp)))
 ·rw [if_pos (by simp only [b8J, Bool.not_eq_false', b8v] at hc; simp only [b8g, b8o]; obtain ⟨⟨⟨h7, h8⟩, h9⟩, h10⟩ := hc; exact ⟨⟨⟨h7, h8⟩, h9⟩, by omega⟩)]
  (repeat first | refine uA ?_ | (refine uK ?_ ?_; focus first | omega | (intros; simp_all <;> omega)) | simp (disch := omega) only [go_sem, Nat.reduceBEq, Nat.reduceAdd, ww])
  (refine S.done ?_; simp only [z8, r9, go_sem, Nat.reduceBEq, Nat.reduceAdd, Nat.reduceLeDiff, Int.reduceToNat, Int.reducePow]; (repeat (refine ⟨?_, ?_⟩; focus first | trivial | omega | simp)); exact d9.M5 (Imp.refl rfl) (by (repeat first | refine uA ?_ | (refine ⟨?_, ?_⟩; focus first | rfl | simp [slot]) | rfl | simp)) (b8a hν0 (by simp)))
theorem b6E {E : Ctx} (hP : E.P = Tryz.prog) (ht0 : Tz E) (n : Nms) (g : Gt) (hb : Gb 1073741824 g) :
  l7 E [.map true (nmE n)] 59 [.mp 0, g.c] (ints (V3 n g).1) [.map true (nmE (V3 n g).2)] [] := by
 obtain ⟨P, eff', N, w0, own0, av0, nu0, pk0⟩ := E
 simp only at hP
 subst hP
 refine l7.ofT (eff := eff) ht0 Tryz.func59 (by cbv) (by exact b8q rfl) fun w own av ν hν ht => ?_
 have hν0 : ν.length <= 1 := by rw [hν]; exact b8f _
 obtain ⟨name, ⟨lx, ly⟩, ⟨hx, hy⟩⟩ := g
 obtain ⟨b0, ⟨b1, b2⟩, ⟨b3, b4⟩⟩ := hb
 simp only at b0 b1 b2 b3 b4
 have h1 := fun (E : Ctx) (hP : E.P = Tryz.prog) => a8e hP n name (by omega)
 have h3 := a5C [⟨lx, ly⟩, ⟨hx, hy⟩] (Vbs.two (by decide) ⟨b1.mono (by decide), b2.mono (by decide)⟩ ⟨b3.mono (by decide), b4.mono (by decide)⟩)
 rw [a6E] at h3
 have h4 := a3j lx hx (b1.mono (by decide)) (b3.mono (by decide))
 have h5 := a3j ly hy (b2.mono (by decide)) (b4.mono (by decide))
 unfold V3
 simp only
 generalize I4 n name = r at *
 obtain ⟨e1, m⟩ := r
 generalize (okV ⟨lx, ly⟩ && okV ⟨hx, hy⟩) = q1 at *
 generalize Nm.G5 (Nm.j5 lx) (Nm.j5 hx) = n1 at *
 generalize Nm.G5 (Nm.j5 ly) (Nm.j5 hy) = n2 at *
 simp only [j6]
 simp only [Gt.c, Gt.enc, vts, Vt.enc, rc, sb, ints, b8y, b8E] at *
 (repeat first | refine uA ?_ | (refine uK ?_ ?_; focus first | omega | (intros; simp_all <;> omega)) | simp (disch := omega) only [go_sem, Nat.reduceBEq, Nat.reduceAdd, ww] | refine p8.t (l7.lift (k := 0) rfl (h1 _ rfl) rfl rfl rfl) ?_)
 refine S.cond rfl (fun hc => ?_) (fun hc => ?_)
 ·rw [if_pos (by simpa using hc)]
  (repeat first | refine uA ?_ | (refine uK ?_ ?_; focus first | omega | (intros; simp_all <;> omega)) | simp (disch := omega) only [go_sem, Nat.reduceBEq, Nat.reduceAdd, ww])
  (refine S.done ?_; simp only [z8, r9, go_sem, Nat.reduceBEq, Nat.reduceAdd, Nat.reduceLeDiff, Int.reduceToNat, Int.reducePow]; (repeat (refine ⟨?_, ?_⟩; focus first | trivial | omega | simp)); exact d9.M5 (Imp.refl rfl) (by (repeat first | refine uA ?_ | (refine ⟨?_, ?_⟩; focus first | rfl | simp [slot]) | rfl | simp)) (b8a hν0 (by simp)))
 rw [if_neg (by simpa using hc)]
 (repeat first | refine uA ?_ | (refine uK ?_ ?_; focus first | omega | (intros; simp_all <;> omega)) | simp (disch := omega) only [go_sem, Nat.reduceBEq, Nat.reduceAdd, ww] | (refine uD h4 ?_ ?_ ?_; exact ht; exact rfl) | (refine uD h5 ?_ ?_ ?_; exact ht; exact rfl) | (refine uE h3 ?_ ?_ ?_ ?_; exact ht; exact rfl; focus (repeat' first | exact l5.nil | exact Imp.refl rfl | exact Imp.frz rfl rfl rfl | (refine Imp.J6 rfl rfl ?_ ?_; (focus ((try simp only [b7X]); omega)); (focus first | rfl | assumption)) | refine l5.cons ?_ ?_); done))
 refine S.cond rfl (fun hc => ?_) (fun hc => ?_)
 ·rw [if_neg (by simp only [b8N, Bool.not_eq_true', b8o] at hc; simp only [b8g, b8o]; rintro ⟨⟨h7, h8⟩, h9⟩; rcases hc with (hc | hc) | hc <;> first | (rw [hc] at h7; cases h7; done) | omega)]
  (repeat first | refine uA ?_ | (refine uK ?_ ?_; focus first | omega | (intros; simp_all <;> omega)) | simp (disch := omega) only [go_sem, Nat.reduceBEq, Nat.reduceAdd, ww])
  (refine S.done ?_; simp only [z8, r9, go_sem, Nat.reduceBEq, Nat.reduceAdd, Nat.reduceLeDiff, Int.reduceToNat, Int.reducePow]; (repeat (refine ⟨?_, ?_⟩; focus first | trivial | omega | simp)); exact d9.M5 (Imp.refl rfl) (by (repeat first | refine uA ?_ | (refine ⟨?_, ?_⟩; focus first | rfl | simp [slot]) | rfl | simp)) (b8a hν0 (by simp)))
 ·rw [if_pos (by simp only [b8J, Bool.not_eq_false', b8v] at hc; simp only [b8g, b8o]; obtain ⟨⟨h7, h8⟩, h9⟩ := hc; exact ⟨⟨h7, by omega⟩, by omega⟩)]
  (repeat first | refine uA ?_ | (refine uK ?_ ?_; focus first | omega | (intros; simp_all <;> omega)) | simp (disch := omega) only [go_sem, Nat.reduceBEq, Nat.reduceAdd, ww])
  (refine S.done ?_; simp only [z8, r9, go_sem, Nat.reduceBEq, Nat.reduceAdd, Nat.reduceLeDiff, Int.reduceToNat, Int.reducePow]; (repeat (refine ⟨?_, ?_⟩; focus first | trivial | omega | simp)); exact d9.M5 (Imp.refl rfl) (by (repeat first | refine uA ?_ | (refine ⟨?_, ?_⟩; focus first | rfl | simp [slot]) | rfl | simp)) (b8a hν0 (by simp)))
theorem b1r {E : Ctx} (hP : E.P = Tryz.prog) (ht0 : Tz E) (n : Nms) (l : List Pt) (hn : l.length <= 1073741824) (hb : ∀ x ∈ l, Pb 1073741824 x) :
  l7 E [.map true (nmE n)] 54 [pts l, .bnd 55 (.mp 0)] (ints (D9 W9 n l).1) [.map true (nmE (D9 W9 n l).2)] [] := by
 obtain ⟨P, eff', N, w0, own0, av0, nu0, pk0⟩ := E
 simp only at hP
 subst hP
 refine l7.ofT (eff := eff) ht0 Tryz.func54 (by cbv) (by exact b8q rfl) fun w own av ν hν ht => ?_
 have hν0 : ν.length <= 1 := by rw [hν]; exact b8f _
 simp only [j6, pts, ints]
 (repeat first | refine uA ?_ | (refine uK ?_ ?_; focus first | omega | trivial | (intros; simp_all <;> omega)) | simp (disch := omega) only [go_sem, Nat.reduceBEq, Nat.reduceAdd, Nat.reduceLeDiff, Int.reduceToNat, Int.reducePow, ww, b7Z])
 refine S.loop (X := Nat × Nms) (fun x => ⟨[(1, .bnd 55 (.mp 0)), (8, pts l), (9, ints l.length), (10, ints x.1)], [.map true (nmE x.2)]⟩) (fun x => x.1 <= l.length /\ D9 W9 n l = D9 W9 x.2 (l.drop x.1)) (fun x => l.length - x.1) (0, n) ⟨b8b _, rfl⟩ (by (repeat first | refine uA ?_ | (refine ⟨?_, ?_⟩; focus first | rfl | trivial | (simp [slot]; done)) | rfl | trivial | simp | exact b8a hν0 (by simp))) ?_
 rintro ⟨i, m⟩ ⟨hi, hg⟩
 simp only [pts, ints] at hi hg ⊢
 (repeat first | refine uA ?_ | (refine uK ?_ ?_; focus first | omega | trivial | (intros; simp_all <;> omega)) | simp (disch := omega) only [go_sem, Nat.reduceBEq, Nat.reduceAdd, Nat.reduceLeDiff, Int.reduceToNat, Int.reducePow, ww])
 (refine uJ rfl (fun hc => ?_) fun hc => ?_)
 ·have hi' : i < l.length := by omega
  have hgi := b7W hi'
  generalize l[i] = x at hgi
  have hst := V6 (f := W9) (s := m) hgi
  have hnx := U8 (f := W9) (s := m) hgi
  have hs := fun (E : Ctx) (hP : E.P = Tryz.prog) (ht : Tz E) => b7b hP ht m x (hb x (b8c hgi))
  generalize W9 m x = r at *
  obtain ⟨e, m'⟩ := r
  simp only [Pt.c, Pt.enc, vts, sb, ints] at hs hst hnx
  (repeat first | refine uA ?_ | (refine uK ?_ ?_; focus first | omega | trivial | (intros; simp_all <;> omega)) | simp (disch := omega) only [go_sem, Nat.reduceBEq, Nat.reduceAdd, Nat.reduceLeDiff, Int.reduceToNat, Int.reducePow, ww, hgi, b7Y, b7Z, Pt.c, Pt.enc, vts, sb] | refine p8.t (l7.lift (k := 0) rfl (hs _ rfl ht) rfl rfl rfl) ?_)
  refine S.cond rfl (fun hc2 => ?_) (fun hc2 => ?_)
  ·rw [hg, hst (by simpa using hc2)]
   (repeat first | refine uA ?_ | (refine uK ?_ ?_; focus first | omega | trivial | (intros; simp_all <;> omega)) | simp (disch := omega) only [go_sem, Nat.reduceBEq, Nat.reduceAdd, Nat.reduceLeDiff, Int.reduceToNat, Int.reducePow, ww])
   (refine S.done ?_; simp only [z8, r9, go_sem, Nat.reduceBEq, Nat.reduceAdd, Nat.reduceLeDiff, Int.reduceToNat, Int.reducePow]; (repeat (refine ⟨?_, ?_⟩; focus first | trivial | omega | simp)); exact d9.M5 (Imp.refl rfl) (by (repeat first | refine uA ?_ | (refine ⟨?_, ?_⟩; focus first | rfl | trivial | (simp [slot]; done)) | rfl | trivial | simp)) (b8a hν0 (by simp)))
  ·have hc3 : e = 0 := by simpa using hc2
   (repeat first | refine uA ?_ | (refine uK ?_ ?_; focus first | omega | trivial | (intros; simp_all <;> omega)) | simp (disch := omega) only [go_sem, Nat.reduceBEq, Nat.reduceAdd, Nat.reduceLeDiff, Int.reduceToNat, Int.reducePow, ww])
   refine S.next (x := (i, m)) (i + 1, m') ⟨by simp only; omega, by simp only; rw [hg, hnx hc3]⟩ (by simp only; omega) (by (repeat first | refine uA ?_ | (refine ⟨?_, ?_⟩; focus first | rfl | trivial | (simp [slot]; done)) | rfl | trivial | simp | exact b8a hν0 (by simp)))
 ·rw [hg, Y6 (by omega)]
  (repeat first | refine uA ?_ | (refine uK ?_ ?_; focus first | omega | trivial | (intros; simp_all <;> omega)) | simp (disch := omega) only [go_sem, Nat.reduceBEq, Nat.reduceAdd, Nat.reduceLeDiff, Int.reduceToNat, Int.reducePow, ww])
  (refine S.done ?_; simp only [z8, r9, go_sem, Nat.reduceBEq, Nat.reduceAdd, Nat.reduceLeDiff, Int.reduceToNat, Int.reducePow]; (repeat (refine ⟨?_, ?_⟩; focus first | trivial | omega | simp)); exact d9.M5 (Imp.refl rfl) (by (repeat first | refine uA ?_ | (refine ⟨?_, ?_⟩; focus first | rfl | trivial | (simp [slot]; done)) | rfl | trivial | simp)) (b8a hν0 (by simp)))
theorem b1w {E : Ctx} (hP : E.P = Tryz.prog) (ht0 : Tz E) (n : Nms) (l : List Sl) (hn : l.length <= 1073741824) (hb : ∀ x ∈ l, Sb 1073741824 x) :
  l7 E [.map true (nmE n)] 56 [sls l, .bnd 57 (.mp 0)] (ints (D9 V5 n l).1) [.map true (nmE (D9 V5 n l).2)] [] := by
 obtain ⟨P, eff', N, w0, own0, av0, nu0, pk0⟩ := E
 simp only at hP
 subst hP
 refine l7.ofT (eff := eff) ht0 Tryz.func56 (by cbv) (by exact b8q rfl) fun w own av ν hν ht => ?_
 have hν0 : ν.length <= 1 := by rw [hν]; exact b8f _
 simp only [j6, sls, ints]
 (repeat first | refine uA ?_ | (refine uK ?_ ?_; focus first | omega | trivial | (intros; simp_all <;> omega)) | simp (disch := omega) only [go_sem, Nat.reduceBEq, Nat.reduceAdd, Nat.reduceLeDiff, Int.reduceToNat, Int.reducePow, ww, b7Z])
 refine S.loop (X := Nat × Nms) (fun x => ⟨[(1, .bnd 57 (.mp 0)), (8, sls l), (9, ints l.length), (10, ints x.1)], [.map true (nmE x.2)]⟩) (fun x => x.1 <= l.length /\ D9 V5 n l = D9 V5 x.2 (l.drop x.1)) (fun x => l.length - x.1) (0, n) ⟨b8b _, rfl⟩ (by (repeat first | refine uA ?_ | (refine ⟨?_, ?_⟩; focus first | rfl | trivial | (simp [slot]; done)) | rfl | trivial | simp | exact b8a hν0 (by simp))) ?_
 rintro ⟨i, m⟩ ⟨hi, hg⟩
 simp only [sls, ints] at hi hg ⊢
 (repeat first | refine uA ?_ | (refine uK ?_ ?_; focus first | omega | trivial | (intros; simp_all <;> omega)) | simp (disch := omega) only [go_sem, Nat.reduceBEq, Nat.reduceAdd, Nat.reduceLeDiff, Int.reduceToNat, Int.reducePow, ww])
 (refine uJ rfl (fun hc => ?_) fun hc => ?_)
 ·have hi' : i < l.length := by omega
  have hgi := b7W hi'
  generalize l[i] = x at hgi
  have hst := V6 (f := V5) (s := m) hgi
  have hnx := U8 (f := V5) (s := m) hgi
  have hs := fun (E : Ctx) (hP : E.P = Tryz.prog) (ht : Tz E) => b6W hP ht m x (hb x (b8c hgi))
  generalize V5 m x = r at *
  obtain ⟨e, m'⟩ := r
  simp only [Sl.c, Sl.enc, sb, ints] at hs hst hnx
  (repeat first | refine uA ?_ | (refine uK ?_ ?_; focus first | omega | trivial | (intros; simp_all <;> omega)) | simp (disch := omega) only [go_sem, Nat.reduceBEq, Nat.reduceAdd, Nat.reduceLeDiff, Int.reduceToNat, Int.reducePow, ww, hgi, b7Y, b7Z, Sl.c, Sl.enc, sb] | refine p8.t (l7.lift (k := 0) rfl (hs _ rfl ht) rfl rfl rfl) ?_)
  refine S.cond rfl (fun hc2 => ?_) (fun hc2 => ?_)
  ·rw [hg, hst (by simpa using hc2)]
   (repeat first | refine uA ?_ | (refine uK ?_ ?_; focus first | omega | trivial | (intros; simp_all <;> omega)) | simp (disch := omega) only [go_sem, Nat.reduceBEq, Nat.reduceAdd, Nat.reduceLeDiff, Int.reduceToNat, Int.reducePow, ww])
   (refine S.done ?_; simp only [z8, r9, go_sem, Nat.reduceBEq, Nat.reduceAdd, Nat.reduceLeDiff, Int.reduceToNat, Int.reducePow]; (repeat (refine ⟨?_, ?_⟩; focus first | trivial | omega | simp)); exact d9.M5 (Imp.refl rfl) (by (repeat first | refine uA ?_ | (refine ⟨?_, ?_⟩; focus first | rfl | trivial | (simp [slot]; done)) | rfl | trivial | simp)) (b8a hν0 (by simp)))
  ·have hc3 : e = 0 := by simpa using hc2
   (repeat first | refine uA ?_ | (refine uK ?_ ?_; focus first | omega | trivial | (intros; simp_all <;> omega)) | simp (disch := omega) only [go_sem, Nat.reduceBEq, Nat.reduceAdd, Nat.reduceLeDiff, Int.reduceToNat, Int.reducePow, ww])
   refine S.next (x := (i, m)) (i + 1, m') ⟨by simp only; omega, by simp only; rw [hg, hnx hc3]⟩ (by simp only; omega) (by (repeat first | refine uA ?_ | (refine ⟨?_, ?_⟩; focus first | rfl | trivial | (simp [slot]; done)) | rfl | trivial | simp | exact b8a hν0 (by simp)))
 ·rw [hg, Y6 (by omega)]
  (repeat first | refine uA ?_ | (refine uK ?_ ?_; focus first | omega | trivial | (intros; simp_all <;> omega)) | simp (disch := omega) only [go_sem, Nat.reduceBEq, Nat.reduceAdd, Nat.reduceLeDiff, Int.reduceToNat, Int.reducePow, ww])
  (refine S.done ?_; simp only [z8, r9, go_sem, Nat.reduceBEq, Nat.reduceAdd, Nat.reduceLeDiff, Int.reduceToNat, Int.reducePow]; (repeat (refine ⟨?_, ?_⟩; focus first | trivial | omega | simp)); exact d9.M5 (Imp.refl rfl) (by (repeat first | refine uA ?_ | (refine ⟨?_, ?_⟩; focus first | rfl | trivial | (simp [slot]; done)) | rfl | trivial | simp)) (b8a hν0 (by simp)))
theorem b1i {E : Ctx} (hP : E.P = Tryz.prog) (ht0 : Tz E) (n : Nms) (l : List Gt) (hn : l.length <= 1073741824) (hb : ∀ x ∈ l, Gb 1073741824 x) :
  l7 E [.map true (nmE n)] 58 [gts l, .bnd 59 (.mp 0)] (ints (D9 V3 n l).1) [.map true (nmE (D9 V3 n l).2)] [] := by
 obtain ⟨P, eff', N, w0, own0, av0, nu0, pk0⟩ := E
 simp only at hP
 subst hP
 refine l7.ofT (eff := eff) ht0 Tryz.func58 (by cbv) (by exact b8q rfl) fun w own av ν hν ht => ?_
 have hν0 : ν.length <= 1 := by rw [hν]; exact b8f _
 simp only [j6, gts, ints]
 (repeat first | refine uA ?_ | (refine uK ?_ ?_; focus first | omega | trivial | (intros; simp_all <;> omega)) | simp (disch := omega) only [go_sem, Nat.reduceBEq, Nat.reduceAdd, Nat.reduceLeDiff, Int.reduceToNat, Int.reducePow, ww, b7Z])
 refine S.loop (X := Nat × Nms) (fun x => ⟨[(1, .bnd 59 (.mp 0)), (8, gts l), (9, ints l.length), (10, ints x.1)], [.map true (nmE x.2)]⟩) (fun x => x.1 <= l.length /\ D9 V3 n l = D9 V3 x.2 (l.drop x.1)) (fun x => l.length - x.1) (0, n) ⟨b8b _, rfl⟩ (by (repeat first | refine uA ?_ | (refine ⟨?_, ?_⟩; focus first | rfl | trivial | (simp [slot]; done)) | rfl | trivial | simp | exact b8a hν0 (by simp))) ?_
 rintro ⟨i, m⟩ ⟨hi, hg⟩
 simp only [gts, ints] at hi hg ⊢
 (repeat first | refine uA ?_ | (refine uK ?_ ?_; focus first | omega | trivial | (intros; simp_all <;> omega)) | simp (disch := omega) only [go_sem, Nat.reduceBEq, Nat.reduceAdd, Nat.reduceLeDiff, Int.reduceToNat, Int.reducePow, ww])
 (refine uJ rfl (fun hc => ?_) fun hc => ?_)
 ·have hi' : i < l.length := by omega
  have hgi := b7W hi'
  generalize l[i] = x at hgi
  have hst := V6 (f := V3) (s := m) hgi
  have hnx := U8 (f := V3) (s := m) hgi
  have hs := fun (E : Ctx) (hP : E.P = Tryz.prog) (ht : Tz E) => b6E hP ht m x (hb x (b8c hgi))
  generalize V3 m x = r at *
  obtain ⟨e, m'⟩ := r
  simp only [Gt.c, Gt.enc, sb, ints] at hs hst hnx
  (repeat first | refine uA ?_ | (refine uK ?_ ?_; focus first | omega | trivial | (intros; simp_all <;> omega)) | simp (disch := omega) only [go_sem, Nat.reduceBEq, Nat.reduceAdd, Nat.reduceLeDiff, Int.reduceToNat, Int.reducePow, ww, hgi, b7Y, b7Z, Gt.c, Gt.enc, sb] | refine p8.t (l7.lift (k := 0) rfl (hs _ rfl ht) rfl rfl rfl) ?_)
  refine S.cond rfl (fun hc2 => ?_) (fun hc2 => ?_)
  ·rw [hg, hst (by simpa using hc2)]
   (repeat first | refine uA ?_ | (refine uK ?_ ?_; focus first | omega | trivial | (intros; simp_all <;> omega)) | simp (disch := omega) only [go_sem, Nat.reduceBEq, Nat.reduceAdd, Nat.reduceLeDiff, Int.reduceToNat, Int.reducePow, ww])
   (refine S.done ?_; simp only [z8, r9, go_sem, Nat.reduceBEq, Nat.reduceAdd, Nat.reduceLeDiff, Int.reduceToNat, Int.reducePow]; (repeat (refine ⟨?_, ?_⟩; focus first | trivial | omega | simp)); exact d9.M5 (Imp.refl rfl) (by (repeat first | refine uA ?_ | (refine ⟨?_, ?_⟩; focus first | rfl | trivial | (simp [slot]; done)) | rfl | trivial | simp)) (b8a hν0 (by simp)))
  ·have hc3 : e = 0 := by simpa using hc2
   (repeat first | refine uA ?_ | (refine uK ?_ ?_; focus first | omega | trivial | (intros; simp_all <;> omega)) | simp (disch := omega) only [go_sem, Nat.reduceBEq, Nat.reduceAdd, Nat.reduceLeDiff, Int.reduceToNat, Int.reducePow, ww])
   refine S.next (x := (i, m)) (i + 1, m') ⟨by simp only; omega, by simp only; rw [hg, hnx hc3]⟩ (by simp only; omega) (by (repeat first | refine uA ?_ | (refine ⟨?_, ?_⟩; focus first | rfl | trivial | (simp [slot]; done)) | rfl | trivial | simp | exact b8a hν0 (by simp)))
 ·rw [hg, Y6 (by omega)]
  (repeat first | refine uA ?_ | (refine uK ?_ ?_; focus first | omega | trivial | (intros; simp_all <;> omega)) | simp (disch := omega) only [go_sem, Nat.reduceBEq, Nat.reduceAdd, Nat.reduceLeDiff, Int.reduceToNat, Int.reducePow, ww])
  (refine S.done ?_; simp only [z8, r9, go_sem, Nat.reduceBEq, Nat.reduceAdd, Nat.reduceLeDiff, Int.reduceToNat, Int.reducePow]; (repeat (refine ⟨?_, ?_⟩; focus first | trivial | omega | simp)); exact d9.M5 (Imp.refl rfl) (by (repeat first | refine uA ?_ | (refine ⟨?_, ?_⟩; focus first | rfl | trivial | (simp [slot]; done)) | rfl | trivial | simp)) (b8a hν0 (by simp)))
theorem b1d (l : List (List Vt)) (hn : l.length <= 1073741824) (hb : ∀ x ∈ l, Vbs 1073741824 x) : FZ 52 [wls l, .v (.func (.func 53) #[] #[])] (ints (F6 I9 l)) := by
 refine kW Tryz.func52 (by cbv) (by rfl) fun w O hw => ?_
 have hcal : callable Tryz.prog 53 = true := by kernel_rfl
 simp only [j6, wls, ints]
 (repeat first | refine uA ?_ | (refine uK ?_ ?_; focus first | omega | trivial | (intros; simp_all <;> omega)) | simp (disch := omega) only [go_sem, Nat.reduceBEq, Nat.reduceAdd, Nat.reduceLeDiff, Int.reduceToNat, Int.reducePow, ww, b7Z])
 refine S.loop (X := Nat) (fun i => ⟨[(1, .v (.func (.func 53) #[] #[])), (8, wls l), (9, ints l.length), (10, ints i)], []⟩) (fun i => i <= l.length /\ F6 I9 l = F6 I9 (l.drop i)) (fun i => l.length - i) 0 ⟨b8b _, rfl⟩ (by (repeat first | refine uA ?_ | (refine ⟨?_, ?_⟩; focus first | rfl | trivial | (simp [slot]; done)) | rfl | trivial | simp)) ?_
 rintro i ⟨hi, hg⟩
 simp only [wls, ints] at hi hg ⊢
 (repeat first | refine uA ?_ | (refine uK ?_ ?_; focus first | omega | trivial | (intros; simp_all <;> omega)) | simp (disch := omega) only [go_sem, Nat.reduceBEq, Nat.reduceAdd, Nat.reduceLeDiff, Int.reduceToNat, Int.reducePow, ww])
 (refine uJ rfl (fun hc => ?_) fun hc => ?_)
 ·have hi' : i < l.length := by omega
  have hgi := b7W hi'
  generalize l[i] = x at hgi
  have hst := a1z (f := I9) hgi
  have hnx := a1v (f := I9) hgi
  have hs := a9B x (hb x (b8c hgi))
  generalize I9 x = e at *
  simp only [ints] at hs
  (repeat first | refine uA ?_ | (refine uK ?_ ?_; focus first | omega | trivial | (intros; simp_all <;> omega)) | simp (disch := omega) only [go_sem, Nat.reduceBEq, Nat.reduceAdd, Nat.reduceLeDiff, Int.reduceToNat, Int.reducePow, ww, hgi, b7Y, b7Z, hcal] | (refine uD hs ?_ ?_ ?_; exact tz hw; exact rfl))
  refine S.cond rfl (fun hc2 => ?_) (fun hc2 => ?_)
  ·rw [hg, hst (by simpa using hc2)]
   (repeat first | refine uA ?_ | (refine uK ?_ ?_; focus first | omega | trivial | (intros; simp_all <;> omega)) | simp (disch := omega) only [go_sem, Nat.reduceBEq, Nat.reduceAdd, Nat.reduceLeDiff, Int.reduceToNat, Int.reducePow, ww])
   exact S.done (d9.out rfl (Imp.refl rfl) rfl)
  ·have hc3 : e = 0 := by simpa using hc2
   (repeat first | refine uA ?_ | (refine uK ?_ ?_; focus first | omega | trivial | (intros; simp_all <;> omega)) | simp (disch := omega) only [go_sem, Nat.reduceBEq, Nat.reduceAdd, Nat.reduceLeDiff, Int.reduceToNat, Int.reducePow, ww])
   refine S.next (i + 1) ⟨by omega, by rw [hg, hnx hc3]⟩ (by omega) (by (repeat first | refine uA ?_ | (refine ⟨?_, ?_⟩; focus first | rfl | trivial | (simp [slot]; done)) | rfl | trivial | simp))
 ·rw [hg, a1W (by omega)]
  (repeat first | refine uA ?_ | (refine uK ?_ ?_; focus first | omega | trivial | (intros; simp_all <;> omega)) | simp (disch := omega) only [go_sem, Nat.reduceBEq, Nat.reduceAdd, Nat.reduceLeDiff, Int.reduceToNat, Int.reducePow, ww])
  exact S.done (d9.out rfl (Imp.refl rfl) rfl)
end Go.Proofs.YtpjjiegfigpgnaaGreatDoor
namespace Go.Proofs.YtpjjiegfigpgnaaGreatDoor.Eng
open Go Go.RowKit
def Res.bdr (n : Nat) : Res -> Bool
 | .box _ cs => C.bdL n cs
 | _ => true
theorem b2H {ν : List Value} {w : World} {O O' : Nat -> Prop} {x : Value} {r : Res} {n : Nat} (hs : r.bdr n = true) (hO : ∀ b, O' b -> O b) (h : I7 ν w O x r) : I7 (ν.take n) w O' x r := by
 cases r with
 | gone => exact h
 | box t cs =>
  obtain ⟨b, vs, h1, h2, h3, h4⟩ := h
  exact ⟨b, vs, h1, j3.keep (Keeps.sub hO) (j3.takeν n hs h2), h3, h4⟩
 | row e sz es => exact a3n hO h
 | map s es => exact h
theorem b4P {ν ν' : List Value} {w : World} {O O' : Nat -> Prop} {x : Value} {r : Res} (hn : O8 [] ν ν') (hO : ∀ b, O' b -> O b) (h : I7 ν w O x r) : I7 ν' w O' x r := by
 cases r with
 | gone => exact h
 | box t cs =>
  obtain ⟨b, vs, h1, h2, h3, h4⟩ := h
  exact ⟨b, vs, h1, j3.keep (Keeps.sub hO) (j3.nu hn (fun k hk => by cases hk) h2), h3, h4⟩
 | row e sz es => exact a3n hO h
 | map s es => exact h
theorem O8.take (ν : List Value) (n : Nat) : O8 [] (ν.take n) ν := fun _ _ _ h => P9 h
theorem b7o {ν ν' : List Value} (h : O8 [] ν ν') (hl : ν'.length = ν.length) : ν' = ν := by
 apply List.ext_getElem?
 intro i
 rcases b8s i ν.length with h1 | h1
 ·have := h i _ (fun hk => by cases hk) (b7W h1)
  rw [this, b7W h1]
 ·rw [b8F h1, b8F (by omega)]
theorem a1O {rs ext : List Res} {ν : List Value} (hl : ν.length = (rs ++ ext).length) (b : Nat) : owned (rs ++ ext) ν b <-> owned rs (ν.take rs.length) b \/ ∃ k r x, ext[k]? = some r /\ ν[rs.length + k]? = some x /\ fp r x b := by
 constructor
 ·rintro ⟨k, r, x, h1, h2, h3⟩
  rcases b8s k rs.length with h | h
  ·rw [b8d h] at h1
   exact .inl ⟨k, r, x, h1, G9 h h2, h3⟩
  ·rw [b8k h] at h1
   exact .inr ⟨k - rs.length, r, x, h1, by rw [show rs.length + (k - rs.length) = k by omega]; exact h2, h3⟩
 ·rintro (⟨k, r, x, h1, h2, h3⟩ | ⟨k, r, x, h1, h2, h3⟩)
  ·have h := (b8e.1 h1).1
   exact ⟨k, r, x, by rw [b8d h]; exact h1, P9 h2, h3⟩
  ·exact ⟨rs.length + k, r, x, by rw [b8k (by omega), show rs.length + k - rs.length = k by omega]; exact h1, h2, h3⟩
theorem l7.ext {E : Ctx} {rs rs' : List Res} (ex : List Res) {f : Nat} {args : List C} {s : C} (h : l7 E rs f args s rs' []) (hl : rs'.length = rs.length) (hb : rs.all (Res.bdr rs.length) = true) (ha : C.bdL rs.length args = true) : l7 E (rs ++ ex) f args s (rs' ++ ex) [] := by
  intro av ν w vs hR hav hF hD
  have hlen := hR.len
  have hl1 : (ν.take rs.length).length = rs.length := by rw [b8i, hlen, b7X]; omega
  generalize hν1 : ν.take rs.length = ν1 at hl1
  have hown := fun b => a1O hlen b
  rw [hν1] at hown
  have hx : ∀ b k r x, ex[k]? = some r -> ν[rs.length + k]? = some x -> fp r x b -> ¬ owned rs ν1 b := by
    rintro b k r x h1 h2 h3 ⟨l, q, y, g1, g2, g3⟩
    have hlt := (b8e.1 g1).1
    rw [<- hν1] at g2
    exact hR.dis l (rs.length + k) q r y x b (by omega) (by rw [b8d hlt]; exact g1) (by rw [b8k (by omega), show rs.length + k - rs.length = k by omega]; exact h1) (P9 g2) h2 g3 h3
  let av' : Nat -> Prop := fun b => OO av (rs ++ ex) ν b /\ ¬ owned rs ν1 b
  have hOO : ∀ b, OO av' rs ν1 b -> OO av (rs ++ ex) ν b := fun b hb => by
    rcases hb with hb | hb
    · exact hb.1
    · exact .inr ((hown b).2 (.inl hb))
  have hRG : RG av' E.own0 E.w0.heap.size ν1 rs w := by
    refine ⟨hl1, fun k r hk => ?_, fun l m q q' y y' b hne h1 h2 h3 h4 => ?_, fun b hb => ?_, fun b hb => ?_, hR.n0⟩
    · have hlt := (b8e.1 hk).1
      obtain ⟨x, hx, hok⟩ := hR.res k r (by rw [b8d hlt]; exact hk)
      refine ⟨x, by rw [<- hν1]; exact G9 hlt hx, ?_⟩
      rw [<- hν1]
      rw [List.all_eq_true] at hb
      exact b2H (hb r (b8c hk)) (by rw [hν1]; exact hOO) hok
    · have g1 := (b8e.1 h1).1
      have g2 := (b8e.1 h2).1
      rw [<- hν1] at h3 h4
      exact hR.dis l m q q' y y' b hne (by rw [b8d g1]; exact h1) (by rw [b8d g2]; exact h2) (P9 h3) (P9 h4)
    · obtain ⟨g1, g2, g3⟩ := hR.low b ((hown b).2 (.inl hb))
      exact ⟨g1, fun h => h.2 hb, g3⟩
    · rcases hb.1 with h1 | h1
      · exact hR.av b h1
      · exact (hR.low b h1).1
  have hnav : ∀ b, av b -> ¬ owned rs ν1 b := fun b hb ho => (hR.low b ((hown b).2 (.inl ho))).2.1 hb
  have hD' : j3 ν1 w (OO av' rs ν1) args vs := by
    have := j3.keep (Keeps.sub hOO) (j3.takeν rs.length ha hD)
    rwa [hν1] at this
  refine (h av' ν1 w vs hRG (fun b hb => ⟨.inl (hav b hb), hnav b (hav b hb)⟩) hF hD').mono ?_
  rintro e w' ⟨y, ν', rfl, h1, h2, h3⟩
  have hν' : ν' = ν1 := b7o h2.nu (by rw [h1.len, hl, hl1])
  subst hν'
  have hlen' : ν.length = (rs' ++ ex).length := by rw [hlen, b7X, b7X, hl]
  have hν1' : ν.take rs'.length = ν' := by rw [hl]; exact hν1
  have hown' := fun b => a1O hlen' b
  rw [hν1', hl] at hown'
  have hnu : O8 [] ν' ν := by rw [<- hν1]; exact O8.take ν _
  have hxo : ∀ b k r x, ex[k]? = some r -> ν[rs.length + k]? = some x -> fp r x b -> owned (rs ++ ex) ν b := fun b k r x g1 g2 g3 => (hown b).2 (.inr ⟨k, r, x, g1, g2, g3⟩)
  have hOO' : ∀ b, OO av (rs' ++ ex) ν b -> OO av' rs' ν' b := fun b hb => by
    rcases hb with hb | hb
    · exact .inl ⟨.inl hb, hnav b hb⟩
    · rcases (hown' b).1 hb with hb | ⟨k, r, x, g1, g2, g3⟩
      · exact .inr hb
      · exact .inl ⟨.inr (hxo b k r x g1 g2 g3), hx b k r x g1 g2 g3⟩
  have hM : Mv (rs ++ ex) ν w [] (rs' ++ ex) ν w' := by
    refine ⟨h2.os, h2.tape, h2.output, h2.size, fun b hb hn => h2.block b hb fun ho => hn ((hown b).2 (.inl ho)), fun b hb => ?_, fun _ _ _ h => h⟩
    rcases (hown' b).1 hb with hb | ⟨k, r, x, g1, g2, g3⟩
    · rcases h2.own b hb with g | g
      · exact .inl ((hown b).2 (.inl g))
      · exact .inr g
    · exact .inl (hxo b k r x g1 g2 g3)
  refine ⟨y, ν, rfl, ⟨hlen', fun k r hk => ?_, fun l m q q' z z' b hne g1 g2 g3 g4 g5 => ?_, fun b hb => ?_, fun b hb => b8p (hR.av b hb) h2.size, b8a hR.n0 h2.size⟩, hM, Den.keep (Keeps.sub hOO') (Den.nu hnu (fun k hk => by cases hk) h3)⟩
  · rcases b8s k rs'.length with hlt | hge
    · rw [b8d hlt] at hk
      obtain ⟨x, hx', hok⟩ := h1.res k r hk
      exact ⟨x, hnu k x (fun hk => by cases hk) hx', b4P hnu hOO' hok⟩
    · have hk' : (rs ++ ex)[k]? = some r := by
        rw [b8k hge] at hk
        rw [b8k (by omega), <- hl]; exact hk
      obtain ⟨x, hx', hok⟩ := hR.res k r hk'
      refine ⟨x, hx', ?_⟩
      have := hok.mv (O' := OO av (rs' ++ ex) ν) (hM.keeps (av := av)) hM.nu (fun b hf => h2.block b (hR.lt hk' hx' hf) (by
        rw [b8k hge] at hk
        exact hx b (k - rs'.length) r x hk (by rw [show rs.length + (k - rs'.length) = k by omega]; exact hx') hf))
      rwa [a0T] at this
  · rcases b8s l rs'.length with hl1' | hl1' <;> rcases b8s m rs'.length with hm1 | hm1
    · rw [b8d hl1'] at g1
      rw [b8d hm1] at g2
      have e1 : ν'[l]? = some z := by rw [<- hν1']; exact G9 hl1' g3
      have e2 : ν'[m]? = some z' := by rw [<- hν1']; exact G9 hm1 g4
      exact h1.dis l m q q' z z' b hne g1 g2 e1 e2 g5
    · rw [b8d hl1'] at g1
      rw [b8k hm1] at g2
      have e1 : ν'[l]? = some z := by rw [<- hν1']; exact G9 hl1' g3
      have g4' : ν[rs.length + (m - rs'.length)]? = some z' := by rw [show rs.length + (m - rs'.length) = m by omega]; exact g4
      intro hf
      rcases h2.own b ⟨l, q, z, g1, e1, g5⟩ with ho | ho
      · exact hx b _ q' z' g2 g4' hf ho
      · have := (hR.low b (hxo b _ q' z' g2 g4' hf)).1; omega
    · rw [b8k hl1'] at g1
      rw [b8d hm1] at g2
      have e2 : ν'[m]? = some z' := by rw [<- hν1']; exact G9 hm1 g4
      have g3' : ν[rs.length + (l - rs'.length)]? = some z := by rw [show rs.length + (l - rs'.length) = l by omega]; exact g3
      intro hf
      rcases h2.own b ⟨m, q', z', g2, e2, hf⟩ with ho | ho
      · exact hx b _ q z g1 g3' g5 ho
      · have := (hR.low b (hxo b _ q z g1 g3' g5)).1; omega
    · rw [b8k hl1'] at g1
      rw [b8k hm1] at g2
      exact hR.dis l m q q' z z' b hne (by rw [b8k (by omega), <- hl]; exact g1) (by rw [b8k (by omega), <- hl]; exact g2) g3 g4 g5
  · rcases (hown' b).1 hb with hb | ⟨k, r, x, g1, g2, g3⟩
    · obtain ⟨a1, a2, a3⟩ := h1.low b hb
      exact ⟨a1, fun ha => a2 ⟨.inl ha, hnav b ha⟩, a3⟩
    · obtain ⟨a1, a2, a3⟩ := hR.low b (hxo b k r x g1 g2 g3)
      exact ⟨b8p a1 h2.size, a2, a3⟩
end Go.Proofs.YtpjjiegfigpgnaaGreatDoor.Eng
namespace Go.Proofs.YtpjjiegfigpgnaaGreatDoor
open Go Go.RowKit Eng
set_option maxRecDepth 10000
set_option maxHeartbeats 8000000
def rsW (w : Wk) (n : Nms) : List Res := [.box 30 w.enc, .map true (nmE n), .box 105 [.mp 1]]
theorem b4e {E : Ctx} (hP : E.P = Tryz.prog) (ht0 : Tz E) (w : Wk) (n : Nms) (a : Am) (hb : Ab 1073741824 a) :
  l7 E (rsW w n) 48 [a.c, .bp 2 0] (ints (X5 n a).1) (rsW w (X5 n a).2) [] := by
 obtain ⟨P, eff', N, w0, own0, av0, nu0, pk0⟩ := E
 simp only at hP
 subst hP
 refine l7.ofT (eff := eff) ht0 Tryz.func48 (by cbv) (by exact b8q rfl) fun w' own av ν hν ht => ?_
 have hν0 : ν.length <= 3 := by rw [hν]; exact b8f _
 have b0 := hb.1
 have h2 := b3k a hb
 have h1 := fun (E : Ctx) (hP : E.P = Tryz.prog) => a8e hP n a.name (by omega)
 unfold X5
 generalize I4 n a.name = r at *
 obtain ⟨e1, m⟩ := r
 generalize a0I a = e2 at *
 obtain ⟨name, ⟨x, y, half, t⟩, links⟩ := a
 obtain ⟨arms, walls, parts, slots, gates, walk⟩ := w
 simp only [j6]
 simp only [Am.c, Am.enc, lks, sb, ints, rsW, Wk.enc, ams, wls, pts, sls, gts] at *
 (repeat first | refine uA ?_ | (refine uK ?_ ?_; focus first | omega | (intros; simp_all <;> omega)) | simp (disch := omega) only [go_sem, Nat.reduceBEq, Nat.reduceAdd, ww] | (refine uD h2 ?_ ?_ ?_; exact ht; exact rfl))
 refine S.cond rfl (fun hc => ?_) (fun hc => ?_)
 ·rw [if_pos (by simpa using hc)]
  (repeat first | refine uA ?_ | (refine uK ?_ ?_; focus first | omega | (intros; simp_all <;> omega)) | simp (disch := omega) only [go_sem, Nat.reduceBEq, Nat.reduceAdd, ww])
  (refine S.done ?_; simp only [z8, r9, go_sem, Nat.reduceBEq, Nat.reduceAdd, Nat.reduceLeDiff, Int.reduceToNat, Int.reducePow]; (repeat (refine ⟨?_, ?_⟩; focus first | trivial | omega | simp)); exact d9.M5 (Imp.refl rfl) (by (repeat first | refine uA ?_ | (refine ⟨?_, ?_⟩; focus first | rfl | simp [slot]) | rfl | simp)) (b8a hν0 (by simp)))
 rw [if_neg (by simpa using hc)]
 (repeat first | refine uA ?_ | (refine uK ?_ ?_; focus first | omega | (intros; simp_all <;> omega)) | simp (disch := omega) only [go_sem, Nat.reduceBEq, Nat.reduceAdd, ww] | refine p8.t (l7.lift (k := 1) rfl (h1 _ rfl) rfl rfl rfl) ?_)
 (refine S.done ?_; simp only [z8, r9, go_sem, Nat.reduceBEq, Nat.reduceAdd, Nat.reduceLeDiff, Int.reduceToNat, Int.reducePow]; (repeat (refine ⟨?_, ?_⟩; focus first | trivial | omega | simp)); exact d9.M5 (Imp.refl rfl) (by (repeat first | refine uA ?_ | (refine ⟨?_, ?_⟩; focus first | rfl | simp [slot]) | rfl | simp)) (b8a hν0 (by simp)))
theorem b2J {E : Ctx} (hP : E.P = Tryz.prog) (ht0 : Tz E) (w : Wk) (n : Nms) (l : List Am) (hn : l.length <= 1073741824) (hb : ∀ x ∈ l, Ab 1073741824 x) :
  l7 E (rsW w n) 51 [ams l, .clo 48 [.bp 2 0]] (ints (D9 X5 n l).1) (rsW w (D9 X5 n l).2) [] := by
 obtain ⟨P, eff', N, w0, own0, av0, nu0, pk0⟩ := E
 simp only at hP
 subst hP
 refine l7.ofT (eff := eff) ht0 Tryz.func51 (by cbv) (by exact b8q rfl) fun w' own av ν hν ht => ?_
 have hν0 : ν.length <= 3 := by rw [hν]; exact b8f _
 have hcal : callable Tryz.prog 48 = true := by kernel_rfl
 simp only [j6, ams, ints]
 simp only [rsW, Wk.enc, ams, wls, pts, sls, gts]
 (repeat first | refine uA ?_ | (refine uK ?_ ?_; focus first | omega | (intros; simp_all <;> omega)) | simp (disch := omega) only [go_sem, Nat.reduceBEq, Nat.reduceAdd, ww, b7Z])
 refine S.loop (X := Nat × Nms) (fun x => ⟨[(1, .clo 48 [.bp 2 0]), (8, ams l), (9, ints l.length), (10, ints x.1)], rsW w x.2⟩) (fun x => x.1 <= l.length /\ D9 X5 n l = D9 X5 x.2 (l.drop x.1)) (fun x => l.length - x.1) (0, n) ⟨b8b _, rfl⟩ (by simp only [rsW, Wk.enc, ams, wls, pts, sls, gts]; exact (by (repeat first | refine uA ?_ | (refine ⟨?_, ?_⟩; focus first | rfl | simp [slot]) | rfl | simp | exact b8a hν0 (by simp)))) ?_
 rintro ⟨i, m⟩ ⟨hi, hg⟩
 simp only [ams, ints, rsW, Wk.enc, wls, pts, sls, gts] at hi hg ⊢
 (repeat first | refine uA ?_ | (refine uK ?_ ?_; focus first | omega | (intros; simp_all <;> omega)) | simp (disch := omega) only [go_sem, Nat.reduceBEq, Nat.reduceAdd, ww])
 (refine uJ rfl (fun hc => ?_) fun hc => ?_)
 ·have hi' : i < l.length := by omega
  have hgi := b7W hi'
  generalize l[i] = x at hgi
  have hst := V6 (f := X5) (s := m) hgi
  have hnx := U8 (f := X5) (s := m) hgi
  have hs := fun (E : Ctx) (hP : E.P = Tryz.prog) (ht : Tz E) => b4e hP ht w m x (hb x (b8c hgi))
  generalize X5 m x = r at *
  obtain ⟨e, m'⟩ := r
  simp only [Am.c, Am.enc, lks, sb, ints, rsW, Wk.enc, ams, wls, pts, sls, gts] at hs hst hnx
  (repeat first | refine uA ?_ | (refine uK ?_ ?_; focus first | omega | (intros; simp_all <;> omega)) | simp (disch := omega) only [go_sem, Nat.reduceBEq, Nat.reduceAdd, ww, hgi, b7Y, b7Z, Am.enc, lks, sb, hcal] | refine p8.t (l7.ext _ (hs _ rfl ht) rfl rfl rfl) ?_)
  refine S.cond rfl (fun hc2 => ?_) (fun hc2 => ?_)
  ·rw [hg, hst (by simpa using hc2)]
   (repeat first | refine uA ?_ | (refine uK ?_ ?_; focus first | omega | (intros; simp_all <;> omega)) | simp (disch := omega) only [go_sem, Nat.reduceBEq, Nat.reduceAdd, ww])
   (refine S.done ?_; simp only [z8, r9, go_sem, Nat.reduceBEq, Nat.reduceAdd, Nat.reduceLeDiff, Int.reduceToNat, Int.reducePow]; (repeat (refine ⟨?_, ?_⟩; focus first | trivial | omega | simp)); exact d9.M5 (Imp.refl rfl) (by (repeat first | refine uA ?_ | (refine ⟨?_, ?_⟩; focus first | rfl | simp [slot]) | rfl | simp)) (b8a hν0 (by simp)))
  ·have hc3 : e = 0 := by simpa using hc2
   (repeat first | refine uA ?_ | (refine uK ?_ ?_; focus first | omega | (intros; simp_all <;> omega)) | simp (disch := omega) only [go_sem, Nat.reduceBEq, Nat.reduceAdd, ww])
   refine S.next (x := (i, m)) (i + 1, m') ⟨by simp only; omega, by simp only; rw [hg, hnx hc3]⟩ (by simp only; omega) (by (repeat first | refine uA ?_ | (refine ⟨?_, ?_⟩; focus first | rfl | simp [slot]) | rfl | simp | exact b8a hν0 (by simp)))
 ·rw [hg, Y6 (by omega)]
  (repeat first | refine uA ?_ | (refine uK ?_ ?_; focus first | omega | (intros; simp_all <;> omega)) | simp (disch := omega) only [go_sem, Nat.reduceBEq, Nat.reduceAdd, ww])
  (refine S.done ?_; simp only [z8, r9, go_sem, Nat.reduceBEq, Nat.reduceAdd, Nat.reduceLeDiff, Int.reduceToNat, Int.reducePow]; (repeat (refine ⟨?_, ?_⟩; focus first | trivial | omega | simp)); exact d9.M5 (Imp.refl rfl) (by (repeat first | refine uA ?_ | (refine ⟨?_, ?_⟩; focus first | rfl | simp [slot]) | rfl | simp)) (b8a hν0 (by simp)))
theorem a5P (w : Wk) (hb : Wb 1073741824 w) : FZ 11 [w.c] (ints (a0j w)) := by
 refine kW a6M a6Z (by rfl) fun w' O hw => ?_
 have ht : Tz ⟨Tryz.prog, eff, a1o.ntmps, w', fun _ => False, O, [], []⟩ := tz hw
 obtain ⟨⟨n1, b1⟩, ⟨n2, b2⟩, ⟨n3, b3⟩, ⟨n4, b4⟩, ⟨n5, b5⟩, b6⟩ := hb
 have h1 := fun (E : Ctx) (hP : E.P = Tryz.prog) (ht : Tz E) => b2J hP ht w [] w.arms n1 b1
 have h2 := b1d w.walls n2 b2
 unfold a0j a3i
 generalize D9 X5 [] w.arms = r1 at *
 obtain ⟨e1, m1⟩ := r1
 have h3 := fun (E : Ctx) (hP : E.P = Tryz.prog) (ht : Tz E) => b1r hP ht m1 w.parts n3 b3
 simp only at h3 ⊢
 generalize D9 W9 m1 w.parts = r3 at *
 obtain ⟨e3, m3⟩ := r3
 have h4 := fun (E : Ctx) (hP : E.P = Tryz.prog) (ht : Tz E) => b1w hP ht m3 w.slots n4 b4
 simp only at h4 ⊢
 generalize D9 V5 m3 w.slots = r4 at *
 obtain ⟨e4, m4⟩ := r4
 have h5 := fun (E : Ctx) (hP : E.P = Tryz.prog) (ht : Tz E) => b1i hP ht m4 w.gates n5 b5
 simp only at h5 ⊢
 generalize D9 V3 m4 w.gates = r5 at *
 obtain ⟨e5, m5⟩ := r5
 generalize F6 I9 w.walls = e2 at *
 simp only
 have h6 := a1K w.walk (b6.mono (by decide))
 have h7 := a1u w.walk (b6.mono (by decide))
 have h8 := R4 w.walk (b6.mono (by decide))
 unfold a8b
 generalize decide w.walk.D8 = q1 at *
 generalize j4 w.walk = q2 at *
 generalize D6 (Nm.j5 w.walk) = s8 at *
 obtain ⟨arms, walls, parts, slots, gates, walk⟩ := w
 simp only [a1o, j6, TT, II, OA, OB, OC, MM, LL, VV, FF, MG, LG, VG, FG] at ht ⊢
 simp only [Wk.c, Wk.enc, rsW, ams, wls, pts, sls, gts, rc, sb, ints] at *
 (repeat first | refine uA ?_ | (refine uK ?_ ?_; focus first | omega | (intros; simp_all <;> omega)) | simp (disch := omega) only [go_sem, Nat.reduceBEq, Nat.reduceAdd, ww, b7Z])
 refine S.cond rfl (fun hc => ?_) (fun hc => ?_)
 ·rw [if_pos (by simp only [b8N, b8o] at hc; omega)]
  (repeat first | refine uA ?_ | (refine uK ?_ ?_; focus first | omega | (intros; simp_all <;> omega)) | simp (disch := omega) only [go_sem, Nat.reduceBEq, Nat.reduceAdd, ww])
  exact S.done (d9.out rfl (Imp.refl rfl) rfl)
 rw [if_neg (by simp only [b8J, b8v] at hc; omega)]
 (repeat first | refine uA ?_ | (refine uK ?_ ?_; focus first | omega | (intros; simp_all <;> omega)) | simp (disch := omega) only [go_sem, Nat.reduceBEq, Nat.reduceAdd, ww, b7Z])
 refine S.cond rfl (fun hc => ?_) (fun hc => ?_)
 ·rw [if_pos (by simp only [b8o] at hc; omega)]
  (repeat first | refine uA ?_ | (refine uK ?_ ?_; focus first | omega | (intros; simp_all <;> omega)) | simp (disch := omega) only [go_sem, Nat.reduceBEq, Nat.reduceAdd, ww])
  exact S.done (d9.out rfl (Imp.refl rfl) rfl)
 rw [if_neg (by simp only [b8v] at hc; omega)]
 (repeat first | refine uI ?_ | (refine uK ?_ ?_; focus first | omega | (intros; simp_all <;> omega)) | simp (disch := omega) only [go_sem, Nat.reduceBEq, Nat.reduceAdd, ww])
 refine S.Z6 [.box 30 [.sl 12 (arms.map Am.enc), .sl 1 (walls.map fun s => [vts s]), .sl 12 (parts.map Pt.enc), .sl 14 (slots.map Sl.enc), .sl 13 (gates.map Gt.enc), .v (.bool walk.neg), .v (.string (bs walk.num)), .v (.string (bs walk.den))], .gone, .box 105 [.mp 1]] (by simp [Eng.F3, Eng.a1m]) ?_
 (repeat first | refine uA ?_ | (refine uK ?_ ?_; focus first | omega | (intros; simp_all <;> omega)) | simp (disch := omega) only [go_sem, Nat.reduceBEq, Nat.reduceAdd, ww, b7Z, F3] | refine p8.t (h1 _ rfl ht) ?_ | refine p8.t (l7.lift (k := 1) rfl (h3 _ rfl ht) rfl rfl rfl) ?_ | refine p8.t (l7.lift (k := 1) rfl (h4 _ rfl ht) rfl rfl rfl) ?_ | refine p8.t (l7.lift (k := 1) rfl (h5 _ rfl ht) rfl rfl rfl) ?_ | (refine uD h2 ?_ ?_ ?_; exact tz hw; exact rfl))
 generalize hL : [e1, e2, e3, e4, e5] = L
 have hl5 : L.length = 5 := by rw [<- hL]; rfl
 have e63 : [[C.v (Value.int IntKind.i64 e1)], [C.v (Value.int IntKind.i64 e2)], [C.v (Value.int IntKind.i64 e3)], [C.v (Value.int IntKind.i64 e4)], [C.v (Value.int IntKind.i64 e5)]] = L.map fun e => [C.v (Value.int IntKind.i64 e)] := by rw [<- hL]; rfl
 simp only [e63]
 refine S.loop (X := Nat) (fun i => ⟨[(1, .bp 0 0), (63, .sl 1 (L.map fun e => [.v (.int .i64 e)])), (64, ints 5), (65, ints i)], [.box 30 [.sl 12 (arms.map Am.enc), .sl 1 (walls.map fun s => [vts s]), .sl 12 (parts.map Pt.enc), .sl 14 (slots.map Sl.enc), .sl 13 (gates.map Gt.enc), .v (.bool walk.neg), .v (.string (bs walk.num)), .v (.string (bs walk.den))]]⟩) (fun i => i <= 5 /\ F6 id L = F6 id (L.drop i)) (fun i => 5 - i) 0 ⟨b8b _, rfl⟩ (by (repeat first | refine uA ?_ | (refine ⟨?_, ?_⟩; focus first | rfl | simp [slot]) | rfl | simp)) ?_
 rintro i ⟨hi, hg⟩
 simp only [ints] at hi hg ⊢
 (repeat first | refine uA ?_ | (refine uK ?_ ?_; focus first | omega | (intros; simp_all <;> omega)) | simp (disch := omega) only [go_sem, Nat.reduceBEq, Nat.reduceAdd, ww])
 (refine uJ rfl (fun hc => ?_) fun hc => ?_)
 ·have hi' : i < L.length := by omega
  have hgi := b7W hi'
  generalize L[i] = x at hgi
  have hst := a1z (f := id) hgi
  have hnx := a1v (f := id) hgi
  simp only [id] at hst hnx
  (repeat first | refine uA ?_ | (refine uK ?_ ?_; focus first | omega | (intros; simp_all <;> omega)) | simp (disch := omega) only [go_sem, Nat.reduceBEq, Nat.reduceAdd, ww, hgi, b7Y, b7Z, hl5])
  refine S.cond rfl (fun hc2 => ?_) (fun hc2 => ?_)
  ·have h0 : x ≠ 0 := by simpa using hc2
   rw [hg, hst h0, if_pos h0]
   (repeat first | refine uA ?_ | (refine uK ?_ ?_; focus first | omega | (intros; simp_all <;> omega)) | simp (disch := omega) only [go_sem, Nat.reduceBEq, Nat.reduceAdd, ww])
   exact S.done (d9.out rfl (Imp.refl rfl) rfl)
  ·have hc3 : x = 0 := by simpa using hc2
   (repeat first | refine uA ?_ | (refine uK ?_ ?_; focus first | omega | (intros; simp_all <;> omega)) | simp (disch := omega) only [go_sem, Nat.reduceBEq, Nat.reduceAdd, ww])
   refine S.next (i + 1) ⟨by omega, by rw [hg]; exact hnx hc3⟩ (by omega) (by (repeat first | refine uA ?_ | (refine ⟨?_, ?_⟩; focus first | rfl | simp [slot]) | rfl | simp))
 ·rw [hg, a1W (by omega), if_neg (by decide)]
  (repeat first | refine uA ?_ | (refine uK ?_ ?_; focus first | omega | (intros; simp_all <;> omega)) | simp (disch := omega) only [go_sem, Nat.reduceBEq, Nat.reduceAdd, ww] | (refine uD h6 ?_ ?_ ?_; exact tz hw; exact rfl) | (refine uD h7 ?_ ?_ ?_; exact tz hw; exact rfl) | (refine uD h8 ?_ ?_ ?_; exact tz hw; exact rfl))
  refine S.cond rfl (fun hc => ?_) (fun hc => ?_)
  ·rw [if_neg (by simp only [b8N, Bool.not_eq_true', b8o] at hc; simp only [b8g, b8o]; rintro ⟨⟨g7, g8⟩, g9⟩; rcases hc with (hc | hc) | hc <;> first | (rw [hc] at g7; cases g7; done) | (rw [hc] at g8; cases g8; done) | omega)]
   (repeat first | refine uA ?_ | (refine uK ?_ ?_; focus first | omega | (intros; simp_all <;> omega)) | simp (disch := omega) only [go_sem, Nat.reduceBEq, Nat.reduceAdd, ww])
   exact S.done (d9.out rfl (Imp.refl rfl) rfl)
  ·rw [if_pos (by simp only [b8J, Bool.not_eq_false', b8v] at hc; simp only [b8g, b8o]; obtain ⟨⟨g7, g8⟩, g9⟩ := hc; exact ⟨⟨g7, g8⟩, by omega⟩)]
   (repeat first | refine uA ?_ | (refine uK ?_ ?_; focus first | omega | (intros; simp_all <;> omega)) | simp (disch := omega) only [go_sem, Nat.reduceBEq, Nat.reduceAdd, ww])
   exact S.done (d9.out rfl (Imp.refl rfl) rfl)
end Go.Proofs.YtpjjiegfigpgnaaGreatDoor
namespace Go.Proofs.YtpjjiegfigpgnaaGreatDoor.Eng
open Go Go.RowKit
mutual
def C.sh (n : Nat) : C -> C
 | .rv k => .rv (n + k)
 | .agg cs => .agg (C.shL n cs)
 | .tup cs => .tup (C.shL n cs)
 | c => c
def C.shL (n : Nat) : List C -> List C
 | [] => []
 | c :: cs => C.sh n c :: C.shL n cs
end
mutual
def C.okS : C -> Bool
 | .rv _ => true
 | .agg cs => C.a8Z cs
 | .tup cs => C.a8Z cs
 | c => c.cl
def C.a8Z : List C -> Bool
 | [] => true
 | c :: cs => C.okS c && C.a8Z cs
end
section
variable {ν ν' : List Value} {w : World} {O O' : Nat -> Prop}
mutual
theorem b2m (hO : ∀ b, O' b -> O b) : ∀ {c : C} {y : Value}, c.okS = true -> Den ν' w O c y -> Den (ν ++ ν') w O' (C.sh ν.length c) y
 | .rv k, y, _, h => by
  simp only [C.sh, Den] at h ⊢
  exact ⟨by rw [b8k (by omega), show ν.length + k - ν.length = k by omega]; exact h.1, h.2⟩
 | .agg cs, y, hc, h => by
  simp only [C.sh, Den, C.okS] at h hc ⊢
  obtain ⟨vs, h1, h2⟩ := h
  exact ⟨vs, a7a hO hc h1, h2⟩
 | .tup cs, y, hc, h => by
  simp only [C.sh, Den, C.okS] at h hc ⊢
  obtain ⟨vs, h1, h2⟩ := h
  exact ⟨vs, a7a hO hc h1, h2⟩
 | .v x, y, hc, h => by simpa only [C.sh, Den] using h
 | .sl sz es, y, hc, h => by simp only [C.sh]; exact (Fz.keep (Keeps.sub hO) (h.fz hc)).den _
 | .nl, y, hc, h => by simpa only [C.sh, Den] using h
 | .ep cs, y, hc, h => by simp only [C.sh]; exact (Fz.keep (Keeps.sub hO) (h.fz hc)).den _
 | .clo f cs, y, hc, h => by simp only [C.sh]; exact (Fz.keep (Keeps.sub hO) (h.fz hc)).den _
 | .bnd f x, y, hc, h => by simp only [C.sh]; exact (Fz.keep (Keeps.sub hO) (h.fz hc)).den _
 | .any S, y, hc, h => by simpa only [C.sh, Den] using h
 | .bp _ _, y, hc, h => by simp only [C.okS, C.cl] at hc; cases hc
 | .rp _ _ _ _, y, hc, h => by simp only [C.okS, C.cl] at hc; cases hc
 | .mp _, y, hc, h => by simp only [C.okS, C.cl] at hc; cases hc
 | .wv _ _ _ _, y, hc, h => by simp only [C.okS, C.cl] at hc; cases hc
 | .g _ _, y, hc, h => by simp only [C.okS, C.cl] at hc; cases hc
 | .junk, y, hc, h => by simp only [C.okS, C.cl] at hc; cases hc
theorem a7a (hO : ∀ b, O' b -> O b) : ∀ {cs : List C} {vs : List Value}, C.a8Z cs = true -> j3 ν' w O cs vs -> j3 (ν ++ ν') w O' (C.shL ν.length cs) vs
 | [], vs, _, h => by simpa only [C.shL, j3] using h
 | c :: cs, vs, hc, h => by
  simp only [C.shL, j3, C.a8Z, b8g] at h hc ⊢
  obtain ⟨y, ys, e, h1, h2⟩ := h
  exact ⟨y, ys, e, b2m hO hc.1 h1, a7a hO hc.2 h2⟩
end
end
def Res.b4L : Res -> Bool
 | .gone => true
 | r => r.shut
theorem b3C {ν ν' : List Value} {w : World} {O O' : Nat -> Prop} {x : Value} {r : Res} (hs : r.b4L = true) (hO : ∀ b, O' b -> O b) (h : I7 ν w O x r) : I7 ν' w O' x r := by
 cases r with
 | gone => trivial
 | box t cs => exact a3l hs hO h
 | row e sz es => exact a3l rfl hO h
 | map s es => exact a3l rfl hO h
theorem l7.pre {E : Ctx} {rs rs' : List Res} {f : Nat} {args : List C} {s : C} (h : l7 E [] f args s rs' []) (hr : rs'.all Res.b4L = true) (hs : s.okS = true) (ha : C.clL args = true) : l7 E rs f args (C.sh rs.length s) (rs ++ rs') [] := by
  intro av ν w vs hR hav hF hD
  rw [List.all_eq_true] at hr
  let av' : Nat -> Prop := OO av rs ν
  have hlt : ∀ b, av' b -> b < w.heap.size := fun b hb => by
    rcases hb with hb | hb
    · exact hR.av b hb
    · exact (hR.low b hb).1
  have ho0 : ∀ b, ¬ owned [] [] b := fun b ⟨k, r, x, hk, _⟩ => by simp at hk
  have hRG : RG av' E.own0 E.w0.heap.size [] [] w := ⟨rfl, fun k r hk => by simp at hk, fun k l r r' x x' b _ hk => by simp at hk, fun b hb => (ho0 b hb).elim, hlt, hR.n0⟩
  have hOO : ∀ b, OO av' [] [] b -> OO av rs ν b := fun b hb => hb.elim id fun h => (ho0 b h).elim
  refine (h av' [] w vs hRG (fun b hb => .inl (hav b hb)) hF ((FzL.keep (Keeps.sub hOO) (hD.fz ha)).den _)).mono ?_
  rintro e w' ⟨y, ν', rfl, h1, h2, h3⟩
  have hlen : (ν ++ ν').length = (rs ++ rs').length := by rw [b7X, b7X, hR.len, h1.len]
  have htk : (ν ++ ν').take rs.length = ν := by rw [<- hR.len]; simp
  have hown := fun b => a1O hlen b
  rw [htk] at hown
  have hnew : ∀ b, (∃ k r x, rs'[k]? = some r /\ (ν ++ ν')[rs.length + k]? = some x /\ fp r x b) -> owned rs' ν' b := by
    rintro b ⟨k, r, x, g1, g2, g3⟩
    rw [<- hR.len, b8k (by omega), show ν.length + k - ν.length = k by omega] at g2
    exact ⟨k, r, x, g1, g2, g3⟩
  have hge : ∀ b, owned rs' ν' b -> w.heap.size <= b := fun b hb => (h2.own b hb).elim (fun h => (ho0 b h).elim) id
  have hnu : O8 [] ν (ν ++ ν') := fun k x _ hx => by rw [b8d (b8e.1 hx).1]; exact hx
  have hM : Mv rs ν w [] (rs ++ rs') (ν ++ ν') w' := by
    refine ⟨h2.os, h2.tape, h2.output, h2.size, fun b hb _ => h2.block b hb (ho0 b), fun b hb => ?_, hnu⟩
    rcases (hown b).1 hb with hb | hb
    · exact .inl hb
    · exact .inr (hge b (hnew b hb))
  have hOO' : ∀ b, OO av (rs ++ rs') (ν ++ ν') b -> OO av' rs' ν' b := fun b hb => by
    rcases hb with hb | hb
    · exact .inl (.inl hb)
    · rcases (hown b).1 hb with hb | hb
      · exact .inl (.inr hb)
      · exact .inr (hnew b hb)
  refine ⟨y, ν ++ ν', rfl, ⟨hlen, fun k r hk => ?_, fun l m q q' z z' b hne g1 g2 g3 g4 g5 => ?_, fun b hb => ?_, fun b hb => b8p (hR.av b hb) h2.size, b8a hR.n0 h2.size⟩, hM, by rw [<- hR.len]; exact b2m hOO' hs h3⟩
  · rcases b8s k rs.length with hlt' | hge'
    · rw [b8d hlt'] at hk
      obtain ⟨x, hx, hok⟩ := hR.res k r hk
      have := hok.mv (hM.keeps (av := av)) hM.nu (fun b hf => h2.block b (hR.lt hk hx hf) (ho0 b))
      rw [a0T] at this
      exact ⟨x, hnu k x (fun h => by cases h) hx, this⟩
    · rw [b8k hge'] at hk
      obtain ⟨x, hx, hok⟩ := h1.res _ r hk
      refine ⟨x, by rw [b8k (by rw [hR.len]; exact hge'), hR.len]; exact hx, b3C (hr r (b8c hk)) hOO' hok⟩
  · have old : ∀ {l q z}, l < rs.length -> (rs ++ rs')[l]? = some q -> (ν ++ ν')[l]? = some z -> rs[l]? = some q /\ ν[l]? = some z := fun hl a1 a2 => by
      rw [b8d hl] at a1
      rw [b8d (by rw [hR.len]; exact hl)] at a2
      exact ⟨a1, a2⟩
    have new : ∀ {l q z}, rs.length <= l -> (rs ++ rs')[l]? = some q -> (ν ++ ν')[l]? = some z -> rs'[l - rs.length]? = some q /\ ν'[l - rs.length]? = some z := fun hl a1 a2 => by
      rw [b8k hl] at a1
      rw [b8k (by rw [hR.len]; exact hl), hR.len] at a2
      exact ⟨a1, a2⟩
    rcases b8s l rs.length with hl1 | hl1 <;> rcases b8s m rs.length with hm1 | hm1
    · obtain ⟨a1, a2⟩ := old hl1 g1 g3
      obtain ⟨a3, a4⟩ := old hm1 g2 g4
      exact hR.dis l m q q' z z' b hne a1 a3 a2 a4 g5
    · obtain ⟨a1, a2⟩ := old hl1 g1 g3
      obtain ⟨a3, a4⟩ := new hm1 g2 g4
      intro hf
      have := hR.lt a1 a2 g5
      have := hge b ⟨_, _, _, a3, a4, hf⟩
      omega
    · obtain ⟨a1, a2⟩ := new hl1 g1 g3
      obtain ⟨a3, a4⟩ := old hm1 g2 g4
      intro hf
      have := hR.lt a3 a4 hf
      have := hge b ⟨_, _, _, a1, a2, g5⟩
      omega
    · obtain ⟨a1, a2⟩ := new hl1 g1 g3
      obtain ⟨a3, a4⟩ := new hm1 g2 g4
      exact h1.dis _ _ q q' z z' b (by omega) a1 a3 a2 a4 g5
  · rcases (hown b).1 hb with hb | hb
    · obtain ⟨a1, a2, a3⟩ := hR.low b hb
      exact ⟨b8p a1 h2.size, a2, a3⟩
    · obtain ⟨a1, a2, a3⟩ := h1.low b (hnew b hb)
      exact ⟨a1, fun ha => a2 (.inl ha), a3⟩
end Go.Proofs.YtpjjiegfigpgnaaGreatDoor.Eng
namespace Go.Proofs.YtpjjiegfigpgnaaGreatDoor
open Go Go.RowKit Eng
set_option maxRecDepth 100000
set_option maxHeartbeats 8000000
theorem b4i (es : List (List C)) (hn : es.length <= 1073741824) : FNew Tryz.prog 65 [.sl 6 es] 32 6 es := by
 refine FNew.of (eff := eff) Tryz.func65 (by cbv) (by exact b8q rfl) fun w O => ?_
 simp only [j6]
 (repeat first | refine uA ?_ | (refine uK ?_ ?_; focus first | omega | (intros; simp_all <;> omega)) | simp (disch := omega) only [go_sem, Nat.reduceBEq, Nat.reduceAdd, ww])
 refine S.split 4 (Sx := fun y => ∃ b, y = .bool b /\ (es ≠ [] -> b = false)) rfl fun y hy => ?_
 obtain ⟨b, rfl, hb⟩ := hy
 refine S.cond rfl (fun hc => ?_) (fun hc => ?_)
 ·have he : es = [] := Classical.byContradiction fun h => by rw [hb h] at hc; cases hc
  subst he
  (repeat first | refine uA ?_ | (refine uK ?_ ?_; focus first | omega | (intros; simp_all <;> omega)) | simp (disch := omega) only [go_sem, Nat.reduceBEq, Nat.reduceAdd, ww])
  refine S.weaken (Ent.pack 2 32 6 rfl) ?_
  exact S.done (d9.new rfl rfl rfl)
 ·(repeat first | refine uA ?_ | (refine uK ?_ ?_; focus first | omega | (intros; simp_all <;> omega)) | simp (disch := omega) only [go_sem, Nat.reduceBEq, Nat.reduceAdd, ww])
  exact S.done (d9.new rfl rfl rfl)
end Go.Proofs.YtpjjiegfigpgnaaGreatDoor
