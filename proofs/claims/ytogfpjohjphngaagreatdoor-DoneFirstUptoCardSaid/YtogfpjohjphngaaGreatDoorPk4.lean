/- A part of the proof: lemmas only, with the conditions that each names. -/
import Derived.Test.YtogfpjohjphngaaGreatDoorProg
import Derived.KernelRfl
import Derived.Test.YtogfpjohjphngaaGreatDoorPk3
namespace Go.Proofs.YtogfpjohjphngaaGreatDoor
set_option linter.all false
open Go Go.RowKit Eng
set_option maxRecDepth 10000
set_option maxHeartbeats 4000000
structure Win (u : List Nat) (lo n v : Nat) : Prop where
 hn : lo + n <= u.length
 hlo : lo < u.length
 hl : u.length <= 17179869184
 ha : Nm.K4 u
 hv : Nm.wv 18446744073709551616 ((u.drop lo).take n) = v
 ht : Nm.F6 ((u.drop lo).take n) = (u.drop lo).take n
theorem Win.len {u : List Nat} {lo n v : Nat} (h : Win u lo n v) : ((u.drop lo).take n).length = n := by
 have := h.hn
 rw [List.length_take, List.length_drop]; omega
theorem b9M {us a : List Nat} {k : Nat} (hu : Nm.K4 us) (ha : Nm.K4 a) : Nm.K4 (put us k a) := fun w hw => by
 simp only [put, List.mem_append] at hw
 rcases hw with (hw | hw) | hw
 ·exact hu w (List.mem_of_mem_take hw)
 ·exact ha w hw
 ·exact hu w (List.mem_of_mem_drop hw)
theorem Win.put {u : List Nat} {l1 p z : Nat} (h1 : l1 + p <= u.length) (h2 : l1 < u.length) (hl : u.length <= 17179869184) (ha : Nm.K4 u) (hz : z < 18446744073709551616 ^ p) :
  Win (put u l1 (Nm.dig 18446744073709551616 p z)) l1 (Nm.F6 (Nm.dig 18446744073709551616 p z)).length z := by
 have hpl : (Go.Proofs.YtogfpjohjphngaaGreatDoor.put u l1 (Nm.dig 18446744073709551616 p z)).length = u.length := X4 (by rw [Nm.I9]; omega)
 have htl := Nm.b9e (Nm.dig 18446744073709551616 p z)
 rw [Nm.I9] at htl
 have hw : ((Go.Proofs.YtogfpjohjphngaaGreatDoor.put u l1 (Nm.dig 18446744073709551616 p z)).drop l1).take (Nm.F6 (Nm.dig 18446744073709551616 p z)).length = Nm.F6 (Nm.dig 18446744073709551616 p z) := by
  have e := a1N (us := u) (k := l1) (a := Nm.dig 18446744073709551616 p z) (n := p) (Nm.I9 _ _ _).symm (by rw [Nm.I9]; omega)
  have e2 := congrArg (List.take (Nm.F6 (Nm.dig 18446744073709551616 p z)).length) e
  rw [List.take_take, Nat.min_eq_left htl, Nm.b8p] at e2
  exact e2
 refine ⟨by rw [hpl]; omega, by rw [hpl]; exact h2, by rw [hpl]; exact hl, b9M ha (Nm.a0r (by decide) _ _), ?_, ?_⟩
 ·rw [hw, Nm.c0I, Nm.R5 hz]
 ·rw [hw]
  have h4 : ∀ l, Nm.F6 (Nm.F6 l) = Nm.F6 l := fun l => by
   by_cases h : Nm.F6 l = []
   ·rw [h]; rfl
   ·have h5 := Nm.b0u l h
    have h6 : Nm.F6 l = (Nm.F6 l).dropLast ++ [(Nm.F6 l).getLast h] := (List.dropLast_concat_getLast h).symm
    rw [h6, Nm.a3j h5]
  exact h4 _
theorem Win.last {u : List Nat} {lo n v : Nat} (h : Win u lo n v) : ∀ hh : (u.drop lo).take n ≠ [], ((u.drop lo).take n).getLast hh ≠ 0 := by
 have ht := h.ht
 generalize (u.drop lo).take n = x at *
 intro hh
 have := Nm.b0u x (by rw [ht]; exact hh)
 simpa only [ht] using this
theorem Win.all {u : List Nat} {lo n v : Nat} (h : Win u lo n v) : Nm.K4 ((u.drop lo).take n) := (h.ha.drop lo).take n
theorem Win.zero {u : List Nat} {lo n v : Nat} (h : Win u lo n v) (h0 : v = 0) : n = 0 := by
 rcases Nat.eq_zero_or_pos n with h1 | h1
 ·exact h1
 ·exfalso
  have hl := h.len
  have hla := h.last
  have hv := h.hv
  generalize (u.drop lo).take n = x at *
  have hne : x ≠ [] := fun e => by subst e; simp at hl; omega
  have h2 := Nm.b4l (B := 18446744073709551616) (l := x.dropLast) (hla hne)
  rw [List.dropLast_concat_getLast hne] at h2
  have := Nat.pow_pos (n := x.dropLast.length) (show 0 < 18446744073709551616 by decide)
  omega
theorem Win.nonzero {u : List Nat} {lo n v : Nat} (h : Win u lo n v) (h0 : n = 0) : v = 0 := by
 have := h.hv; subst h0; rw [<- this]; rfl
theorem Win.le {u o : List Nat} {lo n v lo2 n2 v2 : Nat} (h : Win u lo n v) (h2 : Win o lo2 n2 v2) (hle : v2 <= v) : n2 <= n := by
 rcases Nat.lt_or_ge n n2 with h1 | h1
 ·exfalso
  have hl := h2.len
  have hla := h2.last
  have hv := h2.hv
  have hl1 := Nm.J8 18446744073709551616 h.all
  rw [h.len, h.hv] at hl1
  generalize (o.drop lo2).take n2 = x at *
  have hne : x ≠ [] := fun e => by subst e; simp at hl; omega
  have h3 := Nm.b4l (B := 18446744073709551616) (l := x.dropLast) (hla hne)
  rw [List.dropLast_concat_getLast hne, List.length_dropLast] at h3
  have h4 : 18446744073709551616 ^ n <= 18446744073709551616 ^ (x.length - 1) := Nat.pow_le_pow_right (by decide) (by omega)
  omega
 ·exact h1
theorem Win.v2 {u : List Nat} {lo n v : Nat} (h : Win u lo n v) (h0 : v ≠ 0) : Nm.v2 v <= 70368744177664 := by
 obtain ⟨q, h1, h2⟩ := Nm.a2v h0
 have hl1 := Nm.J8 18446744073709551616 h.all
 rw [h.len, h.hv] at hl1
 have h3 : 2 ^ Nm.v2 v <= v := by
  conv => rhs; rw [h1]
  exact Nat.le_mul_of_pos_right _ (by omega)
 have h4 : 2 ^ Nm.v2 v < 2 ^ (64 * n) := by rw [Nat.pow_mul]; exact Nat.lt_of_le_of_lt h3 hl1
 have h5 := (Nat.pow_lt_pow_iff_right (by decide : 1 < 2)).1 h4
 have := h.hn; have := h.hl
 omega
namespace Nm
theorem c1w (n k : Nat) (h : k < 8) : (be8 n)[k]? = some (oB (n / 2 ^ (56 - 8 * k))) := by
 have : k = 0 \/ k = 1 \/ k = 2 \/ k = 3 \/ k = 4 \/ k = 5 \/ k = 6 \/ k = 7 := by omega
 rcases this with rfl | rfl | rfl | rfl | rfl | rfl | rfl | rfl <;> simp [be8]
theorem a7D (n : Nat) : (be8 n).length = 8 := rfl
def a1t (l : List Nat) : List UInt8 := (l.reverse.map be8).flatten
theorem b0t (l : List Nat) (x : Nat) : a1t (l ++ [x]) = be8 x ++ a1t l := by simp [a1t]
theorem b2h (r : List Nat) (h : K4 r.reverse) : (a1t r.reverse).length = 8 * r.length /\ val (a1t r.reverse) = wv 18446744073709551616 r.reverse := by
 induction r with
 | nil => exact ⟨rfl, rfl⟩
 | cons x r ih =>
  rw [List.reverse_cons] at h ⊢
  obtain ⟨h1, h2⟩ := ih fun w hw => h w (List.mem_append_left _ hw)
  rw [b0t, a7T, b6w, h1, h2, b6J (h x (by simp)), List.length_reverse, List.length_append, a7D, h1, List.length_cons]
  refine ⟨by omega, ?_⟩
  rw [Nat.pow_mul, show (256 : Nat) ^ 8 = 18446744073709551616 by decide, Nat.mul_comm x, Nat.add_comm]
theorem b1S {l : List Nat} (h : K4 l) : (a1t l).length = 8 * l.length := by
 have := (b2h l.reverse (by simpa using h)).1
 simpa using this
theorem b9A {l : List Nat} (h : K4 l) : val (a1t l) = wv 18446744073709551616 l := by
 have := (b2h l.reverse (by simpa using h)).2
 simpa using this
def a1f (l : List Nat) (i k : Nat) : List UInt8 := List.replicate (8 * (l.length - 1 - i)) 0 ++ ((be8 (l.getD i 0)).take k ++ List.replicate (8 - k) 0) ++ a1t (l.take i)
def a3D (l : List Nat) (i : Nat) : List UInt8 := List.replicate (8 * (l.length - i)) 0 ++ a1t (l.take i)
theorem b9o (l : List Nat) : a3D l 0 = List.replicate (8 * l.length) 0 := by simp [a3D, a1t]
theorem b4G (l : List Nat) : a3D l l.length = a1t l := by simp [a3D]
theorem b1P {l : List Nat} {i : Nat} (h : i < l.length) : a1f l i 0 = a3D l i := by
 rw [a1f, a3D, List.take_zero, List.nil_append, Nat.sub_zero, List.replicate_append_replicate]
 congr 2; omega
theorem b0f {l : List Nat} {i : Nat} (h : i < l.length) : a1f l i 8 = a3D l (i + 1) := by
 have e : l.take (i + 1) = l.take i ++ [l.getD i 0] := by
  rw [List.take_add_one, List.getD_eq_getElem?_getD, List.getElem?_eq_getElem h]; rfl
 rw [a1f, a3D, e, b0t, List.take_of_length_le (by rw [a7D]; exact Nat.le_refl _), Nat.sub_self, List.replicate_zero, List.append_nil, List.append_assoc]
 congr 3; omega
theorem b4f {l : List Nat} (hl : K4 l) {i k : Nat} (h : i < l.length) (hk : k <= 8) : (a1f l i k).length = 8 * l.length := by
 simp only [a1f, List.length_append, List.length_replicate, List.length_take, a7D, b1S (hl.take i), List.length_take]
 omega
theorem b1A {l : List Nat} {i k : Nat} (hk : k < 8) : (a1f l i k).set (8 * (l.length - 1 - i) + k) (oB (l.getD i 0 / 2 ^ (56 - 8 * k))) = a1f l i (k + 1) := by
 have e : (be8 (l.getD i 0)).take (k + 1) = (be8 (l.getD i 0)).take k ++ [oB (l.getD i 0 / 2 ^ (56 - 8 * k))] := by
  rw [List.take_add_one, c1w _ _ hk]; rfl
 have e2 : List.replicate (8 - k) (0 : UInt8) = 0 :: List.replicate (8 - (k + 1)) 0 := by rw [<- List.replicate_succ]; congr 1; omega
 have hlk : ((be8 (l.getD i 0)).take k).length = k := by rw [List.length_take, a7D]; omega
 rw [a1f, a1f, e, e2, List.set_append_left _ _ (by simp only [List.length_append, List.length_replicate, hlk, List.length_cons]; omega), List.set_append_right _ _ (by simp), List.length_replicate, Nat.add_sub_cancel_left, List.set_append_right _ _ (by omega), hlk, Nat.sub_self, List.set_cons_zero, List.append_assoc (List.take k _), List.singleton_append]
theorem b8A (n : Nat) : val (oB (2 ^ (n % 8)) :: List.replicate (n / 8) 0) = 2 ^ n := by
 have h0 : val (List.replicate (n / 8) (0 : UInt8)) = 0 := by
  generalize n / 8 = k
  induction k with
  | zero => rfl
  | succ k ih => rw [List.replicate_succ, U9, ih]; simp
 have h1 : 2 ^ (n % 8) < 256 := by
  have : 2 ^ (n % 8) <= 2 ^ 7 := Nat.pow_le_pow_right (by decide) (by omega)
  omega
 rw [U9, h0, a1j, Nat.mod_eq_of_lt h1, List.length_replicate, Nat.add_zero, show (256 : Nat) = 2 ^ 8 by decide, <- Nat.pow_mul, <- Nat.pow_add]
 congr 1; omega
end Nm
end Go.Proofs.YtogfpjohjphngaaGreatDoor
namespace Go.Proofs.YtogfpjohjphngaaGreatDoor
set_option linter.all false
open Go Go.RowKit Eng
set_option maxRecDepth 10000
set_option maxHeartbeats 4000000
structure Hv where
 s : Bool
 u : List Nat
 lo : Nat
 n : Nat
 v : Nat
 o : List Nat
 lo2 : Nat
 n2 : Nat
 v2 : Nat
theorem c0e (a b : List UInt8) (ha : a.length <= 68719476736) (hb : b.length <= 68719476736) (h0a : Nm.val a ≠ 0) (h0b : Nm.val b ≠ 0) : FZ 222 [sb a, sb b] (sb (Nm.enc (Nat.gcd (Nm.val a) (Nm.val b)))) := by
  refine q8.of b2A b2v (by exact Nat.le_of_ble_eq_true rfl) fun w O hw => ?_
  simp only [a6k, l9, TT, II, OA, OB, OC, MM, LL, VV, FF, MG, LG, VG, FG, sb]
  have hla := b6z a (by omega)
  have hlb := b6z b (by omega)
  have hva := Nm.a9G a
  have hvb := Nm.a9G b
  have haa := Nm.a9C a
  have hab := Nm.a9C b
  have hna := Nm.a8E a
  have hnb := Nm.a8E b
  obtain ⟨za, hza, hoa⟩ := Nm.a2v h0a
  obtain ⟨zb, hzb, hob⟩ := Nm.a2v h0b
  have hG : Nat.gcd (Nm.val a) (Nm.val b) = 2 ^ (min (Nm.v2 (Nm.val a)) (Nm.v2 (Nm.val b))) * Nat.gcd za zb := by
    conv => lhs; rw [hza, hzb]
    exact Nm.b9Z hoa hob
  rw [hG]
  have fea := a7K (Nm.N7 a) (by omega) haa (by rw [hva]; exact h0a)
  have feb := a7K (Nm.N7 b) (by omega) hab (by rw [hvb]; exact h0b)
  rw [hva] at fea
  rw [hvb] at feb
  have hba : Nm.v2 (Nm.val a) <= 549755813888 := by
    have h1 := Nm.V4 a
    have h3 : 2 ^ Nm.v2 (Nm.val a) <= Nm.val a := by
      conv => rhs; rw [hza]
      exact Nat.le_mul_of_pos_right _ (by omega)
    have h4 : 2 ^ Nm.v2 (Nm.val a) < 2 ^ (8 * a.length) := by rw [Nat.pow_mul]; exact Nat.lt_of_le_of_lt h3 h1
    have h5 := (Nat.pow_lt_pow_iff_right (by decide : 1 < 2)).1 h4
    omega
  have hbb : Nm.v2 (Nm.val b) <= 549755813888 := by
    have h1 := Nm.V4 b
    have h3 : 2 ^ Nm.v2 (Nm.val b) <= Nm.val b := by
      conv => rhs; rw [hzb]
      exact Nat.le_mul_of_pos_right _ (by omega)
    have h4 : 2 ^ Nm.v2 (Nm.val b) < 2 ^ (8 * b.length) := by rw [Nat.pow_mul]; exact Nat.lt_of_le_of_lt h3 h1
    have h5 := (Nat.pow_lt_pow_iff_right (by decide : 1 < 2)).1 h4
    omega
  have hla0 : 0 < (Nm.N7 a).length := by
    rcases Nat.eq_zero_or_pos (Nm.N7 a).length with h | h
    · have := List.length_eq_zero_iff.1 h
      rw [this] at hva; exact absurd hva.symm h0a
    · exact h
  have hlb0 : 0 < (Nm.N7 b).length := by
    rcases Nat.eq_zero_or_pos (Nm.N7 b).length with h | h
    · have := List.length_eq_zero_iff.1 h
      rw [this] at hvb; exact absurd hvb.symm h0b
    · exact h
  generalize Nm.v2 (Nm.val a) = p at *
  generalize Nm.v2 (Nm.val b) = q at *
  have hwa : Nm.wv 18446744073709551616 (((Nm.N7 a).drop 0).take (Nm.N7 a).length) = za * 2 ^ p := by
    rw [List.drop_zero, List.take_length, hva, hza, Nat.mul_comm]
  have hwb : Nm.wv 18446744073709551616 (((Nm.N7 b).drop 0).take (Nm.N7 b).length) = zb * 2 ^ q := by
    rw [List.drop_zero, List.take_length, hvb, hzb, Nat.mul_comm]
  clear hG hza hzb hva hvb h0a h0b
  generalize hA : Nm.N7 a = A at *
  generalize hB : Nm.N7 b = B at *
  have hr1 := fun (E : Ctx) (hP : E.P = Tryz.prog) => a7X (E := E) hP true A B 0 A.length p za (by omega) (by omega) (by omega) haa (by omega) hwa
  obtain ⟨hj1, hz1, _⟩ := hr1 ⟨Tryz.prog, eff, 0, w, fun _ => False, O, [], []⟩ rfl
  have hr1 := fun E hP => (hr1 E hP).2.2
  have hW1 := Win.put (u := A) (l1 := 0 + p / 64) (p := A.length - p / 64) (z := za) (by omega) (by omega) (by omega) haa hz1
  generalize hA1 : put A (0 + p / 64) (Nm.dig 18446744073709551616 (A.length - p / 64) za) = A1 at *
  generalize 0 + p / 64 = la at *
  generalize (Nm.F6 (Nm.dig 18446744073709551616 (A.length - p / 64) za)).length = na at *
  have hr2 := fun (E : Ctx) (hP : E.P = Tryz.prog) => a7X (E := E) hP false B A1 0 B.length q zb (by omega) (by omega) (by omega) hab (by omega) hwb
  obtain ⟨hj2, hz2, _⟩ := hr2 ⟨Tryz.prog, eff, 0, w, fun _ => False, O, [], []⟩ rfl
  have hr2 := fun E hP => (hr2 E hP).2.2
  have hW2 := Win.put (u := B) (l1 := 0 + q / 64) (p := B.length - q / 64) (z := zb) (by omega) (by omega) (by omega) hab hz2
  generalize hB1 : put B (0 + q / 64) (Nm.dig 18446744073709551616 (B.length - q / 64) zb) = B1 at *
  generalize 0 + q / 64 = lb at *
  generalize (Nm.F6 (Nm.dig 18446744073709551616 (B.length - q / 64) zb)).length = nb at *
  have hr1' : ∀ (E : Ctx), E.P = Tryz.prog -> j6 E [.row 189 1 (ls A), .row 189 1 (ls B)] 240 [.rv 0, ints p] (.wv 0 1 la na) [.row 189 1 (ls A1), .row 189 1 (ls B)] [] := fun E hP => j6.imp (hr1 E hP) (q9.cons (Imp.win (k := 0) (e := 189) (sz := 1) (es := ls A) rfl (w9 _).symm (by simp)) (q9.cons (Imp.refl rfl) q9.nil))
  have hr2' : ∀ (E : Ctx), E.P = Tryz.prog -> j6 E [.row 189 1 (ls A1), .row 189 1 (ls B)] 240 [.rv 1, ints q] (.wv 1 1 lb nb) [.row 189 1 (ls A1), .row 189 1 (ls B1)] [] := fun E hP => j6.imp (hr2 E hP) (q9.cons (Imp.win (k := 1) (e := 189) (sz := 1) (es := ls B) rfl (w9 _).symm (by simp)) (q9.cons (Imp.refl rfl) q9.nil))
  (repeat first | refine uA ?_ | (apply S.exit; exact rfl) | ((with_reducible refine And.intro ?_ ?_); focus first | omega | trivial | exact id | (intro h; rw [h]; rfl) | (intro h h2; rw [h, h2]; rfl) | (intro h; (try simp at h); omega) | (intros; simp_all <;> omega)) | simp only [go_sem, Nat.reduceBEq, Nat.reduceAdd, Nat.reduceLeDiff, Int.reduceToNat, Int.reducePow] | simp (disch := omega) only [ww] | refine l8.t (FNew.t hla rfl) ?_ | refine l8.t (FNew.t hlb rfl) ?_ | refine l8.t (hr1' _ rfl) ?_ | refine l8.t (hr2' _ rfl) ?_ | (refine uE fea ?_ ?_ ?_ ?_; exact tz hw; exact rfl; focus (repeat' first | exact q9.nil | exact Imp.refl rfl | exact Imp.frz rfl rfl rfl | (refine Imp.R6 rfl rfl ?_ ?_; (focus ((try simp only [List.length_append]); omega)); (focus first | rfl | assumption)) | refine q9.cons ?_ ?_); done) | (refine uE feb ?_ ?_ ?_ ?_; exact tz hw; exact rfl; focus (repeat' first | exact q9.nil | exact Imp.refl rfl | exact Imp.frz rfl rfl rfl | (refine Imp.R6 rfl rfl ?_ ?_; (focus ((try simp only [List.length_append]); omega)); (focus first | rfl | assumption)) | refine q9.cons ?_ ?_); done))
  clear hr1 hr2 hr1' hr2' hla hlb fea feb hwa hwb hA hB hA1 hB1 hz1 hz2 hj1 hj2 haa hab hla0 hlb0 hna hnb
  have hmin : min p q <= 549755813888 := by omega
  generalize hG : Nat.gcd za zb = G at *
  refine S.c0Y (Y := Hv) (fun x => ⟨[(5, .wv (kx x.s) 1 x.lo x.n), (6, .wv (kx !x.s) 1 x.lo2 x.n2), (7, ints p), (8, ints q)], rw2 x.s x.u x.o⟩)
    (fun x => Win x.u x.lo x.n x.v /\ Win x.o x.lo2 x.n2 x.v2 /\ ((x.n = 0 /\ x.v2 = G) \/ (x.n = 1 /\ x.n2 = 1 /\ Nat.gcd x.v x.v2 = G))) ?_ ?_
  · refine S.loop (X := Hv) (fun x => ⟨[(5, .wv (kx x.s) 1 x.lo x.n), (6, .wv (kx !x.s) 1 x.lo2 x.n2), (7, ints p), (8, ints q)], rw2 x.s x.u x.o⟩)
      (fun x => Win x.u x.lo x.n x.v /\ Win x.o x.lo2 x.n2 x.v2 /\ x.v % 2 = 1 /\ x.v2 % 2 = 1 /\ Nat.gcd x.v x.v2 = G) (fun x => x.v + x.v2) ⟨true, A1, la, na, za, B1, lb, nb, zb⟩ ⟨hW1, hW2, hoa, hob, hG⟩ (by (repeat first | refine uA ?_ | (refine ⟨?_, ?_⟩; focus first | rfl | trivial | (simp [slot]; done)) | rfl | trivial | simp)) ?_
    clear hW1 hW2 hG hoa hob
    rintro ⟨s, u, lo, n, v, o, lo2, n2, v2⟩ ⟨hW1, hW2, hoa, hob, hG⟩
    simp only [ints] at hW1 hW2 hoa hob hG ⊢
    (repeat first | refine uA ?_ | (apply S.exit; exact rfl) | ((with_reducible refine And.intro ?_ ?_); focus first | omega | trivial | exact id | (intro h; rw [h]; rfl) | (intro h h2; rw [h, h2]; rfl) | (intro h; (try simp at h); omega) | (intros; simp_all <;> omega)) | simp only [go_sem, Nat.reduceBEq, Nat.reduceAdd, Nat.reduceLeDiff, Int.reduceToNat, Int.reducePow] | simp (disch := omega) only [ww])
    (refine uJ rfl (fun hc => ?_) fun hc => ?_)
    · refine S.skip ?_
      refine S.block ?_
      refine S.seq ?_
      have hl1 := hW1.hl
      have hl2 := hW2.hl
      have hn1 := hW1.hn
      have hn2 := hW2.hn
      have hwl : ∀ (u : List Nat) lo n, ls ((u.drop lo).take n) = ((ls u).drop lo).take n := fun u lo n => by simp [ls, List.map_drop, List.map_take]
      refine S.join (Y := Hv) (fun x => ⟨[(5, .wv (kx x.s) 1 x.lo x.n), (6, .wv (kx !x.s) 1 x.lo2 x.n2), (7, ints p), (8, ints q)], rw2 x.s x.u x.o⟩)
        (fun x => Win x.u x.lo x.n x.v /\ Win x.o x.lo2 x.n2 x.v2 /\ x.v % 2 = 1 /\ x.v2 % 2 = 1 /\ Nat.gcd x.v x.v2 = G /\ x.v2 <= x.v /\ x.v + x.v2 = v + v2) ?_ ?_
      · have hb := c1B ((u.drop lo).take n) ((o.drop lo2).take n2) (by rw [hW1.len]; omega) (by rw [hW2.len]; omega) hW1.all hW2.all hW1.last hW2.last
        rw [hwl, hwl, hW1.hv, hW2.hv] at hb
        cases s
        all_goals
          simp only [rw2, kx, Bool.not_true, Bool.not_false]
          (repeat first | refine uA ?_ | (apply S.exit; exact rfl) | ((with_reducible refine And.intro ?_ ?_); focus first | omega | trivial | exact id | (intro h; rw [h]; rfl) | (intro h h2; rw [h, h2]; rfl) | (intro h; (try simp at h); omega) | (intros; simp_all <;> omega)) | simp only [go_sem, Nat.reduceBEq, Nat.reduceAdd, Nat.reduceLeDiff, Int.reduceToNat, Int.reducePow, w9] | simp (disch := omega) only [ww, w9] | (refine uC hb ?_ ?_ ?_; exact rfl; focus (repeat' first | exact q9.nil | exact Imp.refl rfl | exact Imp.frz rfl rfl rfl | (refine Imp.R6 rfl rfl ?_ ?_; (focus ((try simp only [List.length_append, w9]); omega)); (focus first | rfl | assumption)) | refine q9.cons ?_ ?_); done))
          refine S.cond rfl (fun hc => ?_) (fun hc => ?_)
          all_goals simp only [decide_eq_true_eq, decide_eq_false_iff_not] at hc
        · (repeat first | refine uA ?_ | (apply S.exit; exact rfl) | ((with_reducible refine And.intro ?_ ?_); focus first | omega | trivial | exact id | (intro h; rw [h]; rfl) | (intro h h2; rw [h, h2]; rfl) | (intro h; (try simp at h); omega) | (intros; simp_all <;> omega)) | simp only [go_sem, Nat.reduceBEq, Nat.reduceAdd, Nat.reduceLeDiff, Int.reduceToNat, Int.reducePow] | simp (disch := omega) only [ww])
          exact S.met ⟨true, o, lo2, n2, v2, u, lo, n, v⟩ ⟨hW2, hW1, hob, hoa, by rw [Nat.gcd_comm]; exact hG, by simp only; omega, by simp only; omega⟩ (by (repeat first | refine uA ?_ | (refine ⟨?_, ?_⟩; focus first | rfl | trivial | (simp [slot]; done)) | rfl | trivial | simp))
        · (repeat first | refine uA ?_ | (apply S.exit; exact rfl) | ((with_reducible refine And.intro ?_ ?_); focus first | omega | trivial | exact id | (intro h; rw [h]; rfl) | (intro h h2; rw [h, h2]; rfl) | (intro h; (try simp at h); omega) | (intros; simp_all <;> omega)) | simp only [go_sem, Nat.reduceBEq, Nat.reduceAdd, Nat.reduceLeDiff, Int.reduceToNat, Int.reducePow] | simp (disch := omega) only [ww])
          exact S.met ⟨false, u, lo, n, v, o, lo2, n2, v2⟩ ⟨hW1, hW2, hoa, hob, hG, by simp only; omega, rfl⟩ (by (repeat first | refine uA ?_ | (refine ⟨?_, ?_⟩; focus first | rfl | trivial | (simp [slot]; done)) | rfl | trivial | simp))
        · (repeat first | refine uA ?_ | (apply S.exit; exact rfl) | ((with_reducible refine And.intro ?_ ?_); focus first | omega | trivial | exact id | (intro h; rw [h]; rfl) | (intro h h2; rw [h, h2]; rfl) | (intro h; (try simp at h); omega) | (intros; simp_all <;> omega)) | simp only [go_sem, Nat.reduceBEq, Nat.reduceAdd, Nat.reduceLeDiff, Int.reduceToNat, Int.reducePow] | simp (disch := omega) only [ww])
          exact S.met ⟨false, o, lo2, n2, v2, u, lo, n, v⟩ ⟨hW2, hW1, hob, hoa, by rw [Nat.gcd_comm]; exact hG, by simp only; omega, by simp only; omega⟩ (by (repeat first | refine uA ?_ | (refine ⟨?_, ?_⟩; focus first | rfl | trivial | (simp [slot]; done)) | rfl | trivial | simp))
        · (repeat first | refine uA ?_ | (apply S.exit; exact rfl) | ((with_reducible refine And.intro ?_ ?_); focus first | omega | trivial | exact id | (intro h; rw [h]; rfl) | (intro h h2; rw [h, h2]; rfl) | (intro h; (try simp at h); omega) | (intros; simp_all <;> omega)) | simp only [go_sem, Nat.reduceBEq, Nat.reduceAdd, Nat.reduceLeDiff, Int.reduceToNat, Int.reducePow] | simp (disch := omega) only [ww])
          exact S.met ⟨true, u, lo, n, v, o, lo2, n2, v2⟩ ⟨hW1, hW2, hoa, hob, hG, by simp only; omega, rfl⟩ (by (repeat first | refine uA ?_ | (refine ⟨?_, ?_⟩; focus first | rfl | trivial | (simp [slot]; done)) | rfl | trivial | simp))
      clear hl1 hl2 hn1 hn2 hW1 hW2 hoa hob hG hc
      rintro ⟨s, u1, lo1, n1, x1, o1, lo3, n3, x3⟩ ⟨hW1, hW2, hoa, hob, hG, hle, hsum⟩
      simp only [ints] at hW1 hW2 hoa hob hG hle hsum ⊢
      have hl1 := hW1.hl
      have hl2 := hW2.hl
      have hn1 := hW1.hn
      have hn2 := hW2.hn
      have hlo1 := hW1.hlo
      have hlt1 : x1 < 18446744073709551616 ^ n1 := by
        have := Nm.J8 18446744073709551616 hW1.all
        rwa [hW1.len, hW1.hv] at this
      have hmin := fun (E : Ctx) (hP : E.P = Tryz.prog) (s : Bool) => c1I (E := E) hP s u1 o1 lo1 n1 lo3 n3 (by omega) (by omega) hn1 hlo1 hn2 (hW1.le hW2 hle) hW1.ha hW2.ha hW1.hv.symm hW2.hv.symm hle
      have hW3 := Win.put (u := u1) (l1 := lo1) (p := n1) (z := x1 - x3) hn1 hlo1 hl1 hW1.ha (by omega)
      generalize put u1 lo1 (Nm.dig 18446744073709551616 n1 (x1 - x3)) = u2 at *
      generalize (Nm.F6 (Nm.dig 18446744073709551616 n1 (x1 - x3))).length = m1 at *
      have hl3 := hW3.hl
      have hn3 := hW3.hn
      have hmt : ∀ E : Ctx, E.P = Tryz.prog -> j6 E [.row 189 1 (ls u1), .row 189 1 (ls o1)] 242 [.wv 0 1 lo1 n1, .wv 1 1 lo3 n3] (.wv 0 1 lo1 m1) [.row 189 1 (ls u2), .row 189 1 (ls o1)] [] := fun E hP => hmin E hP true
      have hmf : ∀ E : Ctx, E.P = Tryz.prog -> j6 E [.row 189 1 (ls o1), .row 189 1 (ls u1)] 242 [.wv 1 1 lo1 n1, .wv 0 1 lo3 n3] (.wv 1 1 lo1 m1) [.row 189 1 (ls o1), .row 189 1 (ls u2)] [] := fun E hP => hmin E hP false
      clear hmin
      cases s
      all_goals
        simp only [rw2, kx, Bool.not_true, Bool.not_false]
        (repeat first | refine uA ?_ | (apply S.exit; exact rfl) | ((with_reducible refine And.intro ?_ ?_); focus first | omega | trivial | exact id | (intro h; rw [h]; rfl) | (intro h h2; rw [h, h2]; rfl) | (intro h; (try simp at h); omega) | (intros; simp_all <;> omega)) | simp only [go_sem, Nat.reduceBEq, Nat.reduceAdd, Nat.reduceLeDiff, Int.reduceToNat, Int.reducePow, w9] | simp (disch := omega) only [ww, w9] | refine l8.t (hmt _ rfl) ?_ | refine l8.t (hmf _ rfl) ?_)
        (refine uJ rfl (fun hc => ?_) fun hc => ?_)
      · (repeat first | refine uA ?_ | (apply S.exit; exact rfl) | ((with_reducible refine And.intro ?_ ?_); focus first | omega | trivial | exact id | (intro h; rw [h]; rfl) | (intro h h2; rw [h, h2]; rfl) | (intro h; (try simp at h); omega) | (intros; simp_all <;> omega)) | simp only [go_sem, Nat.reduceBEq, Nat.reduceAdd, Nat.reduceLeDiff, Int.reduceToNat, Int.reducePow] | simp (disch := omega) only [ww])
        have h0 := hW3.nonzero (by omega)
        have h1 : x1 = x3 := by omega
        subst h1
        rw [Nat.gcd_self] at hG
        exact S.met ⟨false, u2, lo1, m1, x1 - x1, o1, lo3, n3, x1⟩ ⟨hW3, hW2, .inl ⟨by simp only; omega, hG⟩⟩ (by (repeat first | refine uA ?_ | (refine ⟨?_, ?_⟩; focus first | rfl | trivial | (simp [slot]; done)) | rfl | trivial | simp))
      · have h0 : x1 - x3 ≠ 0 := fun h => by have := hW3.zero h; omega
        obtain ⟨z, hz, hoz⟩ := Nm.a2v h0
        have hev := a7K ((u2.drop lo1).take m1) (by rw [hW3.len]; omega) hW3.all (by rw [hW3.hv]; exact h0)
        rw [hwl, hW3.hv] at hev
        have heb := hW3.v2 h0
        generalize Nm.v2 (x1 - x3) = e at *
        have hrg := fun (E : Ctx) (hP : E.P = Tryz.prog) => a7X (E := E) hP false u2 o1 lo1 m1 e z (by omega) hn3 heb hW3.ha (by omega) (by rw [hW3.hv, hz, Nat.mul_comm])
        obtain ⟨hj, hz2, _⟩ := hrg ⟨Tryz.prog, eff, 0, w, fun _ => False, O, [], []⟩ rfl
        have hrg := fun E hP => (hrg E hP).2.2
        have hW4 := Win.put (u := u2) (l1 := lo1 + e / 64) (p := m1 - e / 64) (z := z) (by omega) (by omega) hl3 hW3.ha hz2
        generalize put u2 (lo1 + e / 64) (Nm.dig 18446744073709551616 (m1 - e / 64) z) = u4 at *
        generalize lo1 + e / 64 = lo4 at *
        generalize (Nm.F6 (Nm.dig 18446744073709551616 (m1 - e / 64) z)).length = m4 at *
        have hrg' : ∀ (E : Ctx), E.P = Tryz.prog -> j6 E [.row 189 1 (ls o1), .row 189 1 (ls u2)] 240 [.wv 1 1 lo1 m1, ints e] (.wv 1 1 lo4 m4) [.row 189 1 (ls o1), .row 189 1 (ls u4)] [] := fun E hP => hrg E hP
        have hgz : Nat.gcd z x3 = G := by
          have h1 := Nm.a5Z (d := z) hob e
          rw [<- h1, <- hz, Nm.b2a hle, hG]
        have hzle : z <= x1 - x3 := by
          conv => rhs; rw [hz]
          exact Nat.le_mul_of_pos_left _ (Nat.pow_pos (by decide))
        (repeat first | refine uA ?_ | (apply S.exit; exact rfl) | ((with_reducible refine And.intro ?_ ?_); focus first | omega | trivial | exact id | (intro h; rw [h]; rfl) | (intro h h2; rw [h, h2]; rfl) | (intro h; (try simp at h); omega) | (intros; simp_all <;> omega)) | simp only [go_sem, Nat.reduceBEq, Nat.reduceAdd, Nat.reduceLeDiff, Int.reduceToNat, Int.reducePow, w9] | simp (disch := omega) only [ww, w9] | refine l8.t (hrg' _ rfl) ?_ | (refine uE hev ?_ ?_ ?_ ?_; exact tz hw; exact rfl; focus (repeat' first | exact q9.nil | exact Imp.refl rfl | exact Imp.frz rfl rfl rfl | (refine Imp.R6 rfl rfl ?_ ?_; (focus ((try simp only [List.length_append, w9]); omega)); (focus first | rfl | assumption)) | refine q9.cons ?_ ?_); done))
        refine S.next (x := (⟨true, u, lo, n, v, o, lo2, n2, v2⟩ : Hv)) (⟨false, u4, lo4, m4, z, o1, lo3, n3, x3⟩ : Hv) ⟨hW4, hW2, hoz, hob, hgz⟩ (by simp only; omega) (by (repeat first | refine uA ?_ | (refine ⟨?_, ?_⟩; focus first | rfl | trivial | (simp [slot]; done)) | rfl | trivial | simp))
      · (repeat first | refine uA ?_ | (apply S.exit; exact rfl) | ((with_reducible refine And.intro ?_ ?_); focus first | omega | trivial | exact id | (intro h; rw [h]; rfl) | (intro h h2; rw [h, h2]; rfl) | (intro h; (try simp at h); omega) | (intros; simp_all <;> omega)) | simp only [go_sem, Nat.reduceBEq, Nat.reduceAdd, Nat.reduceLeDiff, Int.reduceToNat, Int.reducePow] | simp (disch := omega) only [ww])
        have h0 := hW3.nonzero (by omega)
        have h1 : x1 = x3 := by omega
        subst h1
        rw [Nat.gcd_self] at hG
        exact S.met ⟨true, u2, lo1, m1, x1 - x1, o1, lo3, n3, x1⟩ ⟨hW3, hW2, .inl ⟨by simp only; omega, hG⟩⟩ (by (repeat first | refine uA ?_ | (refine ⟨?_, ?_⟩; focus first | rfl | trivial | (simp [slot]; done)) | rfl | trivial | simp))
      · have h0 : x1 - x3 ≠ 0 := fun h => by have := hW3.zero h; omega
        obtain ⟨z, hz, hoz⟩ := Nm.a2v h0
        have hev := a7K ((u2.drop lo1).take m1) (by rw [hW3.len]; omega) hW3.all (by rw [hW3.hv]; exact h0)
        rw [hwl, hW3.hv] at hev
        have heb := hW3.v2 h0
        generalize Nm.v2 (x1 - x3) = e at *
        have hrg := fun (E : Ctx) (hP : E.P = Tryz.prog) => a7X (E := E) hP true u2 o1 lo1 m1 e z (by omega) hn3 heb hW3.ha (by omega) (by rw [hW3.hv, hz, Nat.mul_comm])
        obtain ⟨hj, hz2, _⟩ := hrg ⟨Tryz.prog, eff, 0, w, fun _ => False, O, [], []⟩ rfl
        have hrg := fun E hP => (hrg E hP).2.2
        have hW4 := Win.put (u := u2) (l1 := lo1 + e / 64) (p := m1 - e / 64) (z := z) (by omega) (by omega) hl3 hW3.ha hz2
        generalize put u2 (lo1 + e / 64) (Nm.dig 18446744073709551616 (m1 - e / 64) z) = u4 at *
        generalize lo1 + e / 64 = lo4 at *
        generalize (Nm.F6 (Nm.dig 18446744073709551616 (m1 - e / 64) z)).length = m4 at *
        have hrg' : ∀ (E : Ctx), E.P = Tryz.prog -> j6 E [.row 189 1 (ls u2), .row 189 1 (ls o1)] 240 [.wv 0 1 lo1 m1, ints e] (.wv 0 1 lo4 m4) [.row 189 1 (ls u4), .row 189 1 (ls o1)] [] := fun E hP => hrg E hP
        have hgz : Nat.gcd z x3 = G := by
          have h1 := Nm.a5Z (d := z) hob e
          rw [<- h1, <- hz, Nm.b2a hle, hG]
        have hzle : z <= x1 - x3 := by
          conv => rhs; rw [hz]
          exact Nat.le_mul_of_pos_left _ (Nat.pow_pos (by decide))
        (repeat first | refine uA ?_ | (apply S.exit; exact rfl) | ((with_reducible refine And.intro ?_ ?_); focus first | omega | trivial | exact id | (intro h; rw [h]; rfl) | (intro h h2; rw [h, h2]; rfl) | (intro h; (try simp at h); omega) | (intros; simp_all <;> omega)) | simp only [go_sem, Nat.reduceBEq, Nat.reduceAdd, Nat.reduceLeDiff, Int.reduceToNat, Int.reducePow, w9] | simp (disch := omega) only [ww, w9] | refine l8.t (hrg' _ rfl) ?_ | (refine uE hev ?_ ?_ ?_ ?_; exact tz hw; exact rfl; focus (repeat' first | exact q9.nil | exact Imp.refl rfl | exact Imp.frz rfl rfl rfl | (refine Imp.R6 rfl rfl ?_ ?_; (focus ((try simp only [List.length_append, w9]); omega)); (focus first | rfl | assumption)) | refine q9.cons ?_ ?_); done))
        refine S.next (x := (⟨true, u, lo, n, v, o, lo2, n2, v2⟩ : Hv)) (⟨true, u4, lo4, m4, z, o1, lo3, n3, x3⟩ : Hv) ⟨hW4, hW2, hoz, hob, hgz⟩ (by simp only; omega) (by (repeat first | refine uA ?_ | (refine ⟨?_, ?_⟩; focus first | rfl | trivial | (simp [slot]; done)) | rfl | trivial | simp))
    · (repeat first | refine uA ?_ | (apply S.exit; exact rfl) | ((with_reducible refine And.intro ?_ ?_); focus first | omega | trivial | exact id | (intro h; rw [h]; rfl) | (intro h h2; rw [h, h2]; rfl) | (intro h; (try simp at h); omega) | (intros; simp_all <;> omega)) | simp only [go_sem, Nat.reduceBEq, Nat.reduceAdd, Nat.reduceLeDiff, Int.reduceToNat, Int.reducePow] | simp (disch := omega) only [ww])
      have ha1 : n <= 1 /\ n2 <= 1 := by omega
      have hz1 : n ≠ 0 := fun h => by have := hW1.nonzero h; omega
      have hz2 : n2 ≠ 0 := fun h => by have := hW2.nonzero h; omega
      exact S.met ⟨s, u, lo, n, v, o, lo2, n2, v2⟩ ⟨hW1, hW2,   .inr ⟨by simp only; omega, by simp only; omega, hG⟩⟩ (by cases s <;> exact (by (repeat first | refine uA ?_ | (refine ⟨?_, ?_⟩; focus first | rfl | trivial | (simp [slot]; done)) | rfl | trivial | simp)))
  clear hW1 hW2 hG hoa hob
  rintro ⟨s, u, lo, n, v, o, lo2, n2, v2⟩ ⟨hW1, hW2, hcs⟩
  simp only [ints] at hW1 hW2 hcs ⊢
  refine S.seq ?_
  have hl1 := hW1.hl
  have hl2 := hW2.hl
  have hn1 := hW1.hn
  have hn2 := hW2.hn
  have hlo1 := hW1.hlo
  have hlo2 := hW2.hlo
  refine S.join (Y := Bool × List Nat × List Nat) (fun x => ⟨[(6, .wv (kx !x.1) 1 lo2 n2), (7, ints p), (8, ints q)], rw2 x.1 x.2.1 x.2.2⟩)
    (fun x => x.2.2.length = o.length /\ Nm.K4 x.2.2 /\ Nm.wv 18446744073709551616 ((x.2.2.drop lo2).take n2) = G) ?_ ?_
  · have one : ∀ {u : List Nat} {lo v : Nat}, Win u lo 1 v -> u[lo]? = some v /\ v < 18446744073709551616 := fun {u lo v} h => by
      have hg : u[lo]? = some (u[lo]'h.hlo) := List.getElem?_eq_getElem h.hlo
      have h1 := h.hv
      have h2 : (u.drop lo).take 1 = [u[lo]'h.hlo] := by rw [List.drop_eq_getElem_cons h.hlo]; rfl
      rw [h2] at h1
      simp only [Nm.wv] at h1
      have h3 := h.ha _ (List.getElem_mem h.hlo)
      rw [Nat.mul_zero, Nat.add_zero] at h1
      rw [hg, h1]
      exact ⟨rfl, by omega⟩
    (repeat first | refine uA ?_ | (apply S.exit; exact rfl) | ((with_reducible refine And.intro ?_ ?_); focus first | omega | trivial | exact id | (intro h; rw [h]; rfl) | (intro h h2; rw [h, h2]; rfl) | (intro h; (try simp at h); omega) | (intros; simp_all <;> omega)) | simp only [go_sem, Nat.reduceBEq, Nat.reduceAdd, Nat.reduceLeDiff, Int.reduceToNat, Int.reducePow] | simp (disch := omega) only [ww])
    (refine uJ rfl (fun hc => ?_) fun hc => ?_)
    · have hn : n = 1 := by omega
      have hm : n2 = 1 := by omega
      subst hn hm
      obtain ⟨g1, b1⟩ := one hW1
      obtain ⟨g2, b2⟩ := one hW2
      have hg : Nat.gcd v v2 = G := by rcases hcs with h | h; exact absurd h.1 (by decide); exact h.2.2
      have hco := b3G v v2 b1 b2
      rw [hg] at hco
      have hres : Nm.wv 18446744073709551616 (((o.set lo2 G).drop lo2).take 1) = G := by
        rw [List.drop_eq_getElem_cons (by rw [List.length_set]; exact hlo2), List.getElem_set_self]
        simp [Nm.wv]
      have hG64 : G < 18446744073709551616 := by
        have : v2 ≠ 0 := fun h => by have := hW2.zero h; omega
        have := Nat.gcd_le_right v (show 0 < v2 by omega)
        omega
      cases s
      all_goals
        simp only [rw2, kx, Bool.not_true, Bool.not_false]
        (repeat first | refine uA ?_ | (apply S.exit; exact rfl) | ((with_reducible refine And.intro ?_ ?_); focus first | omega | trivial | exact id | (intro h; rw [h]; rfl) | (intro h h2; rw [h, h2]; rfl) | (intro h; (try simp at h); omega) | (intros; simp_all <;> omega)) | simp only [go_sem, Nat.reduceBEq, Nat.reduceAdd, Nat.reduceLeDiff, Int.reduceToNat, Int.reducePow, w9, I7, g1, g2, Option.map_some, lm, Nat.add_zero, U4] | simp (disch := omega) only [ww, w9, I7, g1, g2, Option.map_some, lm, Nat.add_zero, U4] | (refine uB hco ?_ ?_; exact rfl))
      · exact S.met (⟨false, u, o.set lo2 G⟩ : Bool × List Nat × List Nat) ⟨by simp, fun w hw => by
          rcases Nm.mem_set hw with rfl | hw
          · exact hG64
          · exact hW2.ha w hw, hres⟩ (by (repeat first | refine uA ?_ | (refine ⟨?_, ?_⟩; focus first | rfl | trivial | (simp [slot]; done)) | rfl | trivial | simp))
      · exact S.met (⟨true, u, o.set lo2 G⟩ : Bool × List Nat × List Nat) ⟨by simp, fun w hw => by
          rcases Nm.mem_set hw with rfl | hw
          · exact hG64
          · exact hW2.ha w hw, hres⟩ (by (repeat first | refine uA ?_ | (refine ⟨?_, ?_⟩; focus first | rfl | trivial | (simp [slot]; done)) | rfl | trivial | simp))
    · (repeat first | refine uA ?_ | (apply S.exit; exact rfl) | ((with_reducible refine And.intro ?_ ?_); focus first | omega | trivial | exact id | (intro h; rw [h]; rfl) | (intro h h2; rw [h, h2]; rfl) | (intro h; (try simp at h); omega) | (intros; simp_all <;> omega)) | simp only [go_sem, Nat.reduceBEq, Nat.reduceAdd, Nat.reduceLeDiff, Int.reduceToNat, Int.reducePow] | simp (disch := omega) only [ww])
      have hg : v2 = G := by
        rcases hcs with h | h
        · exact h.2
        · omega
      exact S.met (⟨s, u, o⟩ : Bool × List Nat × List Nat) ⟨rfl, hW2.ha, by rw [<- hg]; exact hW2.hv⟩ (by cases s <;> exact (by (repeat first | refine uA ?_ | (refine ⟨?_, ?_⟩; focus first | rfl | trivial | (simp [slot]; done)) | rfl | trivial | simp)))
  rintro ⟨s', u', o'⟩ ⟨ho1, ho2, ho3⟩
  simp only [ints] at ho1 ho2 ho3 ⊢
  have hul : ((o'.drop lo2).take n2).length = n2 := by rw [List.length_take, List.length_drop]; omega
  have hua : Nm.K4 ((o'.drop lo2).take n2) := (ho2.drop lo2).take _
  have hgw : ∀ i, i < n2 -> o'[lo2 + i]? = ((o'.drop lo2).take n2)[i]? := fun i hi => by rw [List.getElem?_take_of_lt hi, List.getElem?_drop]
  generalize (o'.drop lo2).take n2 = W at *
  have hfm := a2C (Nm.a1t W) (Nm.oB (2 ^ (min p q % 8)) :: List.replicate (min p q / 8) 0) (by rw [Nm.b1S hua]; omega) (by rw [List.length_cons, List.length_replicate]; omega)
  rw [Nm.b8A, Nm.b9A hua, ho3, Nat.mul_comm] at hfm
  have hWl : W.length <= 17179869184 := by omega
  have hz8 : List.replicate (8 * (n2 : Int)).toNat [C.v (.int .u8 0)] = (Nm.a3D W 0).map F7 := by
    rw [Nm.b9o, <- a2r, show (8 * (n2 : Int)).toNat = 8 * W.length by omega]
  have hqm : IntKind.i64.wrap (((min p q : Nat) : Int).tdiv 8) = ((min p q / 8 : Nat) : Int) := b7k _ (by omega)
  have hmn : (if (q : Int) < (p : Int) then (q : Int) else (p : Int)) = ((min p q : Nat) : Int) := by split <;> omega
  generalize min p q = r at *
  clear hW1 hW2 hcs hn1 hl1 hlo1 ho3
  cases s'
  all_goals
    simp only [rw2, kx, Bool.not_true, Bool.not_false]
    (repeat first | refine uA ?_ | (apply S.exit; exact rfl) | ((with_reducible refine And.intro ?_ ?_); focus first | omega | trivial | exact id | (intro h; rw [h]; rfl) | (intro h h2; rw [h, h2]; rfl) | (intro h; (try simp at h); omega) | (intros; simp_all <;> omega)) | simp only [go_sem, Nat.reduceBEq, Nat.reduceAdd, Nat.reduceLeDiff, Int.reduceToNat, Int.reducePow, w9, hz8] | simp (disch := omega) only [ww, w9, hz8])
  · refine S.loop (X := Nat) (fun i => ⟨[(6, .wv 0 1 lo2 n2), (7, ints p), (8, ints q), (9, .rv 2), (72, .wv 0 1 lo2 n2), (73, ints n2), (74, ints i)], [.row 189 1 (ls o'), .row 189 1 (ls u')] ++ [.row 5 1 ((Nm.a3D W i).map F7)]⟩) (fun i => i <= n2) (fun i => n2 - i) 0 (Nat.zero_le _) (by (repeat first | refine uA ?_ | (refine ⟨?_, ?_⟩; focus first | rfl | trivial | (simp [slot]; done)) | rfl | trivial | simp)) ?_
    intro i hi
    simp only [ints, List.cons_append, List.nil_append]
    (repeat first | refine uA ?_ | (apply S.exit; exact rfl) | ((with_reducible refine And.intro ?_ ?_); focus first | omega | trivial | exact id | (intro h; rw [h]; rfl) | (intro h h2; rw [h, h2]; rfl) | (intro h; (try simp at h); omega) | (intros; simp_all <;> omega)) | simp only [go_sem, Nat.reduceBEq, Nat.reduceAdd, Nat.reduceLeDiff, Int.reduceToNat, Int.reducePow] | simp (disch := omega) only [ww])
    (refine uJ rfl (fun hc => ?_) fun hc => ?_)
    · have hi' : i < n2 := by omega
      have hiW : i < W.length := by omega
      have hgo : o'[lo2 + i]? = some (W[i]'hiW) := by rw [hgw i hi', List.getElem?_eq_getElem hiW]
      have hgd : W.getD i 0 = W[i]'hiW := Nm.getD_lt hiW
      (repeat first | refine uA ?_ | (apply S.exit; exact rfl) | ((with_reducible refine And.intro ?_ ?_); focus first | omega | trivial | exact id | (intro h; rw [h]; rfl) | (intro h h2; rw [h, h2]; rfl) | (intro h; (try simp at h); omega) | (intros; simp_all <;> omega)) | simp only [go_sem, Nat.reduceBEq, Nat.reduceAdd, Nat.reduceLeDiff, Int.reduceToNat, Int.reducePow, w9, I7, hgo, Option.map_some, lm] | simp (disch := omega) only [ww, w9, I7, hgo, Option.map_some, lm])
      rw [<- Nm.b1P hiW]
      refine S.loop (X := Nat) (fun k => ⟨[(6, .wv 0 1 lo2 n2), (7, ints p), (8, ints q), (9, .rv 2), (72, .wv 0 1 lo2 n2), (73, ints n2), (74, ints i), (10, ints i), (11, .v (.int .u64 (W[i]'hiW : Int))), (79, ints k)], [.row 189 1 (ls o'), .row 189 1 (ls u')] ++ [.row 5 1 ((Nm.a1f W i k).map F7)]⟩) (fun k => k <= 8) (fun k => 8 - k) 0 (Nat.zero_le _) (by (repeat first | refine uA ?_ | (refine ⟨?_, ?_⟩; focus first | rfl | trivial | (simp [slot]; done)) | rfl | trivial | simp)) ?_
      intro k hk
      simp only [ints, List.cons_append, List.nil_append]
      have hlk := Nm.b4f hua hiW hk
      (repeat first | refine uA ?_ | (apply S.exit; exact rfl) | ((with_reducible refine And.intro ?_ ?_); focus first | omega | trivial | exact id | (intro h; rw [h]; rfl) | (intro h h2; rw [h, h2]; rfl) | (intro h; (try simp at h); omega) | (intros; simp_all <;> omega)) | simp only [go_sem, Nat.reduceBEq, Nat.reduceAdd, Nat.reduceLeDiff, Int.reduceToNat, Int.reducePow] | simp (disch := omega) only [ww])
      (refine uJ rfl (fun hc => ?_) fun hc => ?_)
      · have hk' : k < 8 := by omega
        have hst := Nm.b1A (l := W) (i := i) hk'
        rw [hgd] at hst
        have hbv : IntKind.u8.wrap (Int.fdiv ((W[i]'hiW : Nat) : Int) (2 ^ min (56 - 8 * (k : Int)).toNat 64)) = (((Nm.oB ((W[i]'hiW) / 2 ^ (56 - 8 * k))).toNat : Nat) : Int) := by
          rw [<- a5V, show min (56 - 8 * (k : Int)).toNat 64 = 56 - 8 * k by omega]
          congr 2
        have hix : (8 * ((n2 : Int) - 1 - (i : Int)) + (k : Int)).toNat = 8 * (W.length - 1 - i) + k := by omega
        have hgk : (Nm.a1f W i k)[8 * (W.length - 1 - i) + k]? = some ((Nm.a1f W i k)[8 * (W.length - 1 - i) + k]'(by omega)) := List.getElem?_eq_getElem (by omega)
        (repeat first | refine uA ?_ | (apply S.exit; exact rfl) | ((with_reducible refine And.intro ?_ ?_); focus first | omega | trivial | exact id | (intro h; rw [h]; rfl) | (intro h h2; rw [h, h2]; rfl) | (intro h; (try simp at h); omega) | (intros; simp_all <;> omega)) | simp only [go_sem, Nat.reduceBEq, Nat.reduceAdd, Nat.reduceLeDiff, Int.reduceToNat, Int.reducePow, w9, List.length_map, hbv, hix, List.getElem?_map, hgk, Option.map_some, F7, a2L, hst] | simp (disch := omega) only [ww, w9, List.length_map, hbv, hix, List.getElem?_map, hgk, Option.map_some, F7, a2L, hst])
        refine S.next (x := k) (k + 1) hk' (by omega) (by (repeat first | refine uA ?_ | (refine ⟨?_, ?_⟩; focus first | rfl | trivial | (simp [slot]; done)) | rfl | trivial | simp))
      · have hk8 : k = 8 := by omega
        subst hk8
        rw [Nm.b0f hiW]
        (repeat first | refine uA ?_ | (apply S.exit; exact rfl) | ((with_reducible refine And.intro ?_ ?_); focus first | omega | trivial | exact id | (intro h; rw [h]; rfl) | (intro h h2; rw [h, h2]; rfl) | (intro h; (try simp at h); omega) | (intros; simp_all <;> omega)) | simp only [go_sem, Nat.reduceBEq, Nat.reduceAdd, Nat.reduceLeDiff, Int.reduceToNat, Int.reducePow] | simp (disch := omega) only [ww])
        refine S.next (x := i) (i + 1) hi' (by omega) (by (repeat first | refine uA ?_ | (refine ⟨?_, ?_⟩; focus first | rfl | trivial | (simp [slot]; done)) | rfl | trivial | simp))
    · have hi' : i = n2 := by omega
      subst hi'
      rw [<- hul, Nm.b4G]
      have hr1 : ((r / 8 : Nat) : Int) + 1 = ((r / 8 + 1 : Nat) : Int) := by omega
      have hrep : List.replicate (((r / 8 + 1 : Nat) : Int)).toNat [C.v (.int .u8 0)] = (List.replicate (r / 8 + 1) (0 : UInt8)).map F7 := by rw [<- a2r]; rfl
      have hrm : (r : Int).tmod 8 = ((r % 8 : Nat) : Int) := a9I r
      have hpw : IntKind.u8.wrap (1 * 2 ^ min (r % 8) 8) = (((Nm.oB (2 ^ (r % 8))).toNat : Nat) : Int) := by
        rw [show min (r % 8) 8 = r % 8 by omega, Nm.a1j, <- a1m]; congr 1; simp
      have hby : V5 ([C.v (.int .u8 (((Nm.oB (2 ^ (r % 8))).toNat : Nat) : Int))] :: List.replicate (r / 8) [C.v (.int .u8 0)]) = some (Nm.oB (2 ^ (r % 8)) :: List.replicate (r / 8) 0) := by
        rw [a2r]; exact Q6 (Nm.oB (2 ^ (r % 8)) :: List.replicate (r / 8) 0)
      (repeat first | refine uA ?_ | (apply S.exit; exact rfl) | ((with_reducible refine And.intro ?_ ?_); focus first | omega | trivial | exact id | (intro h; rw [h]; rfl) | (intro h h2; rw [h, h2]; rfl) | (intro h; (try simp at h); omega) | (intros; simp_all <;> omega)) | simp only [go_sem, Nat.reduceBEq, Nat.reduceAdd, Nat.reduceLeDiff, Int.reduceToNat, Int.reducePow, hmn, hqm, hr1, hrep, hrm, hpw, hby, Q6, a3t, F7, Int.toNat_natCast] | simp (disch := omega) only [ww, hmn, hqm, hr1, hrep, hrm, hpw, hby, Q6, a3t, F7, Int.toNat_natCast] | (refine uB hfm ?_ ?_; exact rfl))
      exact S.done (d9.out rfl (Imp.refl rfl) rfl)
  · refine S.loop (X := Nat) (fun i => ⟨[(6, .wv 1 1 lo2 n2), (7, ints p), (8, ints q), (9, .rv 2), (72, .wv 1 1 lo2 n2), (73, ints n2), (74, ints i)], [.row 189 1 (ls u'), .row 189 1 (ls o')] ++ [.row 5 1 ((Nm.a3D W i).map F7)]⟩) (fun i => i <= n2) (fun i => n2 - i) 0 (Nat.zero_le _) (by (repeat first | refine uA ?_ | (refine ⟨?_, ?_⟩; focus first | rfl | trivial | (simp [slot]; done)) | rfl | trivial | simp)) ?_
    intro i hi
    simp only [ints, List.cons_append, List.nil_append]
    (repeat first | refine uA ?_ | (apply S.exit; exact rfl) | ((with_reducible refine And.intro ?_ ?_); focus first | omega | trivial | exact id | (intro h; rw [h]; rfl) | (intro h h2; rw [h, h2]; rfl) | (intro h; (try simp at h); omega) | (intros; simp_all <;> omega)) | simp only [go_sem, Nat.reduceBEq, Nat.reduceAdd, Nat.reduceLeDiff, Int.reduceToNat, Int.reducePow] | simp (disch := omega) only [ww])
    (refine uJ rfl (fun hc => ?_) fun hc => ?_)
    · have hi' : i < n2 := by omega
      have hiW : i < W.length := by omega
      have hgo : o'[lo2 + i]? = some (W[i]'hiW) := by rw [hgw i hi', List.getElem?_eq_getElem hiW]
      have hgd : W.getD i 0 = W[i]'hiW := Nm.getD_lt hiW
      (repeat first | refine uA ?_ | (apply S.exit; exact rfl) | ((with_reducible refine And.intro ?_ ?_); focus first | omega | trivial | exact id | (intro h; rw [h]; rfl) | (intro h h2; rw [h, h2]; rfl) | (intro h; (try simp at h); omega) | (intros; simp_all <;> omega)) | simp only [go_sem, Nat.reduceBEq, Nat.reduceAdd, Nat.reduceLeDiff, Int.reduceToNat, Int.reducePow, w9, I7, hgo, Option.map_some, lm] | simp (disch := omega) only [ww, w9, I7, hgo, Option.map_some, lm])
      rw [<- Nm.b1P hiW]
      refine S.loop (X := Nat) (fun k => ⟨[(6, .wv 1 1 lo2 n2), (7, ints p), (8, ints q), (9, .rv 2), (72, .wv 1 1 lo2 n2), (73, ints n2), (74, ints i), (10, ints i), (11, .v (.int .u64 (W[i]'hiW : Int))), (79, ints k)], [.row 189 1 (ls u'), .row 189 1 (ls o')] ++ [.row 5 1 ((Nm.a1f W i k).map F7)]⟩) (fun k => k <= 8) (fun k => 8 - k) 0 (Nat.zero_le _) (by (repeat first | refine uA ?_ | (refine ⟨?_, ?_⟩; focus first | rfl | trivial | (simp [slot]; done)) | rfl | trivial | simp)) ?_
      intro k hk
      simp only [ints, List.cons_append, List.nil_append]
      have hlk := Nm.b4f hua hiW hk
      (repeat first | refine uA ?_ | (apply S.exit; exact rfl) | ((with_reducible refine And.intro ?_ ?_); focus first | omega | trivial | exact id | (intro h; rw [h]; rfl) | (intro h h2; rw [h, h2]; rfl) | (intro h; (try simp at h); omega) | (intros; simp_all <;> omega)) | simp only [go_sem, Nat.reduceBEq, Nat.reduceAdd, Nat.reduceLeDiff, Int.reduceToNat, Int.reducePow] | simp (disch := omega) only [ww])
      (refine uJ rfl (fun hc => ?_) fun hc => ?_)
      · have hk' : k < 8 := by omega
        have hst := Nm.b1A (l := W) (i := i) hk'
        rw [hgd] at hst
        have hbv : IntKind.u8.wrap (Int.fdiv ((W[i]'hiW : Nat) : Int) (2 ^ min (56 - 8 * (k : Int)).toNat 64)) = (((Nm.oB ((W[i]'hiW) / 2 ^ (56 - 8 * k))).toNat : Nat) : Int) := by
          rw [<- a5V, show min (56 - 8 * (k : Int)).toNat 64 = 56 - 8 * k by omega]
          congr 2
        have hix : (8 * ((n2 : Int) - 1 - (i : Int)) + (k : Int)).toNat = 8 * (W.length - 1 - i) + k := by omega
        have hgk : (Nm.a1f W i k)[8 * (W.length - 1 - i) + k]? = some ((Nm.a1f W i k)[8 * (W.length - 1 - i) + k]'(by omega)) := List.getElem?_eq_getElem (by omega)
        (repeat first | refine uA ?_ | (apply S.exit; exact rfl) | ((with_reducible refine And.intro ?_ ?_); focus first | omega | trivial | exact id | (intro h; rw [h]; rfl) | (intro h h2; rw [h, h2]; rfl) | (intro h; (try simp at h); omega) | (intros; simp_all <;> omega)) | simp only [go_sem, Nat.reduceBEq, Nat.reduceAdd, Nat.reduceLeDiff, Int.reduceToNat, Int.reducePow, w9, List.length_map, hbv, hix, List.getElem?_map, hgk, Option.map_some, F7, a2L, hst] | simp (disch := omega) only [ww, w9, List.length_map, hbv, hix, List.getElem?_map, hgk, Option.map_some, F7, a2L, hst])
        refine S.next (x := k) (k + 1) hk' (by omega) (by (repeat first | refine uA ?_ | (refine ⟨?_, ?_⟩; focus first | rfl | trivial | (simp [slot]; done)) | rfl | trivial | simp))
      · have hk8 : k = 8 := by omega
        subst hk8
        rw [Nm.b0f hiW]
        (repeat first | refine uA ?_ | (apply S.exit; exact rfl) | ((with_reducible refine And.intro ?_ ?_); focus first | omega | trivial | exact id | (intro h; rw [h]; rfl) | (intro h h2; rw [h, h2]; rfl) | (intro h; (try simp at h); omega) | (intros; simp_all <;> omega)) | simp only [go_sem, Nat.reduceBEq, Nat.reduceAdd, Nat.reduceLeDiff, Int.reduceToNat, Int.reducePow] | simp (disch := omega) only [ww])
        refine S.next (x := i) (i + 1) hi' (by omega) (by (repeat first | refine uA ?_ | (refine ⟨?_, ?_⟩; focus first | rfl | trivial | (simp [slot]; done)) | rfl | trivial | simp))
    · have hi' : i = n2 := by omega
      subst hi'
      rw [<- hul, Nm.b4G]
      have hr1 : ((r / 8 : Nat) : Int) + 1 = ((r / 8 + 1 : Nat) : Int) := by omega
      have hrep : List.replicate (((r / 8 + 1 : Nat) : Int)).toNat [C.v (.int .u8 0)] = (List.replicate (r / 8 + 1) (0 : UInt8)).map F7 := by rw [<- a2r]; rfl
      have hrm : (r : Int).tmod 8 = ((r % 8 : Nat) : Int) := a9I r
      have hpw : IntKind.u8.wrap (1 * 2 ^ min (r % 8) 8) = (((Nm.oB (2 ^ (r % 8))).toNat : Nat) : Int) := by
        rw [show min (r % 8) 8 = r % 8 by omega, Nm.a1j, <- a1m]; congr 1; simp
      have hby : V5 ([C.v (.int .u8 (((Nm.oB (2 ^ (r % 8))).toNat : Nat) : Int))] :: List.replicate (r / 8) [C.v (.int .u8 0)]) = some (Nm.oB (2 ^ (r % 8)) :: List.replicate (r / 8) 0) := by
        rw [a2r]; exact Q6 (Nm.oB (2 ^ (r % 8)) :: List.replicate (r / 8) 0)
      (repeat first | refine uA ?_ | (apply S.exit; exact rfl) | ((with_reducible refine And.intro ?_ ?_); focus first | omega | trivial | exact id | (intro h; rw [h]; rfl) | (intro h h2; rw [h, h2]; rfl) | (intro h; (try simp at h); omega) | (intros; simp_all <;> omega)) | simp only [go_sem, Nat.reduceBEq, Nat.reduceAdd, Nat.reduceLeDiff, Int.reduceToNat, Int.reducePow, hmn, hqm, hr1, hrep, hrm, hpw, hby, Q6, a3t, F7, Int.toNat_natCast] | simp (disch := omega) only [ww, hmn, hqm, hr1, hrep, hrm, hpw, hby, Q6, a3t, F7, Int.toNat_natCast] | (refine uB hfm ?_ ?_; exact rfl))
      exact S.done (d9.out rfl (Imp.refl rfl) rfl)
end Go.Proofs.YtogfpjohjphngaaGreatDoor
namespace Go.Proofs.YtogfpjohjphngaaGreatDoor
set_option linter.all false
open Go Go.RowKit Eng
set_option maxRecDepth 10000
set_option maxHeartbeats 4000000
theorem c0W (a b : List UInt8) (ha : a.length <= 68719476736) (hb : b.length <= 68719476736) : FZ 167 [sb a, sb b] (sb (Nm.enc (Nat.gcd (Nm.val a) (Nm.val b)))) := by
  refine q8.of b7m b8x (by exact Nat.le_of_ble_eq_true rfl) fun w O hw => ?_
  simp only [a9x, l9, TT, II, OA, OB, OC, MM, LL, VV, FF, MG, LG, VG, FG, sb]
  have hta := Nm.T9 a
  have htb := Nm.T9 b
  have hva := Nm.M5 a
  have hvb := Nm.M5 b
  have hca := Nm.Q7 a
  have hcb := Nm.Q7 b
  have fta := a0d a (by omega)
  have ftb := a0d b (by omega)
  rw [<- hva, <- hvb]
  clear hva hvb
  generalize Nm.trim a = x at *
  generalize Nm.trim b = y at *
  generalize hG : Nat.gcd (Nm.val x) (Nm.val y) = G at *
  (repeat first | refine uA ?_ | (apply S.exit; exact rfl) | ((with_reducible refine And.intro ?_ ?_); focus first | omega | trivial | exact id | (intros; simp_all <;> omega)) | simp (disch := omega) only [go_sem, Nat.reduceBEq, Nat.reduceAdd, Nat.reduceLeDiff, Int.reduceToNat, Int.reducePow, ww] | (refine uB fta ?_ ?_; exact rfl) | (refine uB ftb ?_ ?_; exact rfl))
  refine S.loop (X := List UInt8 × List UInt8) (fun s => ⟨[(0, sb s.1), (1, sb s.2)], []⟩) (fun s => Nm.canon s.1 /\ Nm.canon s.2 /\ s.1.length <= 68719476736 /\ s.2.length <= 68719476736 /\ Nat.gcd (Nm.val s.1) (Nm.val s.2) = G) (fun s => Nm.val s.1 + Nm.val s.2) (x, y) ⟨hca, hcb, by simp only; omega, by simp only; omega, hG⟩ (by (repeat first | refine uA ?_ | (refine ⟨?_, ?_⟩; focus first | rfl | trivial | (simp [slot]; done)) | rfl | trivial | simp)) ?_
  clear fta ftb hca hcb hta htb hG
  rintro ⟨x, y⟩ ⟨hcx, hcy, hlx, hly, hG⟩
  simp only [sb] at hcx hcy hlx hly hG ⊢
  (repeat first | refine uA ?_ | (apply S.exit; exact rfl) | ((with_reducible refine And.intro ?_ ?_); focus first | omega | trivial | exact id | (intros; simp_all <;> omega)) | simp (disch := omega) only [go_sem, Nat.reduceBEq, Nat.reduceAdd, Nat.reduceLeDiff, Int.reduceToNat, Int.reducePow, ww])
  (refine uJ rfl (fun hc => ?_) fun hc => ?_)
  · rw [Z6, Z6] at hc
    have hne := hc
    refine S.skip ?_
    refine S.block ?_
    refine S.seq ?_
    refine S.join (Y := List UInt8 × List UInt8) (fun s => ⟨[(0, sb s.1), (1, sb s.2)], []⟩) (fun s => Nm.canon s.1 /\ Nm.canon s.2 /\ s.1.length <= 68719476736 /\ s.2.length <= s.1.length /\ Nat.gcd (Nm.val s.1) (Nm.val s.2) = G /\ s.1 ≠ [] /\ s.2 ≠ [] /\ Nm.val s.1 + Nm.val s.2 = Nm.val x + Nm.val y) ?_ ?_
    · (repeat first | refine uA ?_ | (apply S.exit; exact rfl) | ((with_reducible refine And.intro ?_ ?_); focus first | omega | trivial | exact id | (intros; simp_all <;> omega)) | simp (disch := omega) only [go_sem, Nat.reduceBEq, Nat.reduceAdd, Nat.reduceLeDiff, Int.reduceToNat, Int.reducePow, ww, E8])
      (refine uJ rfl (fun hc => ?_) fun hc => ?_)
      · (repeat first | refine uA ?_ | (apply S.exit; exact rfl) | ((with_reducible refine And.intro ?_ ?_); focus first | omega | trivial | exact id | (intros; simp_all <;> omega)) | simp (disch := omega) only [go_sem, Nat.reduceBEq, Nat.reduceAdd, Nat.reduceLeDiff, Int.reduceToNat, Int.reducePow, ww])
        exact S.met (⟨y, x⟩ : List UInt8 × List UInt8) ⟨hcy, hcx, hly, by simp only; omega, by rw [Nat.gcd_comm]; exact hG, hne.2, hne.1, by simp only; omega⟩ (by (repeat first | refine uA ?_ | (refine ⟨?_, ?_⟩; focus first | rfl | trivial | (simp [slot]; done)) | rfl | trivial | simp))
      · (repeat first | refine uA ?_ | (apply S.exit; exact rfl) | ((with_reducible refine And.intro ?_ ?_); focus first | omega | trivial | exact id | (intros; simp_all <;> omega)) | simp (disch := omega) only [go_sem, Nat.reduceBEq, Nat.reduceAdd, Nat.reduceLeDiff, Int.reduceToNat, Int.reducePow, ww])
        exact S.met (⟨x, y⟩ : List UInt8 × List UInt8) ⟨hcx, hcy, hlx, by simp only; omega, hG, hne.1, hne.2, rfl⟩ (by (repeat first | refine uA ?_ | (refine ⟨?_, ?_⟩; focus first | rfl | trivial | (simp [slot]; done)) | rfl | trivial | simp))
    clear hcx hcy hlx hly hG hc hne
    rintro ⟨p, q⟩ ⟨hcx, hcy, hlx, hly, hG, hp0, hq0, hsum⟩
    simp only [sb] at hcx hcy hlx hly hG hp0 hq0 hsum ⊢
    have hvp : Nm.val p ≠ 0 := fun h => hp0 ((Nm.val_zero hcx).1 h)
    have hvq : Nm.val q ≠ 0 := fun h => hq0 ((Nm.val_zero hcy).1 h)
    (repeat first | refine uA ?_ | (apply S.exit; exact rfl) | ((with_reducible refine And.intro ?_ ?_); focus first | omega | trivial | exact id | (intros; simp_all <;> omega)) | simp (disch := omega) only [go_sem, Nat.reduceBEq, Nat.reduceAdd, Nat.reduceLeDiff, Int.reduceToNat, Int.reducePow, ww, E8])
    (refine uJ rfl (fun hc => ?_) fun hc => ?_)
    · have hx7 := Nm.Y1 (l := p) (k := 8) (by omega)
      have hy7 := Nm.Y1 (l := q) (k := 8) (by omega)
      have e1 : Nm.val p % 18446744073709551616 = Nm.val p := Nat.mod_eq_of_lt (by omega)
      have e2 : Nm.val q % 18446744073709551616 = Nm.val q := Nat.mod_eq_of_lt (by omega)
      have fx := a1J p (by omega)
      have fy := a1J q (by omega)
      rw [e1] at fx
      rw [e2] at fy
      have hco := b3G (Nm.val p) (Nm.val q) (by omega) (by omega)
      rw [hG] at hco
      have hle : G <= Nm.val q := by rw [<- hG]; exact Nat.gcd_le_right _ (by omega)
      have hf := Y7 G (by omega)
      (repeat first | refine uA ?_ | (apply S.exit; exact rfl) | ((with_reducible refine And.intro ?_ ?_); focus first | omega | trivial | exact id | (intros; simp_all <;> omega)) | simp (disch := omega) only [go_sem, Nat.reduceBEq, Nat.reduceAdd, Nat.reduceLeDiff, Int.reduceToNat, Int.reducePow, ww] | (refine uB fx ?_ ?_; exact rfl) | (refine uB fy ?_ ?_; exact rfl) | (refine uB hco ?_ ?_; exact rfl) | (refine uB hf ?_ ?_; exact rfl))
      exact S.done (d9.out rfl (Imp.refl rfl) rfl)
    (repeat first | refine uA ?_ | (apply S.exit; exact rfl) | ((with_reducible refine And.intro ?_ ?_); focus first | omega | trivial | exact id | (intros; simp_all <;> omega)) | simp (disch := omega) only [go_sem, Nat.reduceBEq, Nat.reduceAdd, Nat.reduceLeDiff, Int.reduceToNat, Int.reducePow, ww, E8])
    (refine uJ rfl (fun hc => ?_) fun hc => ?_)
    · have hh := c0e p q hlx (by omega) hvp hvq
      rw [hG] at hh
      (repeat first | refine uA ?_ | (apply S.exit; exact rfl) | ((with_reducible refine And.intro ?_ ?_); focus first | omega | trivial | exact id | (intros; simp_all <;> omega)) | simp (disch := omega) only [go_sem, Nat.reduceBEq, Nat.reduceAdd, Nat.reduceLeDiff, Int.reduceToNat, Int.reducePow, ww] | (refine uD hh ?_ ?_ ?_; exact tz hw; exact rfl))
      exact S.done (d9.out rfl (Imp.refl rfl) rfl)
    · have hd := b8s p q (by omega) (by omega) hvq
      have hlt : Nm.val p % Nm.val q < Nm.val q := Nat.mod_lt _ (by omega)
      have hlq := Nm.V4 q
      have hpq := Nm.a2i hcx (a := q) (b := p) (by omega)
      have hrl : (Nm.enc (Nm.val p % Nm.val q)).length <= q.length := Nm.I5 (by omega)
      (repeat first | refine uA ?_ | (apply S.exit; exact rfl) | ((with_reducible refine And.intro ?_ ?_); focus first | omega | trivial | exact id | (intros; simp_all <;> omega)) | simp (disch := omega) only [go_sem, Nat.reduceBEq, Nat.reduceAdd, Nat.reduceLeDiff, Int.reduceToNat, Int.reducePow, ww] | (refine uB hd ?_ ?_; exact rfl))
      refine S.next (x := (x, y)) (q, Nm.enc (Nm.val p % Nm.val q)) ⟨hcy, Nm.a2S _, by simp only; omega, by simp only; omega, ?_⟩ (by simp only [Nm.I8]; omega) (by (repeat first | refine uA ?_ | (refine ⟨?_, ?_⟩; focus first | rfl | trivial | (simp [slot]; done)) | rfl | trivial | simp))
      simp only [Nm.I8]
      rw [Nat.gcd_comm, <- Nat.gcd_rec, Nat.gcd_comm]; exact hG
  · have hr : Nm.enc G = x ++ y := by
      rw [Z6, Z6] at hc
      rcases Classical.em (x = []) with h | h
      · subst h
        rw [Nm.b1c, Nat.gcd_zero_left] at hG
        rw [<- hG, Nm.a0L hcy]; rfl
      · have hy : y = [] := by
          rcases hc with hc | hc
          · exact absurd hc h
          · exact hc
        subst hy
        rw [Nm.b1c, Nat.gcd_zero_right] at hG
        rw [<- hG, Nm.a0L hcx, List.append_nil]
    rw [hr]
    (repeat first | refine uA ?_ | (apply S.exit; exact rfl) | ((with_reducible refine And.intro ?_ ?_); focus first | omega | trivial | exact id | (intros; simp_all <;> omega)) | simp (disch := omega) only [go_sem, Nat.reduceBEq, Nat.reduceAdd, Nat.reduceLeDiff, Int.reduceToNat, Int.reducePow, ww, c2A, E8])
    exact S.done (d9.out rfl (Imp.refl rfl) rfl)
end Go.Proofs.YtogfpjohjphngaaGreatDoor
namespace Go.Proofs.YtogfpjohjphngaaGreatDoor
set_option linter.all false
open Go Go.RowKit Eng
set_option maxRecDepth 10000
set_option maxHeartbeats 4000000
def rc (a : Nm.Rt) : C := .agg [.v (.bool a.neg), sb a.num, sb a.den]
def rq (q : Rat) : C := rc (Nm.ofQ q)
def Rb (k : Nat) (a : Nm.Rt) : Prop := a.num.length <= k /\ a.den.length <= k
theorem a5n (l : List UInt8) : (bs l = (⟨#[1]⟩ : ByteArray)) = (l = [1]) := b7J l [1]
theorem b2o (l : List UInt8) : Nm.canon l <-> (l = [] \/ l.getD 0 0 ≠ 0) := by
 cases l with
 | nil => simp [Nm.a6S]
 | cons b r =>
  simp only [List.getD_cons_zero, reduceCtorEq, false_or]
  constructor
  ·intro h h0; exact h r (by rw [h0])
  ·intro h q e; injection e with e1 _; exact h e1
theorem a2K (a : Nm.Rt) (ha : Rb 68719476736 a) : FZ 62 [rc a] (.v (.bool (decide a.H7))) := by
  refine q8.of b5j b5A (by exact Nat.le_of_ble_eq_true rfl) fun w O hw => ?_
  obtain ⟨neg, num, den⟩ := a
  obtain ⟨hn, hd⟩ := ha
  simp only [rc] at hn hd ⊢
  simp only [a8u, l9, TT, II, OA, OB, OC, MM, LL, VV, FF, MG, LG, VG, FG, sb]
  have hg := c0W num den (by omega) (by omega)
  have hgood : Nm.Rt.H7 ⟨neg, num, den⟩ <-> den ≠ [] /\ Nm.canon den /\ Nm.canon num /\ (num = [] -> neg = false /\ den = [1]) /\ (den = [1] \/ Nat.gcd (Nm.val num) (Nm.val den) = 1) := Iff.rfl
  rw [b2o, b2o] at hgood
  have hdl : (!decide (den = [])) = true -> 0 < (den.length : Int) := fun h => by
    have : den ≠ [] := by simpa using h
    have := List.length_pos_iff.2 this
    omega
  have hnl : num ≠ [] -> 0 < (num.length : Int) := fun h => by
    have := List.length_pos_iff.2 h
    omega
  have hgb0 : ∀ {p : Prop} [Decidable p], (Nm.Rt.H7 ⟨neg, num, den⟩ <-> p) -> decide (Nm.Rt.H7 ⟨neg, num, den⟩) = decide p := fun h => decide_eq_decide.2 h
  have hgb := hgb0 hgood
  clear hgood hgb0
  generalize decide (Nm.Rt.H7 ⟨neg, num, den⟩) = gb at *
  (repeat first | refine uA ?_ | (apply S.exit; exact rfl) | ((with_reducible refine And.intro ?_ ?_); focus first | omega | trivial | exact id | (intro h; rw [h]; rfl) | (intro h h2; rw [h, h2]; rfl) | (intro h; (try simp at h); omega) | (intros; simp_all <;> omega)) | simp only [go_sem, Nat.reduceBEq, Nat.reduceAdd, Nat.reduceLeDiff, Int.reduceToNat, Int.reducePow, E8, O7, a7U, Z6, a5n] | simp (disch := omega) only [ww, E8, O7, a7U, Z6, a5n])
  refine S.cond rfl (fun hc => ?_) (fun hc => ?_)
  · have : gb = false := by
      rw [hgb, decide_eq_false_iff_not]
      simp only [Bool.or_eq_true, Bool.and_eq_true, decide_eq_true_eq, Bool.not_eq_true', decide_eq_false_iff_not] at hc
      grind
    rw [this]
    (repeat first | refine uA ?_ | (apply S.exit; exact rfl) | ((with_reducible refine And.intro ?_ ?_); focus first | omega | trivial | exact id | (intro h; rw [h]; rfl) | (intro h h2; rw [h, h2]; rfl) | (intro h; (try simp at h); omega) | (intros; simp_all <;> omega)) | simp only [go_sem, Nat.reduceBEq, Nat.reduceAdd, Nat.reduceLeDiff, Int.reduceToNat, Int.reducePow] | simp (disch := omega) only [ww])
    exact S.done (d9.out rfl (Imp.refl rfl) rfl)
  · have hone : (Nm.enc (Nat.gcd (Nm.val num) (Nm.val den)) = [1]) = (Nat.gcd (Nm.val num) (Nm.val den) = 1) := by
      rw [<- Nm.a1E]
      exact propext ⟨Nm.b0M, fun h => by rw [h]⟩
    have : gb = (decide (den = [1]) || decide (Nat.gcd (Nm.val num) (Nm.val den) = 1)) := by
      rw [hgb, <- Bool.decide_or]
      simp only [Bool.or_eq_false_iff, Bool.and_eq_false_iff, decide_eq_true_eq, Bool.not_eq_false', decide_eq_false_iff_not] at hc
      refine decide_eq_decide.2 ⟨fun h => h.2.2.2.2, fun h => ?_⟩
      grind
    rw [this]
    (repeat first | refine uA ?_ | (apply S.exit; exact rfl) | ((with_reducible refine And.intro ?_ ?_); focus first | omega | trivial | exact id | (intro h; rw [h]; rfl) | (intro h h2; rw [h, h2]; rfl) | (intro h; (try simp at h); omega) | (intros; simp_all <;> omega)) | simp only [go_sem, Nat.reduceBEq, Nat.reduceAdd, Nat.reduceLeDiff, Int.reduceToNat, Int.reducePow, Z6, a5n, hone] | simp (disch := omega) only [ww, Z6, a5n, hone] | (refine uD hg ?_ ?_ ?_; exact tz hw; exact rfl))
    exact S.done (d9.out rfl (Imp.refl rfl) rfl)
end Go.Proofs.YtogfpjohjphngaaGreatDoor
namespace Go.Proofs.YtogfpjohjphngaaGreatDoor
set_option linter.all false
open Go Go.RowKit Eng
set_option maxRecDepth 10000
set_option maxHeartbeats 4000000
theorem b9w : A8 Tryz.prog 181 [] (rc Nm.a2D) := by
 refine A8.of b5T b6b (by exact Nat.le_of_ble_eq_true rfl) fun w O => ?_
 simp only [a8F, l9, TT, II, OA, OB, OC, MM, LL, VV, FF, MG, LG, VG, FG, rc, Nm.a2D, sb]
 (repeat first | refine uA ?_ | (apply S.exit; exact rfl) | ((with_reducible refine And.intro ?_ ?_); focus first | omega | trivial | exact id | (intros; simp_all <;> omega)) | simp (disch := omega) only [go_sem, Nat.reduceBEq, Nat.reduceAdd, Nat.reduceLeDiff, Int.reduceToNat, Int.reducePow, ww])
 (refine S.done ?_; simp only [x9, u6, go_sem, Nat.reduceBEq, Nat.reduceAdd, Nat.reduceLeDiff, Int.reduceToNat, Int.reducePow]; (repeat (refine ⟨?_, ?_⟩; focus first | trivial | omega | simp)); exact d9.out rfl (Imp.refl rfl) rfl)
theorem c3j (a : Nm.Rt) (ha : Rb 68719476736 a) : FZ 76 [rc a] (rq (Nm.j3 a)) := by
 refine q8.of b6Z b7A (by exact Nat.le_of_ble_eq_true rfl) fun w O hw => ?_
 have hg := a2K a ha
 have fz := b9w
 unfold rq
 by_cases h : a.H7
 ·rw [Nm.b9g h]
  rw [show decide a.H7 = true from decide_eq_true h] at hg
  simp only [a5L, l9, TT, II, OA, OB, OC, MM, LL, VV, FF, MG, LG, VG, FG, rc, sb] at hg ⊢
  (repeat first | refine uA ?_ | (apply S.exit; exact rfl) | ((with_reducible refine And.intro ?_ ?_); focus first | omega | trivial | exact id | (intros; simp_all <;> omega)) | simp (disch := omega) only [go_sem, Nat.reduceBEq, Nat.reduceAdd, Nat.reduceLeDiff, Int.reduceToNat, Int.reducePow, ww] | (refine uD hg ?_ ?_ ?_; exact tz hw; exact rfl))
  exact S.cond rfl (fun hc => by cases hc) (fun _ => by
   (repeat first | refine uA ?_ | (apply S.exit; exact rfl) | ((with_reducible refine And.intro ?_ ?_); focus first | omega | trivial | exact id | (intros; simp_all <;> omega)) | simp (disch := omega) only [go_sem, Nat.reduceBEq, Nat.reduceAdd, Nat.reduceLeDiff, Int.reduceToNat, Int.reducePow, ww])
   (refine S.done ?_; simp only [x9, u6, go_sem, Nat.reduceBEq, Nat.reduceAdd, Nat.reduceLeDiff, Int.reduceToNat, Int.reducePow]; (repeat (refine ⟨?_, ?_⟩; focus first | trivial | omega | simp)); exact d9.out rfl (Imp.refl rfl) rfl))
 ·have e : Nm.ofQ (Nm.j3 a) = Nm.a2D := by unfold Nm.j3; rw [if_neg h, Nm.a3E]
  rw [e]
  rw [show decide a.H7 = false from decide_eq_false h] at hg
  simp only [a5L, l9, TT, II, OA, OB, OC, MM, LL, VV, FF, MG, LG, VG, FG, rc, sb, Nm.a2D] at hg fz ⊢
  (repeat first | refine uA ?_ | (apply S.exit; exact rfl) | ((with_reducible refine And.intro ?_ ?_); focus first | omega | trivial | exact id | (intros; simp_all <;> omega)) | simp (disch := omega) only [go_sem, Nat.reduceBEq, Nat.reduceAdd, Nat.reduceLeDiff, Int.reduceToNat, Int.reducePow, ww] | (refine uD hg ?_ ?_ ?_; exact tz hw; exact rfl))
  exact S.cond rfl (fun _ => by
   (repeat first | refine uA ?_ | (apply S.exit; exact rfl) | ((with_reducible refine And.intro ?_ ?_); focus first | omega | trivial | exact id | (intros; simp_all <;> omega)) | simp (disch := omega) only [go_sem, Nat.reduceBEq, Nat.reduceAdd, Nat.reduceLeDiff, Int.reduceToNat, Int.reducePow, ww] | (refine uB fz ?_ ?_; exact rfl))
   (refine S.done ?_; simp only [x9, u6, go_sem, Nat.reduceBEq, Nat.reduceAdd, Nat.reduceLeDiff, Int.reduceToNat, Int.reducePow]; (repeat (refine ⟨?_, ?_⟩; focus first | trivial | omega | simp)); exact d9.out rfl (Imp.refl rfl) rfl)) (fun hc => by cases hc)
theorem c2c {n d k : Nat} (hd : 0 < d) (h : (Nm.enc d).length <= k) : (Nm.enc (Nat.gcd n d)).length <= k := Nm.I5 (Nat.lt_of_le_of_lt (Nat.gcd_le_right n hd) (Nm.X6 h))
theorem a5i (neg : Bool) (n d : Nat) (hd : d ≠ 0) (hn : (Nm.enc n).length <= 68719476736) (hdl : (Nm.enc d).length <= 68719476736) :
  FZ 78 [.v (.bool neg), sb (Nm.enc n), sb (Nm.enc d)] (rq (mkRat (Nm.sgn neg n) d)) := by
 refine q8.of b5W b5D (by exact Nat.le_of_ble_eq_true rfl) fun w O hw => ?_
 have fz := b9w
 have hg := c0W (Nm.enc n) (Nm.enc d) hn hdl
 rw [Nm.I8, Nm.I8] at hg
 unfold rq
 rw [<- Nm.b0N neg hd]
 have hz : (Nm.enc n = []) = (n = 0) := propext ⟨fun h => Classical.byContradiction fun h0 => Nm.a5v h0 h, fun h => by rw [h, Nm.a0N]⟩
 have h1 : ∀ d, (Nm.enc d = [1]) = (d = 1) := fun d => by
  rw [<- Nm.a1E]; exact propext ⟨Nm.b0M, fun h => by rw [h]⟩
 have hgp : Nat.gcd n d ≠ 0 := fun h => hd (Nat.eq_zero_of_gcd_eq_zero_right h)
 have hgl : (Nm.enc (Nat.gcd n d)).length <= 68719476736 := by
  exact c2c (by omega) hdl
 have hd1 := b8s (Nm.enc n) (Nm.enc (Nat.gcd n d)) (by omega) (by omega) (by rw [Nm.I8]; exact hgp)
 have hd2 := b8s (Nm.enc d) (Nm.enc (Nat.gcd n d)) (by omega) (by omega) (by rw [Nm.I8]; exact hgp)
 simp only [Nm.I8] at hd1 hd2
 generalize hgg : Nat.gcd n d = g at *
 simp only [a8p, l9, TT, II, OA, OB, OC, MM, LL, VV, FF, MG, LG, VG, FG, sb]
 (repeat first | refine uA ?_ | (apply S.exit; exact rfl) | ((with_reducible refine And.intro ?_ ?_); focus first | omega | trivial | exact id | (intros; simp_all <;> omega)) | simp (disch := omega) only [go_sem, Nat.reduceBEq, Nat.reduceAdd, Nat.reduceLeDiff, Int.reduceToNat, Int.reducePow, ww, Z6, hz])
 (refine uJ rfl (fun hc => ?_) fun hc => ?_)
 ·rw [if_pos hc]
  simp only [rc, Nm.a2D, sb] at fz ⊢
  (repeat first | refine uA ?_ | (apply S.exit; exact rfl) | ((with_reducible refine And.intro ?_ ?_); focus first | omega | trivial | exact id | (intros; simp_all <;> omega)) | simp (disch := omega) only [go_sem, Nat.reduceBEq, Nat.reduceAdd, Nat.reduceLeDiff, Int.reduceToNat, Int.reducePow, ww] | (refine uB fz ?_ ?_; exact rfl))
  (refine S.done ?_; simp only [x9, u6, go_sem, Nat.reduceBEq, Nat.reduceAdd, Nat.reduceLeDiff, Int.reduceToNat, Int.reducePow]; (repeat (refine ⟨?_, ?_⟩; focus first | trivial | omega | simp)); exact d9.out rfl (Imp.refl rfl) rfl)
 rw [if_neg hc]
 simp only [rc, sb]
 (repeat first | refine uA ?_ | (apply S.exit; exact rfl) | ((with_reducible refine And.intro ?_ ?_); focus first | omega | trivial | exact id | (intros; simp_all <;> omega)) | simp (disch := omega) only [go_sem, Nat.reduceBEq, Nat.reduceAdd, Nat.reduceLeDiff, Int.reduceToNat, Int.reducePow, ww, a5n, h1])
 (refine uJ rfl (fun hc => ?_) fun hc => ?_)
 ·(repeat first | refine uA ?_ | (apply S.exit; exact rfl) | ((with_reducible refine And.intro ?_ ?_); focus first | omega | trivial | exact id | (intros; simp_all <;> omega)) | simp (disch := omega) only [go_sem, Nat.reduceBEq, Nat.reduceAdd, Nat.reduceLeDiff, Int.reduceToNat, Int.reducePow, ww, a5n, h1] | (refine uD hg ?_ ?_ ?_; exact tz hw; exact rfl))
  (refine uJ rfl (fun hc => ?_) fun hc => ?_)
  ·(repeat first | refine uA ?_ | (apply S.exit; exact rfl) | ((with_reducible refine And.intro ?_ ?_); focus first | omega | trivial | exact id | (intros; simp_all <;> omega)) | simp (disch := omega) only [go_sem, Nat.reduceBEq, Nat.reduceAdd, Nat.reduceLeDiff, Int.reduceToNat, Int.reducePow, ww] | (refine uB hd1 ?_ ?_; exact rfl) | (refine uB hd2 ?_ ?_; exact rfl))
   (refine S.done ?_; simp only [x9, u6, go_sem, Nat.reduceBEq, Nat.reduceAdd, Nat.reduceLeDiff, Int.reduceToNat, Int.reducePow]; (repeat (refine ⟨?_, ?_⟩; focus first | trivial | omega | simp)); exact d9.out rfl (Imp.refl rfl) rfl)
  ·rw [hc, Nat.div_one, Nat.div_one]
   (repeat first | refine uA ?_ | (apply S.exit; exact rfl) | ((with_reducible refine And.intro ?_ ?_); focus first | omega | trivial | exact id | (intros; simp_all <;> omega)) | simp (disch := omega) only [go_sem, Nat.reduceBEq, Nat.reduceAdd, Nat.reduceLeDiff, Int.reduceToNat, Int.reducePow, ww])
   (refine S.done ?_; simp only [x9, u6, go_sem, Nat.reduceBEq, Nat.reduceAdd, Nat.reduceLeDiff, Int.reduceToNat, Int.reducePow]; (repeat (refine ⟨?_, ?_⟩; focus first | trivial | omega | simp)); exact d9.out rfl (Imp.refl rfl) rfl)
 ·rw [hc, Nat.gcd_one_right] at hgg
  subst hgg
  rw [hc, Nat.div_one, Nat.div_one]
  (repeat first | refine uA ?_ | (apply S.exit; exact rfl) | ((with_reducible refine And.intro ?_ ?_); focus first | omega | trivial | exact id | (intros; simp_all <;> omega)) | simp (disch := omega) only [go_sem, Nat.reduceBEq, Nat.reduceAdd, Nat.reduceLeDiff, Int.reduceToNat, Int.reducePow, ww])
  (refine S.done ?_; simp only [x9, u6, go_sem, Nat.reduceBEq, Nat.reduceAdd, Nat.reduceLeDiff, Int.reduceToNat, Int.reducePow]; (repeat (refine ⟨?_, ?_⟩; focus first | trivial | omega | simp)); exact d9.out rfl (Imp.refl rfl) rfl)
theorem b3c (neg mi : Bool) (a b : List UInt8) (ha : a.length <= 68719476736) (hb : b.length <= 68719476736) :
  A8 Tryz.prog 77 [.v (.bool neg), sb a, .v (.bool mi), sb b] (.tup [.v (.bool (Nm.K5 neg (Nm.val a) mi (Nm.val b)).1), sb (Nm.enc (Nm.K5 neg (Nm.val a) mi (Nm.val b)).2)]) := by
 refine A8.of b2M b2J (by exact Nat.le_of_ble_eq_true rfl) fun w O => ?_
 have hadd := f_add a b (by omega) (by omega)
 have hs1 := c1g a b (by omega) (by omega)
 have hs2 := c1g b a (by omega) (by omega)
 simp only [a6r, l9, TT, II, OA, OB, OC, MM, LL, VV, FF, MG, LG, VG, FG, sb]
 (repeat first | refine uA ?_ | (apply S.exit; exact rfl) | ((with_reducible refine And.intro ?_ ?_); focus first | omega | trivial | exact id | (intros; simp_all <;> omega)) | simp (disch := omega) only [go_sem, Nat.reduceBEq, Nat.reduceAdd, Nat.reduceLeDiff, Int.reduceToNat, Int.reducePow, ww])
 refine S.cond rfl (fun hc => ?_) (fun hc => ?_)
 ·have e : neg = mi := by simpa using hc
  subst e
  unfold Nm.K5
  rw [if_pos rfl]
  (repeat first | refine uA ?_ | (apply S.exit; exact rfl) | ((with_reducible refine And.intro ?_ ?_); focus first | omega | trivial | exact id | (intros; simp_all <;> omega)) | simp (disch := omega) only [go_sem, Nat.reduceBEq, Nat.reduceAdd, Nat.reduceLeDiff, Int.reduceToNat, Int.reducePow, ww] | (refine uB hadd ?_ ?_; exact rfl))
  exact S.done (d9.out rfl (Imp.refl rfl) rfl)
 ·have e : neg ≠ mi := by simpa using hc
  unfold Nm.K5
  rw [if_neg e]
  by_cases h : Nm.val b <= Nm.val a
  ·rw [if_pos h]
   have e1 : J5 (Nm.val a) (Nm.val b) = Nm.enc (Nm.val a - Nm.val b) := by unfold J5; rw [if_pos h]
   have e2 : a3V (Nm.val a) (Nm.val b) = 0 := by unfold a3V; rw [if_pos h]
   rw [e1, e2] at hs1
   (repeat first | refine uA ?_ | (apply S.exit; exact rfl) | ((with_reducible refine And.intro ?_ ?_); focus first | omega | trivial | exact id | (intros; simp_all <;> omega)) | simp (disch := omega) only [go_sem, Nat.reduceBEq, Nat.reduceAdd, Nat.reduceLeDiff, Int.reduceToNat, Int.reducePow, ww] | (refine uB hs1 ?_ ?_; exact rfl))
   refine S.cond rfl (fun hc => ?_) (fun hc => ?_)
   ·(repeat first | refine uA ?_ | (apply S.exit; exact rfl) | ((with_reducible refine And.intro ?_ ?_); focus first | omega | trivial | exact id | (intros; simp_all <;> omega)) | simp (disch := omega) only [go_sem, Nat.reduceBEq, Nat.reduceAdd, Nat.reduceLeDiff, Int.reduceToNat, Int.reducePow, ww])
    exact S.done (d9.out rfl (Imp.refl rfl) rfl)
   ·simp at hc
  ·rw [if_neg h]
   have e1 : J5 (Nm.val a) (Nm.val b) = [] := by unfold J5; rw [if_neg h]
   have e2 : a3V (Nm.val a) (Nm.val b) = 1 := by unfold a3V; rw [if_neg h]
   have e3 : J5 (Nm.val b) (Nm.val a) = Nm.enc (Nm.val b - Nm.val a) := by unfold J5; rw [if_pos (by omega)]
   have e4 : a3V (Nm.val b) (Nm.val a) = 0 := by unfold a3V; rw [if_pos (by omega)]
   rw [e1, e2] at hs1
   rw [e3, e4] at hs2
   (repeat first | refine uA ?_ | (apply S.exit; exact rfl) | ((with_reducible refine And.intro ?_ ?_); focus first | omega | trivial | exact id | (intros; simp_all <;> omega)) | simp (disch := omega) only [go_sem, Nat.reduceBEq, Nat.reduceAdd, Nat.reduceLeDiff, Int.reduceToNat, Int.reducePow, ww] | (refine uB hs1 ?_ ?_; exact rfl))
   refine S.cond rfl (fun hc => ?_) (fun hc => ?_)
   ·simp at hc
   ·(repeat first | refine uA ?_ | (apply S.exit; exact rfl) | ((with_reducible refine And.intro ?_ ?_); focus first | omega | trivial | exact id | (intros; simp_all <;> omega)) | simp (disch := omega) only [go_sem, Nat.reduceBEq, Nat.reduceAdd, Nat.reduceLeDiff, Int.reduceToNat, Int.reducePow, ww] | (refine uB hs2 ?_ ?_; exact rfl))
    exact S.done (d9.out rfl (Imp.refl rfl) rfl)
end Go.Proofs.YtogfpjohjphngaaGreatDoor
namespace Go.Proofs.YtogfpjohjphngaaGreatDoor
set_option linter.all false
open Go Go.RowKit Eng
set_option maxRecDepth 10000
set_option maxHeartbeats 4000000
namespace Nm
theorem I6 {a b k m : Nat} (ha : (enc a).length <= k) (hb : (enc b).length <= m) : (enc (a * b)).length <= k + m := by
 refine I5 ?_
 rw [Nat.pow_add]
 exact Nat.mul_lt_mul'' (X6 ha) (X6 hb)
theorem a4G {a b k : Nat} (ha : (enc a).length <= k) (hb : (enc b).length <= k) : (enc (a + b)).length <= k + 1 := by
 refine I5 ?_
 have h1 := X6 ha
 have h2 := X6 hb
 rw [Nat.pow_succ]; omega
theorem a3y {a b : Nat} (h : a <= b) : (enc a).length <= (enc b).length := I5 (Nat.lt_of_le_of_lt h (X6 (Nat.le_refl _)))
theorem a5O (neg : Bool) (a : Nat) (mi : Bool) (b : Nat) : (K5 neg a mi b).2 <= a + b := by
 unfold K5; repeat' split
 all_goals simp only; omega
theorem add_same {p q : Rat} (h : p.den = q.den) : p + q = mkRat (p.num + q.num) p.den := by
 rw [Rat.add_def', <- h, <- Int.add_mul, Rat.mkRat_mul_right p.den_nz]
theorem a7S (p : Rat) : sgn (decide (p.num < 0)) p.num.natAbs = p.num := b6I p
theorem c0N {p q : Rat} (h : p.den = q.den) : mkRat (sgn (K5 (decide (p.num < 0)) p.num.natAbs (decide (q.num < 0)) q.num.natAbs).1 (K5 (decide (p.num < 0)) p.num.natAbs (decide (q.num < 0)) q.num.natAbs).2) p.den = p + q := by
 rw [b1L, a7S, a7S, add_same h]
theorem b1w (p q : Rat) : mkRat (sgn (K5 (decide (p.num < 0)) (p.num.natAbs * q.den) (decide (q.num < 0)) (q.num.natAbs * p.den)).1 (K5 (decide (p.num < 0)) (p.num.natAbs * q.den) (decide (q.num < 0)) (q.num.natAbs * p.den)).2) (p.den * q.den) = p + q := by
 rw [b1L, a4B, a4B, a7S, a7S, Rat.add_def']
theorem b3r (p q : Rat) : mkRat (sgn (decide (p.num < 0) != decide (q.num < 0)) (p.num.natAbs * q.num.natAbs)) (p.den * q.den) = p * q := by
 rw [c1z, a7S, a7S, Rat.mul_def']
theorem b4V (p q : Rat) (h : q ≠ 0) : mkRat (sgn (decide (p.num < 0) != decide (q.num < 0)) (p.num.natAbs * q.den)) (p.den * q.num.natAbs) = p / q := by
 have hn : q.num ≠ 0 := fun e => h (Rat.num_eq_zero.1 e)
 have hn' : q.num.natAbs ≠ 0 := by omega
 generalize hr : mkRat (sgn (decide (p.num < 0) != decide (q.num < 0)) (p.num.natAbs * q.den)) (p.den * q.num.natAbs) = r
 have key : p = r * q := by
  rw [<- hr]
  have e1 : p = mkRat p.num p.den := (Rat.mkRat_self p).symm
  have e2 : q = mkRat q.num q.den := (Rat.mkRat_self q).symm
  have hD : p.den * q.num.natAbs * q.den ≠ 0 := Nat.mul_ne_zero (Nat.mul_ne_zero p.den_nz hn') q.den_nz
  have e3 : mkRat (sgn (decide (p.num < 0) != decide (q.num < 0)) (p.num.natAbs * q.den)) (p.den * q.num.natAbs) * q = mkRat (sgn (decide (p.num < 0) != decide (q.num < 0)) (p.num.natAbs * q.den) * q.num) (p.den * q.num.natAbs * q.den) := by
   conv => lhs; rw [e2]
   rw [Rat.mkRat_mul_mkRat]
   simp only [Rat.mkRat_self]
  rw [e3]
  conv => lhs; rw [e1]
  rw [Rat.mkRat_eq_iff p.den_nz hD]
  have hx : sgn (decide (p.num < 0) != decide (q.num < 0)) (p.num.natAbs * q.den) * q.num = p.num * ((q.num.natAbs : Nat) : Int) * q.den := by
   rw [a4B]
   have : sgn (decide (p.num < 0) != decide (q.num < 0)) p.num.natAbs * q.num = p.num * ((q.num.natAbs : Nat) : Int) := by
    unfold sgn
    by_cases hA : p.num < 0
    ·by_cases hB : q.num < 0
     ·simp only [hA, hB, decide_true, bne_self_eq_false, Bool.false_eq_true, if_false]
      have e1 : ((p.num.natAbs : Nat) : Int) = -p.num := by omega
      have e2 : ((q.num.natAbs : Nat) : Int) = -q.num := by omega
      rw [e1, e2]; grind
     ·simp only [hA, hB, decide_true, decide_false, Bool.bne_false, if_true]
      have e1 : ((p.num.natAbs : Nat) : Int) = -p.num := by omega
      have e2 : ((q.num.natAbs : Nat) : Int) = q.num := by omega
      rw [e1, e2]; grind
    ·by_cases hB : q.num < 0
     ·simp only [hA, hB, decide_true, decide_false, Bool.bne_true, Bool.not_false, if_true]
      have e1 : ((p.num.natAbs : Nat) : Int) = p.num := by omega
      have e2 : ((q.num.natAbs : Nat) : Int) = -q.num := by omega
      rw [e1, e2]; grind
     ·simp only [hA, hB, decide_false, bne_self_eq_false, Bool.false_eq_true, if_false]
      have e1 : ((p.num.natAbs : Nat) : Int) = p.num := by omega
      have e2 : ((q.num.natAbs : Nat) : Int) = q.num := by omega
      rw [e1, e2]
   calc sgn (decide (p.num < 0) != decide (q.num < 0)) p.num.natAbs * (q.den : Int) * q.num = (sgn (decide (p.num < 0) != decide (q.num < 0)) p.num.natAbs * q.num) * (q.den : Int) := by grind
    _ = _ := by rw [this]
  rw [hx]
  push_cast
  grind
 rw [Rat.div_def]
 conv => rhs; rw [key]
 rw [Rat.mul_assoc, Rat.mul_inv_cancel _ h, Rat.mul_one]
end Nm
theorem Rb.fit {k : Nat} {a : Nm.Rt} (h : Rb k a) (hk : 1 <= k) : Rb k (Nm.ofQ (Nm.j3 a)) := by
 by_cases hg : a.H7
 ·rw [Nm.b9g hg]; exact h
 ·have e : Nm.ofQ (Nm.j3 a) = Nm.a2D := by unfold Nm.j3; rw [if_neg hg, Nm.a3E]
  rw [e]; exact ⟨Nat.zero_le _, hk⟩
end Go.Proofs.YtogfpjohjphngaaGreatDoor
namespace Go.Proofs.YtogfpjohjphngaaGreatDoor
set_option linter.all false
open Go Go.RowKit Eng
set_option maxRecDepth 10000
set_option maxHeartbeats 4000000
theorem Q0 (a : Nm.Rt) (ha : Rb 17179869184 a) : FZ 76 [rc a] (rq (Nm.j3 a)) := c3j a ⟨by have := ha.1; omega, by have := ha.2; omega⟩
theorem c1J (a b : Nat) : (Nm.enc a = Nm.enc b) = (a = b) := propext ⟨Nm.b0M, fun h => by rw [h]⟩
theorem a7d (n : Nat) : (Nm.enc n = []) = (n = 0) := propext ⟨fun h => Classical.byContradiction fun h0 => Nm.a5v h0 h, fun h => by rw [h, Nm.a0N]⟩
theorem a5Y (n : Int) (h1 : -9223372036854775808 <= n) (h2 : n <= 9223372036854775807) : FZ 71 [ints n] (rq (n : Rat)) := by
 refine q8.of b9f b8Y (by exact Nat.le_of_ble_eq_true rfl) fun w O hw => ?_
 have hb : ∀ k : Nat, k <= 9223372036854775808 -> (Nm.enc k).length <= 8 := fun k hk => Nm.I5 (by omega)
 have e1 : sb [1] = sb (Nm.enc 1) := by rw [Nm.a1E]
 simp only [b1M, l9, TT, II, OA, OB, OC, MM, LL, VV, FF, MG, LG, VG, FG, ints]
 (repeat first | refine uA ?_ | (apply S.exit; exact rfl) | ((with_reducible refine And.intro ?_ ?_); focus first | omega | trivial | exact id | (intros; simp_all <;> omega)) | simp (disch := omega) only [go_sem, Nat.reduceBEq, Nat.reduceAdd, Nat.reduceLeDiff, Int.reduceToNat, Int.reducePow, ww])
 (refine uJ rfl (fun hc => ?_) fun hc => ?_)
 ·have hof := b8u n (by omega)
  have hm := a5i false n.toNat 1 (by decide) (by have := hb n.toNat (by omega); omega) (by have := hb 1 (by decide); omega)
  have e : mkRat (Nm.sgn false n.toNat) 1 = (n : Rat) := by
   rw [Rat.mkRat_one]; congr 1; unfold Nm.sgn; simp; omega
  rw [e, Nm.a1E] at hm
  simp only [rq, rc, sb, ints] at hm hof ⊢
  (repeat first | refine uA ?_ | (apply S.exit; exact rfl) | ((with_reducible refine And.intro ?_ ?_); focus first | omega | trivial | exact id | (intros; simp_all <;> omega)) | simp (disch := omega) only [go_sem, Nat.reduceBEq, Nat.reduceAdd, Nat.reduceLeDiff, Int.reduceToNat, Int.reducePow, ww] | (refine uB hof ?_ ?_; exact rfl) | (refine uD hm ?_ ?_ ?_; exact tz hw; exact rfl))
  (refine S.done ?_; simp only [x9, u6, go_sem, Nat.reduceBEq, Nat.reduceAdd, Nat.reduceLeDiff, Int.reduceToNat, Int.reducePow]; (repeat (refine ⟨?_, ?_⟩; focus first | trivial | omega | simp)); exact d9.out rfl (Imp.refl rfl) rfl)
 ·have hof := b8u (-(n + 1)) (by omega)
  have hadd := f_add (Nm.enc (-(n + 1)).toNat) [1] (by have := hb (-(n + 1)).toNat (by omega); omega) (by decide)
  have hm := a5i true ((-(n + 1)).toNat + 1) 1 (by decide) (by have := hb ((-(n + 1)).toNat + 1) (by omega); omega) (by have := hb 1 (by decide); omega)
  have e : mkRat (Nm.sgn true ((-(n + 1)).toNat + 1)) 1 = (n : Rat) := by
   rw [Rat.mkRat_one]; congr 1; unfold Nm.sgn; simp; omega
  rw [Nm.I8, show Nm.val [1] = 1 from rfl] at hadd
  rw [e, Nm.a1E] at hm
  have hneg : IntKind.i64.wrap (0 - (n + 1)) = -(n + 1) := by rw [Eng.wrap_i64 (by omega)]; omega
  simp only [rq, rc, sb, ints] at hm hof hadd ⊢
  (repeat first | refine uA ?_ | (apply S.exit; exact rfl) | ((with_reducible refine And.intro ?_ ?_); focus first | omega | trivial | exact id | (intros; simp_all <;> omega)) | simp (disch := omega) only [go_sem, Nat.reduceBEq, Nat.reduceAdd, Nat.reduceLeDiff, Int.reduceToNat, Int.reducePow, ww, hneg] | (refine uB hof ?_ ?_; exact rfl) | (refine uB hadd ?_ ?_; exact rfl) | (refine uD hm ?_ ?_ ?_; exact tz hw; exact rfl))
  (refine S.done ?_; simp only [x9, u6, go_sem, Nat.reduceBEq, Nat.reduceAdd, Nat.reduceLeDiff, Int.reduceToNat, Int.reducePow]; (repeat (refine ⟨?_, ?_⟩; focus first | trivial | omega | simp)); exact d9.out rfl (Imp.refl rfl) rfl)
theorem a3M (a b : Nm.Rt) (ha : Rb 17179869184 a) (hb : Rb 17179869184 b) : FZ 16 [rc a, rc b] (rq (Nm.j3 a + Nm.j3 b)) := by
 refine q8.of b7N b7S (by exact Nat.le_of_ble_eq_true rfl) fun w O hw => ?_
 have hfa := Q0 a ha
 have hfb := Q0 b hb
 obtain ⟨n1, d1⟩ := ha.fit (by decide)
 obtain ⟨n2, d2⟩ := hb.fit (by decide)
 generalize Nm.j3 a = p at *
 generalize Nm.j3 b = q at *
 simp only [Nm.ofQ] at n1 d1 n2 d2
 have hp := p.den_nz
 have hq := q.den_nz
 have l1 := Nm.I6 n1 d2
 have l2 := Nm.I6 n2 d1
 have l3 := Nm.I6 d1 d2
 have s1 := b3c (decide (p.num < 0)) (decide (q.num < 0)) (Nm.enc p.num.natAbs) (Nm.enc q.num.natAbs) (by omega) (by omega)
 have m1 := a2C (Nm.enc p.num.natAbs) (Nm.enc q.den) (by omega) (by omega)
 have m2 := a2C (Nm.enc q.num.natAbs) (Nm.enc p.den) (by omega) (by omega)
 have m3 := a2C (Nm.enc p.den) (Nm.enc q.den) (by omega) (by omega)
 simp only [Nm.I8] at s1 m1 m2 m3
 have s2 := b3c (decide (p.num < 0)) (decide (q.num < 0)) (Nm.enc (p.num.natAbs * q.den)) (Nm.enc (q.num.natAbs * p.den)) (by omega) (by omega)
 simp only [Nm.I8] at s2
 have k1 : (Nm.enc (Nm.K5 (decide (p.num < 0)) p.num.natAbs (decide (q.num < 0)) q.num.natAbs).2).length <= 17179869185 := Nat.le_trans (Nm.a3y (Nm.a5O _ _ _ _)) (Nm.a4G n1 n2)
 have k2 : (Nm.enc (Nm.K5 (decide (p.num < 0)) (p.num.natAbs * q.den) (decide (q.num < 0)) (q.num.natAbs * p.den)).2).length <= 34359738369 := Nat.le_trans (Nm.a3y (Nm.a5O _ _ _ _)) (Nm.a4G l1 l2)
 have v1 := a5i (Nm.K5 (decide (p.num < 0)) p.num.natAbs (decide (q.num < 0)) q.num.natAbs).1 (Nm.K5 (decide (p.num < 0)) p.num.natAbs (decide (q.num < 0)) q.num.natAbs).2 p.den hp (by omega) (by omega)
 have v2 := a5i (Nm.K5 (decide (p.num < 0)) (p.num.natAbs * q.den) (decide (q.num < 0)) (q.num.natAbs * p.den)).1 (Nm.K5 (decide (p.num < 0)) (p.num.natAbs * q.den) (decide (q.num < 0)) (q.num.natAbs * p.den)).2 (p.den * q.den) (Nat.mul_ne_zero hp hq) (by omega) (by omega)
 rw [Nm.b1w] at v2
 have hsame := fun h => Nm.c0N (p := p) (q := q) h
 generalize p + q = r at *
 generalize Nm.K5 (decide (p.num < 0)) p.num.natAbs (decide (q.num < 0)) q.num.natAbs = t1 at *
 generalize Nm.K5 (decide (p.num < 0)) (p.num.natAbs * q.den) (decide (q.num < 0)) (q.num.natAbs * p.den) = t2 at *
 simp only [a9A, l9, TT, II, OA, OB, OC, MM, LL, VV, FF, MG, LG, VG, FG]
 simp only [rq, rc, sb, Nm.ofQ] at *
 (repeat first | refine uA ?_ | (apply S.exit; exact rfl) | ((with_reducible refine And.intro ?_ ?_); focus first | omega | trivial | exact id | (intros; simp_all <;> omega)) | simp (disch := omega) only [go_sem, Nat.reduceBEq, Nat.reduceAdd, Nat.reduceLeDiff, Int.reduceToNat, Int.reducePow, ww, b7J, c1J] | (refine uD hfa ?_ ?_ ?_; exact tz hw; exact rfl) | (refine uD hfb ?_ ?_ ?_; exact tz hw; exact rfl))
 (refine uJ rfl (fun hc => ?_) fun hc => ?_)
 ·rw [hsame hc] at v1
  (repeat first | refine uA ?_ | (apply S.exit; exact rfl) | ((with_reducible refine And.intro ?_ ?_); focus first | omega | trivial | exact id | (intros; simp_all <;> omega)) | simp (disch := omega) only [go_sem, Nat.reduceBEq, Nat.reduceAdd, Nat.reduceLeDiff, Int.reduceToNat, Int.reducePow, ww] | (refine uB s1 ?_ ?_; exact rfl) | (refine uD v1 ?_ ?_ ?_; exact tz hw; exact rfl))
  (refine S.done ?_; simp only [x9, u6, go_sem, Nat.reduceBEq, Nat.reduceAdd, Nat.reduceLeDiff, Int.reduceToNat, Int.reducePow]; (repeat (refine ⟨?_, ?_⟩; focus first | trivial | omega | simp)); exact d9.out rfl (Imp.refl rfl) rfl)
 ·(repeat first | refine uA ?_ | (apply S.exit; exact rfl) | ((with_reducible refine And.intro ?_ ?_); focus first | omega | trivial | exact id | (intros; simp_all <;> omega)) | simp (disch := omega) only [go_sem, Nat.reduceBEq, Nat.reduceAdd, Nat.reduceLeDiff, Int.reduceToNat, Int.reducePow, ww] | (refine uB m1 ?_ ?_; exact rfl) | (refine uB m2 ?_ ?_; exact rfl) | (refine uB m3 ?_ ?_; exact rfl) | (refine uB s2 ?_ ?_; exact rfl) | (refine uD v2 ?_ ?_ ?_; exact tz hw; exact rfl))
  (refine S.done ?_; simp only [x9, u6, go_sem, Nat.reduceBEq, Nat.reduceAdd, Nat.reduceLeDiff, Int.reduceToNat, Int.reducePow]; (repeat (refine ⟨?_, ?_⟩; focus first | trivial | omega | simp)); exact d9.out rfl (Imp.refl rfl) rfl)
theorem a6P (a b : Nm.Rt) (ha : Rb 17179869184 a) (hb : Rb 17179869184 b) : FZ 172 [rc a, rc b] (rq (Nm.j3 a * Nm.j3 b)) := by
 refine q8.of b8n b7W (by exact Nat.le_of_ble_eq_true rfl) fun w O hw => ?_
 have hfa := Q0 a ha
 have hfb := Q0 b hb
 obtain ⟨n1, d1⟩ := ha.fit (by decide)
 obtain ⟨n2, d2⟩ := hb.fit (by decide)
 generalize Nm.j3 a = p at *
 generalize Nm.j3 b = q at *
 simp only [Nm.ofQ] at n1 d1 n2 d2
 have hp := p.den_nz
 have hq := q.den_nz
 have l1 := Nm.I6 n1 n2
 have l3 := Nm.I6 d1 d2
 have m1 := a2C (Nm.enc p.num.natAbs) (Nm.enc q.num.natAbs) (by omega) (by omega)
 have m3 := a2C (Nm.enc p.den) (Nm.enc q.den) (by omega) (by omega)
 simp only [Nm.I8] at m1 m3
 have v2 := a5i (decide (p.num < 0) != decide (q.num < 0)) (p.num.natAbs * q.num.natAbs) (p.den * q.den) (Nat.mul_ne_zero hp hq) (by omega) (by omega)
 rw [Nm.b3r] at v2
 generalize p * q = r at *
 simp only [b0p, l9, TT, II, OA, OB, OC, MM, LL, VV, FF, MG, LG, VG, FG]
 simp only [rq, rc, sb, Nm.ofQ] at *
 (repeat first | refine uA ?_ | (apply S.exit; exact rfl) | ((with_reducible refine And.intro ?_ ?_); focus first | omega | trivial | exact id | (intros; simp_all <;> omega)) | simp (disch := omega) only [go_sem, Nat.reduceBEq, Nat.reduceAdd, Nat.reduceLeDiff, Int.reduceToNat, Int.reducePow, ww] | (refine uB m1 ?_ ?_; exact rfl) | (refine uB m3 ?_ ?_; exact rfl) | (refine uD hfa ?_ ?_ ?_; exact tz hw; exact rfl) | (refine uD hfb ?_ ?_ ?_; exact tz hw; exact rfl) | (refine uD v2 ?_ ?_ ?_; exact tz hw; exact rfl))
 (refine S.done ?_; simp only [x9, u6, go_sem, Nat.reduceBEq, Nat.reduceAdd, Nat.reduceLeDiff, Int.reduceToNat, Int.reducePow]; (repeat (refine ⟨?_, ?_⟩; focus first | trivial | omega | simp)); exact d9.out rfl (Imp.refl rfl) rfl)
end Go.Proofs.YtogfpjohjphngaaGreatDoor
namespace Go.Proofs.YtogfpjohjphngaaGreatDoor
set_option linter.all false
open Go Go.RowKit Eng
set_option maxRecDepth 10000
set_option maxHeartbeats 4000000
def J2 (q : Rat) : Int := if q.num = 0 then 0 else if q.num < 0 then -1 else 1
theorem b0h (p : Rat) : Nm.ofQ (-p) = ⟨!decide (p.num < 0) && !decide (p.num.natAbs = 0), Nm.enc p.num.natAbs, Nm.enc p.den⟩ := by
 unfold Nm.ofQ
 rw [Rat.neg_num, Rat.neg_den, Int.natAbs_neg]
 congr 1
 by_cases h : p.num < 0
 ·simp [h]; omega
 ·by_cases h0 : p.num = 0
  ·simp [h0]
  ·have : ¬ p.num.natAbs = 0 := by omega
   simp [h, this]; omega
theorem c2Y (a : Nm.Rt) (ha : Rb 17179869184 a) : FZ 142 [rc a] (rq (- Nm.j3 a)) := by
 refine q8.of b7K b6M (by exact Nat.le_of_ble_eq_true rfl) fun w O hw => ?_
 have hfa := Q0 a ha
 generalize Nm.j3 a = p at *
 simp only [b0g, l9, TT, II, OA, OB, OC, MM, LL, VV, FF, MG, LG, VG, FG]
 unfold rq at *
 rw [b0h]
 simp only [rc, sb, Nm.ofQ] at *
 (repeat first | refine uA ?_ | (apply S.exit; exact rfl) | ((with_reducible refine And.intro ?_ ?_); focus first | omega | trivial | exact id | (intros; simp_all <;> omega)) | simp (disch := omega) only [go_sem, Nat.reduceBEq, Nat.reduceAdd, Nat.reduceLeDiff, Int.reduceToNat, Int.reducePow, ww, Z6, a7d] | (refine uD hfa ?_ ?_ ?_; exact tz hw; exact rfl))
 (refine S.done ?_; simp only [x9, u6, go_sem, Nat.reduceBEq, Nat.reduceAdd, Nat.reduceLeDiff, Int.reduceToNat, Int.reducePow]; (repeat (refine ⟨?_, ?_⟩; focus first | trivial | omega | simp)); exact d9.out rfl (Imp.refl rfl) rfl)
theorem c2J {k : Nat} {a : Nm.Rt} (h : Rb k a) (hk : 1 <= k) : Rb k (Nm.ofQ (- Nm.j3 a)) := by
 obtain ⟨h1, h2⟩ := h.fit hk
 rw [b0h]
 exact ⟨h1, h2⟩
theorem a9z (a b : Nm.Rt) (ha : Rb 17179869184 a) (hb : Rb 17179869184 b) : FZ 158 [rc a, rc b] (rq (Nm.j3 a - Nm.j3 b)) := by
 refine q8.of b7L b8a (by exact Nat.le_of_ble_eq_true rfl) fun w O hw => ?_
 have hn := c2Y b hb
 have hadd := a3M a (Nm.ofQ (- Nm.j3 b)) ha (c2J hb (by decide))
 rw [Nm.G9, <- Rat.sub_eq_add_neg] at hadd
 unfold rq at *
 generalize Nm.ofQ (- Nm.j3 b) = c at *
 generalize Nm.ofQ (Nm.j3 a - Nm.j3 b) = d at *
 simp only [a9J, l9, TT, II, OA, OB, OC, MM, LL, VV, FF, MG, LG, VG, FG]
 simp only [rc, sb] at *
 (repeat first | refine uA ?_ | (apply S.exit; exact rfl) | ((with_reducible refine And.intro ?_ ?_); focus first | omega | trivial | exact id | (intros; simp_all <;> omega)) | simp (disch := omega) only [go_sem, Nat.reduceBEq, Nat.reduceAdd, Nat.reduceLeDiff, Int.reduceToNat, Int.reducePow, ww] | (refine uD hn ?_ ?_ ?_; exact tz hw; exact rfl) | (refine uD hadd ?_ ?_ ?_; exact tz hw; exact rfl))
 (refine S.done ?_; simp only [x9, u6, go_sem, Nat.reduceBEq, Nat.reduceAdd, Nat.reduceLeDiff, Int.reduceToNat, Int.reducePow]; (repeat (refine ⟨?_, ?_⟩; focus first | trivial | omega | simp)); exact d9.out rfl (Imp.refl rfl) rfl)
def a4T (p q : Rat) : Nm.Rt := if q = 0 then ⟨false, [], []⟩ else Nm.ofQ (p / q)
def b1o (q : Rat) : Int := if q = 0 then 12 else 0
theorem c2y (a b : Nm.Rt) (ha : Rb 17179869184 a) (hb : Rb 17179869184 b) : FZ 223 [rc a, rc b] (.tup [rc (a4T (Nm.j3 a) (Nm.j3 b)), ints (b1o (Nm.j3 b))]) := by
 refine q8.of b8b b6U (by exact Nat.le_of_ble_eq_true rfl) fun w O hw => ?_
 have hfa := Q0 a ha
 have hfb := Q0 b hb
 obtain ⟨n1, d1⟩ := ha.fit (by decide)
 obtain ⟨n2, d2⟩ := hb.fit (by decide)
 generalize Nm.j3 a = p at *
 generalize Nm.j3 b = q at *
 simp only [Nm.ofQ] at n1 d1 n2 d2
 have hp := p.den_nz
 have l1 := Nm.I6 n1 d2
 have l3 := Nm.I6 d1 n2
 have m1 := a2C (Nm.enc p.num.natAbs) (Nm.enc q.den) (by omega) (by omega)
 have m3 := a2C (Nm.enc p.den) (Nm.enc q.num.natAbs) (by omega) (by omega)
 simp only [Nm.I8] at m1 m3
 have v2 := fun h0 : q.num.natAbs ≠ 0 => a5i (decide (p.num < 0) != decide (q.num < 0)) (p.num.natAbs * q.den) (p.den * q.num.natAbs) (Nat.mul_ne_zero hp h0) (by omega) (by omega)
 have hdm := fun h => Nm.b4V p q h
 simp only [a9O, l9, TT, II, OA, OB, OC, MM, LL, VV, FF, MG, LG, VG, FG]
 simp only [rq, rc, sb, Nm.ofQ, ints] at *
 (repeat first | refine uA ?_ | (apply S.exit; exact rfl) | ((with_reducible refine And.intro ?_ ?_); focus first | omega | trivial | exact id | (intros; simp_all <;> omega)) | simp (disch := omega) only [go_sem, Nat.reduceBEq, Nat.reduceAdd, Nat.reduceLeDiff, Int.reduceToNat, Int.reducePow, ww, Z6, a7d] | (refine uD hfa ?_ ?_ ?_; exact tz hw; exact rfl) | (refine uD hfb ?_ ?_ ?_; exact tz hw; exact rfl))
 (refine uJ rfl (fun hc => ?_) fun hc => ?_)
 ·have h0 : q = 0 := Rat.num_eq_zero.1 (by omega)
  have e1 : a4T p q = ⟨false, [], []⟩ := by unfold a4T; rw [if_pos h0]
  have e2 : b1o q = 12 := by unfold b1o; rw [if_pos h0]
  rw [e1, e2]
  (repeat first | refine uA ?_ | (apply S.exit; exact rfl) | ((with_reducible refine And.intro ?_ ?_); focus first | omega | trivial | exact id | (intros; simp_all <;> omega)) | simp (disch := omega) only [go_sem, Nat.reduceBEq, Nat.reduceAdd, Nat.reduceLeDiff, Int.reduceToNat, Int.reducePow, ww])
  (refine S.done ?_; simp only [x9, u6, go_sem, Nat.reduceBEq, Nat.reduceAdd, Nat.reduceLeDiff, Int.reduceToNat, Int.reducePow]; (repeat (refine ⟨?_, ?_⟩; focus first | trivial | omega | simp)); exact d9.out rfl (Imp.refl rfl) rfl)
 ·have h0 : q ≠ 0 := fun h => hc (by rw [Rat.num_eq_zero.2 h]; rfl)
  have e1 : a4T p q = Nm.ofQ (p / q) := by unfold a4T; rw [if_neg h0]
  have e2 : b1o q = 0 := by unfold b1o; rw [if_neg h0]
  rw [e1, e2]
  have v2 := v2 hc
  rw [hdm h0] at v2
  generalize p / q = r at *
  simp only [Nm.ofQ] at *
  (repeat first | refine uA ?_ | (apply S.exit; exact rfl) | ((with_reducible refine And.intro ?_ ?_); focus first | omega | trivial | exact id | (intros; simp_all <;> omega)) | simp (disch := omega) only [go_sem, Nat.reduceBEq, Nat.reduceAdd, Nat.reduceLeDiff, Int.reduceToNat, Int.reducePow, ww] | (refine uB m1 ?_ ?_; exact rfl) | (refine uB m3 ?_ ?_; exact rfl) | (refine uD v2 ?_ ?_ ?_; exact tz hw; exact rfl))
  (refine S.done ?_; simp only [x9, u6, go_sem, Nat.reduceBEq, Nat.reduceAdd, Nat.reduceLeDiff, Int.reduceToNat, Int.reducePow]; (repeat (refine ⟨?_, ?_⟩; focus first | trivial | omega | simp)); exact d9.out rfl (Imp.refl rfl) rfl)
theorem a0u (a : Nm.Rt) (ha : Rb 17179869184 a) : FZ 15 [rc a] (ints (J2 (Nm.j3 a))) := by
 refine q8.of b5n b5a (by exact Nat.le_of_ble_eq_true rfl) fun w O hw => ?_
 have hfa := Q0 a ha
 generalize Nm.j3 a = p at *
 simp only [a8h, l9, TT, II, OA, OB, OC, MM, LL, VV, FF, MG, LG, VG, FG]
 simp only [rq, rc, sb, Nm.ofQ, ints] at *
 (repeat first | refine uA ?_ | (apply S.exit; exact rfl) | ((with_reducible refine And.intro ?_ ?_); focus first | omega | trivial | exact id | (intros; simp_all <;> omega)) | simp (disch := omega) only [go_sem, Nat.reduceBEq, Nat.reduceAdd, Nat.reduceLeDiff, Int.reduceToNat, Int.reducePow, ww, Z6, a7d] | (refine uD hfa ?_ ?_ ?_; exact tz hw; exact rfl))
 (refine uJ rfl (fun hc => ?_) fun hc => ?_)
 ·have : J2 p = 0 := by unfold J2; rw [if_pos (by omega)]
  rw [this]
  (repeat first | refine uA ?_ | (apply S.exit; exact rfl) | ((with_reducible refine And.intro ?_ ?_); focus first | omega | trivial | exact id | (intros; simp_all <;> omega)) | simp (disch := omega) only [go_sem, Nat.reduceBEq, Nat.reduceAdd, Nat.reduceLeDiff, Int.reduceToNat, Int.reducePow, ww])
  exact S.done (d9.out rfl (Imp.refl rfl) rfl)
 (repeat first | refine uA ?_ | (apply S.exit; exact rfl) | ((with_reducible refine And.intro ?_ ?_); focus first | omega | trivial | exact id | (intros; simp_all <;> omega)) | simp (disch := omega) only [go_sem, Nat.reduceBEq, Nat.reduceAdd, Nat.reduceLeDiff, Int.reduceToNat, Int.reducePow, ww])
 (refine uJ rfl (fun hc => ?_) fun hc => ?_)
 ·have : J2 p = -1 := by unfold J2; rw [if_neg (by omega), if_pos hc]
  rw [this]
  (repeat first | refine uA ?_ | (apply S.exit; exact rfl) | ((with_reducible refine And.intro ?_ ?_); focus first | omega | trivial | exact id | (intros; simp_all <;> omega)) | simp (disch := omega) only [go_sem, Nat.reduceBEq, Nat.reduceAdd, Nat.reduceLeDiff, Int.reduceToNat, Int.reducePow, ww])
  exact S.done (d9.out rfl (Imp.refl rfl) rfl)
 ·have : J2 p = 1 := by unfold J2; rw [if_neg (by omega), if_neg hc]
  rw [this]
  (repeat first | refine uA ?_ | (apply S.exit; exact rfl) | ((with_reducible refine And.intro ?_ ?_); focus first | omega | trivial | exact id | (intros; simp_all <;> omega)) | simp (disch := omega) only [go_sem, Nat.reduceBEq, Nat.reduceAdd, Nat.reduceLeDiff, Int.reduceToNat, Int.reducePow, ww])
  exact S.done (d9.out rfl (Imp.refl rfl) rfl)
theorem b7I (a b : Nat) : -1 <= Nm.Y6 a b /\ Nm.Y6 a b <= 1 := by
 unfold Nm.Y6
 by_cases h : a < b
 ·rw [if_pos h]; omega
 ·rw [if_neg h]; split <;> omega
theorem a1n (a b : Nm.Rt) (ha : Rb 17179869184 a) (hb : Rb 17179869184 b) : FZ 52 [rc a, rc b] (ints (Nm.G5 (Nm.j3 a) (Nm.j3 b))) := by
 refine q8.of b8t b7j (by exact Nat.le_of_ble_eq_true rfl) fun w O hw => ?_
 have hfa := Q0 a ha
 have hfb := Q0 b hb
 obtain ⟨n1, d1⟩ := ha.fit (by decide)
 obtain ⟨n2, d2⟩ := hb.fit (by decide)
 generalize Nm.j3 a = p at *
 generalize Nm.j3 b = q at *
 rw [Nm.c1P]
 simp only [Nm.ofQ] at n1 d1 n2 d2
 have l1 := Nm.I6 n1 d2
 have l2 := Nm.I6 n2 d1
 have m1 := a2C (Nm.enc p.num.natAbs) (Nm.enc q.den) (by omega) (by omega)
 have m2 := a2C (Nm.enc q.num.natAbs) (Nm.enc p.den) (by omega) (by omega)
 simp only [Nm.I8] at m1 m2
 have hcmp := b0b (Nm.enc (p.num.natAbs * q.den)) (Nm.enc (q.num.natAbs * p.den)) (by omega) (by omega)
 simp only [Nm.I8] at hcmp
 have hcr := b7I (p.num.natAbs * q.den) (q.num.natAbs * p.den)
 generalize Nm.Y6 (p.num.natAbs * q.den) (q.num.natAbs * p.den) = cn at *
 simp only [a9E, l9, TT, II, OA, OB, OC, MM, LL, VV, FF, MG, LG, VG, FG]
 simp only [rq, rc, sb, Nm.ofQ, ints] at *
 generalize decide (p.num < 0) = bp at *
 generalize decide (q.num < 0) = bq at *
 (repeat first | refine uA ?_ | (apply S.exit; exact rfl) | ((with_reducible refine And.intro ?_ ?_); focus first | omega | trivial | exact id | (intros; simp_all <;> omega)) | simp (disch := omega) only [go_sem, Nat.reduceBEq, Nat.reduceAdd, Nat.reduceLeDiff, Int.reduceToNat, Int.reducePow, ww] | (refine uD hfa ?_ ?_ ?_; exact tz hw; exact rfl) | (refine uD hfb ?_ ?_ ?_; exact tz hw; exact rfl))
 refine S.cond rfl (fun hc => ?_) (fun hc => ?_)
 ·have hne : bp ≠ bq := by simpa using hc
  rw [if_pos hne]
  (repeat first | refine uA ?_ | (apply S.exit; exact rfl) | ((with_reducible refine And.intro ?_ ?_); focus first | omega | trivial | exact id | (intros; simp_all <;> omega)) | simp (disch := omega) only [go_sem, Nat.reduceBEq, Nat.reduceAdd, Nat.reduceLeDiff, Int.reduceToNat, Int.reducePow, ww])
  refine S.cond rfl (fun hc => ?_) (fun hc => ?_)
  ·rw [if_pos hc]
   (repeat first | refine uA ?_ | (apply S.exit; exact rfl) | ((with_reducible refine And.intro ?_ ?_); focus first | omega | trivial | exact id | (intros; simp_all <;> omega)) | simp (disch := omega) only [go_sem, Nat.reduceBEq, Nat.reduceAdd, Nat.reduceLeDiff, Int.reduceToNat, Int.reducePow, ww])
   exact S.done (d9.out rfl (Imp.refl rfl) rfl)
  ·rw [if_neg (by simp [hc])]
   (repeat first | refine uA ?_ | (apply S.exit; exact rfl) | ((with_reducible refine And.intro ?_ ?_); focus first | omega | trivial | exact id | (intros; simp_all <;> omega)) | simp (disch := omega) only [go_sem, Nat.reduceBEq, Nat.reduceAdd, Nat.reduceLeDiff, Int.reduceToNat, Int.reducePow, ww])
   exact S.done (d9.out rfl (Imp.refl rfl) rfl)
 ·have he : bp = bq := by simpa using hc
  rw [if_neg (by simp [he])]
  (repeat first | refine uA ?_ | (apply S.exit; exact rfl) | ((with_reducible refine And.intro ?_ ?_); focus first | omega | trivial | exact id | (intros; simp_all <;> omega)) | simp (disch := omega) only [go_sem, Nat.reduceBEq, Nat.reduceAdd, Nat.reduceLeDiff, Int.reduceToNat, Int.reducePow, ww] | (refine uB m1 ?_ ?_; exact rfl) | (refine uB m2 ?_ ?_; exact rfl) | (refine uB hcmp ?_ ?_; exact rfl))
  refine S.cond rfl (fun hc => ?_) (fun hc => ?_)
  ·rw [if_pos hc]
   have hneg : IntKind.i64.wrap (0 - cn) = - cn := by rw [Eng.wrap_i64 (by omega)]; omega
   (repeat first | refine uA ?_ | (apply S.exit; exact rfl) | ((with_reducible refine And.intro ?_ ?_); focus first | omega | trivial | exact id | (intros; simp_all <;> omega)) | simp (disch := omega) only [go_sem, Nat.reduceBEq, Nat.reduceAdd, Nat.reduceLeDiff, Int.reduceToNat, Int.reducePow, ww, hneg])
   exact S.done (d9.out rfl (Imp.refl rfl) rfl)
  ·rw [if_neg (by simp [hc])]
   (repeat first | refine uA ?_ | (apply S.exit; exact rfl) | ((with_reducible refine And.intro ?_ ?_); focus first | omega | trivial | exact id | (intros; simp_all <;> omega)) | simp (disch := omega) only [go_sem, Nat.reduceBEq, Nat.reduceAdd, Nat.reduceLeDiff, Int.reduceToNat, Int.reducePow, ww])
   exact S.done (d9.out rfl (Imp.refl rfl) rfl)
end Go.Proofs.YtogfpjohjphngaaGreatDoor
namespace Go.Proofs.YtogfpjohjphngaaGreatDoor
set_option linter.all false
open Go Go.RowKit Eng
set_option maxRecDepth 10000
set_option maxHeartbeats 4000000
def a2w (p q : Rat) : Rat := if Nm.G5 p q <= 0 then p else q
def a0a (p q : Rat) : Rat := if Nm.G5 p q >= 0 then p else q
theorem b9z (a b : Nm.Rt) (ha : Rb 17179869184 a) (hb : Rb 17179869184 b) : FZ 153 [rc a, rc b] (rq (a2w (Nm.j3 a) (Nm.j3 b))) := by
 refine q8.of b7y b7n (by exact Nat.le_of_ble_eq_true rfl) fun w O hw => ?_
 have hfa := Q0 a ha
 have hfb := Q0 b hb
 have hc := a1n a b ha hb
 unfold a2w
 generalize Nm.G5 (Nm.j3 a) (Nm.j3 b) = cn at *
 simp only [b0l, l9, TT, II, OA, OB, OC, MM, LL, VV, FF, MG, LG, VG, FG]
 unfold rq at *
 generalize Nm.j3 a = p at *
 generalize Nm.j3 b = q at *
 simp only [rc, sb, ints] at *
 (repeat first | refine uA ?_ | (apply S.exit; exact rfl) | ((with_reducible refine And.intro ?_ ?_); focus first | omega | trivial | exact id | (intros; simp_all <;> omega)) | simp (disch := omega) only [go_sem, Nat.reduceBEq, Nat.reduceAdd, Nat.reduceLeDiff, Int.reduceToNat, Int.reducePow, ww] | (refine uD hc ?_ ?_ ?_; exact tz hw; exact rfl))
 (refine uJ rfl (fun hc => ?_) fun hc => ?_)
 ·rw [if_pos hc]
  (repeat first | refine uA ?_ | (apply S.exit; exact rfl) | ((with_reducible refine And.intro ?_ ?_); focus first | omega | trivial | exact id | (intros; simp_all <;> omega)) | simp (disch := omega) only [go_sem, Nat.reduceBEq, Nat.reduceAdd, Nat.reduceLeDiff, Int.reduceToNat, Int.reducePow, ww] | (refine uD hfa ?_ ?_ ?_; exact tz hw; exact rfl))
  (refine S.done ?_; simp only [x9, u6, go_sem, Nat.reduceBEq, Nat.reduceAdd, Nat.reduceLeDiff, Int.reduceToNat, Int.reducePow]; (repeat (refine ⟨?_, ?_⟩; focus first | trivial | omega | simp)); exact d9.out rfl (Imp.refl rfl) rfl)
 ·rw [if_neg hc]
  (repeat first | refine uA ?_ | (apply S.exit; exact rfl) | ((with_reducible refine And.intro ?_ ?_); focus first | omega | trivial | exact id | (intros; simp_all <;> omega)) | simp (disch := omega) only [go_sem, Nat.reduceBEq, Nat.reduceAdd, Nat.reduceLeDiff, Int.reduceToNat, Int.reducePow, ww] | (refine uD hfb ?_ ?_ ?_; exact tz hw; exact rfl))
  (refine S.done ?_; simp only [x9, u6, go_sem, Nat.reduceBEq, Nat.reduceAdd, Nat.reduceLeDiff, Int.reduceToNat, Int.reducePow]; (repeat (refine ⟨?_, ?_⟩; focus first | trivial | omega | simp)); exact d9.out rfl (Imp.refl rfl) rfl)
theorem b3v (a b : Nm.Rt) (ha : Rb 17179869184 a) (hb : Rb 17179869184 b) : FZ 74 [rc a, rc b] (rq (a0a (Nm.j3 a) (Nm.j3 b))) := by
 refine q8.of b6Q b7D (by exact Nat.le_of_ble_eq_true rfl) fun w O hw => ?_
 have hfa := Q0 a ha
 have hfb := Q0 b hb
 have hc := a1n a b ha hb
 unfold a0a
 generalize Nm.G5 (Nm.j3 a) (Nm.j3 b) = cn at *
 simp only [a9B, l9, TT, II, OA, OB, OC, MM, LL, VV, FF, MG, LG, VG, FG]
 unfold rq at *
 generalize Nm.j3 a = p at *
 generalize Nm.j3 b = q at *
 simp only [rc, sb, ints] at *
 (repeat first | refine uA ?_ | (apply S.exit; exact rfl) | ((with_reducible refine And.intro ?_ ?_); focus first | omega | trivial | exact id | (intros; simp_all <;> omega)) | simp (disch := omega) only [go_sem, Nat.reduceBEq, Nat.reduceAdd, Nat.reduceLeDiff, Int.reduceToNat, Int.reducePow, ww] | (refine uD hc ?_ ?_ ?_; exact tz hw; exact rfl))
 (refine uJ rfl (fun hc => ?_) fun hc => ?_)
 ·rw [if_pos hc]
  (repeat first | refine uA ?_ | (apply S.exit; exact rfl) | ((with_reducible refine And.intro ?_ ?_); focus first | omega | trivial | exact id | (intros; simp_all <;> omega)) | simp (disch := omega) only [go_sem, Nat.reduceBEq, Nat.reduceAdd, Nat.reduceLeDiff, Int.reduceToNat, Int.reducePow, ww] | (refine uD hfa ?_ ?_ ?_; exact tz hw; exact rfl))
  (refine S.done ?_; simp only [x9, u6, go_sem, Nat.reduceBEq, Nat.reduceAdd, Nat.reduceLeDiff, Int.reduceToNat, Int.reducePow]; (repeat (refine ⟨?_, ?_⟩; focus first | trivial | omega | simp)); exact d9.out rfl (Imp.refl rfl) rfl)
 ·rw [if_neg hc]
  (repeat first | refine uA ?_ | (apply S.exit; exact rfl) | ((with_reducible refine And.intro ?_ ?_); focus first | omega | trivial | exact id | (intros; simp_all <;> omega)) | simp (disch := omega) only [go_sem, Nat.reduceBEq, Nat.reduceAdd, Nat.reduceLeDiff, Int.reduceToNat, Int.reducePow, ww] | (refine uD hfb ?_ ?_ ?_; exact tz hw; exact rfl))
  (refine S.done ?_; simp only [x9, u6, go_sem, Nat.reduceBEq, Nat.reduceAdd, Nat.reduceLeDiff, Int.reduceToNat, Int.reducePow]; (repeat (refine ⟨?_, ?_⟩; focus first | trivial | omega | simp)); exact d9.out rfl (Imp.refl rfl) rfl)
theorem b4u (a : Nm.Rt) (ha : Rb 17179869184 a) : FZ 75 [rc a] (rc ⟨false, Nm.enc (Nm.j3 a).num.natAbs, Nm.enc (Nm.j3 a).den⟩) := by
 refine q8.of b7a b6X (by exact Nat.le_of_ble_eq_true rfl) fun w O hw => ?_
 have hfa := Q0 a ha
 generalize Nm.j3 a = p at *
 simp only [a9F, l9, TT, II, OA, OB, OC, MM, LL, VV, FF, MG, LG, VG, FG]
 unfold rq at *
 simp only [rc, sb, Nm.ofQ] at *
 (repeat first | refine uA ?_ | (apply S.exit; exact rfl) | ((with_reducible refine And.intro ?_ ?_); focus first | omega | trivial | exact id | (intros; simp_all <;> omega)) | simp (disch := omega) only [go_sem, Nat.reduceBEq, Nat.reduceAdd, Nat.reduceLeDiff, Int.reduceToNat, Int.reducePow, ww] | (refine uD hfa ?_ ?_ ?_; exact tz hw; exact rfl))
 (refine S.done ?_; simp only [x9, u6, go_sem, Nat.reduceBEq, Nat.reduceAdd, Nat.reduceLeDiff, Int.reduceToNat, Int.reducePow]; (repeat (refine ⟨?_, ?_⟩; focus first | trivial | omega | simp)); exact d9.out rfl (Imp.refl rfl) rfl)
end Go.Proofs.YtogfpjohjphngaaGreatDoor
namespace Go.Proofs.YtogfpjohjphngaaGreatDoor
set_option linter.all false
open Go Go.RowKit Eng
set_option maxRecDepth 10000
set_option maxHeartbeats 4000000
def p8 (a : Nm.Rt) : Bool := decide (a.num.length <= 3) && decide (a.den.length <= 2) && decide a.H7 && decide (Nm.val a.num <= 1000000) && decide (Nm.val a.den <= 1000)
theorem b6q (a b : Nat) : (Nm.Y6 a b <= 0) = (a <= b) := by
 unfold Nm.Y6
 by_cases h : a < b
 ·rw [if_pos h]; simp; omega
 ·rw [if_neg h]; split
  ·simp; omega
  ·simp; omega
theorem a3u (a : Nm.Rt) (ha : Rb 17179869184 a) : FZ 84 [rc a] (.v (.bool (p8 a))) := by
 refine q8.of b3C b4O (by exact Nat.le_of_ble_eq_true rfl) fun w O hw => ?_
 have hg := a2K a ⟨by have := ha.1; omega, by have := ha.2; omega⟩
 have ho1 := b8u 1000000 (by decide)
 have ho2 := b8u 1000 (by decide)
 have hb : ∀ k : Nat, k <= 1000000 -> (Nm.enc k).length <= 8 := fun k hk => Nm.I5 (by omega)
 have hb1 := hb 1000000 (by decide)
 have hb2 := hb 1000 (by decide)
 have hc1 := b0b a.num (Nm.enc 1000000) (by have := ha.1; omega) (by omega)
 have hc2 := b0b a.den (Nm.enc 1000) (by have := ha.2; omega) (by omega)
 rw [Nm.I8] at hc1 hc2
 rw [show (1000000 : Int).toNat = 1000000 from rfl] at ho1
 rw [show (1000 : Int).toNat = 1000 from rfl] at ho2
 have hl1 := b6q (Nm.val a.num) 1000000
 have hl2 := b6q (Nm.val a.den) 1000
 unfold p8
 generalize decide a.H7 = g at *
 generalize Nm.enc 1000000 = e1 at *
 generalize Nm.enc 1000 = e2 at *
 obtain ⟨neg, num, den⟩ := a
 obtain ⟨r1, r2⟩ := ha
 simp only [a6I, l9, TT, II, OA, OB, OC, MM, LL, VV, FF, MG, LG, VG, FG]
 simp only [rc, sb, ints] at *
 generalize Nm.Y6 (Nm.val num) 1000000 = c1 at *
 generalize Nm.Y6 (Nm.val den) 1000 = c2 at *
 simp only [<- hl1, <- hl2]
 have hi1 : decide ((num.length : Int) <= 3) = decide (num.length <= 3) := decide_eq_decide.2 (by omega)
 have hi2 : decide ((den.length : Int) <= 2) = decide (den.length <= 2) := decide_eq_decide.2 (by omega)
 (repeat first | refine uA ?_ | (apply S.exit; exact rfl) | ((with_reducible refine And.intro ?_ ?_); focus first | omega | trivial | exact id | (intros; simp_all <;> omega)) | simp (disch := omega) only [go_sem, Nat.reduceBEq, Nat.reduceAdd, Nat.reduceLeDiff, Int.reduceToNat, Int.reducePow, ww, E8, hi1, hi2] | (refine uB ho1 ?_ ?_; exact rfl) | (refine uB ho2 ?_ ?_; exact rfl) | (refine uB hc1 ?_ ?_; exact rfl) | (refine uB hc2 ?_ ?_; exact rfl) | (refine uD hg ?_ ?_ ?_; exact tz hw; exact rfl))
 exact S.done (d9.out rfl (Imp.refl rfl) rfl)
end Go.Proofs.YtogfpjohjphngaaGreatDoor
namespace Go.Proofs.YtogfpjohjphngaaGreatDoor
set_option linter.all false
open Go Eng
def b0A : p9 := ⟨16, [.cell 4 true 6], .seq (.reg [OA 2 (.box 51 (TT 0)), OA 3 (.box 51 (TT 1)), OA 4 (.alloc 51 [.bool false, .string ⟨#[]⟩, .string ⟨#[]⟩, .bool false, .string ⟨#[]⟩, .string ⟨#[]⟩])]) (.seq (.D6 [.q, .q, .q, .q, .q, .q, .q,
 .q, .q, .q, .q, .e none false] [FF 5 0 2, LL 6 3 5, FF 7 0 3, LL 8 3 7, OA 9 (.call 158 [TT 6, TT 8]), FF 10 3 2, LL 11 3 10, FF 12 3 3, LL 13 3 12, OA 14 (.call 158 [TT 11, TT 13]), OA 15 (.build [.bool false, .string ⟨#[]⟩,
 .string ⟨#[]⟩, .bool false, .string ⟨#[]⟩, .string ⟨#[]⟩] [(0, (3, TT 9)), (3, (3, TT 14))]), OB (.store 6 (TT 4) (TT 15))]) .ret)⟩
theorem b7v : l6 eff Tryz.prog Tryz.f72 = some b0A := by kernel_rfl
theorem b7F : Tryz.prog.funcs[72]? = some Tryz.f72 := Tryz.func72
def a9X : p9 := ⟨16, [.cell 4 true 6], .seq (.reg [OA 2 (.box 51 (TT 0)), OA 3 (.box 51 (TT 1)), OA 4 (.alloc 51 [.bool false, .string ⟨#[]⟩, .string ⟨#[]⟩, .bool false, .string ⟨#[]⟩, .string ⟨#[]⟩])]) (.seq (.D6 [.q, .q, .q, .q, .q, .q, .q,
 .q, .q, .q, .q, .e none false] [FF 5 0 2, LL 6 3 5, FF 7 0 3, LL 8 3 7, OA 9 (.call 16 [TT 6, TT 8]), FF 10 3 2, LL 11 3 10, FF 12 3 3, LL 13 3 12, OA 14 (.call 16 [TT 11, TT 13]), OA 15 (.build [.bool false, .string ⟨#[]⟩,
 .string ⟨#[]⟩, .bool false, .string ⟨#[]⟩, .string ⟨#[]⟩] [(0, (3, TT 9)), (3, (3, TT 14))]), OB (.store 6 (TT 4) (TT 15))]) .ret)⟩
theorem b7u : l6 eff Tryz.prog Tryz.f161 = some a9X := by kernel_rfl
theorem b7c : Tryz.prog.funcs[161]? = some Tryz.f161 := Tryz.func161
def a8t : p9 := ⟨34, [.cell 4 true 6], .seq (.reg [OA 2 (.box 51 (TT 0)), OA 3 (.box 53 (TT 1)), OA 4 (.alloc 51 [.bool false, .string ⟨#[]⟩, .string ⟨#[]⟩, .bool false, .string ⟨#[]⟩, .string ⟨#[]⟩])]) (.seq (.D6 [.q, .q, .q, .q, .q, .a, .e
 (some 5) false] [LL 6 4 3, OA 7 (.call 224 [TT 6]), LL 8 4 3, OA 9 (.call 225 [TT 8]), OA 10 (.build [.bool false, .string ⟨#[]⟩, .string ⟨#[]⟩, .bool false, .string ⟨#[]⟩, .string ⟨#[]⟩] [(0, (3, TT 7)), (3, (3, TT 9))]), OA 5
 (.alloc 51 [.bool false, .string ⟨#[]⟩, .string ⟨#[]⟩, .bool false, .string ⟨#[]⟩, .string ⟨#[]⟩]), OB (.store 6 (TT 5) (TT 10))]) (.seq (.D6 [.q, .q, .q, .q, .q, .q, .q, .q, .q, .q, .q, .q, .q, .q, .q, .q, .q, .q, .q, .q, .q,
 .q, .q, .e none false] [FF 11 0 2, LL 12 3 11, FF 13 0 5, LL 14 3 13, OA 15 (.call 172 [TT 12, TT 14]), FF 16 3 2, LL 17 3 16, FF 18 3 5, LL 19 3 18, OA 20 (.call 172 [TT 17, TT 19]), OA 21 (.call 158 [TT 15, TT 20]), FF 22 0 2,
 LL 23 3 22, FF 24 3 5, LL 25 3 24, OA 26 (.call 172 [TT 23, TT 25]), FF 27 3 2, LL 28 3 27, FF 29 0 5, LL 30 3 29, OA 31 (.call 172 [TT 28, TT 30]), OA 32 (.call 16 [TT 26, TT 31]), OA 33 (.build [.bool false, .string ⟨#[]⟩,
 .string ⟨#[]⟩, .bool false, .string ⟨#[]⟩, .string ⟨#[]⟩] [(0, (3, TT 21)), (3, (3, TT 32))]), OB (.store 6 (TT 4) (TT 33))]) .ret))⟩
theorem b4Z : l6 eff Tryz.prog Tryz.f180 = some a8t := by kernel_rfl
theorem b5S : Tryz.prog.funcs[180]? = some Tryz.f180 := Tryz.func180
def a6J : p9 := ⟨16, [.cell 4 true 3], .seq (.reg [OA 2 (.box 51 (TT 0)), OA 3 (.box 51 (TT 1)), OA 4 (.alloc 29 [.bool false, .string ⟨#[]⟩, .string ⟨#[]⟩])]) (.seq (.D6 [.q, .q, .q, .q, .q, .q, .q, .q, .q, .q, .q, .e none false] [FF 5 0 2, LL
 6 3 5, FF 7 3 3, LL 8 3 7, OA 9 (.call 172 [TT 6, TT 8]), FF 10 3 2, LL 11 3 10, FF 12 0 3, LL 13 3 12, OA 14 (.call 172 [TT 11, TT 13]), OA 15 (.call 158 [TT 9, TT 14]), OB (.store 3 (TT 4) (TT 15))]) .ret)⟩
theorem b3R : l6 eff Tryz.prog Tryz.f263 = some a6J := by kernel_rfl
theorem b4z : Tryz.prog.funcs[263]? = some Tryz.f263 := Tryz.func263
def b0e : p9 := ⟨7, [.cell 2 true 4], .seq (.reg [OA 1 (.box 29 (TT 0)), OA 2 (.alloc 53 [.bool false, .bool false, .string ⟨#[]⟩, .string ⟨#[]⟩])]) (.seq (.reg [LL 3 3 1, LL 4 3 1, OA 5 (.call 153 [TT 3, TT 4]), OA 6 (.build [.bool false, .bool
 false, .string ⟨#[]⟩, .string ⟨#[]⟩] [(1, (3, TT 5))]), OB (.store 4 (TT 2) (TT 6))]) .ret)⟩
theorem b8o : l6 eff Tryz.prog Tryz.f213 = some b0e := by kernel_rfl
theorem b7h : Tryz.prog.funcs[213]? = some Tryz.f213 := Tryz.func213
def a4A : p9 := ⟨27, [.cell 2 true 3], .seq (.reg [OA 1 (.box 53 (TT 0)), OA 2 (.alloc 29 [.bool false, .string ⟨#[]⟩, .string ⟨#[]⟩])]) (.seq (.seq (.reg [LL 6 4 1, OA 7 (.call 243 [TT 6]), OB (.store 4 (TT 1) (TT 7))]) (.seq (.reg [FF 8 0 1, VV
 9 8]) (.cond (TT 9) (.seq (.reg [OA 10 (.call 71 [II (-1)]), OB (.store 3 (TT 2) (TT 10))]) .ret) .skip))) (.seq (.reg [FF 11 1 1, LL 12 3 11, FF 13 1 1, LL 14 3 13, OA 15 (.call 172 [TT 12, TT 14]), OA 3 (.alloc 29 [.bool
 false, .string ⟨#[]⟩, .string ⟨#[]⟩]), OB (.store 3 (TT 3) (TT 15))]) (.seq (.D6 [.q, .q, .q, .q, .q, .q, .q, .q, .q, .l, .a, .e (some 4) false, .q] [OA 17 (.call 71 [II 1]), LL 18 3 3, OA 19 (.call 158 [TT 17, TT 18]), OA 20
 (.call 71 [II 1]), LL 21 3 3, OA 22 (.call 16 [TT 20, TT 21]), OA 23 (.call 223 [TT 19, TT 22]), MM 16 23, OA 24 (.ext (TT 16) 0), OA 25 (.ext (TT 16) 1), OA 4 (.alloc 29 [.bool false, .string ⟨#[]⟩, .string ⟨#[]⟩]), OB (.store
 3 (TT 4) (TT 24)), MM 5 25]) (.seq (.reg [LL 26 3 4, OB (.store 3 (TT 2) (TT 26))]) .ret))))⟩
theorem b5y : l6 eff Tryz.prog Tryz.f224 = some a4A := by kernel_rfl
theorem b5l : Tryz.prog.funcs[224]? = some Tryz.f224 := Tryz.func224
def a8q : p9 := ⟨24, [.cell 2 true 3], .seq (.reg [OA 1 (.box 53 (TT 0)), OA 2 (.alloc 29 [.bool false, .string ⟨#[]⟩, .string ⟨#[]⟩])]) (.seq (.reg [LL 5 4 1, OA 6 (.call 243 [TT 5]), OB (.store 4 (TT 1) (TT 6))]) (.seq (.D6 [.q, .q, .q, .q,
 .q, .q, .q, .q, .q, .q, .q, .q, .q, .q, .q, .l, .a, .e (some 3) false, .q] [FF 8 1 1, LL 9 3 8, FF 10 1 1, LL 11 3 10, OA 12 (.call 16 [TT 9, TT 11]), OA 13 (.call 71 [II 1]), FF 14 1 1, LL 15 3 14, FF 16 1 1, LL 17 3 16, OA 18
 (.call 172 [TT 15, TT 17]), OA 19 (.call 16 [TT 13, TT 18]), OA 20 (.call 223 [TT 12, TT 19]), MM 7 20, OA 21 (.ext (TT 7) 0), OA 22 (.ext (TT 7) 1), OA 3 (.alloc 29 [.bool false, .string ⟨#[]⟩, .string ⟨#[]⟩]), OB (.store 3 (TT
 3) (TT 21)), MM 4 22]) (.seq (.reg [LL 23 3 3, OB (.store 3 (TT 2) (TT 23))]) .ret)))⟩
theorem b5o : l6 eff Tryz.prog Tryz.f225 = some a8q := by kernel_rfl
theorem b5F : Tryz.prog.funcs[225]? = some Tryz.f225 := Tryz.func225
def a4R : p9 := ⟨9, [.cell 2 true 4], .seq (.reg [OA 1 (.box 53 (TT 0)), OA 2 (.alloc 53 [.bool false, .bool false, .string ⟨#[]⟩, .string ⟨#[]⟩])]) (.seq (.seq (.reg [FF 3 0 1, VV 4 3]) (.cond (TT 4) (.seq (.reg [OA 5 (.call 254 []), OB (.store
 4 (TT 2) (TT 5))]) .ret) .skip)) (.seq (.reg [FF 6 1 1, LL 7 3 6, OA 8 (.call 213 [TT 7]), OB (.store 4 (TT 2) (TT 8))]) .ret))⟩
theorem b5m : l6 eff Tryz.prog Tryz.f243 = some a4R := by kernel_rfl
theorem b5x : Tryz.prog.funcs[243]? = some Tryz.f243 := Tryz.func243
def a3x : p9 := ⟨3, [.cell 0 true 4], .seq (.reg [OA 0 (.alloc 53 [.bool false, .bool false, .string ⟨#[]⟩, .string ⟨#[]⟩])]) (.seq (.reg [OA 1 (.call 71 [II 0]), OA 2 (.build [.bool false, .bool false, .string ⟨#[]⟩, .string ⟨#[]⟩] [(0, (1,
 .const (.bool true))), (1, (3, TT 1))]), OB (.store 4 (TT 0) (TT 2))]) .ret)⟩
theorem a8T : l6 eff Tryz.prog Tryz.f254 = some a3x := by kernel_rfl
theorem a9a : Tryz.prog.funcs[254]? = some Tryz.f254 := Tryz.func254
def a6Z : p9 := ⟨12, [.cell 4 true 6], .seq (.reg [OA 2 (.box 55 (TT 0)), OA 3 (.box 51 (TT 1)), OA 4 (.alloc 51 [.bool false, .string ⟨#[]⟩, .string ⟨#[]⟩, .bool false, .string ⟨#[]⟩, .string ⟨#[]⟩])]) (.seq (.D6 [.q, .q, .q, .q, .q, .q, .q,
 .e none false] [FF 5 0 2, LL 6 6 5, LL 7 6 3, FF 8 6 2, LL 9 4 8, OA 10 (.call 180 [TT 7, TT 9]), OA 11 (.call 161 [TT 6, TT 10]), OB (.store 6 (TT 4) (TT 11))]) .ret)⟩
theorem b3J : l6 eff Tryz.prog Tryz.f73 = some a6Z := by kernel_rfl
theorem b4I : Tryz.prog.funcs[73]? = some Tryz.f73 := Tryz.func73
def a6i : p9 := ⟨9, [.cell 0 true 10], .seq (.reg [OA 0 (.alloc 55 [.bool false, .string ⟨#[]⟩, .string ⟨#[]⟩, .bool false, .string ⟨#[]⟩, .string ⟨#[]⟩, .bool false, .bool false, .string ⟨#[]⟩, .string ⟨#[]⟩])]) (.seq (.reg [OA 2 (.call 71 [II
 0]), OA 1 (.alloc 29 [.bool false, .string ⟨#[]⟩, .string ⟨#[]⟩]), OB (.store 3 (TT 1) (TT 2))]) (.seq (.D6 [.q, .q, .q, .q, .q, .q, .e none false] [LL 3 3 1, LL 4 3 1, OA 5 (.build [.bool false, .string ⟨#[]⟩, .string ⟨#[]⟩,
 .bool false, .string ⟨#[]⟩, .string ⟨#[]⟩] [(0, (3, TT 3)), (3, (3, TT 4))]), LL 6 3 1, OA 7 (.call 213 [TT 6]), OA 8 (.build [.bool false, .string ⟨#[]⟩, .string ⟨#[]⟩, .bool false, .string ⟨#[]⟩, .string ⟨#[]⟩, .bool false,
 .bool false, .string ⟨#[]⟩, .string ⟨#[]⟩] [(0, (6, TT 5)), (6, (4, TT 7))]), OB (.store 10 (TT 0) (TT 8))]) .ret))⟩
theorem b2y : l6 eff Tryz.prog Tryz.f154 = some a6i := by kernel_rfl
theorem b2r : Tryz.prog.funcs[154]? = some Tryz.f154 := Tryz.func154
def a6u : p9 := ⟨5, [.tmp 2], .seq (.reg [OA 2 (.mv (II 0))]) (.seq (.reg [MM 3 0, OA 4 (.call 232 [TT 3, II 8]), MM 2 4]) .ret)⟩
theorem b2D : l6 eff Tryz.prog Tryz.f201 = some a6u := by kernel_rfl
theorem b2L : Tryz.prog.funcs[201]? = some Tryz.f201 := Tryz.func201
def a6j : p9 := ⟨49, [.tmp 4], .seq (.reg [OA 4 (.mv (II 0))]) (.seq (.reg [MM 9 0, OA 10 (.len false (TT 9)), MM 5 10]) (.seq (.block 0 (.seq (.reg [MM 12 5, MM 13 1, OA 14 (.bin .gtr (TT 12) (TT 13)), MM 11 14]) (.cond (TT 11) (.seq (.reg [OA 4
 (.mv (II 2))]) .ret) (.seq (.reg [MM 16 5, OA 17 (.bin .lss (TT 16) (II 3)), MM 15 17]) (.cond (TT 15) (.seq (.reg [OA 4 (.mv (II 3))]) .ret) .skip))))) (.seq (.seq (.reg [MM 18 0, OA 19 (.len false (TT 18)), OA 20 (.mv (II
 0))]) (.block 1 (.loop (.seq (.reg [OA 21 (.bin .lss (TT 20) (TT 19))]) (.seq (.cond (TT 21) .skip (.exit 1)) (.seq (.block 2 (.seq (.reg [MM 22 20, OA 23 (.j5 6 (TT 18) (TT 20)), LL 24 6 23, OA 7 (.alloc 51 [.bool false,
 .string ⟨#[]⟩, .string ⟨#[]⟩, .bool false, .string ⟨#[]⟩, .string ⟨#[]⟩]), MM 6 22, OB (.store 6 (TT 7) (TT 24))]) (.seq (.reg [OA 8 (.mv (II 2))]) (.block 3 (.loop (.seq (.seq (.reg [MM 25 8, MM 26 5, OA 27 (.bin .lss (TT 25)
 (TT 26))]) (.cond (TT 27) .skip (.exit 3))) (.seq (.block 4 (.seq (.D6 [.q, .q, .q, .q, .q, .q, .q, .q, .q, .q, .q, .q, .q, .q, .q, .q, .q, .q] [LL 30 6 7, MM 31 0, MM 32 6, OA 33 (.bin .add (TT 32) (II 1)), MM 34 5, OA 35
 (.bin .rem (TT 33) (TT 34)), OA 36 (.j5 6 (TT 31) (TT 35)), LL 37 6 36, MM 38 0, MM 39 6, MM 40 8, OA 41 (.bin .add (TT 39) (TT 40)), MM 42 5, OA 43 (.bin .rem (TT 41) (TT 42)), OA 44 (.j5 6 (TT 38) (TT 43)), LL 45 6 44,
 OA 46 (.call 251 [TT 30, TT 37, TT 45]), OA 47 (.bin .leq (TT 46) (II 0))]) (.cond (TT 47) (.seq (.reg [OA 4 (.mv (II 3))]) .ret) .skip))) (.reg [MM 28 8, OA 29 (.bin .add (TT 28) (II 1)), MM 8 29])))))))) (.reg [OA 48 (.bin
 .add (TT 20) (II 1)), MM 20 48]))))))) (.seq (.reg [OA 4 (.mv (II 0))]) .ret))))⟩
theorem b2q : l6 eff Tryz.prog Tryz.f232 = some a6j := by kernel_rfl
theorem b2B : Tryz.prog.funcs[232]? = some Tryz.f232 := Tryz.func232
def a7s : p9 := ⟨15, [.tmp 6], .seq (.reg [OA 3 (.box 51 (TT 0)), OA 4 (.box 51 (TT 1)), OA 5 (.box 51 (TT 2)), OA 6 (.mv (II 0))]) (.seq (.D6 [.q, .q, .q, .q, .q, .q, .q, .q, .q] [LL 7 6 4, LL 8 6 3, OA 9 (.call 72 [TT 7, TT 8]), LL 10 6 5, LL
 11 6 3, OA 12 (.call 72 [TT 10, TT 11]), OA 13 (.call 263 [TT 9, TT 12]), OA 14 (.call 15 [TT 13]), MM 6 14]) .ret)⟩
theorem b4M : l6 eff Tryz.prog Tryz.f251 = some a7s := by kernel_rfl
theorem b3e : Tryz.prog.funcs[251]? = some Tryz.f251 := Tryz.func251
def a6L : p9 := ⟨60, [.tmp 2], .seq (.reg [OA 1 (.box 76 (TT 0)), OA 2 (.mv (II 0))]) (.seq (.seq (.reg [FF 7 0 1, VV 8 7, OA 9 (.call 198 [TT 8]), OA 10 (.un .not (TT 9))]) (.cond (TT 10) (.seq (.reg [OA 2 (.mv (II 3))]) .ret) .skip)) (.seq
 (.seq (.reg [FF 11 11 1, VV 12 11, OA 13 (.len false (TT 12)), OA 14 (.bin .gtr (TT 13) (II 3))]) (.cond (TT 14) (.seq (.reg [OA 2 (.mv (II 2))]) .ret) .skip)) (.seq (.reg [FF 15 1 1, LL 16 10 15, OA 3 (.alloc 55 [.bool false,
 .string ⟨#[]⟩, .string ⟨#[]⟩, .bool false, .string ⟨#[]⟩, .string ⟨#[]⟩, .bool false, .bool false, .string ⟨#[]⟩, .string ⟨#[]⟩]), OB (.store 10 (TT 3) (TT 16))]) (.seq (.seq (.reg [FF 17 11 1, VV 18 17, OA 19 (.len false (TT
 18)), OA 20 (.bin .eql (TT 19) (II 0)), MM 21 20, FG 22 0 3 21 false, FG 23 0 22 21 false, LG 24 3 23 21 false, FG 25 0 3 21 false, FG 26 3 25 21 false, LG 27 3 26 21 false, FG 28 6 3 21 false, FG 29 1 28 21 false, LG 30 3 29 21
 false, OC 31 (.bsl 29 3 3 [.bool false, .string ⟨#[]⟩, .string ⟨#[]⟩] [(0, TT 24), (1, TT 27), (2, TT 30)]) 21 false, OC 32 (.call 199 [TT 31]) 21 false, OC 33 (.un .not (TT 32)) 21 false, OA 34 (.pick (TT 21) (.const (.bool
 true)) (TT 33)), MM 35 34, FG 36 6 3 35 false, FG 37 0 36 35 false, VG 38 37 35 false, MG 39 38 35 false, FG 40 6 3 39 true, FG 41 1 40 39 true, LG 42 3 41 39 true, OC 43 (.call 15 [TT 42]) 39 true, OC 44 (.bin .neq (TT 43) (II
 0)) 39 true, OC 45 (.pick (TT 39) (TT 44) (.const (.bool false))) 35 false, OA 46 (.pick (TT 35) (.const (.bool true)) (TT 45))]) (.cond (TT 46) (.seq (.reg [OA 2 (.mv (II 1))]) .ret) .skip)) (.seq (.seq (.reg [FF 47 11 1, VV 48
 47, OA 49 (.len false (TT 48)), OA 50 (.mv (II 0))]) (.block 0 (.loop (.seq (.reg [OA 51 (.bin .lss (TT 50) (TT 49))]) (.seq (.cond (TT 51) .skip (.exit 0)) (.seq (.block 1 (.seq (.reg [OA 52 (.j5 16 (TT 48) (TT 50)), LL 53
 16 52, OA 5 (.alloc 158 [.bool false, .string ⟨#[]⟩, .string ⟨#[]⟩, .bool false, .string ⟨#[]⟩, .string ⟨#[]⟩, .bool false, .string ⟨#[]⟩, .string ⟨#[]⟩, .bool false, .string ⟨#[]⟩, .string ⟨#[]⟩, .bool false, .string ⟨#[]⟩,
 .string ⟨#[]⟩, .slice none 0 0]), OB (.store 16 (TT 5) (TT 53))]) (.seq (.reg [LL 54 16 5, OA 55 (.call 200 [TT 54]), MM 6 55]) (.seq (.reg [MM 56 6, OA 57 (.bin .neq (TT 56) (II 0))]) (.cond (TT 57) (.seq (.reg [MM 58 6, MM 2
 58]) .ret) .skip))))) (.reg [OA 59 (.bin .add (TT 50) (II 1)), MM 50 59]))))))) (.seq (.reg [OA 2 (.mv (II 0))]) .ret))))))⟩
theorem b4E : l6 eff Tryz.prog Tryz.f87 = some a6L := by kernel_rfl
theorem b2Y : Tryz.prog.funcs[87]? = some Tryz.f87 := Tryz.func87
def a8z : p9 := ⟨42, [.tmp 4], .seq (.reg [OA 2 (.box 76 (TT 0)), OA 4 (.mv (II 0))]) (.seq (.seq (.reg [LL 8 12 2, MM 9 1, OA 10 (.len false (TT 9)), OA 11 (.call 212 [TT 8, TT 10]), MM 5 11]) (.seq (.reg [MM 12 5, OA 13 (.bin .neq (TT 12) (II
 0))]) (.cond (TT 13) (.seq (.reg [MM 14 5, MM 4 14]) .ret) .skip))) (.seq (.seq (.reg [FF 15 11 2, VV 16 15, OA 17 (.len false (TT 16)), OA 18 (.mv (II 0))]) (.block 0 (.loop (.seq (.reg [OA 19 (.bin .lss (TT 18) (TT 17))])
 (.seq (.cond (TT 19) .skip (.exit 0)) (.seq (.block 1 (.seq (.reg [MM 20 18, OA 21 (.j5 16 (TT 16) (TT 18)), LL 22 16 21, OA 7 (.alloc 158 [.bool false, .string ⟨#[]⟩, .string ⟨#[]⟩, .bool false, .string ⟨#[]⟩, .string ⟨#[]⟩,
 .bool false, .string ⟨#[]⟩, .string ⟨#[]⟩, .bool false, .string ⟨#[]⟩, .string ⟨#[]⟩, .bool false, .string ⟨#[]⟩, .string ⟨#[]⟩, .slice none 0 0]), MM 6 20, OB (.store 16 (TT 7) (TT 22))]) (.seq (.D6 [.q, .q, .q, .q, .q, .q,
 .q, .q, .q, .q, .q, .q, .q, .q, .q, .q, .q, .q] [MM 23 1, MM 24 6, OA 25 (.j5 3 (TT 23) (TT 24)), LL 26 3 25, FF 27 3 7, LL 28 3 27, OA 29 (.call 52 [TT 26, TT 28]), OA 30 (.bin .lss (TT 29) (II 0)), MM 31 30, MG 32 1 31
 false, MG 33 6 31 false, OC 34 (.j5 3 (TT 32) (TT 33)) 31 false, LG 35 3 34 31 false, FG 36 6 7 31 false, LG 37 3 36 31 false, OC 38 (.call 52 [TT 35, TT 37]) 31 false, OC 39 (.bin .gtr (TT 38) (II 0)) 31 false, OA 40 (.pick
 (TT 31) (.const (.bool true)) (TT 39))]) (.cond (TT 40) (.seq (.reg [OA 4 (.mv (II 17))]) .ret) .skip)))) (.reg [OA 41 (.bin .add (TT 18) (II 1)), MM 18 41]))))))) (.seq (.reg [OA 4 (.mv (II 0))]) .ret)))⟩
theorem b5h : l6 eff Tryz.prog Tryz.f141 = some a8z := by kernel_rfl
theorem b5k : Tryz.prog.funcs[141]? = some Tryz.f141 := Tryz.func141
def a6t : p9 := ⟨28, [.tmp 2], .seq (.reg [OA 2 (.mv (.const (.bool false)))]) (.seq (.seq (.reg [MM 4 0, OA 5 (.len true (TT 4)), OA 6 (.mv (II 0))]) (.block 0 (.loop (.seq (.reg [OA 7 (.bin .lss (TT 6) (TT 5))]) (.seq (.cond (TT 7) .skip (.exit
 0)) (.seq (.block 1 (.seq (.reg [MM 8 6, MM 3 8]) (.seq (.reg [MM 9 0, MM 10 3, OA 11 (.idxs (TT 9) (TT 10)), OA 12 (.bin .lss (TT 11) (.const (.int .u8 97))), MM 13 12, MG 14 0 13 false, MG 15 3 13 false, OC 16 (.idxs (TT 14)
 (TT 15)) 13 false, OC 17 (.bin .gtr (TT 16) (.const (.int .u8 122))) 13 false, OA 18 (.pick (TT 13) (.const (.bool true)) (TT 17))]) (.cond (TT 18) (.seq (.reg [OA 2 (.mv (.const (.bool false)))]) .ret) .skip)))) (.reg [OA 19
 (.bin .add (TT 6) (II 1)), MM 6 19]))))))) (.seq (.reg [MM 20 0, OA 21 (.len true (TT 20)), OA 22 (.bin .geq (TT 21) (II 1)), MM 23 22, MG 24 0 23 true, OC 25 (.len true (TT 24)) 23 true, OC 26 (.bin .leq (TT 25) (II 12)) 23
 true, OA 27 (.pick (TT 23) (TT 26) (.const (.bool false))), MM 2 27]) .ret))⟩
theorem b2E : l6 eff Tryz.prog Tryz.f198 = some a6t := by kernel_rfl
theorem b2O : Tryz.prog.funcs[198]? = some Tryz.f198 := Tryz.func198
def a7A : p9 := ⟨15, [.tmp 2], .seq (.reg [OA 2 (.mv (.const (.bool false)))]) (.seq (.seq (.reg [MM 5 0, OA 6 (.len false (TT 5)), OA 7 (.mv (II 0))]) (.block 0 (.loop (.seq (.reg [OA 8 (.bin .lss (TT 7) (TT 6))]) (.seq (.cond (TT 8) .skip
 (.exit 0)) (.seq (.block 1 (.seq (.reg [OA 9 (.j5 3 (TT 5) (TT 7)), LL 10 3 9, OA 4 (.alloc 29 [.bool false, .string ⟨#[]⟩, .string ⟨#[]⟩]), OB (.store 3 (TT 4) (TT 10))]) (.seq (.reg [LL 11 3 4, OA 12 (.call 84 [TT 11]), OA
 13 (.un .not (TT 12))]) (.cond (TT 13) (.seq (.reg [OA 2 (.mv (.const (.bool false)))]) .ret) .skip)))) (.reg [OA 14 (.bin .add (TT 7) (II 1)), MM 7 14]))))))) (.seq (.reg [OA 2 (.mv (.const (.bool true)))]) .ret))⟩
theorem b4T : l6 eff Tryz.prog Tryz.f199 = some a7A := by kernel_rfl
theorem b4m : Tryz.prog.funcs[199]? = some Tryz.f199 := Tryz.func199
def a7v : p9 := ⟨64, [.tmp 2], .seq (.reg [OA 1 (.box 158 (TT 0)), OA 2 (.mv (II 0))]) (.seq (.seq (.reg [FF 6 0 1, LL 7 3 6, FF 8 3 1, LL 9 3 8, FF 10 6 1, LL 11 3 10, FF 12 9 1, LL 13 3 12, FF 14 12 1, LL 15 3 14, OA 16 (.bsl 29 3 5 [.bool
 false, .string ⟨#[]⟩, .string ⟨#[]⟩] [(0, TT 7), (1, TT 9), (2, TT 11), (3, TT 13), (4, TT 15)]), OA 17 (.call 199 [TT 16]), OA 18 (.un .not (TT 17)), MM 19 18, FG 20 0 1 19 false, LG 21 3 20 19 false, OC 22 (.call 15 [TT 21])
 19 false, OC 23 (.bin .leq (TT 22) (II 0)) 19 false, OA 24 (.pick (TT 19) (.const (.bool true)) (TT 23)), MM 25 24, FG 26 3 1 25 false, LG 27 3 26 25 false, FG 28 6 1 25 false, LG 29 3 28 25 false, OC 30 (.call 52 [TT 27, TT
 29]) 25 false, OC 31 (.bin .geq (TT 30) (II 0)) 25 false, OA 32 (.pick (TT 25) (.const (.bool true)) (TT 31))]) (.cond (TT 32) (.seq (.reg [OA 2 (.mv (II 1))]) .ret) .skip)) (.seq (.seq (.reg [FF 33 9 1, LL 34 3 33, OA 35 (.call
 15 [TT 34]), OA 36 (.bin .leq (TT 35) (II 0)), MM 37 36, FG 38 12 1 37 false, LG 39 3 38 37 false, OC 40 (.call 15 [TT 39]) 37 false, OC 41 (.bin .leq (TT 40) (II 0)) 37 false, OA 42 (.pick (TT 37) (.const (.bool true)) (TT
 41))]) (.cond (TT 42) (.seq (.reg [OA 2 (.mv (II 1))]) .ret) .skip)) (.seq (.seq (.reg [FF 43 15 1, VV 44 43, OA 45 (.call 201 [TT 44]), MM 3 45]) (.seq (.reg [MM 46 3, OA 47 (.bin .neq (TT 46) (II 0))]) (.cond (TT 47) (.seq
 (.reg [MM 48 3, MM 2 48]) .ret) .skip))) (.seq (.seq (.reg [FF 49 15 1, VV 50 49, OA 51 (.len false (TT 50)), OA 52 (.mv (II 0))]) (.block 0 (.loop (.seq (.reg [OA 53 (.bin .lss (TT 52) (TT 51))]) (.seq (.cond (TT 53) .skip
 (.exit 0)) (.seq (.block 1 (.seq (.reg [OA 54 (.j5 6 (TT 50) (TT 52)), LL 55 6 54, OA 5 (.alloc 51 [.bool false, .string ⟨#[]⟩, .string ⟨#[]⟩, .bool false, .string ⟨#[]⟩, .string ⟨#[]⟩]), OB (.store 6 (TT 5) (TT 55))]) (.seq
 (.reg [FF 56 0 5, LL 57 3 56, FF 58 3 5, LL 59 3 58, OA 60 (.bsl 29 3 2 [.bool false, .string ⟨#[]⟩, .string ⟨#[]⟩] [(0, TT 57), (1, TT 59)]), OA 61 (.call 199 [TT 60]), OA 62 (.un .not (TT 61))]) (.cond (TT 62) (.seq (.reg [OA
 2 (.mv (II 1))]) .ret) .skip)))) (.reg [OA 63 (.bin .add (TT 52) (II 1)), MM 52 63]))))))) (.seq (.reg [OA 2 (.mv (II 0))]) .ret)))))⟩
theorem b3M : l6 eff Tryz.prog Tryz.f200 = some a7v := by kernel_rfl
theorem b3j : Tryz.prog.funcs[200]? = some Tryz.f200 := Tryz.func200
def b0q : p9 := ⟨16, [.tmp 4], .seq (.reg [OA 2 (.box 76 (TT 0)), OA 4 (.mv (II 0))]) (.seq (.seq (.reg [LL 6 12 2, OA 7 (.call 87 [TT 6]), MM 5 7]) (.seq (.reg [MM 8 5, OA 9 (.bin .neq (TT 8) (II 0))]) (.cond (TT 9) (.seq (.reg [MM 10 5, MM 4
 10]) .ret) .skip))) (.seq (.seq (.reg [MM 11 1, FF 12 11 2, VV 13 12, OA 14 (.len false (TT 13)), OA 15 (.bin .neq (TT 11) (TT 14))]) (.cond (TT 15) (.seq (.reg [OA 4 (.mv (II 1))]) .ret) .skip)) (.seq (.reg [OA 4 (.mv (II 0))])
 .ret)))⟩
theorem b7R : l6 eff Tryz.prog Tryz.f212 = some b0q := by kernel_rfl
theorem b7x : Tryz.prog.funcs[212]? = some Tryz.f212 := Tryz.func212
end Go.Proofs.YtogfpjohjphngaaGreatDoor
namespace Go.Proofs.YtogfpjohjphngaaGreatDoor
set_option linter.all false
open Go Go.RowKit Eng
set_option maxRecDepth 10000
set_option maxHeartbeats 4000000
def tc (h : Bool) (a : Nm.Rt) : C := .agg [.v (.bool h), .v (.bool a.neg), sb a.num, sb a.den]
def tq (h : Bool) (q : Rat) : C := tc h (Nm.ofQ q)
theorem c0S (a : Nm.Rt) (ha : Rb 17179869184 a) : FZ 213 [rc a] (tq false (Nm.j3 a)) := by
 refine q8.of b7h b8o (by exact Nat.le_of_ble_eq_true rfl) fun w O hw => ?_
 have hm := b9z a a ha ha
 have e : a2w (Nm.j3 a) (Nm.j3 a) = Nm.j3 a := by unfold a2w; split <;> rfl
 rw [e] at hm
 unfold rq tq at *
 generalize Nm.ofQ (Nm.j3 a) = r at *
 simp only [b0e, l9, TT, II, OA, OB, OC, MM, LL, VV, FF, MG, LG, VG, FG]
 simp only [rc, tc, sb] at *
 (repeat first | refine uA ?_ | (apply S.exit; exact rfl) | ((with_reducible refine And.intro ?_ ?_); focus first | omega | trivial | exact id | (intros; simp_all <;> omega)) | simp (disch := omega) only [go_sem, Nat.reduceBEq, Nat.reduceAdd, Nat.reduceLeDiff, Int.reduceToNat, Int.reducePow, ww] | (refine uD hm ?_ ?_ ?_; exact tz hw; exact rfl))
 (refine S.done ?_; simp only [x9, u6, go_sem, Nat.reduceBEq, Nat.reduceAdd, Nat.reduceLeDiff, Int.reduceToNat, Int.reducePow]; (repeat (refine ⟨?_, ?_⟩; focus first | trivial | omega | simp)); exact d9.out rfl (Imp.refl rfl) rfl)
end Go.Proofs.YtogfpjohjphngaaGreatDoor
namespace Go.Proofs.YtogfpjohjphngaaGreatDoor
set_option linter.all false
open Go Go.RowKit Eng
theorem b1q {neg : Bool} {n d k m : Nat} (hd : d ≠ 0) (hn : (Nm.enc n).length <= k) (hdl : (Nm.enc d).length <= k) (hk : 1 <= k) (hm : k <= m) : Rb m (Nm.ofQ (mkRat (Nm.sgn neg n) d)) := by
 rw [<- Nm.b0N neg hd]
 split
 ·exact ⟨Nat.zero_le _, Nat.le_trans hk hm⟩
 ·exact ⟨Nat.le_trans (Nm.a3y (Nat.div_le_self _ _)) (Nat.le_trans hn hm), Nat.le_trans (Nm.a3y (Nat.div_le_self _ _)) (Nat.le_trans hdl hm)⟩
theorem b3u {k : Nat} {p : Rat} (h : Rb k (Nm.ofQ p)) : 1 <= k := by
 have h1 := h.2
 simp only [Nm.ofQ] at h1
 have : Nm.enc p.den ≠ [] := Nm.a5v p.den_nz
 have := List.length_pos_iff.2 this
 omega
theorem a0e {k m : Nat} {p q : Rat} (hp : Rb k (Nm.ofQ p)) (hq : Rb m (Nm.ofQ q)) : Rb (k + m + 1) (Nm.ofQ (p + q)) := by
 have h1 := b3u hp
 rw [<- Nm.b1w p q]
 have l1 := Nm.I6 hp.1 hq.2
 have l2 := Nm.I6 hq.1 hp.2
 have l3 := Nm.I6 hp.2 hq.2
 exact b1q (k := k + m + 1) (Nat.mul_ne_zero p.den_nz q.den_nz) (Nat.le_trans (Nm.a3y (Nm.a5O _ _ _ _)) (Nm.a4G l1 (by omega))) (by omega) (by omega) (Nat.le_refl _)
theorem M7 {k m : Nat} {p q : Rat} (hp : Rb k (Nm.ofQ p)) (hq : Rb m (Nm.ofQ q)) : Rb (k + m) (Nm.ofQ (p * q)) := by
 have h1 := b3u hp
 rw [<- Nm.b3r p q]
 exact b1q (k := k + m) (Nat.mul_ne_zero p.den_nz q.den_nz) (Nm.I6 hp.1 hq.1) (Nm.I6 hp.2 hq.2) (by omega) (Nat.le_refl _)
theorem b8I {k m : Nat} {p q : Rat} (h : q ≠ 0) (hp : Rb k (Nm.ofQ p)) (hq : Rb m (Nm.ofQ q)) : Rb (k + m) (Nm.ofQ (p / q)) := by
 have h1 := b3u hp
 rw [<- Nm.b4V p q h]
 have hn : q.num.natAbs ≠ 0 := fun e => h (Rat.num_eq_zero.1 (by omega))
 exact b1q (k := k + m) (Nat.mul_ne_zero p.den_nz hn) (Nm.I6 hp.1 hq.2) (Nm.I6 hp.2 hq.1) (by omega) (Nat.le_refl _)
theorem b1n {k : Nat} {p : Rat} (hp : Rb k (Nm.ofQ p)) : Rb k (Nm.ofQ (-p)) := by
 rw [b0h]; exact hp
theorem Z8 {k m : Nat} {p q : Rat} (hp : Rb k (Nm.ofQ p)) (hq : Rb m (Nm.ofQ q)) : Rb (k + m + 1) (Nm.ofQ (p - q)) := by
 rw [Rat.sub_eq_add_neg]; exact a0e hp (b1n hq)
theorem Rb.mono {k m : Nat} {a : Nm.Rt} (h : Rb k a) (hm : k <= m) : Rb m a := ⟨Nat.le_trans h.1 hm, Nat.le_trans h.2 hm⟩
end Go.Proofs.YtogfpjohjphngaaGreatDoor
namespace Go.Proofs.YtogfpjohjphngaaGreatDoor
set_option linter.all false
open Go Go.RowKit Eng
set_option maxRecDepth 10000
set_option maxHeartbeats 4000000
theorem b6O (p q : Rat) (hp : Rb 17179869184 (Nm.ofQ p)) (hq : Rb 17179869184 (Nm.ofQ q)) : FZ 16 [rq p, rq q] (rq (p + q)) := by
 have := a3M (Nm.ofQ p) (Nm.ofQ q) hp hq
 rwa [Nm.G9, Nm.G9] at this
theorem c1c (p q : Rat) (hp : Rb 17179869184 (Nm.ofQ p)) (hq : Rb 17179869184 (Nm.ofQ q)) : FZ 158 [rq p, rq q] (rq (p - q)) := by
 have := a9z (Nm.ofQ p) (Nm.ofQ q) hp hq
 rwa [Nm.G9, Nm.G9] at this
theorem b2T (p q : Rat) (hp : Rb 17179869184 (Nm.ofQ p)) (hq : Rb 17179869184 (Nm.ofQ q)) : FZ 172 [rq p, rq q] (rq (p * q)) := by
 have := a6P (Nm.ofQ p) (Nm.ofQ q) hp hq
 rwa [Nm.G9, Nm.G9] at this
theorem c0X (p q : Rat) (hp : Rb 17179869184 (Nm.ofQ p)) (hq : Rb 17179869184 (Nm.ofQ q)) : FZ 223 [rq p, rq q] (.tup [rc (a4T p q), ints (b1o q)]) := by
 have := c2y (Nm.ofQ p) (Nm.ofQ q) hp hq
 rwa [Nm.G9, Nm.G9] at this
theorem c2j : FZ 254 [] (tq true 0) := by
 refine q8.of a9a a8T (by exact Nat.le_of_ble_eq_true rfl) fun w O hw => ?_
 have ho := a5Y 0 (by decide) (by decide)
 rw [show ((0 : Int) : Rat) = 0 from rfl] at ho
 unfold rq tq at *
 generalize Nm.ofQ 0 = r at *
 simp only [a3x, l9, TT, II, OA, OB, OC, MM, LL, VV, FF, MG, LG, VG, FG]
 simp only [rc, tc, sb, ints] at *
 (repeat first | refine uA ?_ | (apply S.exit; exact rfl) | ((with_reducible refine And.intro ?_ ?_); focus first | omega | trivial | exact id | (intros; simp_all <;> omega)) | simp (disch := omega) only [go_sem, Nat.reduceBEq, Nat.reduceAdd, Nat.reduceLeDiff, Int.reduceToNat, Int.reducePow, ww] | (refine uD ho ?_ ?_ ?_; exact tz hw; exact rfl))
 (refine S.done ?_; simp only [x9, u6, go_sem, Nat.reduceBEq, Nat.reduceAdd, Nat.reduceLeDiff, Int.reduceToNat, Int.reducePow]; (repeat (refine ⟨?_, ?_⟩; focus first | trivial | omega | simp)); exact d9.out rfl (Imp.refl rfl) rfl)
def F9 (h : Bool) (a : Nm.Rt) : Rat := if h then 0 else Nm.j3 a
theorem b9a (h : Bool) (a : Nm.Rt) (ha : Rb 17179869184 a) : FZ 243 [tc h a] (tq h (F9 h a)) := by
 refine q8.of b5x b5m (by exact Nat.le_of_ble_eq_true rfl) fun w O hw => ?_
 have ho := c2j
 have hf := c0S a ha
 unfold F9 tq at *
 cases h
 ·simp only [Bool.false_eq_true, if_false]
  generalize Nm.ofQ (Nm.j3 a) = r at *
  simp only [a4R, l9, TT, II, OA, OB, OC, MM, LL, VV, FF, MG, LG, VG, FG]
  simp only [rc, tc, sb, ints] at *
  (repeat first | refine uA ?_ | (apply S.exit; exact rfl) | ((with_reducible refine And.intro ?_ ?_); focus first | omega | trivial | exact id | (intros; simp_all <;> omega)) | simp (disch := omega) only [go_sem, Nat.reduceBEq, Nat.reduceAdd, Nat.reduceLeDiff, Int.reduceToNat, Int.reducePow, ww])
  exact S.cond rfl (fun hc => by cases hc) (fun _ => by
   (repeat first | refine uA ?_ | (apply S.exit; exact rfl) | ((with_reducible refine And.intro ?_ ?_); focus first | omega | trivial | exact id | (intros; simp_all <;> omega)) | simp (disch := omega) only [go_sem, Nat.reduceBEq, Nat.reduceAdd, Nat.reduceLeDiff, Int.reduceToNat, Int.reducePow, ww] | (refine uD hf ?_ ?_ ?_; exact tz hw; exact rfl))
   (refine S.done ?_; simp only [x9, u6, go_sem, Nat.reduceBEq, Nat.reduceAdd, Nat.reduceLeDiff, Int.reduceToNat, Int.reducePow]; (repeat (refine ⟨?_, ?_⟩; focus first | trivial | omega | simp)); exact d9.out rfl (Imp.refl rfl) rfl))
 ·simp only [if_true]
  generalize Nm.ofQ 0 = r at *
  simp only [a4R, l9, TT, II, OA, OB, OC, MM, LL, VV, FF, MG, LG, VG, FG]
  simp only [rc, tc, sb, ints] at *
  (repeat first | refine uA ?_ | (apply S.exit; exact rfl) | ((with_reducible refine And.intro ?_ ?_); focus first | omega | trivial | exact id | (intros; simp_all <;> omega)) | simp (disch := omega) only [go_sem, Nat.reduceBEq, Nat.reduceAdd, Nat.reduceLeDiff, Int.reduceToNat, Int.reducePow, ww])
  exact S.cond rfl (fun _ => by
   (repeat first | refine uA ?_ | (apply S.exit; exact rfl) | ((with_reducible refine And.intro ?_ ?_); focus first | omega | trivial | exact id | (intros; simp_all <;> omega)) | simp (disch := omega) only [go_sem, Nat.reduceBEq, Nat.reduceAdd, Nat.reduceLeDiff, Int.reduceToNat, Int.reducePow, ww] | (refine uD ho ?_ ?_ ?_; exact tz hw; exact rfl))
   (refine S.done ?_; simp only [x9, u6, go_sem, Nat.reduceBEq, Nat.reduceAdd, Nat.reduceLeDiff, Int.reduceToNat, Int.reducePow]; (repeat (refine ⟨?_, ?_⟩; focus first | trivial | omega | simp)); exact d9.out rfl (Imp.refl rfl) rfl)) (fun hc => by cases hc)
end Go.Proofs.YtogfpjohjphngaaGreatDoor
namespace Go.Proofs.YtogfpjohjphngaaGreatDoor
set_option linter.all false
open Go Go.RowKit Eng
set_option maxRecDepth 10000
set_option maxHeartbeats 4000000
def U1 (h : Bool) (t : Rat) : Rat := if h then -1 else (1 - t * t) / (1 + t * t)
def U3 (t : Rat) : Rat := (t + t) / (1 + t * t)
theorem sq_nonneg (t : Rat) : 0 <= t * t := by
 rcases Rat.le_total (a := 0) (b := t) with h | h
 ·exact Rat.mul_nonneg h h
 ·have h1 : 0 <= -t := by grind
  have := Rat.mul_nonneg h1 h1
  grind
theorem b0s (t : Rat) : 1 + t * t ≠ 0 := by
 have := sq_nonneg t
 intro h
 have h1 : (0 : Rat) < 1 := by decide
 grind
theorem a1s : Rb 8 (Nm.ofQ 1) := ⟨Nm.I5 (by decide), Nm.I5 (by decide)⟩
theorem c2U (h : Bool) (a : Nm.Rt) (ha : Rb 4294967296 a) : FZ 224 [tc h a] (rq (U1 h (F9 h a))) := by
 refine q8.of b5l b5y (by exact Nat.le_of_ble_eq_true rfl) fun w O hw => ?_
 have hf := b9a h a (ha.mono (by decide))
 have ho := a5Y 1 (by decide) (by decide)
 have hm1 := a5Y (-1) (by decide) (by decide)
 rw [show ((1 : Int) : Rat) = 1 from rfl] at ho
 rw [show ((-1 : Int) : Rat) = -1 from rfl] at hm1
 have hk : Rb 4294967296 (Nm.ofQ (F9 h a)) := by
  unfold F9; cases h
  ·exact ha.fit (by decide)
  ·simp only [if_true]; rw [Nm.a3E]; exact ⟨by decide, by decide⟩
 generalize F9 h a = t at *
 have hsq := b2T t t (hk.mono (by decide)) (hk.mono (by decide))
 have k2 := M7 hk hk
 have hs := c1c 1 (t * t) (a1s.mono (by decide)) (k2.mono (by decide))
 have hp := b6O 1 (t * t) (a1s.mono (by decide)) (k2.mono (by decide))
 have hd := c0X (1 - t * t) (1 + t * t) ((Z8 a1s k2).mono (by decide)) ((a0e a1s k2).mono (by decide))
 rw [show a4T (1 - t * t) (1 + t * t) = Nm.ofQ ((1 - t * t) / (1 + t * t)) by unfold a4T; rw [if_neg (b0s t)]] at hd
 unfold U1
 cases h
 ·simp only [Bool.false_eq_true, if_false]
  generalize (1 - t * t) / (1 + t * t) = r at *
  unfold tq rq at *
  generalize Nm.ofQ t = rt at *
  generalize Nm.ofQ (t * t) = rs at *
  generalize Nm.ofQ (1 - t * t) = r1 at *
  generalize Nm.ofQ (1 + t * t) = r2 at *
  generalize Nm.ofQ r = r3 at *
  generalize Nm.ofQ 1 = r4 at *
  simp only [a4A, l9, TT, II, OA, OB, OC, MM, LL, VV, FF, MG, LG, VG, FG]
  simp only [rc, tc, sb, ints] at *
  (repeat first | refine uA ?_ | (apply S.exit; exact rfl) | ((with_reducible refine And.intro ?_ ?_); focus first | omega | trivial | exact id | (intros; simp_all <;> omega)) | simp (disch := omega) only [go_sem, Nat.reduceBEq, Nat.reduceAdd, Nat.reduceLeDiff, Int.reduceToNat, Int.reducePow, ww] | (refine uD hf ?_ ?_ ?_; exact tz hw; exact rfl))
  refine S.cond rfl (fun hc => by cases hc) (fun _ => ?_)
  (repeat first | refine uA ?_ | (apply S.exit; exact rfl) | ((with_reducible refine And.intro ?_ ?_); focus first | omega | trivial | exact id | (intros; simp_all <;> omega)) | simp (disch := omega) only [go_sem, Nat.reduceBEq, Nat.reduceAdd, Nat.reduceLeDiff, Int.reduceToNat, Int.reducePow, ww] | (refine uD hsq ?_ ?_ ?_; exact tz hw; exact rfl) | (refine uD ho ?_ ?_ ?_; exact tz hw; exact rfl) | (refine uD hs ?_ ?_ ?_; exact tz hw; exact rfl) | (refine uD hp ?_ ?_ ?_; exact tz hw; exact rfl) | (refine uD hd ?_ ?_ ?_; exact tz hw; exact rfl))
  (refine S.done ?_; simp only [x9, u6, go_sem, Nat.reduceBEq, Nat.reduceAdd, Nat.reduceLeDiff, Int.reduceToNat, Int.reducePow]; (repeat (refine ⟨?_, ?_⟩; focus first | trivial | omega | simp)); exact d9.out rfl (Imp.refl rfl) rfl)
 ·simp only [if_true]
  unfold tq rq at *
  generalize Nm.ofQ t = rt at *
  generalize Nm.ofQ (-1) = r4 at *
  simp only [a4A, l9, TT, II, OA, OB, OC, MM, LL, VV, FF, MG, LG, VG, FG]
  simp only [rc, tc, sb, ints] at *
  (repeat first | refine uA ?_ | (apply S.exit; exact rfl) | ((with_reducible refine And.intro ?_ ?_); focus first | omega | trivial | exact id | (intros; simp_all <;> omega)) | simp (disch := omega) only [go_sem, Nat.reduceBEq, Nat.reduceAdd, Nat.reduceLeDiff, Int.reduceToNat, Int.reducePow, ww] | (refine uD hf ?_ ?_ ?_; exact tz hw; exact rfl))
  refine S.cond rfl (fun _ => ?_) (fun hc => by cases hc)
  (repeat first | refine uA ?_ | (apply S.exit; exact rfl) | ((with_reducible refine And.intro ?_ ?_); focus first | omega | trivial | exact id | (intros; simp_all <;> omega)) | simp (disch := omega) only [go_sem, Nat.reduceBEq, Nat.reduceAdd, Nat.reduceLeDiff, Int.reduceToNat, Int.reducePow, ww] | (refine uD hm1 ?_ ?_ ?_; exact tz hw; exact rfl))
  (refine S.done ?_; simp only [x9, u6, go_sem, Nat.reduceBEq, Nat.reduceAdd, Nat.reduceLeDiff, Int.reduceToNat, Int.reducePow]; (repeat (refine ⟨?_, ?_⟩; focus first | trivial | omega | simp)); exact d9.out rfl (Imp.refl rfl) rfl)
end Go.Proofs.YtogfpjohjphngaaGreatDoor
namespace Go.Proofs.YtogfpjohjphngaaGreatDoor
set_option linter.all false
open Go Go.RowKit Eng
set_option maxRecDepth 10000
set_option maxHeartbeats 4000000
theorem a7R {k : Nat} {h : Bool} {a : Nm.Rt} (ha : Rb k a) (hk : 1 <= k) : Rb k (Nm.ofQ (F9 h a)) := by
 unfold F9; cases h
 ·exact ha.fit hk
 ·simp only [if_true]; rw [Nm.a3E]; exact ⟨Nat.zero_le _, hk⟩
theorem c2t (h : Bool) (a : Nm.Rt) (ha : Rb 4294967296 a) : FZ 225 [tc h a] (rq (U3 (F9 h a))) := by
 refine q8.of b5F b5o (by exact Nat.le_of_ble_eq_true rfl) fun w O hw => ?_
 have hf := b9a h a (ha.mono (by decide))
 have ho := a5Y 1 (by decide) (by decide)
 rw [show ((1 : Int) : Rat) = 1 from rfl] at ho
 have hk : Rb 4294967296 (Nm.ofQ (F9 h a)) := a7R ha (by decide)
 generalize F9 h a = t at *
 have hsq := b2T t t (hk.mono (by decide)) (hk.mono (by decide))
 have k2 := M7 hk hk
 have hs := b6O t t (hk.mono (by decide)) (hk.mono (by decide))
 have hp := b6O 1 (t * t) (a1s.mono (by decide)) (k2.mono (by decide))
 have hd := c0X (t + t) (1 + t * t) ((a0e hk hk).mono (by decide)) ((a0e a1s k2).mono (by decide))
 rw [show a4T (t + t) (1 + t * t) = Nm.ofQ ((t + t) / (1 + t * t)) by unfold a4T; rw [if_neg (b0s t)]] at hd
 unfold U3
 generalize (t + t) / (1 + t * t) = r at *
 unfold tq rq at *
 generalize Nm.ofQ t = rt at *
 generalize Nm.ofQ (t * t) = rs at *
 generalize Nm.ofQ (t + t) = r1 at *
 generalize Nm.ofQ (1 + t * t) = r2 at *
 generalize Nm.ofQ r = r3 at *
 generalize Nm.ofQ 1 = r4 at *
 simp only [a8q, l9, TT, II, OA, OB, OC, MM, LL, VV, FF, MG, LG, VG, FG]
 simp only [rc, tc, sb, ints] at *
 (repeat first | refine uA ?_ | (apply S.exit; exact rfl) | ((with_reducible refine And.intro ?_ ?_); focus first | omega | trivial | exact id | (intros; simp_all <;> omega)) | simp (disch := omega) only [go_sem, Nat.reduceBEq, Nat.reduceAdd, Nat.reduceLeDiff, Int.reduceToNat, Int.reducePow, ww] | (refine uD hf ?_ ?_ ?_; exact tz hw; exact rfl) | (refine uD hsq ?_ ?_ ?_; exact tz hw; exact rfl) | (refine uD ho ?_ ?_ ?_; exact tz hw; exact rfl) | (refine uD hs ?_ ?_ ?_; exact tz hw; exact rfl) | (refine uD hp ?_ ?_ ?_; exact tz hw; exact rfl) | (refine uD hd ?_ ?_ ?_; exact tz hw; exact rfl))
 (refine S.done ?_; simp only [x9, u6, go_sem, Nat.reduceBEq, Nat.reduceAdd, Nat.reduceLeDiff, Int.reduceToNat, Int.reducePow]; (repeat (refine ⟨?_, ?_⟩; focus first | trivial | omega | simp)); exact d9.out rfl (Imp.refl rfl) rfl)
end Go.Proofs.YtogfpjohjphngaaGreatDoor
namespace Go.Proofs.YtogfpjohjphngaaGreatDoor
set_option linter.all false
open Go Go.RowKit Eng
set_option maxRecDepth 10000
set_option maxHeartbeats 4000000
def vc (x y : Nm.Rt) : C := .agg [.v (.bool x.neg), sb x.num, sb x.den, .v (.bool y.neg), sb y.num, sb y.den]
def vq (x y : Rat) : C := vc (Nm.ofQ x) (Nm.ofQ y)
theorem c2w (a b c d : Nm.Rt) (ha : Rb 17179869184 a) (hb : Rb 17179869184 b) (hc : Rb 17179869184 c) (hd : Rb 17179869184 d) :
  FZ 161 [vc a b, vc c d] (vq (Nm.j3 a + Nm.j3 c) (Nm.j3 b + Nm.j3 d)) := by
 refine q8.of b7c b7u (by exact Nat.le_of_ble_eq_true rfl) fun w O hw => ?_
 have h1 := a3M a c ha hc
 have h2 := a3M b d hb hd
 unfold vq rq at *
 generalize Nm.ofQ (Nm.j3 a + Nm.j3 c) = r1 at *
 generalize Nm.ofQ (Nm.j3 b + Nm.j3 d) = r2 at *
 simp only [a9X, l9, TT, II, OA, OB, OC, MM, LL, VV, FF, MG, LG, VG, FG]
 simp only [rc, vc, sb] at *
 (repeat first | refine uA ?_ | (apply S.exit; exact rfl) | ((with_reducible refine And.intro ?_ ?_); focus first | omega | trivial | exact id | (intros; simp_all <;> omega)) | simp (disch := omega) only [go_sem, Nat.reduceBEq, Nat.reduceAdd, Nat.reduceLeDiff, Int.reduceToNat, Int.reducePow, ww] | (refine uD h1 ?_ ?_ ?_; exact tz hw; exact rfl) | (refine uD h2 ?_ ?_ ?_; exact tz hw; exact rfl))
 (refine S.done ?_; simp only [x9, u6, go_sem, Nat.reduceBEq, Nat.reduceAdd, Nat.reduceLeDiff, Int.reduceToNat, Int.reducePow]; (repeat (refine ⟨?_, ?_⟩; focus first | trivial | omega | simp)); exact d9.out rfl (Imp.refl rfl) rfl)
theorem b3N (a b c d : Nm.Rt) (ha : Rb 17179869184 a) (hb : Rb 17179869184 b) (hc : Rb 17179869184 c) (hd : Rb 17179869184 d) :
  FZ 72 [vc a b, vc c d] (vq (Nm.j3 a - Nm.j3 c) (Nm.j3 b - Nm.j3 d)) := by
 refine q8.of b7F b7v (by exact Nat.le_of_ble_eq_true rfl) fun w O hw => ?_
 have h1 := a9z a c ha hc
 have h2 := a9z b d hb hd
 unfold vq rq at *
 generalize Nm.ofQ (Nm.j3 a - Nm.j3 c) = r1 at *
 generalize Nm.ofQ (Nm.j3 b - Nm.j3 d) = r2 at *
 simp only [b0A, l9, TT, II, OA, OB, OC, MM, LL, VV, FF, MG, LG, VG, FG]
 simp only [rc, vc, sb] at *
 (repeat first | refine uA ?_ | (apply S.exit; exact rfl) | ((with_reducible refine And.intro ?_ ?_); focus first | omega | trivial | exact id | (intros; simp_all <;> omega)) | simp (disch := omega) only [go_sem, Nat.reduceBEq, Nat.reduceAdd, Nat.reduceLeDiff, Int.reduceToNat, Int.reducePow, ww] | (refine uD h1 ?_ ?_ ?_; exact tz hw; exact rfl) | (refine uD h2 ?_ ?_ ?_; exact tz hw; exact rfl))
 (refine S.done ?_; simp only [x9, u6, go_sem, Nat.reduceBEq, Nat.reduceAdd, Nat.reduceLeDiff, Int.reduceToNat, Int.reducePow]; (repeat (refine ⟨?_, ?_⟩; focus first | trivial | omega | simp)); exact d9.out rfl (Imp.refl rfl) rfl)
end Go.Proofs.YtogfpjohjphngaaGreatDoor
namespace Go.Proofs.YtogfpjohjphngaaGreatDoor
set_option linter.all false
open Go Eng
def a5K : p9 := ⟨46, [.tmp 8, .tmp 9], .seq (.reg [OA 4 (.box 31 (TT 0)), OA 5 (.box 37 (TT 1)), OA 8 (.mv (.const (.bool false))), OA 9 (.mv (II 0))]) (.seq (.reg [LL 15 8 4, LL 16 5 5, MM 17 2, MM 18 3, OA 19 (.call 13 [TT 15, TT 16, TT 17, TT
 18]), MM 14 19, OA 20 (.ext (TT 14) 0), OA 21 (.ext (TT 14) 1), OA 10 (.alloc 29 [.bool false, .string ⟨#[]⟩, .string ⟨#[]⟩]), OB (.store 3 (TT 10) (TT 20)), MM 11 21]) (.seq (.seq (.reg [MM 22 11, OA 23 (.bin .neq (TT 22) (II
 0))]) (.cond (TT 23) (.seq (.reg [MM 24 11, OA 8 (.mv (.const (.bool false))), MM 9 24]) .ret) .skip)) (.seq (.seq (.reg [FF 25 1 5, VV 26 25, OA 27 (.len false (TT 26)), OA 28 (.mv (II 0))]) (.block 0 (.loop (.seq (.reg [OA 29
 (.bin .lss (TT 28) (TT 27))]) (.seq (.cond (TT 29) .skip (.exit 0)) (.seq (.block 1 (.seq (.reg [OA 30 (.j5 4 (TT 26) (TT 28)), LL 31 4 30, OA 13 (.alloc 90 [.slice none 0 0, .slice none 0 0, .bool false, .int .i64 0]), OB
 (.store 4 (TT 13) (TT 31))]) (.seq (.reg [FF 32 3 13, VV 33 32, MM 34 2, OA 35 (.bin .eql (TT 33) (TT 34))]) (.cond (TT 35) (.seq (.reg [OA 8 (.mv (.const (.bool false))), OA 9 (.mv (II 0))]) .ret) .skip)))) (.reg [OA 36 (.bin
 .add (TT 28) (II 1)), MM 28 36]))))))) (.seq (.D6 [.q, .q, .q, .q, .q, .q, .q, .q, .q, .q, .q] [LL 37 3 10, FF 38 3 4, VV 39 38, MM 40 3, OA 41 (.j5 14 (TT 39) (TT 40)), FF 42 11 41, LL 43 3 42, OA 44 (.call 52 [TT 37, TT
 43]), OA 45 (.bin .leq (TT 44) (II 0)), MM 8 45, OA 9 (.mv (II 0))]) .ret))))⟩
theorem b7M : l6 eff Tryz.prog Tryz.f11 = some a5K := by kernel_rfl
theorem b7Q : Tryz.prog.funcs[11]? = some Tryz.f11 := Tryz.func11
def a4X : p9 := ⟨63, [.cell 8 true 3, .tmp 9], .seq (.reg [OA 4 (.box 31 (TT 0)), OA 5 (.box 37 (TT 1)), OA 8 (.alloc 29 [.bool false, .string ⟨#[]⟩, .string ⟨#[]⟩]), OA 9 (.mv (II 0))]) (.seq (.seq (.reg [LL 15 8 4, LL 16 5 5, MM 17 2, MM 18 3,
 OA 19 (.call 70 [TT 15, TT 16, TT 17, TT 18]), MM 10 19]) (.seq (.reg [MM 20 10, OA 21 (.bin .neq (TT 20) (II 0))]) (.cond (TT 21) (.seq (.reg [OA 22 (.build [.bool false, .string ⟨#[]⟩, .string ⟨#[]⟩] []), MM 23 10, OB (.store
 3 (TT 8) (TT 22)), MM 9 23]) .ret) .skip))) (.seq (.reg [OA 24 (.call 71 [II 0]), OA 11 (.alloc 29 [.bool false, .string ⟨#[]⟩, .string ⟨#[]⟩]), OB (.store 3 (TT 11) (TT 24))]) (.seq (.seq (.reg [FF 25 2 4, VV 26 25, MM 27 2, OA
 28 (.j5 12 (TT 26) (TT 27)), FF 29 1 28, VV 30 29, OA 31 (.len false (TT 30)), OA 32 (.mv (II 0))]) (.block 0 (.loop (.seq (.reg [OA 33 (.bin .lss (TT 32) (TT 31))]) (.seq (.cond (TT 33) .skip (.exit 0)) (.seq (.block 1 (.seq
 (.reg [OA 34 (.j5 6 (TT 30) (TT 32)), LL 35 6 34, OA 13 (.alloc 51 [.bool false, .string ⟨#[]⟩, .string ⟨#[]⟩, .bool false, .string ⟨#[]⟩, .string ⟨#[]⟩]), OB (.store 6 (TT 13) (TT 35))]) (.seq (.D6 [.q, .q, .q, .q, .q, .q,
 .q, .q, .q, .q, .q, .q, .q, .q, .q, .q, .a, .e (some 14) false] [FF 36 2 5, VV 37 36, MM 38 2, OA 39 (.j5 10 (TT 37) (TT 38)), LL 40 10 39, LL 41 6 13, OA 42 (.call 73 [TT 40, TT 41]), FF 43 3 4, VV 44 43, MM 45 3, OA 46
 (.j5 14 (TT 44) (TT 45)), FF 47 1 46, LL 48 10 47, LL 49 6 13, OA 50 (.call 73 [TT 48, TT 49]), OA 51 (.call 72 [TT 42, TT 50]), OA 14 (.alloc 51 [.bool false, .string ⟨#[]⟩, .string ⟨#[]⟩, .bool false, .string ⟨#[]⟩, .string
 ⟨#[]⟩]), OB (.store 6 (TT 14) (TT 51))]) (.D6 [.q, .q, .q, .q, .q, .q, .q, .q, .q, .e none false] [LL 52 3 11, FF 53 0 14, LL 54 3 53, OA 55 (.call 75 [TT 54]), FF 56 3 14, LL 57 3 56, OA 58 (.call 75 [TT 57]), OA 59 (.call 74
 [TT 55, TT 58]), OA 60 (.call 74 [TT 52, TT 59]), OB (.store 3 (TT 11) (TT 60))])))) (.reg [OA 61 (.bin .add (TT 32) (II 1)), MM 32 61]))))))) (.seq (.reg [LL 62 3 11, OB (.store 3 (TT 8) (TT 62)), OA 9 (.mv (II 0))]) .ret))))⟩
theorem b5z : l6 eff Tryz.prog Tryz.f13 = some a4X := by kernel_rfl
theorem b5Z : Tryz.prog.funcs[13]? = some Tryz.f13 := Tryz.func13
def a0I : p9 := ⟨69, [.tmp 6, .cell 7 true 3, .tmp 8], .seq (.reg [OA 3 (.box 31 (TT 0)), OA 4 (.box 37 (TT 1)), OA 6 (.mv (II 0)), OA 7 (.alloc 29 [.bool false, .string ⟨#[]⟩, .string ⟨#[]⟩]), OA 8 (.mv (II 0))]) (.seq (.seq (.reg [LL 15 8 3, LL
 16 5 4, OA 17 (.call 38 [TT 15, TT 16]), MM 9 17]) (.seq (.reg [MM 18 9, OA 19 (.bin .neq (TT 18) (II 0))]) (.cond (TT 19) (.seq (.reg [OA 20 (.build [.bool false, .string ⟨#[]⟩, .string ⟨#[]⟩] []), MM 21 9, OA 6 (.mv (II 0)),
 OB (.store 3 (TT 7) (TT 20)), MM 8 21]) .ret) .skip))) (.seq (.seq (.reg [MM 22 2, OA 23 (.bin .lss (TT 22) (II 0)), MM 24 23, MG 25 2 24 false, FG 26 2 3 24 false, VG 27 26 24 false, OC 28 (.len false (TT 27)) 24 false, OC 29
 (.bin .geq (TT 25) (TT 28)) 24 false, OA 30 (.pick (TT 24) (.const (.bool true)) (TT 29))]) (.cond (TT 30) (.seq (.reg [OA 31 (.build [.bool false, .string ⟨#[]⟩, .string ⟨#[]⟩] []), OA 6 (.mv (II 0)), OB (.store 3 (TT 7) (TT
 31)), OA 8 (.mv (II 1))]) .ret) .skip)) (.seq (.seq (.reg [FF 32 3 3, VV 33 32, OA 34 (.len false (TT 33)), OA 35 (.bin .eql (TT 34) (II 0))]) (.cond (TT 35) (.seq (.reg [OA 36 (.build [.bool false, .string ⟨#[]⟩, .string ⟨#[]⟩]
 []), OA 6 (.mv (II 0)), OB (.store 3 (TT 7) (TT 36)), OA 8 (.mv (II 4))]) .ret) .skip)) (.seq (.reg [OA 37 (.call 71 [II 0]), OA 11 (.alloc 29 [.bool false, .string ⟨#[]⟩, .string ⟨#[]⟩]), OA 10 (.mv (II 0)), OB (.store 3 (TT
 11) (TT 37))]) (.seq (.seq (.reg [FF 38 3 3, VV 39 38, OA 40 (.len false (TT 39)), OA 41 (.mv (II 0))]) (.block 0 (.loop (.seq (.reg [OA 42 (.bin .lss (TT 41) (TT 40))]) (.seq (.cond (TT 42) .skip (.exit 0)) (.seq (.block 1
 (.seq (.reg [MM 43 41, MM 12 43]) (.seq (.reg [LL 45 8 3, LL 46 5 4, MM 47 2, MM 48 12, OA 49 (.call 13 [TT 45, TT 46, TT 47, TT 48]), MM 44 49, OA 50 (.ext (TT 44) 0), OA 51 (.ext (TT 44) 1), OA 13 (.alloc 29 [.bool false,
 .string ⟨#[]⟩, .string ⟨#[]⟩]), OB (.store 3 (TT 13) (TT 50)), MM 14 51]) (.seq (.seq (.reg [MM 52 14, OA 53 (.bin .neq (TT 52) (II 0))]) (.cond (TT 53) (.seq (.reg [OA 54 (.build [.bool false, .string ⟨#[]⟩, .string ⟨#[]⟩] []),
 MM 55 14, OA 6 (.mv (II 0)), OB (.store 3 (TT 7) (TT 54)), MM 8 55]) .ret) .skip)) (.seq (.reg [MM 56 12, OA 57 (.bin .eql (TT 56) (II 0)), MM 58 57, LG 59 3 13 58 false, LG 60 3 11 58 false, OC 61 (.call 52 [TT 59, TT 60]) 58
 false, OC 62 (.bin .lss (TT 61) (II 0)) 58 false, OA 63 (.pick (TT 58) (.const (.bool true)) (TT 62))]) (.cond (TT 63) (.D6 [.q, .q, .q, .e none false] [MM 64 12, LL 65 3 13, MM 10 64, OB (.store 3 (TT 11) (TT 65))])
 .skip)))))) (.reg [OA 66 (.bin .add (TT 41) (II 1)), MM 41 66]))))))) (.seq (.D6 [.q, .q, .q, .e none false, .q] [MM 67 10, LL 68 3 11, MM 6 67, OB (.store 3 (TT 7) (TT 68)), OA 8 (.mv (II 0))]) .ret))))))⟩
theorem b3L : l6 eff Tryz.prog Tryz.f14 = some a0I := by kernel_rfl
theorem b3s : Tryz.prog.funcs[14]? = some Tryz.f14 := Tryz.func14
def a6h : p9 := ⟨36, [.tmp 8], .seq (.reg [OA 4 (.box 31 (TT 0)), OA 5 (.box 37 (TT 1)), OA 8 (.mv (II 0))]) (.seq (.seq (.reg [LL 10 8 4, LL 11 5 5, OA 12 (.call 38 [TT 10, TT 11]), MM 9 12]) (.seq (.reg [MM 13 9, OA 14 (.bin .neq (TT 13) (II
 0))]) (.cond (TT 14) (.seq (.reg [MM 15 9, MM 8 15]) .ret) .skip))) (.seq (.seq (.reg [MM 16 2, OA 17 (.bin .lss (TT 16) (II 0)), MM 18 17, MG 19 2 18 false, FG 20 2 4 18 false, VG 21 20 18 false, OC 22 (.len false (TT 21)) 18
 false, OC 23 (.bin .geq (TT 19) (TT 22)) 18 false, OA 24 (.pick (TT 18) (.const (.bool true)) (TT 23)), MM 25 24, MG 26 3 25 false, OC 27 (.bin .lss (TT 26) (II 0)) 25 false, OA 28 (.pick (TT 25) (.const (.bool true)) (TT 27)),
 MM 29 28, MG 30 3 29 false, FG 31 3 4 29 false, VG 32 31 29 false, OC 33 (.len false (TT 32)) 29 false, OC 34 (.bin .geq (TT 30) (TT 33)) 29 false, OA 35 (.pick (TT 29) (.const (.bool true)) (TT 34))]) (.cond (TT 35) (.seq (.reg
 [OA 8 (.mv (II 1))]) .ret) .skip)) (.seq (.reg [OA 8 (.mv (II 0))]) .ret)))⟩
theorem b2I : l6 eff Tryz.prog Tryz.f70 = some a6h := by kernel_rfl
theorem b2Q : Tryz.prog.funcs[70]? = some Tryz.f70 := Tryz.func70
def Q9 : p9 := ⟨155, [.tmp 6], .seq (.reg [OA 6 (.mv (.const (.bool false)))]) (.seq (.reg [MM 21 0, OA 22 (.call 10 [TT 21]), MM 20 22, OA 23 (.ext (TT 20) 0), OA 24 (.ext (TT 20) 1), OA 25 (.ext (TT 20) 2), OA 7 (.alloc 31 [.slice none 0 0,
 .slice none 0 0, .slice none 0 0, .slice none 0 0, .slice none 0 0, .bool false, .string ⟨#[]⟩, .string ⟨#[]⟩]), OA 8 (.alloc 37 [.int .i64 0, .slice none 0 0, .slice none 0 0, .slice none 0 0, .slice none 0 0]), OB (.store 8
 (TT 7) (TT 23)), OB (.store 5 (TT 8) (TT 24)), MM 9 25]) (.seq (.seq (.reg [MM 26 9, OA 27 (.un .not (TT 26))]) (.cond (TT 27) (.seq (.reg [OA 6 (.mv (.const (.bool false)))]) .ret) .skip)) (.seq (.seq (.reg [FF 28 2 7, VV 29
 28, OA 30 (.len false (TT 29)), OA 31 (.bin .eql (TT 30) (II 0))]) (.cond (TT 31) (.seq (.reg [LL 33 8 7, LL 34 5 8, OA 35 (.call 11 [TT 33, TT 34, II 0, II 0]), MM 32 35, OA 36 (.ext (TT 32) 0), OA 37 (.ext (TT 32) 1), MM 10
 36, MM 11 37]) (.seq (.reg [MM 38 11, OA 39 (.bin .eql (TT 38) (II 1)), MM 6 39]) .ret)) .skip)) (.seq (.reg [MM 40 1, FF 41 2 7, VV 42 41, OA 43 (.len false (TT 42)), OA 44 (.call 12 [TT 40, TT 43]), MM 1 44]) (.seq (.reg [LL
 46 8 7, LL 47 5 8, MM 48 1, MM 49 1, OA 50 (.call 11 [TT 46, TT 47, TT 48, TT 49]), MM 45 50, OA 51 (.ext (TT 45) 0), OA 52 (.ext (TT 45) 1), MM 12 51, MM 13 52]) (.seq (.reg [LL 54 8 7, LL 55 5 8, MM 56 1, MM 57 1, OA 58 (.call
 13 [TT 54, TT 55, TT 56, TT 57]), MM 53 58, OA 59 (.ext (TT 53) 0), OA 60 (.ext (TT 53) 1), OA 14 (.alloc 29 [.bool false, .string ⟨#[]⟩, .string ⟨#[]⟩]), OB (.store 3 (TT 14) (TT 59)), MM 15 60]) (.seq (.reg [LL 62 8 7, LL 63 5
 8, MM 64 1, OA 65 (.call 14 [TT 62, TT 63, TT 64]), MM 61 65, OA 66 (.ext (TT 61) 0), OA 67 (.ext (TT 61) 1), OA 68 (.ext (TT 61) 2), OA 17 (.alloc 29 [.bool false, .string ⟨#[]⟩, .string ⟨#[]⟩]), MM 16 66, OB (.store 3 (TT 17)
 (TT 67)), MM 18 68]) (.seq (.seq (.reg [MM 69 13, OA 70 (.bin .neq (TT 69) (II 0)), MM 71 70, MG 72 15 71 false, OC 73 (.bin .neq (TT 72) (II 0)) 71 false, OA 74 (.pick (TT 71) (.const (.bool true)) (TT 73)), MM 75 74, MG 76 18
 75 false, OC 77 (.bin .neq (TT 76) (II 0)) 75 false, OA 78 (.pick (TT 75) (.const (.bool true)) (TT 77)), MM 79 78, MG 80 12 79 false, OC 81 (.un .not (TT 80)) 79 false, OA 82 (.pick (TT 79) (.const (.bool true)) (TT 81)), MM 83
 82, LG 84 3 14 83 false, OC 85 (.call 15 [TT 84]) 83 false, OC 86 (.bin .neq (TT 85) (II 0)) 83 false, OA 87 (.pick (TT 83) (.const (.bool true)) (TT 86)), MM 88 87, LG 89 3 17 88 false, OC 90 (.call 15 [TT 89]) 88 false, OC 91
 (.bin .neq (TT 90) (II 0)) 88 false, OA 92 (.pick (TT 88) (.const (.bool true)) (TT 91)), MM 93 92, MG 94 16 93 false, MG 95 1 93 false, OC 96 (.bin .gtr (TT 94) (TT 95)) 93 false, OA 97 (.pick (TT 93) (.const (.bool true)) (TT
 96))]) (.cond (TT 97) (.seq (.reg [OA 6 (.mv (.const (.bool false)))]) .ret) .skip)) (.seq (.D6 [.q, .q, .q, .q, .q, .q, .q, .q, .q, .q, .q, .a, .e (some 19) false] [FF 98 3 7, VV 99 98, MM 100 1, OA 101 (.j5 14 (TT 99) (TT
 100)), FF 102 11 101, LL 103 3 102, MM 104 2, OA 105 (.call 12 [TT 104, II 50]), OA 106 (.bin .add (II 1) (TT 105)), OA 107 (.call 17 [TT 106, II 100]), OA 108 (.call 16 [TT 103, TT 107]), OA 19 (.alloc 29 [.bool false, .string
 ⟨#[]⟩, .string ⟨#[]⟩]), OB (.store 3 (TT 19) (TT 108))]) (.seq (.D6 [.q, .q, .q, .q, .q, .q, .q, .q, .q, .q, .q, .q, .q, .q, .q, .e none false] [FF 109 2 8, VV 110 109, MM 111 1, FF 112 2 8, VV 113 112, MM 114 1, OA 115
 (.j5 10 (TT 113) (TT 114)), FF 116 0 115, FF 117 0 116, LL 118 3 117, LL 119 3 19, OA 120 (.call 16 [TT 118, TT 119]), OA 121 (.j5 10 (TT 110) (TT 111)), FF 122 0 121, FF 123 0 122, OB (.store 3 (TT 123) (TT 120))]) (.seq
 (.reg [LL 125 8 7, LL 126 5 8, MM 127 1, MM 128 1, OA 129 (.call 11 [TT 125, TT 126, TT 127, TT 128]), MM 124 129, OA 130 (.ext (TT 124) 0), OA 131 (.ext (TT 124) 1), MM 12 130, MM 13 131]) (.seq (.reg [LL 133 8 7, LL 134 5 8,
 MM 135 1, MM 136 1, OA 137 (.call 13 [TT 133, TT 134, TT 135, TT 136]), MM 132 137, OA 138 (.ext (TT 132) 0), OA 139 (.ext (TT 132) 1), OB (.store 3 (TT 14) (TT 138)), MM 15 139]) (.seq (.reg [MM 140 13, OA 141 (.bin .eql (TT
 140) (II 0)), MM 142 141, MG 143 15 142 true, OC 144 (.bin .eql (TT 143) (II 0)) 142 true, OA 145 (.pick (TT 142) (TT 144) (.const (.bool false))), MM 146 145, MG 147 12 146 true, OC 148 (.un .not (TT 147)) 146 true, OA 149
 (.pick (TT 146) (TT 148) (.const (.bool false))), MM 150 149, LG 151 3 14 150 true, LG 152 3 19 150 true, OC 153 (.aeq false [.b, .s, .s] (TT 151) (TT 152)) 150 true, OA 154 (.pick (TT 150) (TT 153) (.const (.bool false))), MM 6
 154]) .ret)))))))))))))⟩
theorem a4C : l6 eff Tryz.prog Tryz.f3 = some Q9 := by kernel_rfl
theorem a4D : Tryz.prog.funcs[3]? = some Tryz.f3 := Tryz.func3
end Go.Proofs.YtogfpjohjphngaaGreatDoor
namespace Go.Proofs.YtogfpjohjphngaaGreatDoor
set_option linter.all false
open Go Go.RowKit Eng
set_option maxRecDepth 10000
set_option maxHeartbeats 4000000
theorem b4C {k : Nat} {t : Rat} (h : Bool) (ht : Rb k (Nm.ofQ t)) : Rb (4 * k + 18) (Nm.ofQ (U1 h t)) := by
 unfold U1
 have h1 := M7 ht ht
 have h2 := Z8 a1s h1
 have h3 := a0e a1s h1
 cases h
 ·exact (b8I (b0s t) h2 h3).mono (by omega)
 ·exact (b1n a1s).mono (by omega)
theorem b3b {k : Nat} {t : Rat} (ht : Rb k (Nm.ofQ t)) : Rb (4 * k + 18) (Nm.ofQ (U3 t)) := by
 unfold U3
 exact (b8I (b0s t) (a0e ht ht) (a0e a1s (M7 ht ht))).mono (by omega)
theorem c1r (a b t : Nm.Rt) (h : Bool) (ha : Rb 1048576 a) (hb : Rb 1048576 b) (ht : Rb 1048576 t) :
  FZ 180 [vc a b, tc h t] (vq (Nm.j3 a * U1 h (F9 h t) - Nm.j3 b * U3 (F9 h t)) (Nm.j3 a * U3 (F9 h t) + Nm.j3 b * U1 h (F9 h t))) := by
 refine q8.of b5S b4Z (by exact Nat.le_of_ble_eq_true rfl) fun w O hw => ?_
 have k1 := c2U h t (ht.mono (by decide))
 have k2 := c2t h t (ht.mono (by decide))
 have ft := a7R (h := h) ht (by decide)
 have rc1 := b4C h ft
 have rs1 := b3b ft
 have fa := ha.fit (by decide)
 have fb := hb.fit (by decide)
 have m1 := a6P a (Nm.ofQ (U1 h (F9 h t))) (ha.mono (by decide)) (rc1.mono (by decide))
 have m2 := a6P b (Nm.ofQ (U3 (F9 h t))) (hb.mono (by decide)) (rs1.mono (by decide))
 have m3 := a6P a (Nm.ofQ (U3 (F9 h t))) (ha.mono (by decide)) (rs1.mono (by decide))
 have m4 := a6P b (Nm.ofQ (U1 h (F9 h t))) (hb.mono (by decide)) (rc1.mono (by decide))
 simp only [Nm.G9] at m1 m2 m3 m4
 have s1 := a9z (Nm.ofQ (Nm.j3 a * U1 h (F9 h t))) (Nm.ofQ (Nm.j3 b * U3 (F9 h t))) ((M7 fa rc1).mono (by decide)) ((M7 fb rs1).mono (by decide))
 have s2 := a3M (Nm.ofQ (Nm.j3 a * U3 (F9 h t))) (Nm.ofQ (Nm.j3 b * U1 h (F9 h t))) ((M7 fa rs1).mono (by decide)) ((M7 fb rc1).mono (by decide))
 simp only [Nm.G9] at s1 s2
 unfold vq rq at *
 generalize Nm.ofQ (Nm.j3 a * U1 h (F9 h t) - Nm.j3 b * U3 (F9 h t)) = r1 at *
 generalize Nm.ofQ (Nm.j3 a * U3 (F9 h t) + Nm.j3 b * U1 h (F9 h t)) = r2 at *
 generalize Nm.ofQ (Nm.j3 a * U1 h (F9 h t)) = p1 at *
 generalize Nm.ofQ (Nm.j3 b * U3 (F9 h t)) = p2 at *
 generalize Nm.ofQ (Nm.j3 a * U3 (F9 h t)) = p3 at *
 generalize Nm.ofQ (Nm.j3 b * U1 h (F9 h t)) = p4 at *
 generalize Nm.ofQ (U1 h (F9 h t)) = c at *
 generalize Nm.ofQ (U3 (F9 h t)) = s at *
 simp only [a8t, l9, TT, II, OA, OB, OC, MM, LL, VV, FF, MG, LG, VG, FG]
 simp only [rc, vc, tc, sb] at *
 (repeat first | refine uA ?_ | (apply S.exit; exact rfl) | ((with_reducible refine And.intro ?_ ?_); focus first | omega | trivial | exact id | (intros; simp_all <;> omega)) | simp (disch := omega) only [go_sem, Nat.reduceBEq, Nat.reduceAdd, Nat.reduceLeDiff, Int.reduceToNat, Int.reducePow, ww] | (refine uD k1 ?_ ?_ ?_; exact tz hw; exact rfl) | (refine uD k2 ?_ ?_ ?_; exact tz hw; exact rfl) | (refine uD m1 ?_ ?_ ?_; exact tz hw; exact rfl) | (refine uD m2 ?_ ?_ ?_; exact tz hw; exact rfl) | (refine uD m3 ?_ ?_ ?_; exact tz hw; exact rfl) | (refine uD m4 ?_ ?_ ?_; exact tz hw; exact rfl) | (refine uD s1 ?_ ?_ ?_; exact tz hw; exact rfl) | (refine uD s2 ?_ ?_ ?_; exact tz hw; exact rfl))
 (refine S.done ?_; simp only [x9, u6, go_sem, Nat.reduceBEq, Nat.reduceAdd, Nat.reduceLeDiff, Int.reduceToNat, Int.reducePow]; (repeat (refine ⟨?_, ?_⟩; focus first | trivial | omega | simp)); exact d9.out rfl (Imp.refl rfl) rfl)
end Go.Proofs.YtogfpjohjphngaaGreatDoor
namespace Go.Proofs.YtogfpjohjphngaaGreatDoor
set_option linter.all false
open Go Go.RowKit Eng
set_option maxRecDepth 10000
set_option maxHeartbeats 4000000
structure Vt where
 x : Nm.Rt
 y : Nm.Rt
def Vt.enc (v : Vt) : List C := [.v (.bool v.x.neg), sb v.x.num, sb v.x.den, .v (.bool v.y.neg), sb v.y.num, sb v.y.den]
def Vt.c (v : Vt) : C := .agg v.enc
def Vt.zero : Vt := ⟨⟨false, [], []⟩, ⟨false, [], []⟩⟩
def Vb (k : Nat) (v : Vt) : Prop := Rb k v.x /\ Rb k v.y
theorem Vb.mono {k m : Nat} {v : Vt} (h : Vb k v) (hm : k <= m) : Vb m v := ⟨h.1.mono hm, h.2.mono hm⟩
theorem c0p (a b c d : Rat) (ha : Rb 4294967296 (Nm.ofQ a)) (hb : Rb 4294967296 (Nm.ofQ b)) (hc : Rb 4294967296 (Nm.ofQ c)) (hd : Rb 4294967296 (Nm.ofQ d)) :
  FZ 263 [vq a b, vq c d] (rq (a * d - b * c)) := by
 refine q8.of b4z b3R (by exact Nat.le_of_ble_eq_true rfl) fun w O hw => ?_
 have h1 := b2T a d (ha.mono (by decide)) (hd.mono (by decide))
 have h2 := b2T b c (hb.mono (by decide)) (hc.mono (by decide))
 have h3 := c1c (a * d) (b * c) ((M7 ha hd).mono (by decide)) ((M7 hb hc).mono (by decide))
 unfold vq rq at *
 generalize Nm.ofQ (a * d - b * c) = r3 at *
 generalize Nm.ofQ (a * d) = r1 at *
 generalize Nm.ofQ (b * c) = r2 at *
 generalize Nm.ofQ a = ra at *
 generalize Nm.ofQ b = rb at *
 generalize Nm.ofQ c = r at *
 generalize Nm.ofQ d = rd at *
 simp only [a6J, l9, TT, II, OA, OB, OC, MM, LL, VV, FF, MG, LG, VG, FG]
 simp only [rc, vc, sb] at *
 (repeat first | refine uA ?_ | (apply S.exit; exact rfl) | ((with_reducible refine And.intro ?_ ?_); focus first | omega | trivial | exact id | (intros; simp_all <;> omega)) | simp (disch := omega) only [go_sem, Nat.reduceBEq, Nat.reduceAdd, Nat.reduceLeDiff, Int.reduceToNat, Int.reducePow, ww] | (refine uD h1 ?_ ?_ ?_; exact tz hw; exact rfl) | (refine uD h2 ?_ ?_ ?_; exact tz hw; exact rfl) | (refine uD h3 ?_ ?_ ?_; exact tz hw; exact rfl))
 (refine S.done ?_; simp only [x9, u6, go_sem, Nat.reduceBEq, Nat.reduceAdd, Nat.reduceLeDiff, Int.reduceToNat, Int.reducePow]; (repeat (refine ⟨?_, ?_⟩; focus first | trivial | omega | simp)); exact d9.out rfl (Imp.refl rfl) rfl)
def a7B (a b c : Vt) : Int := J2 ((Nm.j3 b.x - Nm.j3 a.x) * (Nm.j3 c.y - Nm.j3 a.y) - (Nm.j3 b.y - Nm.j3 a.y) * (Nm.j3 c.x - Nm.j3 a.x))
theorem c2W (a b c : Vt) (ha : Vb 1073741824 a) (hb : Vb 1073741824 b) (hc : Vb 1073741824 c) : FZ 251 [a.c, b.c, c.c] (ints (a7B a b c)) := by
 refine q8.of b3e b4M (by exact Nat.le_of_ble_eq_true rfl) fun w O hw => ?_
 have h1 := b3N b.x b.y a.x a.y (hb.1.mono (by decide)) (hb.2.mono (by decide)) (ha.1.mono (by decide)) (ha.2.mono (by decide))
 have h2 := b3N c.x c.y a.x a.y (hc.1.mono (by decide)) (hc.2.mono (by decide)) (ha.1.mono (by decide)) (ha.2.mono (by decide))
 have g1 := Z8 (hb.1.fit (by decide)) (ha.1.fit (by decide))
 have g2 := Z8 (hb.2.fit (by decide)) (ha.2.fit (by decide))
 have g3 := Z8 (hc.1.fit (by decide)) (ha.1.fit (by decide))
 have g4 := Z8 (hc.2.fit (by decide)) (ha.2.fit (by decide))
 unfold a7B
 generalize Nm.j3 b.x - Nm.j3 a.x = p1 at *
 generalize Nm.j3 b.y - Nm.j3 a.y = p2 at *
 generalize Nm.j3 c.x - Nm.j3 a.x = p3 at *
 generalize Nm.j3 c.y - Nm.j3 a.y = p4 at *
 have h3 := c0p p1 p2 p3 p4 (g1.mono (by decide)) (g2.mono (by decide)) (g3.mono (by decide)) (g4.mono (by decide))
 have g5 := Z8 (M7 g1 g4) (M7 g2 g3)
 have h4 := a0u (Nm.ofQ (p1 * p4 - p2 * p3)) (g5.mono (by decide))
 rw [Nm.G9] at h4
 generalize p1 * p4 - p2 * p3 = p5 at *
 unfold vq rq at *
 generalize Nm.ofQ p1 = r1 at *
 generalize Nm.ofQ p2 = r2 at *
 generalize Nm.ofQ p3 = r3 at *
 generalize Nm.ofQ p4 = r4 at *
 generalize Nm.ofQ p5 = r5 at *
 simp only [a7s, l9, TT, II, OA, OB, OC, MM, LL, VV, FF, MG, LG, VG, FG]
 simp only [rc, vc, sb, Vt.c, Vt.enc] at *
 (repeat first | refine uA ?_ | (apply S.exit; exact rfl) | ((with_reducible refine And.intro ?_ ?_); focus first | omega | trivial | exact id | (intros; simp_all <;> omega)) | simp (disch := omega) only [go_sem, Nat.reduceBEq, Nat.reduceAdd, Nat.reduceLeDiff, Int.reduceToNat, Int.reducePow, ww] | (refine uD h1 ?_ ?_ ?_; exact tz hw; exact rfl) | (refine uD h2 ?_ ?_ ?_; exact tz hw; exact rfl) | (refine uD h3 ?_ ?_ ?_; exact tz hw; exact rfl) | (refine uD h4 ?_ ?_ ?_; exact tz hw; exact rfl))
 (refine S.done ?_; simp only [x9, u6, go_sem, Nat.reduceBEq, Nat.reduceAdd, Nat.reduceLeDiff, Int.reduceToNat, Int.reducePow]; (repeat (refine ⟨?_, ?_⟩; focus first | trivial | omega | simp)); exact d9.out rfl (Imp.refl rfl) rfl)
end Go.Proofs.YtogfpjohjphngaaGreatDoor
namespace Go.Proofs.YtogfpjohjphngaaGreatDoor
set_option linter.all false
open Go Go.RowKit Eng
def G6 {α : Type} (f : α -> Int) : List α -> Int
 | [] => 0
 | x :: r => if f x = 0 then G6 f r else f x
def C8 {α σ : Type} (f : σ -> α -> Int × σ) : σ -> List α -> Int × σ
 | s, [] => (0, s)
 | s, x :: r => if (f s x).1 = 0 then C8 f (f s x).2 r else f s x
theorem drop_at {α : Type} {l : List α} {i : Nat} {x : α} (h : l[i]? = some x) : l.drop i = x :: l.drop (i + 1) := by
 obtain ⟨hi, rfl⟩ := List.getElem?_eq_some_iff.1 h
 exact List.drop_eq_getElem_cons hi
theorem a1p {α : Type} {f : α -> Int} {l : List α} {i : Nat} {x : α} (h : l[i]? = some x) (h0 : f x ≠ 0) : G6 f (l.drop i) = f x := by
 rw [drop_at h, G6, if_neg h0]
theorem a1l {α : Type} {f : α -> Int} {l : List α} {i : Nat} {x : α} (h : l[i]? = some x) (h0 : f x = 0) : G6 f (l.drop i) = G6 f (l.drop (i + 1)) := by
 rw [drop_at h, G6, if_pos h0]
theorem a1V {α : Type} {f : α -> Int} {l : List α} {i : Nat} (h : l.length <= i) : G6 f (l.drop i) = 0 := by
 rw [List.drop_eq_nil_of_le h, G6]
theorem a2a {α σ : Type} {f : σ -> α -> Int × σ} {s : σ} {l : List α} {i : Nat} {x : α} (h : l[i]? = some x) (h0 : (f s x).1 ≠ 0) : C8 f s (l.drop i) = f s x := by
 rw [drop_at h, C8, if_neg h0]
theorem a2c {α σ : Type} {f : σ -> α -> Int × σ} {s : σ} {l : List α} {i : Nat} {x : α} (h : l[i]? = some x) (h0 : (f s x).1 = 0) : C8 f s (l.drop i) = C8 f (f s x).2 (l.drop (i + 1)) := by
 rw [drop_at h, C8, if_pos h0]
theorem a2Q {α σ : Type} {f : σ -> α -> Int × σ} {s : σ} {l : List α} {i : Nat} (h : l.length <= i) : C8 f s (l.drop i) = (0, s) := by
 rw [List.drop_eq_nil_of_le h, C8]
structure Fr where
 x : Nm.Rt
 y : Nm.Rt
 half : Bool
 t : Nm.Rt
structure Lk where
 length : Nm.Rt
 low : Nm.Rt
 high : Nm.Rt
 speed : Nm.Rt
 brake : Nm.Rt
 shape : List Vt
structure Am where
 name : List UInt8
 base : Fr
 links : List Lk
structure Pt where
 name : List UInt8
 shape : List Vt
 grasp : Fr
structure Sl where
 name : List UInt8
 frame : Fr
 within : Nm.Rt
structure Gt where
 name : List UInt8
 low : Vt
 high : Vt
structure Wk where
 arms : List Am
 walls : List (List Vt)
 parts : List Pt
 slots : List Sl
 gates : List Gt
 walk : Nm.Rt
def rcs (a : Nm.Rt) : List C := [.v (.bool a.neg), sb a.num, sb a.den]
def Fr.enc (f : Fr) : List C := [.v (.bool f.x.neg), sb f.x.num, sb f.x.den, .v (.bool f.y.neg), sb f.y.num, sb f.y.den, .v (.bool f.half), .v (.bool f.t.neg), sb f.t.num, sb f.t.den]
def Fr.c (f : Fr) : C := .agg f.enc
def vts (l : List Vt) : C := .sl 6 (l.map Vt.enc)
def Lk.enc (l : Lk) : List C := [.v (.bool l.length.neg), sb l.length.num, sb l.length.den, .v (.bool l.low.neg), sb l.low.num, sb l.low.den, .v (.bool l.high.neg), sb l.high.num, sb l.high.den, .v (.bool l.speed.neg), sb l.speed.num, sb l.speed.den, .v (.bool l.brake.neg), sb l.brake.num, sb l.brake.den, vts l.shape]
def Lk.c (l : Lk) : C := .agg l.enc
def lks (l : List Lk) : C := .sl 16 (l.map Lk.enc)
def Am.enc (a : Am) : List C := [sb a.name, .v (.bool a.base.x.neg), sb a.base.x.num, sb a.base.x.den, .v (.bool a.base.y.neg), sb a.base.y.num, sb a.base.y.den, .v (.bool a.base.half), .v (.bool a.base.t.neg), sb a.base.t.num, sb a.base.t.den, lks a.links]
def Am.c (a : Am) : C := .agg a.enc
def ams (l : List Am) : C := .sl 12 (l.map Am.enc)
def Pt.enc (p : Pt) : List C := [sb p.name, vts p.shape, .v (.bool p.grasp.x.neg), sb p.grasp.x.num, sb p.grasp.x.den, .v (.bool p.grasp.y.neg), sb p.grasp.y.num, sb p.grasp.y.den, .v (.bool p.grasp.half), .v (.bool p.grasp.t.neg), sb p.grasp.t.num, sb p.grasp.t.den]
def Pt.c (p : Pt) : C := .agg p.enc
def pts (l : List Pt) : C := .sl 12 (l.map Pt.enc)
def Sl.enc (s : Sl) : List C := [sb s.name, .v (.bool s.frame.x.neg), sb s.frame.x.num, sb s.frame.x.den, .v (.bool s.frame.y.neg), sb s.frame.y.num, sb s.frame.y.den, .v (.bool s.frame.half), .v (.bool s.frame.t.neg), sb s.frame.t.num, sb s.frame.t.den, .v (.bool s.within.neg), sb s.within.num, sb s.within.den]
def Sl.c (s : Sl) : C := .agg s.enc
def sls (l : List Sl) : C := .sl 14 (l.map Sl.enc)
def Gt.enc (g : Gt) : List C := [sb g.name, .v (.bool g.low.x.neg), sb g.low.x.num, sb g.low.x.den, .v (.bool g.low.y.neg), sb g.low.y.num, sb g.low.y.den, .v (.bool g.high.x.neg), sb g.high.x.num, sb g.high.x.den, .v (.bool g.high.y.neg), sb g.high.y.num, sb g.high.y.den]
def Gt.c (g : Gt) : C := .agg g.enc
def gts (l : List Gt) : C := .sl 13 (l.map Gt.enc)
def wls (l : List (List Vt)) : C := .sl 1 (l.map fun s => [vts s])
def Wk.enc (w : Wk) : List C := [ams w.arms, wls w.walls, pts w.parts, sls w.slots, gts w.gates, .v (.bool w.walk.neg), sb w.walk.num, sb w.walk.den]
def Wk.c (w : Wk) : C := .agg w.enc
def Fb (k : Nat) (f : Fr) : Prop := Rb k f.x /\ Rb k f.y /\ Rb k f.t
def Vbs (k : Nat) (l : List Vt) : Prop := l.length <= k /\ ∀ v ∈ l, Vb k v
def Lb (k : Nat) (l : Lk) : Prop := Rb k l.length /\ Rb k l.low /\ Rb k l.high /\ Rb k l.speed /\ Rb k l.brake /\ Vbs k l.shape
def Ab (k : Nat) (a : Am) : Prop := a.name.length <= k /\ Fb k a.base /\ a.links.length <= k /\ ∀ l ∈ a.links, Lb k l
def Pb (k : Nat) (p : Pt) : Prop := p.name.length <= k /\ Vbs k p.shape /\ Fb k p.grasp
def Sb (k : Nat) (s : Sl) : Prop := s.name.length <= k /\ Fb k s.frame /\ Rb k s.within
def Gb (k : Nat) (g : Gt) : Prop := g.name.length <= k /\ Vb k g.low /\ Vb k g.high
structure Wb (k : Nat) (w : Wk) : Prop where
 arms : w.arms.length <= k /\ ∀ x ∈ w.arms, Ab k x
 walls : w.walls.length <= k /\ ∀ x ∈ w.walls, Vbs k x
 parts : w.parts.length <= k /\ ∀ x ∈ w.parts, Pb k x
 slots : w.slots.length <= k /\ ∀ x ∈ w.slots, Sb k x
 gates : w.gates.length <= k /\ ∀ x ∈ w.gates, Gb k x
 walk : Rb k w.walk
def a0S (s : List UInt8) : Bool := (s.all fun b => decide (97 <= b.toNat) && decide (b.toNat <= 122)) && decide (1 <= s.length) && decide (s.length <= 12)
def a2h (l : List Vt) (i k : Nat) : Int := a7B (l.getD i Vt.zero) (l.getD ((i + 1) % l.length) Vt.zero) (l.getD ((i + k) % l.length) Vt.zero)
def P7 (l : List Vt) (most : Nat) : Int :=
 if most < l.length then 2 else if l.length < 3 then 3 else
 if (List.range l.length).all fun i => (List.range l.length).all fun k => decide (k < 2) || decide (0 < a2h l i k) then 0 else 3
def a4k (h : Bool) (t : Nm.Rt) : Bool := h && !decide (J2 (Nm.j3 t) = 0)
def X9 (l : Lk) : Int :=
 if (p8 l.length && p8 l.low && p8 l.high && p8 l.speed && p8 l.brake) = false \/ J2 (Nm.j3 l.length) <= 0 \/ 0 <= Nm.G5 (Nm.j3 l.low) (Nm.j3 l.high) then 1 else
 if J2 (Nm.j3 l.speed) <= 0 \/ J2 (Nm.j3 l.brake) <= 0 then 1 else
 if P7 l.shape 8 ≠ 0 then P7 l.shape 8 else
 if (l.shape.all fun v => p8 v.x && p8 v.y) then 0 else 1
def V3 (a : Am) : Int :=
 if a0S a.name = false then 3 else
 if 3 < a.links.length then 2 else
 if a.links.length = 0 \/ (p8 a.base.x && p8 a.base.y && p8 a.base.t) = false \/ a4k a.base.half a.base.t = true then 1 else
 G6 X9 a.links
def a3o (a : Am) (q : List Nm.Rt) : Int :=
 if V3 a ≠ 0 then V3 a else if q.length ≠ a.links.length then 1 else
 G6 (fun x : Lk × Nm.Rt => if Nm.G5 (Nm.j3 x.2) (Nm.j3 x.1.low) < 0 \/ 0 < Nm.G5 (Nm.j3 x.2) (Nm.j3 x.1.high) then 17 else 0) (a.links.zip q)
abbrev Nms := List (List UInt8)
def J9 (n : Nms) (s : List UInt8) : Int × Nms := if a0S s = false then (3, n) else if n.contains s then (5, n) else (0, n ++ [s])
def okV (v : Vt) : Bool := decide v.x.H7 && decide v.y.H7 && p8 v.x && p8 v.y
def okF (f : Fr) : Bool := okV ⟨f.x, f.y⟩ && decide f.t.H7 && p8 f.t && !a4k f.half f.t
def J6 (l : List Vt) : Int := if P7 l 8 ≠ 0 then P7 l 8 else if l.all okV then 0 else 1
def a1B (n : Nms) (a : Am) : Int × Nms := if V3 a ≠ 0 then (V3 a, n) else J9 n a.name
def a0j (n : Nms) (p : Pt) : Int × Nms :=
 if (J9 n p.name).1 ≠ 0 then J9 n p.name else
 if J6 p.shape ≠ 0 then (J6 p.shape, (J9 n p.name).2) else
 (if okF p.grasp then 0 else 1, (J9 n p.name).2)
def a0l (n : Nms) (s : Sl) : Int × Nms :=
 if (J9 n s.name).1 ≠ 0 then J9 n s.name else
 (if okF s.frame && decide s.within.H7 && p8 s.within && decide (0 < J2 (Nm.j3 s.within)) then 0 else 1, (J9 n s.name).2)
def a0o (n : Nms) (g : Gt) : Int × Nms :=
 if (J9 n g.name).1 ≠ 0 then J9 n g.name else
 (if okV g.low && okV g.high && decide (Nm.G5 (Nm.j3 g.low.x) (Nm.j3 g.high.x) <= 0) && decide (Nm.G5 (Nm.j3 g.low.y) (Nm.j3 g.high.y) <= 0) then 0 else 1, (J9 n g.name).2)
def b2V (a : Nm.Rt) : Int := if decide a.H7 && p8 a && decide (0 <= J2 (Nm.j3 a)) then 0 else 1
def a6Y (w : Wk) : List Int :=
 let a := C8 a1B [] w.arms
 let p := C8 a0j a.2 w.parts
 let s := C8 a0l p.2 w.slots
 let g := C8 a0o s.2 w.gates
 [a.1, G6 J6 w.walls, p.1, s.1, g.1]
def a1o (w : Wk) : Int :=
 if 4 < w.arms.length \/ 10 < w.walls.length \/ 6 < w.parts.length \/ 8 < w.slots.length \/ 4 < w.gates.length then 2 else
 if w.arms.length = 0 then 4 else
 if G6 id (a6Y w) ≠ 0 then G6 id (a6Y w) else b2V w.walk
def nmE (n : Nms) : List (Value × Value) := n.map fun s => (.string (bs s), .bool true)
theorem c1D (n : Nms) (s : List UInt8) : a0C (.string (bs s)) (nmE n) = if n.contains s then some (.bool true) else none := by
 induction n with
 | nil => rfl
 | cons a n ih =>
  simp only [nmE, List.map_cons, a0C, a0D]
  simp only [nmE] at ih
  rw [ih]
  by_cases h : s = a
  ·subst h; simp
  ·have h1 : ¬ bs s = bs a := fun e => h (b3f e)
   have h2 : (s == a) = false := by simpa using h
   rw [List.contains_cons]
   simp only [h2, Bool.false_or, decide_eq_false h1, Bool.false_eq_true, if_false]
theorem c2T (n : Nms) (s : List UInt8) (h : n.contains s = false) : a0y (.string (bs s)) (.bool true) (nmE n) = nmE (n ++ [s]) := by
 induction n with
 | nil => rfl
 | cons a n ih =>
  rw [List.contains_cons, Bool.or_eq_false_iff] at h
  have h1 : ¬ bs s = bs a := fun e => by have := b3f e; subst this; simp at h
  have h3 := ih h.2
  simp only [nmE, List.map_cons, List.cons_append, a0y, a0D, decide_eq_false h1, Bool.false_eq_true, if_false] at h3 ⊢
  rw [h3]
end Go.Proofs.YtogfpjohjphngaaGreatDoor
namespace Go.Proofs.YtogfpjohjphngaaGreatDoor
set_option linter.all false
open Go Go.RowKit Eng
set_option maxRecDepth 10000
set_option maxHeartbeats 4000000
def a3c (f : Fr) (c : Vt) : Rat := Nm.j3 f.x + (Nm.j3 c.x * U1 f.half (F9 f.half f.t) - Nm.j3 c.y * U3 (F9 f.half f.t))
def a3d (f : Fr) (c : Vt) : Rat := Nm.j3 f.y + (Nm.j3 c.x * U3 (F9 f.half f.t) + Nm.j3 c.y * U1 f.half (F9 f.half f.t))
theorem c0V (f : Fr) (c : Vt) (hx : Rb 1048576 f.x) (hy : Rb 1048576 f.y) (ht : Rb 1048576 f.t) (ha : Rb 1048576 c.x) (hb : Rb 1048576 c.y) :
  FZ 73 [f.c, c.c] (vq (a3c f c) (a3d f c)) := by
 refine q8.of b4I b3J (by exact Nat.le_of_ble_eq_true rfl) fun w O hw => ?_
 obtain ⟨x, y, h, t⟩ := f
 obtain ⟨a, b⟩ := c
 simp only at hx hy ht ha hb
 have k1 := c1r a b t h ha hb ht
 have ft := a7R (h := h) ht (by decide)
 have rc1 := b4C h ft
 have rs1 := b3b ft
 have fa := ha.fit (by decide)
 have fb := hb.fit (by decide)
 have k2 := c2w x y (Nm.ofQ (Nm.j3 a * U1 h (F9 h t) - Nm.j3 b * U3 (F9 h t))) (Nm.ofQ (Nm.j3 a * U3 (F9 h t) + Nm.j3 b * U1 h (F9 h t))) (hx.mono (by decide)) (hy.mono (by decide)) ((Z8 (M7 fa rc1) (M7 fb rs1)).mono (by decide)) ((a0e (M7 fa rs1) (M7 fb rc1)).mono (by decide))
 simp only [Nm.G9] at k2
 unfold a3c a3d
 simp only
 unfold vq at *
 generalize Nm.ofQ (Nm.j3 x + (Nm.j3 a * U1 h (F9 h t) - Nm.j3 b * U3 (F9 h t))) = r1 at *
 generalize Nm.ofQ (Nm.j3 y + (Nm.j3 a * U3 (F9 h t) + Nm.j3 b * U1 h (F9 h t))) = r2 at *
 generalize Nm.ofQ (Nm.j3 a * U1 h (F9 h t) - Nm.j3 b * U3 (F9 h t)) = p1 at *
 generalize Nm.ofQ (Nm.j3 a * U3 (F9 h t) + Nm.j3 b * U1 h (F9 h t)) = p2 at *
 simp only [a6Z, l9, TT, II, OA, OB, OC, MM, LL, VV, FF, MG, LG, VG, FG]
 simp only [Fr.c, Fr.enc, Vt.c, Vt.enc, vc, tc, sb] at *
 (repeat first | refine uA ?_ | (apply S.exit; exact rfl) | ((with_reducible refine And.intro ?_ ?_); focus first | omega | trivial | exact id | (intros; simp_all <;> omega)) | simp (disch := omega) only [go_sem, Nat.reduceBEq, Nat.reduceAdd, Nat.reduceLeDiff, Int.reduceToNat, Int.reducePow, ww] | (refine uD k1 ?_ ?_ ?_; exact tz hw; exact rfl) | (refine uD k2 ?_ ?_ ?_; exact tz hw; exact rfl))
 (refine S.done ?_; simp only [x9, u6, go_sem, Nat.reduceBEq, Nat.reduceAdd, Nat.reduceLeDiff, Int.reduceToNat, Int.reducePow]; (repeat (refine ⟨?_, ?_⟩; focus first | trivial | omega | simp)); exact d9.out rfl (Imp.refl rfl) rfl)
end Go.Proofs.YtogfpjohjphngaaGreatDoor
namespace Go.Proofs.YtogfpjohjphngaaGreatDoor
set_option linter.all false
open Go Go.RowKit Eng
structure Ast where
 q : List Nm.Rt
 v : List Nm.Rt
 power : Bool
 holds : Int
structure Stt where
 tick : Int
 arms : List Ast
 parts : List Fr
 people : List Vt
 gates : List Bool
def rts (l : List Nm.Rt) : C := .sl 3 (l.map rcs)
def Ast.enc (x : Ast) : List C := [rts x.q, rts x.v, .v (.bool x.power), ints x.holds]
def Ast.c (x : Ast) : C := .agg x.enc
def U2 (l : List Ast) : C := .sl 4 (l.map Ast.enc)
def frs (l : List Fr) : C := .sl 10 (l.map Fr.enc)
def bls (l : List Bool) : C := .sl 1 (l.map fun b => [.v (.bool b)])
def Stt.enc (s : Stt) : List C := [ints s.tick, U2 s.arms, frs s.parts, vts s.people, bls s.gates]
def Stt.c (s : Stt) : C := .agg s.enc
def Rbs (k : Nat) (l : List Nm.Rt) : Prop := l.length <= k /\ ∀ a ∈ l, Rb k a
def Asb (k : Nat) (x : Ast) : Prop := Rbs k x.q /\ Rbs k x.v
structure Stb (k : Nat) (s : Stt) : Prop where
 arms : s.arms.length <= k /\ ∀ x ∈ s.arms, Asb k x
 parts : s.parts.length <= k /\ ∀ x ∈ s.parts, Fb k x
 people : Vbs k s.people
 gates : s.gates.length <= k
def V6 (q : Rat) : Rat := if q.num < 0 then -q else q
def a1h (x : Lk × Nm.Rt) : Int := if 0 < Nm.G5 (V6 (Nm.j3 x.2)) (Nm.j3 x.1.speed) then 1 else 0
def M4 (a : Nm.Rt) : Bool := decide a.H7
def a6c (a : Am) (x : Ast) (parts : Nat) : Int :=
 if (x.q.all M4 && x.v.all M4) = false then 3 else
 if a3o a x.q ≠ 0 then a3o a x.q else
 if x.v.length ≠ a.links.length \/ x.holds < -1 \/ (parts : Int) <= x.holds then 1 else
 G6 a1h (a.links.zip x.v)
def a7L (h : List Int) (n : Int) : List Int := if h.contains n then h else h ++ [n]
def hdE (h : List Int) : List (Value × Value) := h.map fun n => (.int .i64 n, .bool true)
def a1P (parts : Nat) (h : List Int) (x : Am × Ast) : Int × List Int :=
 if a6c x.1 x.2 parts ≠ 0 then (a6c x.1 x.2 parts, h) else
 if (decide (0 <= x.2.holds) && h.contains x.2.holds) = true then (10, h) else (0, a7L h x.2.holds)
def Y8 (f : Fr) : Bool := (M4 f.x && M4 f.y && M4 f.t) && !a4k f.half f.t
def a7P (v : Vt) : Bool := M4 v.x && M4 v.y
def O4 (w : Wk) (s : Stt) : Int :=
 if a1o w ≠ 0 then a1o w else
 if 4 < s.people.length then 2 else
 if s.tick < 0 \/ 2000 < s.tick \/ s.arms.length ≠ w.arms.length \/ s.parts.length ≠ w.parts.length \/ s.gates.length ≠ w.gates.length then 1 else
 if (C8 (a1P w.parts.length) [] (w.arms.zip s.arms)).1 ≠ 0 then (C8 (a1P w.parts.length) [] (w.arms.zip s.arms)).1 else
 if s.parts.all Y8 && s.people.all a7P then 0 else 3
theorem c1y (h : List Int) (n : Int) : a0C (.int .i64 n) (hdE h) = if h.contains n then some (.bool true) else none := by
 induction h with
 | nil => rfl
 | cons a h ih =>
  simp only [hdE, List.map_cons, a0C, a0D]
  simp only [hdE] at ih
  rw [ih, List.contains_cons]
  by_cases e : n = a
  ·subst e; simp
  ·have e2 : (n == a) = false := by simpa using e
   simp only [e2, Bool.false_or, Bool.false_eq_true, if_false]
theorem c2z (h : List Int) (n : Int) : a0y (.int .i64 n) (.bool true) (hdE h) = hdE (a7L h n) := by
 induction h with
 | nil => rfl
 | cons a h ih =>
  unfold a7L at ih ⊢
  rw [List.contains_cons]
  by_cases e : n = a
  ·subst e
   simp [hdE, a0y, a0D]
  ·have e2 : (n == a) = false := by simpa using e
   simp only [hdE, List.map_cons, a0y, a0D, e2, Bool.false_or, Bool.false_eq_true, if_false]
   simp only [hdE] at ih
   rw [ih]
   split <;> simp [hdE]
def a1k (l : Lk) : Nm.Rt := Nm.ofQ (a0a (Nm.j3 l.low) (a2w (Nm.j3 l.high) 0))
def a0g (a : Am) : Ast := ⟨a.links.map a1k, a.links.map fun _ => Nm.ofQ 0, false, -1⟩
def a1u : Fr := ⟨Nm.ofQ 0, Nm.ofQ 0, false, Nm.ofQ 0⟩
def a3T (w : Wk) (i : Nat) : Fr := if h : i < w.slots.length then (w.slots[i]).frame else a1u
def F8 (w : Wk) : Stt := ⟨0, w.arms.map a0g, (List.range w.parts.length).map (a3T w), [], List.replicate w.gates.length false⟩
end Go.Proofs.YtogfpjohjphngaaGreatDoor
namespace Go.Proofs.YtogfpjohjphngaaGreatDoor
set_option linter.all false
open Go Go.RowKit Eng
def nx (l : List Int) (n : Int) : Int := l.headD 0 % n
abbrev Q (n d : Int) : Nm.Rt := Nm.ofQ (mkRat n d.toNat)
def atV (x y : Int) : Vt := ⟨Q x 4, Q y 4⟩
def a4s (x y u v : Int) : List Vt := [atV x y, atV u y, atV u v, atV x v]
def a1a (w h k s : Int) : List Vt :=
 if k = 0 then [atV (-w) (-h), atV w (-h), atV w h, atV (-w) h] else
 if k = 1 then [atV (-w) (-h), atV w (-h), atV (s - w) h] else
 if k = 2 then [atV (-w - 1) (-h - 1), atV w (-h - 1), atV (w + 1) (-h), atV (w + 1) h, atV (-w - 1) h] else
 [atV (-w) 0, atV 0 (-h), atV w 0, atV 0 h]
def a1c (l : List Int) : List Vt × List Int :=
 let w := 1 + nx l 6
 let h := 1 + nx (l.drop 1) 6
 let k := nx (l.drop 2) 4
 if k = 1 then (a1a w h k (nx (l.drop 3) (2 * w + 1)), l.drop 4) else (a1a w h k 0, l.drop 3)
def a4w (a lo hi sp br tri : Int) : Lk :=
 ⟨Q (4 + 2 * a) 4, Q (-1 - lo) 3, Q (1 + hi) 3, Q 1 (4 + sp), Q 1 (10 + br), if tri = 2 then [atV (-1) (-1), atV (4 + 2 * a + 1) 0, atV (-1) 1] else a4s (-1) (-1) (4 + 2 * a + 1) 1⟩
def b7p (l : List Int) : Lk := a4w (nx l 4) (nx (l.drop 1) 6) (nx (l.drop 2) 6) (nx (l.drop 3) 8) (nx (l.drop 4) 20) (nx (l.drop 5) 3)
def a1U : Nat -> List Int -> List Lk
 | 0, _ => []
 | n + 1, l => b7p l :: a1U n (l.drop 6)
def a2E (k : Int) : Int := if k = 0 then 0 else if k = 2 then -1 else 1
def a3L (n : Nat) : List UInt8 := [[111, 110, 101], [116, 119, 111], [116, 104, 114, 101, 101], [102, 111, 117, 114]].getD n []
def a3p (l : List Int) : Nat := (1 + nx (l.drop 2) 3).toNat
def b0Y (l : List Int) (n : Nat) : Am := ⟨a3L n, ⟨Q (40 * n) 4, Q 0 4, false, Q (a2E (nx l 4)) (1 + nx (l.drop 1) 3)⟩, a1U (a3p l) (l.drop 3)⟩
def b0W (l : List Int) : List Int := l.drop (3 + 6 * a3p l)
def a1x : Nat -> Nat -> List Int -> List Am
 | 0, _, _ => []
 | k + 1, n, l => b0Y l n :: a1x k (n + 1) (b0W l)
def a5X : Nat -> List Int -> List Int
 | 0, l => l
 | k + 1, l => a5X k (b0W l)
def a0E (l : List Int) : Int := if nx (l.drop 2) 2 = 1 then -(12 + nx (l.drop 1) 30) - 6 else 12 + nx (l.drop 1) 30
def b2W (l : List Int) : List Vt :=
 a4s (nx l 80 - 30) (a0E l) (nx l 80 - 30 + 1 + nx (l.drop 3) 20) (a0E l + 1 + nx (l.drop 4) 5)
def a1q : Nat -> List Int -> List (List Vt)
 | 0, _ => []
 | k + 1, l => b2W l :: a1q k (l.drop 5)
def a3s (n : Nat) : List UInt8 := [[98, 111, 108, 116], [110, 117, 116]].getD n []
def c1f (l : List Int) (n : Nat) : Pt := ⟨a3s n, (a1c l).1, ⟨Q 0 4, Q 0 4, false, Q 0 1⟩⟩
def Z7 : Nat -> Nat -> List Int -> List Pt
 | 0, _, _ => []
 | k + 1, n, l => c1f l n :: Z7 k (n + 1) (a1c l).2
def a3P : Nat -> List Int -> List Int
 | 0, l => l
 | k + 1, l => a3P k (a1c l).2
def a4h (n : Nat) : List UInt8 := [[104, 101, 114, 101], [116, 104, 101, 114, 101], [98, 101, 121, 111, 110, 100]].getD n []
def b8r (l : List Int) (n : Nat) : Sl := ⟨a4h n, ⟨Q (nx l 40 - 20) 4, Q (nx (l.drop 1) 24 - 12) 4, false, Q (nx (l.drop 2) 5 - 2) 2⟩, Q 1 (8 + nx (l.drop 3) 20)⟩
def Z5 : Nat -> Nat -> List Int -> List Sl
 | 0, _, _ => []
 | k + 1, n, l => b8r l n :: Z5 k (n + 1) (l.drop 4)
def b7f (l : List Int) : Gt := ⟨[100, 111, 111, 114], atV (nx l 60 - 30) (nx (l.drop 1) 60 - 30), atV (nx l 60 - 30 + nx (l.drop 2) 12) (nx (l.drop 1) 60 - 30 + nx (l.drop 3) 12)⟩
def a0b : Nat -> List Int -> List Gt
 | 0, _ => []
 | k + 1, l => b7f l :: a0b k (l.drop 4)
def nA (l : List Int) : Nat := (1 + nx l 2).toNat
def l1 (l : List Int) : List Int := a5X (nA l) (l.drop 1)
def nW (l : List Int) : Nat := (nx (l1 l) 3).toNat
def l2 (l : List Int) : List Int := (l1 l).drop (1 + 5 * nW l)
def nP (l : List Int) : Nat := (nx (l2 l) 3).toNat
def l3 (l : List Int) : List Int := a3P (nP l) ((l2 l).drop 1)
def nS (l : List Int) : Nat := nP l + (nx (l3 l) 2).toNat
def l4 (l : List Int) : List Int := (l3 l).drop (1 + 4 * nS l)
def nG (l : List Int) : Nat := (nx (l4 l) 2).toNat
def l5 (l : List Int) : List Int := (l4 l).drop (1 + 4 * nG l)
def D9 (l : List Int) : Wk :=
 ⟨a1x (nA l) 0 (l.drop 1), a1q (nW l) ((l1 l).drop 1), Z7 (nP l) 0 ((l2 l).drop 1), Z5 (nS l) 0 ((l3 l).drop 1), a0b (nG l) ((l4 l).drop 1), Q (nx (l5 l) 4) 8⟩
theorem l7 (l : List Int) {n : Int} (h : 0 < n) : 0 <= nx l n := Int.emod_nonneg _ (by omega)
theorem D7 (l : List Int) {n : Int} (h : 0 < n) : nx l n < n := Int.emod_lt_of_pos _ h
end Go.Proofs.YtogfpjohjphngaaGreatDoor
namespace Go.Proofs.YtogfpjohjphngaaGreatDoor
set_option linter.all false
open Go Go.RowKit Eng
set_option maxRecDepth 100000
set_option maxHeartbeats 4000000
theorem b3l (n d : Int) (hd : 1 <= d) : ∃ g : Nat, 0 < g /\ (∃ k : Int, n = g * k /\ (mkRat n d.toNat).num = k) /\ (mkRat n d.toNat).den <= d.toNat := by
 have hd0 : d.toNat ≠ 0 := by omega
 rw [Rat.num_mkRat, Rat.den_mkRat, if_neg hd0, if_neg hd0]
 have hg : 0 < Nat.gcd d.toNat n.natAbs := Nat.gcd_pos_of_pos_left _ (by omega)
 refine ⟨Nat.gcd d.toNat n.natAbs, hg, ?_, Nat.div_le_self _ _⟩
 have hdv : ((Nat.gcd d.toNat n.natAbs : Nat) : Int) ∣ n := Int.ofNat_dvd_left.2 (Nat.gcd_dvd_right ..)
 obtain ⟨k, hk⟩ := hdv
 refine ⟨k, hk, ?_⟩
 conv => lhs; arg 1; rw [hk]
 exact Int.mul_ediv_cancel_left _ (by omega)
theorem c0K (q : Rat) : J2 q = q.num.sign := by
 unfold J2
 by_cases h : q.num = 0
 ·rw [if_pos h, h]; rfl
 ·rw [if_neg h]
  by_cases h2 : q.num < 0
  ·rw [if_pos h2, Int.sign_eq_neg_one_of_neg h2]
  ·rw [if_neg h2, Int.sign_eq_one_of_pos (by omega)]
theorem a5f (n d : Int) (hd : 1 <= d) : J2 (mkRat n d.toNat) = n.sign := by
 obtain ⟨g, hg, ⟨k, h1, h2⟩, _⟩ := b3l n d hd
 rw [c0K, h2, h1, Int.sign_mul, Int.sign_eq_one_of_pos (show (0 : Int) < (g : Int) by omega), Int.one_mul]
theorem M8 (n d : Int) (hn : -1000000 <= n /\ n <= 1000000) (hd : 1 <= d /\ d <= 1000) : p8 (Q n d) = true := by
 obtain ⟨g, hg, ⟨k, h1, h2⟩, h3⟩ := b3l n d hd.1
 have hk : k.natAbs <= 1000000 := by
  have : n.natAbs = g * k.natAbs := by rw [h1, Int.natAbs_mul]; simp
  have : k.natAbs <= g * k.natAbs := Nat.le_mul_of_pos_left _ hg
  omega
 unfold p8
 simp only [Bool.and_eq_true, decide_eq_true_eq]
 have e1 : (Q n d).num = Nm.enc k.natAbs := by unfold Q Nm.ofQ; rw [h2]
 have e2 : (Q n d).den = Nm.enc (mkRat n d.toNat).den := rfl
 rw [e1, e2, Nm.I8, Nm.I8]
 exact ⟨⟨⟨⟨Nm.I5 (by omega), Nm.I5 (by omega)⟩, Nm.a2q _⟩, hk⟩, by omega⟩
theorem a3Y (n d : Int) : (Q n d).H7 := Nm.a2q _
theorem a1T (n d : Int) : Nm.j3 (Q n d) = mkRat n d.toNat := Nm.G9 _
theorem a5k (a b : Int) {n : Nat} (hn : n ≠ 0) : mkRat a n - mkRat b n = mkRat (a - b) n := by
 rw [Rat.sub_eq_add_neg, Rat.neg_mkRat, Rat.mkRat_add_mkRat _ _ hn hn, <- Int.add_mul, Rat.mkRat_mul_right hn]
 rw [Int.sub_eq_add_neg]
theorem mk_pos (a : Int) {n : Nat} (hn : n ≠ 0) : 0 < mkRat a n <-> 0 < a := by
 have h := a5f a (n : Int) (by omega)
 rw [Int.toNat_natCast] at h
 have hnp : 0 < mkRat a n <-> 0 < (mkRat a n).num := by
  rw [<- Rat.not_le, <- Int.not_le]
  refine not_congr ?_
  rw [Rat.le_iff]
  simp
 rw [hnp]
 unfold J2 at h
 rcases Int.lt_trichotomy a 0 with h1 | h1 | h1
 ·rw [Int.sign_eq_neg_one_of_neg h1] at h
  split at h
  ·cases h
  ·split at h
   ·omega
   ·cases h
 ·subst h1
  simp at h ⊢
 ·rw [Int.sign_eq_one_of_pos h1] at h
  split at h
  ·cases h
  ·split at h
   ·cases h
   ·omega
theorem b8O {a b : Int} {n : Nat} (hn : n ≠ 0) (h : a < b) : Nm.G5 (mkRat a n) (mkRat b n) = -1 := by
 unfold Nm.G5
 rw [if_pos]
 have h1 := (mk_pos (b - a) hn).2 (by omega)
 rw [<- a5k b a hn] at h1
 grind
theorem b9O {a b : Int} {n : Nat} (hn : n ≠ 0) (h : a <= b) : Nm.G5 (mkRat a n) (mkRat b n) <= 0 := by
 rcases Int.lt_or_eq_of_le h with h1 | h1
 ·rw [b8O hn h1]; decide
 ·subst h1
  unfold Nm.G5
  rw [if_neg (Rat.lt_irrefl), if_pos rfl]
  exact Int.le_refl _
def a7o (p q r : Int × Int) : Int := (q.1 - p.1) * (r.2 - p.2) - (q.2 - p.2) * (r.1 - p.1)
theorem left_at (p q r : Int × Int) : a7B (atV p.1 p.2) (atV q.1 q.2) (atV r.1 r.2) = (a7o p q r).sign := by
 unfold a7B atV a7o
 simp only [a1T]
 rw [show Int.toNat 4 = 4 from rfl, a5k _ _ (by decide), a5k _ _ (by decide), a5k _ _ (by decide), a5k _ _ (by decide), Rat.mkRat_mul_mkRat, Rat.mkRat_mul_mkRat, a5k _ _ (by decide)]
 exact a5f _ 16 (by decide)
def a7E (l : List (Int × Int)) : Bool := (List.range l.length).all fun i => (List.range l.length).all fun k => decide (k < 2) || decide (0 < a7o (l.getD i (0, 0)) (l.getD ((i + 1) % l.length) (0, 0)) (l.getD ((i + k) % l.length) (0, 0)))
def a3N (l : List (Int × Int)) : List Vt := l.map fun p => atV p.1 p.2
theorem a9f (l : List (Int × Int)) (i : Nat) (h : i < l.length) : (a3N l).getD i Vt.zero = atV (l.getD i (0, 0)).1 (l.getD i (0, 0)).2 := by
 rw [List.getD_eq_getElem?_getD, List.getD_eq_getElem?_getD, a3N, List.getElem?_map, List.getElem?_eq_getElem h]
 rfl
theorem c1T (l : List (Int × Int)) (h3 : 3 <= l.length) (h8 : l.length <= 8) (h : a7E l = true) : P7 (a3N l) 8 = 0 := by
 have hl : (a3N l).length = l.length := by simp [a3N]
 unfold P7
 rw [if_neg (by omega), if_neg (by omega), if_pos]
 rw [hl, <- h]
 unfold a7E
 have key : ∀ i, i < l.length -> ∀ k, decide (0 < a2h (a3N l) i k) = decide (0 < a7o (l.getD i (0, 0)) (l.getD ((i + 1) % l.length) (0, 0)) (l.getD ((i + k) % l.length) (0, 0))) := by
  intro i hi k
  unfold a2h
  rw [hl, a9f l i hi, a9f l _ (Nat.mod_lt _ (by omega)), a9f l _ (Nat.mod_lt _ (by omega)), left_at]
  refine decide_eq_decide.2 ?_
  exact Int.sign_pos_iff
 rw [Bool.eq_iff_iff, List.all_eq_true, List.all_eq_true]
 refine forall_congr' fun i => ?_
 refine imp_congr_right fun hi => ?_
 rw [List.all_eq_true, List.all_eq_true]
 refine forall_congr' fun k => ?_
 refine imp_congr_right fun hk => ?_
 rw [key i (List.mem_range.1 hi) k]
theorem b8E (x y u v : Int) (h1 : x < u) (h2 : y < v) : a7E [(x, y), (u, y), (u, v), (x, v)] = true := by
 have hp : 0 < (u - x) * (v - y) := Int.mul_pos (by omega) (by omega)
 unfold a7E
 simp only [List.length_cons, List.length_nil, show List.range (0 + 1 + 1 + 1 + 1) = [0, 1, 2, 3] from rfl, List.all_cons, List.all_nil, Bool.and_true, Bool.and_eq_true, Bool.or_eq_true, decide_eq_true_eq]
 refine ⟨⟨.inl (by decide), .inl (by decide), .inr ?_, .inr ?_⟩, ⟨.inl (by decide), .inl (by decide), .inr ?_, .inr ?_⟩, ⟨.inl (by decide), .inl (by decide), .inr ?_, .inr ?_⟩, ⟨.inl (by decide), .inl (by decide), .inr ?_, .inr ?_⟩⟩ <;>
 ·simp [a7o]
  grind
theorem a8M (l : List (Int × Int)) (h3 : 3 <= l.length) (h8 : l.length <= 8) (h : a7E l = true) (hb : ∀ p ∈ l, (-1000000 <= p.1 /\ p.1 <= 1000000) /\ -1000000 <= p.2 /\ p.2 <= 1000000) : J6 (a3N l) = 0 /\ (a3N l).all (fun v => p8 v.x && p8 v.y) = true := by
 have hs : ∀ v ∈ a3N l, p8 v.x = true /\ p8 v.y = true /\ v.x.H7 /\ v.y.H7 := by
  intro v hv
  obtain ⟨p, hp, rfl⟩ := List.mem_map.1 hv
  have := hb p hp
  exact ⟨M8 _ _ this.1 (by decide), M8 _ _ this.2 (by decide), a3Y _ _, a3Y _ _⟩
 refine ⟨?_, ?_⟩
 ·unfold J6
  rw [c1T l h3 h8 h, if_neg (by decide), if_pos]
  rw [List.all_eq_true]
  intro v hv
  obtain ⟨a1, a2, a3, a4⟩ := hs v hv
  unfold okV
  simp [a1, a2, a3, a4]
 ·rw [List.all_eq_true]
  intro v hv
  obtain ⟨a1, a2, a3, a4⟩ := hs v hv
  simp [a1, a2]
end Go.Proofs.YtogfpjohjphngaaGreatDoor
namespace Go.Proofs.YtogfpjohjphngaaGreatDoor
set_option linter.all false
open Go Go.RowKit Eng
set_option maxRecDepth 100000
set_option maxHeartbeats 4000000
def a1K (w h k s : Int) : List (Int × Int) :=
 if k = 0 then [(-w, -h), (w, -h), (w, h), (-w, h)] else
 if k = 1 then [(-w, -h), (w, -h), (s - w, h)] else
 if k = 2 then [(-w - 1, -h - 1), (w, -h - 1), (w + 1, -h), (w + 1, h), (-w - 1, h)] else
 [(-w, 0), (0, -h), (w, 0), (0, h)]
theorem b8D (w h k s : Int) : a1a w h k s = a3N (a1K w h k s) := by
 unfold a1a a1K
 split
 ·rfl
 split
 ·rfl
 split <;> rfl
theorem b9C : ∀ w h : Fin 6, ∀ k : Fin 4, ∀ s : Fin 13, (s : Nat) <= 2 * (w + 1 : Nat) -> a7E (a1K ((w : Nat) + 1 : Int) ((h : Nat) + 1 : Int) ((k : Nat) : Int) ((s : Nat) : Int)) = true := by decide +kernel
theorem b9U (w h k s : Int) : 3 <= (a1K w h k s).length /\ (a1K w h k s).length <= 8 := by
 unfold a1K
 split
 ·simp
 split
 ·simp
 split <;> simp
theorem b8f {w h k s : Int} (hw : 1 <= w /\ w <= 6) (hh : 1 <= h /\ h <= 6) (hs : 0 <= s /\ s <= 12) : ∀ p ∈ a1K w h k s, (-1000000 <= p.1 /\ p.1 <= 1000000) /\ -1000000 <= p.2 /\ p.2 <= 1000000 := by
 unfold a1K
 intro p hp
 split at hp
 ·simp at hp; rcases hp with rfl | rfl | rfl | rfl <;> simp only <;> omega
 split at hp
 ·simp at hp; rcases hp with rfl | rfl | rfl <;> simp only <;> omega
 split at hp
 ·simp at hp; rcases hp with rfl | rfl | rfl | rfl | rfl <;> simp only <;> omega
 ·simp at hp; rcases hp with rfl | rfl | rfl | rfl <;> simp only <;> omega
theorem b3o {w h k s : Int} (hw : 1 <= w /\ w <= 6) (hh : 1 <= h /\ h <= 6) (hk : 0 <= k /\ k <= 3) (hs : 0 <= s /\ s <= 2 * w) : J6 (a1a w h k s) = 0 /\ (a1a w h k s).length <= 8 := by
 have hc := b9C ⟨(w - 1).toNat, by omega⟩ ⟨(h - 1).toNat, by omega⟩ ⟨k.toNat, by omega⟩ ⟨s.toNat, by omega⟩ (by simp only; omega)
 simp only at hc
 rw [show (((w - 1).toNat : Nat) + 1 : Int) = w by omega, show (((h - 1).toNat : Nat) + 1 : Int) = h by omega, show ((k.toNat : Nat) : Int) = k by omega, show ((s.toNat : Nat) : Int) = s by omega] at hc
 rw [b8D]
 obtain ⟨l1, l2⟩ := b9U w h k s
 exact ⟨(a8M _ l1 l2 hc (b8f hw hh (by omega))).1, by simpa [a3N] using l2⟩
theorem b4j (l : List Int) : J6 (a1c l).1 = 0 /\ (a1c l).1.length <= 8 := by
 have b1 := l7 l (n := 6) (by decide)
 have b2 := D7 l (n := 6) (by decide)
 have b3 := l7 (l.drop 1) (n := 6) (by decide)
 have b4 := D7 (l.drop 1) (n := 6) (by decide)
 have b5 := l7 (l.drop 2) (n := 4) (by decide)
 have b6 := D7 (l.drop 2) (n := 4) (by decide)
 unfold a1c
 simp only
 split
 ·rename_i h
  have b7 := l7 (l.drop 3) (n := 2 * (1 + nx l 6) + 1) (by omega)
  have b8 := D7 (l.drop 3) (n := 2 * (1 + nx l 6) + 1) (by omega)
  exact b3o (by omega) (by omega) (by omega) (by omega)
 ·exact b3o (by omega) (by omega) (by omega) (by omega)
theorem b6B {x y u v : Int} (h1 : x < u) (h2 : y < v) (hb : -1000000 <= x /\ u <= 1000000 /\ -1000000 <= y /\ v <= 1000000) : J6 (a4s x y u v) = 0 /\ (a4s x y u v).all (fun v => p8 v.x && p8 v.y) = true :=
 a8M [(x, y), (u, y), (u, v), (x, v)] (by simp) (by simp) (b8E x y u v h1 h2) (fun p hp => by simp at hp; rcases hp with rfl | rfl | rfl | rfl <;> simp only <;> omega)
theorem a2B {l : List Vt} (h : J6 l = 0) : P7 l 8 = 0 := by
 unfold J6 at h
 split at h
 ·rename_i h1; exact absurd h h1
 ·rename_i h1; exact Classical.not_not.1 h1
theorem c1E {a lo hi sp br tri : Int} (ha : 0 <= a /\ a < 4) (h1 : 0 <= lo /\ lo < 6) (h2 : 0 <= hi /\ hi < 6) (h3 : 0 <= sp /\ sp < 8) (h4 : 0 <= br /\ br < 20) : X9 (a4w a lo hi sp br tri) = 0 := by
 have hs : ∀ n d : Int, 0 < n -> 1 <= d -> J2 (Nm.j3 (Q n d)) = 1 := fun n d hn hd => by rw [a1T, a5f _ _ hd, Int.sign_eq_one_of_pos hn]
 have hsh : J6 (a4w a lo hi sp br tri).shape = 0 /\ (a4w a lo hi sp br tri).shape.all (fun v => p8 v.x && p8 v.y) = true := by
  unfold a4w
  simp only
  split
  ·refine a8M [(-1, -1), (4 + 2 * a + 1, 0), (-1, 1)] (by simp) (by simp) ?_ (fun p hp => by simp at hp; rcases hp with rfl | rfl | rfl <;> simp only <;> omega)
   have : a = 0 \/ a = 1 \/ a = 2 \/ a = 3 := by omega
   rcases this with rfl | rfl | rfl | rfl <;> decide
  ·exact b6B (by omega) (by omega) (by omega)
 have hpe := a2B hsh.1
 unfold X9
 rw [hpe, hsh.2, if_neg, if_neg, if_neg (by decide), if_pos rfl]
 ·unfold a4w
  simp only
  rw [hs 1 (4 + sp) (by decide) (by omega), hs 1 (10 + br) (by decide) (by omega)]
  decide
 ·unfold a4w
  simp only
  rw [M8 _ _ (by omega) (by omega), M8 _ _ (by omega) (by omega), M8 _ _ (by omega) (by omega), M8 _ _ (by omega) (by omega), M8 _ _ (by omega) (by omega), hs (4 + 2 * a) 4 (by omega) (by decide), a1T, a1T, b8O (by decide) (by omega)]
  decide
theorem a8R : ∀ (n : Nat) (l : List Int), G6 X9 (a1U n l) = 0 /\ (a1U n l).length = n
 | 0, _ => ⟨rfl, rfl⟩
 | n + 1, l => by
  have h := c1E (a := nx l 4) (lo := nx (l.drop 1) 6) (hi := nx (l.drop 2) 6) (sp := nx (l.drop 3) 8) (br := nx (l.drop 4) 20) (tri := nx (l.drop 5) 3)
   ⟨l7 _ (by decide), D7 _ (by decide)⟩ ⟨l7 _ (by decide), D7 _ (by decide)⟩ ⟨l7 _ (by decide), D7 _ (by decide)⟩ ⟨l7 _ (by decide), D7 _ (by decide)⟩ ⟨l7 _ (by decide), D7 _ (by decide)⟩
  have e : X9 (b7p l) = 0 := h
  simp only [a1U, G6, List.length_cons]
  rw [if_pos e]
  exact ⟨(a8R n _).1, by rw [(a8R n _).2]⟩
theorem b7P (k : Int) : -1 <= a2E k /\ a2E k <= 1 := by unfold a2E; split; omega; split <;> omega
theorem c2x (l : List Int) (n : Nat) (hn : n <= 3) : V3 (b0Y l n) = 0 := by
 have a3 := l7 (l.drop 1) (n := 3) (by decide)
 have a4 := D7 (l.drop 1) (n := 3) (by decide)
 have a5 := l7 (l.drop 2) (n := 3) (by decide)
 have a6 := D7 (l.drop 2) (n := 3) (by decide)
 have ht := b7P (nx l 4)
 obtain ⟨g1, g2⟩ := a8R (a3p l) (l.drop 3)
 have hc : a3p l = (1 + nx (l.drop 2) 3).toNat := rfl
 have hnm : a0S (a3L n) = true := by
  have : n = 0 \/ n = 1 \/ n = 2 \/ n = 3 := by omega
  rcases this with rfl | rfl | rfl | rfl <;> decide
 unfold V3 b0Y
 simp only
 rw [g1, hnm, if_neg (by decide), if_neg (by rw [g2]; omega), if_neg]
 rw [g2, M8 _ _ (by omega) (by decide), M8 _ _ (by omega) (by decide), M8 _ _ (by omega) (by omega)]
 rintro (h | h | h)
 ·omega
 ·cases h
 ·cases h
end Go.Proofs.YtogfpjohjphngaaGreatDoor
namespace Go.Proofs.YtogfpjohjphngaaGreatDoor
set_option linter.all false
open Go Go.RowKit Eng
set_option maxRecDepth 100000
set_option maxHeartbeats 4000000
theorem b3q : ∀ (l : List Am) (n : Nms), (∀ a ∈ l, V3 a = 0) -> C8 a1B n l = C8 J9 n (l.map Am.name)
 | [], _, _ => rfl
 | a :: l, n, h => by
  have h0 := h a (by simp)
  have e : a1B n a = J9 n a.name := by unfold a1B; rw [h0, if_neg (by decide)]
  simp only [C8, List.map_cons, e]
  split
  ·exact b3q l _ fun x hx => h x (by simp [hx])
  ·rfl
theorem b1Z : ∀ (l : List Pt) (n : Nms), (∀ a ∈ l, J6 a.shape = 0 /\ okF a.grasp = true) -> C8 a0j n l = C8 J9 n (l.map Pt.name)
 | [], _, _ => rfl
 | a :: l, n, h => by
  obtain ⟨h0, h1⟩ := h a (by simp)
  have e : a0j n a = J9 n a.name := by
   unfold a0j
   by_cases h2 : (J9 n a.name).1 = 0
   ·rw [if_neg (by rw [h2]; decide), h0, if_neg (by decide), h1, if_pos rfl]
    rw [<- h2]
   ·rw [if_pos h2]
  simp only [C8, List.map_cons, e]
  split
  ·exact b1Z l _ fun x hx => h x (by simp [hx])
  ·rfl
theorem b1H : ∀ (l : List Sl) (n : Nms), (∀ s ∈ l, (okF s.frame && decide s.within.H7 && p8 s.within && decide (0 < J2 (Nm.j3 s.within))) = true) -> C8 a0l n l = C8 J9 n (l.map Sl.name)
 | [], _, _ => rfl
 | a :: l, n, h => by
  have h1 := h a (by simp)
  have e : a0l n a = J9 n a.name := by
   unfold a0l
   by_cases h2 : (J9 n a.name).1 = 0
   ·rw [if_neg (by rw [h2]; decide), h1, if_pos rfl]
    rw [<- h2]
   ·rw [if_pos h2]
  simp only [C8, List.map_cons, e]
  split
  ·exact b1H l _ fun x hx => h x (by simp [hx])
  ·rfl
theorem b2b : ∀ (l : List Gt) (n : Nms), (∀ g ∈ l, (okV g.low && okV g.high && decide (Nm.G5 (Nm.j3 g.low.x) (Nm.j3 g.high.x) <= 0) && decide (Nm.G5 (Nm.j3 g.low.y) (Nm.j3 g.high.y) <= 0)) = true) -> C8 a0o n l = C8 J9 n (l.map Gt.name)
 | [], _, _ => rfl
 | a :: l, n, h => by
  have h1 := h a (by simp)
  have e : a0o n a = J9 n a.name := by
   unfold a0o
   by_cases h2 : (J9 n a.name).1 = 0
   ·rw [if_neg (by rw [h2]; decide), h1, if_pos rfl]
    rw [<- h2]
   ·rw [if_pos h2]
  simp only [C8, List.map_cons, e]
  split
  ·exact b2b l _ fun x hx => h x (by simp [hx])
  ·rfl
theorem a3m {α : Type} {f : α -> Int} : ∀ {l : List α}, (∀ x ∈ l, f x = 0) -> G6 f l = 0
 | [], _ => rfl
 | x :: l, h => by rw [G6, if_pos (h x (by simp))]; exact a3m fun y hy => h y (by simp [hy])
theorem a5R : ∀ (c n : Nat) (l : List Int), n + c <= 4 -> ∀ a ∈ a1x c n l, V3 a = 0
 | 0, _, _, _, a, ha => by cases ha
 | c + 1, n, l, h, a, ha => by
  rcases List.mem_cons.1 ha with rfl | ha
  ·exact c2x l n (by omega)
  ·exact a5R c (n + 1) _ (by omega) a ha
theorem a8n : ∀ (c n : Nat) (l : List Int), (a1x c n l).map Am.name = (List.range c).map fun i => a3L (n + i)
 | 0, _, _ => rfl
 | c + 1, n, l => by
  rw [a1x, List.map_cons, a8n c, List.range_succ_eq_map, List.map_cons, List.map_map]
  congr 1
  refine List.map_congr_left fun i _ => ?_
  simp only [Function.comp]
  congr 1
  omega
theorem a6K : ∀ (c n : Nat) (l : List Int), (a1x c n l).length = c
 | 0, _, _ => rfl
 | c + 1, n, l => by rw [a1x, List.length_cons, a6K]
theorem c0k (l : List Int) : J6 (b2W l) = 0 /\ (b2W l).all (fun v => p8 v.x && p8 v.y) = true := by
 have a1 := l7 l (n := 80) (by decide)
 have a2 := D7 l (n := 80) (by decide)
 have a3 := l7 (l.drop 1) (n := 30) (by decide)
 have a4 := D7 (l.drop 1) (n := 30) (by decide)
 have a5 := l7 (l.drop 3) (n := 20) (by decide)
 have a6 := D7 (l.drop 3) (n := 20) (by decide)
 have a7 := l7 (l.drop 4) (n := 5) (by decide)
 have a8 := D7 (l.drop 4) (n := 5) (by decide)
 have hy : -1000 <= a0E l /\ a0E l <= 1000 := by unfold a0E; split <;> omega
 exact b6B (by omega) (by omega) (by omega)
theorem a4d : ∀ (c : Nat) (l : List Int), (∀ x ∈ a1q c l, J6 x = 0 /\ x.all (fun v => p8 v.x && p8 v.y) = true) /\ (a1q c l).length = c
 | 0, _ => ⟨fun x hx => (by cases hx), rfl⟩
 | c + 1, l => by
  refine ⟨fun x hx => ?_, by rw [a1q, List.length_cons, (a4d c _).2]⟩
  rcases List.mem_cons.1 hx with rfl | hx
  ·exact c0k l
  ·exact (a4d c _).1 x hx
theorem b7e {a b c d : Int} (ha : -1000000 <= a /\ a <= 1000000) (hb : 1 <= b /\ b <= 1000) (hc : -1000000 <= c /\ c <= 1000000) (hd : 1 <= d /\ d <= 1000) : okV ⟨Q a b, Q c d⟩ = true := by
 unfold okV
 simp only [M8 _ _ ha hb, M8 _ _ hc hd, decide_eq_true (a3Y a b), decide_eq_true (a3Y c d), Bool.and_self]
theorem c0U {a c e f : Int} (ha : -1000000 <= a /\ a <= 1000000) (hc : -1000000 <= c /\ c <= 1000000) (he : -1000000 <= e /\ e <= 1000000) (hf : 1 <= f /\ f <= 1000) : okF ⟨Q a 4, Q c 4, false, Q e f⟩ = true := by
 unfold okF a4k
 simp only [b7e ha (show (1 : Int) <= 4 /\ (4 : Int) <= 1000 by decide) hc (show (1 : Int) <= 4 /\ (4 : Int) <= 1000 by decide), M8 _ _ he hf, decide_eq_true (a3Y e f), Bool.false_and, Bool.not_false, Bool.and_self]
theorem a4g : ∀ (c n : Nat) (l : List Int), (∀ p ∈ Z7 c n l, (J6 p.shape = 0 /\ okF p.grasp = true) /\ p.shape.length <= 8) /\ (Z7 c n l).length = c /\ (Z7 c n l).map Pt.name = (List.range c).map fun i => a3s (n + i)
 | 0, _, _ => ⟨fun x hx => (by cases hx), rfl, rfl⟩
 | c + 1, n, l => by
  obtain ⟨h1, h2, h3⟩ := a4g c (n + 1) (a1c l).2
  refine ⟨fun x hx => ?_, by rw [Z7, List.length_cons, h2], ?_⟩
  ·rcases List.mem_cons.1 hx with rfl | hx
   ·exact ⟨⟨(b4j l).1, c0U (by decide) (by decide) (by decide) (by decide)⟩, (b4j l).2⟩
   ·exact h1 x hx
  ·rw [Z7, List.map_cons, h3, List.range_succ_eq_map, List.map_cons, List.map_map]
   congr 1
   refine List.map_congr_left fun i _ => ?_
   simp only [Function.comp]
   congr 1
   omega
theorem a2O : ∀ (c n : Nat) (l : List Int), (∀ s ∈ Z5 c n l, (okF s.frame && decide s.within.H7 && p8 s.within && decide (0 < J2 (Nm.j3 s.within))) = true) /\ (Z5 c n l).length = c /\ (Z5 c n l).map Sl.name = (List.range c).map fun i => a4h (n + i)
 | 0, _, _ => ⟨fun x hx => (by cases hx), rfl, rfl⟩
 | c + 1, n, l => by
  obtain ⟨h1, h2, h3⟩ := a2O c (n + 1) (l.drop 4)
  have a1 := l7 l (n := 40) (by decide)
  have a2 := D7 l (n := 40) (by decide)
  have a3 := l7 (l.drop 1) (n := 24) (by decide)
  have a4 := D7 (l.drop 1) (n := 24) (by decide)
  have a5 := l7 (l.drop 2) (n := 5) (by decide)
  have a6 := D7 (l.drop 2) (n := 5) (by decide)
  have a7 := l7 (l.drop 3) (n := 20) (by decide)
  have a8 := D7 (l.drop 3) (n := 20) (by decide)
  refine ⟨fun x hx => ?_, by rw [Z5, List.length_cons, h2], ?_⟩
  ·rcases List.mem_cons.1 hx with rfl | hx
   ·unfold b8r
    simp only
    rw [c0U (by omega) (by omega) (by omega) (by decide), M8 _ _ (by decide) (by omega), decide_eq_true (a3Y _ _), a1T, a5f _ _ (by omega)]
    decide
   ·exact h1 x hx
  ·rw [Z5, List.map_cons, h3, List.range_succ_eq_map, List.map_cons, List.map_map]
   congr 1
   refine List.map_congr_left fun i _ => ?_
   simp only [Function.comp]
   congr 1
   omega
theorem a7c : ∀ (c : Nat) (l : List Int), (∀ g ∈ a0b c l, (okV g.low && okV g.high && decide (Nm.G5 (Nm.j3 g.low.x) (Nm.j3 g.high.x) <= 0) && decide (Nm.G5 (Nm.j3 g.low.y) (Nm.j3 g.high.y) <= 0)) = true) /\ (a0b c l).length = c /\ (a0b c l).map Gt.name = List.replicate c [100, 111, 111, 114]
 | 0, _ => ⟨fun x hx => (by cases hx), rfl, rfl⟩
 | c + 1, l => by
  obtain ⟨h1, h2, h3⟩ := a7c c (l.drop 4)
  have a1 := l7 l (n := 60) (by decide)
  have a2 := D7 l (n := 60) (by decide)
  have a3 := l7 (l.drop 1) (n := 60) (by decide)
  have a4 := D7 (l.drop 1) (n := 60) (by decide)
  have a5 := l7 (l.drop 2) (n := 12) (by decide)
  have a6 := D7 (l.drop 2) (n := 12) (by decide)
  have a7 := l7 (l.drop 3) (n := 12) (by decide)
  have a8 := D7 (l.drop 3) (n := 12) (by decide)
  refine ⟨fun x hx => ?_, by rw [a0b, List.length_cons, h2], ?_⟩
  ·rcases List.mem_cons.1 hx with rfl | hx
   ·unfold b7f atV
    simp only
    rw [b7e (by omega) (by decide) (by omega) (by decide), b7e (by omega) (by decide) (by omega) (by decide), a1T, a1T, a1T, a1T, decide_eq_true (b9O (by decide) (by omega)), decide_eq_true (b9O (by decide) (by omega))]
    decide
   ·exact h1 x hx
  ·rw [a0b, List.map_cons, h3, List.replicate_succ]
   rfl
theorem counts (l : List Int) : (1 <= nA l /\ nA l <= 2) /\ nW l <= 2 /\ nP l <= 2 /\ (nP l <= nS l /\ nS l <= nP l + 1) /\ nG l <= 1 := by
 have a1 := l7 l (n := 2) (by decide)
 have a2 := D7 l (n := 2) (by decide)
 have a3 := l7 (l1 l) (n := 3) (by decide)
 have a4 := D7 (l1 l) (n := 3) (by decide)
 have a5 := l7 (l2 l) (n := 3) (by decide)
 have a6 := D7 (l2 l) (n := 3) (by decide)
 have a7 := l7 (l3 l) (n := 2) (by decide)
 have a8 := D7 (l3 l) (n := 2) (by decide)
 have a9 := l7 (l4 l) (n := 2) (by decide)
 have a10 := D7 (l4 l) (n := 2) (by decide)
 unfold nS
 unfold nA nW nP nG
 omega
theorem c0d : ∀ a w p s g : Nat, (1 <= a /\ a <= 2) -> p <= 2 -> (p <= s /\ s <= p + 1) -> g <= 1 ->
  (C8 J9 [] ((List.range a).map fun i => a3L (0 + i))).1 = 0 /\
  (C8 J9 (C8 J9 [] ((List.range a).map fun i => a3L (0 + i))).2 ((List.range p).map fun i => a3s (0 + i))).1 = 0 /\
  (C8 J9 (C8 J9 (C8 J9 [] ((List.range a).map fun i => a3L (0 + i))).2 ((List.range p).map fun i => a3s (0 + i))).2 ((List.range s).map fun i => a4h (0 + i))).1 = 0 /\
  (C8 J9 (C8 J9 (C8 J9 (C8 J9 [] ((List.range a).map fun i => a3L (0 + i))).2 ((List.range p).map fun i => a3s (0 + i))).2 ((List.range s).map fun i => a4h (0 + i))).2 (List.replicate g [100, 111, 111, 114])).1 = 0 := by
 intro a w p s g ha hp hs hg
 have h1 : a = 1 \/ a = 2 := by omega
 have h2 : p = 0 \/ p = 1 \/ p = 2 := by omega
 have h3 : s = p \/ s = p + 1 := by omega
 have h4 : g = 0 \/ g = 1 := by omega
 rcases h1 with rfl | rfl <;> rcases h2 with rfl | rfl | rfl <;> rcases h3 with rfl | rfl <;> rcases h4 with rfl | rfl <;> decide
theorem b3p (l : List Int) : a1o (D9 l) = 0 := by
 obtain ⟨c1, c2, c3, c4, c5⟩ := counts l
 have x1 := a5R (nA l) 0 (l.drop 1) (by omega)
 have x2 := a4d (nW l) ((l1 l).drop 1)
 have x3 := a4g (nP l) 0 ((l2 l).drop 1)
 have x4 := a2O (nS l) 0 ((l3 l).drop 1)
 have x5 := a7c (nG l) ((l4 l).drop 1)
 have hn := c0d (nA l) 0 (nP l) (nS l) (nG l) c1 c3 c4 c5
 have a1 := l7 (l5 l) (n := 4) (by decide)
 have a2 := D7 (l5 l) (n := 4) (by decide)
 have hw : b2V (Q (nx (l5 l) 4) 8) = 0 := by
  unfold b2V
  rw [M8 _ _ (by omega) (by decide), decide_eq_true (a3Y _ _), a1T, a5f _ _ (by decide)]
  have : 0 <= (nx (l5 l) 4).sign := by
   rcases Int.lt_or_eq_of_le a1 with h | h
   ·rw [Int.sign_eq_one_of_pos h]; decide
   ·rw [<- h]; decide
  simp [this]
 have hL : a6Y (D9 l) = [0, 0, 0, 0, 0] := by
  unfold a6Y D9
  simp only
  rw [b3q _ _ x1, a8n, b1Z _ _ (fun a ha => (x3.1 a ha).1), x3.2.2, b1H _ _ x4.1, x4.2.2, b2b _ _ x5.1, x5.2.2, a3m (fun a ha => (x2.1 a ha).1), hn.1, hn.2.1, hn.2.2.1, hn.2.2.2]
 unfold a1o
 rw [hL]
 have l1' : (D9 l).arms.length = nA l := a6K ..
 have l2' : (D9 l).walls.length = nW l := x2.2
 have l3' : (D9 l).parts.length = nP l := x3.2.1
 have l4' : (D9 l).slots.length = nS l := x4.2.1
 have l5' : (D9 l).gates.length = nG l := x5.2.1
 rw [if_neg (by omega), if_neg (by omega), if_neg (by decide)]
 exact hw
end Go.Proofs.YtogfpjohjphngaaGreatDoor
namespace Go.Proofs.YtogfpjohjphngaaGreatDoor
set_option linter.all false
open Go Go.RowKit Eng
set_option maxRecDepth 10000
set_option maxHeartbeats 4000000
theorem b8W {l : List Vt} {most i k : Nat} (h1 : ¬ most < l.length) (h2 : ¬ l.length < 3) (hi : i < l.length) (hk2 : 2 <= k) (hk : k < l.length) (h : ¬ 0 < a2h l i k) : P7 l most = 3 := by
 unfold P7
 rw [if_neg h1, if_neg h2, if_neg]
 intro ha
 rw [List.all_eq_true] at ha
 have h3 := ha i (List.mem_range.2 hi)
 rw [List.all_eq_true] at h3
 have h4 := h3 k (List.mem_range.2 hk)
 rw [Bool.or_eq_true, decide_eq_true_eq, decide_eq_true_eq] at h4
 omega
theorem b8h {l : List Vt} {most : Nat} (h1 : ¬ most < l.length) (h2 : ¬ l.length < 3) (h : ∀ i, i < l.length -> ∀ k, 2 <= k -> k < l.length -> 0 < a2h l i k) : P7 l most = 0 := by
 unfold P7
 rw [if_neg h1, if_neg h2, if_pos]
 rw [List.all_eq_true]
 intro i hi
 rw [List.all_eq_true]
 intro k hk
 rw [Bool.or_eq_true, decide_eq_true_eq, decide_eq_true_eq]
 rcases Nat.lt_or_ge k 2 with h3 | h3
 ·exact .inl h3
 ·exact .inr (h i (List.mem_range.1 hi) k h3 (List.mem_range.1 hk))
theorem b9K {l : List Vt} {i k : Nat} {x y z : Vt} (hx : l[i]? = some x) (hy : l[(i + 1) % l.length]? = some y) (hz : l[(i + k) % l.length]? = some z) : a2h l i k = a7B x y z := by
 unfold a2h
 rw [List.getD_eq_getElem?_getD, List.getD_eq_getElem?_getD, List.getD_eq_getElem?_getD, hx, hy, hz]
 rfl
theorem c0z (i k n : Nat) : Int.tmod ((i : Int) + (k : Int)) (n : Int) = (((i + k) % n : Nat) : Int) := rfl
theorem tmod_one (i n : Nat) : Int.tmod ((i : Int) + 1) (n : Int) = (((i + 1) % n : Nat) : Int) := rfl
theorem c2B (v : Vt) : v.enc.length = 6 := rfl
theorem c0F (l : List Vt) (most : Nat) (hl : Vbs 1073741824 l) (hm : most <= 1000000) : FZ 232 [vts l, ints most] (ints (P7 l most)) := by
 refine q8.of b2B b2q (by exact Nat.le_of_ble_eq_true rfl) fun w O hw => ?_
 obtain ⟨hn, hb⟩ := hl
 simp only [a6j, l9, TT, II, OA, OB, OC, MM, LL, VV, FF, MG, LG, VG, FG, ints, vts]
 (repeat first | refine uA ?_ | (apply S.exit; exact rfl) | ((with_reducible refine And.intro ?_ ?_); focus first | omega | trivial | exact id | (intros; simp_all <;> omega)) | simp (disch := omega) only [go_sem, Nat.reduceBEq, Nat.reduceAdd, Nat.reduceLeDiff, Int.reduceToNat, Int.reducePow, ww, List.length_map])
 (refine uJ rfl (fun hc => ?_) fun hc => ?_)
 ·have he : P7 l most = 2 := by unfold P7; rw [if_pos (by omega)]
  rw [he]
  (repeat first | refine uA ?_ | (apply S.exit; exact rfl) | ((with_reducible refine And.intro ?_ ?_); focus first | omega | trivial | exact id | (intros; simp_all <;> omega)) | simp (disch := omega) only [go_sem, Nat.reduceBEq, Nat.reduceAdd, Nat.reduceLeDiff, Int.reduceToNat, Int.reducePow, ww])
  exact S.done (d9.out rfl (Imp.refl rfl) rfl)
 have h1 : ¬ most < l.length := by omega
 (repeat first | refine uA ?_ | (apply S.exit; exact rfl) | ((with_reducible refine And.intro ?_ ?_); focus first | omega | trivial | exact id | (intros; simp_all <;> omega)) | simp (disch := omega) only [go_sem, Nat.reduceBEq, Nat.reduceAdd, Nat.reduceLeDiff, Int.reduceToNat, Int.reducePow, ww, List.length_map])
 (refine uJ rfl (fun hc => ?_) fun hc => ?_)
 ·have he : P7 l most = 3 := by unfold P7; rw [if_neg h1, if_pos (by omega)]
  rw [he]
  (repeat first | refine uA ?_ | (apply S.exit; exact rfl) | ((with_reducible refine And.intro ?_ ?_); focus first | omega | trivial | exact id | (intros; simp_all <;> omega)) | simp (disch := omega) only [go_sem, Nat.reduceBEq, Nat.reduceAdd, Nat.reduceLeDiff, Int.reduceToNat, Int.reducePow, ww])
  exact S.done (d9.out rfl (Imp.refl rfl) rfl)
 have h2 : ¬ l.length < 3 := by omega
 (repeat first | refine uA ?_ | (apply S.exit; exact rfl) | ((with_reducible refine And.intro ?_ ?_); focus first | omega | trivial | exact id | (intros; simp_all <;> omega)) | simp (disch := omega) only [go_sem, Nat.reduceBEq, Nat.reduceAdd, Nat.reduceLeDiff, Int.reduceToNat, Int.reducePow, ww, List.length_map])
 refine S.loop (X := Nat) (fun i => ⟨[(0, vts l), (5, ints l.length), (18, vts l), (19, ints l.length), (20, ints i)], []⟩)
  (fun i => i <= l.length /\ ∀ j, j < i -> ∀ k, 2 <= k -> k < l.length -> 0 < a2h l j k) (fun i => l.length - i) 0 ⟨Nat.zero_le _, fun _ h => absurd h (Nat.not_lt_zero _)⟩ (by (repeat first | refine uA ?_ | (refine ⟨?_, ?_⟩; focus first | rfl | trivial | (simp [slot]; done)) | rfl | trivial | simp)) ?_
 rintro i ⟨hi, hg⟩
 simp only [ints, vts] at hi ⊢
 (repeat first | refine uA ?_ | (apply S.exit; exact rfl) | ((with_reducible refine And.intro ?_ ?_); focus first | omega | trivial | exact id | (intros; simp_all <;> omega)) | simp (disch := omega) only [go_sem, Nat.reduceBEq, Nat.reduceAdd, Nat.reduceLeDiff, Int.reduceToNat, Int.reducePow, ww])
 (refine uJ rfl (fun hc => ?_) fun hc => ?_)
 ·have hi' : i < l.length := by omega
  have hgi := List.getElem?_eq_getElem hi'
  generalize l[i] = x at hgi
  (repeat first | refine uA ?_ | (apply S.exit; exact rfl) | ((with_reducible refine And.intro ?_ ?_); focus first | omega | trivial | exact id | (intros; simp_all <;> omega)) | simp (disch := omega) only [go_sem, Nat.reduceBEq, Nat.reduceAdd, Nat.reduceLeDiff, Int.reduceToNat, Int.reducePow, ww, hgi, Option.map_some, List.length_map, c2B])
  refine S.loop (X := Nat) (fun k => ⟨[(0, vts l), (5, ints l.length), (6, ints i), (7, .bp 0 0), (8, ints k), (18, vts l), (19, ints l.length), (20, ints i)], [.box 51 x.enc]⟩)
   (fun k => 2 <= k /\ k <= l.length /\ ∀ k', 2 <= k' -> k' < k -> 0 < a2h l i k') (fun k => l.length - k) 2 ⟨Nat.le_refl _, by omega, fun _ h h' => by omega⟩ (by (repeat first | refine uA ?_ | (refine ⟨?_, ?_⟩; focus first | rfl | trivial | (simp [slot]; done)) | rfl | trivial | simp)) ?_
  rintro k ⟨hk2, hk, hgk⟩
  simp only [ints, vts] at hk ⊢
  (repeat first | refine uA ?_ | (apply S.exit; exact rfl) | ((with_reducible refine And.intro ?_ ?_); focus first | omega | trivial | exact id | (intros; simp_all <;> omega)) | simp (disch := omega) only [go_sem, Nat.reduceBEq, Nat.reduceAdd, Nat.reduceLeDiff, Int.reduceToNat, Int.reducePow, ww])
  (refine uJ rfl (fun hc => ?_) fun hc => ?_)
  ·have hk' : k < l.length := by omega
   have hy := List.getElem?_eq_getElem (show (i + 1) % l.length < l.length from Nat.mod_lt _ (by omega))
   have hz := List.getElem?_eq_getElem (show (i + k) % l.length < l.length from Nat.mod_lt _ (by omega))
   have hylt : (i + 1) % l.length < l.length := Nat.mod_lt _ (by omega)
   have hzlt : (i + k) % l.length < l.length := Nat.mod_lt _ (by omega)
   generalize l[(i + 1) % l.length]'_ = y at hy
   generalize l[(i + k) % l.length]'_ = z at hz
   have hla := b9K hgi hy hz
   have hcall := c2W x y z (hb x (List.mem_of_getElem? hgi)) (hb y (List.mem_of_getElem? hy)) (hb z (List.mem_of_getElem? hz))
   rw [<- hla] at hcall
   simp only [Vt.c, Vt.enc, sb, ints] at hcall
   (repeat first | refine uA ?_ | (apply S.exit; exact rfl) | ((with_reducible refine And.intro ?_ ?_); focus first | omega | trivial | exact id | (intros; simp_all <;> omega)) | simp (disch := omega) only [go_sem, Nat.reduceBEq, Nat.reduceAdd, Nat.reduceLeDiff, Int.reduceToNat, Int.reducePow, ww, hy, hz, Option.map_some, c0z, tmod_one, List.length_map, Vt.enc, sb, Int.toNat_natCast] | (refine uD hcall ?_ ?_ ?_; exact tz hw; exact rfl))
   (refine uJ rfl (fun hc => ?_) fun hc => ?_)
   ·rw [b8W h1 h2 hi' hk2 hk' (by omega)]
    (repeat first | refine uA ?_ | (apply S.exit; exact rfl) | ((with_reducible refine And.intro ?_ ?_); focus first | omega | trivial | exact id | (intros; simp_all <;> omega)) | simp (disch := omega) only [go_sem, Nat.reduceBEq, Nat.reduceAdd, Nat.reduceLeDiff, Int.reduceToNat, Int.reducePow, ww])
    exact S.done (d9.out rfl (Imp.refl rfl) rfl)
   ·(repeat first | refine uA ?_ | (apply S.exit; exact rfl) | ((with_reducible refine And.intro ?_ ?_); focus first | omega | trivial | exact id | (intros; simp_all <;> omega)) | simp (disch := omega) only [go_sem, Nat.reduceBEq, Nat.reduceAdd, Nat.reduceLeDiff, Int.reduceToNat, Int.reducePow, ww])
    refine S.next (k + 1) ⟨by omega, by omega, fun k' hk1 hk3 => ?_⟩ (by omega) (by (repeat first | refine uA ?_ | (refine ⟨?_, ?_⟩; focus first | rfl | trivial | (simp [slot]; done)) | rfl | trivial | simp))
    rcases Nat.lt_or_ge k' k with h | h
    ·exact hgk k' hk1 h
    ·have : k' = k := by omega
     subst this
     omega
  ·have hk' : k = l.length := by omega
   subst hk'
   (repeat first | refine uA ?_ | (apply S.exit; exact rfl) | ((with_reducible refine And.intro ?_ ?_); focus first | omega | trivial | exact id | (intros; simp_all <;> omega)) | simp (disch := omega) only [go_sem, Nat.reduceBEq, Nat.reduceAdd, Nat.reduceLeDiff, Int.reduceToNat, Int.reducePow, ww])
   refine S.next (i + 1) ⟨by omega, fun j hj => ?_⟩ (by omega) (by (repeat first | refine uA ?_ | (refine ⟨?_, ?_⟩; focus first | rfl | trivial | (simp [slot]; done)) | rfl | trivial | simp))
   rcases Nat.lt_or_ge j i with h | h
   ·exact hg j h
   ·have : j = i := by omega
    subst this
    exact hgk
 ·have hi' : i = l.length := by omega
  subst hi'
  rw [b8h h1 h2 hg]
  (repeat first | refine uA ?_ | (apply S.exit; exact rfl) | ((with_reducible refine And.intro ?_ ?_); focus first | omega | trivial | exact id | (intros; simp_all <;> omega)) | simp (disch := omega) only [go_sem, Nat.reduceBEq, Nat.reduceAdd, Nat.reduceLeDiff, Int.reduceToNat, Int.reducePow, ww])
  exact S.done (d9.out rfl (Imp.refl rfl) rfl)
theorem a8l (l : List Vt) (hl : Vbs 1073741824 l) : FZ 201 [vts l] (ints (P7 l 8)) := by
 refine q8.of b2L b2D (by exact Nat.le_of_ble_eq_true rfl) fun w O hw => ?_
 have h := c0F l 8 hl (by decide)
 simp only [a6u, l9, TT, II, OA, OB, OC, MM, LL, VV, FF, MG, LG, VG, FG]
 simp only [vts, ints] at *
 generalize P7 l 8 = e at *
 rw [show ((8 : Nat) : Int) = 8 from rfl] at h
 (repeat first | refine uA ?_ | (apply S.exit; exact rfl) | ((with_reducible refine And.intro ?_ ?_); focus first | omega | trivial | exact id | (intros; simp_all <;> omega)) | simp (disch := omega) only [go_sem, Nat.reduceBEq, Nat.reduceAdd, Nat.reduceLeDiff, Int.reduceToNat, Int.reducePow, ww] | (refine uD h ?_ ?_ ?_; exact tz hw; exact rfl))
 exact S.done (d9.out rfl (Imp.refl rfl) rfl)
end Go.Proofs.YtogfpjohjphngaaGreatDoor
