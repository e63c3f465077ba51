/- A part of the proof: lemmas only, with the conditions that each names. -/
import Derived.Test.YtogfpjohjphngaaGreatDoorProg
import Derived.KernelRfl
import Derived.Test.YtogfpjohjphngaaGreatDoorPk3
set_option linter.all false
namespace Go.Proofs.YtogfpjohjphngaaGreatDoor
open Go Go.RowKit Eng
set_option maxRecDepth 10000
set_option maxHeartbeats 4000000
structure Win (u : List Nat) (lo n v : Nat) : Prop where
 hn : lo + n <= u.length
 hlo : lo < u.length
 hl : u.length <= 17179869184
 ha : Nm.J3 u
 hv : Nm.wv 18446744073709551616 ((u.drop lo).take n) = v
 ht : Nm.E8 ((u.drop lo).take n) = (u.drop lo).take n
theorem Win.len {u : List Nat} {lo n v : Nat} (h : Win u lo n v) : ((u.drop lo).take n).length = n := by
 have := h.hn
 rw [List.length_take, List.length_drop]; omega
theorem b8t {us a : List Nat} {k : Nat} (hu : Nm.J3 us) (ha : Nm.J3 a) : Nm.J3 (put us k a) := fun w hw => by
 simp only [put, List.mem_append] at hw
 rcases hw with (hw | hw) | hw
 ·exact hu w (List.mem_of_mem_take hw)
 ·exact ha w hw
 ·exact hu w (List.mem_of_mem_drop hw)
theorem Win.put {u : List Nat} {l1 p z : Nat} (h1 : l1 + p <= u.length) (h2 : l1 < u.length) (hl : u.length <= 17179869184) (ha : Nm.J3 u) (hz : z < 18446744073709551616 ^ p) :
  Win (put u l1 (Nm.dig 18446744073709551616 p z)) l1 (Nm.E8 (Nm.dig 18446744073709551616 p z)).length z := by
 have hpl : (Go.Proofs.YtogfpjohjphngaaGreatDoor.put u l1 (Nm.dig 18446744073709551616 p z)).length = u.length := X3 (by rw [Nm.G7]; omega)
 have htl := Nm.b8b (Nm.dig 18446744073709551616 p z)
 rw [Nm.G7] at htl
 have hw : ((Go.Proofs.YtogfpjohjphngaaGreatDoor.put u l1 (Nm.dig 18446744073709551616 p z)).drop l1).take (Nm.E8 (Nm.dig 18446744073709551616 p z)).length = Nm.E8 (Nm.dig 18446744073709551616 p z) := by
  have e := a1x (us := u) (k := l1) (a := Nm.dig 18446744073709551616 p z) (n := p) (Nm.G7 _ _ _).symm (by rw [Nm.G7]; omega)
  have e2 := congrArg (List.take (Nm.E8 (Nm.dig 18446744073709551616 p z)).length) e
  rw [List.take_take, Nat.min_eq_left htl, Nm.b6t] at e2
  exact e2
 refine ⟨by rw [hpl]; omega, by rw [hpl]; exact h2, by rw [hpl]; exact hl, b8t ha (Nm.a0p (by decide) _ _), ?_, ?_⟩
 ·rw [hw, Nm.b9t, Nm.Q7 hz]
 ·rw [hw]
  have h4 : ∀ l, Nm.E8 (Nm.E8 l) = Nm.E8 l := fun l => by
   by_cases h : Nm.E8 l = []
   ·rw [h]; rfl
   ·have h5 := Nm.a9N l h
    have h6 : Nm.E8 l = (Nm.E8 l).dropLast ++ [(Nm.E8 l).getLast h] := (List.dropLast_concat_getLast h).symm
    rw [h6, Nm.a2T h5]
  exact h4 _
theorem Win.last {u : List Nat} {lo n v : Nat} (h : Win u lo n v) : ∀ hh : (u.drop lo).take n ≠ [], ((u.drop lo).take n).getLast hh ≠ 0 := by
 have ht := h.ht
 generalize (u.drop lo).take n = x at *
 intro hh
 have := Nm.a9N x (by rw [ht]; exact hh)
 simpa only [ht] using this
theorem Win.all {u : List Nat} {lo n v : Nat} (h : Win u lo n v) : Nm.J3 ((u.drop lo).take n) := (h.ha.drop lo).take n
theorem Win.zero {u : List Nat} {lo n v : Nat} (h : Win u lo n v) (h0 : v = 0) : n = 0 := by
 rcases Nat.eq_zero_or_pos n with h1 | h1
 ·exact h1
 ·exfalso
  have hl := h.len
  have hla := h.last
  have hv := h.hv
  generalize (u.drop lo).take n = x at *
  have hne : x ≠ [] := fun e => by subst e; simp at hl; omega
  have h2 := Nm.b2A (B := 18446744073709551616) (l := x.dropLast) (hla hne)
  rw [List.dropLast_concat_getLast hne] at h2
  have := Nat.pow_pos (n := x.dropLast.length) (show 0 < 18446744073709551616 by decide)
  omega
theorem Win.nonzero {u : List Nat} {lo n v : Nat} (h : Win u lo n v) (h0 : n = 0) : v = 0 := by
 have := h.hv; subst h0; rw [<- this]; rfl
theorem Win.le {u o : List Nat} {lo n v lo2 n2 v2 : Nat} (h : Win u lo n v) (h2 : Win o lo2 n2 v2) (hle : v2 <= v) : n2 <= n := by
 rcases Nat.lt_or_ge n n2 with h1 | h1
 ·exfalso
  have hl := h2.len
  have hla := h2.last
  have hv := h2.hv
  have hl1 := Nm.I7 18446744073709551616 h.all
  rw [h.len, h.hv] at hl1
  generalize (o.drop lo2).take n2 = x at *
  have hne : x ≠ [] := fun e => by subst e; simp at hl; omega
  have h3 := Nm.b2A (B := 18446744073709551616) (l := x.dropLast) (hla hne)
  rw [List.dropLast_concat_getLast hne, List.length_dropLast] at h3
  have h4 : 18446744073709551616 ^ n <= 18446744073709551616 ^ (x.length - 1) := Nat.pow_le_pow_right (by decide) (by omega)
  omega
 ·exact h1
theorem Win.v2 {u : List Nat} {lo n v : Nat} (h : Win u lo n v) (h0 : v ≠ 0) : Nm.v2 v <= 70368744177664 := by
 obtain ⟨q, h1, h2⟩ := Nm.a2c h0
 have hl1 := Nm.I7 18446744073709551616 h.all
 rw [h.len, h.hv] at hl1
 have h3 : 2 ^ Nm.v2 v <= v := by
  conv => rhs; rw [h1]
  exact Nat.le_mul_of_pos_right _ (by omega)
 have h4 : 2 ^ Nm.v2 v < 2 ^ (64 * n) := by rw [Nat.pow_mul]; exact Nat.lt_of_le_of_lt h3 hl1
 have h5 := (Nat.pow_lt_pow_iff_right (by decide : 1 < 2)).1 h4
 have := h.hn; have := h.hl
 omega
namespace Nm
theorem c0N (n k : Nat) (h : k < 8) : (be8 n)[k]? = some (oB (n / 2 ^ (56 - 8 * k))) := by
 have : k = 0 \/ k = 1 \/ k = 2 \/ k = 3 \/ k = 4 \/ k = 5 \/ k = 6 \/ k = 7 := by omega
 rcases this with rfl | rfl | rfl | rfl | rfl | rfl | rfl | rfl <;> simp [be8]
theorem a7t (n : Nat) : (be8 n).length = 8 := rfl
def a1n (l : List Nat) : List UInt8 := (l.reverse.map be8).flatten
theorem a9W (l : List Nat) (x : Nat) : a1n (l ++ [x]) = be8 x ++ a1n l := by simp [a1n]
theorem b1l (r : List Nat) (h : J3 r.reverse) : (a1n r.reverse).length = 8 * r.length /\ val (a1n r.reverse) = wv 18446744073709551616 r.reverse := by
 induction r with
 | nil => exact ⟨rfl, rfl⟩
 | cons x r ih =>
  rw [List.reverse_cons] at h ⊢
  obtain ⟨h1, h2⟩ := ih fun w hw => h w (List.mem_append_left _ hw)
  rw [a9W, a7m, b5D, h1, h2, b5c (h x (by simp)), List.length_reverse, List.length_append, a7t, h1, List.length_cons]
  refine ⟨by omega, ?_⟩
  rw [Nat.pow_mul, show (256 : Nat) ^ 8 = 18446744073709551616 by decide, Nat.mul_comm x, Nat.add_comm]
theorem b0R {l : List Nat} (h : J3 l) : (a1n l).length = 8 * l.length := by
 have := (b1l l.reverse (by simpa using h)).1
 simpa using this
theorem b8S {l : List Nat} (h : J3 l) : val (a1n l) = wv 18446744073709551616 l := by
 have := (b1l l.reverse (by simpa using h)).2
 simpa using this
def a1a (l : List Nat) (i k : Nat) : List UInt8 := List.replicate (8 * (l.length - 1 - i)) 0 ++ ((be8 (l.getD i 0)).take k ++ List.replicate (8 - k) 0) ++ a1n (l.take i)
def a3n (l : List Nat) (i : Nat) : List UInt8 := List.replicate (8 * (l.length - i)) 0 ++ a1n (l.take i)
theorem b7x (l : List Nat) : a3n l 0 = List.replicate (8 * l.length) 0 := by simp [a3n, a1n]
theorem b3J (l : List Nat) : a3n l l.length = a1n l := by simp [a3n]
theorem b1e {l : List Nat} {i : Nat} (h : i < l.length) : a1a l i 0 = a3n l i := by
 rw [a1a, a3n, List.take_zero, List.nil_append, Nat.sub_zero, List.replicate_append_replicate]
 congr 2; omega
theorem a9G {l : List Nat} {i : Nat} (h : i < l.length) : a1a l i 8 = a3n l (i + 1) := by
 have e : l.take (i + 1) = l.take i ++ [l.getD i 0] := by
  rw [List.take_add_one, List.getD_eq_getElem?_getD, List.getElem?_eq_getElem h]; rfl
 rw [a1a, a3n, e, a9W, List.take_of_length_le (by rw [a7t]; exact Nat.le_refl _), Nat.sub_self, List.replicate_zero, List.append_nil, List.append_assoc]
 congr 3; omega
theorem b3F {l : List Nat} (hl : J3 l) {i k : Nat} (h : i < l.length) (hk : k <= 8) : (a1a l i k).length = 8 * l.length := by
 simp only [a1a, List.length_append, List.length_replicate, List.length_take, a7t, b0R (hl.take i), List.length_take]
 omega
theorem b0F {l : List Nat} {i k : Nat} (hk : k < 8) : (a1a l i k).set (8 * (l.length - 1 - i) + k) (oB (l.getD i 0 / 2 ^ (56 - 8 * k))) = a1a l i (k + 1) := by
 have e : (be8 (l.getD i 0)).take (k + 1) = (be8 (l.getD i 0)).take k ++ [oB (l.getD i 0 / 2 ^ (56 - 8 * k))] := by
  rw [List.take_add_one, c0N _ _ hk]; rfl
 have e2 : List.replicate (8 - k) (0 : UInt8) = 0 :: List.replicate (8 - (k + 1)) 0 := by rw [<- List.replicate_succ]; congr 1; omega
 have hlk : ((be8 (l.getD i 0)).take k).length = k := by rw [List.length_take, a7t]; omega
 rw [a1a, a1a, e, e2, List.set_append_left _ _ (by simp only [List.length_append, List.length_replicate, hlk, List.length_cons]; omega), List.set_append_right _ _ (by simp), List.length_replicate, Nat.add_sub_cancel_left, List.set_append_right _ _ (by omega), hlk, Nat.sub_self, List.set_cons_zero, List.append_assoc (List.take k _), List.singleton_append]
theorem b7R (n : Nat) : val (oB (2 ^ (n % 8)) :: List.replicate (n / 8) 0) = 2 ^ n := by
 have h0 : val (List.replicate (n / 8) (0 : UInt8)) = 0 := by
  generalize n / 8 = k
  induction k with
  | zero => rfl
  | succ k ih => rw [List.replicate_succ, V4, ih]; simp
 have h1 : 2 ^ (n % 8) < 256 := by
  have : 2 ^ (n % 8) <= 2 ^ 7 := Nat.pow_le_pow_right (by decide) (by omega)
  omega
 rw [V4, h0, a1h, Nat.mod_eq_of_lt h1, List.length_replicate, Nat.add_zero, show (256 : Nat) = 2 ^ 8 by decide, <- Nat.pow_mul, <- Nat.pow_add]
 congr 1; omega
end Nm
structure Hv where
 s : Bool
 u : List Nat
 lo : Nat
 n : Nat
 v : Nat
 o : List Nat
 lo2 : Nat
 n2 : Nat
 v2 : Nat
theorem b8Z (a b : List UInt8) (ha : a.length <= 68719476736) (hb : b.length <= 68719476736) (h0a : Nm.val a ≠ 0) (h0b : Nm.val b ≠ 0) : FZ 222 [sb a, sb b] (sb (Nm.enc (Nat.gcd (Nm.val a) (Nm.val b)))) := by
  refine l8.of b1G b1y (by exact Nat.le_of_ble_eq_true rfl) fun w O hw => ?_
  simp only [a5U, l5, TT, II, OA, OB, OC, MM, LL, VV, FF, MG, LG, VG, FG, sb]
  have hla := b5o a (by omega)
  have hlb := b5o b (by omega)
  have hva := Nm.a8U a
  have hvb := Nm.a8U b
  have haa := Nm.a9n a
  have hab := Nm.a9n b
  have hna := Nm.a7U a
  have hnb := Nm.a7U b
  obtain ⟨za, hza, hoa⟩ := Nm.a2c h0a
  obtain ⟨zb, hzb, hob⟩ := Nm.a2c h0b
  have hG : Nat.gcd (Nm.val a) (Nm.val b) = 2 ^ (min (Nm.v2 (Nm.val a)) (Nm.v2 (Nm.val b))) * Nat.gcd za zb := by
    conv => lhs; rw [hza, hzb]
    exact Nm.c0i hoa hob
  rw [hG]
  have fea := a7g (Nm.M6 a) (by omega) haa (by rw [hva]; exact h0a)
  have feb := a7g (Nm.M6 b) (by omega) hab (by rw [hvb]; exact h0b)
  rw [hva] at fea
  rw [hvb] at feb
  have hba : Nm.v2 (Nm.val a) <= 549755813888 := by
    have h1 := Nm.U7 a
    have h3 : 2 ^ Nm.v2 (Nm.val a) <= Nm.val a := by
      conv => rhs; rw [hza]
      exact Nat.le_mul_of_pos_right _ (by omega)
    have h4 : 2 ^ Nm.v2 (Nm.val a) < 2 ^ (8 * a.length) := by rw [Nat.pow_mul]; exact Nat.lt_of_le_of_lt h3 h1
    have h5 := (Nat.pow_lt_pow_iff_right (by decide : 1 < 2)).1 h4
    omega
  have hbb : Nm.v2 (Nm.val b) <= 549755813888 := by
    have h1 := Nm.U7 b
    have h3 : 2 ^ Nm.v2 (Nm.val b) <= Nm.val b := by
      conv => rhs; rw [hzb]
      exact Nat.le_mul_of_pos_right _ (by omega)
    have h4 : 2 ^ Nm.v2 (Nm.val b) < 2 ^ (8 * b.length) := by rw [Nat.pow_mul]; exact Nat.lt_of_le_of_lt h3 h1
    have h5 := (Nat.pow_lt_pow_iff_right (by decide : 1 < 2)).1 h4
    omega
  have hla0 : 0 < (Nm.M6 a).length := by
    rcases Nat.eq_zero_or_pos (Nm.M6 a).length with h | h
    · have := List.length_eq_zero_iff.1 h
      rw [this] at hva; exact absurd hva.symm h0a
    · exact h
  have hlb0 : 0 < (Nm.M6 b).length := by
    rcases Nat.eq_zero_or_pos (Nm.M6 b).length with h | h
    · have := List.length_eq_zero_iff.1 h
      rw [this] at hvb; exact absurd hvb.symm h0b
    · exact h
  generalize Nm.v2 (Nm.val a) = p at *
  generalize Nm.v2 (Nm.val b) = q at *
  have hwa : Nm.wv 18446744073709551616 (((Nm.M6 a).drop 0).take (Nm.M6 a).length) = za * 2 ^ p := by
    rw [List.drop_zero, List.take_length, hva, hza, Nat.mul_comm]
  have hwb : Nm.wv 18446744073709551616 (((Nm.M6 b).drop 0).take (Nm.M6 b).length) = zb * 2 ^ q := by
    rw [List.drop_zero, List.take_length, hvb, hzb, Nat.mul_comm]
  clear hG hza hzb hva hvb h0a h0b
  generalize hA : Nm.M6 a = A at *
  generalize hB : Nm.M6 b = B at *
  have hr1 := fun (E : Ctx) (hP : E.P = Tryz.prog) => a7q (E := E) hP true A B 0 A.length p za (by omega) (by omega) (by omega) haa (by omega) hwa
  obtain ⟨hj1, hz1, _⟩ := hr1 ⟨Tryz.prog, eff, 0, w, fun _ => False, O, [], []⟩ rfl
  have hr1 := fun E hP => (hr1 E hP).2.2
  have hW1 := Win.put (u := A) (l1 := 0 + p / 64) (p := A.length - p / 64) (z := za) (by omega) (by omega) (by omega) haa hz1
  generalize hA1 : put A (0 + p / 64) (Nm.dig 18446744073709551616 (A.length - p / 64) za) = A1 at *
  generalize 0 + p / 64 = la at *
  generalize (Nm.E8 (Nm.dig 18446744073709551616 (A.length - p / 64) za)).length = na at *
  have hr2 := fun (E : Ctx) (hP : E.P = Tryz.prog) => a7q (E := E) hP false B A1 0 B.length q zb (by omega) (by omega) (by omega) hab (by omega) hwb
  obtain ⟨hj2, hz2, _⟩ := hr2 ⟨Tryz.prog, eff, 0, w, fun _ => False, O, [], []⟩ rfl
  have hr2 := fun E hP => (hr2 E hP).2.2
  have hW2 := Win.put (u := B) (l1 := 0 + q / 64) (p := B.length - q / 64) (z := zb) (by omega) (by omega) (by omega) hab hz2
  generalize hB1 : put B (0 + q / 64) (Nm.dig 18446744073709551616 (B.length - q / 64) zb) = B1 at *
  generalize 0 + q / 64 = lb at *
  generalize (Nm.E8 (Nm.dig 18446744073709551616 (B.length - q / 64) zb)).length = nb at *
  have hr1' : ∀ (E : Ctx), E.P = Tryz.prog -> p8 E [.row 189 1 (ls A), .row 189 1 (ls B)] 240 [.rv 0, ints p] (.wv 0 1 la na) [.row 189 1 (ls A1), .row 189 1 (ls B)] [] := fun E hP => p8.imp (hr1 E hP) (l6.cons (Imp.win (k := 0) (e := 189) (sz := 1) (es := ls A) rfl (q8 _).symm (by simp)) (l6.cons (Imp.refl rfl) l6.nil))
  have hr2' : ∀ (E : Ctx), E.P = Tryz.prog -> p8 E [.row 189 1 (ls A1), .row 189 1 (ls B)] 240 [.rv 1, ints q] (.wv 1 1 lb nb) [.row 189 1 (ls A1), .row 189 1 (ls B1)] [] := fun E hP => p8.imp (hr2 E hP) (l6.cons (Imp.win (k := 1) (e := 189) (sz := 1) (es := ls B) rfl (q8 _).symm (by simp)) (l6.cons (Imp.refl rfl) l6.nil))
  (repeat first | refine uA ?_ | (apply S.exit; exact rfl) | (refine uK ?_ ?_; focus first | omega | trivial | exact id | (intro h; rw [h]; rfl) | (intro h h2; rw [h, h2]; rfl) | (intro h; (try simp at h); omega) | (intros; simp_all <;> omega)) | simp only [go_sem, Nat.reduceBEq, Nat.reduceAdd, Nat.reduceLeDiff, Int.reduceToNat, Int.reducePow] | simp (disch := omega) only [ww] | refine q9.t (FNew.t hla rfl) ?_ | refine q9.t (FNew.t hlb rfl) ?_ | refine q9.t (hr1' _ rfl) ?_ | refine q9.t (hr2' _ rfl) ?_ | (refine uE fea ?_ ?_ ?_ ?_; exact tz hw; exact rfl; focus (repeat' first | exact l6.nil | exact Imp.refl rfl | exact Imp.frz rfl rfl rfl | (refine Imp.I8 rfl rfl ?_ ?_; (focus ((try simp only [List.length_append]); omega)); (focus first | rfl | assumption)) | refine l6.cons ?_ ?_); done) | (refine uE feb ?_ ?_ ?_ ?_; exact tz hw; exact rfl; focus (repeat' first | exact l6.nil | exact Imp.refl rfl | exact Imp.frz rfl rfl rfl | (refine Imp.I8 rfl rfl ?_ ?_; (focus ((try simp only [List.length_append]); omega)); (focus first | rfl | assumption)) | refine l6.cons ?_ ?_); done))
  clear hr1 hr2 hr1' hr2' hla hlb fea feb hwa hwb hA hB hA1 hB1 hz1 hz2 hj1 hj2 haa hab hla0 hlb0 hna hnb
  have hmin : min p q <= 549755813888 := by omega
  generalize hG : Nat.gcd za zb = G at *
  refine S.b6E (Y := Hv) (fun x => ⟨[(5, .wv (kx x.s) 1 x.lo x.n), (6, .wv (kx !x.s) 1 x.lo2 x.n2), (7, ints p), (8, ints q)], rw2 x.s x.u x.o⟩)
    (fun x => Win x.u x.lo x.n x.v /\ Win x.o x.lo2 x.n2 x.v2 /\ ((x.n = 0 /\ x.v2 = G) \/ (x.n = 1 /\ x.n2 = 1 /\ Nat.gcd x.v x.v2 = G))) ?_ ?_
  · refine S.loop (X := Hv) (fun x => ⟨[(5, .wv (kx x.s) 1 x.lo x.n), (6, .wv (kx !x.s) 1 x.lo2 x.n2), (7, ints p), (8, ints q)], rw2 x.s x.u x.o⟩)
      (fun x => Win x.u x.lo x.n x.v /\ Win x.o x.lo2 x.n2 x.v2 /\ x.v % 2 = 1 /\ x.v2 % 2 = 1 /\ Nat.gcd x.v x.v2 = G) (fun x => x.v + x.v2) ⟨true, A1, la, na, za, B1, lb, nb, zb⟩ ⟨hW1, hW2, hoa, hob, hG⟩ (by (repeat first | refine uA ?_ | (refine ⟨?_, ?_⟩; focus first | rfl | trivial | (simp [slot]; done)) | rfl | trivial | simp)) ?_
    clear hW1 hW2 hG hoa hob
    rintro ⟨s, u, lo, n, v, o, lo2, n2, v2⟩ ⟨hW1, hW2, hoa, hob, hG⟩
    simp only [ints] at hW1 hW2 hoa hob hG ⊢
    (repeat first | refine uA ?_ | (apply S.exit; exact rfl) | (refine uK ?_ ?_; focus first | omega | trivial | exact id | (intro h; rw [h]; rfl) | (intro h h2; rw [h, h2]; rfl) | (intro h; (try simp at h); omega) | (intros; simp_all <;> omega)) | simp only [go_sem, Nat.reduceBEq, Nat.reduceAdd, Nat.reduceLeDiff, Int.reduceToNat, Int.reducePow] | simp (disch := omega) only [ww])
    (refine uJ rfl (fun hc => ?_) fun hc => ?_)
    · refine S.skip ?_
      refine S.block ?_
      refine S.seq ?_
      have hl1 := hW1.hl
      have hl2 := hW2.hl
      have hn1 := hW1.hn
      have hn2 := hW2.hn
      have hwl : ∀ (u : List Nat) lo n, ls ((u.drop lo).take n) = ((ls u).drop lo).take n := fun u lo n => by simp [ls, List.map_drop, List.map_take]
      refine S.join (Y := Hv) (fun x => ⟨[(5, .wv (kx x.s) 1 x.lo x.n), (6, .wv (kx !x.s) 1 x.lo2 x.n2), (7, ints p), (8, ints q)], rw2 x.s x.u x.o⟩)
        (fun x => Win x.u x.lo x.n x.v /\ Win x.o x.lo2 x.n2 x.v2 /\ x.v % 2 = 1 /\ x.v2 % 2 = 1 /\ Nat.gcd x.v x.v2 = G /\ x.v2 <= x.v /\ x.v + x.v2 = v + v2) ?_ ?_
      · have hb := c1r ((u.drop lo).take n) ((o.drop lo2).take n2) (by rw [hW1.len]; omega) (by rw [hW2.len]; omega) hW1.all hW2.all hW1.last hW2.last
        rw [hwl, hwl, hW1.hv, hW2.hv] at hb
        cases s
        all_goals
          simp only [rw2, kx, Bool.not_true, Bool.not_false]
          (repeat first | refine uA ?_ | (apply S.exit; exact rfl) | (refine uK ?_ ?_; focus first | omega | trivial | exact id | (intro h; rw [h]; rfl) | (intro h h2; rw [h, h2]; rfl) | (intro h; (try simp at h); omega) | (intros; simp_all <;> omega)) | simp only [go_sem, Nat.reduceBEq, Nat.reduceAdd, Nat.reduceLeDiff, Int.reduceToNat, Int.reducePow, q8] | simp (disch := omega) only [ww, q8] | (refine uC hb ?_ ?_ ?_; exact rfl; focus (repeat' first | exact l6.nil | exact Imp.refl rfl | exact Imp.frz rfl rfl rfl | (refine Imp.I8 rfl rfl ?_ ?_; (focus ((try simp only [List.length_append, q8]); omega)); (focus first | rfl | assumption)) | refine l6.cons ?_ ?_); done))
          refine S.cond rfl (fun hc => ?_) (fun hc => ?_)
          all_goals simp only [decide_eq_true_eq, decide_eq_false_iff_not] at hc
        · (repeat first | refine uA ?_ | (apply S.exit; exact rfl) | (refine uK ?_ ?_; focus first | omega | trivial | exact id | (intro h; rw [h]; rfl) | (intro h h2; rw [h, h2]; rfl) | (intro h; (try simp at h); omega) | (intros; simp_all <;> omega)) | simp only [go_sem, Nat.reduceBEq, Nat.reduceAdd, Nat.reduceLeDiff, Int.reduceToNat, Int.reducePow] | simp (disch := omega) only [ww])
          exact S.met ⟨true, o, lo2, n2, v2, u, lo, n, v⟩ ⟨hW2, hW1, hob, hoa, by rw [Nat.gcd_comm]; exact hG, by simp only; omega, by simp only; omega⟩ (by (repeat first | refine uA ?_ | (refine ⟨?_, ?_⟩; focus first | rfl | trivial | (simp [slot]; done)) | rfl | trivial | simp))
        · (repeat first | refine uA ?_ | (apply S.exit; exact rfl) | (refine uK ?_ ?_; focus first | omega | trivial | exact id | (intro h; rw [h]; rfl) | (intro h h2; rw [h, h2]; rfl) | (intro h; (try simp at h); omega) | (intros; simp_all <;> omega)) | simp only [go_sem, Nat.reduceBEq, Nat.reduceAdd, Nat.reduceLeDiff, Int.reduceToNat, Int.reducePow] | simp (disch := omega) only [ww])
          exact S.met ⟨false, u, lo, n, v, o, lo2, n2, v2⟩ ⟨hW1, hW2, hoa, hob, hG, by simp only; omega, rfl⟩ (by (repeat first | refine uA ?_ | (refine ⟨?_, ?_⟩; focus first | rfl | trivial | (simp [slot]; done)) | rfl | trivial | simp))
        · (repeat first | refine uA ?_ | (apply S.exit; exact rfl) | (refine uK ?_ ?_; focus first | omega | trivial | exact id | (intro h; rw [h]; rfl) | (intro h h2; rw [h, h2]; rfl) | (intro h; (try simp at h); omega) | (intros; simp_all <;> omega)) | simp only [go_sem, Nat.reduceBEq, Nat.reduceAdd, Nat.reduceLeDiff, Int.reduceToNat, Int.reducePow] | simp (disch := omega) only [ww])
          exact S.met ⟨false, o, lo2, n2, v2, u, lo, n, v⟩ ⟨hW2, hW1, hob, hoa, by rw [Nat.gcd_comm]; exact hG, by simp only; omega, by simp only; omega⟩ (by (repeat first | refine uA ?_ | (refine ⟨?_, ?_⟩; focus first | rfl | trivial | (simp [slot]; done)) | rfl | trivial | simp))
        · (repeat first | refine uA ?_ | (apply S.exit; exact rfl) | (refine uK ?_ ?_; focus first | omega | trivial | exact id | (intro h; rw [h]; rfl) | (intro h h2; rw [h, h2]; rfl) | (intro h; (try simp at h); omega) | (intros; simp_all <;> omega)) | simp only [go_sem, Nat.reduceBEq, Nat.reduceAdd, Nat.reduceLeDiff, Int.reduceToNat, Int.reducePow] | simp (disch := omega) only [ww])
          exact S.met ⟨true, u, lo, n, v, o, lo2, n2, v2⟩ ⟨hW1, hW2, hoa, hob, hG, by simp only; omega, rfl⟩ (by (repeat first | refine uA ?_ | (refine ⟨?_, ?_⟩; focus first | rfl | trivial | (simp [slot]; done)) | rfl | trivial | simp))
      clear hl1 hl2 hn1 hn2 hW1 hW2 hoa hob hG hc
      rintro ⟨s, u1, lo1, n1, x1, o1, lo3, n3, x3⟩ ⟨hW1, hW2, hoa, hob, hG, hle, hsum⟩
      simp only [ints] at hW1 hW2 hoa hob hG hle hsum ⊢
      have hl1 := hW1.hl
      have hl2 := hW2.hl
      have hn1 := hW1.hn
      have hn2 := hW2.hn
      have hlo1 := hW1.hlo
      have hlt1 : x1 < 18446744073709551616 ^ n1 := by
        have := Nm.I7 18446744073709551616 hW1.all
        rwa [hW1.len, hW1.hv] at this
      have hmin := fun (E : Ctx) (hP : E.P = Tryz.prog) (s : Bool) => c0E (E := E) hP s u1 o1 lo1 n1 lo3 n3 (by omega) (by omega) hn1 hlo1 hn2 (hW1.le hW2 hle) hW1.ha hW2.ha hW1.hv.symm hW2.hv.symm hle
      have hW3 := Win.put (u := u1) (l1 := lo1) (p := n1) (z := x1 - x3) hn1 hlo1 hl1 hW1.ha (by omega)
      generalize put u1 lo1 (Nm.dig 18446744073709551616 n1 (x1 - x3)) = u2 at *
      generalize (Nm.E8 (Nm.dig 18446744073709551616 n1 (x1 - x3))).length = m1 at *
      have hl3 := hW3.hl
      have hn3 := hW3.hn
      have hmt : ∀ E : Ctx, E.P = Tryz.prog -> p8 E [.row 189 1 (ls u1), .row 189 1 (ls o1)] 242 [.wv 0 1 lo1 n1, .wv 1 1 lo3 n3] (.wv 0 1 lo1 m1) [.row 189 1 (ls u2), .row 189 1 (ls o1)] [] := fun E hP => hmin E hP true
      have hmf : ∀ E : Ctx, E.P = Tryz.prog -> p8 E [.row 189 1 (ls o1), .row 189 1 (ls u1)] 242 [.wv 1 1 lo1 n1, .wv 0 1 lo3 n3] (.wv 1 1 lo1 m1) [.row 189 1 (ls o1), .row 189 1 (ls u2)] [] := fun E hP => hmin E hP false
      clear hmin
      cases s
      all_goals
        simp only [rw2, kx, Bool.not_true, Bool.not_false]
        (repeat first | refine uA ?_ | (apply S.exit; exact rfl) | (refine uK ?_ ?_; focus first | omega | trivial | exact id | (intro h; rw [h]; rfl) | (intro h h2; rw [h, h2]; rfl) | (intro h; (try simp at h); omega) | (intros; simp_all <;> omega)) | simp only [go_sem, Nat.reduceBEq, Nat.reduceAdd, Nat.reduceLeDiff, Int.reduceToNat, Int.reducePow, q8] | simp (disch := omega) only [ww, q8] | refine q9.t (hmt _ rfl) ?_ | refine q9.t (hmf _ rfl) ?_)
        (refine uJ rfl (fun hc => ?_) fun hc => ?_)
      · (repeat first | refine uA ?_ | (apply S.exit; exact rfl) | (refine uK ?_ ?_; focus first | omega | trivial | exact id | (intro h; rw [h]; rfl) | (intro h h2; rw [h, h2]; rfl) | (intro h; (try simp at h); omega) | (intros; simp_all <;> omega)) | simp only [go_sem, Nat.reduceBEq, Nat.reduceAdd, Nat.reduceLeDiff, Int.reduceToNat, Int.reducePow] | simp (disch := omega) only [ww])
        have h0 := hW3.nonzero (by omega)
        have h1 : x1 = x3 := by omega
        subst h1
        rw [Nat.gcd_self] at hG
        exact S.met ⟨false, u2, lo1, m1, x1 - x1, o1, lo3, n3, x1⟩ ⟨hW3, hW2, .inl ⟨by simp only; omega, hG⟩⟩ (by (repeat first | refine uA ?_ | (refine ⟨?_, ?_⟩; focus first | rfl | trivial | (simp [slot]; done)) | rfl | trivial | simp))
      · have h0 : x1 - x3 ≠ 0 := fun h => by have := hW3.zero h; omega
        obtain ⟨z, hz, hoz⟩ := Nm.a2c h0
        have hev := a7g ((u2.drop lo1).take m1) (by rw [hW3.len]; omega) hW3.all (by rw [hW3.hv]; exact h0)
        rw [hwl, hW3.hv] at hev
        have heb := hW3.v2 h0
        generalize Nm.v2 (x1 - x3) = e at *
        have hrg := fun (E : Ctx) (hP : E.P = Tryz.prog) => a7q (E := E) hP false u2 o1 lo1 m1 e z (by omega) hn3 heb hW3.ha (by omega) (by rw [hW3.hv, hz, Nat.mul_comm])
        obtain ⟨hj, hz2, _⟩ := hrg ⟨Tryz.prog, eff, 0, w, fun _ => False, O, [], []⟩ rfl
        have hrg := fun E hP => (hrg E hP).2.2
        have hW4 := Win.put (u := u2) (l1 := lo1 + e / 64) (p := m1 - e / 64) (z := z) (by omega) (by omega) hl3 hW3.ha hz2
        generalize put u2 (lo1 + e / 64) (Nm.dig 18446744073709551616 (m1 - e / 64) z) = u4 at *
        generalize lo1 + e / 64 = lo4 at *
        generalize (Nm.E8 (Nm.dig 18446744073709551616 (m1 - e / 64) z)).length = m4 at *
        have hrg' : ∀ (E : Ctx), E.P = Tryz.prog -> p8 E [.row 189 1 (ls o1), .row 189 1 (ls u2)] 240 [.wv 1 1 lo1 m1, ints e] (.wv 1 1 lo4 m4) [.row 189 1 (ls o1), .row 189 1 (ls u4)] [] := fun E hP => hrg E hP
        have hgz : Nat.gcd z x3 = G := by
          have h1 := Nm.a5n (d := z) hob e
          rw [<- h1, <- hz, Nm.b0T hle, hG]
        have hzle : z <= x1 - x3 := by
          conv => rhs; rw [hz]
          exact Nat.le_mul_of_pos_left _ (Nat.pow_pos (by decide))
        (repeat first | refine uA ?_ | (apply S.exit; exact rfl) | (refine uK ?_ ?_; focus first | omega | trivial | exact id | (intro h; rw [h]; rfl) | (intro h h2; rw [h, h2]; rfl) | (intro h; (try simp at h); omega) | (intros; simp_all <;> omega)) | simp only [go_sem, Nat.reduceBEq, Nat.reduceAdd, Nat.reduceLeDiff, Int.reduceToNat, Int.reducePow, q8] | simp (disch := omega) only [ww, q8] | refine q9.t (hrg' _ rfl) ?_ | (refine uE hev ?_ ?_ ?_ ?_; exact tz hw; exact rfl; focus (repeat' first | exact l6.nil | exact Imp.refl rfl | exact Imp.frz rfl rfl rfl | (refine Imp.I8 rfl rfl ?_ ?_; (focus ((try simp only [List.length_append, q8]); omega)); (focus first | rfl | assumption)) | refine l6.cons ?_ ?_); done))
        refine S.next (x := (⟨true, u, lo, n, v, o, lo2, n2, v2⟩ : Hv)) (⟨false, u4, lo4, m4, z, o1, lo3, n3, x3⟩ : Hv) ⟨hW4, hW2, hoz, hob, hgz⟩ (by simp only; omega) (by (repeat first | refine uA ?_ | (refine ⟨?_, ?_⟩; focus first | rfl | trivial | (simp [slot]; done)) | rfl | trivial | simp))
      · (repeat first | refine uA ?_ | (apply S.exit; exact rfl) | (refine uK ?_ ?_; focus first | omega | trivial | exact id | (intro h; rw [h]; rfl) | (intro h h2; rw [h, h2]; rfl) | (intro h; (try simp at h); omega) | (intros; simp_all <;> omega)) | simp only [go_sem, Nat.reduceBEq, Nat.reduceAdd, Nat.reduceLeDiff, Int.reduceToNat, Int.reducePow] | simp (disch := omega) only [ww])
        have h0 := hW3.nonzero (by omega)
        have h1 : x1 = x3 := by omega
        subst h1
        rw [Nat.gcd_self] at hG
        exact S.met ⟨true, u2, lo1, m1, x1 - x1, o1, lo3, n3, x1⟩ ⟨hW3, hW2, .inl ⟨by simp only; omega, hG⟩⟩ (by (repeat first | refine uA ?_ | (refine ⟨?_, ?_⟩; focus first | rfl | trivial | (simp [slot]; done)) | rfl | trivial | simp))
      · have h0 : x1 - x3 ≠ 0 := fun h => by have := hW3.zero h; omega
        obtain ⟨z, hz, hoz⟩ := Nm.a2c h0
        have hev := a7g ((u2.drop lo1).take m1) (by rw [hW3.len]; omega) hW3.all (by rw [hW3.hv]; exact h0)
        rw [hwl, hW3.hv] at hev
        have heb := hW3.v2 h0
        generalize Nm.v2 (x1 - x3) = e at *
        have hrg := fun (E : Ctx) (hP : E.P = Tryz.prog) => a7q (E := E) hP true u2 o1 lo1 m1 e z (by omega) hn3 heb hW3.ha (by omega) (by rw [hW3.hv, hz, Nat.mul_comm])
        obtain ⟨hj, hz2, _⟩ := hrg ⟨Tryz.prog, eff, 0, w, fun _ => False, O, [], []⟩ rfl
        have hrg := fun E hP => (hrg E hP).2.2
        have hW4 := Win.put (u := u2) (l1 := lo1 + e / 64) (p := m1 - e / 64) (z := z) (by omega) (by omega) hl3 hW3.ha hz2
        generalize put u2 (lo1 + e / 64) (Nm.dig 18446744073709551616 (m1 - e / 64) z) = u4 at *
        generalize lo1 + e / 64 = lo4 at *
        generalize (Nm.E8 (Nm.dig 18446744073709551616 (m1 - e / 64) z)).length = m4 at *
        have hrg' : ∀ (E : Ctx), E.P = Tryz.prog -> p8 E [.row 189 1 (ls u2), .row 189 1 (ls o1)] 240 [.wv 0 1 lo1 m1, ints e] (.wv 0 1 lo4 m4) [.row 189 1 (ls u4), .row 189 1 (ls o1)] [] := fun E hP => hrg E hP
        have hgz : Nat.gcd z x3 = G := by
          have h1 := Nm.a5n (d := z) hob e
          rw [<- h1, <- hz, Nm.b0T hle, hG]
        have hzle : z <= x1 - x3 := by
          conv => rhs; rw [hz]
          exact Nat.le_mul_of_pos_left _ (Nat.pow_pos (by decide))
        (repeat first | refine uA ?_ | (apply S.exit; exact rfl) | (refine uK ?_ ?_; focus first | omega | trivial | exact id | (intro h; rw [h]; rfl) | (intro h h2; rw [h, h2]; rfl) | (intro h; (try simp at h); omega) | (intros; simp_all <;> omega)) | simp only [go_sem, Nat.reduceBEq, Nat.reduceAdd, Nat.reduceLeDiff, Int.reduceToNat, Int.reducePow, q8] | simp (disch := omega) only [ww, q8] | refine q9.t (hrg' _ rfl) ?_ | (refine uE hev ?_ ?_ ?_ ?_; exact tz hw; exact rfl; focus (repeat' first | exact l6.nil | exact Imp.refl rfl | exact Imp.frz rfl rfl rfl | (refine Imp.I8 rfl rfl ?_ ?_; (focus ((try simp only [List.length_append, q8]); omega)); (focus first | rfl | assumption)) | refine l6.cons ?_ ?_); done))
        refine S.next (x := (⟨true, u, lo, n, v, o, lo2, n2, v2⟩ : Hv)) (⟨true, u4, lo4, m4, z, o1, lo3, n3, x3⟩ : Hv) ⟨hW4, hW2, hoz, hob, hgz⟩ (by simp only; omega) (by (repeat first | refine uA ?_ | (refine ⟨?_, ?_⟩; focus first | rfl | trivial | (simp [slot]; done)) | rfl | trivial | simp))
    · (repeat first | refine uA ?_ | (apply S.exit; exact rfl) | (refine uK ?_ ?_; focus first | omega | trivial | exact id | (intro h; rw [h]; rfl) | (intro h h2; rw [h, h2]; rfl) | (intro h; (try simp at h); omega) | (intros; simp_all <;> omega)) | simp only [go_sem, Nat.reduceBEq, Nat.reduceAdd, Nat.reduceLeDiff, Int.reduceToNat, Int.reducePow] | simp (disch := omega) only [ww])
      have ha1 : n <= 1 /\ n2 <= 1 := by omega
      have hz1 : n ≠ 0 := fun h => by have := hW1.nonzero h; omega
      have hz2 : n2 ≠ 0 := fun h => by have := hW2.nonzero h; omega
      exact S.met ⟨s, u, lo, n, v, o, lo2, n2, v2⟩ ⟨hW1, hW2,   .inr ⟨by simp only; omega, by simp only; omega, hG⟩⟩ (by cases s <;> exact (by (repeat first | refine uA ?_ | (refine ⟨?_, ?_⟩; focus first | rfl | trivial | (simp [slot]; done)) | rfl | trivial | simp)))
  clear hW1 hW2 hG hoa hob
  rintro ⟨s, u, lo, n, v, o, lo2, n2, v2⟩ ⟨hW1, hW2, hcs⟩
  simp only [ints] at hW1 hW2 hcs ⊢
  refine S.seq ?_
  have hl1 := hW1.hl
  have hl2 := hW2.hl
  have hn1 := hW1.hn
  have hn2 := hW2.hn
  have hlo1 := hW1.hlo
  have hlo2 := hW2.hlo
  refine S.join (Y := Bool × List Nat × List Nat) (fun x => ⟨[(6, .wv (kx !x.1) 1 lo2 n2), (7, ints p), (8, ints q)], rw2 x.1 x.2.1 x.2.2⟩)
    (fun x => x.2.2.length = o.length /\ Nm.J3 x.2.2 /\ Nm.wv 18446744073709551616 ((x.2.2.drop lo2).take n2) = G) ?_ ?_
  · have one : ∀ {u : List Nat} {lo v : Nat}, Win u lo 1 v -> u[lo]? = some v /\ v < 18446744073709551616 := fun {u lo v} h => by
      have hg : u[lo]? = some (u[lo]'h.hlo) := List.getElem?_eq_getElem h.hlo
      have h1 := h.hv
      have h2 : (u.drop lo).take 1 = [u[lo]'h.hlo] := by rw [List.drop_eq_getElem_cons h.hlo]; rfl
      rw [h2] at h1
      simp only [Nm.wv] at h1
      have h3 := h.ha _ (List.getElem_mem h.hlo)
      rw [Nat.mul_zero, Nat.add_zero] at h1
      rw [hg, h1]
      exact ⟨rfl, by omega⟩
    (repeat first | refine uA ?_ | (apply S.exit; exact rfl) | (refine uK ?_ ?_; focus first | omega | trivial | exact id | (intro h; rw [h]; rfl) | (intro h h2; rw [h, h2]; rfl) | (intro h; (try simp at h); omega) | (intros; simp_all <;> omega)) | simp only [go_sem, Nat.reduceBEq, Nat.reduceAdd, Nat.reduceLeDiff, Int.reduceToNat, Int.reducePow] | simp (disch := omega) only [ww])
    (refine uJ rfl (fun hc => ?_) fun hc => ?_)
    · have hn : n = 1 := by omega
      have hm : n2 = 1 := by omega
      subst hn hm
      obtain ⟨g1, b1⟩ := one hW1
      obtain ⟨g2, b2⟩ := one hW2
      have hg : Nat.gcd v v2 = G := by rcases hcs with h | h; exact absurd h.1 (by decide); exact h.2.2
      have hco := b2R v v2 b1 b2
      rw [hg] at hco
      have hres : Nm.wv 18446744073709551616 (((o.set lo2 G).drop lo2).take 1) = G := by
        rw [List.drop_eq_getElem_cons (by rw [List.length_set]; exact hlo2), List.getElem_set_self]
        simp [Nm.wv]
      have hG64 : G < 18446744073709551616 := by
        have : v2 ≠ 0 := fun h => by have := hW2.zero h; omega
        have := Nat.gcd_le_right v (show 0 < v2 by omega)
        omega
      cases s
      all_goals
        simp only [rw2, kx, Bool.not_true, Bool.not_false]
        (repeat first | refine uA ?_ | (apply S.exit; exact rfl) | (refine uK ?_ ?_; focus first | omega | trivial | exact id | (intro h; rw [h]; rfl) | (intro h h2; rw [h, h2]; rfl) | (intro h; (try simp at h); omega) | (intros; simp_all <;> omega)) | simp only [go_sem, Nat.reduceBEq, Nat.reduceAdd, Nat.reduceLeDiff, Int.reduceToNat, Int.reducePow, q8, G5, g1, g2, Option.map_some, lm, Nat.add_zero, T9] | simp (disch := omega) only [ww, q8, G5, g1, g2, Option.map_some, lm, Nat.add_zero, T9] | (refine uB hco ?_ ?_; exact rfl))
      · exact S.met (⟨false, u, o.set lo2 G⟩ : Bool × List Nat × List Nat) ⟨by simp, fun w hw => by
          rcases Nm.mem_set hw with rfl | hw
          · exact hG64
          · exact hW2.ha w hw, hres⟩ (by (repeat first | refine uA ?_ | (refine ⟨?_, ?_⟩; focus first | rfl | trivial | (simp [slot]; done)) | rfl | trivial | simp))
      · exact S.met (⟨true, u, o.set lo2 G⟩ : Bool × List Nat × List Nat) ⟨by simp, fun w hw => by
          rcases Nm.mem_set hw with rfl | hw
          · exact hG64
          · exact hW2.ha w hw, hres⟩ (by (repeat first | refine uA ?_ | (refine ⟨?_, ?_⟩; focus first | rfl | trivial | (simp [slot]; done)) | rfl | trivial | simp))
    · (repeat first | refine uA ?_ | (apply S.exit; exact rfl) | (refine uK ?_ ?_; focus first | omega | trivial | exact id | (intro h; rw [h]; rfl) | (intro h h2; rw [h, h2]; rfl) | (intro h; (try simp at h); omega) | (intros; simp_all <;> omega)) | simp only [go_sem, Nat.reduceBEq, Nat.reduceAdd, Nat.reduceLeDiff, Int.reduceToNat, Int.reducePow] | simp (disch := omega) only [ww])
      have hg : v2 = G := by
        rcases hcs with h | h
        · exact h.2
        · omega
      exact S.met (⟨s, u, o⟩ : Bool × List Nat × List Nat) ⟨rfl, hW2.ha, by rw [<- hg]; exact hW2.hv⟩ (by cases s <;> exact (by (repeat first | refine uA ?_ | (refine ⟨?_, ?_⟩; focus first | rfl | trivial | (simp [slot]; done)) | rfl | trivial | simp)))
  rintro ⟨s', u', o'⟩ ⟨ho1, ho2, ho3⟩
  simp only [ints] at ho1 ho2 ho3 ⊢
  have hul : ((o'.drop lo2).take n2).length = n2 := by rw [List.length_take, List.length_drop]; omega
  have hua : Nm.J3 ((o'.drop lo2).take n2) := (ho2.drop lo2).take _
  have hgw : ∀ i, i < n2 -> o'[lo2 + i]? = ((o'.drop lo2).take n2)[i]? := fun i hi => by rw [List.getElem?_take_of_lt hi, List.getElem?_drop]
  generalize (o'.drop lo2).take n2 = W at *
  have hfm := a2q (Nm.a1n W) (Nm.oB (2 ^ (min p q % 8)) :: List.replicate (min p q / 8) 0) (by rw [Nm.b0R hua]; omega) (by rw [List.length_cons, List.length_replicate]; omega)
  rw [Nm.b7R, Nm.b8S hua, ho3, Nat.mul_comm] at hfm
  have hWl : W.length <= 17179869184 := by omega
  have hz8 : List.replicate (8 * (n2 : Int)).toNat [C.v (.int .u8 0)] = (Nm.a3n W 0).map H7 := by
    rw [Nm.b7x, <- a2i, show (8 * (n2 : Int)).toNat = 8 * W.length by omega]
  have hqm : IntKind.i64.wrap (((min p q : Nat) : Int).tdiv 8) = ((min p q / 8 : Nat) : Int) := b6f _ (by omega)
  have hmn : (if (q : Int) < (p : Int) then (q : Int) else (p : Int)) = ((min p q : Nat) : Int) := by split <;> omega
  generalize min p q = r at *
  clear hW1 hW2 hcs hn1 hl1 hlo1 ho3
  cases s'
  all_goals
    simp only [rw2, kx, Bool.not_true, Bool.not_false]
    (repeat first | refine uA ?_ | (apply S.exit; exact rfl) | (refine uK ?_ ?_; focus first | omega | trivial | exact id | (intro h; rw [h]; rfl) | (intro h h2; rw [h, h2]; rfl) | (intro h; (try simp at h); omega) | (intros; simp_all <;> omega)) | simp only [go_sem, Nat.reduceBEq, Nat.reduceAdd, Nat.reduceLeDiff, Int.reduceToNat, Int.reducePow, q8, hz8] | simp (disch := omega) only [ww, q8, hz8])
  · refine S.loop (X := Nat) (fun i => ⟨[(6, .wv 0 1 lo2 n2), (7, ints p), (8, ints q), (9, .rv 2), (72, .wv 0 1 lo2 n2), (73, ints n2), (74, ints i)], [.row 189 1 (ls o'), .row 189 1 (ls u')] ++ [.row 5 1 ((Nm.a3n W i).map H7)]⟩) (fun i => i <= n2) (fun i => n2 - i) 0 (Nat.zero_le _) (by (repeat first | refine uA ?_ | (refine ⟨?_, ?_⟩; focus first | rfl | trivial | (simp [slot]; done)) | rfl | trivial | simp)) ?_
    intro i hi
    simp only [ints, List.cons_append, List.nil_append]
    (repeat first | refine uA ?_ | (apply S.exit; exact rfl) | (refine uK ?_ ?_; focus first | omega | trivial | exact id | (intro h; rw [h]; rfl) | (intro h h2; rw [h, h2]; rfl) | (intro h; (try simp at h); omega) | (intros; simp_all <;> omega)) | simp only [go_sem, Nat.reduceBEq, Nat.reduceAdd, Nat.reduceLeDiff, Int.reduceToNat, Int.reducePow] | simp (disch := omega) only [ww])
    (refine uJ rfl (fun hc => ?_) fun hc => ?_)
    · have hi' : i < n2 := by omega
      have hiW : i < W.length := by omega
      have hgo : o'[lo2 + i]? = some (W[i]'hiW) := by rw [hgw i hi', List.getElem?_eq_getElem hiW]
      have hgd : W.getD i 0 = W[i]'hiW := Nm.getD_lt hiW
      (repeat first | refine uA ?_ | (apply S.exit; exact rfl) | (refine uK ?_ ?_; focus first | omega | trivial | exact id | (intro h; rw [h]; rfl) | (intro h h2; rw [h, h2]; rfl) | (intro h; (try simp at h); omega) | (intros; simp_all <;> omega)) | simp only [go_sem, Nat.reduceBEq, Nat.reduceAdd, Nat.reduceLeDiff, Int.reduceToNat, Int.reducePow, q8, G5, hgo, Option.map_some, lm] | simp (disch := omega) only [ww, q8, G5, hgo, Option.map_some, lm])
      rw [<- Nm.b1e hiW]
      refine S.loop (X := Nat) (fun k => ⟨[(6, .wv 0 1 lo2 n2), (7, ints p), (8, ints q), (9, .rv 2), (72, .wv 0 1 lo2 n2), (73, ints n2), (74, ints i), (10, ints i), (11, .v (.int .u64 (W[i]'hiW : Int))), (79, ints k)], [.row 189 1 (ls o'), .row 189 1 (ls u')] ++ [.row 5 1 ((Nm.a1a W i k).map H7)]⟩) (fun k => k <= 8) (fun k => 8 - k) 0 (Nat.zero_le _) (by (repeat first | refine uA ?_ | (refine ⟨?_, ?_⟩; focus first | rfl | trivial | (simp [slot]; done)) | rfl | trivial | simp)) ?_
      intro k hk
      simp only [ints, List.cons_append, List.nil_append]
      have hlk := Nm.b3F hua hiW hk
      (repeat first | refine uA ?_ | (apply S.exit; exact rfl) | (refine uK ?_ ?_; focus first | omega | trivial | exact id | (intro h; rw [h]; rfl) | (intro h h2; rw [h, h2]; rfl) | (intro h; (try simp at h); omega) | (intros; simp_all <;> omega)) | simp only [go_sem, Nat.reduceBEq, Nat.reduceAdd, Nat.reduceLeDiff, Int.reduceToNat, Int.reducePow] | simp (disch := omega) only [ww])
      (refine uJ rfl (fun hc => ?_) fun hc => ?_)
      · have hk' : k < 8 := by omega
        have hst := Nm.b0F (l := W) (i := i) hk'
        rw [hgd] at hst
        have hbv : IntKind.u8.wrap (Int.fdiv ((W[i]'hiW : Nat) : Int) (2 ^ min (56 - 8 * (k : Int)).toNat 64)) = (((Nm.oB ((W[i]'hiW) / 2 ^ (56 - 8 * k))).toNat : Nat) : Int) := by
          rw [<- a5G, show min (56 - 8 * (k : Int)).toNat 64 = 56 - 8 * k by omega]
          congr 2
        have hix : (8 * ((n2 : Int) - 1 - (i : Int)) + (k : Int)).toNat = 8 * (W.length - 1 - i) + k := by omega
        have hgk : (Nm.a1a W i k)[8 * (W.length - 1 - i) + k]? = some ((Nm.a1a W i k)[8 * (W.length - 1 - i) + k]'(by omega)) := List.getElem?_eq_getElem (by omega)
        (repeat first | refine uA ?_ | (apply S.exit; exact rfl) | (refine uK ?_ ?_; focus first | omega | trivial | exact id | (intro h; rw [h]; rfl) | (intro h h2; rw [h, h2]; rfl) | (intro h; (try simp at h); omega) | (intros; simp_all <;> omega)) | simp only [go_sem, Nat.reduceBEq, Nat.reduceAdd, Nat.reduceLeDiff, Int.reduceToNat, Int.reducePow, q8, List.length_map, hbv, hix, List.getElem?_map, hgk, Option.map_some, H7, a4S, hst] | simp (disch := omega) only [ww, q8, List.length_map, hbv, hix, List.getElem?_map, hgk, Option.map_some, H7, a4S, hst])
        refine S.next (x := k) (k + 1) hk' (by omega) (by (repeat first | refine uA ?_ | (refine ⟨?_, ?_⟩; focus first | rfl | trivial | (simp [slot]; done)) | rfl | trivial | simp))
      · have hk8 : k = 8 := by omega
        subst hk8
        rw [Nm.a9G hiW]
        (repeat first | refine uA ?_ | (apply S.exit; exact rfl) | (refine uK ?_ ?_; focus first | omega | trivial | exact id | (intro h; rw [h]; rfl) | (intro h h2; rw [h, h2]; rfl) | (intro h; (try simp at h); omega) | (intros; simp_all <;> omega)) | simp only [go_sem, Nat.reduceBEq, Nat.reduceAdd, Nat.reduceLeDiff, Int.reduceToNat, Int.reducePow] | simp (disch := omega) only [ww])
        refine S.next (x := i) (i + 1) hi' (by omega) (by (repeat first | refine uA ?_ | (refine ⟨?_, ?_⟩; focus first | rfl | trivial | (simp [slot]; done)) | rfl | trivial | simp))
    · have hi' : i = n2 := by omega
      subst hi'
      rw [<- hul, Nm.b3J]
      have hr1 : ((r / 8 : Nat) : Int) + 1 = ((r / 8 + 1 : Nat) : Int) := by omega
      have hrep : List.replicate (((r / 8 + 1 : Nat) : Int)).toNat [C.v (.int .u8 0)] = (List.replicate (r / 8 + 1) (0 : UInt8)).map H7 := by rw [<- a2i]; rfl
      have hrm : (r : Int).tmod 8 = ((r % 8 : Nat) : Int) := a9P r
      have hpw : IntKind.u8.wrap (1 * 2 ^ min (r % 8) 8) = (((Nm.oB (2 ^ (r % 8))).toNat : Nat) : Int) := by
        rw [show min (r % 8) 8 = r % 8 by omega, Nm.a1h, <- a2v]; congr 1; simp
      have hby : V7 ([C.v (.int .u8 (((Nm.oB (2 ^ (r % 8))).toNat : Nat) : Int))] :: List.replicate (r / 8) [C.v (.int .u8 0)]) = some (Nm.oB (2 ^ (r % 8)) :: List.replicate (r / 8) 0) := by
        rw [a2i]; exact U1 (Nm.oB (2 ^ (r % 8)) :: List.replicate (r / 8) 0)
      (repeat first | refine uA ?_ | (apply S.exit; exact rfl) | (refine uK ?_ ?_; focus first | omega | trivial | exact id | (intro h; rw [h]; rfl) | (intro h h2; rw [h, h2]; rfl) | (intro h; (try simp at h); omega) | (intros; simp_all <;> omega)) | simp only [go_sem, Nat.reduceBEq, Nat.reduceAdd, Nat.reduceLeDiff, Int.reduceToNat, Int.reducePow, hmn, hqm, hr1, hrep, hrm, hpw, hby, U1, a3Z, H7, Int.toNat_natCast] | simp (disch := omega) only [ww, hmn, hqm, hr1, hrep, hrm, hpw, hby, U1, a3Z, H7, Int.toNat_natCast] | (refine uB hfm ?_ ?_; exact rfl))
      exact S.done (d9.out rfl (Imp.refl rfl) rfl)
  · refine S.loop (X := Nat) (fun i => ⟨[(6, .wv 1 1 lo2 n2), (7, ints p), (8, ints q), (9, .rv 2), (72, .wv 1 1 lo2 n2), (73, ints n2), (74, ints i)], [.row 189 1 (ls u'), .row 189 1 (ls o')] ++ [.row 5 1 ((Nm.a3n W i).map H7)]⟩) (fun i => i <= n2) (fun i => n2 - i) 0 (Nat.zero_le _) (by (repeat first | refine uA ?_ | (refine ⟨?_, ?_⟩; focus first | rfl | trivial | (simp [slot]; done)) | rfl | trivial | simp)) ?_
    intro i hi
    simp only [ints, List.cons_append, List.nil_append]
    (repeat first | refine uA ?_ | (apply S.exit; exact rfl) | (refine uK ?_ ?_; focus first | omega | trivial | exact id | (intro h; rw [h]; rfl) | (intro h h2; rw [h, h2]; rfl) | (intro h; (try simp at h); omega) | (intros; simp_all <;> omega)) | simp only [go_sem, Nat.reduceBEq, Nat.reduceAdd, Nat.reduceLeDiff, Int.reduceToNat, Int.reducePow] | simp (disch := omega) only [ww])
    (refine uJ rfl (fun hc => ?_) fun hc => ?_)
    · have hi' : i < n2 := by omega
      have hiW : i < W.length := by omega
      have hgo : o'[lo2 + i]? = some (W[i]'hiW) := by rw [hgw i hi', List.getElem?_eq_getElem hiW]
      have hgd : W.getD i 0 = W[i]'hiW := Nm.getD_lt hiW
      (repeat first | refine uA ?_ | (apply S.exit; exact rfl) | (refine uK ?_ ?_; focus first | omega | trivial | exact id | (intro h; rw [h]; rfl) | (intro h h2; rw [h, h2]; rfl) | (intro h; (try simp at h); omega) | (intros; simp_all <;> omega)) | simp only [go_sem, Nat.reduceBEq, Nat.reduceAdd, Nat.reduceLeDiff, Int.reduceToNat, Int.reducePow, q8, G5, hgo, Option.map_some, lm] | simp (disch := omega) only [ww, q8, G5, hgo, Option.map_some, lm])
      rw [<- Nm.b1e hiW]
      refine S.loop (X := Nat) (fun k => ⟨[(6, .wv 1 1 lo2 n2), (7, ints p), (8, ints q), (9, .rv 2), (72, .wv 1 1 lo2 n2), (73, ints n2), (74, ints i), (10, ints i), (11, .v (.int .u64 (W[i]'hiW : Int))), (79, ints k)], [.row 189 1 (ls u'), .row 189 1 (ls o')] ++ [.row 5 1 ((Nm.a1a W i k).map H7)]⟩) (fun k => k <= 8) (fun k => 8 - k) 0 (Nat.zero_le _) (by (repeat first | refine uA ?_ | (refine ⟨?_, ?_⟩; focus first | rfl | trivial | (simp [slot]; done)) | rfl | trivial | simp)) ?_
      intro k hk
      simp only [ints, List.cons_append, List.nil_append]
      have hlk := Nm.b3F hua hiW hk
      (repeat first | refine uA ?_ | (apply S.exit; exact rfl) | (refine uK ?_ ?_; focus first | omega | trivial | exact id | (intro h; rw [h]; rfl) | (intro h h2; rw [h, h2]; rfl) | (intro h; (try simp at h); omega) | (intros; simp_all <;> omega)) | simp only [go_sem, Nat.reduceBEq, Nat.reduceAdd, Nat.reduceLeDiff, Int.reduceToNat, Int.reducePow] | simp (disch := omega) only [ww])
      (refine uJ rfl (fun hc => ?_) fun hc => ?_)
      · have hk' : k < 8 := by omega
        have hst := Nm.b0F (l := W) (i := i) hk'
        rw [hgd] at hst
        have hbv : IntKind.u8.wrap (Int.fdiv ((W[i]'hiW : Nat) : Int) (2 ^ min (56 - 8 * (k : Int)).toNat 64)) = (((Nm.oB ((W[i]'hiW) / 2 ^ (56 - 8 * k))).toNat : Nat) : Int) := by
          rw [<- a5G, show min (56 - 8 * (k : Int)).toNat 64 = 56 - 8 * k by omega]
          congr 2
        have hix : (8 * ((n2 : Int) - 1 - (i : Int)) + (k : Int)).toNat = 8 * (W.length - 1 - i) + k := by omega
        have hgk : (Nm.a1a W i k)[8 * (W.length - 1 - i) + k]? = some ((Nm.a1a W i k)[8 * (W.length - 1 - i) + k]'(by omega)) := List.getElem?_eq_getElem (by omega)
        (repeat first | refine uA ?_ | (apply S.exit; exact rfl) | (refine uK ?_ ?_; focus first | omega | trivial | exact id | (intro h; rw [h]; rfl) | (intro h h2; rw [h, h2]; rfl) | (intro h; (try simp at h); omega) | (intros; simp_all <;> omega)) | simp only [go_sem, Nat.reduceBEq, Nat.reduceAdd, Nat.reduceLeDiff, Int.reduceToNat, Int.reducePow, q8, List.length_map, hbv, hix, List.getElem?_map, hgk, Option.map_some, H7, a4S, hst] | simp (disch := omega) only [ww, q8, List.length_map, hbv, hix, List.getElem?_map, hgk, Option.map_some, H7, a4S, hst])
        refine S.next (x := k) (k + 1) hk' (by omega) (by (repeat first | refine uA ?_ | (refine ⟨?_, ?_⟩; focus first | rfl | trivial | (simp [slot]; done)) | rfl | trivial | simp))
      · have hk8 : k = 8 := by omega
        subst hk8
        rw [Nm.a9G hiW]
        (repeat first | refine uA ?_ | (apply S.exit; exact rfl) | (refine uK ?_ ?_; focus first | omega | trivial | exact id | (intro h; rw [h]; rfl) | (intro h h2; rw [h, h2]; rfl) | (intro h; (try simp at h); omega) | (intros; simp_all <;> omega)) | simp only [go_sem, Nat.reduceBEq, Nat.reduceAdd, Nat.reduceLeDiff, Int.reduceToNat, Int.reducePow] | simp (disch := omega) only [ww])
        refine S.next (x := i) (i + 1) hi' (by omega) (by (repeat first | refine uA ?_ | (refine ⟨?_, ?_⟩; focus first | rfl | trivial | (simp [slot]; done)) | rfl | trivial | simp))
    · have hi' : i = n2 := by omega
      subst hi'
      rw [<- hul, Nm.b3J]
      have hr1 : ((r / 8 : Nat) : Int) + 1 = ((r / 8 + 1 : Nat) : Int) := by omega
      have hrep : List.replicate (((r / 8 + 1 : Nat) : Int)).toNat [C.v (.int .u8 0)] = (List.replicate (r / 8 + 1) (0 : UInt8)).map H7 := by rw [<- a2i]; rfl
      have hrm : (r : Int).tmod 8 = ((r % 8 : Nat) : Int) := a9P r
      have hpw : IntKind.u8.wrap (1 * 2 ^ min (r % 8) 8) = (((Nm.oB (2 ^ (r % 8))).toNat : Nat) : Int) := by
        rw [show min (r % 8) 8 = r % 8 by omega, Nm.a1h, <- a2v]; congr 1; simp
      have hby : V7 ([C.v (.int .u8 (((Nm.oB (2 ^ (r % 8))).toNat : Nat) : Int))] :: List.replicate (r / 8) [C.v (.int .u8 0)]) = some (Nm.oB (2 ^ (r % 8)) :: List.replicate (r / 8) 0) := by
        rw [a2i]; exact U1 (Nm.oB (2 ^ (r % 8)) :: List.replicate (r / 8) 0)
      (repeat first | refine uA ?_ | (apply S.exit; exact rfl) | (refine uK ?_ ?_; focus first | omega | trivial | exact id | (intro h; rw [h]; rfl) | (intro h h2; rw [h, h2]; rfl) | (intro h; (try simp at h); omega) | (intros; simp_all <;> omega)) | simp only [go_sem, Nat.reduceBEq, Nat.reduceAdd, Nat.reduceLeDiff, Int.reduceToNat, Int.reducePow, hmn, hqm, hr1, hrep, hrm, hpw, hby, U1, a3Z, H7, Int.toNat_natCast] | simp (disch := omega) only [ww, hmn, hqm, hr1, hrep, hrm, hpw, hby, U1, a3Z, H7, Int.toNat_natCast] | (refine uB hfm ?_ ?_; exact rfl))
      exact S.done (d9.out rfl (Imp.refl rfl) rfl)
theorem c0v (a b : List UInt8) (ha : a.length <= 68719476736) (hb : b.length <= 68719476736) : FZ 167 [sb a, sb b] (sb (Nm.enc (Nat.gcd (Nm.val a) (Nm.val b)))) := by
  refine l8.of b5M b5V (by exact Nat.le_of_ble_eq_true rfl) fun w O hw => ?_
  simp only [a9H, l5, TT, II, OA, OB, OC, MM, LL, VV, FF, MG, LG, VG, FG, sb]
  have hta := Nm.S9 a
  have htb := Nm.S9 b
  have hva := Nm.L9 a
  have hvb := Nm.L9 b
  have hca := Nm.Q6 a
  have hcb := Nm.Q6 b
  have fta := a0f a (by omega)
  have ftb := a0f b (by omega)
  rw [<- hva, <- hvb]
  clear hva hvb
  generalize Nm.trim a = x at *
  generalize Nm.trim b = y at *
  generalize hG : Nat.gcd (Nm.val x) (Nm.val y) = G at *
  (repeat first | refine uA ?_ | (apply S.exit; exact rfl) | (refine uK ?_ ?_; focus first | omega | trivial | exact id | (intros; simp_all <;> omega)) | simp (disch := omega) only [go_sem, Nat.reduceBEq, Nat.reduceAdd, Nat.reduceLeDiff, Int.reduceToNat, Int.reducePow, ww] | (refine uB fta ?_ ?_; exact rfl) | (refine uB ftb ?_ ?_; exact rfl))
  refine S.loop (X := List UInt8 × List UInt8) (fun s => ⟨[(0, sb s.1), (1, sb s.2)], []⟩) (fun s => Nm.canon s.1 /\ Nm.canon s.2 /\ s.1.length <= 68719476736 /\ s.2.length <= 68719476736 /\ Nat.gcd (Nm.val s.1) (Nm.val s.2) = G) (fun s => Nm.val s.1 + Nm.val s.2) (x, y) ⟨hca, hcb, by simp only; omega, by simp only; omega, hG⟩ (by (repeat first | refine uA ?_ | (refine ⟨?_, ?_⟩; focus first | rfl | trivial | (simp [slot]; done)) | rfl | trivial | simp)) ?_
  clear fta ftb hca hcb hta htb hG
  rintro ⟨x, y⟩ ⟨hcx, hcy, hlx, hly, hG⟩
  simp only [sb] at hcx hcy hlx hly hG ⊢
  (repeat first | refine uA ?_ | (apply S.exit; exact rfl) | (refine uK ?_ ?_; focus first | omega | trivial | exact id | (intros; simp_all <;> omega)) | simp (disch := omega) only [go_sem, Nat.reduceBEq, Nat.reduceAdd, Nat.reduceLeDiff, Int.reduceToNat, Int.reducePow, ww])
  (refine uJ rfl (fun hc => ?_) fun hc => ?_)
  · rw [Y6, Y6] at hc
    have hne := hc
    refine S.skip ?_
    refine S.block ?_
    refine S.seq ?_
    refine S.join (Y := List UInt8 × List UInt8) (fun s => ⟨[(0, sb s.1), (1, sb s.2)], []⟩) (fun s => Nm.canon s.1 /\ Nm.canon s.2 /\ s.1.length <= 68719476736 /\ s.2.length <= s.1.length /\ Nat.gcd (Nm.val s.1) (Nm.val s.2) = G /\ s.1 ≠ [] /\ s.2 ≠ [] /\ Nm.val s.1 + Nm.val s.2 = Nm.val x + Nm.val y) ?_ ?_
    · (repeat first | refine uA ?_ | (apply S.exit; exact rfl) | (refine uK ?_ ?_; focus first | omega | trivial | exact id | (intros; simp_all <;> omega)) | simp (disch := omega) only [go_sem, Nat.reduceBEq, Nat.reduceAdd, Nat.reduceLeDiff, Int.reduceToNat, Int.reducePow, ww, y8])
      (refine uJ rfl (fun hc => ?_) fun hc => ?_)
      · (repeat first | refine uA ?_ | (apply S.exit; exact rfl) | (refine uK ?_ ?_; focus first | omega | trivial | exact id | (intros; simp_all <;> omega)) | simp (disch := omega) only [go_sem, Nat.reduceBEq, Nat.reduceAdd, Nat.reduceLeDiff, Int.reduceToNat, Int.reducePow, ww])
        exact S.met (⟨y, x⟩ : List UInt8 × List UInt8) ⟨hcy, hcx, hly, by simp only; omega, by rw [Nat.gcd_comm]; exact hG, hne.2, hne.1, by simp only; omega⟩ (by (repeat first | refine uA ?_ | (refine ⟨?_, ?_⟩; focus first | rfl | trivial | (simp [slot]; done)) | rfl | trivial | simp))
      · (repeat first | refine uA ?_ | (apply S.exit; exact rfl) | (refine uK ?_ ?_; focus first | omega | trivial | exact id | (intros; simp_all <;> omega)) | simp (disch := omega) only [go_sem, Nat.reduceBEq, Nat.reduceAdd, Nat.reduceLeDiff, Int.reduceToNat, Int.reducePow, ww])
        exact S.met (⟨x, y⟩ : List UInt8 × List UInt8) ⟨hcx, hcy, hlx, by simp only; omega, hG, hne.1, hne.2, rfl⟩ (by (repeat first | refine uA ?_ | (refine ⟨?_, ?_⟩; focus first | rfl | trivial | (simp [slot]; done)) | rfl | trivial | simp))
    clear hcx hcy hlx hly hG hc hne
    rintro ⟨p, q⟩ ⟨hcx, hcy, hlx, hly, hG, hp0, hq0, hsum⟩
    simp only [sb] at hcx hcy hlx hly hG hp0 hq0 hsum ⊢
    have hvp : Nm.val p ≠ 0 := fun h => hp0 ((Nm.val_zero hcx).1 h)
    have hvq : Nm.val q ≠ 0 := fun h => hq0 ((Nm.val_zero hcy).1 h)
    (repeat first | refine uA ?_ | (apply S.exit; exact rfl) | (refine uK ?_ ?_; focus first | omega | trivial | exact id | (intros; simp_all <;> omega)) | simp (disch := omega) only [go_sem, Nat.reduceBEq, Nat.reduceAdd, Nat.reduceLeDiff, Int.reduceToNat, Int.reducePow, ww, y8])
    (refine uJ rfl (fun hc => ?_) fun hc => ?_)
    · have hx7 := Nm.Y0 (l := p) (k := 8) (by omega)
      have hy7 := Nm.Y0 (l := q) (k := 8) (by omega)
      have e1 : Nm.val p % 18446744073709551616 = Nm.val p := Nat.mod_eq_of_lt (by omega)
      have e2 : Nm.val q % 18446744073709551616 = Nm.val q := Nat.mod_eq_of_lt (by omega)
      have fx := a1z p (by omega)
      have fy := a1z q (by omega)
      rw [e1] at fx
      rw [e2] at fy
      have hco := b2R (Nm.val p) (Nm.val q) (by omega) (by omega)
      rw [hG] at hco
      have hle : G <= Nm.val q := by rw [<- hG]; exact Nat.gcd_le_right _ (by omega)
      have hf := Z7 G (by omega)
      (repeat first | refine uA ?_ | (apply S.exit; exact rfl) | (refine uK ?_ ?_; focus first | omega | trivial | exact id | (intros; simp_all <;> omega)) | simp (disch := omega) only [go_sem, Nat.reduceBEq, Nat.reduceAdd, Nat.reduceLeDiff, Int.reduceToNat, Int.reducePow, ww] | (refine uB fx ?_ ?_; exact rfl) | (refine uB fy ?_ ?_; exact rfl) | (refine uB hco ?_ ?_; exact rfl) | (refine uB hf ?_ ?_; exact rfl))
      exact S.done (d9.out rfl (Imp.refl rfl) rfl)
    (repeat first | refine uA ?_ | (apply S.exit; exact rfl) | (refine uK ?_ ?_; focus first | omega | trivial | exact id | (intros; simp_all <;> omega)) | simp (disch := omega) only [go_sem, Nat.reduceBEq, Nat.reduceAdd, Nat.reduceLeDiff, Int.reduceToNat, Int.reducePow, ww, y8])
    (refine uJ rfl (fun hc => ?_) fun hc => ?_)
    · have hh := b8Z p q hlx (by omega) hvp hvq
      rw [hG] at hh
      (repeat first | refine uA ?_ | (apply S.exit; exact rfl) | (refine uK ?_ ?_; focus first | omega | trivial | exact id | (intros; simp_all <;> omega)) | simp (disch := omega) only [go_sem, Nat.reduceBEq, Nat.reduceAdd, Nat.reduceLeDiff, Int.reduceToNat, Int.reducePow, ww] | (refine uD hh ?_ ?_ ?_; exact tz hw; exact rfl))
      exact S.done (d9.out rfl (Imp.refl rfl) rfl)
    · have hd := b6l p q (by omega) (by omega) hvq
      have hlt : Nm.val p % Nm.val q < Nm.val q := Nat.mod_lt _ (by omega)
      have hlq := Nm.U7 q
      have hpq := Nm.a1L hcx (a := q) (b := p) (by omega)
      have hrl : (Nm.enc (Nm.val p % Nm.val q)).length <= q.length := Nm.K6 (by omega)
      (repeat first | refine uA ?_ | (apply S.exit; exact rfl) | (refine uK ?_ ?_; focus first | omega | trivial | exact id | (intros; simp_all <;> omega)) | simp (disch := omega) only [go_sem, Nat.reduceBEq, Nat.reduceAdd, Nat.reduceLeDiff, Int.reduceToNat, Int.reducePow, ww] | (refine uB hd ?_ ?_; exact rfl))
      refine S.next (x := (x, y)) (q, Nm.enc (Nm.val p % Nm.val q)) ⟨hcy, Nm.a2x _, by simp only; omega, by simp only; omega, ?_⟩ (by simp only [Nm.H8]; omega) (by (repeat first | refine uA ?_ | (refine ⟨?_, ?_⟩; focus first | rfl | trivial | (simp [slot]; done)) | rfl | trivial | simp))
      simp only [Nm.H8]
      rw [Nat.gcd_comm, <- Nat.gcd_rec, Nat.gcd_comm]; exact hG
  · have hr : Nm.enc G = x ++ y := by
      rw [Y6, Y6] at hc
      rcases Classical.em (x = []) with h | h
      · subst h
        rw [Nm.b0z, Nat.gcd_zero_left] at hG
        rw [<- hG, Nm.a0O hcy]; rfl
      · have hy : y = [] := by
          rcases hc with hc | hc
          · exact absurd hc h
          · exact hc
        subst hy
        rw [Nm.b0z, Nat.gcd_zero_right] at hG
        rw [<- hG, Nm.a0O hcx, List.append_nil]
    rw [hr]
    (repeat first | refine uA ?_ | (apply S.exit; exact rfl) | (refine uK ?_ ?_; focus first | omega | trivial | exact id | (intros; simp_all <;> omega)) | simp (disch := omega) only [go_sem, Nat.reduceBEq, Nat.reduceAdd, Nat.reduceLeDiff, Int.reduceToNat, Int.reducePow, ww, c1Q, y8])
    exact S.done (d9.out rfl (Imp.refl rfl) rfl)
def rc (a : Nm.Rt) : C := .agg [.v (.bool a.neg), sb a.num, sb a.den]
def rq (q : Rat) : C := rc (Nm.ofQ q)
def Rb (k : Nat) (a : Nm.Rt) : Prop := a.num.length <= k /\ a.den.length <= k
theorem a5g (l : List UInt8) : (bs l = (⟨#[1]⟩ : ByteArray)) = (l = [1]) := b1W l [1]
theorem b1o (l : List UInt8) : Nm.canon l <-> (l = [] \/ l.getD 0 0 ≠ 0) := by
 cases l with
 | nil => simp [Nm.a6R]
 | cons b r =>
  simp only [List.getD_cons_zero, reduceCtorEq, false_or]
  constructor
  ·intro h h0; exact h r (by rw [h0])
  ·intro h q e; injection e with e1 _; exact h e1
theorem a1j (a : Nm.Rt) (ha : Rb 68719476736 a) : FZ 62 [rc a] (.v (.bool (decide a.D8))) := by
  refine l8.of b4k b4E (by exact Nat.le_of_ble_eq_true rfl) fun w O hw => ?_
  obtain ⟨neg, num, den⟩ := a
  obtain ⟨hn, hd⟩ := ha
  simp only [rc] at hn hd ⊢
  simp only [a7Y, l5, TT, II, OA, OB, OC, MM, LL, VV, FF, MG, LG, VG, FG, sb]
  have hg := c0v num den (by omega) (by omega)
  have hgood : Nm.Rt.D8 ⟨neg, num, den⟩ <-> den ≠ [] /\ Nm.canon den /\ Nm.canon num /\ (num = [] -> neg = false /\ den = [1]) /\ (den = [1] \/ Nat.gcd (Nm.val num) (Nm.val den) = 1) := Iff.rfl
  rw [b1o, b1o] at hgood
  have hdl : (!decide (den = [])) = true -> 0 < (den.length : Int) := fun h => by
    have : den ≠ [] := by simpa using h
    have := List.length_pos_iff.2 this
    omega
  have hnl : num ≠ [] -> 0 < (num.length : Int) := fun h => by
    have := List.length_pos_iff.2 h
    omega
  have hgb0 : ∀ {p : Prop} [Decidable p], (Nm.Rt.D8 ⟨neg, num, den⟩ <-> p) -> decide (Nm.Rt.D8 ⟨neg, num, den⟩) = decide p := fun h => decide_eq_decide.2 h
  have hgb := hgb0 hgood
  clear hgood hgb0
  generalize decide (Nm.Rt.D8 ⟨neg, num, den⟩) = gb at *
  (repeat first | refine uA ?_ | (apply S.exit; exact rfl) | (refine uK ?_ ?_; focus first | omega | trivial | exact id | (intro h; rw [h]; rfl) | (intro h h2; rw [h, h2]; rfl) | (intro h; (try simp at h); omega) | (intros; simp_all <;> omega)) | simp only [go_sem, Nat.reduceBEq, Nat.reduceAdd, Nat.reduceLeDiff, Int.reduceToNat, Int.reducePow, y8, M5, a7p, Y6, a5g] | simp (disch := omega) only [ww, y8, M5, a7p, Y6, a5g])
  refine S.cond rfl (fun hc => ?_) (fun hc => ?_)
  · have : gb = false := by
      rw [hgb, decide_eq_false_iff_not]
      simp only [Bool.or_eq_true, Bool.and_eq_true, decide_eq_true_eq, Bool.not_eq_true', decide_eq_false_iff_not] at hc
      grind
    rw [this]
    (repeat first | refine uA ?_ | (apply S.exit; exact rfl) | (refine uK ?_ ?_; focus first | omega | trivial | exact id | (intro h; rw [h]; rfl) | (intro h h2; rw [h, h2]; rfl) | (intro h; (try simp at h); omega) | (intros; simp_all <;> omega)) | simp only [go_sem, Nat.reduceBEq, Nat.reduceAdd, Nat.reduceLeDiff, Int.reduceToNat, Int.reducePow] | simp (disch := omega) only [ww])
    exact S.done (d9.out rfl (Imp.refl rfl) rfl)
  · have hone : (Nm.enc (Nat.gcd (Nm.val num) (Nm.val den)) = [1]) = (Nat.gcd (Nm.val num) (Nm.val den) = 1) := by
      rw [<- Nm.a1Z]
      exact propext ⟨Nm.b0A, fun h => by rw [h]⟩
    have : gb = (decide (den = [1]) || decide (Nat.gcd (Nm.val num) (Nm.val den) = 1)) := by
      rw [hgb, <- Bool.decide_or]
      simp only [Bool.or_eq_false_iff, Bool.and_eq_false_iff, decide_eq_true_eq, Bool.not_eq_false', decide_eq_false_iff_not] at hc
      refine decide_eq_decide.2 ⟨fun h => h.2.2.2.2, fun h => ?_⟩
      grind
    rw [this]
    (repeat first | refine uA ?_ | (apply S.exit; exact rfl) | (refine uK ?_ ?_; focus first | omega | trivial | exact id | (intro h; rw [h]; rfl) | (intro h h2; rw [h, h2]; rfl) | (intro h; (try simp at h); omega) | (intros; simp_all <;> omega)) | simp only [go_sem, Nat.reduceBEq, Nat.reduceAdd, Nat.reduceLeDiff, Int.reduceToNat, Int.reducePow, Y6, a5g, hone] | simp (disch := omega) only [ww, Y6, a5g, hone] | (refine uD hg ?_ ?_ ?_; exact tz hw; exact rfl))
    exact S.done (d9.out rfl (Imp.refl rfl) rfl)
theorem b8o : r9 Tryz.prog 181 [] (rc Nm.a2W) := by
 refine r9.of b4n b4M (by exact Nat.le_of_ble_eq_true rfl) fun w O => ?_
 simp only [a7V, l5, TT, II, OA, OB, OC, MM, LL, VV, FF, MG, LG, VG, FG, rc, Nm.a2W, sb]
 (repeat first | refine uA ?_ | (apply S.exit; exact rfl) | (refine uK ?_ ?_; focus first | omega | trivial | exact id | (intros; simp_all <;> omega)) | simp (disch := omega) only [go_sem, Nat.reduceBEq, Nat.reduceAdd, Nat.reduceLeDiff, Int.reduceToNat, Int.reducePow, ww])
 (refine S.done ?_; simp only [x9, p9, go_sem, Nat.reduceBEq, Nat.reduceAdd, Nat.reduceLeDiff, Int.reduceToNat, Int.reducePow]; (repeat (refine ⟨?_, ?_⟩; focus first | trivial | omega | simp)); exact d9.out rfl (Imp.refl rfl) rfl)
theorem c2I (a : Nm.Rt) (ha : Rb 68719476736 a) : FZ 76 [rc a] (rq (Nm.j3 a)) := by
 refine l8.of b6F b7d (by exact Nat.le_of_ble_eq_true rfl) fun w O hw => ?_
 have hg := a1j a ha
 have fz := b8o
 unfold rq
 by_cases h : a.D8
 ·rw [Nm.b8J h]
  rw [show decide a.D8 = true from decide_eq_true h] at hg
  simp only [a5r, l5, TT, II, OA, OB, OC, MM, LL, VV, FF, MG, LG, VG, FG, rc, sb] at hg ⊢
  (repeat first | refine uA ?_ | (apply S.exit; exact rfl) | (refine uK ?_ ?_; focus first | omega | trivial | exact id | (intros; simp_all <;> omega)) | simp (disch := omega) only [go_sem, Nat.reduceBEq, Nat.reduceAdd, Nat.reduceLeDiff, Int.reduceToNat, Int.reducePow, ww] | (refine uD hg ?_ ?_ ?_; exact tz hw; exact rfl))
  exact S.cond rfl (fun hc => by cases hc) (fun _ => by
   (repeat first | refine uA ?_ | (apply S.exit; exact rfl) | (refine uK ?_ ?_; focus first | omega | trivial | exact id | (intros; simp_all <;> omega)) | simp (disch := omega) only [go_sem, Nat.reduceBEq, Nat.reduceAdd, Nat.reduceLeDiff, Int.reduceToNat, Int.reducePow, ww])
   (refine S.done ?_; simp only [x9, p9, go_sem, Nat.reduceBEq, Nat.reduceAdd, Nat.reduceLeDiff, Int.reduceToNat, Int.reducePow]; (repeat (refine ⟨?_, ?_⟩; focus first | trivial | omega | simp)); exact d9.out rfl (Imp.refl rfl) rfl))
 ·have e : Nm.ofQ (Nm.j3 a) = Nm.a2W := by unfold Nm.j3; rw [if_neg h, Nm.a3D]
  rw [e]
  rw [show decide a.D8 = false from decide_eq_false h] at hg
  simp only [a5r, l5, TT, II, OA, OB, OC, MM, LL, VV, FF, MG, LG, VG, FG, rc, sb, Nm.a2W] at hg fz ⊢
  (repeat first | refine uA ?_ | (apply S.exit; exact rfl) | (refine uK ?_ ?_; focus first | omega | trivial | exact id | (intros; simp_all <;> omega)) | simp (disch := omega) only [go_sem, Nat.reduceBEq, Nat.reduceAdd, Nat.reduceLeDiff, Int.reduceToNat, Int.reducePow, ww] | (refine uD hg ?_ ?_ ?_; exact tz hw; exact rfl))
  exact S.cond rfl (fun _ => by
   (repeat first | refine uA ?_ | (apply S.exit; exact rfl) | (refine uK ?_ ?_; focus first | omega | trivial | exact id | (intros; simp_all <;> omega)) | simp (disch := omega) only [go_sem, Nat.reduceBEq, Nat.reduceAdd, Nat.reduceLeDiff, Int.reduceToNat, Int.reducePow, ww] | (refine uB fz ?_ ?_; exact rfl))
   (refine S.done ?_; simp only [x9, p9, go_sem, Nat.reduceBEq, Nat.reduceAdd, Nat.reduceLeDiff, Int.reduceToNat, Int.reducePow]; (repeat (refine ⟨?_, ?_⟩; focus first | trivial | omega | simp)); exact d9.out rfl (Imp.refl rfl) rfl)) (fun hc => by cases hc)
theorem c1b {n d k : Nat} (hd : 0 < d) (h : (Nm.enc d).length <= k) : (Nm.enc (Nat.gcd n d)).length <= k := Nm.K6 (Nat.lt_of_le_of_lt (Nat.gcd_le_right n hd) (Nm.X5 h))
theorem a4K (neg : Bool) (n d : Nat) (hd : d ≠ 0) (hn : (Nm.enc n).length <= 68719476736) (hdl : (Nm.enc d).length <= 68719476736) :
  FZ 78 [.v (.bool neg), sb (Nm.enc n), sb (Nm.enc d)] (rq (mkRat (Nm.sgn neg n) d)) := by
 refine l8.of b3Z b3V (by exact Nat.le_of_ble_eq_true rfl) fun w O hw => ?_
 have fz := b8o
 have hg := c0v (Nm.enc n) (Nm.enc d) hn hdl
 rw [Nm.H8, Nm.H8] at hg
 unfold rq
 rw [<- Nm.b5i neg hd]
 have hz : (Nm.enc n = []) = (n = 0) := propext ⟨fun h => Classical.byContradiction fun h0 => Nm.a4T h0 h, fun h => by rw [h, Nm.a2g]⟩
 have h1 : ∀ d, (Nm.enc d = [1]) = (d = 1) := fun d => by
  rw [<- Nm.a1Z]; exact propext ⟨Nm.b0A, fun h => by rw [h]⟩
 have hgp : Nat.gcd n d ≠ 0 := fun h => hd (Nat.eq_zero_of_gcd_eq_zero_right h)
 have hgl : (Nm.enc (Nat.gcd n d)).length <= 68719476736 := by
  exact c1b (by omega) hdl
 have hd1 := b6l (Nm.enc n) (Nm.enc (Nat.gcd n d)) (by omega) (by omega) (by rw [Nm.H8]; exact hgp)
 have hd2 := b6l (Nm.enc d) (Nm.enc (Nat.gcd n d)) (by omega) (by omega) (by rw [Nm.H8]; exact hgp)
 simp only [Nm.H8] at hd1 hd2
 generalize hgg : Nat.gcd n d = g at *
 simp only [a8e, l5, TT, II, OA, OB, OC, MM, LL, VV, FF, MG, LG, VG, FG, sb]
 (repeat first | refine uA ?_ | (apply S.exit; exact rfl) | (refine uK ?_ ?_; focus first | omega | trivial | exact id | (intros; simp_all <;> omega)) | simp (disch := omega) only [go_sem, Nat.reduceBEq, Nat.reduceAdd, Nat.reduceLeDiff, Int.reduceToNat, Int.reducePow, ww, Y6, hz])
 (refine uJ rfl (fun hc => ?_) fun hc => ?_)
 ·rw [if_pos hc]
  simp only [rc, Nm.a2W, sb] at fz ⊢
  (repeat first | refine uA ?_ | (apply S.exit; exact rfl) | (refine uK ?_ ?_; focus first | omega | trivial | exact id | (intros; simp_all <;> omega)) | simp (disch := omega) only [go_sem, Nat.reduceBEq, Nat.reduceAdd, Nat.reduceLeDiff, Int.reduceToNat, Int.reducePow, ww] | (refine uB fz ?_ ?_; exact rfl))
  (refine S.done ?_; simp only [x9, p9, go_sem, Nat.reduceBEq, Nat.reduceAdd, Nat.reduceLeDiff, Int.reduceToNat, Int.reducePow]; (repeat (refine ⟨?_, ?_⟩; focus first | trivial | omega | simp)); exact d9.out rfl (Imp.refl rfl) rfl)
 rw [if_neg hc]
 simp only [rc, sb]
 (repeat first | refine uA ?_ | (apply S.exit; exact rfl) | (refine uK ?_ ?_; focus first | omega | trivial | exact id | (intros; simp_all <;> omega)) | simp (disch := omega) only [go_sem, Nat.reduceBEq, Nat.reduceAdd, Nat.reduceLeDiff, Int.reduceToNat, Int.reducePow, ww, a5g, h1])
 (refine uJ rfl (fun hc => ?_) fun hc => ?_)
 ·(repeat first | refine uA ?_ | (apply S.exit; exact rfl) | (refine uK ?_ ?_; focus first | omega | trivial | exact id | (intros; simp_all <;> omega)) | simp (disch := omega) only [go_sem, Nat.reduceBEq, Nat.reduceAdd, Nat.reduceLeDiff, Int.reduceToNat, Int.reducePow, ww, a5g, h1] | (refine uD hg ?_ ?_ ?_; exact tz hw; exact rfl))
  (refine uJ rfl (fun hc => ?_) fun hc => ?_)
  ·(repeat first | refine uA ?_ | (apply S.exit; exact rfl) | (refine uK ?_ ?_; focus first | omega | trivial | exact id | (intros; simp_all <;> omega)) | simp (disch := omega) only [go_sem, Nat.reduceBEq, Nat.reduceAdd, Nat.reduceLeDiff, Int.reduceToNat, Int.reducePow, ww] | (refine uB hd1 ?_ ?_; exact rfl) | (refine uB hd2 ?_ ?_; exact rfl))
   (refine S.done ?_; simp only [x9, p9, go_sem, Nat.reduceBEq, Nat.reduceAdd, Nat.reduceLeDiff, Int.reduceToNat, Int.reducePow]; (repeat (refine ⟨?_, ?_⟩; focus first | trivial | omega | simp)); exact d9.out rfl (Imp.refl rfl) rfl)
  ·rw [hc, Nat.div_one, Nat.div_one]
   (repeat first | refine uA ?_ | (apply S.exit; exact rfl) | (refine uK ?_ ?_; focus first | omega | trivial | exact id | (intros; simp_all <;> omega)) | simp (disch := omega) only [go_sem, Nat.reduceBEq, Nat.reduceAdd, Nat.reduceLeDiff, Int.reduceToNat, Int.reducePow, ww])
   (refine S.done ?_; simp only [x9, p9, go_sem, Nat.reduceBEq, Nat.reduceAdd, Nat.reduceLeDiff, Int.reduceToNat, Int.reducePow]; (repeat (refine ⟨?_, ?_⟩; focus first | trivial | omega | simp)); exact d9.out rfl (Imp.refl rfl) rfl)
 ·rw [hc, Nat.gcd_one_right] at hgg
  subst hgg
  rw [hc, Nat.div_one, Nat.div_one]
  (repeat first | refine uA ?_ | (apply S.exit; exact rfl) | (refine uK ?_ ?_; focus first | omega | trivial | exact id | (intros; simp_all <;> omega)) | simp (disch := omega) only [go_sem, Nat.reduceBEq, Nat.reduceAdd, Nat.reduceLeDiff, Int.reduceToNat, Int.reducePow, ww])
  (refine S.done ?_; simp only [x9, p9, go_sem, Nat.reduceBEq, Nat.reduceAdd, Nat.reduceLeDiff, Int.reduceToNat, Int.reducePow]; (repeat (refine ⟨?_, ?_⟩; focus first | trivial | omega | simp)); exact d9.out rfl (Imp.refl rfl) rfl)
theorem b2h (neg mi : Bool) (a b : List UInt8) (ha : a.length <= 68719476736) (hb : b.length <= 68719476736) :
  r9 Tryz.prog 77 [.v (.bool neg), sb a, .v (.bool mi), sb b] (.tup [.v (.bool (Nm.J4 neg (Nm.val a) mi (Nm.val b)).1), sb (Nm.enc (Nm.J4 neg (Nm.val a) mi (Nm.val b)).2)]) := by
 refine r9.of b1w b1K (by exact Nat.le_of_ble_eq_true rfl) fun w O => ?_
 have hadd := f_add a b (by omega) (by omega)
 have hs1 := c0m a b (by omega) (by omega)
 have hs2 := c0m b a (by omega) (by omega)
 simp only [a5R, l5, TT, II, OA, OB, OC, MM, LL, VV, FF, MG, LG, VG, FG, sb]
 (repeat first | refine uA ?_ | (apply S.exit; exact rfl) | (refine uK ?_ ?_; focus first | omega | trivial | exact id | (intros; simp_all <;> omega)) | simp (disch := omega) only [go_sem, Nat.reduceBEq, Nat.reduceAdd, Nat.reduceLeDiff, Int.reduceToNat, Int.reducePow, ww])
 refine S.cond rfl (fun hc => ?_) (fun hc => ?_)
 ·have e : neg = mi := by simpa using hc
  subst e
  unfold Nm.J4
  rw [if_pos rfl]
  (repeat first | refine uA ?_ | (apply S.exit; exact rfl) | (refine uK ?_ ?_; focus first | omega | trivial | exact id | (intros; simp_all <;> omega)) | simp (disch := omega) only [go_sem, Nat.reduceBEq, Nat.reduceAdd, Nat.reduceLeDiff, Int.reduceToNat, Int.reducePow, ww] | (refine uB hadd ?_ ?_; exact rfl))
  exact S.done (d9.out rfl (Imp.refl rfl) rfl)
 ·have e : neg ≠ mi := by simpa using hc
  unfold Nm.J4
  rw [if_neg e]
  by_cases h : Nm.val b <= Nm.val a
  ·rw [if_pos h]
   have e1 : J9 (Nm.val a) (Nm.val b) = Nm.enc (Nm.val a - Nm.val b) := by unfold J9; rw [if_pos h]
   have e2 : a3H (Nm.val a) (Nm.val b) = 0 := by unfold a3H; rw [if_pos h]
   rw [e1, e2] at hs1
   (repeat first | refine uA ?_ | (apply S.exit; exact rfl) | (refine uK ?_ ?_; focus first | omega | trivial | exact id | (intros; simp_all <;> omega)) | simp (disch := omega) only [go_sem, Nat.reduceBEq, Nat.reduceAdd, Nat.reduceLeDiff, Int.reduceToNat, Int.reducePow, ww] | (refine uB hs1 ?_ ?_; exact rfl))
   refine S.cond rfl (fun hc => ?_) (fun hc => ?_)
   ·(repeat first | refine uA ?_ | (apply S.exit; exact rfl) | (refine uK ?_ ?_; focus first | omega | trivial | exact id | (intros; simp_all <;> omega)) | simp (disch := omega) only [go_sem, Nat.reduceBEq, Nat.reduceAdd, Nat.reduceLeDiff, Int.reduceToNat, Int.reducePow, ww])
    exact S.done (d9.out rfl (Imp.refl rfl) rfl)
   ·simp at hc
  ·rw [if_neg h]
   have e1 : J9 (Nm.val a) (Nm.val b) = [] := by unfold J9; rw [if_neg h]
   have e2 : a3H (Nm.val a) (Nm.val b) = 1 := by unfold a3H; rw [if_neg h]
   have e3 : J9 (Nm.val b) (Nm.val a) = Nm.enc (Nm.val b - Nm.val a) := by unfold J9; rw [if_pos (by omega)]
   have e4 : a3H (Nm.val b) (Nm.val a) = 0 := by unfold a3H; rw [if_pos (by omega)]
   rw [e1, e2] at hs1
   rw [e3, e4] at hs2
   (repeat first | refine uA ?_ | (apply S.exit; exact rfl) | (refine uK ?_ ?_; focus first | omega | trivial | exact id | (intros; simp_all <;> omega)) | simp (disch := omega) only [go_sem, Nat.reduceBEq, Nat.reduceAdd, Nat.reduceLeDiff, Int.reduceToNat, Int.reducePow, ww] | (refine uB hs1 ?_ ?_; exact rfl))
   refine S.cond rfl (fun hc => ?_) (fun hc => ?_)
   ·simp at hc
   ·(repeat first | refine uA ?_ | (apply S.exit; exact rfl) | (refine uK ?_ ?_; focus first | omega | trivial | exact id | (intros; simp_all <;> omega)) | simp (disch := omega) only [go_sem, Nat.reduceBEq, Nat.reduceAdd, Nat.reduceLeDiff, Int.reduceToNat, Int.reducePow, ww] | (refine uB hs2 ?_ ?_; exact rfl))
    exact S.done (d9.out rfl (Imp.refl rfl) rfl)
namespace Nm
theorem F9 {a b k m : Nat} (ha : (enc a).length <= k) (hb : (enc b).length <= m) : (enc (a * b)).length <= k + m := by
 refine K6 ?_
 rw [Nat.pow_add]
 exact Nat.mul_lt_mul'' (X5 ha) (X5 hb)
theorem a4z {a b k : Nat} (ha : (enc a).length <= k) (hb : (enc b).length <= k) : (enc (a + b)).length <= k + 1 := by
 refine K6 ?_
 have h1 := X5 ha
 have h2 := X5 hb
 rw [Nat.pow_succ]; omega
theorem a3w {a b : Nat} (h : a <= b) : (enc a).length <= (enc b).length := K6 (Nat.lt_of_le_of_lt h (X5 (Nat.le_refl _)))
theorem a5w (neg : Bool) (a : Nat) (mi : Bool) (b : Nat) : (J4 neg a mi b).2 <= a + b := by
 unfold J4; repeat' split
 all_goals simp only; omega
theorem add_same {p q : Rat} (h : p.den = q.den) : p + q = mkRat (p.num + q.num) p.den := by
 rw [Rat.add_def', <- h, <- Int.add_mul, Rat.mkRat_mul_right p.den_nz]
theorem a7j (p : Rat) : sgn (decide (p.num < 0)) p.num.natAbs = p.num := b5y p
theorem b9l {p q : Rat} (h : p.den = q.den) : mkRat (sgn (J4 (decide (p.num < 0)) p.num.natAbs (decide (q.num < 0)) q.num.natAbs).1 (J4 (decide (p.num < 0)) p.num.natAbs (decide (q.num < 0)) q.num.natAbs).2) p.den = p + q := by
 rw [b1c, a7j, a7j, add_same h]
theorem b1b (p q : Rat) : mkRat (sgn (J4 (decide (p.num < 0)) (p.num.natAbs * q.den) (decide (q.num < 0)) (q.num.natAbs * p.den)).1 (J4 (decide (p.num < 0)) (p.num.natAbs * q.den) (decide (q.num < 0)) (q.num.natAbs * p.den)).2) (p.den * q.den) = p + q := by
 rw [b1c, a4y, a4y, a7j, a7j, Rat.add_def']
theorem b2P (p q : Rat) : mkRat (sgn (decide (p.num < 0) != decide (q.num < 0)) (p.num.natAbs * q.num.natAbs)) (p.den * q.den) = p * q := by
 rw [c1o, a7j, a7j, Rat.mul_def']
theorem b2U (p q : Rat) (h : q ≠ 0) : mkRat (sgn (decide (p.num < 0) != decide (q.num < 0)) (p.num.natAbs * q.den)) (p.den * q.num.natAbs) = p / q := by
 have hn : q.num ≠ 0 := fun e => h (Rat.num_eq_zero.1 e)
 have hn' : q.num.natAbs ≠ 0 := by omega
 generalize hr : mkRat (sgn (decide (p.num < 0) != decide (q.num < 0)) (p.num.natAbs * q.den)) (p.den * q.num.natAbs) = r
 have key : p = r * q := by
  rw [<- hr]
  have e1 : p = mkRat p.num p.den := (Rat.mkRat_self p).symm
  have e2 : q = mkRat q.num q.den := (Rat.mkRat_self q).symm
  have hD : p.den * q.num.natAbs * q.den ≠ 0 := Nat.mul_ne_zero (Nat.mul_ne_zero p.den_nz hn') q.den_nz
  have e3 : mkRat (sgn (decide (p.num < 0) != decide (q.num < 0)) (p.num.natAbs * q.den)) (p.den * q.num.natAbs) * q = mkRat (sgn (decide (p.num < 0) != decide (q.num < 0)) (p.num.natAbs * q.den) * q.num) (p.den * q.num.natAbs * q.den) := by
   conv => lhs; rw [e2]
   rw [Rat.mkRat_mul_mkRat]
   simp only [Rat.mkRat_self]
  rw [e3]
  conv => lhs; rw [e1]
  rw [Rat.mkRat_eq_iff p.den_nz hD]
  have hx : sgn (decide (p.num < 0) != decide (q.num < 0)) (p.num.natAbs * q.den) * q.num = p.num * ((q.num.natAbs : Nat) : Int) * q.den := by
   rw [a4y]
   have : sgn (decide (p.num < 0) != decide (q.num < 0)) p.num.natAbs * q.num = p.num * ((q.num.natAbs : Nat) : Int) := by
    unfold sgn
    by_cases hA : p.num < 0
    ·by_cases hB : q.num < 0
     ·simp only [hA, hB, decide_true, bne_self_eq_false, Bool.false_eq_true, if_false]
      have e1 : ((p.num.natAbs : Nat) : Int) = -p.num := by omega
      have e2 : ((q.num.natAbs : Nat) : Int) = -q.num := by omega
      rw [e1, e2]; grind
     ·simp only [hA, hB, decide_true, decide_false, Bool.bne_false, if_true]
      have e1 : ((p.num.natAbs : Nat) : Int) = -p.num := by omega
      have e2 : ((q.num.natAbs : Nat) : Int) = q.num := by omega
      rw [e1, e2]; grind
    ·by_cases hB : q.num < 0
     ·simp only [hA, hB, decide_true, decide_false, Bool.bne_true, Bool.not_false, if_true]
      have e1 : ((p.num.natAbs : Nat) : Int) = p.num := by omega
      have e2 : ((q.num.natAbs : Nat) : Int) = -q.num := by omega
      rw [e1, e2]; grind
     ·simp only [hA, hB, decide_false, bne_self_eq_false, Bool.false_eq_true, if_false]
      have e1 : ((p.num.natAbs : Nat) : Int) = p.num := by omega
      have e2 : ((q.num.natAbs : Nat) : Int) = q.num := by omega
      rw [e1, e2]
   calc sgn (decide (p.num < 0) != decide (q.num < 0)) p.num.natAbs * (q.den : Int) * q.num = (sgn (decide (p.num < 0) != decide (q.num < 0)) p.num.natAbs * q.num) * (q.den : Int) := by grind
    _ = _ := by rw [this]
  rw [hx]
  push_cast
  grind
 rw [Rat.div_def]
 conv => rhs; rw [key]
 rw [Rat.mul_assoc, Rat.mul_inv_cancel _ h, Rat.mul_one]
end Nm
theorem Rb.fit {k : Nat} {a : Nm.Rt} (h : Rb k a) (hk : 1 <= k) : Rb k (Nm.ofQ (Nm.j3 a)) := by
 by_cases hg : a.D8
 ·rw [Nm.b8J hg]; exact h
 ·have e : Nm.ofQ (Nm.j3 a) = Nm.a2W := by unfold Nm.j3; rw [if_neg hg, Nm.a3D]
  rw [e]; exact ⟨Nat.zero_le _, hk⟩
theorem P6 (a : Nm.Rt) (ha : Rb 17179869184 a) : FZ 76 [rc a] (rq (Nm.j3 a)) := c2I a ⟨by have := ha.1; omega, by have := ha.2; omega⟩
theorem c1e (a b : Nat) : (Nm.enc a = Nm.enc b) = (a = b) := propext ⟨Nm.b0A, fun h => by rw [h]⟩
theorem a6G (n : Nat) : (Nm.enc n = []) = (n = 0) := propext ⟨fun h => Classical.byContradiction fun h0 => Nm.a4T h0 h, fun h => by rw [h, Nm.a2g]⟩
theorem a5x (n : Int) (h1 : -9223372036854775808 <= n) (h2 : n <= 9223372036854775807) : FZ 71 [ints n] (rq (n : Rat)) := by
 refine l8.of b8X b8e (by exact Nat.le_of_ble_eq_true rfl) fun w O hw => ?_
 have hb : ∀ k : Nat, k <= 9223372036854775808 -> (Nm.enc k).length <= 8 := fun k hk => Nm.K6 (by omega)
 have e1 : sb [1] = sb (Nm.enc 1) := by rw [Nm.a1Z]
 simp only [b0Y, l5, TT, II, OA, OB, OC, MM, LL, VV, FF, MG, LG, VG, FG, ints]
 (repeat first | refine uA ?_ | (apply S.exit; exact rfl) | (refine uK ?_ ?_; focus first | omega | trivial | exact id | (intros; simp_all <;> omega)) | simp (disch := omega) only [go_sem, Nat.reduceBEq, Nat.reduceAdd, Nat.reduceLeDiff, Int.reduceToNat, Int.reducePow, ww])
 (refine uJ rfl (fun hc => ?_) fun hc => ?_)
 ·have hof := b6T n (by omega)
  have hm := a4K false n.toNat 1 (by decide) (by have := hb n.toNat (by omega); omega) (by have := hb 1 (by decide); omega)
  have e : mkRat (Nm.sgn false n.toNat) 1 = (n : Rat) := by
   rw [Rat.mkRat_one]; congr 1; unfold Nm.sgn; simp; omega
  rw [e, Nm.a1Z] at hm
  simp only [rq, rc, sb, ints] at hm hof ⊢
  (repeat first | refine uA ?_ | (apply S.exit; exact rfl) | (refine uK ?_ ?_; focus first | omega | trivial | exact id | (intros; simp_all <;> omega)) | simp (disch := omega) only [go_sem, Nat.reduceBEq, Nat.reduceAdd, Nat.reduceLeDiff, Int.reduceToNat, Int.reducePow, ww] | (refine uB hof ?_ ?_; exact rfl) | (refine uD hm ?_ ?_ ?_; exact tz hw; exact rfl))
  (refine S.done ?_; simp only [x9, p9, go_sem, Nat.reduceBEq, Nat.reduceAdd, Nat.reduceLeDiff, Int.reduceToNat, Int.reducePow]; (repeat (refine ⟨?_, ?_⟩; focus first | trivial | omega | simp)); exact d9.out rfl (Imp.refl rfl) rfl)
 ·have hof := b6T (-(n + 1)) (by omega)
  have hadd := f_add (Nm.enc (-(n + 1)).toNat) [1] (by have := hb (-(n + 1)).toNat (by omega); omega) (by decide)
  have hm := a4K true ((-(n + 1)).toNat + 1) 1 (by decide) (by have := hb ((-(n + 1)).toNat + 1) (by omega); omega) (by have := hb 1 (by decide); omega)
  have e : mkRat (Nm.sgn true ((-(n + 1)).toNat + 1)) 1 = (n : Rat) := by
   rw [Rat.mkRat_one]; congr 1; unfold Nm.sgn; simp; omega
  rw [Nm.H8, show Nm.val [1] = 1 from rfl] at hadd
  rw [e, Nm.a1Z] at hm
  have hneg : IntKind.i64.wrap (0 - (n + 1)) = -(n + 1) := by rw [Eng.wrap_i64 (by omega)]; omega
  simp only [rq, rc, sb, ints] at hm hof hadd ⊢
  (repeat first | refine uA ?_ | (apply S.exit; exact rfl) | (refine uK ?_ ?_; focus first | omega | trivial | exact id | (intros; simp_all <;> omega)) | simp (disch := omega) only [go_sem, Nat.reduceBEq, Nat.reduceAdd, Nat.reduceLeDiff, Int.reduceToNat, Int.reducePow, ww, hneg] | (refine uB hof ?_ ?_; exact rfl) | (refine uB hadd ?_ ?_; exact rfl) | (refine uD hm ?_ ?_ ?_; exact tz hw; exact rfl))
  (refine S.done ?_; simp only [x9, p9, go_sem, Nat.reduceBEq, Nat.reduceAdd, Nat.reduceLeDiff, Int.reduceToNat, Int.reducePow]; (repeat (refine ⟨?_, ?_⟩; focus first | trivial | omega | simp)); exact d9.out rfl (Imp.refl rfl) rfl)
theorem a6i (a b : Nm.Rt) (ha : Rb 17179869184 a) (hb : Rb 17179869184 b) : FZ 16 [rc a, rc b] (rq (Nm.j3 a + Nm.j3 b)) := by
 refine l8.of b6s b7s (by exact Nat.le_of_ble_eq_true rfl) fun w O hw => ?_
 have hfa := P6 a ha
 have hfb := P6 b hb
 obtain ⟨n1, d1⟩ := ha.fit (by decide)
 obtain ⟨n2, d2⟩ := hb.fit (by decide)
 generalize Nm.j3 a = p at *
 generalize Nm.j3 b = q at *
 simp only [Nm.ofQ] at n1 d1 n2 d2
 have hp := p.den_nz
 have hq := q.den_nz
 have l1 := Nm.F9 n1 d2
 have l2 := Nm.F9 n2 d1
 have l3 := Nm.F9 d1 d2
 have s1 := b2h (decide (p.num < 0)) (decide (q.num < 0)) (Nm.enc p.num.natAbs) (Nm.enc q.num.natAbs) (by omega) (by omega)
 have m1 := a2q (Nm.enc p.num.natAbs) (Nm.enc q.den) (by omega) (by omega)
 have m2 := a2q (Nm.enc q.num.natAbs) (Nm.enc p.den) (by omega) (by omega)
 have m3 := a2q (Nm.enc p.den) (Nm.enc q.den) (by omega) (by omega)
 simp only [Nm.H8] at s1 m1 m2 m3
 have s2 := b2h (decide (p.num < 0)) (decide (q.num < 0)) (Nm.enc (p.num.natAbs * q.den)) (Nm.enc (q.num.natAbs * p.den)) (by omega) (by omega)
 simp only [Nm.H8] at s2
 have k1 : (Nm.enc (Nm.J4 (decide (p.num < 0)) p.num.natAbs (decide (q.num < 0)) q.num.natAbs).2).length <= 17179869185 := Nat.le_trans (Nm.a3w (Nm.a5w _ _ _ _)) (Nm.a4z n1 n2)
 have k2 : (Nm.enc (Nm.J4 (decide (p.num < 0)) (p.num.natAbs * q.den) (decide (q.num < 0)) (q.num.natAbs * p.den)).2).length <= 34359738369 := Nat.le_trans (Nm.a3w (Nm.a5w _ _ _ _)) (Nm.a4z l1 l2)
 have v1 := a4K (Nm.J4 (decide (p.num < 0)) p.num.natAbs (decide (q.num < 0)) q.num.natAbs).1 (Nm.J4 (decide (p.num < 0)) p.num.natAbs (decide (q.num < 0)) q.num.natAbs).2 p.den hp (by omega) (by omega)
 have v2 := a4K (Nm.J4 (decide (p.num < 0)) (p.num.natAbs * q.den) (decide (q.num < 0)) (q.num.natAbs * p.den)).1 (Nm.J4 (decide (p.num < 0)) (p.num.natAbs * q.den) (decide (q.num < 0)) (q.num.natAbs * p.den)).2 (p.den * q.den) (Nat.mul_ne_zero hp hq) (by omega) (by omega)
 rw [Nm.b1b] at v2
 have hsame := fun h => Nm.b9l (p := p) (q := q) h
 generalize p + q = r at *
 generalize Nm.J4 (decide (p.num < 0)) p.num.natAbs (decide (q.num < 0)) q.num.natAbs = t1 at *
 generalize Nm.J4 (decide (p.num < 0)) (p.num.natAbs * q.den) (decide (q.num < 0)) (q.num.natAbs * p.den) = t2 at *
 simp only [a8K, l5, TT, II, OA, OB, OC, MM, LL, VV, FF, MG, LG, VG, FG]
 simp only [rq, rc, sb, Nm.ofQ] at *
 (repeat first | refine uA ?_ | (apply S.exit; exact rfl) | (refine uK ?_ ?_; focus first | omega | trivial | exact id | (intros; simp_all <;> omega)) | simp (disch := omega) only [go_sem, Nat.reduceBEq, Nat.reduceAdd, Nat.reduceLeDiff, Int.reduceToNat, Int.reducePow, ww, b1W, c1e] | (refine uD hfa ?_ ?_ ?_; exact tz hw; exact rfl) | (refine uD hfb ?_ ?_ ?_; exact tz hw; exact rfl))
 (refine uJ rfl (fun hc => ?_) fun hc => ?_)
 ·rw [hsame hc] at v1
  (repeat first | refine uA ?_ | (apply S.exit; exact rfl) | (refine uK ?_ ?_; focus first | omega | trivial | exact id | (intros; simp_all <;> omega)) | simp (disch := omega) only [go_sem, Nat.reduceBEq, Nat.reduceAdd, Nat.reduceLeDiff, Int.reduceToNat, Int.reducePow, ww] | (refine uB s1 ?_ ?_; exact rfl) | (refine uD v1 ?_ ?_ ?_; exact tz hw; exact rfl))
  (refine S.done ?_; simp only [x9, p9, go_sem, Nat.reduceBEq, Nat.reduceAdd, Nat.reduceLeDiff, Int.reduceToNat, Int.reducePow]; (repeat (refine ⟨?_, ?_⟩; focus first | trivial | omega | simp)); exact d9.out rfl (Imp.refl rfl) rfl)
 ·(repeat first | refine uA ?_ | (apply S.exit; exact rfl) | (refine uK ?_ ?_; focus first | omega | trivial | exact id | (intros; simp_all <;> omega)) | simp (disch := omega) only [go_sem, Nat.reduceBEq, Nat.reduceAdd, Nat.reduceLeDiff, Int.reduceToNat, Int.reducePow, ww] | (refine uB m1 ?_ ?_; exact rfl) | (refine uB m2 ?_ ?_; exact rfl) | (refine uB m3 ?_ ?_; exact rfl) | (refine uB s2 ?_ ?_; exact rfl) | (refine uD v2 ?_ ?_ ?_; exact tz hw; exact rfl))
  (refine S.done ?_; simp only [x9, p9, go_sem, Nat.reduceBEq, Nat.reduceAdd, Nat.reduceLeDiff, Int.reduceToNat, Int.reducePow]; (repeat (refine ⟨?_, ?_⟩; focus first | trivial | omega | simp)); exact d9.out rfl (Imp.refl rfl) rfl)
theorem a6F (a b : Nm.Rt) (ha : Rb 17179869184 a) (hb : Rb 17179869184 b) : FZ 172 [rc a, rc b] (rq (Nm.j3 a * Nm.j3 b)) := by
 refine l8.of b5R b6u (by exact Nat.le_of_ble_eq_true rfl) fun w O hw => ?_
 have hfa := P6 a ha
 have hfb := P6 b hb
 obtain ⟨n1, d1⟩ := ha.fit (by decide)
 obtain ⟨n2, d2⟩ := hb.fit (by decide)
 generalize Nm.j3 a = p at *
 generalize Nm.j3 b = q at *
 simp only [Nm.ofQ] at n1 d1 n2 d2
 have hp := p.den_nz
 have hq := q.den_nz
 have l1 := Nm.F9 n1 n2
 have l3 := Nm.F9 d1 d2
 have m1 := a2q (Nm.enc p.num.natAbs) (Nm.enc q.num.natAbs) (by omega) (by omega)
 have m3 := a2q (Nm.enc p.den) (Nm.enc q.den) (by omega) (by omega)
 simp only [Nm.H8] at m1 m3
 have v2 := a4K (decide (p.num < 0) != decide (q.num < 0)) (p.num.natAbs * q.num.natAbs) (p.den * q.den) (Nat.mul_ne_zero hp hq) (by omega) (by omega)
 rw [Nm.b2P] at v2
 generalize p * q = r at *
 simp only [a8T, l5, TT, II, OA, OB, OC, MM, LL, VV, FF, MG, LG, VG, FG]
 simp only [rq, rc, sb, Nm.ofQ] at *
 (repeat first | refine uA ?_ | (apply S.exit; exact rfl) | (refine uK ?_ ?_; focus first | omega | trivial | exact id | (intros; simp_all <;> omega)) | simp (disch := omega) only [go_sem, Nat.reduceBEq, Nat.reduceAdd, Nat.reduceLeDiff, Int.reduceToNat, Int.reducePow, ww] | (refine uB m1 ?_ ?_; exact rfl) | (refine uB m3 ?_ ?_; exact rfl) | (refine uD hfa ?_ ?_ ?_; exact tz hw; exact rfl) | (refine uD hfb ?_ ?_ ?_; exact tz hw; exact rfl) | (refine uD v2 ?_ ?_ ?_; exact tz hw; exact rfl))
 (refine S.done ?_; simp only [x9, p9, go_sem, Nat.reduceBEq, Nat.reduceAdd, Nat.reduceLeDiff, Int.reduceToNat, Int.reducePow]; (repeat (refine ⟨?_, ?_⟩; focus first | trivial | omega | simp)); exact d9.out rfl (Imp.refl rfl) rfl)
def E9 (q : Rat) : Int := if q.num = 0 then 0 else if q.num < 0 then -1 else 1
theorem a9E (p : Rat) : Nm.ofQ (-p) = ⟨!decide (p.num < 0) && !decide (p.num.natAbs = 0), Nm.enc p.num.natAbs, Nm.enc p.den⟩ := by
 unfold Nm.ofQ
 rw [Rat.neg_num, Rat.neg_den, Int.natAbs_neg]
 congr 1
 by_cases h : p.num < 0
 ·simp [h]; omega
 ·by_cases h0 : p.num = 0
  ·simp [h0]
  ·have : ¬ p.num.natAbs = 0 := by omega
   simp [h, this]; omega
theorem b8u (a : Nm.Rt) (ha : Rb 17179869184 a) : FZ 142 [rc a] (rq (- Nm.j3 a)) := by
 refine l8.of b6i b7h (by exact Nat.le_of_ble_eq_true rfl) fun w O hw => ?_
 have hfa := P6 a ha
 generalize Nm.j3 a = p at *
 simp only [a8L, l5, TT, II, OA, OB, OC, MM, LL, VV, FF, MG, LG, VG, FG]
 unfold rq at *
 rw [a9E]
 simp only [rc, sb, Nm.ofQ] at *
 (repeat first | refine uA ?_ | (apply S.exit; exact rfl) | (refine uK ?_ ?_; focus first | omega | trivial | exact id | (intros; simp_all <;> omega)) | simp (disch := omega) only [go_sem, Nat.reduceBEq, Nat.reduceAdd, Nat.reduceLeDiff, Int.reduceToNat, Int.reducePow, ww, Y6, a6G] | (refine uD hfa ?_ ?_ ?_; exact tz hw; exact rfl))
 (refine S.done ?_; simp only [x9, p9, go_sem, Nat.reduceBEq, Nat.reduceAdd, Nat.reduceLeDiff, Int.reduceToNat, Int.reducePow]; (repeat (refine ⟨?_, ?_⟩; focus first | trivial | omega | simp)); exact d9.out rfl (Imp.refl rfl) rfl)
theorem b7J {k : Nat} {a : Nm.Rt} (h : Rb k a) (hk : 1 <= k) : Rb k (Nm.ofQ (- Nm.j3 a)) := by
 obtain ⟨h1, h2⟩ := h.fit hk
 rw [a9E]
 exact ⟨h1, h2⟩
theorem a4Y (a b : Nm.Rt) (ha : Rb 17179869184 a) (hb : Rb 17179869184 b) : FZ 158 [rc a, rc b] (rq (Nm.j3 a - Nm.j3 b)) := by
 refine l8.of b7b b7c (by exact Nat.le_of_ble_eq_true rfl) fun w O hw => ?_
 have hn := b8u b hb
 have hadd := a6i a (Nm.ofQ (- Nm.j3 b)) ha (b7J hb (by decide))
 rw [Nm.F7, <- Rat.sub_eq_add_neg] at hadd
 unfold rq at *
 generalize Nm.ofQ (- Nm.j3 b) = c at *
 generalize Nm.ofQ (Nm.j3 a - Nm.j3 b) = d at *
 simp only [a9O, l5, TT, II, OA, OB, OC, MM, LL, VV, FF, MG, LG, VG, FG]
 simp only [rc, sb] at *
 (repeat first | refine uA ?_ | (apply S.exit; exact rfl) | (refine uK ?_ ?_; focus first | omega | trivial | exact id | (intros; simp_all <;> omega)) | simp (disch := omega) only [go_sem, Nat.reduceBEq, Nat.reduceAdd, Nat.reduceLeDiff, Int.reduceToNat, Int.reducePow, ww] | (refine uD hn ?_ ?_ ?_; exact tz hw; exact rfl) | (refine uD hadd ?_ ?_ ?_; exact tz hw; exact rfl))
 (refine S.done ?_; simp only [x9, p9, go_sem, Nat.reduceBEq, Nat.reduceAdd, Nat.reduceLeDiff, Int.reduceToNat, Int.reducePow]; (repeat (refine ⟨?_, ?_⟩; focus first | trivial | omega | simp)); exact d9.out rfl (Imp.refl rfl) rfl)
def a4v (p q : Rat) : Nm.Rt := if q = 0 then ⟨false, [], []⟩ else Nm.ofQ (p / q)
def b0d (q : Rat) : Int := if q = 0 then 12 else 0
theorem c2C (a b : Nm.Rt) (ha : Rb 17179869184 a) (hb : Rb 17179869184 b) : FZ 223 [rc a, rc b] (.tup [rc (a4v (Nm.j3 a) (Nm.j3 b)), ints (b0d (Nm.j3 b))]) := by
 refine l8.of b6K b5Z (by exact Nat.le_of_ble_eq_true rfl) fun w O hw => ?_
 have hfa := P6 a ha
 have hfb := P6 b hb
 obtain ⟨n1, d1⟩ := ha.fit (by decide)
 obtain ⟨n2, d2⟩ := hb.fit (by decide)
 generalize Nm.j3 a = p at *
 generalize Nm.j3 b = q at *
 simp only [Nm.ofQ] at n1 d1 n2 d2
 have hp := p.den_nz
 have l1 := Nm.F9 n1 d2
 have l3 := Nm.F9 d1 n2
 have m1 := a2q (Nm.enc p.num.natAbs) (Nm.enc q.den) (by omega) (by omega)
 have m3 := a2q (Nm.enc p.den) (Nm.enc q.num.natAbs) (by omega) (by omega)
 simp only [Nm.H8] at m1 m3
 have v2 := fun h0 : q.num.natAbs ≠ 0 => a4K (decide (p.num < 0) != decide (q.num < 0)) (p.num.natAbs * q.den) (p.den * q.num.natAbs) (Nat.mul_ne_zero hp h0) (by omega) (by omega)
 have hdm := fun h => Nm.b2U p q h
 simp only [a9l, l5, TT, II, OA, OB, OC, MM, LL, VV, FF, MG, LG, VG, FG]
 simp only [rq, rc, sb, Nm.ofQ, ints] at *
 (repeat first | refine uA ?_ | (apply S.exit; exact rfl) | (refine uK ?_ ?_; focus first | omega | trivial | exact id | (intros; simp_all <;> omega)) | simp (disch := omega) only [go_sem, Nat.reduceBEq, Nat.reduceAdd, Nat.reduceLeDiff, Int.reduceToNat, Int.reducePow, ww, Y6, a6G] | (refine uD hfa ?_ ?_ ?_; exact tz hw; exact rfl) | (refine uD hfb ?_ ?_ ?_; exact tz hw; exact rfl))
 (refine uJ rfl (fun hc => ?_) fun hc => ?_)
 ·have h0 : q = 0 := Rat.num_eq_zero.1 (by omega)
  have e1 : a4v p q = ⟨false, [], []⟩ := by unfold a4v; rw [if_pos h0]
  have e2 : b0d q = 12 := by unfold b0d; rw [if_pos h0]
  rw [e1, e2]
  (repeat first | refine uA ?_ | (apply S.exit; exact rfl) | (refine uK ?_ ?_; focus first | omega | trivial | exact id | (intros; simp_all <;> omega)) | simp (disch := omega) only [go_sem, Nat.reduceBEq, Nat.reduceAdd, Nat.reduceLeDiff, Int.reduceToNat, Int.reducePow, ww])
  (refine S.done ?_; simp only [x9, p9, go_sem, Nat.reduceBEq, Nat.reduceAdd, Nat.reduceLeDiff, Int.reduceToNat, Int.reducePow]; (repeat (refine ⟨?_, ?_⟩; focus first | trivial | omega | simp)); exact d9.out rfl (Imp.refl rfl) rfl)
 ·have h0 : q ≠ 0 := fun h => hc (by rw [Rat.num_eq_zero.2 h]; rfl)
  have e1 : a4v p q = Nm.ofQ (p / q) := by unfold a4v; rw [if_neg h0]
  have e2 : b0d q = 0 := by unfold b0d; rw [if_neg h0]
  rw [e1, e2]
  have v2 := v2 hc
  rw [hdm h0] at v2
  generalize p / q = r at *
  simp only [Nm.ofQ] at *
  (repeat first | refine uA ?_ | (apply S.exit; exact rfl) | (refine uK ?_ ?_; focus first | omega | trivial | exact id | (intros; simp_all <;> omega)) | simp (disch := omega) only [go_sem, Nat.reduceBEq, Nat.reduceAdd, Nat.reduceLeDiff, Int.reduceToNat, Int.reducePow, ww] | (refine uB m1 ?_ ?_; exact rfl) | (refine uB m3 ?_ ?_; exact rfl) | (refine uD v2 ?_ ?_ ?_; exact tz hw; exact rfl))
  (refine S.done ?_; simp only [x9, p9, go_sem, Nat.reduceBEq, Nat.reduceAdd, Nat.reduceLeDiff, Int.reduceToNat, Int.reducePow]; (repeat (refine ⟨?_, ?_⟩; focus first | trivial | omega | simp)); exact d9.out rfl (Imp.refl rfl) rfl)
theorem U5 (a : Nm.Rt) (ha : Rb 17179869184 a) : FZ 15 [rc a] (ints (E9 (Nm.j3 a))) := by
 refine l8.of b4L b4A (by exact Nat.le_of_ble_eq_true rfl) fun w O hw => ?_
 have hfa := P6 a ha
 generalize Nm.j3 a = p at *
 simp only [a7Q, l5, TT, II, OA, OB, OC, MM, LL, VV, FF, MG, LG, VG, FG]
 simp only [rq, rc, sb, Nm.ofQ, ints] at *
 (repeat first | refine uA ?_ | (apply S.exit; exact rfl) | (refine uK ?_ ?_; focus first | omega | trivial | exact id | (intros; simp_all <;> omega)) | simp (disch := omega) only [go_sem, Nat.reduceBEq, Nat.reduceAdd, Nat.reduceLeDiff, Int.reduceToNat, Int.reducePow, ww, Y6, a6G] | (refine uD hfa ?_ ?_ ?_; exact tz hw; exact rfl))
 (refine uJ rfl (fun hc => ?_) fun hc => ?_)
 ·have : E9 p = 0 := by unfold E9; rw [if_pos (by omega)]
  rw [this]
  (repeat first | refine uA ?_ | (apply S.exit; exact rfl) | (refine uK ?_ ?_; focus first | omega | trivial | exact id | (intros; simp_all <;> omega)) | simp (disch := omega) only [go_sem, Nat.reduceBEq, Nat.reduceAdd, Nat.reduceLeDiff, Int.reduceToNat, Int.reducePow, ww])
  exact S.done (d9.out rfl (Imp.refl rfl) rfl)
 (repeat first | refine uA ?_ | (apply S.exit; exact rfl) | (refine uK ?_ ?_; focus first | omega | trivial | exact id | (intros; simp_all <;> omega)) | simp (disch := omega) only [go_sem, Nat.reduceBEq, Nat.reduceAdd, Nat.reduceLeDiff, Int.reduceToNat, Int.reducePow, ww])
 (refine uJ rfl (fun hc => ?_) fun hc => ?_)
 ·have : E9 p = -1 := by unfold E9; rw [if_neg (by omega), if_pos hc]
  rw [this]
  (repeat first | refine uA ?_ | (apply S.exit; exact rfl) | (refine uK ?_ ?_; focus first | omega | trivial | exact id | (intros; simp_all <;> omega)) | simp (disch := omega) only [go_sem, Nat.reduceBEq, Nat.reduceAdd, Nat.reduceLeDiff, Int.reduceToNat, Int.reducePow, ww])
  exact S.done (d9.out rfl (Imp.refl rfl) rfl)
 ·have : E9 p = 1 := by unfold E9; rw [if_neg (by omega), if_neg hc]
  rw [this]
  (repeat first | refine uA ?_ | (apply S.exit; exact rfl) | (refine uK ?_ ?_; focus first | omega | trivial | exact id | (intros; simp_all <;> omega)) | simp (disch := omega) only [go_sem, Nat.reduceBEq, Nat.reduceAdd, Nat.reduceLeDiff, Int.reduceToNat, Int.reducePow, ww])
  exact S.done (d9.out rfl (Imp.refl rfl) rfl)
theorem a8Y (a b : Nat) : -1 <= Nm.Z0 a b /\ Nm.Z0 a b <= 1 := by
 unfold Nm.Z0
 by_cases h : a < b
 ·rw [if_pos h]; omega
 ·rw [if_neg h]; split <;> omega
theorem Q8 (a b : Nm.Rt) (ha : Rb 17179869184 a) (hb : Rb 17179869184 b) : FZ 52 [rc a, rc b] (ints (Nm.A9 (Nm.j3 a) (Nm.j3 b))) := by
 refine l8.of b6A b6U (by exact Nat.le_of_ble_eq_true rfl) fun w O hw => ?_
 have hfa := P6 a ha
 have hfb := P6 b hb
 obtain ⟨n1, d1⟩ := ha.fit (by decide)
 obtain ⟨n2, d2⟩ := hb.fit (by decide)
 generalize Nm.j3 a = p at *
 generalize Nm.j3 b = q at *
 rw [Nm.c1w]
 simp only [Nm.ofQ] at n1 d1 n2 d2
 have l1 := Nm.F9 n1 d2
 have l2 := Nm.F9 n2 d1
 have m1 := a2q (Nm.enc p.num.natAbs) (Nm.enc q.den) (by omega) (by omega)
 have m2 := a2q (Nm.enc q.num.natAbs) (Nm.enc p.den) (by omega) (by omega)
 simp only [Nm.H8] at m1 m2
 have hcmp := a9q (Nm.enc (p.num.natAbs * q.den)) (Nm.enc (q.num.natAbs * p.den)) (by omega) (by omega)
 simp only [Nm.H8] at hcmp
 have hcr := a8Y (p.num.natAbs * q.den) (q.num.natAbs * p.den)
 generalize Nm.Z0 (p.num.natAbs * q.den) (q.num.natAbs * p.den) = cn at *
 simp only [a9C, l5, TT, II, OA, OB, OC, MM, LL, VV, FF, MG, LG, VG, FG]
 simp only [rq, rc, sb, Nm.ofQ, ints] at *
 generalize decide (p.num < 0) = bp at *
 generalize decide (q.num < 0) = bq at *
 (repeat first | refine uA ?_ | (apply S.exit; exact rfl) | (refine uK ?_ ?_; focus first | omega | trivial | exact id | (intros; simp_all <;> omega)) | simp (disch := omega) only [go_sem, Nat.reduceBEq, Nat.reduceAdd, Nat.reduceLeDiff, Int.reduceToNat, Int.reducePow, ww] | (refine uD hfa ?_ ?_ ?_; exact tz hw; exact rfl) | (refine uD hfb ?_ ?_ ?_; exact tz hw; exact rfl))
 refine S.cond rfl (fun hc => ?_) (fun hc => ?_)
 ·have hne : bp ≠ bq := by simpa using hc
  rw [if_pos hne]
  (repeat first | refine uA ?_ | (apply S.exit; exact rfl) | (refine uK ?_ ?_; focus first | omega | trivial | exact id | (intros; simp_all <;> omega)) | simp (disch := omega) only [go_sem, Nat.reduceBEq, Nat.reduceAdd, Nat.reduceLeDiff, Int.reduceToNat, Int.reducePow, ww])
  refine S.cond rfl (fun hc => ?_) (fun hc => ?_)
  ·rw [if_pos hc]
   (repeat first | refine uA ?_ | (apply S.exit; exact rfl) | (refine uK ?_ ?_; focus first | omega | trivial | exact id | (intros; simp_all <;> omega)) | simp (disch := omega) only [go_sem, Nat.reduceBEq, Nat.reduceAdd, Nat.reduceLeDiff, Int.reduceToNat, Int.reducePow, ww])
   exact S.done (d9.out rfl (Imp.refl rfl) rfl)
  ·rw [if_neg (by simp [hc])]
   (repeat first | refine uA ?_ | (apply S.exit; exact rfl) | (refine uK ?_ ?_; focus first | omega | trivial | exact id | (intros; simp_all <;> omega)) | simp (disch := omega) only [go_sem, Nat.reduceBEq, Nat.reduceAdd, Nat.reduceLeDiff, Int.reduceToNat, Int.reducePow, ww])
   exact S.done (d9.out rfl (Imp.refl rfl) rfl)
 ·have he : bp = bq := by simpa using hc
  rw [if_neg (by simp [he])]
  (repeat first | refine uA ?_ | (apply S.exit; exact rfl) | (refine uK ?_ ?_; focus first | omega | trivial | exact id | (intros; simp_all <;> omega)) | simp (disch := omega) only [go_sem, Nat.reduceBEq, Nat.reduceAdd, Nat.reduceLeDiff, Int.reduceToNat, Int.reducePow, ww] | (refine uB m1 ?_ ?_; exact rfl) | (refine uB m2 ?_ ?_; exact rfl) | (refine uB hcmp ?_ ?_; exact rfl))
  refine S.cond rfl (fun hc => ?_) (fun hc => ?_)
  ·rw [if_pos hc]
   have hneg : IntKind.i64.wrap (0 - cn) = - cn := by rw [Eng.wrap_i64 (by omega)]; omega
   (repeat first | refine uA ?_ | (apply S.exit; exact rfl) | (refine uK ?_ ?_; focus first | omega | trivial | exact id | (intros; simp_all <;> omega)) | simp (disch := omega) only [go_sem, Nat.reduceBEq, Nat.reduceAdd, Nat.reduceLeDiff, Int.reduceToNat, Int.reducePow, ww, hneg])
   exact S.done (d9.out rfl (Imp.refl rfl) rfl)
  ·rw [if_neg (by simp [hc])]
   (repeat first | refine uA ?_ | (apply S.exit; exact rfl) | (refine uK ?_ ?_; focus first | omega | trivial | exact id | (intros; simp_all <;> omega)) | simp (disch := omega) only [go_sem, Nat.reduceBEq, Nat.reduceAdd, Nat.reduceLeDiff, Int.reduceToNat, Int.reducePow, ww])
   exact S.done (d9.out rfl (Imp.refl rfl) rfl)
def b7l (p q : Rat) : Rat := if Nm.A9 p q <= 0 then p else q
def R7 (p q : Rat) : Rat := if Nm.A9 p q >= 0 then p else q
theorem c2B (a b : Nm.Rt) (ha : Rb 17179869184 a) (hb : Rb 17179869184 b) : FZ 153 [rc a, rc b] (rq (b7l (Nm.j3 a) (Nm.j3 b))) := by
 refine l8.of b6Z b6Q (by exact Nat.le_of_ble_eq_true rfl) fun w O hw => ?_
 have hfa := P6 a ha
 have hfb := P6 b hb
 have hc := Q8 a b ha hb
 unfold b7l
 generalize Nm.A9 (Nm.j3 a) (Nm.j3 b) = cn at *
 simp only [a9f, l5, TT, II, OA, OB, OC, MM, LL, VV, FF, MG, LG, VG, FG]
 unfold rq at *
 generalize Nm.j3 a = p at *
 generalize Nm.j3 b = q at *
 simp only [rc, sb, ints] at *
 (repeat first | refine uA ?_ | (apply S.exit; exact rfl) | (refine uK ?_ ?_; focus first | omega | trivial | exact id | (intros; simp_all <;> omega)) | simp (disch := omega) only [go_sem, Nat.reduceBEq, Nat.reduceAdd, Nat.reduceLeDiff, Int.reduceToNat, Int.reducePow, ww] | (refine uD hc ?_ ?_ ?_; exact tz hw; exact rfl))
 (refine uJ rfl (fun hc => ?_) fun hc => ?_)
 ·rw [if_pos hc]
  (repeat first | refine uA ?_ | (apply S.exit; exact rfl) | (refine uK ?_ ?_; focus first | omega | trivial | exact id | (intros; simp_all <;> omega)) | simp (disch := omega) only [go_sem, Nat.reduceBEq, Nat.reduceAdd, Nat.reduceLeDiff, Int.reduceToNat, Int.reducePow, ww] | (refine uD hfa ?_ ?_ ?_; exact tz hw; exact rfl))
  (refine S.done ?_; simp only [x9, p9, go_sem, Nat.reduceBEq, Nat.reduceAdd, Nat.reduceLeDiff, Int.reduceToNat, Int.reducePow]; (repeat (refine ⟨?_, ?_⟩; focus first | trivial | omega | simp)); exact d9.out rfl (Imp.refl rfl) rfl)
 ·rw [if_neg hc]
  (repeat first | refine uA ?_ | (apply S.exit; exact rfl) | (refine uK ?_ ?_; focus first | omega | trivial | exact id | (intros; simp_all <;> omega)) | simp (disch := omega) only [go_sem, Nat.reduceBEq, Nat.reduceAdd, Nat.reduceLeDiff, Int.reduceToNat, Int.reducePow, ww] | (refine uD hfb ?_ ?_ ?_; exact tz hw; exact rfl))
  (refine S.done ?_; simp only [x9, p9, go_sem, Nat.reduceBEq, Nat.reduceAdd, Nat.reduceLeDiff, Int.reduceToNat, Int.reducePow]; (repeat (refine ⟨?_, ?_⟩; focus first | trivial | omega | simp)); exact d9.out rfl (Imp.refl rfl) rfl)
theorem b7C (a b : Nm.Rt) (ha : Rb 17179869184 a) (hb : Rb 17179869184 b) : FZ 74 [rc a, rc b] (rq (R7 (Nm.j3 a) (Nm.j3 b))) := by
 refine l8.of b6j b6r (by exact Nat.le_of_ble_eq_true rfl) fun w O hw => ?_
 have hfa := P6 a ha
 have hfb := P6 b hb
 have hc := Q8 a b ha hb
 unfold R7
 generalize Nm.A9 (Nm.j3 a) (Nm.j3 b) = cn at *
 simp only [a9s, l5, TT, II, OA, OB, OC, MM, LL, VV, FF, MG, LG, VG, FG]
 unfold rq at *
 generalize Nm.j3 a = p at *
 generalize Nm.j3 b = q at *
 simp only [rc, sb, ints] at *
 (repeat first | refine uA ?_ | (apply S.exit; exact rfl) | (refine uK ?_ ?_; focus first | omega | trivial | exact id | (intros; simp_all <;> omega)) | simp (disch := omega) only [go_sem, Nat.reduceBEq, Nat.reduceAdd, Nat.reduceLeDiff, Int.reduceToNat, Int.reducePow, ww] | (refine uD hc ?_ ?_ ?_; exact tz hw; exact rfl))
 (refine uJ rfl (fun hc => ?_) fun hc => ?_)
 ·rw [if_pos hc]
  (repeat first | refine uA ?_ | (apply S.exit; exact rfl) | (refine uK ?_ ?_; focus first | omega | trivial | exact id | (intros; simp_all <;> omega)) | simp (disch := omega) only [go_sem, Nat.reduceBEq, Nat.reduceAdd, Nat.reduceLeDiff, Int.reduceToNat, Int.reducePow, ww] | (refine uD hfa ?_ ?_ ?_; exact tz hw; exact rfl))
  (refine S.done ?_; simp only [x9, p9, go_sem, Nat.reduceBEq, Nat.reduceAdd, Nat.reduceLeDiff, Int.reduceToNat, Int.reducePow]; (repeat (refine ⟨?_, ?_⟩; focus first | trivial | omega | simp)); exact d9.out rfl (Imp.refl rfl) rfl)
 ·rw [if_neg hc]
  (repeat first | refine uA ?_ | (apply S.exit; exact rfl) | (refine uK ?_ ?_; focus first | omega | trivial | exact id | (intros; simp_all <;> omega)) | simp (disch := omega) only [go_sem, Nat.reduceBEq, Nat.reduceAdd, Nat.reduceLeDiff, Int.reduceToNat, Int.reducePow, ww] | (refine uD hfb ?_ ?_ ?_; exact tz hw; exact rfl))
  (refine S.done ?_; simp only [x9, p9, go_sem, Nat.reduceBEq, Nat.reduceAdd, Nat.reduceLeDiff, Int.reduceToNat, Int.reducePow]; (repeat (refine ⟨?_, ?_⟩; focus first | trivial | omega | simp)); exact d9.out rfl (Imp.refl rfl) rfl)
theorem a9d (a : Nm.Rt) (ha : Rb 17179869184 a) : FZ 75 [rc a] (rc ⟨false, Nm.enc (Nm.j3 a).num.natAbs, Nm.enc (Nm.j3 a).den⟩) := by
 refine l8.of b7t b6L (by exact Nat.le_of_ble_eq_true rfl) fun w O hw => ?_
 have hfa := P6 a ha
 generalize Nm.j3 a = p at *
 simp only [a9h, l5, TT, II, OA, OB, OC, MM, LL, VV, FF, MG, LG, VG, FG]
 unfold rq at *
 simp only [rc, sb, Nm.ofQ] at *
 (repeat first | refine uA ?_ | (apply S.exit; exact rfl) | (refine uK ?_ ?_; focus first | omega | trivial | exact id | (intros; simp_all <;> omega)) | simp (disch := omega) only [go_sem, Nat.reduceBEq, Nat.reduceAdd, Nat.reduceLeDiff, Int.reduceToNat, Int.reducePow, ww] | (refine uD hfa ?_ ?_ ?_; exact tz hw; exact rfl))
 (refine S.done ?_; simp only [x9, p9, go_sem, Nat.reduceBEq, Nat.reduceAdd, Nat.reduceLeDiff, Int.reduceToNat, Int.reducePow]; (repeat (refine ⟨?_, ?_⟩; focus first | trivial | omega | simp)); exact d9.out rfl (Imp.refl rfl) rfl)
def o8 (a : Nm.Rt) : Bool := decide (a.num.length <= 3) && decide (a.den.length <= 2) && decide a.D8 && decide (Nm.val a.num <= 1000000) && decide (Nm.val a.den <= 1000)
theorem b5z (a b : Nat) : (Nm.Z0 a b <= 0) = (a <= b) := by
 unfold Nm.Z0
 by_cases h : a < b
 ·rw [if_pos h]; simp; omega
 ·rw [if_neg h]; split
  ·simp; omega
  ·simp; omega
theorem a2n (a : Nm.Rt) (ha : Rb 17179869184 a) : FZ 84 [rc a] (.v (.bool (o8 a))) := by
 refine l8.of b1Y b3v (by exact Nat.le_of_ble_eq_true rfl) fun w O hw => ?_
 have hg := a1j a ⟨by have := ha.1; omega, by have := ha.2; omega⟩
 have ho1 := b6T 1000000 (by decide)
 have ho2 := b6T 1000 (by decide)
 have hb : ∀ k : Nat, k <= 1000000 -> (Nm.enc k).length <= 8 := fun k hk => Nm.K6 (by omega)
 have hb1 := hb 1000000 (by decide)
 have hb2 := hb 1000 (by decide)
 have hc1 := a9q a.num (Nm.enc 1000000) (by have := ha.1; omega) (by omega)
 have hc2 := a9q a.den (Nm.enc 1000) (by have := ha.2; omega) (by omega)
 rw [Nm.H8] at hc1 hc2
 rw [show (1000000 : Int).toNat = 1000000 from rfl] at ho1
 rw [show (1000 : Int).toNat = 1000 from rfl] at ho2
 have hl1 := b5z (Nm.val a.num) 1000000
 have hl2 := b5z (Nm.val a.den) 1000
 unfold o8
 generalize decide a.D8 = g at *
 generalize Nm.enc 1000000 = e1 at *
 generalize Nm.enc 1000 = e2 at *
 obtain ⟨neg, num, den⟩ := a
 obtain ⟨r1, r2⟩ := ha
 simp only [a6q, l5, TT, II, OA, OB, OC, MM, LL, VV, FF, MG, LG, VG, FG]
 simp only [rc, sb, ints] at *
 generalize Nm.Z0 (Nm.val num) 1000000 = c1 at *
 generalize Nm.Z0 (Nm.val den) 1000 = c2 at *
 simp only [<- hl1, <- hl2]
 have hi1 : decide ((num.length : Int) <= 3) = decide (num.length <= 3) := decide_eq_decide.2 (by omega)
 have hi2 : decide ((den.length : Int) <= 2) = decide (den.length <= 2) := decide_eq_decide.2 (by omega)
 (repeat first | refine uA ?_ | (apply S.exit; exact rfl) | (refine uK ?_ ?_; focus first | omega | trivial | exact id | (intros; simp_all <;> omega)) | simp (disch := omega) only [go_sem, Nat.reduceBEq, Nat.reduceAdd, Nat.reduceLeDiff, Int.reduceToNat, Int.reducePow, ww, y8, hi1, hi2] | (refine uB ho1 ?_ ?_; exact rfl) | (refine uB ho2 ?_ ?_; exact rfl) | (refine uB hc1 ?_ ?_; exact rfl) | (refine uB hc2 ?_ ?_; exact rfl) | (refine uD hg ?_ ?_ ?_; exact tz hw; exact rfl))
 exact S.done (d9.out rfl (Imp.refl rfl) rfl)
open Go Eng
def a8Q : l9 := ⟨16, [.cell 4 true 6], .seq (.reg [OA 2 (.box 51 (TT 0)), OA 3 (.box 51 (TT 1)), OA 4 (.alloc 51 [.bool false, .string ⟨#[]⟩, .string ⟨#[]⟩, .bool false, .string ⟨#[]⟩, .string ⟨#[]⟩])]) (.seq (.C9 [.q, .q, .q, .q, .q, .q, .q,
 .q, .q, .q, .q, .e none false] [FF 5 0 2, LL 6 3 5, FF 7 0 3, LL 8 3 7, OA 9 (.call 158 [TT 6, TT 8]), FF 10 3 2, LL 11 3 10, FF 12 3 3, LL 13 3 12, OA 14 (.call 158 [TT 11, TT 13]), OA 15 (.build [.bool false, .string ⟨#[]⟩,
 .string ⟨#[]⟩, .bool false, .string ⟨#[]⟩, .string ⟨#[]⟩] [(0, (3, TT 9)), (3, (3, TT 14))]), OB (.store 6 (TT 4) (TT 15))]) .ret)⟩
theorem b6P : j6 eff Tryz.prog Tryz.f72 = some a8Q := by kernel_rfl
theorem b6n : Tryz.prog.funcs[72]? = some Tryz.f72 := Tryz.func72
def a9K : l9 := ⟨16, [.cell 4 true 6], .seq (.reg [OA 2 (.box 51 (TT 0)), OA 3 (.box 51 (TT 1)), OA 4 (.alloc 51 [.bool false, .string ⟨#[]⟩, .string ⟨#[]⟩, .bool false, .string ⟨#[]⟩, .string ⟨#[]⟩])]) (.seq (.C9 [.q, .q, .q, .q, .q, .q, .q,
 .q, .q, .q, .q, .e none false] [FF 5 0 2, LL 6 3 5, FF 7 0 3, LL 8 3 7, OA 9 (.call 16 [TT 6, TT 8]), FF 10 3 2, LL 11 3 10, FF 12 3 3, LL 13 3 12, OA 14 (.call 16 [TT 11, TT 13]), OA 15 (.build [.bool false, .string ⟨#[]⟩,
 .string ⟨#[]⟩, .bool false, .string ⟨#[]⟩, .string ⟨#[]⟩] [(0, (3, TT 9)), (3, (3, TT 14))]), OB (.store 6 (TT 4) (TT 15))]) .ret)⟩
theorem b6S : j6 eff Tryz.prog Tryz.f161 = some a9K := by kernel_rfl
theorem b6H : Tryz.prog.funcs[161]? = some Tryz.f161 := Tryz.func161
def a7H : l9 := ⟨34, [.cell 4 true 6], .seq (.reg [OA 2 (.box 51 (TT 0)), OA 3 (.box 53 (TT 1)), OA 4 (.alloc 51 [.bool false, .string ⟨#[]⟩, .string ⟨#[]⟩, .bool false, .string ⟨#[]⟩, .string ⟨#[]⟩])]) (.seq (.C9 [.q, .q, .q, .q, .q, .a, .e
 (some 5) false] [LL 6 4 3, OA 7 (.call 224 [TT 6]), LL 8 4 3, OA 9 (.call 225 [TT 8]), OA 10 (.build [.bool false, .string ⟨#[]⟩, .string ⟨#[]⟩, .bool false, .string ⟨#[]⟩, .string ⟨#[]⟩] [(0, (3, TT 7)), (3, (3, TT 9))]), OA 5
 (.alloc 51 [.bool false, .string ⟨#[]⟩, .string ⟨#[]⟩, .bool false, .string ⟨#[]⟩, .string ⟨#[]⟩]), OB (.store 6 (TT 5) (TT 10))]) (.seq (.C9 [.q, .q, .q, .q, .q, .q, .q, .q, .q, .q, .q, .q, .q, .q, .q, .q, .q, .q, .q, .q, .q,
 .q, .q, .e none false] [FF 11 0 2, LL 12 3 11, FF 13 0 5, LL 14 3 13, OA 15 (.call 172 [TT 12, TT 14]), FF 16 3 2, LL 17 3 16, FF 18 3 5, LL 19 3 18, OA 20 (.call 172 [TT 17, TT 19]), OA 21 (.call 158 [TT 15, TT 20]), FF 22 0 2,
 LL 23 3 22, FF 24 3 5, LL 25 3 24, OA 26 (.call 172 [TT 23, TT 25]), FF 27 3 2, LL 28 3 27, FF 29 0 5, LL 30 3 29, OA 31 (.call 172 [TT 28, TT 30]), OA 32 (.call 16 [TT 26, TT 31]), OA 33 (.build [.bool false, .string ⟨#[]⟩,
 .string ⟨#[]⟩, .bool false, .string ⟨#[]⟩, .string ⟨#[]⟩] [(0, (3, TT 21)), (3, (3, TT 32))]), OB (.store 6 (TT 4) (TT 33))]) .ret))⟩
theorem b4R : j6 eff Tryz.prog Tryz.f180 = some a7H := by kernel_rfl
theorem b4f : Tryz.prog.funcs[180]? = some Tryz.f180 := Tryz.func180
def a6W : l9 := ⟨16, [.cell 4 true 3], .seq (.reg [OA 2 (.box 51 (TT 0)), OA 3 (.box 51 (TT 1)), OA 4 (.alloc 29 [.bool false, .string ⟨#[]⟩, .string ⟨#[]⟩])]) (.seq (.C9 [.q, .q, .q, .q, .q, .q, .q, .q, .q, .q, .q, .e none false] [FF 5 0 2, LL
 6 3 5, FF 7 3 3, LL 8 3 7, OA 9 (.call 172 [TT 6, TT 8]), FF 10 3 2, LL 11 3 10, FF 12 0 3, LL 13 3 12, OA 14 (.call 172 [TT 11, TT 13]), OA 15 (.call 158 [TT 9, TT 14]), OB (.store 3 (TT 4) (TT 15))]) .ret)⟩
theorem b2L : j6 eff Tryz.prog Tryz.f263 = some a6W := by kernel_rfl
theorem b2v : Tryz.prog.funcs[263]? = some Tryz.f263 := Tryz.func263
def a9A : l9 := ⟨7, [.cell 2 true 4], .seq (.reg [OA 1 (.box 29 (TT 0)), OA 2 (.alloc 53 [.bool false, .bool false, .string ⟨#[]⟩, .string ⟨#[]⟩])]) (.seq (.reg [LL 3 3 1, LL 4 3 1, OA 5 (.call 153 [TT 3, TT 4]), OA 6 (.build [.bool false, .bool
 false, .string ⟨#[]⟩, .string ⟨#[]⟩] [(1, (3, TT 5))]), OB (.store 4 (TT 2) (TT 6))]) .ret)⟩
theorem b7g : j6 eff Tryz.prog Tryz.f213 = some a9A := by kernel_rfl
theorem b5P : Tryz.prog.funcs[213]? = some Tryz.f213 := Tryz.func213
def a4m : l9 := ⟨27, [.cell 2 true 3], .seq (.reg [OA 1 (.box 53 (TT 0)), OA 2 (.alloc 29 [.bool false, .string ⟨#[]⟩, .string ⟨#[]⟩])]) (.seq (.seq (.reg [LL 6 4 1, OA 7 (.call 243 [TT 6]), OB (.store 4 (TT 1) (TT 7))]) (.seq (.reg [FF 8 0 1, VV
 9 8]) (.cond (TT 9) (.seq (.reg [OA 10 (.call 71 [II (-1)]), OB (.store 3 (TT 2) (TT 10))]) .ret) .skip))) (.seq (.reg [FF 11 1 1, LL 12 3 11, FF 13 1 1, LL 14 3 13, OA 15 (.call 172 [TT 12, TT 14]), OA 3 (.alloc 29 [.bool
 false, .string ⟨#[]⟩, .string ⟨#[]⟩]), OB (.store 3 (TT 3) (TT 15))]) (.seq (.C9 [.q, .q, .q, .q, .q, .q, .q, .q, .q, .l, .a, .e (some 4) false, .q] [OA 17 (.call 71 [II 1]), LL 18 3 3, OA 19 (.call 158 [TT 17, TT 18]), OA 20
 (.call 71 [II 1]), LL 21 3 3, OA 22 (.call 16 [TT 20, TT 21]), OA 23 (.call 223 [TT 19, TT 22]), MM 16 23, OA 24 (.ext (TT 16) 0), OA 25 (.ext (TT 16) 1), OA 4 (.alloc 29 [.bool false, .string ⟨#[]⟩, .string ⟨#[]⟩]), OB (.store
 3 (TT 4) (TT 24)), MM 5 25]) (.seq (.reg [LL 26 3 4, OB (.store 3 (TT 2) (TT 26))]) .ret))))⟩
theorem b4Q : j6 eff Tryz.prog Tryz.f224 = some a4m := by kernel_rfl
theorem b4g : Tryz.prog.funcs[224]? = some Tryz.f224 := Tryz.func224
def a7R : l9 := ⟨24, [.cell 2 true 3], .seq (.reg [OA 1 (.box 53 (TT 0)), OA 2 (.alloc 29 [.bool false, .string ⟨#[]⟩, .string ⟨#[]⟩])]) (.seq (.reg [LL 5 4 1, OA 6 (.call 243 [TT 5]), OB (.store 4 (TT 1) (TT 6))]) (.seq (.C9 [.q, .q, .q, .q,
 .q, .q, .q, .q, .q, .q, .q, .q, .q, .q, .q, .l, .a, .e (some 3) false, .q] [FF 8 1 1, LL 9 3 8, FF 10 1 1, LL 11 3 10, OA 12 (.call 16 [TT 9, TT 11]), OA 13 (.call 71 [II 1]), FF 14 1 1, LL 15 3 14, FF 16 1 1, LL 17 3 16, OA 18
 (.call 172 [TT 15, TT 17]), OA 19 (.call 16 [TT 13, TT 18]), OA 20 (.call 223 [TT 12, TT 19]), MM 7 20, OA 21 (.ext (TT 7) 0), OA 22 (.ext (TT 7) 1), OA 3 (.alloc 29 [.bool false, .string ⟨#[]⟩, .string ⟨#[]⟩]), OB (.store 3 (TT
 3) (TT 21)), MM 4 22]) (.seq (.reg [LL 23 3 3, OB (.store 3 (TT 2) (TT 23))]) .ret)))⟩
theorem b4e : j6 eff Tryz.prog Tryz.f225 = some a7R := by kernel_rfl
theorem b5b : Tryz.prog.funcs[225]? = some Tryz.f225 := Tryz.func225
def a4B : l9 := ⟨9, [.cell 2 true 4], .seq (.reg [OA 1 (.box 53 (TT 0)), OA 2 (.alloc 53 [.bool false, .bool false, .string ⟨#[]⟩, .string ⟨#[]⟩])]) (.seq (.seq (.reg [FF 3 0 1, VV 4 3]) (.cond (TT 4) (.seq (.reg [OA 5 (.call 254 []), OB (.store
 4 (TT 2) (TT 5))]) .ret) .skip)) (.seq (.reg [FF 6 1 1, LL 7 3 6, OA 8 (.call 213 [TT 7]), OB (.store 4 (TT 2) (TT 8))]) .ret))⟩
theorem b4p : j6 eff Tryz.prog Tryz.f243 = some a4B := by kernel_rfl
theorem b4S : Tryz.prog.funcs[243]? = some Tryz.f243 := Tryz.func243
def a3v : l9 := ⟨3, [.cell 0 true 4], .seq (.reg [OA 0 (.alloc 53 [.bool false, .bool false, .string ⟨#[]⟩, .string ⟨#[]⟩])]) (.seq (.reg [OA 1 (.call 71 [II 0]), OA 2 (.build [.bool false, .bool false, .string ⟨#[]⟩, .string ⟨#[]⟩] [(0, (1,
 .const (.bool true))), (1, (3, TT 1))]), OB (.store 4 (TT 0) (TT 2))]) .ret)⟩
theorem a8o : j6 eff Tryz.prog Tryz.f254 = some a3v := by kernel_rfl
theorem a8v : Tryz.prog.funcs[254]? = some Tryz.f254 := Tryz.func254
def a6B : l9 := ⟨12, [.cell 4 true 6], .seq (.reg [OA 2 (.box 55 (TT 0)), OA 3 (.box 51 (TT 1)), OA 4 (.alloc 51 [.bool false, .string ⟨#[]⟩, .string ⟨#[]⟩, .bool false, .string ⟨#[]⟩, .string ⟨#[]⟩])]) (.seq (.C9 [.q, .q, .q, .q, .q, .q, .q,
 .e none false] [FF 5 0 2, LL 6 6 5, LL 7 6 3, FF 8 6 2, LL 9 4 8, OA 10 (.call 180 [TT 7, TT 9]), OA 11 (.call 161 [TT 6, TT 10]), OB (.store 6 (TT 4) (TT 11))]) .ret)⟩
theorem b3P : j6 eff Tryz.prog Tryz.f73 = some a6B := by kernel_rfl
theorem b3b : Tryz.prog.funcs[73]? = some Tryz.f73 := Tryz.func73
def a5V : l9 := ⟨5, [.tmp 2], .seq (.reg [OA 2 (.mv (II 0))]) (.seq (.reg [MM 3 0, OA 4 (.call 232 [TT 3, II 8]), MM 2 4]) .ret)⟩
theorem b1z : j6 eff Tryz.prog Tryz.f201 = some a5V := by kernel_rfl
theorem b1D : Tryz.prog.funcs[201]? = some Tryz.f201 := Tryz.func201
def a5M : l9 := ⟨49, [.tmp 4], .seq (.reg [OA 4 (.mv (II 0))]) (.seq (.reg [MM 9 0, OA 10 (.len false (TT 9)), MM 5 10]) (.seq (.block 0 (.seq (.reg [MM 12 5, MM 13 1, OA 14 (.bin .gtr (TT 12) (TT 13)), MM 11 14]) (.cond (TT 11) (.seq (.reg [OA 4
 (.mv (II 2))]) .ret) (.seq (.reg [MM 16 5, OA 17 (.bin .lss (TT 16) (II 3)), MM 15 17]) (.cond (TT 15) (.seq (.reg [OA 4 (.mv (II 3))]) .ret) .skip))))) (.seq (.seq (.reg [MM 18 0, OA 19 (.len false (TT 18)), OA 20 (.mv (II
 0))]) (.block 1 (.loop (.seq (.reg [OA 21 (.bin .lss (TT 20) (TT 19))]) (.seq (.cond (TT 21) .skip (.exit 1)) (.seq (.block 2 (.seq (.reg [MM 22 20, OA 23 (.j4 6 (TT 18) (TT 20)), LL 24 6 23, OA 7 (.alloc 51 [.bool false,
 .string ⟨#[]⟩, .string ⟨#[]⟩, .bool false, .string ⟨#[]⟩, .string ⟨#[]⟩]), MM 6 22, OB (.store 6 (TT 7) (TT 24))]) (.seq (.reg [OA 8 (.mv (II 2))]) (.block 3 (.loop (.seq (.seq (.reg [MM 25 8, MM 26 5, OA 27 (.bin .lss (TT 25)
 (TT 26))]) (.cond (TT 27) .skip (.exit 3))) (.seq (.block 4 (.seq (.C9 [.q, .q, .q, .q, .q, .q, .q, .q, .q, .q, .q, .q, .q, .q, .q, .q, .q, .q] [LL 30 6 7, MM 31 0, MM 32 6, OA 33 (.bin .add (TT 32) (II 1)), MM 34 5, OA 35
 (.bin .rem (TT 33) (TT 34)), OA 36 (.j4 6 (TT 31) (TT 35)), LL 37 6 36, MM 38 0, MM 39 6, MM 40 8, OA 41 (.bin .add (TT 39) (TT 40)), MM 42 5, OA 43 (.bin .rem (TT 41) (TT 42)), OA 44 (.j4 6 (TT 38) (TT 43)), LL 45 6 44,
 OA 46 (.call 251 [TT 30, TT 37, TT 45]), OA 47 (.bin .leq (TT 46) (II 0))]) (.cond (TT 47) (.seq (.reg [OA 4 (.mv (II 3))]) .ret) .skip))) (.reg [MM 28 8, OA 29 (.bin .add (TT 28) (II 1)), MM 8 29])))))))) (.reg [OA 48 (.bin
 .add (TT 20) (II 1)), MM 20 48]))))))) (.seq (.reg [OA 4 (.mv (II 0))]) .ret))))⟩
theorem b1q : j6 eff Tryz.prog Tryz.f232 = some a5M := by kernel_rfl
theorem b1M : Tryz.prog.funcs[232]? = some Tryz.f232 := Tryz.func232
def a6o : l9 := ⟨15, [.tmp 6], .seq (.reg [OA 3 (.box 51 (TT 0)), OA 4 (.box 51 (TT 1)), OA 5 (.box 51 (TT 2)), OA 6 (.mv (II 0))]) (.seq (.C9 [.q, .q, .q, .q, .q, .q, .q, .q, .q] [LL 7 6 4, LL 8 6 3, OA 9 (.call 72 [TT 7, TT 8]), LL 10 6 5, LL
 11 6 3, OA 12 (.call 72 [TT 10, TT 11]), OA 13 (.call 263 [TT 9, TT 12]), OA 14 (.call 15 [TT 13]), MM 6 14]) .ret)⟩
theorem b3R : j6 eff Tryz.prog Tryz.f251 = some a6o := by kernel_rfl
theorem b2g : Tryz.prog.funcs[251]? = some Tryz.f251 := Tryz.func251
def a6H : l9 := ⟨60, [.tmp 2], .seq (.reg [OA 1 (.box 76 (TT 0)), OA 2 (.mv (II 0))]) (.seq (.seq (.reg [FF 7 0 1, VV 8 7, OA 9 (.call 198 [TT 8]), OA 10 (.un .not (TT 9))]) (.cond (TT 10) (.seq (.reg [OA 2 (.mv (II 3))]) .ret) .skip)) (.seq
 (.seq (.reg [FF 11 11 1, VV 12 11, OA 13 (.len false (TT 12)), OA 14 (.bin .gtr (TT 13) (II 3))]) (.cond (TT 14) (.seq (.reg [OA 2 (.mv (II 2))]) .ret) .skip)) (.seq (.reg [FF 15 1 1, LL 16 10 15, OA 3 (.alloc 55 [.bool false,
 .string ⟨#[]⟩, .string ⟨#[]⟩, .bool false, .string ⟨#[]⟩, .string ⟨#[]⟩, .bool false, .bool false, .string ⟨#[]⟩, .string ⟨#[]⟩]), OB (.store 10 (TT 3) (TT 16))]) (.seq (.seq (.reg [FF 17 11 1, VV 18 17, OA 19 (.len false (TT
 18)), OA 20 (.bin .eql (TT 19) (II 0)), MM 21 20, FG 22 0 3 21 false, FG 23 0 22 21 false, LG 24 3 23 21 false, FG 25 0 3 21 false, FG 26 3 25 21 false, LG 27 3 26 21 false, FG 28 6 3 21 false, FG 29 1 28 21 false, LG 30 3 29 21
 false, OC 31 (.bsl 29 3 3 [.bool false, .string ⟨#[]⟩, .string ⟨#[]⟩] [(0, TT 24), (1, TT 27), (2, TT 30)]) 21 false, OC 32 (.call 199 [TT 31]) 21 false, OC 33 (.un .not (TT 32)) 21 false, OA 34 (.pick (TT 21) (.const (.bool
 true)) (TT 33)), MM 35 34, FG 36 6 3 35 false, FG 37 0 36 35 false, VG 38 37 35 false, MG 39 38 35 false, FG 40 6 3 39 true, FG 41 1 40 39 true, LG 42 3 41 39 true, OC 43 (.call 15 [TT 42]) 39 true, OC 44 (.bin .neq (TT 43) (II
 0)) 39 true, OC 45 (.pick (TT 39) (TT 44) (.const (.bool false))) 35 false, OA 46 (.pick (TT 35) (.const (.bool true)) (TT 45))]) (.cond (TT 46) (.seq (.reg [OA 2 (.mv (II 1))]) .ret) .skip)) (.seq (.seq (.reg [FF 47 11 1, VV 48
 47, OA 49 (.len false (TT 48)), OA 50 (.mv (II 0))]) (.block 0 (.loop (.seq (.reg [OA 51 (.bin .lss (TT 50) (TT 49))]) (.seq (.cond (TT 51) .skip (.exit 0)) (.seq (.block 1 (.seq (.reg [OA 52 (.j4 16 (TT 48) (TT 50)), LL 53
 16 52, OA 5 (.alloc 158 [.bool false, .string ⟨#[]⟩, .string ⟨#[]⟩, .bool false, .string ⟨#[]⟩, .string ⟨#[]⟩, .bool false, .string ⟨#[]⟩, .string ⟨#[]⟩, .bool false, .string ⟨#[]⟩, .string ⟨#[]⟩, .bool false, .string ⟨#[]⟩,
 .string ⟨#[]⟩, .slice none 0 0]), OB (.store 16 (TT 5) (TT 53))]) (.seq (.reg [LL 54 16 5, OA 55 (.call 200 [TT 54]), MM 6 55]) (.seq (.reg [MM 56 6, OA 57 (.bin .neq (TT 56) (II 0))]) (.cond (TT 57) (.seq (.reg [MM 58 6, MM 2
 58]) .ret) .skip))))) (.reg [OA 59 (.bin .add (TT 50) (II 1)), MM 50 59]))))))) (.seq (.reg [OA 2 (.mv (II 0))]) .ret))))))⟩
theorem b2Z : j6 eff Tryz.prog Tryz.f87 = some a6H := by kernel_rfl
theorem b2z : Tryz.prog.funcs[87]? = some Tryz.f87 := Tryz.func87
def a8a : l9 := ⟨42, [.tmp 4], .seq (.reg [OA 2 (.box 76 (TT 0)), OA 4 (.mv (II 0))]) (.seq (.seq (.reg [LL 8 12 2, MM 9 1, OA 10 (.len false (TT 9)), OA 11 (.call 212 [TT 8, TT 10]), MM 5 11]) (.seq (.reg [MM 12 5, OA 13 (.bin .neq (TT 12) (II
 0))]) (.cond (TT 13) (.seq (.reg [MM 14 5, MM 4 14]) .ret) .skip))) (.seq (.seq (.reg [FF 15 11 2, VV 16 15, OA 17 (.len false (TT 16)), OA 18 (.mv (II 0))]) (.block 0 (.loop (.seq (.reg [OA 19 (.bin .lss (TT 18) (TT 17))])
 (.seq (.cond (TT 19) .skip (.exit 0)) (.seq (.block 1 (.seq (.reg [MM 20 18, OA 21 (.j4 16 (TT 16) (TT 18)), LL 22 16 21, OA 7 (.alloc 158 [.bool false, .string ⟨#[]⟩, .string ⟨#[]⟩, .bool false, .string ⟨#[]⟩, .string ⟨#[]⟩,
 .bool false, .string ⟨#[]⟩, .string ⟨#[]⟩, .bool false, .string ⟨#[]⟩, .string ⟨#[]⟩, .bool false, .string ⟨#[]⟩, .string ⟨#[]⟩, .slice none 0 0]), MM 6 20, OB (.store 16 (TT 7) (TT 22))]) (.seq (.C9 [.q, .q, .q, .q, .q, .q,
 .q, .q, .q, .q, .q, .q, .q, .q, .q, .q, .q, .q] [MM 23 1, MM 24 6, OA 25 (.j4 3 (TT 23) (TT 24)), LL 26 3 25, FF 27 3 7, LL 28 3 27, OA 29 (.call 52 [TT 26, TT 28]), OA 30 (.bin .lss (TT 29) (II 0)), MM 31 30, MG 32 1 31
 false, MG 33 6 31 false, OC 34 (.j4 3 (TT 32) (TT 33)) 31 false, LG 35 3 34 31 false, FG 36 6 7 31 false, LG 37 3 36 31 false, OC 38 (.call 52 [TT 35, TT 37]) 31 false, OC 39 (.bin .gtr (TT 38) (II 0)) 31 false, OA 40 (.pick
 (TT 31) (.const (.bool true)) (TT 39))]) (.cond (TT 40) (.seq (.reg [OA 4 (.mv (II 17))]) .ret) .skip)))) (.reg [OA 41 (.bin .add (TT 18) (II 1)), MM 18 41]))))))) (.seq (.reg [OA 4 (.mv (II 0))]) .ret)))⟩
theorem b4z : j6 eff Tryz.prog Tryz.f141 = some a8a := by kernel_rfl
theorem b4C : Tryz.prog.funcs[141]? = some Tryz.f141 := Tryz.func141
def a5L : l9 := ⟨28, [.tmp 2], .seq (.reg [OA 2 (.mv (.const (.bool false)))]) (.seq (.seq (.reg [MM 4 0, OA 5 (.len true (TT 4)), OA 6 (.mv (II 0))]) (.block 0 (.loop (.seq (.reg [OA 7 (.bin .lss (TT 6) (TT 5))]) (.seq (.cond (TT 7) .skip (.exit
 0)) (.seq (.block 1 (.seq (.reg [MM 8 6, MM 3 8]) (.seq (.reg [MM 9 0, MM 10 3, OA 11 (.idxs (TT 9) (TT 10)), OA 12 (.bin .lss (TT 11) (.const (.int .u8 97))), MM 13 12, MG 14 0 13 false, MG 15 3 13 false, OC 16 (.idxs (TT 14)
 (TT 15)) 13 false, OC 17 (.bin .gtr (TT 16) (.const (.int .u8 122))) 13 false, OA 18 (.pick (TT 13) (.const (.bool true)) (TT 17))]) (.cond (TT 18) (.seq (.reg [OA 2 (.mv (.const (.bool false)))]) .ret) .skip)))) (.reg [OA 19
 (.bin .add (TT 6) (II 1)), MM 6 19]))))))) (.seq (.reg [MM 20 0, OA 21 (.len true (TT 20)), OA 22 (.bin .geq (TT 21) (II 1)), MM 23 22, MG 24 0 23 true, OC 25 (.len true (TT 24)) 23 true, OC 26 (.bin .leq (TT 25) (II 12)) 23
 true, OA 27 (.pick (TT 23) (TT 26) (.const (.bool false))), MM 2 27]) .ret))⟩
theorem b1J : j6 eff Tryz.prog Tryz.f198 = some a5L := by kernel_rfl
theorem b1O : Tryz.prog.funcs[198]? = some Tryz.f198 := Tryz.func198
def a6E : l9 := ⟨15, [.tmp 2], .seq (.reg [OA 2 (.mv (.const (.bool false)))]) (.seq (.seq (.reg [MM 5 0, OA 6 (.len false (TT 5)), OA 7 (.mv (II 0))]) (.block 0 (.loop (.seq (.reg [OA 8 (.bin .lss (TT 7) (TT 6))]) (.seq (.cond (TT 8) .skip
 (.exit 0)) (.seq (.block 1 (.seq (.reg [OA 9 (.j4 3 (TT 5) (TT 7)), LL 10 3 9, OA 4 (.alloc 29 [.bool false, .string ⟨#[]⟩, .string ⟨#[]⟩]), OB (.store 3 (TT 4) (TT 10))]) (.seq (.reg [LL 11 3 4, OA 12 (.call 84 [TT 11]), OA
 13 (.un .not (TT 12))]) (.cond (TT 13) (.seq (.reg [OA 2 (.mv (.const (.bool false)))]) .ret) .skip)))) (.reg [OA 14 (.bin .add (TT 7) (II 1)), MM 7 14]))))))) (.seq (.reg [OA 2 (.mv (.const (.bool true)))]) .ret))⟩
theorem b2I : j6 eff Tryz.prog Tryz.f199 = some a6E := by kernel_rfl
theorem b2m : Tryz.prog.funcs[199]? = some Tryz.f199 := Tryz.func199
def a6v : l9 := ⟨64, [.tmp 2], .seq (.reg [OA 1 (.box 158 (TT 0)), OA 2 (.mv (II 0))]) (.seq (.seq (.reg [FF 6 0 1, LL 7 3 6, FF 8 3 1, LL 9 3 8, FF 10 6 1, LL 11 3 10, FF 12 9 1, LL 13 3 12, FF 14 12 1, LL 15 3 14, OA 16 (.bsl 29 3 5 [.bool
 false, .string ⟨#[]⟩, .string ⟨#[]⟩] [(0, TT 7), (1, TT 9), (2, TT 11), (3, TT 13), (4, TT 15)]), OA 17 (.call 199 [TT 16]), OA 18 (.un .not (TT 17)), MM 19 18, FG 20 0 1 19 false, LG 21 3 20 19 false, OC 22 (.call 15 [TT 21])
 19 false, OC 23 (.bin .leq (TT 22) (II 0)) 19 false, OA 24 (.pick (TT 19) (.const (.bool true)) (TT 23)), MM 25 24, FG 26 3 1 25 false, LG 27 3 26 25 false, FG 28 6 1 25 false, LG 29 3 28 25 false, OC 30 (.call 52 [TT 27, TT
 29]) 25 false, OC 31 (.bin .geq (TT 30) (II 0)) 25 false, OA 32 (.pick (TT 25) (.const (.bool true)) (TT 31))]) (.cond (TT 32) (.seq (.reg [OA 2 (.mv (II 1))]) .ret) .skip)) (.seq (.seq (.reg [FF 33 9 1, LL 34 3 33, OA 35 (.call
 15 [TT 34]), OA 36 (.bin .leq (TT 35) (II 0)), MM 37 36, FG 38 12 1 37 false, LG 39 3 38 37 false, OC 40 (.call 15 [TT 39]) 37 false, OC 41 (.bin .leq (TT 40) (II 0)) 37 false, OA 42 (.pick (TT 37) (.const (.bool true)) (TT
 41))]) (.cond (TT 42) (.seq (.reg [OA 2 (.mv (II 1))]) .ret) .skip)) (.seq (.seq (.reg [FF 43 15 1, VV 44 43, OA 45 (.call 201 [TT 44]), MM 3 45]) (.seq (.reg [MM 46 3, OA 47 (.bin .neq (TT 46) (II 0))]) (.cond (TT 47) (.seq
 (.reg [MM 48 3, MM 2 48]) .ret) .skip))) (.seq (.seq (.reg [FF 49 15 1, VV 50 49, OA 51 (.len false (TT 50)), OA 52 (.mv (II 0))]) (.block 0 (.loop (.seq (.reg [OA 53 (.bin .lss (TT 52) (TT 51))]) (.seq (.cond (TT 53) .skip
 (.exit 0)) (.seq (.block 1 (.seq (.reg [OA 54 (.j4 6 (TT 50) (TT 52)), LL 55 6 54, OA 5 (.alloc 51 [.bool false, .string ⟨#[]⟩, .string ⟨#[]⟩, .bool false, .string ⟨#[]⟩, .string ⟨#[]⟩]), OB (.store 6 (TT 5) (TT 55))]) (.seq
 (.reg [FF 56 0 5, LL 57 3 56, FF 58 3 5, LL 59 3 58, OA 60 (.bsl 29 3 2 [.bool false, .string ⟨#[]⟩, .string ⟨#[]⟩] [(0, TT 57), (1, TT 59)]), OA 61 (.call 199 [TT 60]), OA 62 (.un .not (TT 61))]) (.cond (TT 62) (.seq (.reg [OA
 2 (.mv (II 1))]) .ret) .skip)))) (.reg [OA 63 (.bin .add (TT 52) (II 1)), MM 52 63]))))))) (.seq (.reg [OA 2 (.mv (II 0))]) .ret)))))⟩
theorem b3A : j6 eff Tryz.prog Tryz.f200 = some a6v := by kernel_rfl
theorem b2t : Tryz.prog.funcs[200]? = some Tryz.f200 := Tryz.func200
def a8X : l9 := ⟨16, [.tmp 4], .seq (.reg [OA 2 (.box 76 (TT 0)), OA 4 (.mv (II 0))]) (.seq (.seq (.reg [LL 6 12 2, OA 7 (.call 87 [TT 6]), MM 5 7]) (.seq (.reg [MM 8 5, OA 9 (.bin .neq (TT 8) (II 0))]) (.cond (TT 9) (.seq (.reg [MM 10 5, MM 4
 10]) .ret) .skip))) (.seq (.seq (.reg [MM 11 1, FF 12 11 2, VV 13 12, OA 14 (.len false (TT 13)), OA 15 (.bin .neq (TT 11) (TT 14))]) (.cond (TT 15) (.seq (.reg [OA 4 (.mv (II 1))]) .ret) .skip)) (.seq (.reg [OA 4 (.mv (II 0))])
 .ret)))⟩
theorem b6Y : j6 eff Tryz.prog Tryz.f212 = some a8X := by kernel_rfl
theorem b6c : Tryz.prog.funcs[212]? = some Tryz.f212 := Tryz.func212
def tc (h : Bool) (a : Nm.Rt) : C := .agg [.v (.bool h), .v (.bool a.neg), sb a.num, sb a.den]
def tq (h : Bool) (q : Rat) : C := tc h (Nm.ofQ q)
theorem c2W (a : Nm.Rt) (ha : Rb 17179869184 a) : FZ 213 [rc a] (tq false (Nm.j3 a)) := by
 refine l8.of b5P b7g (by exact Nat.le_of_ble_eq_true rfl) fun w O hw => ?_
 have hm := c2B a a ha ha
 have e : b7l (Nm.j3 a) (Nm.j3 a) = Nm.j3 a := by unfold b7l; split <;> rfl
 rw [e] at hm
 unfold rq tq at *
 generalize Nm.ofQ (Nm.j3 a) = r at *
 simp only [a9A, l5, TT, II, OA, OB, OC, MM, LL, VV, FF, MG, LG, VG, FG]
 simp only [rc, tc, sb] at *
 (repeat first | refine uA ?_ | (apply S.exit; exact rfl) | (refine uK ?_ ?_; focus first | omega | trivial | exact id | (intros; simp_all <;> omega)) | simp (disch := omega) only [go_sem, Nat.reduceBEq, Nat.reduceAdd, Nat.reduceLeDiff, Int.reduceToNat, Int.reducePow, ww] | (refine uD hm ?_ ?_ ?_; exact tz hw; exact rfl))
 (refine S.done ?_; simp only [x9, p9, go_sem, Nat.reduceBEq, Nat.reduceAdd, Nat.reduceLeDiff, Int.reduceToNat, Int.reducePow]; (repeat (refine ⟨?_, ?_⟩; focus first | trivial | omega | simp)); exact d9.out rfl (Imp.refl rfl) rfl)
theorem b0y {neg : Bool} {n d k m : Nat} (hd : d ≠ 0) (hn : (Nm.enc n).length <= k) (hdl : (Nm.enc d).length <= k) (hk : 1 <= k) (hm : k <= m) : Rb m (Nm.ofQ (mkRat (Nm.sgn neg n) d)) := by
 rw [<- Nm.b5i neg hd]
 split
 ·exact ⟨Nat.zero_le _, Nat.le_trans hk hm⟩
 ·exact ⟨Nat.le_trans (Nm.a3w (Nat.div_le_self _ _)) (Nat.le_trans hn hm), Nat.le_trans (Nm.a3w (Nat.div_le_self _ _)) (Nat.le_trans hdl hm)⟩
theorem b2x {k : Nat} {p : Rat} (h : Rb k (Nm.ofQ p)) : 1 <= k := by
 have h1 := h.2
 simp only [Nm.ofQ] at h1
 have : Nm.enc p.den ≠ [] := Nm.a4T p.den_nz
 have := List.length_pos_iff.2 this
 omega
theorem a0F {k m : Nat} {p q : Rat} (hp : Rb k (Nm.ofQ p)) (hq : Rb m (Nm.ofQ q)) : Rb (k + m + 1) (Nm.ofQ (p + q)) := by
 have h1 := b2x hp
 rw [<- Nm.b1b p q]
 have l1 := Nm.F9 hp.1 hq.2
 have l2 := Nm.F9 hq.1 hp.2
 have l3 := Nm.F9 hp.2 hq.2
 exact b0y (k := k + m + 1) (Nat.mul_ne_zero p.den_nz q.den_nz) (Nat.le_trans (Nm.a3w (Nm.a5w _ _ _ _)) (Nm.a4z l1 (by omega))) (by omega) (by omega) (Nat.le_refl _)
theorem M7 {k m : Nat} {p q : Rat} (hp : Rb k (Nm.ofQ p)) (hq : Rb m (Nm.ofQ q)) : Rb (k + m) (Nm.ofQ (p * q)) := by
 have h1 := b2x hp
 rw [<- Nm.b2P p q]
 exact b0y (k := k + m) (Nat.mul_ne_zero p.den_nz q.den_nz) (Nm.F9 hp.1 hq.1) (Nm.F9 hp.2 hq.2) (by omega) (Nat.le_refl _)
theorem b8H {k m : Nat} {p q : Rat} (h : q ≠ 0) (hp : Rb k (Nm.ofQ p)) (hq : Rb m (Nm.ofQ q)) : Rb (k + m) (Nm.ofQ (p / q)) := by
 have h1 := b2x hp
 rw [<- Nm.b2U p q h]
 have hn : q.num.natAbs ≠ 0 := fun e => h (Rat.num_eq_zero.1 (by omega))
 exact b0y (k := k + m) (Nat.mul_ne_zero p.den_nz hn) (Nm.F9 hp.1 hq.2) (Nm.F9 hp.2 hq.1) (by omega) (Nat.le_refl _)
theorem b0h {k : Nat} {p : Rat} (hp : Rb k (Nm.ofQ p)) : Rb k (Nm.ofQ (-p)) := by
 rw [a9E]; exact hp
theorem V9 {k m : Nat} {p q : Rat} (hp : Rb k (Nm.ofQ p)) (hq : Rb m (Nm.ofQ q)) : Rb (k + m + 1) (Nm.ofQ (p - q)) := by
 rw [Rat.sub_eq_add_neg]; exact a0F hp (b0h hq)
theorem Rb.mono {k m : Nat} {a : Nm.Rt} (h : Rb k a) (hm : k <= m) : Rb m a := ⟨Nat.le_trans h.1 hm, Nat.le_trans h.2 hm⟩
theorem b6O (p q : Rat) (hp : Rb 17179869184 (Nm.ofQ p)) (hq : Rb 17179869184 (Nm.ofQ q)) : FZ 16 [rq p, rq q] (rq (p + q)) := by
 have := a6i (Nm.ofQ p) (Nm.ofQ q) hp hq
 rwa [Nm.F7, Nm.F7] at this
theorem c0x (p q : Rat) (hp : Rb 17179869184 (Nm.ofQ p)) (hq : Rb 17179869184 (Nm.ofQ q)) : FZ 158 [rq p, rq q] (rq (p - q)) := by
 have := a4Y (Nm.ofQ p) (Nm.ofQ q) hp hq
 rwa [Nm.F7, Nm.F7] at this
theorem b1T (p q : Rat) (hp : Rb 17179869184 (Nm.ofQ p)) (hq : Rb 17179869184 (Nm.ofQ q)) : FZ 172 [rq p, rq q] (rq (p * q)) := by
 have := a6F (Nm.ofQ p) (Nm.ofQ q) hp hq
 rwa [Nm.F7, Nm.F7] at this
theorem c0p (p q : Rat) (hp : Rb 17179869184 (Nm.ofQ p)) (hq : Rb 17179869184 (Nm.ofQ q)) : FZ 223 [rq p, rq q] (.tup [rc (a4v p q), ints (b0d q)]) := by
 have := c2C (Nm.ofQ p) (Nm.ofQ q) hp hq
 rwa [Nm.F7, Nm.F7] at this
theorem c2h : FZ 254 [] (tq true 0) := by
 refine l8.of a8v a8o (by exact Nat.le_of_ble_eq_true rfl) fun w O hw => ?_
 have ho := a5x 0 (by decide) (by decide)
 rw [show ((0 : Int) : Rat) = 0 from rfl] at ho
 unfold rq tq at *
 generalize Nm.ofQ 0 = r at *
 simp only [a3v, l5, TT, II, OA, OB, OC, MM, LL, VV, FF, MG, LG, VG, FG]
 simp only [rc, tc, sb, ints] at *
 (repeat first | refine uA ?_ | (apply S.exit; exact rfl) | (refine uK ?_ ?_; focus first | omega | trivial | exact id | (intros; simp_all <;> omega)) | simp (disch := omega) only [go_sem, Nat.reduceBEq, Nat.reduceAdd, Nat.reduceLeDiff, Int.reduceToNat, Int.reducePow, ww] | (refine uD ho ?_ ?_ ?_; exact tz hw; exact rfl))
 (refine S.done ?_; simp only [x9, p9, go_sem, Nat.reduceBEq, Nat.reduceAdd, Nat.reduceLeDiff, Int.reduceToNat, Int.reducePow]; (repeat (refine ⟨?_, ?_⟩; focus first | trivial | omega | simp)); exact d9.out rfl (Imp.refl rfl) rfl)
def F4 (h : Bool) (a : Nm.Rt) : Rat := if h then 0 else Nm.j3 a
theorem b8c (h : Bool) (a : Nm.Rt) (ha : Rb 17179869184 a) : FZ 243 [tc h a] (tq h (F4 h a)) := by
 refine l8.of b4S b4p (by exact Nat.le_of_ble_eq_true rfl) fun w O hw => ?_
 have ho := c2h
 have hf := c2W a ha
 unfold F4 tq at *
 cases h
 ·simp only [Bool.false_eq_true, if_false]
  generalize Nm.ofQ (Nm.j3 a) = r at *
  simp only [a4B, l5, TT, II, OA, OB, OC, MM, LL, VV, FF, MG, LG, VG, FG]
  simp only [rc, tc, sb, ints] at *
  (repeat first | refine uA ?_ | (apply S.exit; exact rfl) | (refine uK ?_ ?_; focus first | omega | trivial | exact id | (intros; simp_all <;> omega)) | simp (disch := omega) only [go_sem, Nat.reduceBEq, Nat.reduceAdd, Nat.reduceLeDiff, Int.reduceToNat, Int.reducePow, ww])
  exact S.cond rfl (fun hc => by cases hc) (fun _ => by
   (repeat first | refine uA ?_ | (apply S.exit; exact rfl) | (refine uK ?_ ?_; focus first | omega | trivial | exact id | (intros; simp_all <;> omega)) | simp (disch := omega) only [go_sem, Nat.reduceBEq, Nat.reduceAdd, Nat.reduceLeDiff, Int.reduceToNat, Int.reducePow, ww] | (refine uD hf ?_ ?_ ?_; exact tz hw; exact rfl))
   (refine S.done ?_; simp only [x9, p9, go_sem, Nat.reduceBEq, Nat.reduceAdd, Nat.reduceLeDiff, Int.reduceToNat, Int.reducePow]; (repeat (refine ⟨?_, ?_⟩; focus first | trivial | omega | simp)); exact d9.out rfl (Imp.refl rfl) rfl))
 ·simp only [if_true]
  generalize Nm.ofQ 0 = r at *
  simp only [a4B, l5, TT, II, OA, OB, OC, MM, LL, VV, FF, MG, LG, VG, FG]
  simp only [rc, tc, sb, ints] at *
  (repeat first | refine uA ?_ | (apply S.exit; exact rfl) | (refine uK ?_ ?_; focus first | omega | trivial | exact id | (intros; simp_all <;> omega)) | simp (disch := omega) only [go_sem, Nat.reduceBEq, Nat.reduceAdd, Nat.reduceLeDiff, Int.reduceToNat, Int.reducePow, ww])
  exact S.cond rfl (fun _ => by
   (repeat first | refine uA ?_ | (apply S.exit; exact rfl) | (refine uK ?_ ?_; focus first | omega | trivial | exact id | (intros; simp_all <;> omega)) | simp (disch := omega) only [go_sem, Nat.reduceBEq, Nat.reduceAdd, Nat.reduceLeDiff, Int.reduceToNat, Int.reducePow, ww] | (refine uD ho ?_ ?_ ?_; exact tz hw; exact rfl))
   (refine S.done ?_; simp only [x9, p9, go_sem, Nat.reduceBEq, Nat.reduceAdd, Nat.reduceLeDiff, Int.reduceToNat, Int.reducePow]; (repeat (refine ⟨?_, ?_⟩; focus first | trivial | omega | simp)); exact d9.out rfl (Imp.refl rfl) rfl)) (fun hc => by cases hc)
def V5 (h : Bool) (t : Rat) : Rat := if h then -1 else (1 - t * t) / (1 + t * t)
def U8 (t : Rat) : Rat := (t + t) / (1 + t * t)
theorem sq_nonneg (t : Rat) : 0 <= t * t := by
 rcases Rat.le_total (a := 0) (b := t) with h | h
 ·exact Rat.mul_nonneg h h
 ·have h1 : 0 <= -t := by grind
  have := Rat.mul_nonneg h1 h1
  grind
theorem a9e (t : Rat) : 1 + t * t ≠ 0 := by
 have := sq_nonneg t
 intro h
 have h1 : (0 : Rat) < 1 := by decide
 grind
theorem a1c : Rb 8 (Nm.ofQ 1) := ⟨Nm.K6 (by decide), Nm.K6 (by decide)⟩
theorem c2a (h : Bool) (a : Nm.Rt) (ha : Rb 4294967296 a) : FZ 224 [tc h a] (rq (V5 h (F4 h a))) := by
 refine l8.of b4g b4Q (by exact Nat.le_of_ble_eq_true rfl) fun w O hw => ?_
 have hf := b8c h a (ha.mono (by decide))
 have ho := a5x 1 (by decide) (by decide)
 have hm1 := a5x (-1) (by decide) (by decide)
 rw [show ((1 : Int) : Rat) = 1 from rfl] at ho
 rw [show ((-1 : Int) : Rat) = -1 from rfl] at hm1
 have hk : Rb 4294967296 (Nm.ofQ (F4 h a)) := by
  unfold F4; cases h
  ·exact ha.fit (by decide)
  ·simp only [if_true]; rw [Nm.a3D]; exact ⟨by decide, by decide⟩
 generalize F4 h a = t at *
 have hsq := b1T t t (hk.mono (by decide)) (hk.mono (by decide))
 have k2 := M7 hk hk
 have hs := c0x 1 (t * t) (a1c.mono (by decide)) (k2.mono (by decide))
 have hp := b6O 1 (t * t) (a1c.mono (by decide)) (k2.mono (by decide))
 have hd := c0p (1 - t * t) (1 + t * t) ((V9 a1c k2).mono (by decide)) ((a0F a1c k2).mono (by decide))
 rw [show a4v (1 - t * t) (1 + t * t) = Nm.ofQ ((1 - t * t) / (1 + t * t)) by unfold a4v; rw [if_neg (a9e t)]] at hd
 unfold V5
 cases h
 ·simp only [Bool.false_eq_true, if_false]
  generalize (1 - t * t) / (1 + t * t) = r at *
  unfold tq rq at *
  generalize Nm.ofQ t = rt at *
  generalize Nm.ofQ (t * t) = rs at *
  generalize Nm.ofQ (1 - t * t) = r1 at *
  generalize Nm.ofQ (1 + t * t) = r2 at *
  generalize Nm.ofQ r = r3 at *
  generalize Nm.ofQ 1 = r4 at *
  simp only [a4m, l5, TT, II, OA, OB, OC, MM, LL, VV, FF, MG, LG, VG, FG]
  simp only [rc, tc, sb, ints] at *
  (repeat first | refine uA ?_ | (apply S.exit; exact rfl) | (refine uK ?_ ?_; focus first | omega | trivial | exact id | (intros; simp_all <;> omega)) | simp (disch := omega) only [go_sem, Nat.reduceBEq, Nat.reduceAdd, Nat.reduceLeDiff, Int.reduceToNat, Int.reducePow, ww] | (refine uD hf ?_ ?_ ?_; exact tz hw; exact rfl))
  refine S.cond rfl (fun hc => by cases hc) (fun _ => ?_)
  (repeat first | refine uA ?_ | (apply S.exit; exact rfl) | (refine uK ?_ ?_; focus first | omega | trivial | exact id | (intros; simp_all <;> omega)) | simp (disch := omega) only [go_sem, Nat.reduceBEq, Nat.reduceAdd, Nat.reduceLeDiff, Int.reduceToNat, Int.reducePow, ww] | (refine uD hsq ?_ ?_ ?_; exact tz hw; exact rfl) | (refine uD ho ?_ ?_ ?_; exact tz hw; exact rfl) | (refine uD hs ?_ ?_ ?_; exact tz hw; exact rfl) | (refine uD hp ?_ ?_ ?_; exact tz hw; exact rfl) | (refine uD hd ?_ ?_ ?_; exact tz hw; exact rfl))
  (refine S.done ?_; simp only [x9, p9, go_sem, Nat.reduceBEq, Nat.reduceAdd, Nat.reduceLeDiff, Int.reduceToNat, Int.reducePow]; (repeat (refine ⟨?_, ?_⟩; focus first | trivial | omega | simp)); exact d9.out rfl (Imp.refl rfl) rfl)
 ·simp only [if_true]
  unfold tq rq at *
  generalize Nm.ofQ t = rt at *
  generalize Nm.ofQ (-1) = r4 at *
  simp only [a4m, l5, TT, II, OA, OB, OC, MM, LL, VV, FF, MG, LG, VG, FG]
  simp only [rc, tc, sb, ints] at *
  (repeat first | refine uA ?_ | (apply S.exit; exact rfl) | (refine uK ?_ ?_; focus first | omega | trivial | exact id | (intros; simp_all <;> omega)) | simp (disch := omega) only [go_sem, Nat.reduceBEq, Nat.reduceAdd, Nat.reduceLeDiff, Int.reduceToNat, Int.reducePow, ww] | (refine uD hf ?_ ?_ ?_; exact tz hw; exact rfl))
  refine S.cond rfl (fun _ => ?_) (fun hc => by cases hc)
  (repeat first | refine uA ?_ | (apply S.exit; exact rfl) | (refine uK ?_ ?_; focus first | omega | trivial | exact id | (intros; simp_all <;> omega)) | simp (disch := omega) only [go_sem, Nat.reduceBEq, Nat.reduceAdd, Nat.reduceLeDiff, Int.reduceToNat, Int.reducePow, ww] | (refine uD hm1 ?_ ?_ ?_; exact tz hw; exact rfl))
  (refine S.done ?_; simp only [x9, p9, go_sem, Nat.reduceBEq, Nat.reduceAdd, Nat.reduceLeDiff, Int.reduceToNat, Int.reducePow]; (repeat (refine ⟨?_, ?_⟩; focus first | trivial | omega | simp)); exact d9.out rfl (Imp.refl rfl) rfl)
theorem a7e {k : Nat} {h : Bool} {a : Nm.Rt} (ha : Rb k a) (hk : 1 <= k) : Rb k (Nm.ofQ (F4 h a)) := by
 unfold F4; cases h
 ·exact ha.fit hk
 ·simp only [if_true]; rw [Nm.a3D]; exact ⟨Nat.zero_le _, hk⟩
theorem c2c (h : Bool) (a : Nm.Rt) (ha : Rb 4294967296 a) : FZ 225 [tc h a] (rq (U8 (F4 h a))) := by
 refine l8.of b5b b4e (by exact Nat.le_of_ble_eq_true rfl) fun w O hw => ?_
 have hf := b8c h a (ha.mono (by decide))
 have ho := a5x 1 (by decide) (by decide)
 rw [show ((1 : Int) : Rat) = 1 from rfl] at ho
 have hk : Rb 4294967296 (Nm.ofQ (F4 h a)) := a7e ha (by decide)
 generalize F4 h a = t at *
 have hsq := b1T t t (hk.mono (by decide)) (hk.mono (by decide))
 have k2 := M7 hk hk
 have hs := b6O t t (hk.mono (by decide)) (hk.mono (by decide))
 have hp := b6O 1 (t * t) (a1c.mono (by decide)) (k2.mono (by decide))
 have hd := c0p (t + t) (1 + t * t) ((a0F hk hk).mono (by decide)) ((a0F a1c k2).mono (by decide))
 rw [show a4v (t + t) (1 + t * t) = Nm.ofQ ((t + t) / (1 + t * t)) by unfold a4v; rw [if_neg (a9e t)]] at hd
 unfold U8
 generalize (t + t) / (1 + t * t) = r at *
 unfold tq rq at *
 generalize Nm.ofQ t = rt at *
 generalize Nm.ofQ (t * t) = rs at *
 generalize Nm.ofQ (t + t) = r1 at *
 generalize Nm.ofQ (1 + t * t) = r2 at *
 generalize Nm.ofQ r = r3 at *
 generalize Nm.ofQ 1 = r4 at *
 simp only [a7R, l5, TT, II, OA, OB, OC, MM, LL, VV, FF, MG, LG, VG, FG]
 simp only [rc, tc, sb, ints] at *
 (repeat first | refine uA ?_ | (apply S.exit; exact rfl) | (refine uK ?_ ?_; focus first | omega | trivial | exact id | (intros; simp_all <;> omega)) | simp (disch := omega) only [go_sem, Nat.reduceBEq, Nat.reduceAdd, Nat.reduceLeDiff, Int.reduceToNat, Int.reducePow, ww] | (refine uD hf ?_ ?_ ?_; exact tz hw; exact rfl) | (refine uD hsq ?_ ?_ ?_; exact tz hw; exact rfl) | (refine uD ho ?_ ?_ ?_; exact tz hw; exact rfl) | (refine uD hs ?_ ?_ ?_; exact tz hw; exact rfl) | (refine uD hp ?_ ?_ ?_; exact tz hw; exact rfl) | (refine uD hd ?_ ?_ ?_; exact tz hw; exact rfl))
 (refine S.done ?_; simp only [x9, p9, go_sem, Nat.reduceBEq, Nat.reduceAdd, Nat.reduceLeDiff, Int.reduceToNat, Int.reducePow]; (repeat (refine ⟨?_, ?_⟩; focus first | trivial | omega | simp)); exact d9.out rfl (Imp.refl rfl) rfl)
def vc (x y : Nm.Rt) : C := .agg [.v (.bool x.neg), sb x.num, sb x.den, .v (.bool y.neg), sb y.num, sb y.den]
def vq (x y : Rat) : C := vc (Nm.ofQ x) (Nm.ofQ y)
theorem c1T (a b c d : Nm.Rt) (ha : Rb 17179869184 a) (hb : Rb 17179869184 b) (hc : Rb 17179869184 c) (hd : Rb 17179869184 d) :
  FZ 161 [vc a b, vc c d] (vq (Nm.j3 a + Nm.j3 c) (Nm.j3 b + Nm.j3 d)) := by
 refine l8.of b6H b6S (by exact Nat.le_of_ble_eq_true rfl) fun w O hw => ?_
 have h1 := a6i a c ha hc
 have h2 := a6i b d hb hd
 unfold vq rq at *
 generalize Nm.ofQ (Nm.j3 a + Nm.j3 c) = r1 at *
 generalize Nm.ofQ (Nm.j3 b + Nm.j3 d) = r2 at *
 simp only [a9K, l5, TT, II, OA, OB, OC, MM, LL, VV, FF, MG, LG, VG, FG]
 simp only [rc, vc, sb] at *
 (repeat first | refine uA ?_ | (apply S.exit; exact rfl) | (refine uK ?_ ?_; focus first | omega | trivial | exact id | (intros; simp_all <;> omega)) | simp (disch := omega) only [go_sem, Nat.reduceBEq, Nat.reduceAdd, Nat.reduceLeDiff, Int.reduceToNat, Int.reducePow, ww] | (refine uD h1 ?_ ?_ ?_; exact tz hw; exact rfl) | (refine uD h2 ?_ ?_ ?_; exact tz hw; exact rfl))
 (refine S.done ?_; simp only [x9, p9, go_sem, Nat.reduceBEq, Nat.reduceAdd, Nat.reduceLeDiff, Int.reduceToNat, Int.reducePow]; (repeat (refine ⟨?_, ?_⟩; focus first | trivial | omega | simp)); exact d9.out rfl (Imp.refl rfl) rfl)
theorem b2e (a b c d : Nm.Rt) (ha : Rb 17179869184 a) (hb : Rb 17179869184 b) (hc : Rb 17179869184 c) (hd : Rb 17179869184 d) :
  FZ 72 [vc a b, vc c d] (vq (Nm.j3 a - Nm.j3 c) (Nm.j3 b - Nm.j3 d)) := by
 refine l8.of b6n b6P (by exact Nat.le_of_ble_eq_true rfl) fun w O hw => ?_
 have h1 := a4Y a c ha hc
 have h2 := a4Y b d hb hd
 unfold vq rq at *
 generalize Nm.ofQ (Nm.j3 a - Nm.j3 c) = r1 at *
 generalize Nm.ofQ (Nm.j3 b - Nm.j3 d) = r2 at *
 simp only [a8Q, l5, TT, II, OA, OB, OC, MM, LL, VV, FF, MG, LG, VG, FG]
 simp only [rc, vc, sb] at *
 (repeat first | refine uA ?_ | (apply S.exit; exact rfl) | (refine uK ?_ ?_; focus first | omega | trivial | exact id | (intros; simp_all <;> omega)) | simp (disch := omega) only [go_sem, Nat.reduceBEq, Nat.reduceAdd, Nat.reduceLeDiff, Int.reduceToNat, Int.reducePow, ww] | (refine uD h1 ?_ ?_ ?_; exact tz hw; exact rfl) | (refine uD h2 ?_ ?_ ?_; exact tz hw; exact rfl))
 (refine S.done ?_; simp only [x9, p9, go_sem, Nat.reduceBEq, Nat.reduceAdd, Nat.reduceLeDiff, Int.reduceToNat, Int.reducePow]; (repeat (refine ⟨?_, ?_⟩; focus first | trivial | omega | simp)); exact d9.out rfl (Imp.refl rfl) rfl)
def a5q : l9 := ⟨46, [.tmp 8, .tmp 9], .seq (.reg [OA 4 (.box 31 (TT 0)), OA 5 (.box 37 (TT 1)), OA 8 (.mv (.const (.bool false))), OA 9 (.mv (II 0))]) (.seq (.reg [LL 15 8 4, LL 16 5 5, MM 17 2, MM 18 3, OA 19 (.call 13 [TT 15, TT 16, TT 17, TT
 18]), MM 14 19, OA 20 (.ext (TT 14) 0), OA 21 (.ext (TT 14) 1), OA 10 (.alloc 29 [.bool false, .string ⟨#[]⟩, .string ⟨#[]⟩]), OB (.store 3 (TT 10) (TT 20)), MM 11 21]) (.seq (.seq (.reg [MM 22 11, OA 23 (.bin .neq (TT 22) (II
 0))]) (.cond (TT 23) (.seq (.reg [MM 24 11, OA 8 (.mv (.const (.bool false))), MM 9 24]) .ret) .skip)) (.seq (.seq (.reg [FF 25 1 5, VV 26 25, OA 27 (.len false (TT 26)), OA 28 (.mv (II 0))]) (.block 0 (.loop (.seq (.reg [OA 29
 (.bin .lss (TT 28) (TT 27))]) (.seq (.cond (TT 29) .skip (.exit 0)) (.seq (.block 1 (.seq (.reg [OA 30 (.j4 4 (TT 26) (TT 28)), LL 31 4 30, OA 13 (.alloc 90 [.slice none 0 0, .slice none 0 0, .bool false, .int .i64 0]), OB
 (.store 4 (TT 13) (TT 31))]) (.seq (.reg [FF 32 3 13, VV 33 32, MM 34 2, OA 35 (.bin .eql (TT 33) (TT 34))]) (.cond (TT 35) (.seq (.reg [OA 8 (.mv (.const (.bool false))), OA 9 (.mv (II 0))]) .ret) .skip)))) (.reg [OA 36 (.bin
 .add (TT 28) (II 1)), MM 28 36]))))))) (.seq (.C9 [.q, .q, .q, .q, .q, .q, .q, .q, .q, .q, .q] [LL 37 3 10, FF 38 3 4, VV 39 38, MM 40 3, OA 41 (.j4 14 (TT 39) (TT 40)), FF 42 11 41, LL 43 3 42, OA 44 (.call 52 [TT 37, TT
 43]), OA 45 (.bin .leq (TT 44) (II 0)), MM 8 45, OA 9 (.mv (II 0))]) .ret))))⟩
theorem b5S : j6 eff Tryz.prog Tryz.f11 = some a5q := by kernel_rfl
theorem b6a : Tryz.prog.funcs[11]? = some Tryz.f11 := Tryz.func11
def a4C : l9 := ⟨63, [.cell 8 true 3, .tmp 9], .seq (.reg [OA 4 (.box 31 (TT 0)), OA 5 (.box 37 (TT 1)), OA 8 (.alloc 29 [.bool false, .string ⟨#[]⟩, .string ⟨#[]⟩]), OA 9 (.mv (II 0))]) (.seq (.seq (.reg [LL 15 8 4, LL 16 5 5, MM 17 2, MM 18 3,
 OA 19 (.call 70 [TT 15, TT 16, TT 17, TT 18]), MM 10 19]) (.seq (.reg [MM 20 10, OA 21 (.bin .neq (TT 20) (II 0))]) (.cond (TT 21) (.seq (.reg [OA 22 (.build [.bool false, .string ⟨#[]⟩, .string ⟨#[]⟩] []), MM 23 10, OB (.store
 3 (TT 8) (TT 22)), MM 9 23]) .ret) .skip))) (.seq (.reg [OA 24 (.call 71 [II 0]), OA 11 (.alloc 29 [.bool false, .string ⟨#[]⟩, .string ⟨#[]⟩]), OB (.store 3 (TT 11) (TT 24))]) (.seq (.seq (.reg [FF 25 2 4, VV 26 25, MM 27 2, OA
 28 (.j4 12 (TT 26) (TT 27)), FF 29 1 28, VV 30 29, OA 31 (.len false (TT 30)), OA 32 (.mv (II 0))]) (.block 0 (.loop (.seq (.reg [OA 33 (.bin .lss (TT 32) (TT 31))]) (.seq (.cond (TT 33) .skip (.exit 0)) (.seq (.block 1 (.seq
 (.reg [OA 34 (.j4 6 (TT 30) (TT 32)), LL 35 6 34, OA 13 (.alloc 51 [.bool false, .string ⟨#[]⟩, .string ⟨#[]⟩, .bool false, .string ⟨#[]⟩, .string ⟨#[]⟩]), OB (.store 6 (TT 13) (TT 35))]) (.seq (.C9 [.q, .q, .q, .q, .q, .q,
 .q, .q, .q, .q, .q, .q, .q, .q, .q, .q, .a, .e (some 14) false] [FF 36 2 5, VV 37 36, MM 38 2, OA 39 (.j4 10 (TT 37) (TT 38)), LL 40 10 39, LL 41 6 13, OA 42 (.call 73 [TT 40, TT 41]), FF 43 3 4, VV 44 43, MM 45 3, OA 46
 (.j4 14 (TT 44) (TT 45)), FF 47 1 46, LL 48 10 47, LL 49 6 13, OA 50 (.call 73 [TT 48, TT 49]), OA 51 (.call 72 [TT 42, TT 50]), OA 14 (.alloc 51 [.bool false, .string ⟨#[]⟩, .string ⟨#[]⟩, .bool false, .string ⟨#[]⟩, .string
 ⟨#[]⟩]), OB (.store 6 (TT 14) (TT 51))]) (.C9 [.q, .q, .q, .q, .q, .q, .q, .q, .q, .e none false] [LL 52 3 11, FF 53 0 14, LL 54 3 53, OA 55 (.call 75 [TT 54]), FF 56 3 14, LL 57 3 56, OA 58 (.call 75 [TT 57]), OA 59 (.call 74
 [TT 55, TT 58]), OA 60 (.call 74 [TT 52, TT 59]), OB (.store 3 (TT 11) (TT 60))])))) (.reg [OA 61 (.bin .add (TT 32) (II 1)), MM 32 61]))))))) (.seq (.reg [LL 62 3 11, OB (.store 3 (TT 8) (TT 62)), OA 9 (.mv (II 0))]) .ret))))⟩
theorem b4x : j6 eff Tryz.prog Tryz.f13 = some a4C := by kernel_rfl
theorem b4X : Tryz.prog.funcs[13]? = some Tryz.f13 := Tryz.func13
def a0E : l9 := ⟨69, [.tmp 6, .cell 7 true 3, .tmp 8], .seq (.reg [OA 3 (.box 31 (TT 0)), OA 4 (.box 37 (TT 1)), OA 6 (.mv (II 0)), OA 7 (.alloc 29 [.bool false, .string ⟨#[]⟩, .string ⟨#[]⟩]), OA 8 (.mv (II 0))]) (.seq (.seq (.reg [LL 15 8 3, LL
 16 5 4, OA 17 (.call 38 [TT 15, TT 16]), MM 9 17]) (.seq (.reg [MM 18 9, OA 19 (.bin .neq (TT 18) (II 0))]) (.cond (TT 19) (.seq (.reg [OA 20 (.build [.bool false, .string ⟨#[]⟩, .string ⟨#[]⟩] []), MM 21 9, OA 6 (.mv (II 0)),
 OB (.store 3 (TT 7) (TT 20)), MM 8 21]) .ret) .skip))) (.seq (.seq (.reg [MM 22 2, OA 23 (.bin .lss (TT 22) (II 0)), MM 24 23, MG 25 2 24 false, FG 26 2 3 24 false, VG 27 26 24 false, OC 28 (.len false (TT 27)) 24 false, OC 29
 (.bin .geq (TT 25) (TT 28)) 24 false, OA 30 (.pick (TT 24) (.const (.bool true)) (TT 29))]) (.cond (TT 30) (.seq (.reg [OA 31 (.build [.bool false, .string ⟨#[]⟩, .string ⟨#[]⟩] []), OA 6 (.mv (II 0)), OB (.store 3 (TT 7) (TT
 31)), OA 8 (.mv (II 1))]) .ret) .skip)) (.seq (.seq (.reg [FF 32 3 3, VV 33 32, OA 34 (.len false (TT 33)), OA 35 (.bin .eql (TT 34) (II 0))]) (.cond (TT 35) (.seq (.reg [OA 36 (.build [.bool false, .string ⟨#[]⟩, .string ⟨#[]⟩]
 []), OA 6 (.mv (II 0)), OB (.store 3 (TT 7) (TT 36)), OA 8 (.mv (II 4))]) .ret) .skip)) (.seq (.reg [OA 37 (.call 71 [II 0]), OA 11 (.alloc 29 [.bool false, .string ⟨#[]⟩, .string ⟨#[]⟩]), OA 10 (.mv (II 0)), OB (.store 3 (TT
 11) (TT 37))]) (.seq (.seq (.reg [FF 38 3 3, VV 39 38, OA 40 (.len false (TT 39)), OA 41 (.mv (II 0))]) (.block 0 (.loop (.seq (.reg [OA 42 (.bin .lss (TT 41) (TT 40))]) (.seq (.cond (TT 42) .skip (.exit 0)) (.seq (.block 1
 (.seq (.reg [MM 43 41, MM 12 43]) (.seq (.reg [LL 45 8 3, LL 46 5 4, MM 47 2, MM 48 12, OA 49 (.call 13 [TT 45, TT 46, TT 47, TT 48]), MM 44 49, OA 50 (.ext (TT 44) 0), OA 51 (.ext (TT 44) 1), OA 13 (.alloc 29 [.bool false,
 .string ⟨#[]⟩, .string ⟨#[]⟩]), OB (.store 3 (TT 13) (TT 50)), MM 14 51]) (.seq (.seq (.reg [MM 52 14, OA 53 (.bin .neq (TT 52) (II 0))]) (.cond (TT 53) (.seq (.reg [OA 54 (.build [.bool false, .string ⟨#[]⟩, .string ⟨#[]⟩] []),
 MM 55 14, OA 6 (.mv (II 0)), OB (.store 3 (TT 7) (TT 54)), MM 8 55]) .ret) .skip)) (.seq (.reg [MM 56 12, OA 57 (.bin .eql (TT 56) (II 0)), MM 58 57, LG 59 3 13 58 false, LG 60 3 11 58 false, OC 61 (.call 52 [TT 59, TT 60]) 58
 false, OC 62 (.bin .lss (TT 61) (II 0)) 58 false, OA 63 (.pick (TT 58) (.const (.bool true)) (TT 62))]) (.cond (TT 63) (.C9 [.q, .q, .q, .e none false] [MM 64 12, LL 65 3 13, MM 10 64, OB (.store 3 (TT 11) (TT 65))])
 .skip)))))) (.reg [OA 66 (.bin .add (TT 41) (II 1)), MM 41 66]))))))) (.seq (.C9 [.q, .q, .q, .e none false, .q] [MM 67 10, LL 68 3 11, MM 6 67, OB (.store 3 (TT 7) (TT 68)), OA 8 (.mv (II 0))]) .ret))))))⟩
theorem b2S : j6 eff Tryz.prog Tryz.f14 = some a0E := by kernel_rfl
theorem b2j : Tryz.prog.funcs[14]? = some Tryz.f14 := Tryz.func14
def a7P : l9 := ⟨45, [.tmp 6, .tmp 7], .seq (.reg [OA 3 (.box 31 (TT 0)), OA 4 (.box 37 (TT 1)), OA 6 (.mv (.const (.bool false))), OA 7 (.mv (II 0))]) (.seq (.seq (.reg [LL 14 8 3, LL 15 5 4, OA 16 (.call 38 [TT 14, TT 15]), MM 8 16]) (.seq
 (.reg [MM 17 8, OA 18 (.bin .neq (TT 17) (II 0))]) (.cond (TT 18) (.seq (.reg [MM 19 8, OA 6 (.mv (.const (.bool false))), MM 7 19]) .ret) .skip))) (.seq (.reg [OA 9 (.mv (.const (.bool true)))]) (.seq (.seq (.reg [MM 20 2, OA
 21 (.len false (TT 20)), OA 22 (.mv (II 0))]) (.block 0 (.loop (.seq (.reg [OA 23 (.bin .lss (TT 22) (TT 21))]) (.seq (.cond (TT 23) .skip (.exit 0)) (.seq (.block 1 (.seq (.reg [OA 24 (.j4 2 (TT 20) (TT 22)), LL 25 2 24, OA
 11 (.alloc 105 [.int .i64 0, .int .i64 0]), OB (.store 2 (TT 11) (TT 25))]) (.seq (.reg [LL 27 8 3, LL 28 5 4, FF 29 0 11, VV 30 29, FF 31 1 11, VV 32 31, OA 33 (.call 11 [TT 27, TT 28, TT 30, TT 32]), MM 26 33, OA 34 (.ext (TT
 26) 0), OA 35 (.ext (TT 26) 1), MM 12 34, MM 13 35]) (.seq (.seq (.reg [MM 36 13, OA 37 (.bin .neq (TT 36) (II 0))]) (.cond (TT 37) (.seq (.reg [MM 38 13, OA 6 (.mv (.const (.bool false))), MM 7 38]) .ret) .skip)) (.reg [MM 39
 9, MM 40 39, MG 41 12 40 true, OA 42 (.pick (TT 40) (TT 41) (.const (.bool false))), MM 9 42]))))) (.reg [OA 43 (.bin .add (TT 22) (II 1)), MM 22 43]))))))) (.seq (.reg [MM 44 9, MM 6 44, OA 7 (.mv (II 0))]) .ret))))⟩
theorem b4j : j6 eff Tryz.prog Tryz.f48 = some a7P := by kernel_rfl
theorem b4I : Tryz.prog.funcs[48]? = some Tryz.f48 := Tryz.func48
def a5K : l9 := ⟨36, [.tmp 8], .seq (.reg [OA 4 (.box 31 (TT 0)), OA 5 (.box 37 (TT 1)), OA 8 (.mv (II 0))]) (.seq (.seq (.reg [LL 10 8 4, LL 11 5 5, OA 12 (.call 38 [TT 10, TT 11]), MM 9 12]) (.seq (.reg [MM 13 9, OA 14 (.bin .neq (TT 13) (II
 0))]) (.cond (TT 14) (.seq (.reg [MM 15 9, MM 8 15]) .ret) .skip))) (.seq (.seq (.reg [MM 16 2, OA 17 (.bin .lss (TT 16) (II 0)), MM 18 17, MG 19 2 18 false, FG 20 2 4 18 false, VG 21 20 18 false, OC 22 (.len false (TT 21)) 18
 false, OC 23 (.bin .geq (TT 19) (TT 22)) 18 false, OA 24 (.pick (TT 18) (.const (.bool true)) (TT 23)), MM 25 24, MG 26 3 25 false, OC 27 (.bin .lss (TT 26) (II 0)) 25 false, OA 28 (.pick (TT 25) (.const (.bool true)) (TT 27)),
 MM 29 28, MG 30 3 29 false, FG 31 3 4 29 false, VG 32 31 29 false, OC 33 (.len false (TT 32)) 29 false, OC 34 (.bin .geq (TT 30) (TT 33)) 29 false, OA 35 (.pick (TT 29) (.const (.bool true)) (TT 34))]) (.cond (TT 35) (.seq (.reg
 [OA 8 (.mv (II 1))]) .ret) .skip)) (.seq (.reg [OA 8 (.mv (II 0))]) .ret)))⟩
theorem b1x : j6 eff Tryz.prog Tryz.f70 = some a5K := by kernel_rfl
theorem b1Q : Tryz.prog.funcs[70]? = some Tryz.f70 := Tryz.func70
theorem b3B {k : Nat} {t : Rat} (h : Bool) (ht : Rb k (Nm.ofQ t)) : Rb (4 * k + 18) (Nm.ofQ (V5 h t)) := by
 unfold V5
 have h1 := M7 ht ht
 have h2 := V9 a1c h1
 have h3 := a0F a1c h1
 cases h
 ·exact (b8H (a9e t) h2 h3).mono (by omega)
 ·exact (b0h a1c).mono (by omega)
theorem b2f {k : Nat} {t : Rat} (ht : Rb k (Nm.ofQ t)) : Rb (4 * k + 18) (Nm.ofQ (U8 t)) := by
 unfold U8
 exact (b8H (a9e t) (a0F ht ht) (a0F a1c (M7 ht ht))).mono (by omega)
theorem c1q (a b t : Nm.Rt) (h : Bool) (ha : Rb 1048576 a) (hb : Rb 1048576 b) (ht : Rb 1048576 t) :
  FZ 180 [vc a b, tc h t] (vq (Nm.j3 a * V5 h (F4 h t) - Nm.j3 b * U8 (F4 h t)) (Nm.j3 a * U8 (F4 h t) + Nm.j3 b * V5 h (F4 h t))) := by
 refine l8.of b4f b4R (by exact Nat.le_of_ble_eq_true rfl) fun w O hw => ?_
 have k1 := c2a h t (ht.mono (by decide))
 have k2 := c2c h t (ht.mono (by decide))
 have ft := a7e (h := h) ht (by decide)
 have rc1 := b3B h ft
 have rs1 := b2f ft
 have fa := ha.fit (by decide)
 have fb := hb.fit (by decide)
 have m1 := a6F a (Nm.ofQ (V5 h (F4 h t))) (ha.mono (by decide)) (rc1.mono (by decide))
 have m2 := a6F b (Nm.ofQ (U8 (F4 h t))) (hb.mono (by decide)) (rs1.mono (by decide))
 have m3 := a6F a (Nm.ofQ (U8 (F4 h t))) (ha.mono (by decide)) (rs1.mono (by decide))
 have m4 := a6F b (Nm.ofQ (V5 h (F4 h t))) (hb.mono (by decide)) (rc1.mono (by decide))
 simp only [Nm.F7] at m1 m2 m3 m4
 have s1 := a4Y (Nm.ofQ (Nm.j3 a * V5 h (F4 h t))) (Nm.ofQ (Nm.j3 b * U8 (F4 h t))) ((M7 fa rc1).mono (by decide)) ((M7 fb rs1).mono (by decide))
 have s2 := a6i (Nm.ofQ (Nm.j3 a * U8 (F4 h t))) (Nm.ofQ (Nm.j3 b * V5 h (F4 h t))) ((M7 fa rs1).mono (by decide)) ((M7 fb rc1).mono (by decide))
 simp only [Nm.F7] at s1 s2
 unfold vq rq at *
 generalize Nm.ofQ (Nm.j3 a * V5 h (F4 h t) - Nm.j3 b * U8 (F4 h t)) = r1 at *
 generalize Nm.ofQ (Nm.j3 a * U8 (F4 h t) + Nm.j3 b * V5 h (F4 h t)) = r2 at *
 generalize Nm.ofQ (Nm.j3 a * V5 h (F4 h t)) = p1 at *
 generalize Nm.ofQ (Nm.j3 b * U8 (F4 h t)) = p2 at *
 generalize Nm.ofQ (Nm.j3 a * U8 (F4 h t)) = p3 at *
 generalize Nm.ofQ (Nm.j3 b * V5 h (F4 h t)) = p4 at *
 generalize Nm.ofQ (V5 h (F4 h t)) = c at *
 generalize Nm.ofQ (U8 (F4 h t)) = s at *
 simp only [a7H, l5, TT, II, OA, OB, OC, MM, LL, VV, FF, MG, LG, VG, FG]
 simp only [rc, vc, tc, sb] at *
 (repeat first | refine uA ?_ | (apply S.exit; exact rfl) | (refine uK ?_ ?_; focus first | omega | trivial | exact id | (intros; simp_all <;> omega)) | simp (disch := omega) only [go_sem, Nat.reduceBEq, Nat.reduceAdd, Nat.reduceLeDiff, Int.reduceToNat, Int.reducePow, ww] | (refine uD k1 ?_ ?_ ?_; exact tz hw; exact rfl) | (refine uD k2 ?_ ?_ ?_; exact tz hw; exact rfl) | (refine uD m1 ?_ ?_ ?_; exact tz hw; exact rfl) | (refine uD m2 ?_ ?_ ?_; exact tz hw; exact rfl) | (refine uD m3 ?_ ?_ ?_; exact tz hw; exact rfl) | (refine uD m4 ?_ ?_ ?_; exact tz hw; exact rfl) | (refine uD s1 ?_ ?_ ?_; exact tz hw; exact rfl) | (refine uD s2 ?_ ?_ ?_; exact tz hw; exact rfl))
 (refine S.done ?_; simp only [x9, p9, go_sem, Nat.reduceBEq, Nat.reduceAdd, Nat.reduceLeDiff, Int.reduceToNat, Int.reducePow]; (repeat (refine ⟨?_, ?_⟩; focus first | trivial | omega | simp)); exact d9.out rfl (Imp.refl rfl) rfl)
structure Vt where
 x : Nm.Rt
 y : Nm.Rt
def Vt.enc (v : Vt) : List C := [.v (.bool v.x.neg), sb v.x.num, sb v.x.den, .v (.bool v.y.neg), sb v.y.num, sb v.y.den]
def Vt.c (v : Vt) : C := .agg v.enc
def Vt.zero : Vt := ⟨⟨false, [], []⟩, ⟨false, [], []⟩⟩
def Vb (k : Nat) (v : Vt) : Prop := Rb k v.x /\ Rb k v.y
theorem Vb.mono {k m : Nat} {v : Vt} (h : Vb k v) (hm : k <= m) : Vb m v := ⟨h.1.mono hm, h.2.mono hm⟩
theorem b9a (a b c d : Rat) (ha : Rb 4294967296 (Nm.ofQ a)) (hb : Rb 4294967296 (Nm.ofQ b)) (hc : Rb 4294967296 (Nm.ofQ c)) (hd : Rb 4294967296 (Nm.ofQ d)) :
  FZ 263 [vq a b, vq c d] (rq (a * d - b * c)) := by
 refine l8.of b2v b2L (by exact Nat.le_of_ble_eq_true rfl) fun w O hw => ?_
 have h1 := b1T a d (ha.mono (by decide)) (hd.mono (by decide))
 have h2 := b1T b c (hb.mono (by decide)) (hc.mono (by decide))
 have h3 := c0x (a * d) (b * c) ((M7 ha hd).mono (by decide)) ((M7 hb hc).mono (by decide))
 unfold vq rq at *
 generalize Nm.ofQ (a * d - b * c) = r3 at *
 generalize Nm.ofQ (a * d) = r1 at *
 generalize Nm.ofQ (b * c) = r2 at *
 generalize Nm.ofQ a = ra at *
 generalize Nm.ofQ b = rb at *
 generalize Nm.ofQ c = r at *
 generalize Nm.ofQ d = rd at *
 simp only [a6W, l5, TT, II, OA, OB, OC, MM, LL, VV, FF, MG, LG, VG, FG]
 simp only [rc, vc, sb] at *
 (repeat first | refine uA ?_ | (apply S.exit; exact rfl) | (refine uK ?_ ?_; focus first | omega | trivial | exact id | (intros; simp_all <;> omega)) | simp (disch := omega) only [go_sem, Nat.reduceBEq, Nat.reduceAdd, Nat.reduceLeDiff, Int.reduceToNat, Int.reducePow, ww] | (refine uD h1 ?_ ?_ ?_; exact tz hw; exact rfl) | (refine uD h2 ?_ ?_ ?_; exact tz hw; exact rfl) | (refine uD h3 ?_ ?_ ?_; exact tz hw; exact rfl))
 (refine S.done ?_; simp only [x9, p9, go_sem, Nat.reduceBEq, Nat.reduceAdd, Nat.reduceLeDiff, Int.reduceToNat, Int.reducePow]; (repeat (refine ⟨?_, ?_⟩; focus first | trivial | omega | simp)); exact d9.out rfl (Imp.refl rfl) rfl)
def b1U (a b c : Vt) : Int := E9 ((Nm.j3 b.x - Nm.j3 a.x) * (Nm.j3 c.y - Nm.j3 a.y) - (Nm.j3 b.y - Nm.j3 a.y) * (Nm.j3 c.x - Nm.j3 a.x))
theorem c1R (a b c : Vt) (ha : Vb 1073741824 a) (hb : Vb 1073741824 b) (hc : Vb 1073741824 c) : FZ 251 [a.c, b.c, c.c] (ints (b1U a b c)) := by
 refine l8.of b2g b3R (by exact Nat.le_of_ble_eq_true rfl) fun w O hw => ?_
 have h1 := b2e b.x b.y a.x a.y (hb.1.mono (by decide)) (hb.2.mono (by decide)) (ha.1.mono (by decide)) (ha.2.mono (by decide))
 have h2 := b2e c.x c.y a.x a.y (hc.1.mono (by decide)) (hc.2.mono (by decide)) (ha.1.mono (by decide)) (ha.2.mono (by decide))
 have g1 := V9 (hb.1.fit (by decide)) (ha.1.fit (by decide))
 have g2 := V9 (hb.2.fit (by decide)) (ha.2.fit (by decide))
 have g3 := V9 (hc.1.fit (by decide)) (ha.1.fit (by decide))
 have g4 := V9 (hc.2.fit (by decide)) (ha.2.fit (by decide))
 unfold b1U
 generalize Nm.j3 b.x - Nm.j3 a.x = p1 at *
 generalize Nm.j3 b.y - Nm.j3 a.y = p2 at *
 generalize Nm.j3 c.x - Nm.j3 a.x = p3 at *
 generalize Nm.j3 c.y - Nm.j3 a.y = p4 at *
 have h3 := b9a p1 p2 p3 p4 (g1.mono (by decide)) (g2.mono (by decide)) (g3.mono (by decide)) (g4.mono (by decide))
 have g5 := V9 (M7 g1 g4) (M7 g2 g3)
 have h4 := U5 (Nm.ofQ (p1 * p4 - p2 * p3)) (g5.mono (by decide))
 rw [Nm.F7] at h4
 generalize p1 * p4 - p2 * p3 = p5 at *
 unfold vq rq at *
 generalize Nm.ofQ p1 = r1 at *
 generalize Nm.ofQ p2 = r2 at *
 generalize Nm.ofQ p3 = r3 at *
 generalize Nm.ofQ p4 = r4 at *
 generalize Nm.ofQ p5 = r5 at *
 simp only [a6o, l5, TT, II, OA, OB, OC, MM, LL, VV, FF, MG, LG, VG, FG]
 simp only [rc, vc, sb, Vt.c, Vt.enc] at *
 (repeat first | refine uA ?_ | (apply S.exit; exact rfl) | (refine uK ?_ ?_; focus first | omega | trivial | exact id | (intros; simp_all <;> omega)) | simp (disch := omega) only [go_sem, Nat.reduceBEq, Nat.reduceAdd, Nat.reduceLeDiff, Int.reduceToNat, Int.reducePow, ww] | (refine uD h1 ?_ ?_ ?_; exact tz hw; exact rfl) | (refine uD h2 ?_ ?_ ?_; exact tz hw; exact rfl) | (refine uD h3 ?_ ?_ ?_; exact tz hw; exact rfl) | (refine uD h4 ?_ ?_ ?_; exact tz hw; exact rfl))
 (refine S.done ?_; simp only [x9, p9, go_sem, Nat.reduceBEq, Nat.reduceAdd, Nat.reduceLeDiff, Int.reduceToNat, Int.reducePow]; (repeat (refine ⟨?_, ?_⟩; focus first | trivial | omega | simp)); exact d9.out rfl (Imp.refl rfl) rfl)
def D6 {α : Type} (f : α -> Int) : List α -> Int
 | [] => 0
 | x :: r => if f x = 0 then D6 f r else f x
def D7 {α σ : Type} (f : σ -> α -> Int × σ) : σ -> List α -> Int × σ
 | s, [] => (0, s)
 | s, x :: r => if (f s x).1 = 0 then D7 f (f s x).2 r else f s x
theorem drop_at {α : Type} {l : List α} {i : Nat} {x : α} (h : l[i]? = some x) : l.drop i = x :: l.drop (i + 1) := by
 obtain ⟨hi, rfl⟩ := List.getElem?_eq_some_iff.1 h
 exact List.drop_eq_getElem_cons hi
theorem P9 {α : Type} {f : α -> Int} {l : List α} {i : Nat} {x : α} (h : l[i]? = some x) (h0 : f x ≠ 0) : D6 f (l.drop i) = f x := by
 rw [drop_at h, D6, if_neg h0]
theorem P8 {α : Type} {f : α -> Int} {l : List α} {i : Nat} {x : α} (h : l[i]? = some x) (h0 : f x = 0) : D6 f (l.drop i) = D6 f (l.drop (i + 1)) := by
 rw [drop_at h, D6, if_pos h0]
theorem U2 {α : Type} {f : α -> Int} {l : List α} {i : Nat} (h : l.length <= i) : D6 f (l.drop i) = 0 := by
 rw [List.drop_eq_nil_of_le h, D6]
theorem Q5 {α σ : Type} {f : σ -> α -> Int × σ} {s : σ} {l : List α} {i : Nat} {x : α} (h : l[i]? = some x) (h0 : (f s x).1 ≠ 0) : D7 f s (l.drop i) = f s x := by
 rw [drop_at h, D7, if_neg h0]
theorem P7 {α σ : Type} {f : σ -> α -> Int × σ} {s : σ} {l : List α} {i : Nat} {x : α} (h : l[i]? = some x) (h0 : (f s x).1 = 0) : D7 f s (l.drop i) = D7 f (f s x).2 (l.drop (i + 1)) := by
 rw [drop_at h, D7, if_pos h0]
theorem U4 {α σ : Type} {f : σ -> α -> Int × σ} {s : σ} {l : List α} {i : Nat} (h : l.length <= i) : D7 f s (l.drop i) = (0, s) := by
 rw [List.drop_eq_nil_of_le h, D7]
structure Fr where
 x : Nm.Rt
 y : Nm.Rt
 half : Bool
 t : Nm.Rt
structure Lk where
 length : Nm.Rt
 low : Nm.Rt
 high : Nm.Rt
 speed : Nm.Rt
 brake : Nm.Rt
 shape : List Vt
structure Am where
 name : List UInt8
 base : Fr
 links : List Lk
structure Pt where
 name : List UInt8
 shape : List Vt
 grasp : Fr
structure Sl where
 name : List UInt8
 frame : Fr
 within : Nm.Rt
structure Gt where
 name : List UInt8
 low : Vt
 high : Vt
structure Wk where
 arms : List Am
 walls : List (List Vt)
 parts : List Pt
 slots : List Sl
 gates : List Gt
 walk : Nm.Rt
def rcs (a : Nm.Rt) : List C := [.v (.bool a.neg), sb a.num, sb a.den]
def Fr.enc (f : Fr) : List C := [.v (.bool f.x.neg), sb f.x.num, sb f.x.den, .v (.bool f.y.neg), sb f.y.num, sb f.y.den, .v (.bool f.half), .v (.bool f.t.neg), sb f.t.num, sb f.t.den]
def Fr.c (f : Fr) : C := .agg f.enc
def vts (l : List Vt) : C := .sl 6 (l.map Vt.enc)
def Lk.enc (l : Lk) : List C := [.v (.bool l.length.neg), sb l.length.num, sb l.length.den, .v (.bool l.low.neg), sb l.low.num, sb l.low.den, .v (.bool l.high.neg), sb l.high.num, sb l.high.den, .v (.bool l.speed.neg), sb l.speed.num, sb l.speed.den, .v (.bool l.brake.neg), sb l.brake.num, sb l.brake.den, vts l.shape]
def Lk.c (l : Lk) : C := .agg l.enc
def lks (l : List Lk) : C := .sl 16 (l.map Lk.enc)
def Am.enc (a : Am) : List C := [sb a.name, .v (.bool a.base.x.neg), sb a.base.x.num, sb a.base.x.den, .v (.bool a.base.y.neg), sb a.base.y.num, sb a.base.y.den, .v (.bool a.base.half), .v (.bool a.base.t.neg), sb a.base.t.num, sb a.base.t.den, lks a.links]
def Am.c (a : Am) : C := .agg a.enc
def ams (l : List Am) : C := .sl 12 (l.map Am.enc)
def Pt.enc (p : Pt) : List C := [sb p.name, vts p.shape, .v (.bool p.grasp.x.neg), sb p.grasp.x.num, sb p.grasp.x.den, .v (.bool p.grasp.y.neg), sb p.grasp.y.num, sb p.grasp.y.den, .v (.bool p.grasp.half), .v (.bool p.grasp.t.neg), sb p.grasp.t.num, sb p.grasp.t.den]
def Pt.c (p : Pt) : C := .agg p.enc
def pts (l : List Pt) : C := .sl 12 (l.map Pt.enc)
def Sl.enc (s : Sl) : List C := [sb s.name, .v (.bool s.frame.x.neg), sb s.frame.x.num, sb s.frame.x.den, .v (.bool s.frame.y.neg), sb s.frame.y.num, sb s.frame.y.den, .v (.bool s.frame.half), .v (.bool s.frame.t.neg), sb s.frame.t.num, sb s.frame.t.den, .v (.bool s.within.neg), sb s.within.num, sb s.within.den]
def Sl.c (s : Sl) : C := .agg s.enc
def sls (l : List Sl) : C := .sl 14 (l.map Sl.enc)
def Gt.enc (g : Gt) : List C := [sb g.name, .v (.bool g.low.x.neg), sb g.low.x.num, sb g.low.x.den, .v (.bool g.low.y.neg), sb g.low.y.num, sb g.low.y.den, .v (.bool g.high.x.neg), sb g.high.x.num, sb g.high.x.den, .v (.bool g.high.y.neg), sb g.high.y.num, sb g.high.y.den]
def Gt.c (g : Gt) : C := .agg g.enc
def gts (l : List Gt) : C := .sl 13 (l.map Gt.enc)
def wls (l : List (List Vt)) : C := .sl 1 (l.map fun s => [vts s])
def Wk.enc (w : Wk) : List C := [ams w.arms, wls w.walls, pts w.parts, sls w.slots, gts w.gates, .v (.bool w.walk.neg), sb w.walk.num, sb w.walk.den]
def Wk.c (w : Wk) : C := .agg w.enc
def Fb (k : Nat) (f : Fr) : Prop := Rb k f.x /\ Rb k f.y /\ Rb k f.t
def Vbs (k : Nat) (l : List Vt) : Prop := l.length <= k /\ ∀ v ∈ l, Vb k v
def Lb (k : Nat) (l : Lk) : Prop := Rb k l.length /\ Rb k l.low /\ Rb k l.high /\ Rb k l.speed /\ Rb k l.brake /\ Vbs k l.shape
def Ab (k : Nat) (a : Am) : Prop := a.name.length <= k /\ Fb k a.base /\ a.links.length <= k /\ ∀ l ∈ a.links, Lb k l
def Pb (k : Nat) (p : Pt) : Prop := p.name.length <= k /\ Vbs k p.shape /\ Fb k p.grasp
def Sb (k : Nat) (s : Sl) : Prop := s.name.length <= k /\ Fb k s.frame /\ Rb k s.within
def Gb (k : Nat) (g : Gt) : Prop := g.name.length <= k /\ Vb k g.low /\ Vb k g.high
structure Wb (k : Nat) (w : Wk) : Prop where
 arms : w.arms.length <= k /\ ∀ x ∈ w.arms, Ab k x
 walls : w.walls.length <= k /\ ∀ x ∈ w.walls, Vbs k x
 parts : w.parts.length <= k /\ ∀ x ∈ w.parts, Pb k x
 slots : w.slots.length <= k /\ ∀ x ∈ w.slots, Sb k x
 gates : w.gates.length <= k /\ ∀ x ∈ w.gates, Gb k x
 walk : Rb k w.walk
def a0A (s : List UInt8) : Bool := (s.all fun b => decide (97 <= b.toNat) && decide (b.toNat <= 122)) && decide (1 <= s.length) && decide (s.length <= 12)
def a3p (l : List Vt) (i k : Nat) : Int := b1U (l.getD i Vt.zero) (l.getD ((i + 1) % l.length) Vt.zero) (l.getD ((i + k) % l.length) Vt.zero)
def W9 (l : List Vt) (most : Nat) : Int :=
 if most < l.length then 2 else if l.length < 3 then 3 else
 if (List.range l.length).all fun i => (List.range l.length).all fun k => decide (k < 2) || decide (0 < a3p l i k) then 0 else 3
def a2t (h : Bool) (t : Nm.Rt) : Bool := h && !decide (E9 (Nm.j3 t) = 0)
def a3O (l : Lk) : Int :=
 if (o8 l.length && o8 l.low && o8 l.high && o8 l.speed && o8 l.brake) = false \/ E9 (Nm.j3 l.length) <= 0 \/ 0 <= Nm.A9 (Nm.j3 l.low) (Nm.j3 l.high) then 1 else
 if E9 (Nm.j3 l.speed) <= 0 \/ E9 (Nm.j3 l.brake) <= 0 then 1 else
 if W9 l.shape 8 ≠ 0 then W9 l.shape 8 else
 if (l.shape.all fun v => o8 v.x && o8 v.y) then 0 else 1
def a1K (a : Am) : Int :=
 if a0A a.name = false then 3 else
 if 3 < a.links.length then 2 else
 if a.links.length = 0 \/ (o8 a.base.x && o8 a.base.y && o8 a.base.t) = false \/ a2t a.base.half a.base.t = true then 1 else
 D6 a3O a.links
def a1G (a : Am) (q : List Nm.Rt) : Int :=
 if a1K a ≠ 0 then a1K a else if q.length ≠ a.links.length then 1 else
 D6 (fun x : Lk × Nm.Rt => if Nm.A9 (Nm.j3 x.2) (Nm.j3 x.1.low) < 0 \/ 0 < Nm.A9 (Nm.j3 x.2) (Nm.j3 x.1.high) then 17 else 0) (a.links.zip q)
abbrev Nms := List (List UInt8)
def J2 (n : Nms) (s : List UInt8) : Int × Nms := if a0A s = false then (3, n) else if n.contains s then (5, n) else (0, n ++ [s])
def okV (v : Vt) : Bool := decide v.x.D8 && decide v.y.D8 && o8 v.x && o8 v.y
def okF (f : Fr) : Bool := okV ⟨f.x, f.y⟩ && decide f.t.D8 && o8 f.t && !a2t f.half f.t
def K4 (l : List Vt) : Int := if W9 l 8 ≠ 0 then W9 l 8 else if l.all okV then 0 else 1
def a0H (n : Nms) (a : Am) : Int × Nms := if a1K a ≠ 0 then (a1K a, n) else J2 n a.name
def Y3 (n : Nms) (p : Pt) : Int × Nms :=
 if (J2 n p.name).1 ≠ 0 then J2 n p.name else
 if K4 p.shape ≠ 0 then (K4 p.shape, (J2 n p.name).2) else
 (if okF p.grasp then 0 else 1, (J2 n p.name).2)
def Y2 (n : Nms) (s : Sl) : Int × Nms :=
 if (J2 n s.name).1 ≠ 0 then J2 n s.name else
 (if okF s.frame && decide s.within.D8 && o8 s.within && decide (0 < E9 (Nm.j3 s.within)) then 0 else 1, (J2 n s.name).2)
def Y9 (n : Nms) (g : Gt) : Int × Nms :=
 if (J2 n g.name).1 ≠ 0 then J2 n g.name else
 (if okV g.low && okV g.high && decide (Nm.A9 (Nm.j3 g.low.x) (Nm.j3 g.high.x) <= 0) && decide (Nm.A9 (Nm.j3 g.low.y) (Nm.j3 g.high.y) <= 0) then 0 else 1, (J2 n g.name).2)
def b1V (a : Nm.Rt) : Int := if decide a.D8 && o8 a && decide (0 <= E9 (Nm.j3 a)) then 0 else 1
def a9w (w : Wk) : List Int :=
 let a := D7 a0H [] w.arms
 let p := D7 Y3 a.2 w.parts
 let s := D7 Y2 p.2 w.slots
 let g := D7 Y9 s.2 w.gates
 [a.1, D6 K4 w.walls, p.1, s.1, g.1]
def a2H (w : Wk) : Int :=
 if 4 < w.arms.length \/ 10 < w.walls.length \/ 6 < w.parts.length \/ 8 < w.slots.length \/ 4 < w.gates.length then 2 else
 if w.arms.length = 0 then 4 else
 if D6 id (a9w w) ≠ 0 then D6 id (a9w w) else b1V w.walk
def nmE (n : Nms) : List (Value × Value) := n.map fun s => (.string (bs s), .bool true)
theorem c1k (n : Nms) (s : List UInt8) : a0B (.string (bs s)) (nmE n) = if n.contains s then some (.bool true) else none := by
 induction n with
 | nil => rfl
 | cons a n ih =>
  simp only [nmE, List.map_cons, a0B, a0C]
  simp only [nmE] at ih
  rw [ih]
  by_cases h : s = a
  ·subst h; simp
  ·have h1 : ¬ bs s = bs a := fun e => h (b3q e)
   have h2 : (s == a) = false := by simpa using h
   rw [List.contains_cons]
   simp only [h2, Bool.false_or, decide_eq_false h1, Bool.false_eq_true, if_false]
theorem c1X (n : Nms) (s : List UInt8) (h : n.contains s = false) : a0x (.string (bs s)) (.bool true) (nmE n) = nmE (n ++ [s]) := by
 induction n with
 | nil => rfl
 | cons a n ih =>
  rw [List.contains_cons, Bool.or_eq_false_iff] at h
  have h1 : ¬ bs s = bs a := fun e => by have := b3q e; subst this; simp at h
  have h3 := ih h.2
  simp only [nmE, List.map_cons, List.cons_append, a0x, a0C, decide_eq_false h1, Bool.false_eq_true, if_false] at h3 ⊢
  rw [h3]
def Z9 (f : Fr) (c : Vt) : Rat := Nm.j3 f.x + (Nm.j3 c.x * V5 f.half (F4 f.half f.t) - Nm.j3 c.y * U8 (F4 f.half f.t))
def Z6 (f : Fr) (c : Vt) : Rat := Nm.j3 f.y + (Nm.j3 c.x * U8 (F4 f.half f.t) + Nm.j3 c.y * V5 f.half (F4 f.half f.t))
theorem b5K (f : Fr) (c : Vt) (hx : Rb 1048576 f.x) (hy : Rb 1048576 f.y) (ht : Rb 1048576 f.t) (ha : Rb 1048576 c.x) (hb : Rb 1048576 c.y) :
  FZ 73 [f.c, c.c] (vq (Z9 f c) (Z6 f c)) := by
 refine l8.of b3b b3P (by exact Nat.le_of_ble_eq_true rfl) fun w O hw => ?_
 obtain ⟨x, y, h, t⟩ := f
 obtain ⟨a, b⟩ := c
 simp only at hx hy ht ha hb
 have k1 := c1q a b t h ha hb ht
 have ft := a7e (h := h) ht (by decide)
 have rc1 := b3B h ft
 have rs1 := b2f ft
 have fa := ha.fit (by decide)
 have fb := hb.fit (by decide)
 have k2 := c1T x y (Nm.ofQ (Nm.j3 a * V5 h (F4 h t) - Nm.j3 b * U8 (F4 h t))) (Nm.ofQ (Nm.j3 a * U8 (F4 h t) + Nm.j3 b * V5 h (F4 h t))) (hx.mono (by decide)) (hy.mono (by decide)) ((V9 (M7 fa rc1) (M7 fb rs1)).mono (by decide)) ((a0F (M7 fa rs1) (M7 fb rc1)).mono (by decide))
 simp only [Nm.F7] at k2
 unfold Z9 Z6
 simp only
 unfold vq at *
 generalize Nm.ofQ (Nm.j3 x + (Nm.j3 a * V5 h (F4 h t) - Nm.j3 b * U8 (F4 h t))) = r1 at *
 generalize Nm.ofQ (Nm.j3 y + (Nm.j3 a * U8 (F4 h t) + Nm.j3 b * V5 h (F4 h t))) = r2 at *
 generalize Nm.ofQ (Nm.j3 a * V5 h (F4 h t) - Nm.j3 b * U8 (F4 h t)) = p1 at *
 generalize Nm.ofQ (Nm.j3 a * U8 (F4 h t) + Nm.j3 b * V5 h (F4 h t)) = p2 at *
 simp only [a6B, l5, TT, II, OA, OB, OC, MM, LL, VV, FF, MG, LG, VG, FG]
 simp only [Fr.c, Fr.enc, Vt.c, Vt.enc, vc, tc, sb] at *
 (repeat first | refine uA ?_ | (apply S.exit; exact rfl) | (refine uK ?_ ?_; focus first | omega | trivial | exact id | (intros; simp_all <;> omega)) | simp (disch := omega) only [go_sem, Nat.reduceBEq, Nat.reduceAdd, Nat.reduceLeDiff, Int.reduceToNat, Int.reducePow, ww] | (refine uD k1 ?_ ?_ ?_; exact tz hw; exact rfl) | (refine uD k2 ?_ ?_ ?_; exact tz hw; exact rfl))
 (refine S.done ?_; simp only [x9, p9, go_sem, Nat.reduceBEq, Nat.reduceAdd, Nat.reduceLeDiff, Int.reduceToNat, Int.reducePow]; (repeat (refine ⟨?_, ?_⟩; focus first | trivial | omega | simp)); exact d9.out rfl (Imp.refl rfl) rfl)
structure Ast where
 q : List Nm.Rt
 v : List Nm.Rt
 power : Bool
 holds : Int
structure Stt where
 tick : Int
 arms : List Ast
 parts : List Fr
 people : List Vt
 gates : List Bool
def rts (l : List Nm.Rt) : C := .sl 3 (l.map rcs)
def Ast.enc (x : Ast) : List C := [rts x.q, rts x.v, .v (.bool x.power), ints x.holds]
def Ast.c (x : Ast) : C := .agg x.enc
def E5 (l : List Ast) : C := .sl 4 (l.map Ast.enc)
def frs (l : List Fr) : C := .sl 10 (l.map Fr.enc)
def bls (l : List Bool) : C := .sl 1 (l.map fun b => [.v (.bool b)])
def Stt.enc (s : Stt) : List C := [ints s.tick, E5 s.arms, frs s.parts, vts s.people, bls s.gates]
def Stt.c (s : Stt) : C := .agg s.enc
def Rbs (k : Nat) (l : List Nm.Rt) : Prop := l.length <= k /\ ∀ a ∈ l, Rb k a
def Asb (k : Nat) (x : Ast) : Prop := Rbs k x.q /\ Rbs k x.v
structure Stb (k : Nat) (s : Stt) : Prop where
 arms : s.arms.length <= k /\ ∀ x ∈ s.arms, Asb k x
 parts : s.parts.length <= k /\ ∀ x ∈ s.parts, Fb k x
 people : Vbs k s.people
 gates : s.gates.length <= k
def J5 (q : Rat) : Rat := if q.num < 0 then -q else q
def Y4 (x : Lk × Nm.Rt) : Int := if 0 < Nm.A9 (J5 (Nm.j3 x.2)) (Nm.j3 x.1.speed) then 1 else 0
def F6 (a : Nm.Rt) : Bool := decide a.D8
def a3f (a : Am) (x : Ast) (parts : Nat) : Int :=
 if (x.q.all F6 && x.v.all F6) = false then 3 else
 if a1G a x.q ≠ 0 then a1G a x.q else
 if x.v.length ≠ a.links.length \/ x.holds < -1 \/ (parts : Int) <= x.holds then 1 else
 D6 Y4 (a.links.zip x.v)
def a2o (h : List Int) (n : Int) : List Int := if h.contains n then h else h ++ [n]
def hdE (h : List Int) : List (Value × Value) := h.map fun n => (.int .i64 n, .bool true)
def a1m (parts : Nat) (h : List Int) (x : Am × Ast) : Int × List Int :=
 if a3f x.1 x.2 parts ≠ 0 then (a3f x.1 x.2 parts, h) else
 if (decide (0 <= x.2.holds) && h.contains x.2.holds) = true then (10, h) else (0, a2o h x.2.holds)
def a0Z (f : Fr) : Bool := (F6 f.x && F6 f.y && F6 f.t) && !a2t f.half f.t
def a2w (v : Vt) : Bool := F6 v.x && F6 v.y
def I6 (w : Wk) (s : Stt) : Int :=
 if a2H w ≠ 0 then a2H w else
 if 4 < s.people.length then 2 else
 if s.tick < 0 \/ 2000 < s.tick \/ s.arms.length ≠ w.arms.length \/ s.parts.length ≠ w.parts.length \/ s.gates.length ≠ w.gates.length then 1 else
 if (D7 (a1m w.parts.length) [] (w.arms.zip s.arms)).1 ≠ 0 then (D7 (a1m w.parts.length) [] (w.arms.zip s.arms)).1 else
 if s.parts.all a0Z && s.people.all a2w then 0 else 3
theorem c0W (h : List Int) (n : Int) : a0B (.int .i64 n) (hdE h) = if h.contains n then some (.bool true) else none := by
 induction h with
 | nil => rfl
 | cons a h ih =>
  simp only [hdE, List.map_cons, a0B, a0C]
  simp only [hdE] at ih
  rw [ih, List.contains_cons]
  by_cases e : n = a
  ·subst e; simp
  ·have e2 : (n == a) = false := by simpa using e
   simp only [e2, Bool.false_or, Bool.false_eq_true, if_false]
theorem c2y (h : List Int) (n : Int) : a0x (.int .i64 n) (.bool true) (hdE h) = hdE (a2o h n) := by
 induction h with
 | nil => rfl
 | cons a h ih =>
  unfold a2o at ih ⊢
  rw [List.contains_cons]
  by_cases e : n = a
  ·subst e
   simp [hdE, a0x, a0C]
  ·have e2 : (n == a) = false := by simpa using e
   simp only [hdE, List.map_cons, a0x, a0C, e2, Bool.false_or, Bool.false_eq_true, if_false]
   simp only [hdE] at ih
   rw [ih]
   split <;> simp [hdE]
def b6W : Fr := ⟨Nm.ofQ 0, Nm.ofQ 0, false, Nm.ofQ 0⟩
def nx (l : List Int) (n : Int) : Int := l.headD 0 % n
abbrev Q (n d : Int) : Nm.Rt := Nm.ofQ (mkRat n d.toNat)
def atV (x y : Int) : Vt := ⟨Q x 4, Q y 4⟩
def c0j (w h k s : Int) : List Vt :=
 if k = 0 then [atV (-w) (-h), atV w (-h), atV w h, atV (-w) h] else
 if k = 1 then [atV (-w) (-h), atV w (-h), atV (s - w) h] else
 if k = 2 then [atV (-w - 1) (-h - 1), atV w (-h - 1), atV (w + 1) (-h), atV (w + 1) h, atV (-w - 1) h] else
 [atV (-w) 0, atV 0 (-h), atV w 0, atV 0 h]
def c2K (l : List Int) : List Vt × List Int :=
 let w := 1 + nx l 6
 let h := 1 + nx (l.drop 1) 6
 let k := nx (l.drop 2) 4
 if k = 1 then (c0j w h k (nx (l.drop 3) (2 * w + 1)), l.drop 4) else (c0j w h k 0, l.drop 3)
def c2X (l : List Int) : Nat := (1 + nx (l.drop 2) 3).toNat
def c3D (l : List Int) : List Int := l.drop (3 + 6 * c2X l)
def c0q : Nat -> List Int -> List Int
 | 0, l => l
 | k + 1, l => c0q k (c3D l)
def b8E : Nat -> List Int -> List Int
 | 0, l => l
 | k + 1, l => b8E k (c2K l).2
def nA (l : List Int) : Nat := (1 + nx l 2).toNat
def l1 (l : List Int) : List Int := c0q (nA l) (l.drop 1)
def nW (l : List Int) : Nat := (nx (l1 l) 3).toNat
def l2 (l : List Int) : List Int := (l1 l).drop (1 + 5 * nW l)
def nP (l : List Int) : Nat := (nx (l2 l) 3).toNat
def l3 (l : List Int) : List Int := b8E (nP l) ((l2 l).drop 1)
set_option maxRecDepth 100000
set_option maxRecDepth 10000
theorem b8k {l : List Vt} {most i k : Nat} (h1 : ¬ most < l.length) (h2 : ¬ l.length < 3) (hi : i < l.length) (hk2 : 2 <= k) (hk : k < l.length) (h : ¬ 0 < a3p l i k) : W9 l most = 3 := by
 unfold W9
 rw [if_neg h1, if_neg h2, if_neg]
 intro ha
 rw [List.all_eq_true] at ha
 have h3 := ha i (List.mem_range.2 hi)
 rw [List.all_eq_true] at h3
 have h4 := h3 k (List.mem_range.2 hk)
 rw [Bool.or_eq_true, decide_eq_true_eq, decide_eq_true_eq] at h4
 omega
theorem b6b {l : List Vt} {most : Nat} (h1 : ¬ most < l.length) (h2 : ¬ l.length < 3) (h : ∀ i, i < l.length -> ∀ k, 2 <= k -> k < l.length -> 0 < a3p l i k) : W9 l most = 0 := by
 unfold W9
 rw [if_neg h1, if_neg h2, if_pos]
 rw [List.all_eq_true]
 intro i hi
 rw [List.all_eq_true]
 intro k hk
 rw [Bool.or_eq_true, decide_eq_true_eq, decide_eq_true_eq]
 rcases Nat.lt_or_ge k 2 with h3 | h3
 ·exact .inl h3
 ·exact .inr (h i (List.mem_range.1 hi) k h3 (List.mem_range.1 hk))
theorem b7D {l : List Vt} {i k : Nat} {x y z : Vt} (hx : l[i]? = some x) (hy : l[(i + 1) % l.length]? = some y) (hz : l[(i + k) % l.length]? = some z) : a3p l i k = b1U x y z := by
 unfold a3p
 rw [List.getD_eq_getElem?_getD, List.getD_eq_getElem?_getD, List.getD_eq_getElem?_getD, hx, hy, hz]
 rfl
theorem b9z (i k n : Nat) : Int.tmod ((i : Int) + (k : Int)) (n : Int) = (((i + k) % n : Nat) : Int) := rfl
theorem tmod_one (i n : Nat) : Int.tmod ((i : Int) + 1) (n : Int) = (((i + 1) % n : Nat) : Int) := rfl
theorem c1P (v : Vt) : v.enc.length = 6 := rfl
theorem b9w (l : List Vt) (most : Nat) (hl : Vbs 1073741824 l) (hm : most <= 1000000) : FZ 232 [vts l, ints most] (ints (W9 l most)) := by
 refine l8.of b1M b1q (by exact Nat.le_of_ble_eq_true rfl) fun w O hw => ?_
 obtain ⟨hn, hb⟩ := hl
 simp only [a5M, l5, TT, II, OA, OB, OC, MM, LL, VV, FF, MG, LG, VG, FG, ints, vts]
 (repeat first | refine uA ?_ | (apply S.exit; exact rfl) | (refine uK ?_ ?_; focus first | omega | trivial | exact id | (intros; simp_all <;> omega)) | simp (disch := omega) only [go_sem, Nat.reduceBEq, Nat.reduceAdd, Nat.reduceLeDiff, Int.reduceToNat, Int.reducePow, ww, List.length_map])
 (refine uJ rfl (fun hc => ?_) fun hc => ?_)
 ·have he : W9 l most = 2 := by unfold W9; rw [if_pos (by omega)]
  rw [he]
  (repeat first | refine uA ?_ | (apply S.exit; exact rfl) | (refine uK ?_ ?_; focus first | omega | trivial | exact id | (intros; simp_all <;> omega)) | simp (disch := omega) only [go_sem, Nat.reduceBEq, Nat.reduceAdd, Nat.reduceLeDiff, Int.reduceToNat, Int.reducePow, ww])
  exact S.done (d9.out rfl (Imp.refl rfl) rfl)
 have h1 : ¬ most < l.length := by omega
 (repeat first | refine uA ?_ | (apply S.exit; exact rfl) | (refine uK ?_ ?_; focus first | omega | trivial | exact id | (intros; simp_all <;> omega)) | simp (disch := omega) only [go_sem, Nat.reduceBEq, Nat.reduceAdd, Nat.reduceLeDiff, Int.reduceToNat, Int.reducePow, ww, List.length_map])
 (refine uJ rfl (fun hc => ?_) fun hc => ?_)
 ·have he : W9 l most = 3 := by unfold W9; rw [if_neg h1, if_pos (by omega)]
  rw [he]
  (repeat first | refine uA ?_ | (apply S.exit; exact rfl) | (refine uK ?_ ?_; focus first | omega | trivial | exact id | (intros; simp_all <;> omega)) | simp (disch := omega) only [go_sem, Nat.reduceBEq, Nat.reduceAdd, Nat.reduceLeDiff, Int.reduceToNat, Int.reducePow, ww])
  exact S.done (d9.out rfl (Imp.refl rfl) rfl)
 have h2 : ¬ l.length < 3 := by omega
 (repeat first | refine uA ?_ | (apply S.exit; exact rfl) | (refine uK ?_ ?_; focus first | omega | trivial | exact id | (intros; simp_all <;> omega)) | simp (disch := omega) only [go_sem, Nat.reduceBEq, Nat.reduceAdd, Nat.reduceLeDiff, Int.reduceToNat, Int.reducePow, ww, List.length_map])
 refine S.loop (X := Nat) (fun i => ⟨[(0, vts l), (5, ints l.length), (18, vts l), (19, ints l.length), (20, ints i)], []⟩)
  (fun i => i <= l.length /\ ∀ j, j < i -> ∀ k, 2 <= k -> k < l.length -> 0 < a3p l j k) (fun i => l.length - i) 0 ⟨Nat.zero_le _, fun _ h => absurd h (Nat.not_lt_zero _)⟩ (by (repeat first | refine uA ?_ | (refine ⟨?_, ?_⟩; focus first | rfl | trivial | (simp [slot]; done)) | rfl | trivial | simp)) ?_
 rintro i ⟨hi, hg⟩
 simp only [ints, vts] at hi ⊢
 (repeat first | refine uA ?_ | (apply S.exit; exact rfl) | (refine uK ?_ ?_; focus first | omega | trivial | exact id | (intros; simp_all <;> omega)) | simp (disch := omega) only [go_sem, Nat.reduceBEq, Nat.reduceAdd, Nat.reduceLeDiff, Int.reduceToNat, Int.reducePow, ww])
 (refine uJ rfl (fun hc => ?_) fun hc => ?_)
 ·have hi' : i < l.length := by omega
  have hgi := List.getElem?_eq_getElem hi'
  generalize l[i] = x at hgi
  (repeat first | refine uA ?_ | (apply S.exit; exact rfl) | (refine uK ?_ ?_; focus first | omega | trivial | exact id | (intros; simp_all <;> omega)) | simp (disch := omega) only [go_sem, Nat.reduceBEq, Nat.reduceAdd, Nat.reduceLeDiff, Int.reduceToNat, Int.reducePow, ww, hgi, Option.map_some, List.length_map, c1P])
  refine S.loop (X := Nat) (fun k => ⟨[(0, vts l), (5, ints l.length), (6, ints i), (7, .bp 0 0), (8, ints k), (18, vts l), (19, ints l.length), (20, ints i)], [.box 51 x.enc]⟩)
   (fun k => 2 <= k /\ k <= l.length /\ ∀ k', 2 <= k' -> k' < k -> 0 < a3p l i k') (fun k => l.length - k) 2 ⟨Nat.le_refl _, by omega, fun _ h h' => by omega⟩ (by (repeat first | refine uA ?_ | (refine ⟨?_, ?_⟩; focus first | rfl | trivial | (simp [slot]; done)) | rfl | trivial | simp)) ?_
  rintro k ⟨hk2, hk, hgk⟩
  simp only [ints, vts] at hk ⊢
  (repeat first | refine uA ?_ | (apply S.exit; exact rfl) | (refine uK ?_ ?_; focus first | omega | trivial | exact id | (intros; simp_all <;> omega)) | simp (disch := omega) only [go_sem, Nat.reduceBEq, Nat.reduceAdd, Nat.reduceLeDiff, Int.reduceToNat, Int.reducePow, ww])
  (refine uJ rfl (fun hc => ?_) fun hc => ?_)
  ·have hk' : k < l.length := by omega
   have hy := List.getElem?_eq_getElem (show (i + 1) % l.length < l.length from Nat.mod_lt _ (by omega))
   have hz := List.getElem?_eq_getElem (show (i + k) % l.length < l.length from Nat.mod_lt _ (by omega))
   have hylt : (i + 1) % l.length < l.length := Nat.mod_lt _ (by omega)
   have hzlt : (i + k) % l.length < l.length := Nat.mod_lt _ (by omega)
   generalize l[(i + 1) % l.length]'_ = y at hy
   generalize l[(i + k) % l.length]'_ = z at hz
   have hla := b7D hgi hy hz
   have hcall := c1R x y z (hb x (List.mem_of_getElem? hgi)) (hb y (List.mem_of_getElem? hy)) (hb z (List.mem_of_getElem? hz))
   rw [<- hla] at hcall
   simp only [Vt.c, Vt.enc, sb, ints] at hcall
   (repeat first | refine uA ?_ | (apply S.exit; exact rfl) | (refine uK ?_ ?_; focus first | omega | trivial | exact id | (intros; simp_all <;> omega)) | simp (disch := omega) only [go_sem, Nat.reduceBEq, Nat.reduceAdd, Nat.reduceLeDiff, Int.reduceToNat, Int.reducePow, ww, hy, hz, Option.map_some, b9z, tmod_one, List.length_map, Vt.enc, sb, Int.toNat_natCast] | (refine uD hcall ?_ ?_ ?_; exact tz hw; exact rfl))
   (refine uJ rfl (fun hc => ?_) fun hc => ?_)
   ·rw [b8k h1 h2 hi' hk2 hk' (by omega)]
    (repeat first | refine uA ?_ | (apply S.exit; exact rfl) | (refine uK ?_ ?_; focus first | omega | trivial | exact id | (intros; simp_all <;> omega)) | simp (disch := omega) only [go_sem, Nat.reduceBEq, Nat.reduceAdd, Nat.reduceLeDiff, Int.reduceToNat, Int.reducePow, ww])
    exact S.done (d9.out rfl (Imp.refl rfl) rfl)
   ·(repeat first | refine uA ?_ | (apply S.exit; exact rfl) | (refine uK ?_ ?_; focus first | omega | trivial | exact id | (intros; simp_all <;> omega)) | simp (disch := omega) only [go_sem, Nat.reduceBEq, Nat.reduceAdd, Nat.reduceLeDiff, Int.reduceToNat, Int.reducePow, ww])
    refine S.next (k + 1) ⟨by omega, by omega, fun k' hk1 hk3 => ?_⟩ (by omega) (by (repeat first | refine uA ?_ | (refine ⟨?_, ?_⟩; focus first | rfl | trivial | (simp [slot]; done)) | rfl | trivial | simp))
    rcases Nat.lt_or_ge k' k with h | h
    ·exact hgk k' hk1 h
    ·have : k' = k := by omega
     subst this
     omega
  ·have hk' : k = l.length := by omega
   subst hk'
   (repeat first | refine uA ?_ | (apply S.exit; exact rfl) | (refine uK ?_ ?_; focus first | omega | trivial | exact id | (intros; simp_all <;> omega)) | simp (disch := omega) only [go_sem, Nat.reduceBEq, Nat.reduceAdd, Nat.reduceLeDiff, Int.reduceToNat, Int.reducePow, ww])
   refine S.next (i + 1) ⟨by omega, fun j hj => ?_⟩ (by omega) (by (repeat first | refine uA ?_ | (refine ⟨?_, ?_⟩; focus first | rfl | trivial | (simp [slot]; done)) | rfl | trivial | simp))
   rcases Nat.lt_or_ge j i with h | h
   ·exact hg j h
   ·have : j = i := by omega
    subst this
    exact hgk
 ·have hi' : i = l.length := by omega
  subst hi'
  rw [b6b h1 h2 hg]
  (repeat first | refine uA ?_ | (apply S.exit; exact rfl) | (refine uK ?_ ?_; focus first | omega | trivial | exact id | (intros; simp_all <;> omega)) | simp (disch := omega) only [go_sem, Nat.reduceBEq, Nat.reduceAdd, Nat.reduceLeDiff, Int.reduceToNat, Int.reducePow, ww])
  exact S.done (d9.out rfl (Imp.refl rfl) rfl)
theorem a4l (l : List Vt) (hl : Vbs 1073741824 l) : FZ 201 [vts l] (ints (W9 l 8)) := by
 refine l8.of b1D b1z (by exact Nat.le_of_ble_eq_true rfl) fun w O hw => ?_
 have h := b9w l 8 hl (by decide)
 simp only [a5V, l5, TT, II, OA, OB, OC, MM, LL, VV, FF, MG, LG, VG, FG]
 simp only [vts, ints] at *
 generalize W9 l 8 = e at *
 rw [show ((8 : Nat) : Int) = 8 from rfl] at h
 (repeat first | refine uA ?_ | (apply S.exit; exact rfl) | (refine uK ?_ ?_; focus first | omega | trivial | exact id | (intros; simp_all <;> omega)) | simp (disch := omega) only [go_sem, Nat.reduceBEq, Nat.reduceAdd, Nat.reduceLeDiff, Int.reduceToNat, Int.reducePow, ww] | (refine uD h ?_ ?_ ?_; exact tz hw; exact rfl))
 exact S.done (d9.out rfl (Imp.refl rfl) rfl)
def a5Q : l9 := ⟨28, [.tmp 2], .seq (.reg [OA 2 (.mv (.const (.bool false)))]) (.seq (.seq (.reg [MM 4 0, OA 5 (.len true (TT 4)), OA 6 (.mv (II 0))]) (.block 0 (.loop (.seq (.reg [OA 7 (.bin .lss (TT 6) (TT 5))]) (.seq (.cond (TT 7) .skip (.exit
 0)) (.seq (.block 1 (.seq (.reg [MM 8 6, MM 3 8]) (.seq (.reg [MM 9 0, MM 10 3, OA 11 (.idxs (TT 9) (TT 10)), OA 12 (.bin .lss (TT 11) (.const (.int .u8 97))), MM 13 12, MG 14 0 13 false, MG 15 3 13 false, OC 16 (.idxs (TT 14)
 (TT 15)) 13 false, OC 17 (.bin .gtr (TT 16) (.const (.int .u8 122))) 13 false, OA 18 (.pick (TT 13) (.const (.bool true)) (TT 17))]) (.cond (TT 18) (.seq (.reg [OA 2 (.mv (.const (.bool false)))]) .ret) .skip)))) (.reg [OA 19
 (.bin .add (TT 6) (II 1)), MM 6 19]))))))) (.seq (.reg [MM 20 0, OA 21 (.len true (TT 20)), OA 22 (.bin .geq (TT 21) (II 1)), MM 23 22, MG 24 0 23 true, OC 25 (.len true (TT 24)) 23 true, OC 26 (.bin .leq (TT 25) (II 12)) 23
 true, OA 27 (.pick (TT 23) (TT 26) (.const (.bool false))), MM 2 27]) .ret))⟩
theorem b1H : j6 eff Tryz.prog Tryz.f19 = some a5Q := by kernel_rfl
theorem b1L : Tryz.prog.funcs[19]? = some Tryz.f19 := Tryz.func19
def a4F : l9 := ⟨32, [.tmp 2], .seq (.reg [OA 1 (.box 55 (TT 0)), OA 2 (.mv (.const (.bool false)))]) (.seq (.reg [FF 3 0 1, LL 4 6 3, OA 5 (.bsl 51 6 1 [.bool false, .string ⟨#[]⟩, .string ⟨#[]⟩, .bool false, .string ⟨#[]⟩, .string ⟨#[]⟩] [(0,
 TT 4)]), OA 6 (.call 83 [TT 5]), MM 7 6, FG 8 6 1 7 true, FG 9 1 8 7 true, LG 10 3 9 7 true, OC 11 (.call 62 [TT 10]) 7 true, OA 12 (.pick (TT 7) (TT 11) (.const (.bool false))), MM 13 12, FG 14 6 1 13 true, FG 15 1 14 13 true,
 LG 16 3 15 13 true, OC 17 (.call 84 [TT 16]) 13 true, OA 18 (.pick (TT 13) (TT 17) (.const (.bool false))), MM 19 18, FG 20 6 1 19 true, FG 21 0 20 19 true, VG 22 21 19 true, OC 23 (.un .not (TT 22)) 19 true, MG 24 23 19 true,
 FG 25 6 1 24 false, FG 26 1 25 24 false, LG 27 3 26 24 false, OC 28 (.call 15 [TT 27]) 24 false, OC 29 (.bin .eql (TT 28) (II 0)) 24 false, OC 30 (.pick (TT 24) (.const (.bool true)) (TT 29)) 19 true, OA 31 (.pick (TT 19) (TT
 30) (.const (.bool false))), MM 2 31]) .ret)⟩
theorem b0t : j6 eff Tryz.prog Tryz.f21 = some a4F := by kernel_rfl
theorem b0a : Tryz.prog.funcs[21]? = some Tryz.f21 := Tryz.func21
def a2d : l9 := ⟨89, [.tmp 2], .seq (.reg [OA 1 (.box 31 (TT 0)), OA 2 (.mv (II 0))]) (.seq (.seq (.reg [FF 7 0 1, VV 8 7, OA 9 (.len false (TT 8)), OA 10 (.bin .gtr (TT 9) (II 4)), MM 11 10, FG 12 1 1 11 false, VG 13 12 11 false, OC 14 (.len
 false (TT 13)) 11 false, OC 15 (.bin .gtr (TT 14) (II 10)) 11 false, OA 16 (.pick (TT 11) (.const (.bool true)) (TT 15)), MM 17 16, FG 18 2 1 17 false, VG 19 18 17 false, OC 20 (.len false (TT 19)) 17 false, OC 21 (.bin .gtr (TT
 20) (II 6)) 17 false, OA 22 (.pick (TT 17) (.const (.bool true)) (TT 21)), MM 23 22, FG 24 3 1 23 false, VG 25 24 23 false, OC 26 (.len false (TT 25)) 23 false, OC 27 (.bin .gtr (TT 26) (II 8)) 23 false, OA 28 (.pick (TT 23)
 (.const (.bool true)) (TT 27)), MM 29 28, FG 30 4 1 29 false, VG 31 30 29 false, OC 32 (.len false (TT 31)) 29 false, OC 33 (.bin .gtr (TT 32) (II 4)) 29 false, OA 34 (.pick (TT 29) (.const (.bool true)) (TT 33))]) (.cond (TT
 34) (.seq (.reg [OA 2 (.mv (II 2))]) .ret) .skip)) (.seq (.seq (.reg [FF 35 0 1, VV 36 35, OA 37 (.len false (TT 36)), OA 38 (.bin .eql (TT 37) (II 0))]) (.cond (TT 38) (.seq (.reg [OA 2 (.mv (II 4))]) .ret) .skip)) (.seq (.reg
 [OA 39 (.a1Q true), OA 3 (.alloc 140 [.map none]), OB (.store 1 (TT 3) (TT 39))]) (.seq (.reg [OA 40 (.clo 86 [TT 3]), MM 4 40]) (.seq (.seq (.C9 [.q, .q, .q, .e none false, .l, .l, .q, .l, .l, .l, .l, .e none false, .l, .l,
 .l, .l, .e none false, .l, .l, .l, .l, .e none false, .q, .q, .l] [FF 41 0 1, VV 42 41, MM 43 4, OA 44 (.call 89 [TT 42, TT 43]), FF 45 1 1, VV 46 45, OA 47 (.call 90 [TT 46, .func 91]), FF 48 2 1, VV 49 48, VV 50 3, OA 51 (.bnd
 93 (TT 50)), OA 52 (.call 92 [TT 49, TT 51]), FF 53 3 1, VV 54 53, VV 55 3, OA 56 (.bnd 95 (TT 55)), OA 57 (.call 94 [TT 54, TT 56]), FF 58 4 1, VV 59 58, VV 60 3, OA 61 (.bnd 97 (TT 60)), OA 62 (.call 96 [TT 59, TT 61]), OA 63
 (.bsl 40 1 5 [.int .i64 0] [(0, TT 44), (1, TT 47), (2, TT 52), (3, TT 57), (4, TT 62)]), OA 64 (.len false (TT 63)), OA 65 (.mv (II 0))]) (.block 0 (.loop (.seq (.reg [OA 66 (.bin .lss (TT 65) (TT 64))]) (.seq (.cond (TT 66)
 .skip (.exit 0)) (.seq (.block 1 (.seq (.reg [OA 67 (.j4 1 (TT 63) (TT 65)), VV 68 67, MM 6 68]) (.seq (.reg [MM 69 6, OA 70 (.bin .neq (TT 69) (II 0))]) (.cond (TT 70) (.seq (.reg [MM 71 6, MM 2 71]) .ret) .skip)))) (.reg
 [OA 72 (.bin .add (TT 65) (II 1)), MM 65 72]))))))) (.seq (.seq (.reg [FF 73 5 1, LL 74 3 73, OA 75 (.call 62 [TT 74]), OA 76 (.un .not (TT 75)), MM 77 76, FG 78 5 1 77 false, LG 79 3 78 77 false, OC 80 (.call 84 [TT 79]) 77
 false, OC 81 (.un .not (TT 80)) 77 false, OA 82 (.pick (TT 77) (.const (.bool true)) (TT 81)), MM 83 82, FG 84 5 1 83 false, LG 85 3 84 83 false, OC 86 (.call 15 [TT 85]) 83 false, OC 87 (.bin .lss (TT 86) (II 0)) 83 false, OA
 88 (.pick (TT 83) (.const (.bool true)) (TT 87))]) (.cond (TT 88) (.seq (.reg [OA 2 (.mv (II 1))]) .ret) .skip)) (.seq (.reg [OA 2 (.mv (II 0))]) .ret)))))))⟩
theorem b0x : j6 eff Tryz.prog Tryz.f23 = some a2d := by kernel_rfl
theorem b0i : Tryz.prog.funcs[23]? = some Tryz.f23 := Tryz.func23
def a4H : l9 := ⟨6, [.tmp 2], .seq (.reg [OA 2 (.mv (.const (.bool false)))]) (.seq (.reg [MM 3 0, OA 4 (.call 137 [TT 3, .func 197]), OA 5 (.un .not (TT 4)), MM 2 5]) .ret)⟩
theorem b0m : j6 eff Tryz.prog Tryz.f83 = some a4H := by kernel_rfl
theorem b0g : Tryz.prog.funcs[83]? = some Tryz.f83 := Tryz.func83
def a3s : l9 := ⟨14, [.tmp 3], .seq (.reg [OA 2 (.box 76 (TT 0)), OA 3 (.mv (II 0))]) (.seq (.seq (.reg [LL 5 12 2, OA 6 (.call 87 [TT 5]), MM 4 6]) (.seq (.reg [MM 7 4, OA 8 (.bin .neq (TT 7) (II 0))]) (.cond (TT 8) (.seq (.reg [MM 9 4, MM 3 9])
 .ret) .skip))) (.seq (.reg [VV 10 1, FF 11 0 2, VV 12 11, OA 13 (.call 88 [TT 10, TT 12]), MM 3 13]) .ret))⟩
theorem a8q : j6 eff Tryz.prog Tryz.f86 = some a3s := by kernel_rfl
theorem a8s : Tryz.prog.funcs[86]? = some Tryz.f86 := Tryz.func86
def a1B : l9 := ⟨21, [.tmp 4], .seq (.reg [OA 4 (.mv (II 0))]) (.seq (.seq (.reg [MM 8 0, OA 9 (.len false (TT 8)), OA 10 (.mv (II 0))]) (.block 0 (.loop (.seq (.reg [OA 11 (.bin .lss (TT 10) (TT 9))]) (.seq (.cond (TT 11) .skip (.exit 0)) (.seq
 (.block 1 (.seq (.reg [OA 12 (.j4 12 (TT 8) (TT 10)), LL 13 12 12, OA 6 (.alloc 76 [.string ⟨#[]⟩, .bool false, .string ⟨#[]⟩, .string ⟨#[]⟩, .bool false, .string ⟨#[]⟩, .string ⟨#[]⟩, .bool false, .bool false, .string ⟨#[]⟩,
 .string ⟨#[]⟩, .slice none 0 0]), OB (.store 12 (TT 6) (TT 13))]) (.seq (.reg [MM 14 1, LL 15 12 6, OA 16 (.G6 (TT 14) [TT 15]), MM 7 16]) (.seq (.reg [MM 17 7, OA 18 (.bin .neq (TT 17) (II 0))]) (.cond (TT 18) (.seq (.reg
 [MM 19 7, MM 4 19]) .ret) .skip))))) (.reg [OA 20 (.bin .add (TT 10) (II 1)), MM 10 20]))))))) (.seq (.reg [OA 4 (.mv (II 0))]) .ret))⟩
theorem a5i : j6 eff Tryz.prog Tryz.f89 = some a1B := by kernel_rfl
theorem a4X : Tryz.prog.funcs[89]? = some Tryz.f89 := Tryz.func89
def a1D : l9 := ⟨21, [.tmp 4], .seq (.reg [OA 4 (.mv (II 0))]) (.seq (.seq (.reg [MM 8 0, OA 9 (.len false (TT 8)), OA 10 (.mv (II 0))]) (.block 0 (.loop (.seq (.reg [OA 11 (.bin .lss (TT 10) (TT 9))]) (.seq (.cond (TT 11) .skip (.exit 0)) (.seq
 (.block 1 (.seq (.reg [OA 12 (.j4 1 (TT 8) (TT 10)), VV 13 12, MM 6 13]) (.seq (.reg [MM 14 1, MM 15 6, OA 16 (.G6 (TT 14) [TT 15]), MM 7 16]) (.seq (.reg [MM 17 7, OA 18 (.bin .neq (TT 17) (II 0))]) (.cond (TT 18) (.seq
 (.reg [MM 19 7, MM 4 19]) .ret) .skip))))) (.reg [OA 20 (.bin .add (TT 10) (II 1)), MM 10 20]))))))) (.seq (.reg [OA 4 (.mv (II 0))]) .ret))⟩
theorem a4O : j6 eff Tryz.prog Tryz.f90 = some a1D := by kernel_rfl
theorem a4W : Tryz.prog.funcs[90]? = some Tryz.f90 := Tryz.func90
def a4G : l9 := ⟨12, [.tmp 2], .seq (.reg [OA 2 (.mv (II 0))]) (.seq (.seq (.reg [MM 4 0, OA 5 (.call 201 [TT 4]), MM 3 5]) (.seq (.reg [MM 6 3, OA 7 (.bin .neq (TT 6) (II 0))]) (.cond (TT 7) (.seq (.reg [MM 8 3, MM 2 8]) .ret) .skip))) (.seq
 (.seq (.reg [MM 9 0, OA 10 (.call 83 [TT 9]), OA 11 (.un .not (TT 10))]) (.cond (TT 11) (.seq (.reg [OA 2 (.mv (II 1))]) .ret) .skip)) (.seq (.reg [OA 2 (.mv (II 0))]) .ret)))⟩
theorem b0k : j6 eff Tryz.prog Tryz.f91 = some a4G := by kernel_rfl
theorem b0r : Tryz.prog.funcs[91]? = some Tryz.f91 := Tryz.func91
def a1f : l9 := ⟨21, [.tmp 4], .seq (.reg [OA 4 (.mv (II 0))]) (.seq (.seq (.reg [MM 8 0, OA 9 (.len false (TT 8)), OA 10 (.mv (II 0))]) (.block 0 (.loop (.seq (.reg [OA 11 (.bin .lss (TT 10) (TT 9))]) (.seq (.cond (TT 11) .skip (.exit 0)) (.seq
 (.block 1 (.seq (.reg [OA 12 (.j4 12 (TT 8) (TT 10)), LL 13 12 12, OA 6 (.alloc 80 [.string ⟨#[]⟩, .slice none 0 0, .bool false, .string ⟨#[]⟩, .string ⟨#[]⟩, .bool false, .string ⟨#[]⟩, .string ⟨#[]⟩, .bool false, .bool
 false, .string ⟨#[]⟩, .string ⟨#[]⟩]), OB (.store 12 (TT 6) (TT 13))]) (.seq (.reg [MM 14 1, LL 15 12 6, OA 16 (.G6 (TT 14) [TT 15]), MM 7 16]) (.seq (.reg [MM 17 7, OA 18 (.bin .neq (TT 17) (II 0))]) (.cond (TT 18) (.seq
 (.reg [MM 19 7, MM 4 19]) .ret) .skip))))) (.reg [OA 20 (.bin .add (TT 10) (II 1)), MM 10 20]))))))) (.seq (.reg [OA 4 (.mv (II 0))]) .ret))⟩
theorem a4E : j6 eff Tryz.prog Tryz.f92 = some a1f := by kernel_rfl
theorem a4h : Tryz.prog.funcs[92]? = some Tryz.f92 := Tryz.func92
def a1d : l9 := ⟨21, [.tmp 4], .seq (.reg [OA 4 (.mv (II 0))]) (.seq (.seq (.reg [MM 8 0, OA 9 (.len false (TT 8)), OA 10 (.mv (II 0))]) (.block 0 (.loop (.seq (.reg [OA 11 (.bin .lss (TT 10) (TT 9))]) (.seq (.cond (TT 11) .skip (.exit 0)) (.seq
 (.block 1 (.seq (.reg [OA 12 (.j4 14 (TT 8) (TT 10)), LL 13 14 12, OA 6 (.alloc 57 [.string ⟨#[]⟩, .bool false, .string ⟨#[]⟩, .string ⟨#[]⟩, .bool false, .string ⟨#[]⟩, .string ⟨#[]⟩, .bool false, .bool false, .string ⟨#[]⟩,
 .string ⟨#[]⟩, .bool false, .string ⟨#[]⟩, .string ⟨#[]⟩]), OB (.store 14 (TT 6) (TT 13))]) (.seq (.reg [MM 14 1, LL 15 14 6, OA 16 (.G6 (TT 14) [TT 15]), MM 7 16]) (.seq (.reg [MM 17 7, OA 18 (.bin .neq (TT 17) (II 0))])
 (.cond (TT 18) (.seq (.reg [MM 19 7, MM 4 19]) .ret) .skip))))) (.reg [OA 20 (.bin .add (TT 10) (II 1)), MM 10 20]))))))) (.seq (.reg [OA 4 (.mv (II 0))]) .ret))⟩
theorem a4k : j6 eff Tryz.prog Tryz.f94 = some a1d := by kernel_rfl
theorem a4w : Tryz.prog.funcs[94]? = some Tryz.f94 := Tryz.func94
def a1k : l9 := ⟨21, [.tmp 4], .seq (.reg [OA 4 (.mv (II 0))]) (.seq (.seq (.reg [MM 8 0, OA 9 (.len false (TT 8)), OA 10 (.mv (II 0))]) (.block 0 (.loop (.seq (.reg [OA 11 (.bin .lss (TT 10) (TT 9))]) (.seq (.cond (TT 11) .skip (.exit 0)) (.seq
 (.block 1 (.seq (.reg [OA 12 (.j4 13 (TT 8) (TT 10)), LL 13 13 12, OA 6 (.alloc 116 [.string ⟨#[]⟩, .bool false, .string ⟨#[]⟩, .string ⟨#[]⟩, .bool false, .string ⟨#[]⟩, .string ⟨#[]⟩, .bool false, .string ⟨#[]⟩, .string
 ⟨#[]⟩, .bool false, .string ⟨#[]⟩, .string ⟨#[]⟩]), OB (.store 13 (TT 6) (TT 13))]) (.seq (.reg [MM 14 1, LL 15 13 6, OA 16 (.G6 (TT 14) [TT 15]), MM 7 16]) (.seq (.reg [MM 17 7, OA 18 (.bin .neq (TT 17) (II 0))]) (.cond (TT
 18) (.seq (.reg [MM 19 7, MM 4 19]) .ret) .skip))))) (.reg [OA 20 (.bin .add (TT 10) (II 1)), MM 10 20]))))))) (.seq (.reg [OA 4 (.mv (II 0))]) .ret))⟩
theorem a4j : j6 eff Tryz.prog Tryz.f96 = some a1k := by kernel_rfl
theorem a4p : Tryz.prog.funcs[96]? = some Tryz.f96 := Tryz.func96
def a3k : l9 := ⟨25, [.tmp 2], .seq (.reg [OA 1 (.box 51 (TT 0)), OA 2 (.mv (.const (.bool false)))]) (.seq (.reg [FF 3 0 1, LL 4 3 3, OA 5 (.call 62 [TT 4]), OA 6 (.un .not (TT 5)), MM 7 6, FG 8 3 1 7 false, LG 9 3 8 7 false, OC 10 (.call 62 [TT
 9]) 7 false, OC 11 (.un .not (TT 10)) 7 false, OA 12 (.pick (TT 7) (.const (.bool true)) (TT 11)), MM 13 12, FG 14 0 1 13 false, LG 15 3 14 13 false, OC 16 (.call 84 [TT 15]) 13 false, OC 17 (.un .not (TT 16)) 13 false, OA 18
 (.pick (TT 13) (.const (.bool true)) (TT 17)), MM 19 18, FG 20 3 1 19 false, LG 21 3 20 19 false, OC 22 (.call 84 [TT 21]) 19 false, OC 23 (.un .not (TT 22)) 19 false, OA 24 (.pick (TT 19) (.const (.bool true)) (TT 23)), MM 2
 24]) .ret)⟩
theorem a8A : j6 eff Tryz.prog Tryz.f197 = some a3k := by kernel_rfl
theorem a8x : Tryz.prog.funcs[197]? = some Tryz.f197 := Tryz.func197
def a2D : l9 := ⟨13, [.tmp 4], .seq (.reg [OA 4 (.mv (II 0))]) (.seq (.seq (.reg [MM 5 1, OA 6 (.call 19 [TT 5]), OA 7 (.un .not (TT 6))]) (.cond (TT 7) (.seq (.reg [OA 4 (.mv (II 3))]) .ret) .skip)) (.seq (.seq (.reg [MM 8 0, MM 9 1, OA 10 (.lkp
 true (.bool false) false (TT 8) (TT 9))]) (.cond (TT 10) (.seq (.reg [OA 4 (.mv (II 5))]) .ret) .skip)) (.seq (.reg [MM 11 0, MM 12 1, OB (.a4t true (TT 11) (TT 12) (.const (.bool true)))]) (.seq (.reg [OA 4 (.mv (II 0))])
 .ret))))⟩
theorem a6M : j6 eff Tryz.prog Tryz.f88 = some a2D := by kernel_rfl
theorem a6K : Tryz.prog.funcs[88]? = some Tryz.f88 := Tryz.func88
def a1V : l9 := ⟨24, [.tmp 4], .seq (.reg [OA 3 (.box 80 (TT 1)), OA 4 (.mv (II 0))]) (.seq (.seq (.reg [MM 7 0, FF 8 0 3, VV 9 8, OA 10 (.call 88 [TT 7, TT 9]), MM 5 10]) (.seq (.reg [MM 11 5, OA 12 (.bin .neq (TT 11) (II 0))]) (.cond (TT 12)
 (.seq (.reg [MM 13 5, MM 4 13]) .ret) .skip))) (.seq (.seq (.reg [FF 14 1 3, VV 15 14, OA 16 (.call 91 [TT 15]), MM 6 16]) (.seq (.reg [MM 17 6, OA 18 (.bin .neq (TT 17) (II 0))]) (.cond (TT 18) (.seq (.reg [MM 19 6, MM 4 19])
 .ret) .skip))) (.seq (.seq (.reg [FF 20 2 3, LL 21 10 20, OA 22 (.call 21 [TT 21]), OA 23 (.un .not (TT 22))]) (.cond (TT 23) (.seq (.reg [OA 4 (.mv (II 1))]) .ret) .skip)) (.seq (.reg [OA 4 (.mv (II 0))]) .ret))))⟩
theorem a6c : j6 eff Tryz.prog Tryz.f93 = some a1V := by kernel_rfl
theorem a6d : Tryz.prog.funcs[93]? = some Tryz.f93 := Tryz.func93
def a1W : l9 := ⟨35, [.tmp 4], .seq (.reg [OA 3 (.box 57 (TT 1)), OA 4 (.mv (II 0))]) (.seq (.seq (.reg [MM 6 0, FF 7 0 3, VV 8 7, OA 9 (.call 88 [TT 6, TT 8]), MM 5 9]) (.seq (.reg [MM 10 5, OA 11 (.bin .neq (TT 10) (II 0))]) (.cond (TT 11)
 (.seq (.reg [MM 12 5, MM 4 12]) .ret) .skip))) (.seq (.seq (.reg [FF 13 1 3, LL 14 10 13, OA 15 (.call 21 [TT 14]), OA 16 (.un .not (TT 15)), MM 17 16, FG 18 11 3 17 false, LG 19 3 18 17 false, OC 20 (.call 62 [TT 19]) 17 false,
 OC 21 (.un .not (TT 20)) 17 false, OA 22 (.pick (TT 17) (.const (.bool true)) (TT 21)), MM 23 22, FG 24 11 3 23 false, LG 25 3 24 23 false, OC 26 (.call 84 [TT 25]) 23 false, OC 27 (.un .not (TT 26)) 23 false, OA 28 (.pick (TT
 23) (.const (.bool true)) (TT 27)), MM 29 28, FG 30 11 3 29 false, LG 31 3 30 29 false, OC 32 (.call 15 [TT 31]) 29 false, OC 33 (.bin .leq (TT 32) (II 0)) 29 false, OA 34 (.pick (TT 29) (.const (.bool true)) (TT 33))]) (.cond
 (TT 34) (.seq (.reg [OA 4 (.mv (II 1))]) .ret) .skip)) (.seq (.reg [OA 4 (.mv (II 0))]) .ret)))⟩
theorem a6f : j6 eff Tryz.prog Tryz.f95 = some a1W := by kernel_rfl
theorem a6a : Tryz.prog.funcs[95]? = some Tryz.f95 := Tryz.func95
def a1X : l9 := ⟨46, [.tmp 4], .seq (.reg [OA 3 (.box 116 (TT 1)), OA 4 (.mv (II 0))]) (.seq (.seq (.reg [MM 6 0, FF 7 0 3, VV 8 7, OA 9 (.call 88 [TT 6, TT 8]), MM 5 9]) (.seq (.reg [MM 10 5, OA 11 (.bin .neq (TT 10) (II 0))]) (.cond (TT 11)
 (.seq (.reg [MM 12 5, MM 4 12]) .ret) .skip))) (.seq (.seq (.reg [FF 13 1 3, FF 14 0 13, LL 15 6 14, FF 16 1 3, FF 17 6 16, LL 18 6 17, OA 19 (.bsl 51 6 2 [.bool false, .string ⟨#[]⟩, .string ⟨#[]⟩, .bool false, .string ⟨#[]⟩,
 .string ⟨#[]⟩] [(0, TT 15), (1, TT 18)]), OA 20 (.call 83 [TT 19]), OA 21 (.un .not (TT 20)), MM 22 21, FG 23 1 3 22 false, FG 24 0 23 22 false, FG 25 0 24 22 false, LG 26 3 25 22 false, FG 27 1 3 22 false, FG 28 6 27 22 false,
 FG 29 0 28 22 false, LG 30 3 29 22 false, OC 31 (.call 52 [TT 26, TT 30]) 22 false, OC 32 (.bin .gtr (TT 31) (II 0)) 22 false, OA 33 (.pick (TT 22) (.const (.bool true)) (TT 32)), MM 34 33, FG 35 1 3 34 false, FG 36 0 35 34
 false, FG 37 3 36 34 false, LG 38 3 37 34 false, FG 39 1 3 34 false, FG 40 6 39 34 false, FG 41 3 40 34 false, LG 42 3 41 34 false, OC 43 (.call 52 [TT 38, TT 42]) 34 false, OC 44 (.bin .gtr (TT 43) (II 0)) 34 false, OA 45
 (.pick (TT 34) (.const (.bool true)) (TT 44))]) (.cond (TT 45) (.seq (.reg [OA 4 (.mv (II 1))]) .ret) .skip)) (.seq (.reg [OA 4 (.mv (II 0))]) .ret)))⟩
theorem a6b : j6 eff Tryz.prog Tryz.f97 = some a1X := by kernel_rfl
theorem a5Y : Tryz.prog.funcs[97]? = some Tryz.f97 := Tryz.func97
def a4M : l9 := ⟨97, [.tmp 4], .seq (.reg [OA 2 (.box 31 (TT 0)), OA 3 (.box 37 (TT 1)), OA 4 (.mv (II 0))]) (.seq (.seq (.reg [LL 10 8 2, OA 11 (.call 23 [TT 10]), MM 5 11]) (.seq (.reg [MM 12 5, OA 13 (.bin .neq (TT 12) (II 0))]) (.cond (TT 13)
 (.seq (.reg [MM 14 5, MM 4 14]) .ret) .skip))) (.seq (.seq (.reg [FF 15 3 3, VV 16 15, OA 17 (.len false (TT 16)), OA 18 (.bin .gtr (TT 17) (II 4))]) (.cond (TT 18) (.seq (.reg [OA 4 (.mv (II 2))]) .ret) .skip)) (.seq (.seq
 (.reg [FF 19 0 3, VV 20 19, OA 21 (.bin .lss (TT 20) (II 0)), MM 22 21, FG 23 0 3 22 false, VG 24 23 22 false, OC 25 (.bin .gtr (TT 24) (II 2000)) 22 false, OA 26 (.pick (TT 22) (.const (.bool true)) (TT 25)), MM 27 26, FG 28 1
 3 27 false, VG 29 28 27 false, OC 30 (.len false (TT 29)) 27 false, FG 31 0 2 27 false, VG 32 31 27 false, OC 33 (.len false (TT 32)) 27 false, OC 34 (.bin .neq (TT 30) (TT 33)) 27 false, OA 35 (.pick (TT 27) (.const (.bool
 true)) (TT 34)), MM 36 35, FG 37 2 3 36 false, VG 38 37 36 false, OC 39 (.len false (TT 38)) 36 false, FG 40 2 2 36 false, VG 41 40 36 false, OC 42 (.len false (TT 41)) 36 false, OC 43 (.bin .neq (TT 39) (TT 42)) 36 false, OA 44
 (.pick (TT 36) (.const (.bool true)) (TT 43)), MM 45 44, FG 46 4 3 45 false, VG 47 46 45 false, OC 48 (.len false (TT 47)) 45 false, FG 49 4 2 45 false, VG 50 49 45 false, OC 51 (.len false (TT 50)) 45 false, OC 52 (.bin .neq
 (TT 48) (TT 51)) 45 false, OA 53 (.pick (TT 45) (.const (.bool true)) (TT 52))]) (.cond (TT 53) (.seq (.reg [OA 4 (.mv (II 1))]) .ret) .skip)) (.seq (.reg [OA 54 (.a1Q false), MM 6 54]) (.seq (.seq (.reg [FF 55 1 3, VV 56 55,
 OA 57 (.len false (TT 56)), OA 58 (.mv (II 0))]) (.block 0 (.loop (.seq (.reg [OA 59 (.bin .lss (TT 58) (TT 57))]) (.seq (.cond (TT 59) .skip (.exit 0)) (.seq (.block 1 (.seq (.reg [MM 60 58, OA 61 (.j4 4 (TT 56) (TT 58)), LL
 62 4 61, OA 8 (.alloc 90 [.slice none 0 0, .slice none 0 0, .bool false, .int .i64 0]), MM 7 60, OB (.store 4 (TT 8) (TT 62))]) (.seq (.seq (.C9 [.q, .q, .q, .q, .q, .q, .q, .q, .q, .q, .q] [FF 63 0 2, VV 64 63, MM 65 7, OA 66
 (.j4 12 (TT 64) (TT 65)), LL 67 12 66, LL 68 4 8, FF 69 2 2, VV 70 69, OA 71 (.len false (TT 70)), OA 72 (.call 133 [TT 67, TT 68, TT 71]), MM 9 72]) (.seq (.reg [MM 73 9, OA 74 (.bin .neq (TT 73) (II 0))]) (.cond (TT 74)
 (.seq (.reg [MM 75 9, MM 4 75]) .ret) .skip))) (.seq (.seq (.reg [FF 76 3 8, VV 77 76, OA 78 (.bin .geq (TT 77) (II 0)), MM 79 78, MG 80 6 79 true, FG 81 3 8 79 true, VG 82 81 79 true, OC 83 (.lkp false (.bool false) false (TT
 80) (TT 82)) 79 true, OA 84 (.pick (TT 79) (TT 83) (.const (.bool false)))]) (.cond (TT 84) (.seq (.reg [OA 4 (.mv (II 10))]) .ret) .skip)) (.reg [MM 85 6, FF 86 3 8, VV 87 86, OB (.a4t false (TT 85) (TT 87) (.const (.bool
 true)))]))))) (.reg [OA 88 (.bin .add (TT 58) (II 1)), MM 58 88]))))))) (.seq (.seq (.reg [FF 89 2 3, VV 90 89, OA 91 (.call 134 [TT 90, .func 135]), MM 92 91, FG 93 3 3 92 false, VG 94 93 92 false, OC 95 (.call 137 [TT 94,
 .func 138]) 92 false, OA 96 (.pick (TT 92) (.const (.bool true)) (TT 95))]) (.cond (TT 96) (.seq (.reg [OA 4 (.mv (II 3))]) .ret) .skip)) (.seq (.reg [OA 4 (.mv (II 0))]) .ret)))))))⟩
theorem b0w : j6 eff Tryz.prog Tryz.f38 = some a4M := by kernel_rfl
theorem b0c : Tryz.prog.funcs[38]? = some Tryz.f38 := Tryz.func38
def a6l : l9 := ⟨64, [.tmp 6], .seq (.reg [OA 3 (.box 76 (TT 0)), OA 4 (.box 90 (TT 1)), OA 6 (.mv (II 0))]) (.seq (.seq (.reg [FF 10 0 4, VV 11 10, OA 12 (.call 139 [TT 11]), OA 13 (.un .not (TT 12)), MM 14 13, FG 15 1 4 14 false, VG 16 15 14
 false, OC 17 (.call 139 [TT 16]) 14 false, OC 18 (.un .not (TT 17)) 14 false, OA 19 (.pick (TT 14) (.const (.bool true)) (TT 18))]) (.cond (TT 19) (.seq (.reg [OA 6 (.mv (II 3))]) .ret) .skip)) (.seq (.seq (.reg [LL 20 12 3, FF
 21 0 4, VV 22 21, OA 23 (.call 141 [TT 20, TT 22]), MM 7 23]) (.seq (.reg [MM 24 7, OA 25 (.bin .neq (TT 24) (II 0))]) (.cond (TT 25) (.seq (.reg [MM 26 7, MM 6 26]) .ret) .skip))) (.seq (.seq (.reg [FF 27 1 4, VV 28 27, OA 29
 (.len false (TT 28)), FF 30 11 3, VV 31 30, OA 32 (.len false (TT 31)), OA 33 (.bin .neq (TT 29) (TT 32)), MM 34 33, FG 35 3 4 34 false, VG 36 35 34 false, OC 37 (.bin .lss (TT 36) (II (-1))) 34 false, OA 38 (.pick (TT 34)
 (.const (.bool true)) (TT 37)), MM 39 38, FG 40 3 4 39 false, VG 41 40 39 false, MG 42 2 39 false, OC 43 (.bin .geq (TT 41) (TT 42)) 39 false, OA 44 (.pick (TT 39) (.const (.bool true)) (TT 43))]) (.cond (TT 44) (.seq (.reg [OA
 6 (.mv (II 1))]) .ret) .skip)) (.seq (.seq (.reg [FF 45 11 3, VV 46 45, OA 47 (.len false (TT 46)), OA 48 (.mv (II 0))]) (.block 0 (.loop (.seq (.reg [OA 49 (.bin .lss (TT 48) (TT 47))]) (.seq (.cond (TT 49) .skip (.exit 0))
 (.seq (.block 1 (.seq (.reg [MM 50 48, OA 51 (.j4 16 (TT 46) (TT 48)), LL 52 16 51, OA 9 (.alloc 158 [.bool false, .string ⟨#[]⟩, .string ⟨#[]⟩, .bool false, .string ⟨#[]⟩, .string ⟨#[]⟩, .bool false, .string ⟨#[]⟩, .string
 ⟨#[]⟩, .bool false, .string ⟨#[]⟩, .string ⟨#[]⟩, .bool false, .string ⟨#[]⟩, .string ⟨#[]⟩, .slice none 0 0]), MM 8 50, OB (.store 16 (TT 9) (TT 52))]) (.seq (.C9 [.q, .q, .q, .q, .q, .q, .q, .q, .q, .q] [FF 53 1 4, VV 54 53,
 MM 55 8, OA 56 (.j4 3 (TT 54) (TT 55)), LL 57 3 56, OA 58 (.call 75 [TT 57]), FF 59 9 9, LL 60 3 59, OA 61 (.call 52 [TT 58, TT 60]), OA 62 (.bin .gtr (TT 61) (II 0))]) (.cond (TT 62) (.seq (.reg [OA 6 (.mv (II 1))]) .ret)
 .skip)))) (.reg [OA 63 (.bin .add (TT 48) (II 1)), MM 48 63]))))))) (.seq (.reg [OA 6 (.mv (II 0))]) .ret)))))⟩
theorem b2q : j6 eff Tryz.prog Tryz.f133 = some a6l := by kernel_rfl
theorem b3w : Tryz.prog.funcs[133]? = some Tryz.f133 := Tryz.func133
def a3h : l9 := ⟨6, [.tmp 2], .seq (.reg [OA 1 (.box 55 (TT 0)), OA 2 (.mv (.const (.bool false)))]) (.seq (.reg [LL 3 10 1, OA 4 (.call 136 [TT 3]), OA 5 (.un .not (TT 4)), MM 2 5]) .ret)⟩
theorem a8E : j6 eff Tryz.prog Tryz.f135 = some a3h := by kernel_rfl
theorem a8r : Tryz.prog.funcs[135]? = some Tryz.f135 := Tryz.func135
def a2C : l9 := ⟨27, [.tmp 2], .seq (.reg [OA 1 (.box 55 (TT 0)), OA 2 (.mv (.const (.bool false)))]) (.seq (.reg [FF 3 0 1, FF 4 0 3, LL 5 3 4, FF 6 0 1, FF 7 3 6, LL 8 3 7, FF 9 6 1, FF 10 1 9, LL 11 3 10, OA 12 (.bsl 29 3 3 [.bool false,
 .string ⟨#[]⟩, .string ⟨#[]⟩] [(0, TT 5), (1, TT 8), (2, TT 11)]), OA 13 (.call 139 [TT 12]), MM 14 13, FG 15 6 1 14 true, FG 16 0 15 14 true, VG 17 16 14 true, OC 18 (.un .not (TT 17)) 14 true, MG 19 18 14 true, FG 20 6 1 19
 false, FG 21 1 20 19 false, LG 22 3 21 19 false, OC 23 (.call 15 [TT 22]) 19 false, OC 24 (.bin .eql (TT 23) (II 0)) 19 false, OC 25 (.pick (TT 19) (.const (.bool true)) (TT 24)) 14 true, OA 26 (.pick (TT 14) (TT 25) (.const
 (.bool false))), MM 2 26]) .ret)⟩
theorem a6L : j6 eff Tryz.prog Tryz.f136 = some a2C := by kernel_rfl
theorem a6O : Tryz.prog.funcs[136]? = some Tryz.f136 := Tryz.func136
def a3m : l9 := ⟨10, [.tmp 2], .seq (.reg [OA 1 (.box 51 (TT 0)), OA 2 (.mv (.const (.bool false)))]) (.seq (.reg [FF 3 0 1, LL 4 3 3, FF 5 3 1, LL 6 3 5, OA 7 (.bsl 29 3 2 [.bool false, .string ⟨#[]⟩, .string ⟨#[]⟩] [(0, TT 4), (1, TT 6)]), OA 8
 (.call 139 [TT 7]), OA 9 (.un .not (TT 8)), MM 2 9]) .ret)⟩
theorem a8B : j6 eff Tryz.prog Tryz.f138 = some a3m := by kernel_rfl
theorem a8l : Tryz.prog.funcs[138]? = some Tryz.f138 := Tryz.func138
def a5S : l9 := ⟨6, [.tmp 2], .seq (.reg [OA 2 (.mv (.const (.bool false)))]) (.seq (.reg [MM 3 0, OA 4 (.call 44 [TT 3, .func 211]), OA 5 (.un .not (TT 4)), MM 2 5]) .ret)⟩
theorem b1r : j6 eff Tryz.prog Tryz.f139 = some a5S := by kernel_rfl
theorem b1A : Tryz.prog.funcs[139]? = some Tryz.f139 := Tryz.func139
def a3Q : l9 := ⟨6, [.tmp 2], .seq (.reg [OA 1 (.box 29 (TT 0)), OA 2 (.mv (.const (.bool false)))]) (.seq (.reg [LL 3 3 1, OA 4 (.call 62 [TT 3]), OA 5 (.un .not (TT 4)), MM 2 5]) .ret)⟩
theorem a8N : j6 eff Tryz.prog Tryz.f211 = some a3Q := by kernel_rfl
theorem a8R : Tryz.prog.funcs[211]? = some Tryz.f211 := Tryz.func211
def O9 : l9 := ⟨9, [.tmp 4], .seq (.reg [OA 4 (.mv (.const (.bool false)))]) (.seq (.reg [MM 5 0, MM 6 1, OA 7 (.call 152 [TT 5, TT 6]), OA 8 (.bin .geq (TT 7) (II 0)), MM 4 8]) .ret)⟩
theorem a0u : j6 eff Tryz.prog Tryz.f44 = some O9 := by kernel_rfl
theorem a0w : Tryz.prog.funcs[44]? = some Tryz.f44 := Tryz.func44
def U6 : l9 := ⟨9, [.tmp 4], .seq (.reg [OA 4 (.mv (.const (.bool false)))]) (.seq (.reg [MM 5 0, MM 6 1, OA 7 (.call 202 [TT 5, TT 6]), OA 8 (.bin .geq (TT 7) (II 0)), MM 4 8]) .ret)⟩
theorem a1q : j6 eff Tryz.prog Tryz.f99 = some U6 := by kernel_rfl
theorem a1p : Tryz.prog.funcs[99]? = some Tryz.f99 := Tryz.func99
def M4 : l9 := ⟨9, [.tmp 4], .seq (.reg [OA 4 (.mv (.const (.bool false)))]) (.seq (.reg [MM 5 0, MM 6 1, OA 7 (.call 209 [TT 5, TT 6]), OA 8 (.bin .geq (TT 7) (II 0)), MM 4 8]) .ret)⟩
theorem a0e : j6 eff Tryz.prog Tryz.f134 = some M4 := by kernel_rfl
theorem a0d : Tryz.prog.funcs[134]? = some Tryz.f134 := Tryz.func134
def O8 : l9 := ⟨9, [.tmp 4], .seq (.reg [OA 4 (.mv (.const (.bool false)))]) (.seq (.reg [MM 5 0, MM 6 1, OA 7 (.call 210 [TT 5, TT 6]), OA 8 (.bin .geq (TT 7) (II 0)), MM 4 8]) .ret)⟩
theorem a0y : j6 eff Tryz.prog Tryz.f137 = some O8 := by kernel_rfl
theorem a0v : Tryz.prog.funcs[137]? = some Tryz.f137 := Tryz.func137
def R5 : l9 := ⟨19, [.tmp 4], .seq (.reg [OA 4 (.mv (II 0))]) (.seq (.seq (.reg [MM 6 0, OA 7 (.len false (TT 6)), OA 8 (.mv (II 0))]) (.block 0 (.loop (.seq (.reg [OA 9 (.bin .lss (TT 8) (TT 7))]) (.seq (.cond (TT 9) .skip (.exit 0)) (.seq
 (.block 1 (.seq (.reg [MM 10 8, MM 5 10]) (.seq (.reg [MM 11 1, MM 12 0, MM 13 5, OA 14 (.j4 3 (TT 12) (TT 13)), LL 15 3 14, OA 16 (.G6 (TT 11) [TT 15])]) (.cond (TT 16) (.seq (.reg [MM 17 5, MM 4 17]) .ret) .skip))))
 (.reg [OA 18 (.bin .add (TT 8) (II 1)), MM 8 18]))))))) (.seq (.reg [OA 4 (.mv (II (-1)))]) .ret))⟩
theorem a0W : j6 eff Tryz.prog Tryz.f152 = some R5 := by kernel_rfl
theorem a0U : Tryz.prog.funcs[152]? = some Tryz.f152 := Tryz.func152
def a0a : l9 := ⟨19, [.tmp 4], .seq (.reg [OA 4 (.mv (II 0))]) (.seq (.seq (.reg [MM 6 0, OA 7 (.len false (TT 6)), OA 8 (.mv (II 0))]) (.block 0 (.loop (.seq (.reg [OA 9 (.bin .lss (TT 8) (TT 7))]) (.seq (.cond (TT 9) .skip (.exit 0)) (.seq
 (.block 1 (.seq (.reg [MM 10 8, MM 5 10]) (.seq (.reg [MM 11 1, MM 12 0, MM 13 5, OA 14 (.j4 1 (TT 12) (TT 13)), VV 15 14, OA 16 (.bin .eql (TT 11) (TT 15))]) (.cond (TT 16) (.seq (.reg [MM 17 5, MM 4 17]) .ret) .skip))))
 (.reg [OA 18 (.bin .add (TT 8) (II 1)), MM 8 18]))))))) (.seq (.reg [OA 4 (.mv (II (-1)))]) .ret))⟩
theorem a1U : j6 eff Tryz.prog Tryz.f202 = some a0a := by kernel_rfl
theorem a1T : Tryz.prog.funcs[202]? = some Tryz.f202 := Tryz.func202
def O5 : l9 := ⟨19, [.tmp 4], .seq (.reg [OA 4 (.mv (II 0))]) (.seq (.seq (.reg [MM 6 0, OA 7 (.len false (TT 6)), OA 8 (.mv (II 0))]) (.block 0 (.loop (.seq (.reg [OA 9 (.bin .lss (TT 8) (TT 7))]) (.seq (.cond (TT 9) .skip (.exit 0)) (.seq
 (.block 1 (.seq (.reg [MM 10 8, MM 5 10]) (.seq (.reg [MM 11 1, MM 12 0, MM 13 5, OA 14 (.j4 10 (TT 12) (TT 13)), LL 15 10 14, OA 16 (.G6 (TT 11) [TT 15])]) (.cond (TT 16) (.seq (.reg [MM 17 5, MM 4 17]) .ret) .skip))))
 (.reg [OA 18 (.bin .add (TT 8) (II 1)), MM 8 18]))))))) (.seq (.reg [OA 4 (.mv (II (-1)))]) .ret))⟩
theorem a0r : j6 eff Tryz.prog Tryz.f209 = some O5 := by kernel_rfl
theorem a0s : Tryz.prog.funcs[209]? = some Tryz.f209 := Tryz.func209
def R4 : l9 := ⟨19, [.tmp 4], .seq (.reg [OA 4 (.mv (II 0))]) (.seq (.seq (.reg [MM 6 0, OA 7 (.len false (TT 6)), OA 8 (.mv (II 0))]) (.block 0 (.loop (.seq (.reg [OA 9 (.bin .lss (TT 8) (TT 7))]) (.seq (.cond (TT 9) .skip (.exit 0)) (.seq
 (.block 1 (.seq (.reg [MM 10 8, MM 5 10]) (.seq (.reg [MM 11 1, MM 12 0, MM 13 5, OA 14 (.j4 6 (TT 12) (TT 13)), LL 15 6 14, OA 16 (.G6 (TT 11) [TT 15])]) (.cond (TT 16) (.seq (.reg [MM 17 5, MM 4 17]) .ret) .skip))))
 (.reg [OA 18 (.bin .add (TT 8) (II 1)), MM 8 18]))))))) (.seq (.reg [OA 4 (.mv (II (-1)))]) .ret))⟩
theorem a0R : j6 eff Tryz.prog Tryz.f210 = some R4 := by kernel_rfl
theorem a0T : Tryz.prog.funcs[210]? = some Tryz.f210 := Tryz.func210
def G9 (b : UInt8) : Bool := decide (97 <= b.toNat) && decide (b.toNat <= 122)
theorem b0Z {s : List UInt8} {i : Nat} (hi : i < s.length) (h : G9 s[i] = false) : a0A s = false := by
 unfold a0A
 have : (s.all fun b => decide (97 <= b.toNat) && decide (b.toNat <= 122)) = false := by
  rw [List.all_eq_false]
  exact ⟨s[i], List.getElem_mem hi, by unfold G9 at h; rw [h]; decide⟩
 rw [this]
 rfl
theorem b2C {s : List UInt8} (h : ∀ j (h : j < s.length), G9 s[j] = true) : a0A s = (decide (1 <= s.length) && decide (s.length <= 12)) := by
 unfold a0A
 have : (s.all fun b => decide (97 <= b.toNat) && decide (b.toNat <= 122)) = true := by
  rw [List.all_eq_true]
  intro x hx
  obtain ⟨j, hj, rfl⟩ := List.mem_iff_getElem.1 hx
  exact h j hj
 rw [this, Bool.true_and]
theorem b9x (s : List UInt8) (hs : s.length <= 1099511627776) : r9 Tryz.prog 198 [sb s] (.v (.bool (a0A s))) := by
  refine r9.of b1O b1J (by exact Nat.le_of_ble_eq_true rfl) fun w O => ?_
  simp only [a5L, l5, TT, II, OA, OB, OC, MM, LL, VV, FF, MG, LG, VG, FG, sb]
  (repeat first | refine uA ?_ | (apply S.exit; exact rfl) | (refine uK ?_ ?_; focus first | omega | trivial | exact id | (intros; simp_all <;> omega)) | simp (disch := omega) only [go_sem, Nat.reduceBEq, Nat.reduceAdd, Nat.reduceLeDiff, Int.reduceToNat, Int.reducePow, ww, y8])
  refine S.loop (X := Nat) (fun i => ⟨[(0, sb s), (5, ints s.length), (6, ints i)], []⟩) (fun i => i <= s.length /\ ∀ j (h : j < s.length), j < i -> G9 s[j] = true) (fun i => s.length - i) 0 ⟨Nat.zero_le _, fun _ _ h => absurd h (Nat.not_lt_zero _)⟩ (by (repeat first | refine uA ?_ | (refine ⟨?_, ?_⟩; focus first | rfl | trivial | (simp [slot]; done)) | rfl | trivial | simp)) ?_
  rintro i ⟨hi, hg⟩
  simp only [sb, ints]
  (repeat first | refine uA ?_ | (apply S.exit; exact rfl) | (refine uK ?_ ?_; focus first | omega | trivial | exact id | (intros; simp_all <;> omega)) | simp (disch := omega) only [go_sem, Nat.reduceBEq, Nat.reduceAdd, Nat.reduceLeDiff, Int.reduceToNat, Int.reducePow, ww])
  (refine uJ rfl (fun hc => ?_) fun hc => ?_)
  · have hi' : i < s.length := by omega
    have hgi : s.getD i 0 = s[i] := by rw [List.getD_eq_getElem?_getD, List.getElem?_eq_getElem hi']; rfl
    (repeat first | refine uA ?_ | (apply S.exit; exact rfl) | (refine uK ?_ ?_; focus first | omega | trivial | exact id | (intros; simp_all <;> omega)) | simp (disch := omega) only [go_sem, Nat.reduceBEq, Nat.reduceAdd, Nat.reduceLeDiff, Int.reduceToNat, Int.reducePow, ww, y8, M5, hgi, Int.toNat_natCast])
    refine S.cond rfl (fun hc => ?_) (fun hc => ?_)
    · have hl : G9 s[i] = false := by
        unfold G9
        simp only [Bool.or_eq_true, decide_eq_true_eq] at hc
        rw [Bool.and_eq_false_iff, decide_eq_false_iff_not, decide_eq_false_iff_not]
        omega
      rw [b0Z hi' hl]
      (repeat first | refine uA ?_ | (apply S.exit; exact rfl) | (refine uK ?_ ?_; focus first | omega | trivial | exact id | (intros; simp_all <;> omega)) | simp (disch := omega) only [go_sem, Nat.reduceBEq, Nat.reduceAdd, Nat.reduceLeDiff, Int.reduceToNat, Int.reducePow, ww])
      exact S.done (d9.out rfl (Imp.refl rfl) rfl)
    · have hl : G9 s[i] = true := by
        unfold G9
        simp only [Bool.or_eq_false_iff, decide_eq_false_iff_not] at hc
        rw [Bool.and_eq_true, decide_eq_true_eq, decide_eq_true_eq]
        omega
      (repeat first | refine uA ?_ | (apply S.exit; exact rfl) | (refine uK ?_ ?_; focus first | omega | trivial | exact id | (intros; simp_all <;> omega)) | simp (disch := omega) only [go_sem, Nat.reduceBEq, Nat.reduceAdd, Nat.reduceLeDiff, Int.reduceToNat, Int.reducePow, ww])
      refine S.next (i + 1) ⟨by omega, fun j h hj => ?_⟩ (by omega) (by (repeat first | refine uA ?_ | (refine ⟨?_, ?_⟩; focus first | rfl | trivial | (simp [slot]; done)) | rfl | trivial | simp))
      rcases Nat.lt_or_ge j i with h1 | h1
      · exact hg j h h1
      · have : j = i := by omega
        subst this
        exact hl
  · have hi' : i = s.length := by omega
    subst hi'
    have e1 : decide ((1 : Int) <= (s.length : Int)) = decide (1 <= s.length) := decide_eq_decide.2 (by omega)
    have e2 : decide ((s.length : Int) <= 12) = decide (s.length <= 12) := decide_eq_decide.2 (by omega)
    rw [b2C fun j h => hg j h h]
    (repeat first | refine uA ?_ | (apply S.exit; exact rfl) | (refine uK ?_ ?_; focus first | omega | trivial | exact id | (intros; simp_all <;> omega)) | simp (disch := omega) only [go_sem, Nat.reduceBEq, Nat.reduceAdd, Nat.reduceLeDiff, Int.reduceToNat, Int.reducePow, ww, y8, e1, e2])
    (try simp only [e1, e2, go_sem])
    exact S.done (d9.out rfl (Imp.refl rfl) rfl)
theorem c1h (s : List UInt8) (hs : s.length <= 1099511627776) : r9 Tryz.prog 19 [sb s] (.v (.bool (a0A s))) := by
  refine r9.of b1L b1H (by exact Nat.le_of_ble_eq_true rfl) fun w O => ?_
  simp only [a5Q, l5, TT, II, OA, OB, OC, MM, LL, VV, FF, MG, LG, VG, FG, sb]
  (repeat first | refine uA ?_ | (apply S.exit; exact rfl) | (refine uK ?_ ?_; focus first | omega | trivial | exact id | (intros; simp_all <;> omega)) | simp (disch := omega) only [go_sem, Nat.reduceBEq, Nat.reduceAdd, Nat.reduceLeDiff, Int.reduceToNat, Int.reducePow, ww, y8])
  refine S.loop (X := Nat) (fun i => ⟨[(0, sb s), (5, ints s.length), (6, ints i)], []⟩) (fun i => i <= s.length /\ ∀ j (h : j < s.length), j < i -> G9 s[j] = true) (fun i => s.length - i) 0 ⟨Nat.zero_le _, fun _ _ h => absurd h (Nat.not_lt_zero _)⟩ (by (repeat first | refine uA ?_ | (refine ⟨?_, ?_⟩; focus first | rfl | trivial | (simp [slot]; done)) | rfl | trivial | simp)) ?_
  rintro i ⟨hi, hg⟩
  simp only [sb, ints]
  (repeat first | refine uA ?_ | (apply S.exit; exact rfl) | (refine uK ?_ ?_; focus first | omega | trivial | exact id | (intros; simp_all <;> omega)) | simp (disch := omega) only [go_sem, Nat.reduceBEq, Nat.reduceAdd, Nat.reduceLeDiff, Int.reduceToNat, Int.reducePow, ww])
  (refine uJ rfl (fun hc => ?_) fun hc => ?_)
  · have hi' : i < s.length := by omega
    have hgi : s.getD i 0 = s[i] := by rw [List.getD_eq_getElem?_getD, List.getElem?_eq_getElem hi']; rfl
    (repeat first | refine uA ?_ | (apply S.exit; exact rfl) | (refine uK ?_ ?_; focus first | omega | trivial | exact id | (intros; simp_all <;> omega)) | simp (disch := omega) only [go_sem, Nat.reduceBEq, Nat.reduceAdd, Nat.reduceLeDiff, Int.reduceToNat, Int.reducePow, ww, y8, M5, hgi, Int.toNat_natCast])
    refine S.cond rfl (fun hc => ?_) (fun hc => ?_)
    · have hl : G9 s[i] = false := by
        unfold G9
        simp only [Bool.or_eq_true, decide_eq_true_eq] at hc
        rw [Bool.and_eq_false_iff, decide_eq_false_iff_not, decide_eq_false_iff_not]
        omega
      rw [b0Z hi' hl]
      (repeat first | refine uA ?_ | (apply S.exit; exact rfl) | (refine uK ?_ ?_; focus first | omega | trivial | exact id | (intros; simp_all <;> omega)) | simp (disch := omega) only [go_sem, Nat.reduceBEq, Nat.reduceAdd, Nat.reduceLeDiff, Int.reduceToNat, Int.reducePow, ww])
      exact S.done (d9.out rfl (Imp.refl rfl) rfl)
    · have hl : G9 s[i] = true := by
        unfold G9
        simp only [Bool.or_eq_false_iff, decide_eq_false_iff_not] at hc
        rw [Bool.and_eq_true, decide_eq_true_eq, decide_eq_true_eq]
        omega
      (repeat first | refine uA ?_ | (apply S.exit; exact rfl) | (refine uK ?_ ?_; focus first | omega | trivial | exact id | (intros; simp_all <;> omega)) | simp (disch := omega) only [go_sem, Nat.reduceBEq, Nat.reduceAdd, Nat.reduceLeDiff, Int.reduceToNat, Int.reducePow, ww])
      refine S.next (i + 1) ⟨by omega, fun j h hj => ?_⟩ (by omega) (by (repeat first | refine uA ?_ | (refine ⟨?_, ?_⟩; focus first | rfl | trivial | (simp [slot]; done)) | rfl | trivial | simp))
      rcases Nat.lt_or_ge j i with h1 | h1
      · exact hg j h h1
      · have : j = i := by omega
        subst this
        exact hl
  · have hi' : i = s.length := by omega
    subst hi'
    have e1 : decide ((1 : Int) <= (s.length : Int)) = decide (1 <= s.length) := decide_eq_decide.2 (by omega)
    have e2 : decide ((s.length : Int) <= 12) = decide (s.length <= 12) := decide_eq_decide.2 (by omega)
    rw [b2C fun j h => hg j h h]
    (repeat first | refine uA ?_ | (apply S.exit; exact rfl) | (refine uK ?_ ?_; focus first | omega | trivial | exact id | (intros; simp_all <;> omega)) | simp (disch := omega) only [go_sem, Nat.reduceBEq, Nat.reduceAdd, Nat.reduceLeDiff, Int.reduceToNat, Int.reducePow, ww, y8, e1, e2])
    (try simp only [e1, e2, go_sem])
    exact S.done (d9.out rfl (Imp.refl rfl) rfl)
theorem a8g (l : List Nm.Rt) (hl : Rbs 17179869184 l) : FZ 199 [rts l] (.v (.bool (l.all o8))) := by
  refine l8.of b2m b2I (by exact Nat.le_of_ble_eq_true rfl) fun w O hw => ?_
  obtain ⟨hn, hb⟩ := hl
  simp only [a6E, l5, TT, II, OA, OB, OC, MM, LL, VV, FF, MG, LG, VG, FG, rts]
  (repeat first | refine uA ?_ | (apply S.exit; exact rfl) | (refine uK ?_ ?_; focus first | omega | trivial | exact id | (intros; simp_all <;> omega)) | simp (disch := omega) only [go_sem, Nat.reduceBEq, Nat.reduceAdd, Nat.reduceLeDiff, Int.reduceToNat, Int.reducePow, ww, List.length_map])
  refine S.loop (X := Nat) (fun i => ⟨[(5, rts l), (6, ints l.length), (7, ints i)], []⟩) (fun i => i <= l.length /\ l.all o8 = (l.drop i).all o8) (fun i => l.length - i) 0 ⟨Nat.zero_le _, rfl⟩ (by (repeat first | refine uA ?_ | (refine ⟨?_, ?_⟩; focus first | rfl | trivial | (simp [slot]; done)) | rfl | trivial | simp)) ?_
  rintro i ⟨hi, hg⟩
  simp only [rts, ints]
  (repeat first | refine uA ?_ | (apply S.exit; exact rfl) | (refine uK ?_ ?_; focus first | omega | trivial | exact id | (intros; simp_all <;> omega)) | simp (disch := omega) only [go_sem, Nat.reduceBEq, Nat.reduceAdd, Nat.reduceLeDiff, Int.reduceToNat, Int.reducePow, ww])
  (refine uJ rfl (fun hc => ?_) fun hc => ?_)
  · have hi' : i < l.length := by omega
    have hgi := List.getElem?_eq_getElem hi'
    generalize l[i] = x at hgi
    have hd := drop_at hgi
    have hs := a2n x (hb x (List.mem_of_getElem? hgi))
    simp only [rc] at hs
    simp only [sb] at hs
    (repeat first | refine uA ?_ | (apply S.exit; exact rfl) | (refine uK ?_ ?_; focus first | omega | trivial | exact id | (intros; simp_all <;> omega)) | simp (disch := omega) only [go_sem, Nat.reduceBEq, Nat.reduceAdd, Nat.reduceLeDiff, Int.reduceToNat, Int.reducePow, ww, hgi, Option.map_some, List.length_map, rcs, sb] | (refine uD hs ?_ ?_ ?_; exact tz hw; exact rfl))
    refine S.cond rfl (fun hc => ?_) (fun hc => ?_)
    · have : l.all o8 = false := by
        rw [hg, hd, List.all_cons]
        simp only [Bool.not_eq_true'] at hc
        rw [hc]; rfl
      rw [this]
      (repeat first | refine uA ?_ | (apply S.exit; exact rfl) | (refine uK ?_ ?_; focus first | omega | trivial | exact id | (intros; simp_all <;> omega)) | simp (disch := omega) only [go_sem, Nat.reduceBEq, Nat.reduceAdd, Nat.reduceLeDiff, Int.reduceToNat, Int.reducePow, ww])
      exact S.done (d9.out rfl (Imp.refl rfl) rfl)
    · (repeat first | refine uA ?_ | (apply S.exit; exact rfl) | (refine uK ?_ ?_; focus first | omega | trivial | exact id | (intros; simp_all <;> omega)) | simp (disch := omega) only [go_sem, Nat.reduceBEq, Nat.reduceAdd, Nat.reduceLeDiff, Int.reduceToNat, Int.reducePow, ww])
      refine S.next (i + 1) ⟨by omega, ?_⟩ (by omega) (by (repeat first | refine uA ?_ | (refine ⟨?_, ?_⟩; focus first | rfl | trivial | (simp [slot]; done)) | rfl | trivial | simp))
      rw [hg, hd, List.all_cons]
      simp only [Bool.not_eq_false'] at hc
      rw [hc]; rfl
  · have : l.all o8 = true := by rw [hg, List.drop_eq_nil_of_le (by omega)]; rfl
    rw [this]
    (repeat first | refine uA ?_ | (apply S.exit; exact rfl) | (refine uK ?_ ?_; focus first | omega | trivial | exact id | (intros; simp_all <;> omega)) | simp (disch := omega) only [go_sem, Nat.reduceBEq, Nat.reduceAdd, Nat.reduceLeDiff, Int.reduceToNat, Int.reducePow, ww])
    exact S.done (d9.out rfl (Imp.refl rfl) rfl)
namespace Eng
def frS (fr : List (Nat × C)) : List (Nat × C) -> Prop
 | [] => True
 | (t, s) :: r => (s = .junk \/ slot fr t = s) /\ frS fr r
theorem b2a {fr : List (Nat × C)} : ∀ {fr' : List (Nat × C)}, frS fr fr' -> ∀ t, slot fr' t = .junk \/ slot fr t = slot fr' t
 | [], _, t => .inl rfl
 | (u, s) :: r, h, t => by
  simp only [slot]
  cases hb : (u == t) with
  | true =>
   have : u = t := by simpa using hb
   subst this
   exact h.1
  | false => exact b2a h.2 t
theorem Ent.fr {E : Ctx} {fr fr' : List (Nat × C)} {rs rs' : List Res} (h : rs = rs') (hf : frS fr fr') : Ent E ⟨fr, rs⟩ ⟨fr', rs'⟩ := by
 subst h
 intro wf ν a w hG
 refine ⟨ν, hG.dfr, hG.size, fun t => ?_, hG.rg, hG.frm, hG.nu⟩
 rcases b2a hf t with e | e
 ·rw [e]; simp only [Den]
 ·rw [<- e]; exact hG.fr t
end Eng
def a1b {α : Type} (p : α -> Bool) (l : List α) : Int := match l.findIdx? p with | some i => i | none => -1
theorem a3o {α : Type} {p : α -> Bool} {l : List α} {i : Nat} {x : α} (h : l[i]? = some x) (hp : p x = true) (hm : ∀ j, j < i -> ∀ y, l[j]? = some y -> p y = false) : a1b p l = i := by
 obtain ⟨hi, rfl⟩ := List.getElem?_eq_some_iff.1 h
 have : l.findIdx? p = some i := by
  rw [List.findIdx?_eq_some_iff_getElem]
  refine ⟨hi, hp, fun j hj => ?_⟩
  simp [hm j hj l[j] (List.getElem?_eq_getElem _)]
 unfold a1b
 rw [this]
theorem a2B {α : Type} {p : α -> Bool} {l : List α} (hm : ∀ j, j < l.length -> ∀ y, l[j]? = some y -> p y = false) : a1b p l = -1 := by
 have : l.findIdx? p = none := by
  rw [List.findIdx?_eq_none_iff]
  intro x hx
  obtain ⟨j, hj⟩ := List.mem_iff_getElem?.1 hx
  exact hm j (List.getElem?_eq_some_iff.1 hj).1 x hj
 unfold a1b
 rw [this]
theorem a3l {α : Type} (p : α -> Bool) (l : List α) : decide (0 <= a1b p l) = l.any p := by
 unfold a1b
 cases h : l.findIdx? p with
 | none =>
  rw [List.findIdx?_eq_none_iff] at h
  have : l.any p = false := by rw [List.any_eq_false]; intro x hx; simp [h x hx]
  rw [this]; rfl
 | some i =>
  rw [List.findIdx?_eq_some_iff_getElem] at h
  obtain ⟨h1, h2, _⟩ := h
  have : l.any p = true := by rw [List.any_eq_true]; exact ⟨_, List.getElem_mem h1, h2⟩
  rw [this]
  exact decide_eq_true (show (0 : Int) <= (i : Int) by omega)
theorem b9u (g : Nat) (hcal : callable Tryz.prog g = true) (p : Vt -> Bool) (l : List Vt) (hn : l.length <= 1099511627776) (hg : ∀ x ∈ l, FZ g [x.c] (.v (.bool (p x)))) :
  FZ 210 [vts l, .v (.func (.func g) #[] #[])] (ints (a1b p l)) := by
 refine l8.of a0T a0R (by exact Nat.le_of_ble_eq_true rfl) fun w O hw => ?_
 simp only [R4, l5, TT, II, OA, OB, OC, MM, LL, VV, FF, MG, LG, VG, FG, vts]
 (repeat first | refine uA ?_ | (apply S.exit; exact rfl) | (refine uK ?_ ?_; focus first | omega | trivial | exact id | (intros; simp_all <;> omega)) | simp (disch := omega) only [go_sem, Nat.reduceBEq, Nat.reduceAdd, Nat.reduceLeDiff, Int.reduceToNat, Int.reducePow, ww, List.length_map])
 refine S.loop (X := Nat) (fun i => ⟨[(0, vts l), (1, .v (.func (.func g) #[] #[])), (7, ints l.length), (8, ints i)], []⟩) (fun i => i <= l.length /\ ∀ j, j < i -> ∀ x, l[j]? = some x -> p x = false) (fun i => l.length - i) 0 ⟨Nat.zero_le _, fun _ h => absurd h (Nat.not_lt_zero _)⟩ (by (repeat first | refine uA ?_ | (refine ⟨?_, ?_⟩; focus first | rfl | trivial | (simp [slot]; done)) | rfl | trivial | simp)) ?_
 rintro i ⟨hi, hm⟩
 simp only [vts, ints]
 (repeat first | refine uA ?_ | (apply S.exit; exact rfl) | (refine uK ?_ ?_; focus first | omega | trivial | exact id | (intros; simp_all <;> omega)) | simp (disch := omega) only [go_sem, Nat.reduceBEq, Nat.reduceAdd, Nat.reduceLeDiff, Int.reduceToNat, Int.reducePow, ww])
 (refine uJ rfl (fun hc => ?_) fun hc => ?_)
 ·have hi' : i < l.length := by omega
  have hgi := List.getElem?_eq_getElem hi'
  generalize l[i] = x at hgi
  have hs := hg x (List.mem_of_getElem? hgi)
  simp only [Vt.c, Vt.enc, sb] at hs
  (repeat first | refine uA ?_ | (apply S.exit; exact rfl) | (refine uK ?_ ?_; focus first | omega | trivial | exact id | (intros; simp_all <;> omega)) | simp (disch := omega) only [go_sem, Nat.reduceBEq, Nat.reduceAdd, Nat.reduceLeDiff, Int.reduceToNat, Int.reducePow, ww, hgi, Option.map_some, List.length_map, Vt.c, Vt.enc, sb, Int.toNat_natCast, hcal] | (refine uD hs ?_ ?_ ?_; exact tz hw; exact rfl))
  refine S.cond rfl (fun hc2 => ?_) (fun hc2 => ?_)
  ·rw [a3o hgi hc2 hm]
   (repeat first | refine uA ?_ | (apply S.exit; exact rfl) | (refine uK ?_ ?_; focus first | omega | trivial | exact id | (intros; simp_all <;> omega)) | simp (disch := omega) only [go_sem, Nat.reduceBEq, Nat.reduceAdd, Nat.reduceLeDiff, Int.reduceToNat, Int.reducePow, ww])
   exact S.done (d9.out rfl (Imp.refl rfl) rfl)
  ·(repeat first | refine uA ?_ | (apply S.exit; exact rfl) | (refine uK ?_ ?_; focus first | omega | trivial | exact id | (intros; simp_all <;> omega)) | simp (disch := omega) only [go_sem, Nat.reduceBEq, Nat.reduceAdd, Nat.reduceLeDiff, Int.reduceToNat, Int.reducePow, ww])
   refine S.next (i + 1) ⟨by omega, fun j hj y hy => ?_⟩ (by omega) (by (repeat first | refine uA ?_ | (refine ⟨?_, ?_⟩; focus first | rfl | trivial | (simp [slot]; done)) | rfl | trivial | simp))
   rcases Nat.lt_or_ge j i with h1 | h1
   ·exact hm j h1 y hy
   ·have : j = i := by omega
    subst this
    rw [hgi] at hy
    cases hy
    exact hc2
 ·have hi' : i = l.length := by omega
  subst hi'
  rw [a2B hm]
  (repeat first | refine uA ?_ | (apply S.exit; exact rfl) | (refine uK ?_ ?_; focus first | omega | trivial | exact id | (intros; simp_all <;> omega)) | simp (disch := omega) only [go_sem, Nat.reduceBEq, Nat.reduceAdd, Nat.reduceLeDiff, Int.reduceToNat, Int.reducePow, ww])
  exact S.done (d9.out rfl (Imp.refl rfl) rfl)
theorem b2Y (g : Nat) (hcal : callable Tryz.prog g = true) (p : Vt -> Bool) (l : List Vt) (hn : l.length <= 1099511627776) (hg : ∀ x ∈ l, FZ g [x.c] (.v (.bool (p x)))) :
  FZ 137 [vts l, .v (.func (.func g) #[] #[])] (.v (.bool (l.any p))) := by
 refine l8.of a0v a0y (by exact Nat.le_of_ble_eq_true rfl) fun w O hw => ?_
 have h := b9u g hcal p l hn hg
 have e := a3l p l
 generalize a1b p l = n at *
 simp only [O8, l5, TT, II, OA, OB, OC, MM, LL, VV, FF, MG, LG, VG, FG]
 simp only [vts, ints] at *
 (repeat first | refine uA ?_ | (apply S.exit; exact rfl) | (refine uK ?_ ?_; focus first | omega | trivial | exact id | (intros; simp_all <;> omega)) | simp (disch := omega) only [go_sem, Nat.reduceBEq, Nat.reduceAdd, Nat.reduceLeDiff, Int.reduceToNat, Int.reducePow, ww] | (refine uD h ?_ ?_ ?_; exact tz hw; exact rfl))
 rw [e]
 exact S.done (d9.out rfl (Imp.refl rfl) rfl)
theorem b9c (g : Nat) (hcal : callable Tryz.prog g = true) (p : Nm.Rt -> Bool) (l : List Nm.Rt) (hn : l.length <= 1099511627776) (hg : ∀ x ∈ l, FZ g [rc x] (.v (.bool (p x)))) :
  FZ 152 [rts l, .v (.func (.func g) #[] #[])] (ints (a1b p l)) := by
 refine l8.of a0U a0W (by exact Nat.le_of_ble_eq_true rfl) fun w O hw => ?_
 simp only [R5, l5, TT, II, OA, OB, OC, MM, LL, VV, FF, MG, LG, VG, FG, rts]
 (repeat first | refine uA ?_ | (apply S.exit; exact rfl) | (refine uK ?_ ?_; focus first | omega | trivial | exact id | (intros; simp_all <;> omega)) | simp (disch := omega) only [go_sem, Nat.reduceBEq, Nat.reduceAdd, Nat.reduceLeDiff, Int.reduceToNat, Int.reducePow, ww, List.length_map])
 refine S.loop (X := Nat) (fun i => ⟨[(0, rts l), (1, .v (.func (.func g) #[] #[])), (7, ints l.length), (8, ints i)], []⟩) (fun i => i <= l.length /\ ∀ j, j < i -> ∀ x, l[j]? = some x -> p x = false) (fun i => l.length - i) 0 ⟨Nat.zero_le _, fun _ h => absurd h (Nat.not_lt_zero _)⟩ (by (repeat first | refine uA ?_ | (refine ⟨?_, ?_⟩; focus first | rfl | trivial | (simp [slot]; done)) | rfl | trivial | simp)) ?_
 rintro i ⟨hi, hm⟩
 simp only [rts, ints]
 (repeat first | refine uA ?_ | (apply S.exit; exact rfl) | (refine uK ?_ ?_; focus first | omega | trivial | exact id | (intros; simp_all <;> omega)) | simp (disch := omega) only [go_sem, Nat.reduceBEq, Nat.reduceAdd, Nat.reduceLeDiff, Int.reduceToNat, Int.reducePow, ww])
 (refine uJ rfl (fun hc => ?_) fun hc => ?_)
 ·have hi' : i < l.length := by omega
  have hgi := List.getElem?_eq_getElem hi'
  generalize l[i] = x at hgi
  have hs := hg x (List.mem_of_getElem? hgi)
  simp only [rc, rcs, sb] at hs
  (repeat first | refine uA ?_ | (apply S.exit; exact rfl) | (refine uK ?_ ?_; focus first | omega | trivial | exact id | (intros; simp_all <;> omega)) | simp (disch := omega) only [go_sem, Nat.reduceBEq, Nat.reduceAdd, Nat.reduceLeDiff, Int.reduceToNat, Int.reducePow, ww, hgi, Option.map_some, List.length_map, rc, rcs, sb, Int.toNat_natCast, hcal] | (refine uD hs ?_ ?_ ?_; exact tz hw; exact rfl))
  refine S.cond rfl (fun hc2 => ?_) (fun hc2 => ?_)
  ·rw [a3o hgi hc2 hm]
   (repeat first | refine uA ?_ | (apply S.exit; exact rfl) | (refine uK ?_ ?_; focus first | omega | trivial | exact id | (intros; simp_all <;> omega)) | simp (disch := omega) only [go_sem, Nat.reduceBEq, Nat.reduceAdd, Nat.reduceLeDiff, Int.reduceToNat, Int.reducePow, ww])
   exact S.done (d9.out rfl (Imp.refl rfl) rfl)
  ·(repeat first | refine uA ?_ | (apply S.exit; exact rfl) | (refine uK ?_ ?_; focus first | omega | trivial | exact id | (intros; simp_all <;> omega)) | simp (disch := omega) only [go_sem, Nat.reduceBEq, Nat.reduceAdd, Nat.reduceLeDiff, Int.reduceToNat, Int.reducePow, ww])
   refine S.next (i + 1) ⟨by omega, fun j hj y hy => ?_⟩ (by omega) (by (repeat first | refine uA ?_ | (refine ⟨?_, ?_⟩; focus first | rfl | trivial | (simp [slot]; done)) | rfl | trivial | simp))
   rcases Nat.lt_or_ge j i with h1 | h1
   ·exact hm j h1 y hy
   ·have : j = i := by omega
    subst this
    rw [hgi] at hy
    cases hy
    exact hc2
 ·have hi' : i = l.length := by omega
  subst hi'
  rw [a2B hm]
  (repeat first | refine uA ?_ | (apply S.exit; exact rfl) | (refine uK ?_ ?_; focus first | omega | trivial | exact id | (intros; simp_all <;> omega)) | simp (disch := omega) only [go_sem, Nat.reduceBEq, Nat.reduceAdd, Nat.reduceLeDiff, Int.reduceToNat, Int.reducePow, ww])
  exact S.done (d9.out rfl (Imp.refl rfl) rfl)
theorem b9J (g : Nat) (hcal : callable Tryz.prog g = true) (p : Nm.Rt -> Bool) (l : List Nm.Rt) (hn : l.length <= 1099511627776) (hg : ∀ x ∈ l, FZ g [rc x] (.v (.bool (p x)))) :
  FZ 44 [rts l, .v (.func (.func g) #[] #[])] (.v (.bool (l.any p))) := by
 refine l8.of a0w a0u (by exact Nat.le_of_ble_eq_true rfl) fun w O hw => ?_
 have h := b9c g hcal p l hn hg
 have e := a3l p l
 generalize a1b p l = n at *
 simp only [O9, l5, TT, II, OA, OB, OC, MM, LL, VV, FF, MG, LG, VG, FG]
 simp only [rts, ints] at *
 (repeat first | refine uA ?_ | (apply S.exit; exact rfl) | (refine uK ?_ ?_; focus first | omega | trivial | exact id | (intros; simp_all <;> omega)) | simp (disch := omega) only [go_sem, Nat.reduceBEq, Nat.reduceAdd, Nat.reduceLeDiff, Int.reduceToNat, Int.reducePow, ww] | (refine uD h ?_ ?_ ?_; exact tz hw; exact rfl))
 rw [e]
 exact S.done (d9.out rfl (Imp.refl rfl) rfl)
theorem b6I (g : Nat) (hcal : callable Tryz.prog g = true) (p : Fr -> Bool) (l : List Fr) (hn : l.length <= 1099511627776) (hg : ∀ x ∈ l, FZ g [x.c] (.v (.bool (p x)))) :
  FZ 209 [frs l, .v (.func (.func g) #[] #[])] (ints (a1b p l)) := by
 refine l8.of a0s a0r (by exact Nat.le_of_ble_eq_true rfl) fun w O hw => ?_
 simp only [O5, l5, TT, II, OA, OB, OC, MM, LL, VV, FF, MG, LG, VG, FG, frs]
 (repeat first | refine uA ?_ | (apply S.exit; exact rfl) | (refine uK ?_ ?_; focus first | omega | trivial | exact id | (intros; simp_all <;> omega)) | simp (disch := omega) only [go_sem, Nat.reduceBEq, Nat.reduceAdd, Nat.reduceLeDiff, Int.reduceToNat, Int.reducePow, ww, List.length_map])
 refine S.loop (X := Nat) (fun i => ⟨[(0, frs l), (1, .v (.func (.func g) #[] #[])), (7, ints l.length), (8, ints i)], []⟩) (fun i => i <= l.length /\ ∀ j, j < i -> ∀ x, l[j]? = some x -> p x = false) (fun i => l.length - i) 0 ⟨Nat.zero_le _, fun _ h => absurd h (Nat.not_lt_zero _)⟩ (by (repeat first | refine uA ?_ | (refine ⟨?_, ?_⟩; focus first | rfl | trivial | (simp [slot]; done)) | rfl | trivial | simp)) ?_
 rintro i ⟨hi, hm⟩
 simp only [frs, ints]
 (repeat first | refine uA ?_ | (apply S.exit; exact rfl) | (refine uK ?_ ?_; focus first | omega | trivial | exact id | (intros; simp_all <;> omega)) | simp (disch := omega) only [go_sem, Nat.reduceBEq, Nat.reduceAdd, Nat.reduceLeDiff, Int.reduceToNat, Int.reducePow, ww])
 (refine uJ rfl (fun hc => ?_) fun hc => ?_)
 ·have hi' : i < l.length := by omega
  have hgi := List.getElem?_eq_getElem hi'
  generalize l[i] = x at hgi
  have hs := hg x (List.mem_of_getElem? hgi)
  simp only [Fr.c, Fr.enc, sb] at hs
  (repeat first | refine uA ?_ | (apply S.exit; exact rfl) | (refine uK ?_ ?_; focus first | omega | trivial | exact id | (intros; simp_all <;> omega)) | simp (disch := omega) only [go_sem, Nat.reduceBEq, Nat.reduceAdd, Nat.reduceLeDiff, Int.reduceToNat, Int.reducePow, ww, hgi, Option.map_some, List.length_map, Fr.c, Fr.enc, sb, Int.toNat_natCast, hcal] | (refine uD hs ?_ ?_ ?_; exact tz hw; exact rfl))
  refine S.cond rfl (fun hc2 => ?_) (fun hc2 => ?_)
  ·rw [a3o hgi hc2 hm]
   (repeat first | refine uA ?_ | (apply S.exit; exact rfl) | (refine uK ?_ ?_; focus first | omega | trivial | exact id | (intros; simp_all <;> omega)) | simp (disch := omega) only [go_sem, Nat.reduceBEq, Nat.reduceAdd, Nat.reduceLeDiff, Int.reduceToNat, Int.reducePow, ww])
   exact S.done (d9.out rfl (Imp.refl rfl) rfl)
  ·(repeat first | refine uA ?_ | (apply S.exit; exact rfl) | (refine uK ?_ ?_; focus first | omega | trivial | exact id | (intros; simp_all <;> omega)) | simp (disch := omega) only [go_sem, Nat.reduceBEq, Nat.reduceAdd, Nat.reduceLeDiff, Int.reduceToNat, Int.reducePow, ww])
   refine S.next (i + 1) ⟨by omega, fun j hj y hy => ?_⟩ (by omega) (by (repeat first | refine uA ?_ | (refine ⟨?_, ?_⟩; focus first | rfl | trivial | (simp [slot]; done)) | rfl | trivial | simp))
   rcases Nat.lt_or_ge j i with h1 | h1
   ·exact hm j h1 y hy
   ·have : j = i := by omega
    subst this
    rw [hgi] at hy
    cases hy
    exact hc2
 ·have hi' : i = l.length := by omega
  subst hi'
  rw [a2B hm]
  (repeat first | refine uA ?_ | (apply S.exit; exact rfl) | (refine uK ?_ ?_; focus first | omega | trivial | exact id | (intros; simp_all <;> omega)) | simp (disch := omega) only [go_sem, Nat.reduceBEq, Nat.reduceAdd, Nat.reduceLeDiff, Int.reduceToNat, Int.reducePow, ww])
  exact S.done (d9.out rfl (Imp.refl rfl) rfl)
theorem b5X (g : Nat) (hcal : callable Tryz.prog g = true) (p : Fr -> Bool) (l : List Fr) (hn : l.length <= 1099511627776) (hg : ∀ x ∈ l, FZ g [x.c] (.v (.bool (p x)))) :
  FZ 134 [frs l, .v (.func (.func g) #[] #[])] (.v (.bool (l.any p))) := by
 refine l8.of a0d a0e (by exact Nat.le_of_ble_eq_true rfl) fun w O hw => ?_
 have h := b6I g hcal p l hn hg
 have e := a3l p l
 generalize a1b p l = n at *
 simp only [M4, l5, TT, II, OA, OB, OC, MM, LL, VV, FF, MG, LG, VG, FG]
 simp only [frs, ints] at *
 (repeat first | refine uA ?_ | (apply S.exit; exact rfl) | (refine uK ?_ ?_; focus first | omega | trivial | exact id | (intros; simp_all <;> omega)) | simp (disch := omega) only [go_sem, Nat.reduceBEq, Nat.reduceAdd, Nat.reduceLeDiff, Int.reduceToNat, Int.reducePow, ww] | (refine uD h ?_ ?_ ?_; exact tz hw; exact rfl))
 rw [e]
 exact S.done (d9.out rfl (Imp.refl rfl) rfl)
set_option maxHeartbeats 8000000
theorem b9L {α : Type} (p : α -> Bool) (a b c d e : α) : [a, b, c, d, e].all p = (p a && p b && p c && p d && p e) := by simp [Bool.and_assoc]
theorem a3S {α : Type} (p : α -> Bool) (a b c : α) : [a, b, c].all p = (p a && p b && p c) := by simp [Bool.and_assoc]
theorem a5c {α : Type} (p : α -> Bool) (a b : α) : [a, b].all p = (p a && p b) := by simp
theorem Rbs.five {k : Nat} {a b c d e : Nm.Rt} (h : 5 <= k) (h1 : Rb k a) (h2 : Rb k b) (h3 : Rb k c) (h4 : Rb k d) (h5 : Rb k e) : Rbs k [a, b, c, d, e] := ⟨h, fun x hx => by simp at hx; rcases hx with rfl | rfl | rfl | rfl | rfl <;> assumption⟩
theorem Rbs.three {k : Nat} {a b c : Nm.Rt} (h : 3 <= k) (h1 : Rb k a) (h2 : Rb k b) (h3 : Rb k c) : Rbs k [a, b, c] := ⟨h, fun x hx => by simp at hx; rcases hx with rfl | rfl | rfl <;> assumption⟩
theorem Rbs.two {k : Nat} {a b : Nm.Rt} (h : 2 <= k) (h1 : Rb k a) (h2 : Rb k b) : Rbs k [a, b] := ⟨h, fun x hx => by simp at hx; rcases hx with rfl | rfl <;> assumption⟩
theorem c1B (l : Lk) (hl : Lb 1073741824 l) : FZ 200 [l.c] (ints (a3O l)) := by
  refine l8.of b2t b3A (by exact Nat.le_of_ble_eq_true rfl) fun w O hw => ?_
  obtain ⟨length, low, high, speed, brake, shape⟩ := l
  obtain ⟨b1, b2, b3, b4, b5, b6⟩ := hl
  simp only at b1 b2 b3 b4 b5 b6
  have c1 := b1.mono (m := 17179869184) (by decide)
  have c2 := b2.mono (m := 17179869184) (by decide)
  have c3 := b3.mono (m := 17179869184) (by decide)
  have c4 := b4.mono (m := 17179869184) (by decide)
  have c5 := b5.mono (m := 17179869184) (by decide)
  have hsm := a8g _ (Rbs.five (by decide) c1 c2 c3 c4 c5)
  rw [b9L] at hsm
  have hs1 := U5 length c1
  have hcm := Q8 low high c2 c3
  have hs2 := U5 speed c4
  have hs3 := U5 brake c5
  have hp := a4l shape b6
  have hv := fun (v : Vt) (h : v ∈ shape) => a8g _ (Rbs.two (by decide) ((b6.2 v h).1.mono (m := 17179869184) (by decide)) ((b6.2 v h).2.mono (m := 17179869184) (by decide)))
  have hn := b6.1
  unfold a3O
  simp only
  generalize (o8 length && o8 low && o8 high && o8 speed && o8 brake) = q at *
  generalize E9 (Nm.j3 length) = n1 at *
  generalize Nm.A9 (Nm.j3 low) (Nm.j3 high) = n2 at *
  generalize E9 (Nm.j3 speed) = n3 at *
  generalize E9 (Nm.j3 brake) = n4 at *
  generalize W9 shape 8 = n5 at *
  simp only [a6v, l5, TT, II, OA, OB, OC, MM, LL, VV, FF, MG, LG, VG, FG]
  simp only [Lk.c, Lk.enc, rc, rts, rcs, vts, sb, ints, List.map_cons, List.map_nil] at *
  (repeat first | refine uG hs1 ?_ | refine uG hcm ?_ | refine uG hsm ?_ | refine uA ?_ | (apply S.exit; exact rfl) | (refine uK ?_ ?_; focus first | omega | trivial | exact id | (intros; simp_all <;> omega)) | simp (disch := omega) only [go_sem, Nat.reduceBEq, Nat.reduceAdd, Nat.reduceLeDiff, Int.reduceToNat, Int.reducePow, ww] | (refine uD hs1 ?_ ?_ ?_; exact tz hw; exact rfl) | (refine uD hcm ?_ ?_ ?_; exact tz hw; exact rfl) | (refine uE hsm ?_ ?_ ?_ ?_; exact tz hw; exact rfl; focus (repeat' first | exact l6.nil | exact Imp.refl rfl | exact Imp.frz rfl rfl rfl | (refine Imp.I8 rfl rfl ?_ ?_; (focus ((try simp only [List.length_append]); omega)); (focus first | rfl | assumption)) | refine l6.cons ?_ ?_); done))
  refine S.cond rfl (fun hc => ?_) (fun hc => ?_)
  · rw [if_pos (by simp only [Bool.or_eq_true, Bool.not_eq_true', decide_eq_true_eq] at hc; rcases hc with (hc | hc) | hc <;> simp [hc])]
    (repeat first | refine uA ?_ | (apply S.exit; exact rfl) | (refine uK ?_ ?_; focus first | omega | trivial | exact id | (intros; simp_all <;> omega)) | simp (disch := omega) only [go_sem, Nat.reduceBEq, Nat.reduceAdd, Nat.reduceLeDiff, Int.reduceToNat, Int.reducePow, ww])
    exact S.done (d9.out rfl (Imp.refl rfl) rfl)
  rw [if_neg (by simp only [Bool.or_eq_false_iff, Bool.not_eq_false', decide_eq_false_iff_not] at hc; simp [hc])]
  (repeat first | refine uG hs2 ?_ | refine uG hs3 ?_ | refine uA ?_ | (apply S.exit; exact rfl) | (refine uK ?_ ?_; focus first | omega | trivial | exact id | (intros; simp_all <;> omega)) | simp (disch := omega) only [go_sem, Nat.reduceBEq, Nat.reduceAdd, Nat.reduceLeDiff, Int.reduceToNat, Int.reducePow, ww] | (refine uD hs2 ?_ ?_ ?_; exact tz hw; exact rfl) | (refine uD hs3 ?_ ?_ ?_; exact tz hw; exact rfl))
  refine S.cond rfl (fun hc => ?_) (fun hc => ?_)
  · rw [if_pos (by simp only [Bool.or_eq_true, decide_eq_true_eq] at hc; exact hc)]
    (repeat first | refine uA ?_ | (apply S.exit; exact rfl) | (refine uK ?_ ?_; focus first | omega | trivial | exact id | (intros; simp_all <;> omega)) | simp (disch := omega) only [go_sem, Nat.reduceBEq, Nat.reduceAdd, Nat.reduceLeDiff, Int.reduceToNat, Int.reducePow, ww])
    exact S.done (d9.out rfl (Imp.refl rfl) rfl)
  rw [if_neg (by simp only [Bool.or_eq_false_iff, decide_eq_false_iff_not] at hc; simp [hc])]
  (repeat first | refine uG hp ?_ | refine uA ?_ | (apply S.exit; exact rfl) | (refine uK ?_ ?_; focus first | omega | trivial | exact id | (intros; simp_all <;> omega)) | simp (disch := omega) only [go_sem, Nat.reduceBEq, Nat.reduceAdd, Nat.reduceLeDiff, Int.reduceToNat, Int.reducePow, ww] | (refine uD hp ?_ ?_ ?_; exact tz hw; exact rfl))
  refine S.cond rfl (fun hc => ?_) (fun hc => ?_)
  · rw [if_pos (by simpa using hc)]
    (repeat first | refine uA ?_ | (apply S.exit; exact rfl) | (refine uK ?_ ?_; focus first | omega | trivial | exact id | (intros; simp_all <;> omega)) | simp (disch := omega) only [go_sem, Nat.reduceBEq, Nat.reduceAdd, Nat.reduceLeDiff, Int.reduceToNat, Int.reducePow, ww])
    exact S.done (d9.out rfl (Imp.refl rfl) rfl)
  rw [if_neg (by simpa using hc)]
  (repeat first | refine uA ?_ | (apply S.exit; exact rfl) | (refine uK ?_ ?_; focus first | omega | trivial | exact id | (intros; simp_all <;> omega)) | simp (disch := omega) only [go_sem, Nat.reduceBEq, Nat.reduceAdd, Nat.reduceLeDiff, Int.reduceToNat, Int.reducePow, ww, List.length_map])
  refine S.loop (X := Nat) (fun i => ⟨[(50, vts shape), (51, ints shape.length), (52, ints i)], []⟩) (fun i => i <= shape.length /\ (shape.all fun v => o8 v.x && o8 v.y) = (shape.drop i).all fun v => o8 v.x && o8 v.y) (fun i => shape.length - i) 0 ⟨Nat.zero_le _, rfl⟩ (by (repeat first | refine uA ?_ | (refine ⟨?_, ?_⟩; focus first | rfl | trivial | (simp [slot]; done)) | rfl | trivial | simp)) ?_
  rintro i ⟨hi, hg⟩
  simp only [vts, ints]
  (repeat first | refine uA ?_ | (apply S.exit; exact rfl) | (refine uK ?_ ?_; focus first | omega | trivial | exact id | (intros; simp_all <;> omega)) | simp (disch := omega) only [go_sem, Nat.reduceBEq, Nat.reduceAdd, Nat.reduceLeDiff, Int.reduceToNat, Int.reducePow, ww])
  (refine uJ rfl (fun hc => ?_) fun hc => ?_)
  · have hi' : i < shape.length := by omega
    have hgi := List.getElem?_eq_getElem hi'
    generalize shape[i] = x at hgi
    have hd := drop_at hgi
    have hs := hv x (List.mem_of_getElem? hgi)
    rw [a5c] at hs
    (repeat first | refine uG hs ?_ | refine uA ?_ | (apply S.exit; exact rfl) | (refine uK ?_ ?_; focus first | omega | trivial | exact id | (intros; simp_all <;> omega)) | simp (disch := omega) only [go_sem, Nat.reduceBEq, Nat.reduceAdd, Nat.reduceLeDiff, Int.reduceToNat, Int.reducePow, ww, hgi, Option.map_some, List.length_map, Vt.enc, sb] | (refine uE hs ?_ ?_ ?_ ?_; exact tz hw; exact rfl; focus (repeat' first | exact l6.nil | exact Imp.refl rfl | exact Imp.frz rfl rfl rfl | (refine Imp.I8 rfl rfl ?_ ?_; (focus ((try simp only [List.length_append, hgi, Option.map_some, List.length_map, Vt.enc, sb]); omega)); (focus first | rfl | assumption)) | refine l6.cons ?_ ?_); done))
    refine S.cond rfl (fun hc2 => ?_) (fun hc2 => ?_)
    · have : (shape.all fun v => o8 v.x && o8 v.y) = false := by
        rw [hg, hd, List.all_cons]
        simp only [Bool.not_eq_true'] at hc2
        rw [hc2]; rfl
      rw [this]
      (repeat first | refine uA ?_ | (apply S.exit; exact rfl) | (refine uK ?_ ?_; focus first | omega | trivial | exact id | (intros; simp_all <;> omega)) | simp (disch := omega) only [go_sem, Nat.reduceBEq, Nat.reduceAdd, Nat.reduceLeDiff, Int.reduceToNat, Int.reducePow, ww])
      exact S.done (d9.out rfl (Imp.refl rfl) rfl)
    · (repeat first | refine uA ?_ | (apply S.exit; exact rfl) | (refine uK ?_ ?_; focus first | omega | trivial | exact id | (intros; simp_all <;> omega)) | simp (disch := omega) only [go_sem, Nat.reduceBEq, Nat.reduceAdd, Nat.reduceLeDiff, Int.reduceToNat, Int.reducePow, ww])
      refine S.next (i + 1) ⟨by omega, ?_⟩ (by omega) (by (repeat first | refine uA ?_ | (refine ⟨?_, ?_⟩; focus first | rfl | trivial | (simp [slot]; done)) | rfl | trivial | simp))
      rw [hg, hd, List.all_cons]
      simp only [Bool.not_eq_false'] at hc2
      rw [hc2]; rfl
  · have : (shape.all fun v => o8 v.x && o8 v.y) = true := by rw [hg, List.drop_eq_nil_of_le (by omega)]; rfl
    rw [this]
    (repeat first | refine uA ?_ | (apply S.exit; exact rfl) | (refine uK ?_ ?_; focus first | omega | trivial | exact id | (intros; simp_all <;> omega)) | simp (disch := omega) only [go_sem, Nat.reduceBEq, Nat.reduceAdd, Nat.reduceLeDiff, Int.reduceToNat, Int.reducePow, ww])
    exact S.done (d9.out rfl (Imp.refl rfl) rfl)
theorem b3S (a : Am) (hl : Ab 1073741824 a) : FZ 87 [a.c] (ints (a1K a)) := by
 refine l8.of b2z b2Z (by exact Nat.le_of_ble_eq_true rfl) fun w O hw => ?_
 obtain ⟨name, ⟨x, y, half, t⟩, links⟩ := a
 obtain ⟨b0, ⟨b1, b2, b3⟩, hn, hb⟩ := hl
 simp only at b0 b1 b2 b3 hn hb
 have c1 := b1.mono (m := 17179869184) (by decide)
 have c2 := b2.mono (m := 17179869184) (by decide)
 have c3 := b3.mono (m := 17179869184) (by decide)
 have hnm := b9x name (by omega)
 have hsm := a8g _ (Rbs.three (by decide) c1 c2 c3)
 rw [a3S] at hsm
 have hs := U5 t c3
 unfold a1K a2t
 simp only
 generalize a0A name = q0 at *
 generalize (o8 x && o8 y && o8 t) = q at *
 generalize E9 (Nm.j3 t) = n1 at *
 simp only [a6H, l5, TT, II, OA, OB, OC, MM, LL, VV, FF, MG, LG, VG, FG]
 simp only [Am.c, Am.enc, rc, rts, rcs, lks, sb, ints, List.map_cons, List.map_nil] at *
 (repeat first | refine uF hnm ?_ | refine uA ?_ | (apply S.exit; exact rfl) | (refine uK ?_ ?_; focus first | omega | trivial | exact id | (intros; simp_all <;> omega)) | simp (disch := omega) only [go_sem, Nat.reduceBEq, Nat.reduceAdd, Nat.reduceLeDiff, Int.reduceToNat, Int.reducePow, ww] | (refine uB hnm ?_ ?_; exact rfl))
 refine S.cond rfl (fun hc => ?_) (fun hc => ?_)
 ·rw [if_pos (by simpa using hc)]
  (repeat first | refine uA ?_ | (apply S.exit; exact rfl) | (refine uK ?_ ?_; focus first | omega | trivial | exact id | (intros; simp_all <;> omega)) | simp (disch := omega) only [go_sem, Nat.reduceBEq, Nat.reduceAdd, Nat.reduceLeDiff, Int.reduceToNat, Int.reducePow, ww])
  exact S.done (d9.out rfl (Imp.refl rfl) rfl)
 rw [if_neg (by simpa using hc)]
 (repeat first | refine uA ?_ | (apply S.exit; exact rfl) | (refine uK ?_ ?_; focus first | omega | trivial | exact id | (intros; simp_all <;> omega)) | simp (disch := omega) only [go_sem, Nat.reduceBEq, Nat.reduceAdd, Nat.reduceLeDiff, Int.reduceToNat, Int.reducePow, ww, List.length_map])
 refine S.cond rfl (fun hc => ?_) (fun hc => ?_)
 ·rw [if_pos (by simp only [decide_eq_true_eq] at hc; omega)]
  (repeat first | refine uA ?_ | (apply S.exit; exact rfl) | (refine uK ?_ ?_; focus first | omega | trivial | exact id | (intros; simp_all <;> omega)) | simp (disch := omega) only [go_sem, Nat.reduceBEq, Nat.reduceAdd, Nat.reduceLeDiff, Int.reduceToNat, Int.reducePow, ww])
  exact S.done (d9.out rfl (Imp.refl rfl) rfl)
 rw [if_neg (by simp only [decide_eq_false_iff_not] at hc; omega)]
 by_cases h0 : links.length = 0
 ·rw [if_pos (.inl h0)]
  have e0 : decide ((links.length : Int) = 0) = true := decide_eq_true (by omega)
  (repeat first | refine uG hs ?_ | refine uG hsm ?_ | refine uA ?_ | (apply S.exit; exact rfl) | (refine uK ?_ ?_; focus first | omega | trivial | exact id | (intros; simp_all <;> omega)) | simp (disch := omega) only [go_sem, Nat.reduceBEq, Nat.reduceAdd, Nat.reduceLeDiff, Int.reduceToNat, Int.reducePow, ww, List.length_map, e0] | (refine uD hs ?_ ?_ ?_; exact tz hw; exact rfl) | (refine uE hsm ?_ ?_ ?_ ?_; exact tz hw; exact rfl; focus (repeat' first | exact l6.nil | exact Imp.refl rfl | exact Imp.frz rfl rfl rfl | (refine Imp.I8 rfl rfl ?_ ?_; (focus ((try simp only [List.length_append, List.length_map, e0]); omega)); (focus first | rfl | assumption)) | refine l6.cons ?_ ?_); done))
  refine S.cond rfl (fun _ => ?_) (fun hc => by simp at hc)
  (repeat first | refine uA ?_ | (apply S.exit; exact rfl) | (refine uK ?_ ?_; focus first | omega | trivial | exact id | (intros; simp_all <;> omega)) | simp (disch := omega) only [go_sem, Nat.reduceBEq, Nat.reduceAdd, Nat.reduceLeDiff, Int.reduceToNat, Int.reducePow, ww])
  exact S.done (d9.out rfl (Imp.refl rfl) rfl)
 have e0 : decide ((links.length : Int) = 0) = false := decide_eq_false (by omega)
 (repeat first | refine uG hs ?_ | refine uG hsm ?_ | refine uA ?_ | (apply S.exit; exact rfl) | (refine uK ?_ ?_; focus first | omega | trivial | exact id | (intros; simp_all <;> omega)) | simp (disch := omega) only [go_sem, Nat.reduceBEq, Nat.reduceAdd, Nat.reduceLeDiff, Int.reduceToNat, Int.reducePow, ww, List.length_map, e0] | (refine uD hs ?_ ?_ ?_; exact tz hw; exact rfl) | (refine uE hsm ?_ ?_ ?_ ?_; exact tz hw; exact rfl; focus (repeat' first | exact l6.nil | exact Imp.refl rfl | exact Imp.frz rfl rfl rfl | (refine Imp.I8 rfl rfl ?_ ?_; (focus ((try simp only [List.length_append, List.length_map, e0]); omega)); (focus first | rfl | assumption)) | refine l6.cons ?_ ?_); done))
 refine S.cond rfl (fun hc => ?_) (fun hc => ?_)
 ·rw [if_pos (by simp only [Bool.or_eq_true, Bool.not_eq_true', decide_eq_true_eq] at hc; rcases hc with hc | hc; (· exact .inr (.inl hc)); (· exact .inr (.inr (by cases half <;> simp_all))))]
  (repeat first | refine uA ?_ | (apply S.exit; exact rfl) | (refine uK ?_ ?_; focus first | omega | trivial | exact id | (intros; simp_all <;> omega)) | simp (disch := omega) only [go_sem, Nat.reduceBEq, Nat.reduceAdd, Nat.reduceLeDiff, Int.reduceToNat, Int.reducePow, ww])
  exact S.done (d9.out rfl (Imp.refl rfl) rfl)
 rw [if_neg (by simp only [Bool.or_eq_false_iff, Bool.not_eq_false', decide_eq_false_iff_not] at hc; rintro (h | h | h); (· omega); (· simp_all); (· cases half <;> simp_all))]
 (repeat first | refine uA ?_ | (apply S.exit; exact rfl) | (refine uK ?_ ?_; focus first | omega | trivial | exact id | (intros; simp_all <;> omega)) | simp (disch := omega) only [go_sem, Nat.reduceBEq, Nat.reduceAdd, Nat.reduceLeDiff, Int.reduceToNat, Int.reducePow, ww, List.length_map])
 refine S.loop (X := Nat) (fun i => ⟨[(48, lks links), (49, ints links.length), (50, ints i)], []⟩) (fun i => i <= links.length /\ D6 a3O links = D6 a3O (links.drop i)) (fun i => links.length - i) 0 ⟨Nat.zero_le _, rfl⟩ (by (repeat first | refine uA ?_ | (refine ⟨?_, ?_⟩; focus first | rfl | trivial | (simp [slot]; done)) | rfl | trivial | simp)) ?_
 rintro i ⟨hi, hg⟩
 simp only [lks, ints]
 (repeat first | refine uA ?_ | (apply S.exit; exact rfl) | (refine uK ?_ ?_; focus first | omega | trivial | exact id | (intros; simp_all <;> omega)) | simp (disch := omega) only [go_sem, Nat.reduceBEq, Nat.reduceAdd, Nat.reduceLeDiff, Int.reduceToNat, Int.reducePow, ww])
 (refine uJ rfl (fun hc => ?_) fun hc => ?_)
 ·have hi' : i < links.length := by omega
  have hgi := List.getElem?_eq_getElem hi'
  generalize links[i] = x at hgi
  have hst := P9 (f := a3O) hgi
  have hnx := P8 (f := a3O) hgi
  have hs := c1B x (hb x (List.mem_of_getElem? hgi))
  generalize a3O x = e at *
  simp only [Lk.c, Lk.enc, vts, sb, ints] at hs
  (repeat first | refine uG hs ?_ | refine uA ?_ | (apply S.exit; exact rfl) | (refine uK ?_ ?_; focus first | omega | trivial | exact id | (intros; simp_all <;> omega)) | simp (disch := omega) only [go_sem, Nat.reduceBEq, Nat.reduceAdd, Nat.reduceLeDiff, Int.reduceToNat, Int.reducePow, ww, hgi, Option.map_some, List.length_map, Lk.enc, vts, sb] | (refine uD hs ?_ ?_ ?_; exact tz hw; exact rfl))
  refine S.cond rfl (fun hc2 => ?_) (fun hc2 => ?_)
  ·rw [hg, hst (by simpa using hc2)]
   (repeat first | refine uA ?_ | (apply S.exit; exact rfl) | (refine uK ?_ ?_; focus first | omega | trivial | exact id | (intros; simp_all <;> omega)) | simp (disch := omega) only [go_sem, Nat.reduceBEq, Nat.reduceAdd, Nat.reduceLeDiff, Int.reduceToNat, Int.reducePow, ww])
   exact S.done (d9.out rfl (Imp.refl rfl) rfl)
  ·(repeat first | refine uA ?_ | (apply S.exit; exact rfl) | (refine uK ?_ ?_; focus first | omega | trivial | exact id | (intros; simp_all <;> omega)) | simp (disch := omega) only [go_sem, Nat.reduceBEq, Nat.reduceAdd, Nat.reduceLeDiff, Int.reduceToNat, Int.reducePow, ww])
   refine S.next (i + 1) ⟨by omega, ?_⟩ (by omega) (by (repeat first | refine uA ?_ | (refine ⟨?_, ?_⟩; focus first | rfl | trivial | (simp [slot]; done)) | rfl | trivial | simp))
   rw [hg, hnx (by simpa using hc2)]
 ·rw [hg, U2 (by omega)]
  (repeat first | refine uA ?_ | (apply S.exit; exact rfl) | (refine uK ?_ ?_; focus first | omega | trivial | exact id | (intros; simp_all <;> omega)) | simp (disch := omega) only [go_sem, Nat.reduceBEq, Nat.reduceAdd, Nat.reduceLeDiff, Int.reduceToNat, Int.reducePow, ww])
  exact S.done (d9.out rfl (Imp.refl rfl) rfl)
end Go.Proofs.YtogfpjohjphngaaGreatDoor
