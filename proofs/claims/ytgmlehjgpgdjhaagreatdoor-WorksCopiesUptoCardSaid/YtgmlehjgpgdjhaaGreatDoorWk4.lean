/- A part of the proof: lemmas only, with the conditions that each names. -/
import Derived.Test.YtgmlehjgpgdjhaaGreatDoorProg
import Derived.KernelRfl
import Derived.Test.YtgmlehjgpgdjhaaGreatDoorWk3
set_option linter.all false
namespace Go.Proofs.YtgmlehjgpgdjhaaGreatDoor
open Go Go.RowKit Eng
set_option maxRecDepth 10000
set_option maxHeartbeats 4000000
def ls (l : List Nat) : List (List C) := l.map lm
theorem q8 (l : List Nat) : (ls l).length = l.length := by simp [ls]
theorem H6 (l : List Nat) (i : Nat) : (ls l)[i]? = (l[i]?).map lm := by simp [ls]
theorem Q5 (l : List Nat) (i v : Nat) : (ls l).set i [.v (.int .u64 (v : Int))] = ls (l.set i v) := by
 simp only [ls, List.map_set, lm]
theorem b6N (n : Nat) : List.replicate n [C.v (.int .u64 0)] = ls (List.replicate n 0) := by simp [ls, lm]
theorem b7e (n : Nat) (h : n <= 1099511627776) : IntKind.i64.wrap (((n : Int) + 7).tdiv 8) = (((n + 7) / 8 : Nat) : Int) := by
 have : ((n : Int) + 7).tdiv 8 = (((n + 7) / 8 : Nat) : Int) := rfl
 rw [this, Eng.wrap_i64 (by omega)]
theorem b4n (i : Nat) (h : i <= 1099511627776) : IntKind.i64.wrap ((i : Int).tdiv 8) = ((i / 8 : Nat) : Int) := by
 have : (i : Int).tdiv 8 = ((i / 8 : Nat) : Int) := rfl
 rw [this, Eng.wrap_i64 (by omega)]
theorem a7F (i : Nat) : (i : Int).tmod 8 = ((i % 8 : Nat) : Int) := rfl
theorem a9b (o : Nat) (b : UInt8) (i : Nat) (ho : o < 18446744073709551616) (hb : b.toNat * 2 ^ (8 * (i % 8)) < 18446744073709551616) :
  bits .or .u64 (o : Int) (IntKind.u64.wrap (IntKind.u64.wrap ((b.toNat : Nat) : Int) * 2 ^ min (((i % 8 : Nat) : Int) * 8).toNat 64)) = ((o ||| b.toNat * 2 ^ (8 * (i % 8)) : Nat) : Int) := by
 have h0 := b.toNat_lt
 rw [Eng.wrap_u64 (n := ((b.toNat : Nat) : Int)) (by omega), show min (((i % 8 : Nat) : Int) * 8).toNat 64 = 8 * (i % 8) by omega]
 have e : ((b.toNat : Nat) : Int) * 2 ^ (8 * (i % 8)) = ((b.toNat * 2 ^ (8 * (i % 8)) : Nat) : Int) := by rw [Int.natCast_mul, Int.natCast_pow]; rfl
 rw [e, Eng.wrap_u64 (by omega), a8g _ _ ho hb]
namespace Nm
def J3 (l : List Nat) : Prop := ∀ w ∈ l, w < 18446744073709551616
theorem J3.take {l : List Nat} (h : J3 l) (n : Nat) : J3 (l.take n) := fun w hw => h w (List.mem_of_mem_take hw)
theorem J3.drop {l : List Nat} (h : J3 l) (n : Nat) : J3 (l.drop n) := fun w hw => h w (List.mem_of_mem_drop hw)
def M4 (l : List UInt8) : List Nat := dig 18446744073709551616 ((l.length + 7) / 8) (val l)
theorem a6A (l : List UInt8) : (M4 l).length = (l.length + 7) / 8 := H7 _ _ _
theorem a7V (l : List UInt8) : J3 (M4 l) := Z8 (by decide) _ _
theorem a7J (l : List UInt8) : wv 18446744073709551616 (M4 l) = val l := P5 (by
 refine c0e (R4 l) ?_
 rw [show (18446744073709551616 : Nat) = 256 ^ 8 by decide, <- Nat.pow_mul]
 exact c0i (by decide) (by omega))
theorem a8x {l : List UInt8} {out : List Nat} (h : a1x l l.length out) : out = M4 l := by
 obtain ⟨h1, h2, h3, _⟩ := h
 exact P9 (by decide) h2 h1 (by rw [h3, Nat.sub_self, List.drop_zero])
end Nm
theorem b3m (m : List UInt8) (hm : m.length <= 1099511627776) : FNew Tryz.prog 147 [sb m] 184 1 (ls (Nm.M4 m)) := by
 refine FNew.of b0T b1N (by exact c0d rfl) fun w O => ?_
 simp only [a5j, l9, TT, II, OA, OB, OC, MM, LL, VV, FF, MG, LG, VG, FG, sb]
 (repeat first | refine uA ?_ | (refine uK ?_ ?_; focus first | omega | trivial | (intro h; rw [h]; rfl) | (intro h h2; rw [h, h2]; rfl) | (intro h; (try simp at h); omega) | (intros; simp_all <;> omega)) | simp only [go_sem, Nat.reduceBEq, Nat.reduceAdd, Nat.reduceLeDiff, Int.reduceToNat, Int.reducePow, D6, b7e m.length hm] | simp (disch := omega) only [ww, D6, b7e m.length hm])
 refine S.loop (X := Nat × List Nat) (fun x => ⟨[(0, sb m), (3, .rv 0), (11, ints m.length), (12, ints x.1)], [.row 184 1 (ls x.2)]⟩) (fun x => x.1 <= m.length /\ Nm.a1x m x.1 x.2) (fun x => m.length - x.1) (0, List.replicate ((m.length + 7) / 8) 0) ⟨b9M _, Nm.a7I m⟩ (by simp only [<- b6N]; exact (by (repeat first | refine uA ?_ | (refine ⟨?_, ?_⟩; focus first | rfl | trivial | (simp [slot]; done)) | rfl | trivial | simp))) ?_
 rintro ⟨i, out⟩ ⟨hi, hinv⟩
 simp only [sb, ints] at hi hinv ⊢
 (repeat first | refine uA ?_ | (refine uK ?_ ?_; focus first | omega | trivial | (intro h; rw [h]; rfl) | (intro h h2; rw [h, h2]; rfl) | (intro h; (try simp at h); omega) | (intros; simp_all <;> omega)) | simp only [go_sem, Nat.reduceBEq, Nat.reduceAdd, Nat.reduceLeDiff, Int.reduceToNat, Int.reducePow] | simp (disch := omega) only [ww])
 (refine uJ rfl (fun hc => ?_) fun hc => ?_)
 ·have hi' : i < m.length := by omega
  have hol := hinv.1
  have hj : i / 8 < out.length := by omega
  obtain ⟨hst, hlt, hbl⟩ := Nm.a7R hinv hi' hj
  have hgo : out[i / 8]? = some out[i / 8] := b9I hj
  have ho32 := hinv.2.1 _ (b9S hj)
  have hgm : m.getD ((m.length : Int) - 1 - (i : Int)).toNat 0 = m[m.length - 1 - i] := by
   rw [show ((m.length : Int) - 1 - (i : Int)).toNat = m.length - 1 - i by omega, b9Q, b9I (by omega)]
   rfl
  (repeat first | refine uA ?_ | (refine uK ?_ ?_; focus first | omega | trivial | (intro h; rw [h]; rfl) | (intro h h2; rw [h, h2]; rfl) | (intro h; (try simp at h); omega) | (intros; simp_all <;> omega)) | simp only [go_sem, Nat.reduceBEq, Nat.reduceAdd, Nat.reduceLeDiff, Int.reduceToNat, Int.reducePow, D6, N7, q8, H6, hgo, b9J, hgm, b4n i (by omega), a7F, lm, a9b _ _ _ ho32 hbl, Q5] | simp (disch := omega) only [ww, D6, N7, q8, H6, hgo, b9J, hgm, b4n i (by omega), a7F, lm, a9b _ _ _ ho32 hbl, Q5])
  refine S.next (x := (i, out)) (i + 1, _) ⟨hi', hst⟩ (by simp only; omega) (by (repeat first | refine uA ?_ | (refine ⟨?_, ?_⟩; focus first | rfl | trivial | (simp [slot]; done)) | rfl | trivial | simp))
 ·have hi' : i = m.length := by omega
  subst hi'
  (repeat first | refine uA ?_ | (refine uK ?_ ?_; focus first | omega | trivial | (intro h; rw [h]; rfl) | (intro h h2; rw [h, h2]; rfl) | (intro h; (try simp at h); omega) | (intros; simp_all <;> omega)) | simp only [go_sem, Nat.reduceBEq, Nat.reduceAdd, Nat.reduceLeDiff, Int.reduceToNat, Int.reducePow] | simp (disch := omega) only [ww])
  rw [<- Nm.a8x hinv]
  exact S.done (d9.new rfl rfl rfl)
theorem b1J (x y : Nat) (hx : x < 18446744073709551616) (hy : y < 18446744073709551616) : F3 Tryz.prog 135 [.v (.int .u64 (x : Int)), .v (.int .u64 (y : Int))] (.v (.int .u64 (Nat.gcd x y : Int))) := by
 refine kS Tryz.func135 (by cbv) (by rfl) fun w O => ?_
 simp only [l9]
 (repeat first | refine uA ?_ | (refine uK ?_ ?_; focus first | omega | trivial | (intro h; rw [h]; rfl) | (intro h h2; rw [h, h2]; rfl) | (intro h; (try simp at h); omega) | (intros; simp_all <;> omega)) | simp only [go_sem, Nat.reduceBEq, Nat.reduceAdd, Nat.reduceLeDiff, Int.reduceToNat, Int.reducePow] | simp (disch := omega) only [ww])
 refine S.loop (X := Nat × Nat) (fun s => ⟨[(0, .v (.int .u64 (s.1 : Int))), (1, .v (.int .u64 (s.2 : Int)))], []⟩) (fun s => Nat.gcd s.1 s.2 = Nat.gcd x y /\ s.2 < 18446744073709551616) (fun s => s.2) (x, y) ⟨rfl, hy⟩ (by (repeat first | refine uA ?_ | (refine ⟨?_, ?_⟩; focus first | rfl | trivial | (simp [slot]; done)) | rfl | trivial | simp)) ?_
 rintro ⟨a, b⟩ ⟨h1, h2⟩
 simp only at h1 h2 ⊢
 (repeat first | refine uA ?_ | (refine uK ?_ ?_; focus first | omega | trivial | (intro h; rw [h]; rfl) | (intro h h2; rw [h, h2]; rfl) | (intro h; (try simp at h); omega) | (intros; simp_all <;> omega)) | simp only [go_sem, Nat.reduceBEq, Nat.reduceAdd, Nat.reduceLeDiff, Int.reduceToNat, Int.reducePow] | simp (disch := omega) only [ww])
 (refine uJ rfl (fun hc => ?_) fun hc => ?_)
 ·have hr : Int.tmod (a : Int) (b : Int) = ((a % b : Nat) : Int) := rfl
  have hlt : a % b < b := Nat.mod_lt _ (by omega)
  (repeat first | refine uA ?_ | (refine uK ?_ ?_; focus first | omega | trivial | (intro h; rw [h]; rfl) | (intro h h2; rw [h, h2]; rfl) | (intro h; (try simp at h); omega) | (intros; simp_all <;> omega)) | simp only [go_sem, Nat.reduceBEq, Nat.reduceAdd, Nat.reduceLeDiff, Int.reduceToNat, Int.reducePow, hr] | simp (disch := omega) only [ww, hr])
  refine S.next (x := (a, b)) (b, a % b) ⟨by rw [<- h1]; simp only; rw [Nat.gcd_comm b, <- Nat.gcd_rec, Nat.gcd_comm], by simp only; omega⟩ (by simp only; omega) (by (repeat first | refine uA ?_ | (refine ⟨?_, ?_⟩; focus first | rfl | trivial | (simp [slot]; done)) | rfl | trivial | simp))
 ·have hb : b = 0 := by omega
  subst hb
  rw [Nat.gcd_zero_right] at h1
  rw [<- h1]
  (repeat first | refine uA ?_ | (refine uK ?_ ?_; focus first | omega | trivial | (intro h; rw [h]; rfl) | (intro h h2; rw [h, h2]; rfl) | (intro h; (try simp at h); omega) | (intros; simp_all <;> omega)) | simp only [go_sem, Nat.reduceBEq, Nat.reduceAdd, Nat.reduceLeDiff, Int.reduceToNat, Int.reducePow] | simp (disch := omega) only [ww])
  exact S.done (d9.out rfl (Imp.refl rfl) rfl)
theorem b7v (x y : List Nat) (hxl : x.length <= 274877906944) (hyl : y.length <= 274877906944) (hx : Nm.J3 x) (hy : Nm.J3 y) (hxc : ∀ h : x ≠ [], x.getLast h ≠ 0) (hyc : ∀ h : y ≠ [], y.getLast h ≠ 0) :
    F3 Tryz.prog 150 [.sl 1 (ls x), .sl 1 (ls y)] (.v (.bool (decide (Nm.wv 18446744073709551616 x < Nm.wv 18446744073709551616 y)))) := by
  have top : ∀ {a b : List Nat}, Nm.J3 a -> (∀ h : b ≠ [], b.getLast h ≠ 0) -> a.length < b.length -> Nm.wv 18446744073709551616 a < Nm.wv 18446744073709551616 b := by
    intro a b ha hb hl
    have hne : b ≠ [] := fun h => by subst h; simp at hl
    have h1 := Nm.b0h (B := 18446744073709551616) (l := b.dropLast) (hb hne)
    rw [List.dropLast_concat_getLast hne, List.length_dropLast] at h1
    have h2 := Nm.I9 18446744073709551616 ha
    have h3 : 18446744073709551616 ^ a.length <= 18446744073709551616 ^ (b.length - 1) := c0i (by decide) (by omega)
    omega
  refine kS b0x b1I (by rfl) fun w O => ?_
  simp only [a5f, l9, TT, II, OA, OB, OC, MM, LL, VV, FF, MG, LG, VG, FG]
  (repeat first | refine uA ?_ | (refine uK ?_ ?_; focus first | omega | trivial | (intro h; rw [h]; rfl) | (intro h h2; rw [h, h2]; rfl) | (intro h; (try simp at h); omega) | (intros; simp_all <;> omega)) | simp only [go_sem, Nat.reduceBEq, Nat.reduceAdd, Nat.reduceLeDiff, Int.reduceToNat, Int.reducePow, q8] | simp (disch := omega) only [ww, q8])
  (refine uJ rfl (fun hc => ?_) fun hc => ?_)
  · have he : decide (Nm.wv 18446744073709551616 x < Nm.wv 18446744073709551616 y) = decide ((x.length : Int) < (y.length : Int)) := by
      rw [decide_eq_decide]
      constructor
      · intro h
        rcases Nat.lt_trichotomy x.length y.length with h1 | h1 | h1
        · omega
        · omega
        · have := top hy hxc h1; omega
      · intro h; exact top hx hyc (by omega)
    rw [he]
    (repeat first | refine uA ?_ | (refine uK ?_ ?_; focus first | omega | trivial | (intro h; rw [h]; rfl) | (intro h h2; rw [h, h2]; rfl) | (intro h; (try simp at h); omega) | (intros; simp_all <;> omega)) | simp only [go_sem, Nat.reduceBEq, Nat.reduceAdd, Nat.reduceLeDiff, Int.reduceToNat, Int.reducePow, q8] | simp (disch := omega) only [ww, q8])
    exact S.done (d9.out rfl (Imp.refl rfl) rfl)
  · have hl : x.length = y.length := by omega
    (repeat first | refine uA ?_ | (refine uK ?_ ?_; focus first | omega | trivial | (intro h; rw [h]; rfl) | (intro h h2; rw [h, h2]; rfl) | (intro h; (try simp at h); omega) | (intros; simp_all <;> omega)) | simp only [go_sem, Nat.reduceBEq, Nat.reduceAdd, Nat.reduceLeDiff, Int.reduceToNat, Int.reducePow, q8] | simp (disch := omega) only [ww, q8])
    refine S.loop (X := Nat) (fun j => ⟨[(0, .sl 1 (ls x)), (1, .sl 1 (ls y)), (5, ints ((j : Int) - 1))], []⟩) (fun j => j <= x.length /\ x.drop j = y.drop j) (fun j => j) x.length ⟨b9T _, by rw [List.drop_of_length_le (b9T _), List.drop_of_length_le (by omega)]⟩ (by (repeat first | refine uA ?_ | (refine ⟨?_, ?_⟩; focus first | rfl | trivial | (simp [slot]; done)) | rfl | trivial | simp)) ?_
    rintro j ⟨hj, hd⟩
    simp only [ints]
    (repeat first | refine uA ?_ | (refine uK ?_ ?_; focus first | omega | trivial | (intro h; rw [h]; rfl) | (intro h h2; rw [h, h2]; rfl) | (intro h; (try simp at h); omega) | (intros; simp_all <;> omega)) | simp only [go_sem, Nat.reduceBEq, Nat.reduceAdd, Nat.reduceLeDiff, Int.reduceToNat, Int.reducePow] | simp (disch := omega) only [ww])
    (refine uJ rfl (fun hc => ?_) fun hc => ?_)
    · obtain ⟨k, rfl⟩ : ∃ k, j = k + 1 := ⟨j - 1, by omega⟩
      rw [show (((k + 1 : Nat) : Int) - 1) = (k : Int) by omega]
      have hgx : x[k]? = some (x[k]'(by omega)) := b9I (by omega)
      have hgy : y[k]? = some (y[k]'(by omega)) := b9I (by omega)
      have hsx := Nm.a1L 18446744073709551616 x k (by omega)
      have hsy := Nm.a1L 18446744073709551616 y k (by omega)
      have hdx : x.drop k = x[k]'(by omega) :: x.drop (k + 1) := List.drop_eq_getElem_cons (by omega)
      have hdy : y.drop k = y[k]'(by omega) :: y.drop (k + 1) := List.drop_eq_getElem_cons (by omega)
      generalize x[k]'(by omega) = xk at *
      generalize y[k]'(by omega) = yk at *
      rw [hdx] at hsx
      rw [hdy, <- hd] at hsy
      simp only [Nm.wv] at hsx hsy
      generalize Nm.wv 18446744073709551616 (x.drop (k + 1)) = T at *
      have hlx := Nm.I9 18446744073709551616 (hx.take k)
      have hly := Nm.I9 18446744073709551616 (hy.take k)
      rw [b9V, Nat.min_eq_left (by omega)] at hlx hly
      rw [Nat.mul_add] at hsx hsy
      (repeat first | refine uA ?_ | (refine uK ?_ ?_; focus first | omega | trivial | (intro h; rw [h]; rfl) | (intro h h2; rw [h, h2]; rfl) | (intro h; (try simp at h); omega) | (intros; simp_all <;> omega)) | simp only [go_sem, Nat.reduceBEq, Nat.reduceAdd, Nat.reduceLeDiff, Int.reduceToNat, Int.reducePow, q8, H6, hgx, hgy, b9J, lm] | simp (disch := omega) only [ww, q8, H6, hgx, hgy, b9J, lm])
      (refine uJ rfl (fun hc => ?_) fun hc => ?_)
      · have he : decide (Nm.wv 18446744073709551616 x < Nm.wv 18446744073709551616 y) = decide ((xk : Int) < (yk : Int)) := by
          rw [decide_eq_decide]
          rcases Nat.lt_trichotomy xk yk with h | h | h
          · have := Nat.mul_le_mul_left (18446744073709551616 ^ k) h
            rw [Nat.mul_succ] at this
            omega
          · omega
          · have := Nat.mul_le_mul_left (18446744073709551616 ^ k) h
            rw [Nat.mul_succ] at this
            omega
        rw [he]
        (repeat first | refine uA ?_ | (refine uK ?_ ?_; focus first | omega | trivial | (intro h; rw [h]; rfl) | (intro h h2; rw [h, h2]; rfl) | (intro h; (try simp at h); omega) | (intros; simp_all <;> omega)) | simp only [go_sem, Nat.reduceBEq, Nat.reduceAdd, Nat.reduceLeDiff, Int.reduceToNat, Int.reducePow, q8, H6, hgx, hgy, b9J, lm] | simp (disch := omega) only [ww, q8, H6, hgx, hgy, b9J, lm])
        exact S.done (d9.out rfl (Imp.refl rfl) rfl)
      · have : xk = yk := by omega
        (repeat first | refine uA ?_ | (refine uK ?_ ?_; focus first | omega | trivial | (intro h; rw [h]; rfl) | (intro h h2; rw [h, h2]; rfl) | (intro h; (try simp at h); omega) | (intros; simp_all <;> omega)) | simp only [go_sem, Nat.reduceBEq, Nat.reduceAdd, Nat.reduceLeDiff, Int.reduceToNat, Int.reducePow] | simp (disch := omega) only [ww])
        refine S.next (x := k + 1) k ⟨by omega, by rw [hdx, hdy, this, hd]⟩ (by omega) (by (repeat first | refine uA ?_ | (refine ⟨?_, ?_⟩; focus first | rfl | trivial | (simp [slot]; done)) | rfl | trivial | simp))
    · have hj0 : j = 0 := by omega
      subst hj0
      rw [List.drop_zero, List.drop_zero] at hd
      rw [hd]
      have he : decide (Nm.wv 18446744073709551616 y < Nm.wv 18446744073709551616 y) = false := by simp
      rw [he]
      (repeat first | refine uA ?_ | (refine uK ?_ ?_; focus first | omega | trivial | (intro h; rw [h]; rfl) | (intro h h2; rw [h, h2]; rfl) | (intro h; (try simp at h); omega) | (intros; simp_all <;> omega)) | simp only [go_sem, Nat.reduceBEq, Nat.reduceAdd, Nat.reduceLeDiff, Int.reduceToNat, Int.reducePow] | simp (disch := omega) only [ww])
      exact S.done (d9.out rfl (Imp.refl rfl) rfl)
theorem b7N {x n : Nat} {T : Nat} (h0 : x ≠ 0) (h : x < 18446744073709551616) : Nm.v2 (18446744073709551616 ^ n * (x + 18446744073709551616 * T)) = 64 * n + Nm.v2 x := by
 obtain ⟨q, h1, h2⟩ := Nm.a1C h0
 have hk : Nm.v2 x < 64 := by
  rcases c0j (Nm.v2 x) 64 with h3 | h3
  ·exact h3
  ·exfalso
   have h4 : 2 ^ 64 <= 2 ^ Nm.v2 x := c0i (by decide) h3
   have h5 : 2 ^ Nm.v2 x <= 2 ^ Nm.v2 x * q := Nat.le_mul_of_pos_right _ (by omega)
   omega
 refine Nm.b6U (q := q + 2 ^ (64 - Nm.v2 x) * T) ?_ ?_
 ·have e1 : (18446744073709551616 : Nat) = 2 ^ Nm.v2 x * 2 ^ (64 - Nm.v2 x) := by rw [<- Nat.pow_add, show Nm.v2 x + (64 - Nm.v2 x) = 64 by omega]
  have e2 : (18446744073709551616 : Nat) ^ n = 2 ^ (64 * n) := by rw [Nat.pow_mul]
  rw [e2, Nat.pow_add, c0o]
  congr 1
  conv => lhs; rw [h1]
  rw [Nat.mul_add, <- c0o (2 ^ Nm.v2 x), <- e1]
 ·have e3 : 2 ^ (64 - Nm.v2 x) = 2 * 2 ^ (64 - Nm.v2 x - 1) := by rw [<- Nat.pow_succ']; congr 1; omega
  rw [e3, c0o]; omega
theorem a6g (x : List Nat) (hxl : x.length <= 274877906944) (hx : Nm.J3 x) (h0 : Nm.wv 18446744073709551616 x ≠ 0) : FZ 148 [.sl 1 (ls x)] (ints (Nm.v2 (Nm.wv 18446744073709551616 x))) := by
 refine kW Tryz.func148 (by cbv) (by rfl) fun w O hw => ?_
 simp only [l9, ints]
 (repeat first | refine uA ?_ | (refine uK ?_ ?_; focus first | omega | trivial | (intro h; rw [h]; rfl) | (intro h h2; rw [h, h2]; rfl) | (intro h; (try simp at h); omega) | (intros; simp_all <;> omega)) | simp only [go_sem, Nat.reduceBEq, Nat.reduceAdd, Nat.reduceLeDiff, Int.reduceToNat, Int.reducePow] | simp (disch := omega) only [ww])
 refine S.loop (X := Nat) (fun n => ⟨[(0, .sl 1 (ls x)), (3, ints n)], []⟩) (fun n => n <= x.length /\ Nm.wv 18446744073709551616 x = 18446744073709551616 ^ n * Nm.wv 18446744073709551616 (x.drop n)) (fun n => x.length - n) 0 ⟨b9M _, by simp⟩ (by (repeat first | refine uA ?_ | (refine ⟨?_, ?_⟩; focus first | rfl | trivial | (simp [slot]; done)) | rfl | trivial | simp)) ?_
 rintro n ⟨hn, hv⟩
 simp only [ints]
 have hn' : n < x.length := by
  rcases c0j n x.length with h | h
  ·exact h
  ·rw [List.drop_of_length_le h] at hv; simp [Nm.wv] at hv; exact absurd hv h0
 have hgx : x[n]? = some (x[n]'hn') := b9I hn'
 have hd : x.drop n = x[n]'hn' :: x.drop (n + 1) := List.drop_eq_getElem_cons hn'
 have hx64 := hx _ (b9S hn')
 generalize x[n]'hn' = xn at *
 rw [hd] at hv
 simp only [Nm.wv] at hv
 (repeat first | refine uA ?_ | (refine uK ?_ ?_; focus first | omega | trivial | (intro h; rw [h]; rfl) | (intro h h2; rw [h, h2]; rfl) | (intro h; (try simp at h); omega) | (intros; simp_all <;> omega)) | simp only [go_sem, Nat.reduceBEq, Nat.reduceAdd, Nat.reduceLeDiff, Int.reduceToNat, Int.reducePow, q8, H6, hgx, b9J, lm] | simp (disch := omega) only [ww, q8, H6, hgx, b9J, lm])
 (refine uJ rfl (fun hc => ?_) fun hc => ?_)
 ·have hz : xn = 0 := by omega
  subst hz
  (repeat first | refine uA ?_ | (refine uK ?_ ?_; focus first | omega | trivial | (intro h; rw [h]; rfl) | (intro h h2; rw [h, h2]; rfl) | (intro h; (try simp at h); omega) | (intros; simp_all <;> omega)) | simp only [go_sem, Nat.reduceBEq, Nat.reduceAdd, Nat.reduceLeDiff, Int.reduceToNat, Int.reducePow] | simp (disch := omega) only [ww])
  refine S.next (x := n) (n + 1) ⟨hn', by rw [hv, c0n, <- c0o, c0s]⟩ (by omega) (by (repeat first | refine uA ?_ | (refine ⟨?_, ?_⟩; focus first | rfl | trivial | (simp [slot]; done)) | rfl | trivial | simp))
 ·have hz : xn ≠ 0 := by omega
  have he := b7N (n := n) (T := Nm.wv 18446744073709551616 (x.drop (n + 1))) hz hx64
  rw [<- hv] at he
  rw [he]
  have htz := b9A xn hz hx64
  have hk : Nm.v2 xn < 64 := by
   obtain ⟨q, h1, h2⟩ := Nm.a1C hz
   rcases c0j (Nm.v2 xn) 64 with h3 | h3
   ·exact h3
   ·exfalso
    have h4 : 2 ^ 64 <= 2 ^ Nm.v2 xn := c0i (by decide) h3
    have h5 : 2 ^ Nm.v2 xn <= 2 ^ Nm.v2 xn * q := Nat.le_mul_of_pos_right _ (by omega)
    omega
  have hcast : ((64 * n + Nm.v2 xn : Nat) : Int) = 64 * (n : Int) + (Nm.v2 xn : Int) := by omega
  rw [hcast]
  generalize Nm.v2 xn = k at *
  (repeat first | refine uA ?_ | (refine uK ?_ ?_; focus first | omega | trivial | (intro h; rw [h]; rfl) | (intro h h2; rw [h, h2]; rfl) | (intro h; (try simp at h); omega) | (intros; simp_all <;> omega)) | simp only [go_sem, Nat.reduceBEq, Nat.reduceAdd, Nat.reduceLeDiff, Int.reduceToNat, Int.reducePow, q8, H6, hgx, b9J, lm] | simp (disch := omega) only [ww, q8, H6, hgx, b9J, lm] | (refine uD htz ?_ ?_ ?_; exact tz hw; exact rfl))
  exact S.done (d9.out rfl (Imp.refl rfl) rfl)
namespace Nm
def E8 (l : List Nat) : List Nat := (l.reverse.dropWhile (· == 0)).reverse
theorem a4m (l : List Nat) : E8 (l ++ [0]) = E8 l := by simp [E8]
theorem a2u {l : List Nat} {x : Nat} (h : x ≠ 0) : E8 (l ++ [x]) = l ++ [x] := by simp [E8, h]
theorem a5g : E8 [] = [] := rfl
theorem a3g (l : List Nat) : E8 l = l.take (E8 l).length /\ (E8 l).length <= l.length /\ (∀ B, wv B (E8 l) = wv B l) /\ (∀ h : E8 l ≠ [], (E8 l).getLast h ≠ 0) := by
 obtain ⟨r, rfl⟩ : ∃ r, l = r.reverse := ⟨l.reverse, by simp⟩
 induction r with
 | nil => simp [a5g]
 | cons x r ih =>
  rw [List.reverse_cons]
  by_cases hx : x = 0
  ·subst hx
   rw [a4m]
   obtain ⟨h1, h2, h3, h4⟩ := ih
   refine ⟨?_, by rw [b9X]; omega, fun B => ?_, h4⟩
   ·rw [List.take_append_of_le_length h2]; exact h1
   ·rw [h3, a5T]; simp
  ·rw [a2u hx]
   refine ⟨by rw [c0m], b9T _, fun B => rfl, fun h => ?_⟩
   rw [List.getLast_concat]; exact hx
theorem b5d (l : List Nat) : (E8 l).length <= l.length := (a3g l).2.1
theorem b6w (B : Nat) (l : List Nat) : wv B (E8 l) = wv B l := (a3g l).2.2.1 B
theorem b3S (l : List Nat) : l.take (E8 l).length = E8 l := (a3g l).1.symm
theorem a7j (l : List Nat) (h : E8 l ≠ []) : (E8 l).getLast h ≠ 0 := (a3g l).2.2.2 h
end Nm
def rw2 (s : Bool) (u o : List Nat) : List Res := match s with
 | true => [.row 184 1 (ls u), .row 184 1 (ls o)]
 | false => [.row 184 1 (ls o), .row 184 1 (ls u)]
section
variable {rs rs' l : List Res} {u o : List Nat} {r : Res}
instance : Sb (L9 rs rs' (rw2 true u o) l) (L9 rs rs' [.row 184 1 (ls u), .row 184 1 (ls o)] l) := ⟨id⟩
instance : Sb (L9 rs rs' (rw2 false u o) l) (L9 rs rs' [.row 184 1 (ls o), .row 184 1 (ls u)] l) := ⟨id⟩
instance : Sb (L9 rs rs' (r :: l) (rw2 true u o)) (L9 rs rs' (r :: l) [.row 184 1 (ls u), .row 184 1 (ls o)]) := ⟨id⟩
instance : Sb (L9 rs rs' (r :: l) (rw2 false u o)) (L9 rs rs' (r :: l) [.row 184 1 (ls o), .row 184 1 (ls u)]) := ⟨id⟩
end
def kx (s : Bool) : Nat := match s with
 | true => 0
 | false => 1
theorem a6a {E : Ctx} (hP : E.P = Tryz.prog) (s : Bool) (u o : List Nat) (lo n : Nat) (hl : u.length <= 274877906944) (hn : lo + n <= u.length) (hlo : lo < u.length) :
    j5 E (rw2 s u o) 157 [.wv (kx s) 1 lo n] (.wv (kx s) 1 lo (Nm.E8 ((u.drop lo).take n)).length) (rw2 s u o) [] := by
  obtain ⟨P, eff', N, w0, own0, av0, nu0, pk0⟩ := E
  simp only at hP
  subst hP
  cases s
  all_goals
    refine j5.of (eff := eff) Tryz.func157 (by cbv) (by exact c0d rfl) fun w own av ν hν => ?_
    simp only [l9, rw2, kx]
    have hν0 : ν.length <= 2 := by rw [hν]; exact b9T _
    (repeat first | refine uA ?_ | (refine uK ?_ ?_; focus first | omega | (intros; simp_all <;> omega)) | simp (disch := omega) only [go_sem, Nat.reduceBEq, Nat.reduceAdd, ww])
  · refine S.loop (X := Nat) (fun m => ⟨[(0, .wv 1 1 lo m)], [.row 184 1 (ls o), .row 184 1 (ls u)]⟩) (fun m => m <= n /\ Nm.E8 ((u.drop lo).take m) = Nm.E8 ((u.drop lo).take n)) (fun m => m) n ⟨b9T _, rfl⟩ (Ent.mk _ _ (by (repeat first | refine uA ?_ | (refine ⟨?_, ?_⟩; focus first | rfl | simp [slot]) | rfl | simp)) (by (repeat first | refine uA ?_ | (refine ⟨?_, ?_⟩; focus first | rfl | simp [slot]) | rfl | simp)) hν0) ?_
    rintro m ⟨hm, ht⟩
    have hq : lo + ((m : Int) - 1).toNat < u.length := by omega
    have hg : u[lo + ((m : Int) - 1).toNat]? = some (u[lo + ((m : Int) - 1).toNat]'hq) := b9I hq
    have hsn : 0 < m -> (u.drop lo).take m = (u.drop lo).take (m - 1) ++ [u[lo + ((m : Int) - 1).toNat]'hq] := fun h => by
      have e1 : (u.drop lo)[m - 1]? = some (u[lo + ((m : Int) - 1).toNat]'hq) := by
        rw [c0v, <- hg]; congr 1; omega
      conv => lhs; rw [show m = m - 1 + 1 by omega, List.take_add_one, e1]
      rfl
    generalize u[lo + ((m : Int) - 1).toNat]'hq = c at *
    (repeat first | refine uA ?_ | (refine uK ?_ ?_; focus first | omega | (intros; simp_all <;> omega)) | simp (disch := omega) only [go_sem, Nat.reduceBEq, Nat.reduceAdd, ww, q8, H6, hg, b9J, lm])
    (refine uJ rfl (fun hc => ?_) fun hc => ?_)
    · obtain ⟨h0, h1⟩ := hc
      have hc0 : c = 0 := by omega
      have hm1 : ((m : Int) - 1) = ((m - 1 : Nat) : Int) := by omega
      rw [hsn (by omega), hc0, Nm.a4m] at ht
      have hm2 : ((m : Int) - 1).toNat = m - 1 := by omega
      (repeat first | refine uA ?_ | (refine uK ?_ ?_; focus first | omega | (intros; simp_all <;> omega)) | simp (disch := omega) only [go_sem, Nat.reduceBEq, Nat.reduceAdd, ww, q8, hm2, Nat.add_zero, Nat.sub_zero, Int.toNat_zero])
      refine S.next (x := m) (m - 1) ⟨by omega, ht⟩ (by omega) (Ent.mk _ _ (by (repeat first | refine uA ?_ | (refine ⟨?_, ?_⟩; focus first | rfl | simp [slot]) | rfl | simp)) (by (repeat first | refine uA ?_ | (refine ⟨?_, ?_⟩; focus first | rfl | simp [slot]) | rfl | simp)) hν0)
    · have hmt : (Nm.E8 ((u.drop lo).take n)).length = m := by
        rw [<- ht]
        rcases c0f m with h0 | h0
        · subst h0; simp [Nm.a5g]
        · have hcn : c ≠ 0 := by omega
          rw [hsn h0, Nm.a2u hcn, b9X, b9V, c0y, List.length_singleton]
          omega
      rw [hmt]
      (repeat first | refine uA ?_ | (refine uK ?_ ?_; focus first | omega | (intros; simp_all <;> omega)) | simp (disch := omega) only [go_sem, Nat.reduceBEq, Nat.reduceAdd, ww])
      exact S.done (d9.own rfl)
  · refine S.loop (X := Nat) (fun m => ⟨[(0, .wv 0 1 lo m)], [.row 184 1 (ls u), .row 184 1 (ls o)]⟩) (fun m => m <= n /\ Nm.E8 ((u.drop lo).take m) = Nm.E8 ((u.drop lo).take n)) (fun m => m) n ⟨b9T _, rfl⟩ (Ent.mk _ _ (by (repeat first | refine uA ?_ | (refine ⟨?_, ?_⟩; focus first | rfl | simp [slot]) | rfl | simp)) (by (repeat first | refine uA ?_ | (refine ⟨?_, ?_⟩; focus first | rfl | simp [slot]) | rfl | simp)) hν0) ?_
    rintro m ⟨hm, ht⟩
    have hq : lo + ((m : Int) - 1).toNat < u.length := by omega
    have hg : u[lo + ((m : Int) - 1).toNat]? = some (u[lo + ((m : Int) - 1).toNat]'hq) := b9I hq
    have hsn : 0 < m -> (u.drop lo).take m = (u.drop lo).take (m - 1) ++ [u[lo + ((m : Int) - 1).toNat]'hq] := fun h => by
      have e1 : (u.drop lo)[m - 1]? = some (u[lo + ((m : Int) - 1).toNat]'hq) := by
        rw [c0v, <- hg]; congr 1; omega
      conv => lhs; rw [show m = m - 1 + 1 by omega, List.take_add_one, e1]
      rfl
    generalize u[lo + ((m : Int) - 1).toNat]'hq = c at *
    (repeat first | refine uA ?_ | (refine uK ?_ ?_; focus first | omega | (intros; simp_all <;> omega)) | simp (disch := omega) only [go_sem, Nat.reduceBEq, Nat.reduceAdd, ww, q8, H6, hg, b9J, lm])
    (refine uJ rfl (fun hc => ?_) fun hc => ?_)
    · obtain ⟨h0, h1⟩ := hc
      have hc0 : c = 0 := by omega
      have hm1 : ((m : Int) - 1) = ((m - 1 : Nat) : Int) := by omega
      rw [hsn (by omega), hc0, Nm.a4m] at ht
      have hm2 : ((m : Int) - 1).toNat = m - 1 := by omega
      (repeat first | refine uA ?_ | (refine uK ?_ ?_; focus first | omega | (intros; simp_all <;> omega)) | simp (disch := omega) only [go_sem, Nat.reduceBEq, Nat.reduceAdd, ww, q8, hm2, Nat.add_zero, Nat.sub_zero, Int.toNat_zero])
      refine S.next (x := m) (m - 1) ⟨by omega, ht⟩ (by omega) (Ent.mk _ _ (by (repeat first | refine uA ?_ | (refine ⟨?_, ?_⟩; focus first | rfl | simp [slot]) | rfl | simp)) (by (repeat first | refine uA ?_ | (refine ⟨?_, ?_⟩; focus first | rfl | simp [slot]) | rfl | simp)) hν0)
    · have hmt : (Nm.E8 ((u.drop lo).take n)).length = m := by
        rw [<- ht]
        rcases c0f m with h0 | h0
        · subst h0; simp [Nm.a5g]
        · have hcn : c ≠ 0 := by omega
          rw [hsn h0, Nm.a2u hcn, b9X, b9V, c0y, List.length_singleton]
          omega
      rw [hmt]
      (repeat first | refine uA ?_ | (refine uK ?_ ?_; focus first | omega | (intros; simp_all <;> omega)) | simp (disch := omega) only [go_sem, Nat.reduceBEq, Nat.reduceAdd, ww])
      exact S.done (d9.own rfl)
theorem b7x {E : Ctx} (hP : E.P = Tryz.prog) (s : Bool) (u o : List Nat) (lo n lo2 n2 : Nat) (hl : u.length <= 274877906944) (hlo2 : o.length <= 274877906944) (hn : lo + n <= u.length) (hlo : lo < u.length) (hn2 : lo2 + n2 <= o.length) (hnn : n2 <= n)
  (hu : Nm.J3 u) (ho : Nm.J3 o) {X Y : Nat} (hX : X = Nm.wv 18446744073709551616 ((u.drop lo).take n)) (hY : Y = Nm.wv 18446744073709551616 ((o.drop lo2).take n2)) (hle : Y <= X) :
  j5 E (rw2 s u o) 151 [.wv (kx s) 1 lo n, .wv (kx !s) 1 lo2 n2] (.wv (kx s) 1 lo (Nm.E8 (Nm.dig 18446744073709551616 n (X - Y))).length) (rw2 s (put u lo (Nm.dig 18446744073709551616 n (X - Y))) o) [] := by
 obtain ⟨P, eff', N, w0, own0, av0, nu0, pk0⟩ := E
 simp only at hP
 subst hP
 have hul : ((u.drop lo).take n).length = n := by rw [b9V, c0y]; omega
 have hol2 : ((o.drop lo2).take n2).length = n2 := by rw [b9V, c0y]; omega
 have hua : Nm.J3 ((u.drop lo).take n) := (hu.drop lo).take _
 have hoa : Nm.J3 ((o.drop lo2).take n2) := (ho.drop lo2).take _
 have hps : put u lo ((u.drop lo).take n) = u := a2R hn
 have hgo2 : ∀ i, i < n2 -> o[lo2 + i]? = ((o.drop lo2).take n2)[i]? := fun i hi => by rw [List.getElem?_take_of_lt hi, c0v]
 generalize (u.drop lo).take n = x at *
 generalize (o.drop lo2).take n2 = y at *
 cases s
 all_goals
  refine j5.of (eff := eff) b1u b0A (by exact c0d rfl) fun w own av ν hν => ?_
  simp only [a5N, l9, TT, II, OA, OB, OC, MM, LL, VV, FF, MG, LG, VG, FG, rw2, kx, Bool.not_true, Bool.not_false]
  have hν0 : ν.length <= 2 := by rw [hν]; exact b9T _
  (repeat first | refine uA ?_ | (refine uK ?_ ?_; focus first | omega | (intros; simp_all <;> omega)) | simp (disch := omega) only [go_sem, Nat.reduceBEq, Nat.reduceAdd, ww])
 ·refine S.loop (X := Nat × List Nat × Nat) (fun s => ⟨[(0, .wv 1 1 lo n), (1, .wv 0 1 lo2 n2), (5, .v (.int .u64 (s.2.2 : Int))), (8, .wv 1 1 lo n), (9, ints n), (10, ints s.1)], [.row 184 1 (ls o), .row 184 1 (ls (put u lo s.2.1))]⟩) (fun s => s.1 <= n /\ Nm.a1G x y s.1 s.2.1 s.2.2) (fun s => n - s.1) (0, x, 0) ⟨b9M _, Nm.a4M y hua⟩ (by simp only [hps]; exact Ent.mk _ _ (by (repeat first | refine uA ?_ | (refine ⟨?_, ?_⟩; focus first | rfl | simp [slot]) | rfl | simp)) (by (repeat first | refine uA ?_ | (refine ⟨?_, ?_⟩; focus first | rfl | simp [slot]) | rfl | simp)) hν0) ?_
  rintro ⟨i, out, c⟩ ⟨hi, hinv⟩
  simp only [ints] at hi hinv ⊢
  have hol := hinv.1
  have hc1 := hinv.2.2.1
  have hpl : (put u lo out).length = u.length := U2 (by omega)
  (repeat first | refine uA ?_ | (refine uK ?_ ?_; focus first | omega | (intros; simp_all <;> omega)) | simp (disch := omega) only [go_sem, Nat.reduceBEq, Nat.reduceAdd, ww])
  (refine uJ rfl (fun hc => ?_) fun hc => ?_)
  ·have hi' : i < n := by omega
   have hix : i < x.length := by omega
   have hgx : x[i]? = some (x[i]'hix) := b9I hix
   have hgo : (put u lo out)[lo + i]? = some (x[i]'hix) := by rw [O0 (by omega) (by omega), Nm.V9 hinv.2.2.2.1, hgx]
   have hx64 := hua _ (b9S hix)
   have hk := fun t c' h1 h2 h3 => Nm.a4K (t := t) (c' := c') hinv hix h1 h2 h3
   generalize x[i]'hix = xi at *
   have hsub : ∀ d : Nat, d < 18446744073709551616 -> ∃ t c' : Nat, ((xi : Int) + 18446744073709551616 - (d : Int) - (c : Int)) % 18446744073709551616 = (t : Int) /\ (if (xi : Int) < (d : Int) + (c : Int) then (1 : Int) else 0) = (c' : Int) /\ t < 18446744073709551616 /\ c' <= 1 /\ t + c + d = xi + 18446744073709551616 * c' := fun d hd => by
    by_cases h : xi < d + c
    ·exact ⟨xi + 18446744073709551616 - d - c, 1, by omega, by rw [if_pos (by omega)]; rfl, by omega, by omega, by omega⟩
    ·exact ⟨xi - d - c, 0, by omega, by rw [if_neg (by omega)]; rfl, by omega, by omega, by omega⟩
   have hsl : ∀ t, (put u lo out).set (lo + i) t = put u lo (out.set i t) := fun t => T9 (by omega) (by omega)
   (repeat first | refine uA ?_ | (refine uK ?_ ?_; focus first | omega | (intros; simp_all <;> omega)) | simp (disch := omega) only [go_sem, Nat.reduceBEq, Nat.reduceAdd, ww, q8])
   (refine uJ rfl (fun hc => ?_) fun hc => ?_)
   ·have hiy : i < y.length := by omega
    have hgy : y[i]? = some (y[i]'hiy) := b9I hiy
    have hgy2 := (hgo2 i (by omega)).trans hgy
    have hy64 := hoa _ (b9S hiy)
    rw [Nm.getD_lt hiy] at hk
    generalize y[i]'hiy = yi at *
    obtain ⟨t, c', e1, e2, h1, h2, h3⟩ := hsub yi hy64
    have hk := hk t c' h1 h2 h3
    (repeat first | refine uA ?_ | (refine uK ?_ ?_; focus first | omega | (intros; simp_all <;> omega)) | simp (disch := omega) only [go_sem, Nat.reduceBEq, Nat.reduceAdd, ww, q8, H6, hgo, hgy2, hpl, b9J, lm, e1, e2, Q5, hsl])
    refine S.next (x := (i, out, c)) (i + 1, _, _) ⟨hi', hk⟩ (by simp only; omega) (Ent.mk _ _ (by (repeat first | refine uA ?_ | (refine ⟨?_, ?_⟩; focus first | rfl | simp [slot]) | rfl | simp)) (by (repeat first | refine uA ?_ | (refine ⟨?_, ?_⟩; focus first | rfl | simp [slot]) | rfl | simp)) hν0)
   ·have hy0 : y.getD i 0 = 0 := by rw [b9Q, c0q (by omega)]; rfl
    rw [hy0] at hk
    obtain ⟨t, c', e1, e2, h1, h2, h3⟩   := hsub 0 (by decide)
    rw [show ((0 : Nat) : Int) = 0 from rfl] at e1 e2
    have hk := hk t c' h1 h2 h3
    (repeat first | refine uA ?_ | (refine uK ?_ ?_; focus first | omega | (intros; simp_all <;> omega)) | simp (disch := omega) only [go_sem, Nat.reduceBEq, Nat.reduceAdd, ww, q8, H6, hgo, hpl, b9J, lm, e1, e2, Q5, hsl])
    refine S.next (x := (i, out, c)) (i + 1, _, _) ⟨hi', hk⟩ (by simp only; omega) (Ent.mk _ _ (by (repeat first | refine uA ?_ | (refine ⟨?_, ?_⟩; focus first | rfl | simp [slot]) | rfl | simp)) (by (repeat first | refine uA ?_ | (refine ⟨?_, ?_⟩; focus first | rfl | simp [slot]) | rfl | simp)) hν0)
  ·have hi' : i = n := by omega
   subst hi'
   rw [<- hul] at hinv
   obtain ⟨he1, he2⟩ := Nm.a5F hinv (by omega) (by omega)
   have hd : out = Nm.dig 18446744073709551616 i (X - Y) := Nm.P9 (by decide) hinv.2.1 (by omega) (by omega)
   rw [<- hd]
   have hcut := fun (E : Ctx) (hP : E.P = Tryz.prog) => a6a (E := E) hP (match 1 with | 0 => true | _ => false) (put u lo out) o lo i (by omega) (by omega) (by omega)
   rw [a1f (by omega) (by omega)] at hcut
   (repeat first | refine uA ?_ | (refine uK ?_ ?_; focus first | omega | (intros; simp_all <;> omega)) | simp (disch := omega) only [go_sem, Nat.reduceBEq, Nat.reduceAdd, ww] | refine l7.t (hcut _ rfl) ?_)
   exact S.done (d9.own rfl)
 ·refine S.loop (X := Nat × List Nat × Nat) (fun s => ⟨[(0, .wv 0 1 lo n), (1, .wv 1 1 lo2 n2), (5, .v (.int .u64 (s.2.2 : Int))), (8, .wv 0 1 lo n), (9, ints n), (10, ints s.1)], [.row 184 1 (ls (put u lo s.2.1)), .row 184 1 (ls o)]⟩) (fun s => s.1 <= n /\ Nm.a1G x y s.1 s.2.1 s.2.2) (fun s => n - s.1) (0, x, 0) ⟨b9M _, Nm.a4M y hua⟩ (by simp only [hps]; exact Ent.mk _ _ (by (repeat first | refine uA ?_ | (refine ⟨?_, ?_⟩; focus first | rfl | simp [slot]) | rfl | simp)) (by (repeat first | refine uA ?_ | (refine ⟨?_, ?_⟩; focus first | rfl | simp [slot]) | rfl | simp)) hν0) ?_
  rintro ⟨i, out, c⟩ ⟨hi, hinv⟩
  simp only [ints] at hi hinv ⊢
  have hol := hinv.1
  have hc1 := hinv.2.2.1
  have hpl : (put u lo out).length = u.length := U2 (by omega)
  (repeat first | refine uA ?_ | (refine uK ?_ ?_; focus first | omega | (intros; simp_all <;> omega)) | simp (disch := omega) only [go_sem, Nat.reduceBEq, Nat.reduceAdd, ww])
  (refine uJ rfl (fun hc => ?_) fun hc => ?_)
  ·have hi' : i < n := by omega
   have hix : i < x.length := by omega
   have hgx : x[i]? = some (x[i]'hix) := b9I hix
   have hgo : (put u lo out)[lo + i]? = some (x[i]'hix) := by rw [O0 (by omega) (by omega), Nm.V9 hinv.2.2.2.1, hgx]
   have hx64 := hua _ (b9S hix)
   have hk := fun t c' h1 h2 h3 => Nm.a4K (t := t) (c' := c') hinv hix h1 h2 h3
   generalize x[i]'hix = xi at *
   have hsub : ∀ d : Nat, d < 18446744073709551616 -> ∃ t c' : Nat, ((xi : Int) + 18446744073709551616 - (d : Int) - (c : Int)) % 18446744073709551616 = (t : Int) /\ (if (xi : Int) < (d : Int) + (c : Int) then (1 : Int) else 0) = (c' : Int) /\ t < 18446744073709551616 /\ c' <= 1 /\ t + c + d = xi + 18446744073709551616 * c' := fun d hd => by
    by_cases h : xi < d + c
    ·exact ⟨xi + 18446744073709551616 - d - c, 1, by omega, by rw [if_pos (by omega)]; rfl, by omega, by omega, by omega⟩
    ·exact ⟨xi - d - c, 0, by omega, by rw [if_neg (by omega)]; rfl, by omega, by omega, by omega⟩
   have hsl : ∀ t, (put u lo out).set (lo + i) t = put u lo (out.set i t) := fun t => T9 (by omega) (by omega)
   (repeat first | refine uA ?_ | (refine uK ?_ ?_; focus first | omega | (intros; simp_all <;> omega)) | simp (disch := omega) only [go_sem, Nat.reduceBEq, Nat.reduceAdd, ww, q8])
   (refine uJ rfl (fun hc => ?_) fun hc => ?_)
   ·have hiy : i < y.length := by omega
    have hgy : y[i]? = some (y[i]'hiy) := b9I hiy
    have hgy2 := (hgo2 i (by omega)).trans hgy
    have hy64 := hoa _ (b9S hiy)
    rw [Nm.getD_lt hiy] at hk
    generalize y[i]'hiy = yi at *
    obtain ⟨t, c', e1, e2, h1, h2, h3⟩ := hsub yi hy64
    have hk := hk t c' h1 h2 h3
    (repeat first | refine uA ?_ | (refine uK ?_ ?_; focus first | omega | (intros; simp_all <;> omega)) | simp (disch := omega) only [go_sem, Nat.reduceBEq, Nat.reduceAdd, ww, q8, H6, hgo, hgy2, hpl, b9J, lm, e1, e2, Q5, hsl])
    refine S.next (x := (i, out, c)) (i + 1, _, _) ⟨hi', hk⟩ (by simp only; omega) (Ent.mk _ _ (by (repeat first | refine uA ?_ | (refine ⟨?_, ?_⟩; focus first | rfl | simp [slot]) | rfl | simp)) (by (repeat first | refine uA ?_ | (refine ⟨?_, ?_⟩; focus first | rfl | simp [slot]) | rfl | simp)) hν0)
   ·have hy0 : y.getD i 0 = 0 := by rw [b9Q, c0q (by omega)]; rfl
    rw [hy0] at hk
    obtain ⟨t, c', e1, e2, h1, h2, h3⟩   := hsub 0 (by decide)
    rw [show ((0 : Nat) : Int) = 0 from rfl] at e1 e2
    have hk := hk t c' h1 h2 h3
    (repeat first | refine uA ?_ | (refine uK ?_ ?_; focus first | omega | (intros; simp_all <;> omega)) | simp (disch := omega) only [go_sem, Nat.reduceBEq, Nat.reduceAdd, ww, q8, H6, hgo, hpl, b9J, lm, e1, e2, Q5, hsl])
    refine S.next (x := (i, out, c)) (i + 1, _, _) ⟨hi', hk⟩ (by simp only; omega) (Ent.mk _ _ (by (repeat first | refine uA ?_ | (refine ⟨?_, ?_⟩; focus first | rfl | simp [slot]) | rfl | simp)) (by (repeat first | refine uA ?_ | (refine ⟨?_, ?_⟩; focus first | rfl | simp [slot]) | rfl | simp)) hν0)
  ·have hi' : i = n := by omega
   subst hi'
   rw [<- hul] at hinv
   obtain ⟨he1, he2⟩ := Nm.a5F hinv (by omega) (by omega)
   have hd : out = Nm.dig 18446744073709551616 i (X - Y) := Nm.P9 (by decide) hinv.2.1 (by omega) (by omega)
   rw [<- hd]
   have hcut := fun (E : Ctx) (hP : E.P = Tryz.prog) => a6a (E := E) hP (match 0 with | 0 => true | _ => false) (put u lo out) o lo i (by omega) (by omega) (by omega)
   rw [a1f (by omega) (by omega)] at hcut
   (repeat first | refine uA ?_ | (refine uK ?_ ?_; focus first | omega | (intros; simp_all <;> omega)) | simp (disch := omega) only [go_sem, Nat.reduceBEq, Nat.reduceAdd, ww] | refine l7.t (hcut _ rfl) ?_)
   exact S.done (d9.own rfl)
theorem b8A (i : Nat) (h : i <= 70368744177664) : IntKind.i64.wrap ((i : Int).tdiv 64) = ((i / 64 : Nat) : Int) := by
 have : (i : Int).tdiv 64 = ((i / 64 : Nat) : Int) := rfl
 rw [this, Eng.wrap_i64 (by omega)]
theorem b7C (i : Nat) : (i : Int).tmod 64 = ((i % 64 : Nat) : Int) := rfl
theorem b0p (o n : Nat) (ho : o < 18446744073709551616) : bits .or .u64 (o : Int) (((n % 18446744073709551616 : Nat)) : Int) = ((o ||| n % 18446744073709551616 : Nat) : Int) := a8g _ _ ho (Nat.mod_lt _ (by decide))
theorem a9w (x r : Nat) (hr : r <= 64) : IntKind.u64.wrap ((x : Int) * 2 ^ min r 64) = ((x * 2 ^ r % 18446744073709551616 : Nat) : Int) := by
 rw [show min r 64 = r by omega, <- a2M]; congr 1
theorem a6i {E : Ctx} (hP : E.P = Tryz.prog) (s : Bool) (u o : List Nat) (lo n by' z : Nat) (hl : u.length <= 274877906944) (hn : lo + n <= u.length) (hb : by' <= 70368744177664)
  (hu : Nm.J3 u) (hz : z ≠ 0) (hX : Nm.wv 18446744073709551616 ((u.drop lo).take n) = z * 2 ^ by') :
  by' / 64 < n /\ z < 18446744073709551616 ^ (n - by' / 64) /\ j5 E (rw2 s u o) 149 [.wv (kx s) 1 lo n, ints by'] (.wv (kx s) 1 (lo + by' / 64) (Nm.E8 (Nm.dig 18446744073709551616 (n - by' / 64) z)).length) (rw2 s (put u (lo + by' / 64) (Nm.dig 18446744073709551616 (n - by' / 64) z)) o) [] := by
 have hul : ((u.drop lo).take n).length = n := by rw [b9V, c0y]; omega
 have hua : Nm.J3 ((u.drop lo).take n) := (hu.drop lo).take _
 have e2 : 2 ^ by' = 18446744073709551616 ^ (by' / 64) * 2 ^ (by' % 64) := by
  rw [show (18446744073709551616 : Nat) = 2 ^ 64 by decide, <- Nat.pow_mul, <- Nat.pow_add]; congr 1; omega
 have hjn : by' / 64 < n := by
  rcases c0j (by' / 64) n with h | h
  ·exact h
  ·exfalso
   have h1 := Nm.I9 18446744073709551616 hua
   have h2 : 18446744073709551616 ^ n <= 18446744073709551616 ^ (by' / 64) := c0i (by decide) h
   have h3 : 18446744073709551616 ^ (by' / 64) <= 2 ^ by' := by rw [e2]; exact Nat.le_mul_of_pos_right _ (Nat.pow_pos (by decide))
   have h4 : 2 ^ by' <= z * 2 ^ by' := Nat.le_mul_of_pos_left _ (by omega)
   rw [hul] at h1
   omega
 have hdr : ((u.drop lo).take n).drop (by' / 64) = (u.drop (lo + by' / 64)).take (n - by' / 64) := by
  rw [List.drop_take, List.drop_drop]
 have hW1 : Nm.wv 18446744073709551616 ((u.drop (lo + by' / 64)).take (n - by' / 64)) = z * 2 ^ (by' % 64) := by
  rw [<- hdr, Nm.b3g hua (by omega), hX, e2, <- c0o, Nat.mul_comm z, c0o, Nat.mul_comm (18446744073709551616 ^ _) (z * _), Nat.mul_div_cancel _ (Nat.pow_pos (by decide))]
 have hb64 : by' % 64 < 64 := Nat.mod_lt _ (by decide)
 have hjb : by' / 64 <= 1099511627776 := by omega
 clear hdr hX e2
 have hq1 := b8A by' hb
 have hq2 := b7C by'
 generalize by' / 64 = j at *
 generalize by' % 64 = b at *
 generalize hp : n - j = p at *
 generalize hl1 : lo + j = l1 at *
 have hlp : l1 + p <= u.length := by omega
 have hp0 : 0 < p := by omega
 have hpn : n - j = p := hp
 have hua1 : Nm.J3 ((u.drop l1).take p) := (hu.drop l1).take _
 have hps : put u l1 ((u.drop l1).take p) = u := a2R hlp
 have hrl : ((u.drop l1).take p).length = p := by rw [b9V, c0y]; omega
 generalize (u.drop l1).take p = r0 at *
 have hzl : z < 18446744073709551616 ^ p := by
  have h1 := Nm.I9 18446744073709551616 hua1
  rw [hrl, hW1] at h1
  exact Nat.lt_of_le_of_lt (Nat.le_mul_of_pos_right _ (Nat.pow_pos (by decide))) h1
 refine ⟨hjn, hzl, ?_⟩
 clear hul hua
 obtain ⟨P, eff', N, w0, own0, av0, nu0, pk0⟩ := E
 simp only at hP
 subst hP
 cases s
 all_goals
  refine j5.of (eff := eff) b1G b0I (by exact c0d rfl) fun w own av ν hν => ?_
  simp only [a5k, l9, TT, II, OA, OB, OC, MM, LL, VV, FF, MG, LG, VG, FG, rw2, kx, ints]
  have hν0 : ν.length <= 2 := by rw [hν]; exact b9T _
  (repeat first | refine uA ?_ | (refine uK ?_ ?_; focus first | omega | trivial | (intro h; rw [h]; rfl) | (intro h h2; rw [h, h2]; rfl) | (intro h; (try simp at h); omega) | (intros; simp_all <;> omega)) | simp only [go_sem, Nat.reduceBEq, Nat.reduceAdd, Nat.reduceLeDiff, Int.reduceToNat, Int.reducePow, hq1, hq2, q8, hl1, hpn] | simp (disch := omega) only [ww, hq1, hq2, q8, hl1, hpn])
  (refine uJ rfl (fun hc => ?_) fun hc => ?_)
 ·(repeat first | refine uA ?_ | (refine uK ?_ ?_; focus first | omega | trivial | (intro h; rw [h]; rfl) | (intro h h2; rw [h, h2]; rfl) | (intro h; (try simp at h); omega) | (intros; simp_all <;> omega)) | simp only [go_sem, Nat.reduceBEq, Nat.reduceAdd, Nat.reduceLeDiff, Int.reduceToNat, Int.reducePow] | simp (disch := omega) only [ww])
  refine S.loop (X := Nat × List Nat) (fun s => ⟨[(0, .wv 1 1 l1 p), (1, ints b), (15, ints p), (16, ints s.1)], [.row 184 1 (ls o), .row 184 1 (ls (put u l1 s.2))]⟩) (fun s => s.1 <= p /\ Nm.a0u r0 (2 ^ b) s.1 s.2) (fun s => p - s.1) (0, r0) ⟨b9M _, Nm.a3i hua1⟩ (by simp only [hps]; exact Ent.mk _ _ (by (repeat first | refine uA ?_ | (refine ⟨?_, ?_⟩; focus first | rfl | trivial | (simp [slot]; done)) | rfl | trivial | simp)) (by (repeat first | refine uA ?_ | (refine ⟨?_, ?_⟩; focus first | rfl | trivial | (simp [slot]; done)) | rfl | trivial | simp)) hν0) ?_
  rintro ⟨i, out⟩ ⟨hi, hri⟩
  simp only [ints] at hi hri ⊢
  have hol := hri.1
  have hpl : (put u l1 out).length = u.length := U2 (by omega)
  (repeat first | refine uA ?_ | (refine uK ?_ ?_; focus first | omega | trivial | (intro h; rw [h]; rfl) | (intro h h2; rw [h, h2]; rfl) | (intro h; (try simp at h); omega) | (intros; simp_all <;> omega)) | simp only [go_sem, Nat.reduceBEq, Nat.reduceAdd, Nat.reduceLeDiff, Int.reduceToNat, Int.reducePow] | simp (disch := omega) only [ww])
  (refine uJ rfl (fun hc => ?_) fun hc => ?_)
  ·have hi' : i < p := by omega
   have hir : i < r0.length := by omega
   have hgr : r0[i]? = some (r0[i]'hir) := b9I hir
   have hgo : (put u l1 out)[l1 + i]? = some (r0[i]'hir) := by
    rw [O0 (by omega) (by omega), Nm.V9 hri.2.2.1, hgr]
   have hr32' := hua1 _ (b9S hir)
   have hk := fun t ht => Nm.a3p (t := t) hri hb64 hir hua1 ht
   have hset : ∀ a, (put u l1 out).set (l1 + i) a = put u l1 (out.set i a) := fun a => T9 (by omega) (by omega)
   generalize r0[i]'hir = ri at *
   have hsh : Int.fdiv (ri : Int) (2 ^ min b 64) = ((ri / 2 ^ b : Nat) : Int) := by
    rw [show min b 64 = b by omega, <- a0X]; congr 1
   have hrb : ri / 2 ^ b < 18446744073709551616 := Nat.lt_of_le_of_lt (Nat.div_le_self _ _) hr32'
   generalize ri / 2 ^ b = rs at *
   (repeat first | refine uA ?_ | (refine uK ?_ ?_; focus first | omega | trivial | (intro h; rw [h]; rfl) | (intro h h2; rw [h, h2]; rfl) | (intro h; (try simp at h); omega) | (intros; simp_all <;> omega)) | simp only [go_sem, Nat.reduceBEq, Nat.reduceAdd, Nat.reduceLeDiff, Int.reduceToNat, Int.reducePow, q8, H6, hgo, hpl, b9J, lm, Q5, hsh, hset] | simp (disch := omega) only [ww, q8, H6, hgo, hpl, b9J, lm, Q5, hsh, hset])
   (refine uJ rfl (fun hc => ?_) fun hc => ?_)
   ·have hi1 : i + 1 < r0.length := by omega
    have hpl1 : (put u l1 (out.set i rs)).length = u.length := U2 (by rw [c0p]; omega)
    have hg1 : (put u l1 (out.set i rs))[l1 + i]? = some rs := by
     rw [<- hset, List.getElem?_set_self (by omega)]
    have hg3 : r0[i + 1]? = some (r0[i + 1]'hi1) := b9I hi1
    have hg2 : (put u l1 (out.set i rs))[l1 + (i + 1)]? = some (r0[i + 1]'hi1) := by
     have := O0 (us := u) (out := out) (k := l1) (i := i + 1) (by omega) (by omega)
     rw [<- hset, List.getElem?_set_ne (by omega), this]
     have h3 := congrArg (fun l => l[1]?) hri.2.2.1
     simp only [c0v] at h3
     rw [h3, hg3]
    have hn32 := hua1 _ (b9S hi1)
    have hgd : r0.getD (i + 1) 0 = r0[i + 1]'hi1 := Nm.getD_lt hi1
    rw [hgd] at hk
    generalize r0[i + 1]'hi1 = rn at *
    have hshl := a9w rn (64 - b) (by omega)
    have hrr : ((64 : Int) - (b : Int)).toNat = 64 - b := by omega
    have horl := b0p rs (rn * 2 ^ (64 - b)) hrb
    have hk := hk _ rfl
    rw [if_pos (by omega)] at hk
    generalize rn * 2 ^ (64 - b) = sh at *
    generalize hto : rs ||| sh % 18446744073709551616 = to at *
    have hset2 : (put u l1 (out.set i rs)).set (l1 + i) to = put u l1 (out.set i to) := by
     have := T9 (us := u) (out := out.set i rs) (k := l1) (i := i) (v := to) (by rw [c0p]; omega) (by rw [c0p]; omega)
     rwa [List.set_set] at this
    have hi1n : ((i : Int) + 1).toNat = i + 1 := by omega
    (repeat first | refine uA ?_ | (refine uK ?_ ?_; focus first | omega | trivial | (intro h; rw [h]; rfl) | (intro h h2; rw [h, h2]; rfl) | (intro h; (try simp at h); omega) | (intros; simp_all <;> omega)) | simp only [go_sem, Nat.reduceBEq, Nat.reduceAdd, Nat.reduceLeDiff, Int.reduceToNat, Int.reducePow, q8, H6, hg1, hg2, hpl1, b9J, lm, hrr, hi1n, hshl, horl, Q5, hset2] | simp (disch := omega) only [ww, q8, H6, hg1, hg2, hpl1, b9J, lm, hrr, hi1n, hshl, horl, Q5, hset2])
    refine S.next (x := (i, out)) (i + 1, _) ⟨hi', hk.1⟩ (by simp only; omega) (Ent.mk _ _ (by (repeat first | refine uA ?_ | (refine ⟨?_, ?_⟩; focus first | rfl | trivial | (simp [slot]; done)) | rfl | trivial | simp)) (by (repeat first | refine uA ?_ | (refine ⟨?_, ?_⟩; focus first | rfl | trivial | (simp [slot]; done)) | rfl | trivial | simp)) hν0)
   ·have hk := hk _ rfl
    rw [if_neg (by omega)] at hk
    (repeat first | refine uA ?_ | (refine uK ?_ ?_; focus first | omega | trivial | (intro h; rw [h]; rfl) | (intro h h2; rw [h, h2]; rfl) | (intro h; (try simp at h); omega) | (intros; simp_all <;> omega)) | simp only [go_sem, Nat.reduceBEq, Nat.reduceAdd, Nat.reduceLeDiff, Int.reduceToNat, Int.reducePow] | simp (disch := omega) only [ww])
    refine S.next (x := (i, out)) (i + 1, _) ⟨hi', hk.1⟩ (by simp only; omega) (Ent.mk _ _ (by (repeat first | refine uA ?_ | (refine ⟨?_, ?_⟩; focus first | rfl | trivial | (simp [slot]; done)) | rfl | trivial | simp)) (by (repeat first | refine uA ?_ | (refine ⟨?_, ?_⟩; focus first | rfl | trivial | (simp [slot]; done)) | rfl | trivial | simp)) hν0)
  ·have hi' : i = p := by omega
   subst hi'
   rw [<- hrl] at hri
   have he := Nm.a3N hri (by omega) hW1
   have hd : out = Nm.dig 18446744073709551616 i z := Nm.P9 (by decide) hri.2.1 (by omega) he
   rw [<- hd]
   have hcut := fun (E : Ctx) (hP : E.P = Tryz.prog) => a6a (E := E) hP (match 1 with | 0 => true | _ => false) (put u l1 out) o l1 i (by omega) (by omega) (by omega)
   rw [a1f (by omega) (by omega)] at hcut
   (repeat first | refine uA ?_ | (refine uK ?_ ?_; focus first | omega | trivial | (intro h; rw [h]; rfl) | (intro h h2; rw [h, h2]; rfl) | (intro h; (try simp at h); omega) | (intros; simp_all <;> omega)) | simp only [go_sem, Nat.reduceBEq, Nat.reduceAdd, Nat.reduceLeDiff, Int.reduceToNat, Int.reducePow] | simp (disch := omega) only [ww] | refine l7.t (hcut _ rfl) ?_)
   exact S.done (d9.own rfl)
 ·have hb0 : b = 0 := by omega
  subst hb0
  rw [Nat.pow_zero, Nat.mul_one] at hW1
  have hd : r0 = Nm.dig 18446744073709551616 p z := Nm.P9 (by decide) hua1 hrl hW1
  have hcut := fun (E : Ctx) (hP : E.P = Tryz.prog) => a6a (E := E) hP (match 1 with | 0 => true | _ => false) u o l1 p (by omega) (by omega) (by omega)
  have hw : (u.drop l1).take p = r0 := by rw [<- hps]; exact a1f hrl.symm (by omega)
  rw [hw] at hcut
  rw [<- hd, hps]
  (repeat first | refine uA ?_ | (refine uK ?_ ?_; focus first | omega | trivial | (intro h; rw [h]; rfl) | (intro h h2; rw [h, h2]; rfl) | (intro h; (try simp at h); omega) | (intros; simp_all <;> omega)) | simp only [go_sem, Nat.reduceBEq, Nat.reduceAdd, Nat.reduceLeDiff, Int.reduceToNat, Int.reducePow] | simp (disch := omega) only [ww] | refine l7.t (hcut _ rfl) ?_)
  exact S.done (d9.own rfl)
 ·(repeat first | refine uA ?_ | (refine uK ?_ ?_; focus first | omega | trivial | (intro h; rw [h]; rfl) | (intro h h2; rw [h, h2]; rfl) | (intro h; (try simp at h); omega) | (intros; simp_all <;> omega)) | simp only [go_sem, Nat.reduceBEq, Nat.reduceAdd, Nat.reduceLeDiff, Int.reduceToNat, Int.reducePow] | simp (disch := omega) only [ww])
  refine S.loop (X := Nat × List Nat) (fun s => ⟨[(0, .wv 0 1 l1 p), (1, ints b), (15, ints p), (16, ints s.1)], [.row 184 1 (ls (put u l1 s.2)), .row 184 1 (ls o)]⟩) (fun s => s.1 <= p /\ Nm.a0u r0 (2 ^ b) s.1 s.2) (fun s => p - s.1) (0, r0) ⟨b9M _, Nm.a3i hua1⟩ (by simp only [hps]; exact Ent.mk _ _ (by (repeat first | refine uA ?_ | (refine ⟨?_, ?_⟩; focus first | rfl | trivial | (simp [slot]; done)) | rfl | trivial | simp)) (by (repeat first | refine uA ?_ | (refine ⟨?_, ?_⟩; focus first | rfl | trivial | (simp [slot]; done)) | rfl | trivial | simp)) hν0) ?_
  rintro ⟨i, out⟩ ⟨hi, hri⟩
  simp only [ints] at hi hri ⊢
  have hol := hri.1
  have hpl : (put u l1 out).length = u.length := U2 (by omega)
  (repeat first | refine uA ?_ | (refine uK ?_ ?_; focus first | omega | trivial | (intro h; rw [h]; rfl) | (intro h h2; rw [h, h2]; rfl) | (intro h; (try simp at h); omega) | (intros; simp_all <;> omega)) | simp only [go_sem, Nat.reduceBEq, Nat.reduceAdd, Nat.reduceLeDiff, Int.reduceToNat, Int.reducePow] | simp (disch := omega) only [ww])
  (refine uJ rfl (fun hc => ?_) fun hc => ?_)
  ·have hi' : i < p := by omega
   have hir : i < r0.length := by omega
   have hgr : r0[i]? = some (r0[i]'hir) := b9I hir
   have hgo : (put u l1 out)[l1 + i]? = some (r0[i]'hir) := by
    rw [O0 (by omega) (by omega), Nm.V9 hri.2.2.1, hgr]
   have hr32' := hua1 _ (b9S hir)
   have hk := fun t ht => Nm.a3p (t := t) hri hb64 hir hua1 ht
   have hset : ∀ a, (put u l1 out).set (l1 + i) a = put u l1 (out.set i a) := fun a => T9 (by omega) (by omega)
   generalize r0[i]'hir = ri at *
   have hsh : Int.fdiv (ri : Int) (2 ^ min b 64) = ((ri / 2 ^ b : Nat) : Int) := by
    rw [show min b 64 = b by omega, <- a0X]; congr 1
   have hrb : ri / 2 ^ b < 18446744073709551616 := Nat.lt_of_le_of_lt (Nat.div_le_self _ _) hr32'
   generalize ri / 2 ^ b = rs at *
   (repeat first | refine uA ?_ | (refine uK ?_ ?_; focus first | omega | trivial | (intro h; rw [h]; rfl) | (intro h h2; rw [h, h2]; rfl) | (intro h; (try simp at h); omega) | (intros; simp_all <;> omega)) | simp only [go_sem, Nat.reduceBEq, Nat.reduceAdd, Nat.reduceLeDiff, Int.reduceToNat, Int.reducePow, q8, H6, hgo, hpl, b9J, lm, Q5, hsh, hset] | simp (disch := omega) only [ww, q8, H6, hgo, hpl, b9J, lm, Q5, hsh, hset])
   (refine uJ rfl (fun hc => ?_) fun hc => ?_)
   ·have hi1 : i + 1 < r0.length := by omega
    have hpl1 : (put u l1 (out.set i rs)).length = u.length := U2 (by rw [c0p]; omega)
    have hg1 : (put u l1 (out.set i rs))[l1 + i]? = some rs := by
     rw [<- hset, List.getElem?_set_self (by omega)]
    have hg3 : r0[i + 1]? = some (r0[i + 1]'hi1) := b9I hi1
    have hg2 : (put u l1 (out.set i rs))[l1 + (i + 1)]? = some (r0[i + 1]'hi1) := by
     have := O0 (us := u) (out := out) (k := l1) (i := i + 1) (by omega) (by omega)
     rw [<- hset, List.getElem?_set_ne (by omega), this]
     have h3 := congrArg (fun l => l[1]?) hri.2.2.1
     simp only [c0v] at h3
     rw [h3, hg3]
    have hn32 := hua1 _ (b9S hi1)
    have hgd : r0.getD (i + 1) 0 = r0[i + 1]'hi1 := Nm.getD_lt hi1
    rw [hgd] at hk
    generalize r0[i + 1]'hi1 = rn at *
    have hshl := a9w rn (64 - b) (by omega)
    have hrr : ((64 : Int) - (b : Int)).toNat = 64 - b := by omega
    have horl := b0p rs (rn * 2 ^ (64 - b)) hrb
    have hk := hk _ rfl
    rw [if_pos (by omega)] at hk
    generalize rn * 2 ^ (64 - b) = sh at *
    generalize hto : rs ||| sh % 18446744073709551616 = to at *
    have hset2 : (put u l1 (out.set i rs)).set (l1 + i) to = put u l1 (out.set i to) := by
     have := T9 (us := u) (out := out.set i rs) (k := l1) (i := i) (v := to) (by rw [c0p]; omega) (by rw [c0p]; omega)
     rwa [List.set_set] at this
    have hi1n : ((i : Int) + 1).toNat = i + 1 := by omega
    (repeat first | refine uA ?_ | (refine uK ?_ ?_; focus first | omega | trivial | (intro h; rw [h]; rfl) | (intro h h2; rw [h, h2]; rfl) | (intro h; (try simp at h); omega) | (intros; simp_all <;> omega)) | simp only [go_sem, Nat.reduceBEq, Nat.reduceAdd, Nat.reduceLeDiff, Int.reduceToNat, Int.reducePow, q8, H6, hg1, hg2, hpl1, b9J, lm, hrr, hi1n, hshl, horl, Q5, hset2] | simp (disch := omega) only [ww, q8, H6, hg1, hg2, hpl1, b9J, lm, hrr, hi1n, hshl, horl, Q5, hset2])
    refine S.next (x := (i, out)) (i + 1, _) ⟨hi', hk.1⟩ (by simp only; omega) (Ent.mk _ _ (by (repeat first | refine uA ?_ | (refine ⟨?_, ?_⟩; focus first | rfl | trivial | (simp [slot]; done)) | rfl | trivial | simp)) (by (repeat first | refine uA ?_ | (refine ⟨?_, ?_⟩; focus first | rfl | trivial | (simp [slot]; done)) | rfl | trivial | simp)) hν0)
   ·have hk := hk _ rfl
    rw [if_neg (by omega)] at hk
    (repeat first | refine uA ?_ | (refine uK ?_ ?_; focus first | omega | trivial | (intro h; rw [h]; rfl) | (intro h h2; rw [h, h2]; rfl) | (intro h; (try simp at h); omega) | (intros; simp_all <;> omega)) | simp only [go_sem, Nat.reduceBEq, Nat.reduceAdd, Nat.reduceLeDiff, Int.reduceToNat, Int.reducePow] | simp (disch := omega) only [ww])
    refine S.next (x := (i, out)) (i + 1, _) ⟨hi', hk.1⟩ (by simp only; omega) (Ent.mk _ _ (by (repeat first | refine uA ?_ | (refine ⟨?_, ?_⟩; focus first | rfl | trivial | (simp [slot]; done)) | rfl | trivial | simp)) (by (repeat first | refine uA ?_ | (refine ⟨?_, ?_⟩; focus first | rfl | trivial | (simp [slot]; done)) | rfl | trivial | simp)) hν0)
  ·have hi' : i = p := by omega
   subst hi'
   rw [<- hrl] at hri
   have he := Nm.a3N hri (by omega) hW1
   have hd : out = Nm.dig 18446744073709551616 i z := Nm.P9 (by decide) hri.2.1 (by omega) he
   rw [<- hd]
   have hcut := fun (E : Ctx) (hP : E.P = Tryz.prog) => a6a (E := E) hP (match 0 with | 0 => true | _ => false) (put u l1 out) o l1 i (by omega) (by omega) (by omega)
   rw [a1f (by omega) (by omega)] at hcut
   (repeat first | refine uA ?_ | (refine uK ?_ ?_; focus first | omega | trivial | (intro h; rw [h]; rfl) | (intro h h2; rw [h, h2]; rfl) | (intro h; (try simp at h); omega) | (intros; simp_all <;> omega)) | simp only [go_sem, Nat.reduceBEq, Nat.reduceAdd, Nat.reduceLeDiff, Int.reduceToNat, Int.reducePow] | simp (disch := omega) only [ww] | refine l7.t (hcut _ rfl) ?_)
   exact S.done (d9.own rfl)
 ·have hb0 : b = 0 := by omega
  subst hb0
  rw [Nat.pow_zero, Nat.mul_one] at hW1
  have hd : r0 = Nm.dig 18446744073709551616 p z := Nm.P9 (by decide) hua1 hrl hW1
  have hcut := fun (E : Ctx) (hP : E.P = Tryz.prog) => a6a (E := E) hP (match 0 with | 0 => true | _ => false) u o l1 p (by omega) (by omega) (by omega)
  have hw : (u.drop l1).take p = r0 := by rw [<- hps]; exact a1f hrl.symm (by omega)
  rw [hw] at hcut
  rw [<- hd, hps]
  (repeat first | refine uA ?_ | (refine uK ?_ ?_; focus first | omega | trivial | (intro h; rw [h]; rfl) | (intro h h2; rw [h, h2]; rfl) | (intro h; (try simp at h); omega) | (intros; simp_all <;> omega)) | simp only [go_sem, Nat.reduceBEq, Nat.reduceAdd, Nat.reduceLeDiff, Int.reduceToNat, Int.reducePow] | simp (disch := omega) only [ww] | refine l7.t (hcut _ rfl) ?_)
  exact S.done (d9.own rfl)
structure Win (u : List Nat) (lo n v : Nat) : Prop where
 hn : lo + n <= u.length
 hlo : lo < u.length
 hl : u.length <= 17179869184
 ha : Nm.J3 u
 hv : Nm.wv 18446744073709551616 ((u.drop lo).take n) = v
 ht : Nm.E8 ((u.drop lo).take n) = (u.drop lo).take n
theorem Win.len {u : List Nat} {lo n v : Nat} (h : Win u lo n v) : ((u.drop lo).take n).length = n := by
 have := h.hn
 rw [b9V, c0y]; omega
theorem b5H {us a : List Nat} {k : Nat} (hu : Nm.J3 us) (ha : Nm.J3 a) : Nm.J3 (put us k a) := fun w hw => by
 simp only [put, List.mem_append] at hw
 rcases hw with (hw | hw) | hw
 ·exact hu w (List.mem_of_mem_take hw)
 ·exact ha w hw
 ·exact hu w (List.mem_of_mem_drop hw)
theorem Win.put {u : List Nat} {l1 p z : Nat} (h1 : l1 + p <= u.length) (h2 : l1 < u.length) (hl : u.length <= 17179869184) (ha : Nm.J3 u) (hz : z < 18446744073709551616 ^ p) :
  Win (put u l1 (Nm.dig 18446744073709551616 p z)) l1 (Nm.E8 (Nm.dig 18446744073709551616 p z)).length z := by
 have hpl : (Go.Proofs.YtgmlehjgpgdjhaaGreatDoor.put u l1 (Nm.dig 18446744073709551616 p z)).length = u.length := U2 (by rw [Nm.H7]; omega)
 have htl := Nm.b5d (Nm.dig 18446744073709551616 p z)
 rw [Nm.H7] at htl
 have hw : ((Go.Proofs.YtgmlehjgpgdjhaaGreatDoor.put u l1 (Nm.dig 18446744073709551616 p z)).drop l1).take (Nm.E8 (Nm.dig 18446744073709551616 p z)).length = Nm.E8 (Nm.dig 18446744073709551616 p z) := by
  have e := a1f (us := u) (k := l1) (a := Nm.dig 18446744073709551616 p z) (n := p) (Nm.H7 _ _ _).symm (by rw [Nm.H7]; omega)
  have e2 := congrArg (List.take (Nm.E8 (Nm.dig 18446744073709551616 p z)).length) e
  rw [List.take_take, Nat.min_eq_left htl, Nm.b3S] at e2
  exact e2
 refine ⟨by rw [hpl]; omega, by rw [hpl]; exact h2, by rw [hpl]; exact hl, b5H ha (Nm.Z8 (by decide) _ _), ?_, ?_⟩
 ·rw [hw, Nm.b6w, Nm.P5 hz]
 ·rw [hw]
  have h4 : ∀ l, Nm.E8 (Nm.E8 l) = Nm.E8 l := fun l => by
   by_cases h : Nm.E8 l = []
   ·rw [h]; rfl
   ·have h5 := Nm.a7j l h
    have h6 : Nm.E8 l = (Nm.E8 l).dropLast ++ [(Nm.E8 l).getLast h] := (List.dropLast_concat_getLast h).symm
    rw [h6, Nm.a2u h5]
  exact h4 _
theorem Win.last {u : List Nat} {lo n v : Nat} (h : Win u lo n v) : ∀ hh : (u.drop lo).take n ≠ [], ((u.drop lo).take n).getLast hh ≠ 0 := by
 have ht := h.ht
 generalize (u.drop lo).take n = x at *
 intro hh
 have := Nm.a7j x (by rw [ht]; exact hh)
 simpa only [ht] using this
theorem Win.all {u : List Nat} {lo n v : Nat} (h : Win u lo n v) : Nm.J3 ((u.drop lo).take n) := (h.ha.drop lo).take n
theorem Win.zero {u : List Nat} {lo n v : Nat} (h : Win u lo n v) (h0 : v = 0) : n = 0 := by
 rcases c0f n with h1 | h1
 ·exact h1
 ·exfalso
  have hl := h.len
  have hla := h.last
  have hv := h.hv
  generalize (u.drop lo).take n = x at *
  have hne : x ≠ [] := fun e => by subst e; simp at hl; omega
  have h2 := Nm.b0h (B := 18446744073709551616) (l := x.dropLast) (hla hne)
  rw [List.dropLast_concat_getLast hne] at h2
  have := Nat.pow_pos (n := x.dropLast.length) (show 0 < 18446744073709551616 by decide)
  omega
theorem Win.nonzero {u : List Nat} {lo n v : Nat} (h : Win u lo n v) (h0 : n = 0) : v = 0 := by
 have := h.hv; subst h0; rw [<- this]; rfl
theorem Win.le {u o : List Nat} {lo n v lo2 n2 v2 : Nat} (h : Win u lo n v) (h2 : Win o lo2 n2 v2) (hle : v2 <= v) : n2 <= n := by
 rcases c0j n n2 with h1 | h1
 ·exfalso
  have hl := h2.len
  have hla := h2.last
  have hv := h2.hv
  have hl1 := Nm.I9 18446744073709551616 h.all
  rw [h.len, h.hv] at hl1
  generalize (o.drop lo2).take n2 = x at *
  have hne : x ≠ [] := fun e => by subst e; simp at hl; omega
  have h3 := Nm.b0h (B := 18446744073709551616) (l := x.dropLast) (hla hne)
  rw [List.dropLast_concat_getLast hne, List.length_dropLast] at h3
  have h4 : 18446744073709551616 ^ n <= 18446744073709551616 ^ (x.length - 1) := c0i (by decide) (by omega)
  omega
 ·exact h1
theorem Win.v2 {u : List Nat} {lo n v : Nat} (h : Win u lo n v) (h0 : v ≠ 0) : Nm.v2 v <= 70368744177664 := by
 obtain ⟨q, h1, h2⟩ := Nm.a1C h0
 have hl1 := Nm.I9 18446744073709551616 h.all
 rw [h.len, h.hv] at hl1
 have h3 : 2 ^ Nm.v2 v <= v := by
  conv => rhs; rw [h1]
  exact Nat.le_mul_of_pos_right _ (by omega)
 have h4 : 2 ^ Nm.v2 v < 2 ^ (64 * n) := by rw [Nat.pow_mul]; exact Nat.lt_of_le_of_lt h3 hl1
 have h5 := (Nat.pow_lt_pow_iff_right (by decide : 1 < 2)).1 h4
 have := h.hn; have := h.hl
 omega
namespace Nm
theorem b7m (n k : Nat) (h : k < 8) : (be8 n)[k]? = some (oB (n / 2 ^ (56 - 8 * k))) := by
 have : k = 0 \/ k = 1 \/ k = 2 \/ k = 3 \/ k = 4 \/ k = 5 \/ k = 6 \/ k = 7 := by omega
 rcases this with rfl | rfl | rfl | rfl | rfl | rfl | rfl | rfl <;> simp [be8]
theorem a5P (n : Nat) : (be8 n).length = 8 := rfl
def a0N (l : List Nat) : List UInt8 := (l.reverse.map be8).flatten
theorem a7M (l : List Nat) (x : Nat) : a0N (l ++ [x]) = be8 x ++ a0N l := by simp [a0N]
theorem a9g (r : List Nat) (h : J3 r.reverse) : (a0N r.reverse).length = 8 * r.length /\ val (a0N r.reverse) = wv 18446744073709551616 r.reverse := by
 induction r with
 | nil => exact ⟨rfl, rfl⟩
 | cons x r ih =>
  rw [List.reverse_cons] at h ⊢
  obtain ⟨h1, h2⟩ := ih fun w hw => h w (List.mem_append_left _ hw)
  rw [a7M, a5T, b2Y, h1, h2, b3j (h x (by simp)), List.length_reverse, b9X, a5P, h1, c0l]
  refine ⟨by omega, ?_⟩
  rw [Nat.pow_mul, show (256 : Nat) ^ 8 = 18446744073709551616 by decide, Nat.mul_comm x, Nat.add_comm]
theorem a9I {l : List Nat} (h : J3 l) : (a0N l).length = 8 * l.length := by
 have := (a9g l.reverse (by simpa using h)).1
 simpa using this
theorem b4J {l : List Nat} (h : J3 l) : val (a0N l) = wv 18446744073709551616 l := by
 have := (a9g l.reverse (by simpa using h)).2
 simpa using this
def a0C (l : List Nat) (i k : Nat) : List UInt8 := List.replicate (8 * (l.length - 1 - i)) 0 ++ ((be8 (l.getD i 0)).take k ++ List.replicate (8 - k) 0) ++ a0N (l.take i)
def a2L (l : List Nat) (i : Nat) : List UInt8 := List.replicate (8 * (l.length - i)) 0 ++ a0N (l.take i)
theorem b4S (l : List Nat) : a2L l 0 = List.replicate (8 * l.length) 0 := by simp [a2L, a0N]
theorem b0s (l : List Nat) : a2L l l.length = a0N l := by simp [a2L]
theorem a8R {l : List Nat} {i : Nat} (h : i < l.length) : a0C l i 0 = a2L l i := by
 rw [a0C, a2L, List.take_zero, List.nil_append, Nat.sub_zero, List.replicate_append_replicate]
 congr 2; omega
theorem a7N {l : List Nat} {i : Nat} (h : i < l.length) : a0C l i 8 = a2L l (i + 1) := by
 have e : l.take (i + 1) = l.take i ++ [l.getD i 0] := by
  rw [List.take_add_one, b9Q, b9I h]; rfl
 rw [a0C, a2L, e, a7M, c0k (by rw [a5P]; exact b9T _), Nat.sub_self, List.replicate_zero, List.append_nil, c0t]
 congr 3; omega
theorem b1M {l : List Nat} (hl : J3 l) {i k : Nat} (h : i < l.length) (hk : k <= 8) : (a0C l i k).length = 8 * l.length := by
 simp only [a0C, b9X, List.length_replicate, b9V, a5P, a9I (hl.take i), b9V]
 omega
theorem a9c {l : List Nat} {i k : Nat} (hk : k < 8) : (a0C l i k).set (8 * (l.length - 1 - i) + k) (oB (l.getD i 0 / 2 ^ (56 - 8 * k))) = a0C l i (k + 1) := by
 have e : (be8 (l.getD i 0)).take (k + 1) = (be8 (l.getD i 0)).take k ++ [oB (l.getD i 0 / 2 ^ (56 - 8 * k))] := by
  rw [List.take_add_one, b7m _ _ hk]; rfl
 have e2 : List.replicate (8 - k) (0 : UInt8) = 0 :: List.replicate (8 - (k + 1)) 0 := by rw [<- List.replicate_succ]; congr 1; omega
 have hlk : ((be8 (l.getD i 0)).take k).length = k := by rw [b9V, a5P]; omega
 rw [a0C, a0C, e, e2, List.set_append_left _ _ (by simp only [b9X, List.length_replicate, hlk, c0l]; omega), List.set_append_right _ _ (by simp), List.length_replicate, Nat.add_sub_cancel_left, List.set_append_right _ _ (by omega), hlk, Nat.sub_self, List.set_cons_zero, c0t (List.take k _), List.singleton_append]
theorem b5N (n : Nat) : val (oB (2 ^ (n % 8)) :: List.replicate (n / 8) 0) = 2 ^ n := by
 have h0 : val (List.replicate (n / 8) (0 : UInt8)) = 0 := by
  generalize n / 8 = k
  induction k with
  | zero => rfl
  | succ k ih => rw [List.replicate_succ, R6, ih]; simp
 have h1 : 2 ^ (n % 8) < 256 := by
  have : 2 ^ (n % 8) <= 2 ^ 7 := c0i (by decide) (by omega)
  omega
 rw [R6, h0, a0K, Nat.mod_eq_of_lt h1, List.length_replicate, Nat.add_zero, show (256 : Nat) = 2 ^ 8 by decide, <- Nat.pow_mul, <- Nat.pow_add]
 congr 1; omega
end Nm
structure Hv where
 s : Bool
 u : List Nat
 lo : Nat
 n : Nat
 v : Nat
 o : List Nat
 lo2 : Nat
 n2 : Nat
 v2 : Nat
theorem b6u (a b : List UInt8) (ha : a.length <= 68719476736) (hb : b.length <= 68719476736) (h0a : Nm.val a ≠ 0) (h0b : Nm.val b ≠ 0) : FZ 136 [sb a, sb b] (sb (Nm.enc (Nat.gcd (Nm.val a) (Nm.val b)))) := by
  refine kW a9P b0b (by rfl) fun w O hw => ?_
  simp only [a4L, l9, TT, II, OA, OB, OC, MM, LL, VV, FF, MG, LG, VG, FG, sb]
  have hla := b3m a (by omega)
  have hlb := b3m b (by omega)
  have hva := Nm.a7J a
  have hvb := Nm.a7J b
  have haa := Nm.a7V a
  have hab := Nm.a7V b
  have hna := Nm.a6A a
  have hnb := Nm.a6A b
  obtain ⟨za, hza, hoa⟩ := Nm.a1C h0a
  obtain ⟨zb, hzb, hob⟩ := Nm.a1C h0b
  have hG : Nat.gcd (Nm.val a) (Nm.val b) = 2 ^ (min (Nm.v2 (Nm.val a)) (Nm.v2 (Nm.val b))) * Nat.gcd za zb := by
    conv => lhs; rw [hza, hzb]
    exact Nm.b6y hoa hob
  rw [hG]
  have fea := a6g (Nm.M4 a) (by omega) haa (by rw [hva]; exact h0a)
  have feb := a6g (Nm.M4 b) (by omega) hab (by rw [hvb]; exact h0b)
  rw [hva] at fea
  rw [hvb] at feb
  have hba : Nm.v2 (Nm.val a) <= 549755813888 := by
    have h1 := Nm.R4 a
    have h3 : 2 ^ Nm.v2 (Nm.val a) <= Nm.val a := by
      conv => rhs; rw [hza]
      exact Nat.le_mul_of_pos_right _ (by omega)
    have h4 : 2 ^ Nm.v2 (Nm.val a) < 2 ^ (8 * a.length) := by rw [Nat.pow_mul]; exact Nat.lt_of_le_of_lt h3 h1
    have h5 := (Nat.pow_lt_pow_iff_right (by decide : 1 < 2)).1 h4
    omega
  have hbb : Nm.v2 (Nm.val b) <= 549755813888 := by
    have h1 := Nm.R4 b
    have h3 : 2 ^ Nm.v2 (Nm.val b) <= Nm.val b := by
      conv => rhs; rw [hzb]
      exact Nat.le_mul_of_pos_right _ (by omega)
    have h4 : 2 ^ Nm.v2 (Nm.val b) < 2 ^ (8 * b.length) := by rw [Nat.pow_mul]; exact Nat.lt_of_le_of_lt h3 h1
    have h5 := (Nat.pow_lt_pow_iff_right (by decide : 1 < 2)).1 h4
    omega
  have hla0 : 0 < (Nm.M4 a).length := by
    rcases c0f (Nm.M4 a).length with h | h
    · have := List.length_eq_zero_iff.1 h
      rw [this] at hva; exact absurd hva.symm h0a
    · exact h
  have hlb0 : 0 < (Nm.M4 b).length := by
    rcases c0f (Nm.M4 b).length with h | h
    · have := List.length_eq_zero_iff.1 h
      rw [this] at hvb; exact absurd hvb.symm h0b
    · exact h
  generalize Nm.v2 (Nm.val a) = p at *
  generalize Nm.v2 (Nm.val b) = q at *
  have hwa : Nm.wv 18446744073709551616 (((Nm.M4 a).drop 0).take (Nm.M4 a).length) = za * 2 ^ p := by
    rw [List.drop_zero, c0m, hva, hza, Nat.mul_comm]
  have hwb : Nm.wv 18446744073709551616 (((Nm.M4 b).drop 0).take (Nm.M4 b).length) = zb * 2 ^ q := by
    rw [List.drop_zero, c0m, hvb, hzb, Nat.mul_comm]
  clear hG hza hzb hva hvb h0a h0b
  generalize hA : Nm.M4 a = A at *
  generalize hB : Nm.M4 b = B at *
  have hr1 := fun (E : Ctx) (hP : E.P = Tryz.prog) => a6i (E := E) hP true A B 0 A.length p za (by omega) (by omega) (by omega) haa (by omega) hwa
  obtain ⟨hj1, hz1, _⟩ := hr1 ⟨Tryz.prog, eff, 0, w, fun _ => False, O, [], []⟩ rfl
  have hr1 := fun E hP => (hr1 E hP).2.2
  have hW1 := Win.put (u := A) (l1 := 0 + p / 64) (p := A.length - p / 64) (z := za) (by omega) (by omega) (by omega) haa hz1
  generalize hA1 : put A (0 + p / 64) (Nm.dig 18446744073709551616 (A.length - p / 64) za) = A1 at *
  generalize 0 + p / 64 = la at *
  generalize (Nm.E8 (Nm.dig 18446744073709551616 (A.length - p / 64) za)).length = na at *
  have hr2 := fun (E : Ctx) (hP : E.P = Tryz.prog) => a6i (E := E) hP false B A1 0 B.length q zb (by omega) (by omega) (by omega) hab (by omega) hwb
  obtain ⟨hj2, hz2, _⟩ := hr2 ⟨Tryz.prog, eff, 0, w, fun _ => False, O, [], []⟩ rfl
  have hr2 := fun E hP => (hr2 E hP).2.2
  have hW2 := Win.put (u := B) (l1 := 0 + q / 64) (p := B.length - q / 64) (z := zb) (by omega) (by omega) (by omega) hab hz2
  generalize hB1 : put B (0 + q / 64) (Nm.dig 18446744073709551616 (B.length - q / 64) zb) = B1 at *
  generalize 0 + q / 64 = lb at *
  generalize (Nm.E8 (Nm.dig 18446744073709551616 (B.length - q / 64) zb)).length = nb at *
  have hr1' : ∀ (E : Ctx), E.P = Tryz.prog -> j5 E [.row 184 1 (ls A), .row 184 1 (ls B)] 149 [.rv 0, ints p] (.wv 0 1 la na) [.row 184 1 (ls A1), .row 184 1 (ls B)] [] := fun E hP => j5.imp (hr1 E hP) (l8.cons (Imp.win (k := 0) (e := 184) (sz := 1) (es := ls A) rfl (q8 _).symm (by simp)) (l8.cons (Imp.refl rfl) l8.nil))
  have hr2' : ∀ (E : Ctx), E.P = Tryz.prog -> j5 E [.row 184 1 (ls A1), .row 184 1 (ls B)] 149 [.rv 1, ints q] (.wv 1 1 lb nb) [.row 184 1 (ls A1), .row 184 1 (ls B1)] [] := fun E hP => j5.imp (hr2 E hP) (l8.cons (Imp.win (k := 1) (e := 184) (sz := 1) (es := ls B) rfl (q8 _).symm (by simp)) (l8.cons (Imp.refl rfl) l8.nil))
  (repeat first | refine uA ?_ | (refine uK ?_ ?_; focus first | omega | trivial | (intro h; rw [h]; rfl) | (intro h h2; rw [h, h2]; rfl) | (intro h; (try simp at h); omega) | (intros; simp_all <;> omega)) | simp only [go_sem, Nat.reduceBEq, Nat.reduceAdd, Nat.reduceLeDiff, Int.reduceToNat, Int.reducePow] | simp (disch := omega) only [ww] | refine l7.t (FNew.t hla rfl) ?_ | refine l7.t (FNew.t hlb rfl) ?_ | refine l7.t (hr1' _ rfl) ?_ | refine l7.t (hr2' _ rfl) ?_ | (refine uE fea ?_ ?_ ?_ ?_; exact tz hw; exact rfl; focus (repeat' first | exact l8.nil | exact Imp.refl rfl | exact Imp.frz rfl rfl rfl | (refine Imp.Y5 rfl rfl ?_ ?_; (focus ((try simp only [b9X]); omega)); (focus first | rfl | assumption)) | refine l8.cons ?_ ?_); done) | (refine uE feb ?_ ?_ ?_ ?_; exact tz hw; exact rfl; focus (repeat' first | exact l8.nil | exact Imp.refl rfl | exact Imp.frz rfl rfl rfl | (refine Imp.Y5 rfl rfl ?_ ?_; (focus ((try simp only [b9X]); omega)); (focus first | rfl | assumption)) | refine l8.cons ?_ ?_); done))
  clear hr1 hr2 hr1' hr2' hla hlb fea feb hwa hwb hA hB hA1 hB1 hz1 hz2 hj1 hj2 haa hab hla0 hlb0 hna hnb
  have hmin : min p q <= 549755813888 := by omega
  generalize hG : Nat.gcd za zb = G at *
  refine S.b7g (Y := Hv) (fun x => ⟨[(5, .wv (kx x.s) 1 x.lo x.n), (6, .wv (kx !x.s) 1 x.lo2 x.n2), (7, ints p), (8, ints q)], rw2 x.s x.u x.o⟩)
    (fun x => Win x.u x.lo x.n x.v /\ Win x.o x.lo2 x.n2 x.v2 /\ ((x.n = 0 /\ x.v2 = G) \/ (x.n = 1 /\ x.n2 = 1 /\ Nat.gcd x.v x.v2 = G))) ?_ ?_
  · refine S.loop (X := Hv) (fun x => ⟨[(5, .wv (kx x.s) 1 x.lo x.n), (6, .wv (kx !x.s) 1 x.lo2 x.n2), (7, ints p), (8, ints q)], rw2 x.s x.u x.o⟩)
      (fun x => Win x.u x.lo x.n x.v /\ Win x.o x.lo2 x.n2 x.v2 /\ x.v % 2 = 1 /\ x.v2 % 2 = 1 /\ Nat.gcd x.v x.v2 = G) (fun x => x.v + x.v2) ⟨true, A1, la, na, za, B1, lb, nb, zb⟩ ⟨hW1, hW2, hoa, hob, hG⟩ (by (repeat first | refine uA ?_ | (refine ⟨?_, ?_⟩; focus first | rfl | trivial | (simp [slot]; done)) | rfl | trivial | simp)) ?_
    clear hW1 hW2 hG hoa hob
    rintro ⟨s, u, lo, n, v, o, lo2, n2, v2⟩ ⟨hW1, hW2, hoa, hob, hG⟩
    simp only [ints] at hW1 hW2 hoa hob hG ⊢
    (repeat first | refine uA ?_ | (refine uK ?_ ?_; focus first | omega | trivial | (intro h; rw [h]; rfl) | (intro h h2; rw [h, h2]; rfl) | (intro h; (try simp at h); omega) | (intros; simp_all <;> omega)) | simp only [go_sem, Nat.reduceBEq, Nat.reduceAdd, Nat.reduceLeDiff, Int.reduceToNat, Int.reducePow] | simp (disch := omega) only [ww])
    (refine uJ rfl (fun hc => ?_) fun hc => ?_)
    · refine S.skip ?_
      refine S.block ?_
      refine S.seq ?_
      have hl1 := hW1.hl
      have hl2 := hW2.hl
      have hn1 := hW1.hn
      have hn2 := hW2.hn
      have hwl : ∀ (u : List Nat) lo n, ls ((u.drop lo).take n) = ((ls u).drop lo).take n := fun u lo n => by simp [ls, List.map_drop, List.map_take]
      refine S.join (Y := Hv) (fun x => ⟨[(5, .wv (kx x.s) 1 x.lo x.n), (6, .wv (kx !x.s) 1 x.lo2 x.n2), (7, ints p), (8, ints q)], rw2 x.s x.u x.o⟩)
        (fun x => Win x.u x.lo x.n x.v /\ Win x.o x.lo2 x.n2 x.v2 /\ x.v % 2 = 1 /\ x.v2 % 2 = 1 /\ Nat.gcd x.v x.v2 = G /\ x.v2 <= x.v /\ x.v + x.v2 = v + v2) ?_ ?_
      · have hb := b7v ((u.drop lo).take n) ((o.drop lo2).take n2) (by rw [hW1.len]; omega) (by rw [hW2.len]; omega) hW1.all hW2.all hW1.last hW2.last
        rw [hwl, hwl, hW1.hv, hW2.hv] at hb
        cases s
        all_goals
          simp only [rw2, kx, Bool.not_true, Bool.not_false]
          (repeat first | refine uA ?_ | (refine uK ?_ ?_; focus first | omega | trivial | (intro h; rw [h]; rfl) | (intro h h2; rw [h, h2]; rfl) | (intro h; (try simp at h); omega) | (intros; simp_all <;> omega)) | simp only [go_sem, Nat.reduceBEq, Nat.reduceAdd, Nat.reduceLeDiff, Int.reduceToNat, Int.reducePow, q8] | simp (disch := omega) only [ww, q8] | (refine uC hb ?_ ?_ ?_; exact rfl; focus (repeat' first | exact l8.nil | exact Imp.refl rfl | exact Imp.frz rfl rfl rfl | (refine Imp.Y5 rfl rfl ?_ ?_; (focus ((try simp only [b9X, q8]); omega)); (focus first | rfl | assumption)) | refine l8.cons ?_ ?_); done))
          refine S.cond rfl (fun hc => ?_) (fun hc => ?_)
          all_goals simp only [b9U, c0c] at hc
        · (repeat first | refine uA ?_ | (refine uK ?_ ?_; focus first | omega | trivial | (intro h; rw [h]; rfl) | (intro h h2; rw [h, h2]; rfl) | (intro h; (try simp at h); omega) | (intros; simp_all <;> omega)) | simp only [go_sem, Nat.reduceBEq, Nat.reduceAdd, Nat.reduceLeDiff, Int.reduceToNat, Int.reducePow] | simp (disch := omega) only [ww])
          exact S.met ⟨true, o, lo2, n2, v2, u, lo, n, v⟩ ⟨hW2, hW1, hob, hoa, by rw [Nat.gcd_comm]; exact hG, by simp only; omega, by simp only; omega⟩ (by (repeat first | refine uA ?_ | (refine ⟨?_, ?_⟩; focus first | rfl | trivial | (simp [slot]; done)) | rfl | trivial | simp))
        · (repeat first | refine uA ?_ | (refine uK ?_ ?_; focus first | omega | trivial | (intro h; rw [h]; rfl) | (intro h h2; rw [h, h2]; rfl) | (intro h; (try simp at h); omega) | (intros; simp_all <;> omega)) | simp only [go_sem, Nat.reduceBEq, Nat.reduceAdd, Nat.reduceLeDiff, Int.reduceToNat, Int.reducePow] | simp (disch := omega) only [ww])
          exact S.met ⟨false, u, lo, n, v, o, lo2, n2, v2⟩ ⟨hW1, hW2, hoa, hob, hG, by simp only; omega, rfl⟩ (by (repeat first | refine uA ?_ | (refine ⟨?_, ?_⟩; focus first | rfl | trivial | (simp [slot]; done)) | rfl | trivial | simp))
        · (repeat first | refine uA ?_ | (refine uK ?_ ?_; focus first | omega | trivial | (intro h; rw [h]; rfl) | (intro h h2; rw [h, h2]; rfl) | (intro h; (try simp at h); omega) | (intros; simp_all <;> omega)) | simp only [go_sem, Nat.reduceBEq, Nat.reduceAdd, Nat.reduceLeDiff, Int.reduceToNat, Int.reducePow] | simp (disch := omega) only [ww])
          exact S.met ⟨false, o, lo2, n2, v2, u, lo, n, v⟩ ⟨hW2, hW1, hob, hoa, by rw [Nat.gcd_comm]; exact hG, by simp only; omega, by simp only; omega⟩ (by (repeat first | refine uA ?_ | (refine ⟨?_, ?_⟩; focus first | rfl | trivial | (simp [slot]; done)) | rfl | trivial | simp))
        · (repeat first | refine uA ?_ | (refine uK ?_ ?_; focus first | omega | trivial | (intro h; rw [h]; rfl) | (intro h h2; rw [h, h2]; rfl) | (intro h; (try simp at h); omega) | (intros; simp_all <;> omega)) | simp only [go_sem, Nat.reduceBEq, Nat.reduceAdd, Nat.reduceLeDiff, Int.reduceToNat, Int.reducePow] | simp (disch := omega) only [ww])
          exact S.met ⟨true, u, lo, n, v, o, lo2, n2, v2⟩ ⟨hW1, hW2, hoa, hob, hG, by simp only; omega, rfl⟩ (by (repeat first | refine uA ?_ | (refine ⟨?_, ?_⟩; focus first | rfl | trivial | (simp [slot]; done)) | rfl | trivial | simp))
      clear hl1 hl2 hn1 hn2 hW1 hW2 hoa hob hG hc
      rintro ⟨s, u1, lo1, n1, x1, o1, lo3, n3, x3⟩ ⟨hW1, hW2, hoa, hob, hG, hle, hsum⟩
      simp only [ints] at hW1 hW2 hoa hob hG hle hsum ⊢
      have hl1 := hW1.hl
      have hl2 := hW2.hl
      have hn1 := hW1.hn
      have hn2 := hW2.hn
      have hlo1 := hW1.hlo
      have hlt1 : x1 < 18446744073709551616 ^ n1 := by
        have := Nm.I9 18446744073709551616 hW1.all
        rwa [hW1.len, hW1.hv] at this
      have hmin := fun (E : Ctx) (hP : E.P = Tryz.prog) (s : Bool) => b7x (E := E) hP s u1 o1 lo1 n1 lo3 n3 (by omega) (by omega) hn1 hlo1 hn2 (hW1.le hW2 hle) hW1.ha hW2.ha hW1.hv.symm hW2.hv.symm hle
      have hW3 := Win.put (u := u1) (l1 := lo1) (p := n1) (z := x1 - x3) hn1 hlo1 hl1 hW1.ha (by omega)
      generalize put u1 lo1 (Nm.dig 18446744073709551616 n1 (x1 - x3)) = u2 at *
      generalize (Nm.E8 (Nm.dig 18446744073709551616 n1 (x1 - x3))).length = m1 at *
      have hl3 := hW3.hl
      have hn3 := hW3.hn
      have hmt : ∀ E : Ctx, E.P = Tryz.prog -> j5 E [.row 184 1 (ls u1), .row 184 1 (ls o1)] 151 [.wv 0 1 lo1 n1, .wv 1 1 lo3 n3] (.wv 0 1 lo1 m1) [.row 184 1 (ls u2), .row 184 1 (ls o1)] [] := fun E hP => hmin E hP true
      have hmf : ∀ E : Ctx, E.P = Tryz.prog -> j5 E [.row 184 1 (ls o1), .row 184 1 (ls u1)] 151 [.wv 1 1 lo1 n1, .wv 0 1 lo3 n3] (.wv 1 1 lo1 m1) [.row 184 1 (ls o1), .row 184 1 (ls u2)] [] := fun E hP => hmin E hP false
      clear hmin
      cases s
      all_goals
        simp only [rw2, kx, Bool.not_true, Bool.not_false]
        (repeat first | refine uA ?_ | (refine uK ?_ ?_; focus first | omega | trivial | (intro h; rw [h]; rfl) | (intro h h2; rw [h, h2]; rfl) | (intro h; (try simp at h); omega) | (intros; simp_all <;> omega)) | simp only [go_sem, Nat.reduceBEq, Nat.reduceAdd, Nat.reduceLeDiff, Int.reduceToNat, Int.reducePow, q8] | simp (disch := omega) only [ww, q8] | refine l7.t (hmt _ rfl) ?_ | refine l7.t (hmf _ rfl) ?_)
        (refine uJ rfl (fun hc => ?_) fun hc => ?_)
      · (repeat first | refine uA ?_ | (refine uK ?_ ?_; focus first | omega | trivial | (intro h; rw [h]; rfl) | (intro h h2; rw [h, h2]; rfl) | (intro h; (try simp at h); omega) | (intros; simp_all <;> omega)) | simp only [go_sem, Nat.reduceBEq, Nat.reduceAdd, Nat.reduceLeDiff, Int.reduceToNat, Int.reducePow] | simp (disch := omega) only [ww])
        have h0 := hW3.nonzero (by omega)
        have h1 : x1 = x3 := by omega
        subst h1
        rw [Nat.gcd_self] at hG
        exact S.met ⟨false, u2, lo1, m1, x1 - x1, o1, lo3, n3, x1⟩ ⟨hW3, hW2, .inl ⟨by simp only; omega, hG⟩⟩ (by (repeat first | refine uA ?_ | (refine ⟨?_, ?_⟩; focus first | rfl | trivial | (simp [slot]; done)) | rfl | trivial | simp))
      · have h0 : x1 - x3 ≠ 0 := fun h => by have := hW3.zero h; omega
        obtain ⟨z, hz, hoz⟩ := Nm.a1C h0
        have hev := a6g ((u2.drop lo1).take m1) (by rw [hW3.len]; omega) hW3.all (by rw [hW3.hv]; exact h0)
        rw [hwl, hW3.hv] at hev
        have heb := hW3.v2 h0
        generalize Nm.v2 (x1 - x3) = e at *
        have hrg := fun (E : Ctx) (hP : E.P = Tryz.prog) => a6i (E := E) hP false u2 o1 lo1 m1 e z (by omega) hn3 heb hW3.ha (by omega) (by rw [hW3.hv, hz, Nat.mul_comm])
        obtain ⟨hj, hz2, _⟩ := hrg ⟨Tryz.prog, eff, 0, w, fun _ => False, O, [], []⟩ rfl
        have hrg := fun E hP => (hrg E hP).2.2
        have hW4 := Win.put (u := u2) (l1 := lo1 + e / 64) (p := m1 - e / 64) (z := z) (by omega) (by omega) hl3 hW3.ha hz2
        generalize put u2 (lo1 + e / 64) (Nm.dig 18446744073709551616 (m1 - e / 64) z) = u4 at *
        generalize lo1 + e / 64 = lo4 at *
        generalize (Nm.E8 (Nm.dig 18446744073709551616 (m1 - e / 64) z)).length = m4 at *
        have hrg' : ∀ (E : Ctx), E.P = Tryz.prog -> j5 E [.row 184 1 (ls o1), .row 184 1 (ls u2)] 149 [.wv 1 1 lo1 m1, ints e] (.wv 1 1 lo4 m4) [.row 184 1 (ls o1), .row 184 1 (ls u4)] [] := fun E hP => hrg E hP
        have hgz : Nat.gcd z x3 = G := by
          have h1 := Nm.a4H (d := z) hob e
          rw [<- h1, <- hz, Nm.a8V hle, hG]
        have hzle : z <= x1 - x3 := by
          conv => rhs; rw [hz]
          exact Nat.le_mul_of_pos_left _ (Nat.pow_pos (by decide))
        (repeat first | refine uA ?_ | (refine uK ?_ ?_; focus first | omega | trivial | (intro h; rw [h]; rfl) | (intro h h2; rw [h, h2]; rfl) | (intro h; (try simp at h); omega) | (intros; simp_all <;> omega)) | simp only [go_sem, Nat.reduceBEq, Nat.reduceAdd, Nat.reduceLeDiff, Int.reduceToNat, Int.reducePow, q8] | simp (disch := omega) only [ww, q8] | refine l7.t (hrg' _ rfl) ?_ | (refine uE hev ?_ ?_ ?_ ?_; exact tz hw; exact rfl; focus (repeat' first | exact l8.nil | exact Imp.refl rfl | exact Imp.frz rfl rfl rfl | (refine Imp.Y5 rfl rfl ?_ ?_; (focus ((try simp only [b9X, q8]); omega)); (focus first | rfl | assumption)) | refine l8.cons ?_ ?_); done))
        refine S.next (x := (⟨true, u, lo, n, v, o, lo2, n2, v2⟩ : Hv)) (⟨false, u4, lo4, m4, z, o1, lo3, n3, x3⟩ : Hv) ⟨hW4, hW2, hoz, hob, hgz⟩ (by simp only; omega) (by (repeat first | refine uA ?_ | (refine ⟨?_, ?_⟩; focus first | rfl | trivial | (simp [slot]; done)) | rfl | trivial | simp))
      · (repeat first | refine uA ?_ | (refine uK ?_ ?_; focus first | omega | trivial | (intro h; rw [h]; rfl) | (intro h h2; rw [h, h2]; rfl) | (intro h; (try simp at h); omega) | (intros; simp_all <;> omega)) | simp only [go_sem, Nat.reduceBEq, Nat.reduceAdd, Nat.reduceLeDiff, Int.reduceToNat, Int.reducePow] | simp (disch := omega) only [ww])
        have h0 := hW3.nonzero (by omega)
        have h1 : x1 = x3 := by omega
        subst h1
        rw [Nat.gcd_self] at hG
        exact S.met ⟨true, u2, lo1, m1, x1 - x1, o1, lo3, n3, x1⟩ ⟨hW3, hW2, .inl ⟨by simp only; omega, hG⟩⟩ (by (repeat first | refine uA ?_ | (refine ⟨?_, ?_⟩; focus first | rfl | trivial | (simp [slot]; done)) | rfl | trivial | simp))
      · have h0 : x1 - x3 ≠ 0 := fun h => by have := hW3.zero h; omega
        obtain ⟨z, hz, hoz⟩ := Nm.a1C h0
        have hev := a6g ((u2.drop lo1).take m1) (by rw [hW3.len]; omega) hW3.all (by rw [hW3.hv]; exact h0)
        rw [hwl, hW3.hv] at hev
        have heb := hW3.v2 h0
        generalize Nm.v2 (x1 - x3) = e at *
        have hrg := fun (E : Ctx) (hP : E.P = Tryz.prog) => a6i (E := E) hP true u2 o1 lo1 m1 e z (by omega) hn3 heb hW3.ha (by omega) (by rw [hW3.hv, hz, Nat.mul_comm])
        obtain ⟨hj, hz2, _⟩ := hrg ⟨Tryz.prog, eff, 0, w, fun _ => False, O, [], []⟩ rfl
        have hrg := fun E hP => (hrg E hP).2.2
        have hW4 := Win.put (u := u2) (l1 := lo1 + e / 64) (p := m1 - e / 64) (z := z) (by omega) (by omega) hl3 hW3.ha hz2
        generalize put u2 (lo1 + e / 64) (Nm.dig 18446744073709551616 (m1 - e / 64) z) = u4 at *
        generalize lo1 + e / 64 = lo4 at *
        generalize (Nm.E8 (Nm.dig 18446744073709551616 (m1 - e / 64) z)).length = m4 at *
        have hrg' : ∀ (E : Ctx), E.P = Tryz.prog -> j5 E [.row 184 1 (ls u2), .row 184 1 (ls o1)] 149 [.wv 0 1 lo1 m1, ints e] (.wv 0 1 lo4 m4) [.row 184 1 (ls u4), .row 184 1 (ls o1)] [] := fun E hP => hrg E hP
        have hgz : Nat.gcd z x3 = G := by
          have h1 := Nm.a4H (d := z) hob e
          rw [<- h1, <- hz, Nm.a8V hle, hG]
        have hzle : z <= x1 - x3 := by
          conv => rhs; rw [hz]
          exact Nat.le_mul_of_pos_left _ (Nat.pow_pos (by decide))
        (repeat first | refine uA ?_ | (refine uK ?_ ?_; focus first | omega | trivial | (intro h; rw [h]; rfl) | (intro h h2; rw [h, h2]; rfl) | (intro h; (try simp at h); omega) | (intros; simp_all <;> omega)) | simp only [go_sem, Nat.reduceBEq, Nat.reduceAdd, Nat.reduceLeDiff, Int.reduceToNat, Int.reducePow, q8] | simp (disch := omega) only [ww, q8] | refine l7.t (hrg' _ rfl) ?_ | (refine uE hev ?_ ?_ ?_ ?_; exact tz hw; exact rfl; focus (repeat' first | exact l8.nil | exact Imp.refl rfl | exact Imp.frz rfl rfl rfl | (refine Imp.Y5 rfl rfl ?_ ?_; (focus ((try simp only [b9X, q8]); omega)); (focus first | rfl | assumption)) | refine l8.cons ?_ ?_); done))
        refine S.next (x := (⟨true, u, lo, n, v, o, lo2, n2, v2⟩ : Hv)) (⟨true, u4, lo4, m4, z, o1, lo3, n3, x3⟩ : Hv) ⟨hW4, hW2, hoz, hob, hgz⟩ (by simp only; omega) (by (repeat first | refine uA ?_ | (refine ⟨?_, ?_⟩; focus first | rfl | trivial | (simp [slot]; done)) | rfl | trivial | simp))
    · (repeat first | refine uA ?_ | (refine uK ?_ ?_; focus first | omega | trivial | (intro h; rw [h]; rfl) | (intro h h2; rw [h, h2]; rfl) | (intro h; (try simp at h); omega) | (intros; simp_all <;> omega)) | simp only [go_sem, Nat.reduceBEq, Nat.reduceAdd, Nat.reduceLeDiff, Int.reduceToNat, Int.reducePow] | simp (disch := omega) only [ww])
      have ha1 : n <= 1 /\ n2 <= 1 := by omega
      have hz1 : n ≠ 0 := fun h => by have := hW1.nonzero h; omega
      have hz2 : n2 ≠ 0 := fun h => by have := hW2.nonzero h; omega
      exact S.met ⟨s, u, lo, n, v, o, lo2, n2, v2⟩ ⟨hW1, hW2,   .inr ⟨by simp only; omega, by simp only; omega, hG⟩⟩ (by cases s <;> exact (by (repeat first | refine uA ?_ | (refine ⟨?_, ?_⟩; focus first | rfl | trivial | (simp [slot]; done)) | rfl | trivial | simp)))
  clear hW1 hW2 hG hoa hob
  rintro ⟨s, u, lo, n, v, o, lo2, n2, v2⟩ ⟨hW1, hW2, hcs⟩
  simp only [ints] at hW1 hW2 hcs ⊢
  refine S.seq ?_
  have hl1 := hW1.hl
  have hl2 := hW2.hl
  have hn1 := hW1.hn
  have hn2 := hW2.hn
  have hlo1 := hW1.hlo
  have hlo2 := hW2.hlo
  refine S.join (Y := Bool × List Nat × List Nat) (fun x => ⟨[(6, .wv (kx !x.1) 1 lo2 n2), (7, ints p), (8, ints q)], rw2 x.1 x.2.1 x.2.2⟩)
    (fun x => x.2.2.length = o.length /\ Nm.J3 x.2.2 /\ Nm.wv 18446744073709551616 ((x.2.2.drop lo2).take n2) = G) ?_ ?_
  · have one : ∀ {u : List Nat} {lo v : Nat}, Win u lo 1 v -> u[lo]? = some v /\ v < 18446744073709551616 := fun {u lo v} h => by
      have hg : u[lo]? = some (u[lo]'h.hlo) := b9I h.hlo
      have h1 := h.hv
      have h2 : (u.drop lo).take 1 = [u[lo]'h.hlo] := by rw [List.drop_eq_getElem_cons h.hlo]; rfl
      rw [h2] at h1
      simp only [Nm.wv] at h1
      have h3 := h.ha _ (b9S h.hlo)
      rw [Nat.mul_zero, Nat.add_zero] at h1
      rw [hg, h1]
      exact ⟨rfl, by omega⟩
    (repeat first | refine uA ?_ | (refine uK ?_ ?_; focus first | omega | trivial | (intro h; rw [h]; rfl) | (intro h h2; rw [h, h2]; rfl) | (intro h; (try simp at h); omega) | (intros; simp_all <;> omega)) | simp only [go_sem, Nat.reduceBEq, Nat.reduceAdd, Nat.reduceLeDiff, Int.reduceToNat, Int.reducePow] | simp (disch := omega) only [ww])
    (refine uJ rfl (fun hc => ?_) fun hc => ?_)
    · have hn : n = 1 := by omega
      have hm : n2 = 1 := by omega
      subst hn hm
      obtain ⟨g1, b1⟩ := one hW1
      obtain ⟨g2, b2⟩ := one hW2
      have hg : Nat.gcd v v2 = G := by rcases hcs with h | h; exact absurd h.1 (by decide); exact h.2.2
      have hco := b1J v v2 b1 b2
      rw [hg] at hco
      have hres : Nm.wv 18446744073709551616 (((o.set lo2 G).drop lo2).take 1) = G := by
        rw [List.drop_eq_getElem_cons (by rw [c0p]; exact hlo2), List.getElem_set_self]
        simp [Nm.wv]
      have hG64 : G < 18446744073709551616 := by
        have : v2 ≠ 0 := fun h => by have := hW2.zero h; omega
        have := Nat.gcd_le_right v (show 0 < v2 by omega)
        omega
      cases s
      all_goals
        simp only [rw2, kx, Bool.not_true, Bool.not_false]
        (repeat first | refine uA ?_ | (refine uK ?_ ?_; focus first | omega | trivial | (intro h; rw [h]; rfl) | (intro h h2; rw [h, h2]; rfl) | (intro h; (try simp at h); omega) | (intros; simp_all <;> omega)) | simp only [go_sem, Nat.reduceBEq, Nat.reduceAdd, Nat.reduceLeDiff, Int.reduceToNat, Int.reducePow, q8, H6, g1, g2, b9J, lm, Nat.add_zero, Q5] | simp (disch := omega) only [ww, q8, H6, g1, g2, b9J, lm, Nat.add_zero, Q5] | (refine uB hco ?_ ?_; exact rfl))
      · exact S.met (⟨false, u, o.set lo2 G⟩ : Bool × List Nat × List Nat) ⟨by simp, fun w hw => by
          rcases Nm.mem_set hw with rfl | hw
          · exact hG64
          · exact hW2.ha w hw, hres⟩ (by (repeat first | refine uA ?_ | (refine ⟨?_, ?_⟩; focus first | rfl | trivial | (simp [slot]; done)) | rfl | trivial | simp))
      · exact S.met (⟨true, u, o.set lo2 G⟩ : Bool × List Nat × List Nat) ⟨by simp, fun w hw => by
          rcases Nm.mem_set hw with rfl | hw
          · exact hG64
          · exact hW2.ha w hw, hres⟩ (by (repeat first | refine uA ?_ | (refine ⟨?_, ?_⟩; focus first | rfl | trivial | (simp [slot]; done)) | rfl | trivial | simp))
    · (repeat first | refine uA ?_ | (refine uK ?_ ?_; focus first | omega | trivial | (intro h; rw [h]; rfl) | (intro h h2; rw [h, h2]; rfl) | (intro h; (try simp at h); omega) | (intros; simp_all <;> omega)) | simp only [go_sem, Nat.reduceBEq, Nat.reduceAdd, Nat.reduceLeDiff, Int.reduceToNat, Int.reducePow] | simp (disch := omega) only [ww])
      have hg : v2 = G := by
        rcases hcs with h | h
        · exact h.2
        · omega
      exact S.met (⟨s, u, o⟩ : Bool × List Nat × List Nat) ⟨rfl, hW2.ha, by rw [<- hg]; exact hW2.hv⟩ (by cases s <;> exact (by (repeat first | refine uA ?_ | (refine ⟨?_, ?_⟩; focus first | rfl | trivial | (simp [slot]; done)) | rfl | trivial | simp)))
  rintro ⟨s', u', o'⟩ ⟨ho1, ho2, ho3⟩
  simp only [ints] at ho1 ho2 ho3 ⊢
  have hul : ((o'.drop lo2).take n2).length = n2 := by rw [b9V, c0y]; omega
  have hua : Nm.J3 ((o'.drop lo2).take n2) := (ho2.drop lo2).take _
  have hgw : ∀ i, i < n2 -> o'[lo2 + i]? = ((o'.drop lo2).take n2)[i]? := fun i hi => by rw [List.getElem?_take_of_lt hi, c0v]
  generalize (o'.drop lo2).take n2 = W at *
  have hfm := a3l (Nm.a0N W) (Nm.oB (2 ^ (min p q % 8)) :: List.replicate (min p q / 8) 0) (by rw [Nm.a9I hua]; omega) (by rw [c0l, List.length_replicate]; omega)
  rw [Nm.b5N, Nm.b4J hua, ho3, Nat.mul_comm] at hfm
  have hWl : W.length <= 17179869184 := by omega
  have hz8 : List.replicate (8 * (n2 : Int)).toNat [C.v (.int .u8 0)] = (Nm.a2L W 0).map D8 := by
    rw [Nm.b4S, <- a1J, show (8 * (n2 : Int)).toNat = 8 * W.length by omega]
  have hqm : IntKind.i64.wrap (((min p q : Nat) : Int).tdiv 8) = ((min p q / 8 : Nat) : Int) := b4n _ (by omega)
  have hmn : (if (q : Int) < (p : Int) then (q : Int) else (p : Int)) = ((min p q : Nat) : Int) := by split <;> omega
  generalize min p q = r at *
  clear hW1 hW2 hcs hn1 hl1 hlo1 ho3
  cases s'
  all_goals
    simp only [rw2, kx, Bool.not_true, Bool.not_false]
    (repeat first | refine uA ?_ | (refine uK ?_ ?_; focus first | omega | trivial | (intro h; rw [h]; rfl) | (intro h h2; rw [h, h2]; rfl) | (intro h; (try simp at h); omega) | (intros; simp_all <;> omega)) | simp only [go_sem, Nat.reduceBEq, Nat.reduceAdd, Nat.reduceLeDiff, Int.reduceToNat, Int.reducePow, q8, hz8] | simp (disch := omega) only [ww, q8, hz8])
  · refine S.loop (X := Nat) (fun i => ⟨[(6, .wv 0 1 lo2 n2), (7, ints p), (8, ints q), (9, .rv 2), (72, .wv 0 1 lo2 n2), (73, ints n2), (74, ints i)], [.row 184 1 (ls o'), .row 184 1 (ls u')] ++ [.row 5 1 ((Nm.a2L W i).map D8)]⟩) (fun i => i <= n2) (fun i => n2 - i) 0 (b9M _) (by (repeat first | refine uA ?_ | (refine ⟨?_, ?_⟩; focus first | rfl | trivial | (simp [slot]; done)) | rfl | trivial | simp)) ?_
    intro i hi
    simp only [ints, List.cons_append, List.nil_append]
    (repeat first | refine uA ?_ | (refine uK ?_ ?_; focus first | omega | trivial | (intro h; rw [h]; rfl) | (intro h h2; rw [h, h2]; rfl) | (intro h; (try simp at h); omega) | (intros; simp_all <;> omega)) | simp only [go_sem, Nat.reduceBEq, Nat.reduceAdd, Nat.reduceLeDiff, Int.reduceToNat, Int.reducePow] | simp (disch := omega) only [ww])
    (refine uJ rfl (fun hc => ?_) fun hc => ?_)
    · have hi' : i < n2 := by omega
      have hiW : i < W.length := by omega
      have hgo : o'[lo2 + i]? = some (W[i]'hiW) := by rw [hgw i hi', b9I hiW]
      have hgd : W.getD i 0 = W[i]'hiW := Nm.getD_lt hiW
      (repeat first | refine uA ?_ | (refine uK ?_ ?_; focus first | omega | trivial | (intro h; rw [h]; rfl) | (intro h h2; rw [h, h2]; rfl) | (intro h; (try simp at h); omega) | (intros; simp_all <;> omega)) | simp only [go_sem, Nat.reduceBEq, Nat.reduceAdd, Nat.reduceLeDiff, Int.reduceToNat, Int.reducePow, q8, H6, hgo, b9J, lm] | simp (disch := omega) only [ww, q8, H6, hgo, b9J, lm])
      rw [<- Nm.a8R hiW]
      refine S.loop (X := Nat) (fun k => ⟨[(6, .wv 0 1 lo2 n2), (7, ints p), (8, ints q), (9, .rv 2), (72, .wv 0 1 lo2 n2), (73, ints n2), (74, ints i), (10, ints i), (11, .v (.int .u64 (W[i]'hiW : Int))), (79, ints k)], [.row 184 1 (ls o'), .row 184 1 (ls u')] ++ [.row 5 1 ((Nm.a0C W i k).map D8)]⟩) (fun k => k <= 8) (fun k => 8 - k) 0 (b9M _) (by (repeat first | refine uA ?_ | (refine ⟨?_, ?_⟩; focus first | rfl | trivial | (simp [slot]; done)) | rfl | trivial | simp)) ?_
      intro k hk
      simp only [ints, List.cons_append, List.nil_append]
      have hlk := Nm.b1M hua hiW hk
      (repeat first | refine uA ?_ | (refine uK ?_ ?_; focus first | omega | trivial | (intro h; rw [h]; rfl) | (intro h h2; rw [h, h2]; rfl) | (intro h; (try simp at h); omega) | (intros; simp_all <;> omega)) | simp only [go_sem, Nat.reduceBEq, Nat.reduceAdd, Nat.reduceLeDiff, Int.reduceToNat, Int.reducePow] | simp (disch := omega) only [ww])
      (refine uJ rfl (fun hc => ?_) fun hc => ?_)
      · have hk' : k < 8 := by omega
        have hst := Nm.a9c (l := W) (i := i) hk'
        rw [hgd] at hst
        have hbv : IntKind.u8.wrap (Int.fdiv ((W[i]'hiW : Nat) : Int) (2 ^ min (56 - 8 * (k : Int)).toNat 64)) = (((Nm.oB ((W[i]'hiW) / 2 ^ (56 - 8 * k))).toNat : Nat) : Int) := by
          rw [<- a4n, show min (56 - 8 * (k : Int)).toNat 64 = 56 - 8 * k by omega]
          congr 2
        have hix : (8 * ((n2 : Int) - 1 - (i : Int)) + (k : Int)).toNat = 8 * (W.length - 1 - i) + k := by omega
        have hgk : (Nm.a0C W i k)[8 * (W.length - 1 - i) + k]? = some ((Nm.a0C W i k)[8 * (W.length - 1 - i) + k]'(by omega)) := b9I (by omega)
        (repeat first | refine uA ?_ | (refine uK ?_ ?_; focus first | omega | trivial | (intro h; rw [h]; rfl) | (intro h h2; rw [h, h2]; rfl) | (intro h; (try simp at h); omega) | (intros; simp_all <;> omega)) | simp only [go_sem, Nat.reduceBEq, Nat.reduceAdd, Nat.reduceLeDiff, Int.reduceToNat, Int.reducePow, q8, b9K, hbv, hix, c0w, hgk, b9J, D8, a2b, hst] | simp (disch := omega) only [ww, q8, b9K, hbv, hix, c0w, hgk, b9J, D8, a2b, hst])
        refine S.next (x := k) (k + 1) hk' (by omega) (by (repeat first | refine uA ?_ | (refine ⟨?_, ?_⟩; focus first | rfl | trivial | (simp [slot]; done)) | rfl | trivial | simp))
      · have hk8 : k = 8 := by omega
        subst hk8
        rw [Nm.a7N hiW]
        (repeat first | refine uA ?_ | (refine uK ?_ ?_; focus first | omega | trivial | (intro h; rw [h]; rfl) | (intro h h2; rw [h, h2]; rfl) | (intro h; (try simp at h); omega) | (intros; simp_all <;> omega)) | simp only [go_sem, Nat.reduceBEq, Nat.reduceAdd, Nat.reduceLeDiff, Int.reduceToNat, Int.reducePow] | simp (disch := omega) only [ww])
        refine S.next (x := i) (i + 1) hi' (by omega) (by (repeat first | refine uA ?_ | (refine ⟨?_, ?_⟩; focus first | rfl | trivial | (simp [slot]; done)) | rfl | trivial | simp))
    · have hi' : i = n2 := by omega
      subst hi'
      rw [<- hul, Nm.b0s]
      have hr1 : ((r / 8 : Nat) : Int) + 1 = ((r / 8 + 1 : Nat) : Int) := by omega
      have hrep : List.replicate (((r / 8 + 1 : Nat) : Int)).toNat [C.v (.int .u8 0)] = (List.replicate (r / 8 + 1) (0 : UInt8)).map D8 := by rw [<- a1J]; rfl
      have hrm : (r : Int).tmod 8 = ((r % 8 : Nat) : Int) := a7F r
      have hpw : IntKind.u8.wrap (1 * 2 ^ min (r % 8) 8) = (((Nm.oB (2 ^ (r % 8))).toNat : Nat) : Int) := by
        rw [show min (r % 8) 8 = r % 8 by omega, Nm.a0K, <- a0H]; congr 1; simp
      have hby : R5 ([C.v (.int .u8 (((Nm.oB (2 ^ (r % 8))).toNat : Nat) : Int))] :: List.replicate (r / 8) [C.v (.int .u8 0)]) = some (Nm.oB (2 ^ (r % 8)) :: List.replicate (r / 8) 0) := by
        rw [a1J]; exact O8 (Nm.oB (2 ^ (r % 8)) :: List.replicate (r / 8) 0)
      (repeat first | refine uA ?_ | (refine uK ?_ ?_; focus first | omega | trivial | (intro h; rw [h]; rfl) | (intro h h2; rw [h, h2]; rfl) | (intro h; (try simp at h); omega) | (intros; simp_all <;> omega)) | simp only [go_sem, Nat.reduceBEq, Nat.reduceAdd, Nat.reduceLeDiff, Int.reduceToNat, Int.reducePow, hmn, hqm, hr1, hrep, hrm, hpw, hby, O8, a2s, D8, b9R] | simp (disch := omega) only [ww, hmn, hqm, hr1, hrep, hrm, hpw, hby, O8, a2s, D8, b9R] | (refine uB hfm ?_ ?_; exact rfl))
      exact S.done (d9.out rfl (Imp.refl rfl) rfl)
  · refine S.loop (X := Nat) (fun i => ⟨[(6, .wv 1 1 lo2 n2), (7, ints p), (8, ints q), (9, .rv 2), (72, .wv 1 1 lo2 n2), (73, ints n2), (74, ints i)], [.row 184 1 (ls u'), .row 184 1 (ls o')] ++ [.row 5 1 ((Nm.a2L W i).map D8)]⟩) (fun i => i <= n2) (fun i => n2 - i) 0 (b9M _) (by (repeat first | refine uA ?_ | (refine ⟨?_, ?_⟩; focus first | rfl | trivial | (simp [slot]; done)) | rfl | trivial | simp)) ?_
    intro i hi
    simp only [ints, List.cons_append, List.nil_append]
    (repeat first | refine uA ?_ | (refine uK ?_ ?_; focus first | omega | trivial | (intro h; rw [h]; rfl) | (intro h h2; rw [h, h2]; rfl) | (intro h; (try simp at h); omega) | (intros; simp_all <;> omega)) | simp only [go_sem, Nat.reduceBEq, Nat.reduceAdd, Nat.reduceLeDiff, Int.reduceToNat, Int.reducePow] | simp (disch := omega) only [ww])
    (refine uJ rfl (fun hc => ?_) fun hc => ?_)
    · have hi' : i < n2 := by omega
      have hiW : i < W.length := by omega
      have hgo : o'[lo2 + i]? = some (W[i]'hiW) := by rw [hgw i hi', b9I hiW]
      have hgd : W.getD i 0 = W[i]'hiW := Nm.getD_lt hiW
      (repeat first | refine uA ?_ | (refine uK ?_ ?_; focus first | omega | trivial | (intro h; rw [h]; rfl) | (intro h h2; rw [h, h2]; rfl) | (intro h; (try simp at h); omega) | (intros; simp_all <;> omega)) | simp only [go_sem, Nat.reduceBEq, Nat.reduceAdd, Nat.reduceLeDiff, Int.reduceToNat, Int.reducePow, q8, H6, hgo, b9J, lm] | simp (disch := omega) only [ww, q8, H6, hgo, b9J, lm])
      rw [<- Nm.a8R hiW]
      refine S.loop (X := Nat) (fun k => ⟨[(6, .wv 1 1 lo2 n2), (7, ints p), (8, ints q), (9, .rv 2), (72, .wv 1 1 lo2 n2), (73, ints n2), (74, ints i), (10, ints i), (11, .v (.int .u64 (W[i]'hiW : Int))), (79, ints k)], [.row 184 1 (ls u'), .row 184 1 (ls o')] ++ [.row 5 1 ((Nm.a0C W i k).map D8)]⟩) (fun k => k <= 8) (fun k => 8 - k) 0 (b9M _) (by (repeat first | refine uA ?_ | (refine ⟨?_, ?_⟩; focus first | rfl | trivial | (simp [slot]; done)) | rfl | trivial | simp)) ?_
      intro k hk
      simp only [ints, List.cons_append, List.nil_append]
      have hlk := Nm.b1M hua hiW hk
      (repeat first | refine uA ?_ | (refine uK ?_ ?_; focus first | omega | trivial | (intro h; rw [h]; rfl) | (intro h h2; rw [h, h2]; rfl) | (intro h; (try simp at h); omega) | (intros; simp_all <;> omega)) | simp only [go_sem, Nat.reduceBEq, Nat.reduceAdd, Nat.reduceLeDiff, Int.reduceToNat, Int.reducePow] | simp (disch := omega) only [ww])
      (refine uJ rfl (fun hc => ?_) fun hc => ?_)
      · have hk' : k < 8 := by omega
        have hst := Nm.a9c (l := W) (i := i) hk'
        rw [hgd] at hst
        have hbv : IntKind.u8.wrap (Int.fdiv ((W[i]'hiW : Nat) : Int) (2 ^ min (56 - 8 * (k : Int)).toNat 64)) = (((Nm.oB ((W[i]'hiW) / 2 ^ (56 - 8 * k))).toNat : Nat) : Int) := by
          rw [<- a4n, show min (56 - 8 * (k : Int)).toNat 64 = 56 - 8 * k by omega]
          congr 2
        have hix : (8 * ((n2 : Int) - 1 - (i : Int)) + (k : Int)).toNat = 8 * (W.length - 1 - i) + k := by omega
        have hgk : (Nm.a0C W i k)[8 * (W.length - 1 - i) + k]? = some ((Nm.a0C W i k)[8 * (W.length - 1 - i) + k]'(by omega)) := b9I (by omega)
        (repeat first | refine uA ?_ | (refine uK ?_ ?_; focus first | omega | trivial | (intro h; rw [h]; rfl) | (intro h h2; rw [h, h2]; rfl) | (intro h; (try simp at h); omega) | (intros; simp_all <;> omega)) | simp only [go_sem, Nat.reduceBEq, Nat.reduceAdd, Nat.reduceLeDiff, Int.reduceToNat, Int.reducePow, q8, b9K, hbv, hix, c0w, hgk, b9J, D8, a2b, hst] | simp (disch := omega) only [ww, q8, b9K, hbv, hix, c0w, hgk, b9J, D8, a2b, hst])
        refine S.next (x := k) (k + 1) hk' (by omega) (by (repeat first | refine uA ?_ | (refine ⟨?_, ?_⟩; focus first | rfl | trivial | (simp [slot]; done)) | rfl | trivial | simp))
      · have hk8 : k = 8 := by omega
        subst hk8
        rw [Nm.a7N hiW]
        (repeat first | refine uA ?_ | (refine uK ?_ ?_; focus first | omega | trivial | (intro h; rw [h]; rfl) | (intro h h2; rw [h, h2]; rfl) | (intro h; (try simp at h); omega) | (intros; simp_all <;> omega)) | simp only [go_sem, Nat.reduceBEq, Nat.reduceAdd, Nat.reduceLeDiff, Int.reduceToNat, Int.reducePow] | simp (disch := omega) only [ww])
        refine S.next (x := i) (i + 1) hi' (by omega) (by (repeat first | refine uA ?_ | (refine ⟨?_, ?_⟩; focus first | rfl | trivial | (simp [slot]; done)) | rfl | trivial | simp))
    · have hi' : i = n2 := by omega
      subst hi'
      rw [<- hul, Nm.b0s]
      have hr1 : ((r / 8 : Nat) : Int) + 1 = ((r / 8 + 1 : Nat) : Int) := by omega
      have hrep : List.replicate (((r / 8 + 1 : Nat) : Int)).toNat [C.v (.int .u8 0)] = (List.replicate (r / 8 + 1) (0 : UInt8)).map D8 := by rw [<- a1J]; rfl
      have hrm : (r : Int).tmod 8 = ((r % 8 : Nat) : Int) := a7F r
      have hpw : IntKind.u8.wrap (1 * 2 ^ min (r % 8) 8) = (((Nm.oB (2 ^ (r % 8))).toNat : Nat) : Int) := by
        rw [show min (r % 8) 8 = r % 8 by omega, Nm.a0K, <- a0H]; congr 1; simp
      have hby : R5 ([C.v (.int .u8 (((Nm.oB (2 ^ (r % 8))).toNat : Nat) : Int))] :: List.replicate (r / 8) [C.v (.int .u8 0)]) = some (Nm.oB (2 ^ (r % 8)) :: List.replicate (r / 8) 0) := by
        rw [a1J]; exact O8 (Nm.oB (2 ^ (r % 8)) :: List.replicate (r / 8) 0)
      (repeat first | refine uA ?_ | (refine uK ?_ ?_; focus first | omega | trivial | (intro h; rw [h]; rfl) | (intro h h2; rw [h, h2]; rfl) | (intro h; (try simp at h); omega) | (intros; simp_all <;> omega)) | simp only [go_sem, Nat.reduceBEq, Nat.reduceAdd, Nat.reduceLeDiff, Int.reduceToNat, Int.reducePow, hmn, hqm, hr1, hrep, hrm, hpw, hby, O8, a2s, D8, b9R] | simp (disch := omega) only [ww, hmn, hqm, hr1, hrep, hrm, hpw, hby, O8, a2s, D8, b9R] | (refine uB hfm ?_ ?_; exact rfl))
      exact S.done (d9.out rfl (Imp.refl rfl) rfl)
theorem b6V (a b : List UInt8) (ha : a.length <= 68719476736) (hb : b.length <= 68719476736) : FZ 94 [sb a, sb b] (sb (Nm.enc (Nat.gcd (Nm.val a) (Nm.val b)))) := by
  refine kW b4d b4g (by rfl) fun w O hw => ?_
  simp only [a7p, l9, TT, II, OA, OB, OC, MM, LL, VV, FF, MG, LG, VG, FG, sb]
  have hta := Nm.Q0 a
  have htb := Nm.Q0 b
  have hva := Nm.L8 a
  have hvb := Nm.L8 b
  have hca := Nm.O9 a
  have hcb := Nm.O9 b
  have fta := X9 a (by omega)
  have ftb := X9 b (by omega)
  rw [<- hva, <- hvb]
  clear hva hvb
  generalize Nm.trim a = x at *
  generalize Nm.trim b = y at *
  generalize hG : Nat.gcd (Nm.val x) (Nm.val y) = G at *
  (repeat first | refine uA ?_ | (refine uK ?_ ?_; focus first | omega | (intros; simp_all <;> omega)) | simp (disch := omega) only [go_sem, Nat.reduceBEq, Nat.reduceAdd, ww] | (refine uB fta ?_ ?_; exact rfl) | (refine uB ftb ?_ ?_; exact rfl))
  refine S.loop (X := List UInt8 × List UInt8) (fun s => ⟨[(0, sb s.1), (1, sb s.2)], []⟩) (fun s => Nm.canon s.1 /\ Nm.canon s.2 /\ s.1.length <= 68719476736 /\ s.2.length <= 68719476736 /\ Nat.gcd (Nm.val s.1) (Nm.val s.2) = G) (fun s => Nm.val s.1 + Nm.val s.2) (x, y) ⟨hca, hcb, by simp only; omega, by simp only; omega, hG⟩ (by (repeat first | refine uA ?_ | (refine ⟨?_, ?_⟩; focus first | rfl | simp [slot]) | rfl | simp)) ?_
  clear fta ftb hca hcb hta htb hG
  rintro ⟨x, y⟩ ⟨hcx, hcy, hlx, hly, hG⟩
  simp only [sb] at hcx hcy hlx hly hG ⊢
  (repeat first | refine uA ?_ | (refine uK ?_ ?_; focus first | omega | (intros; simp_all <;> omega)) | simp (disch := omega) only [go_sem, Nat.reduceBEq, Nat.reduceAdd, ww])
  (refine uJ rfl (fun hc => ?_) fun hc => ?_)
  · rw [Z6, Z6] at hc
    have hne := hc
    refine S.skip ?_
    refine S.block ?_
    refine S.seq ?_
    refine S.join (Y := List UInt8 × List UInt8) (fun s => ⟨[(0, sb s.1), (1, sb s.2)], []⟩) (fun s => Nm.canon s.1 /\ Nm.canon s.2 /\ s.1.length <= 68719476736 /\ s.2.length <= s.1.length /\ Nat.gcd (Nm.val s.1) (Nm.val s.2) = G /\ s.1 ≠ [] /\ s.2 ≠ [] /\ Nm.val s.1 + Nm.val s.2 = Nm.val x + Nm.val y) ?_ ?_
    · (repeat first | refine uA ?_ | (refine uK ?_ ?_; focus first | omega | (intros; simp_all <;> omega)) | simp (disch := omega) only [go_sem, Nat.reduceBEq, Nat.reduceAdd, ww, D6])
      (refine uJ rfl (fun hc => ?_) fun hc => ?_)
      · (repeat first | refine uA ?_ | (refine uK ?_ ?_; focus first | omega | (intros; simp_all <;> omega)) | simp (disch := omega) only [go_sem, Nat.reduceBEq, Nat.reduceAdd, ww])
        exact S.met (⟨y, x⟩ : List UInt8 × List UInt8) ⟨hcy, hcx, hly, by simp only; omega, by rw [Nat.gcd_comm]; exact hG, hne.2, hne.1, by simp only; omega⟩ (by (repeat first | refine uA ?_ | (refine ⟨?_, ?_⟩; focus first | rfl | simp [slot]) | rfl | simp))
      · (repeat first | refine uA ?_ | (refine uK ?_ ?_; focus first | omega | (intros; simp_all <;> omega)) | simp (disch := omega) only [go_sem, Nat.reduceBEq, Nat.reduceAdd, ww])
        exact S.met (⟨x, y⟩ : List UInt8 × List UInt8) ⟨hcx, hcy, hlx, by simp only; omega, hG, hne.1, hne.2, rfl⟩ (by (repeat first | refine uA ?_ | (refine ⟨?_, ?_⟩; focus first | rfl | simp [slot]) | rfl | simp))
    clear hcx hcy hlx hly hG hc hne
    rintro ⟨p, q⟩ ⟨hcx, hcy, hlx, hly, hG, hp0, hq0, hsum⟩
    simp only [sb] at hcx hcy hlx hly hG hp0 hq0 hsum ⊢
    have hvp : Nm.val p ≠ 0 := fun h => hp0 ((Nm.val_zero hcx).1 h)
    have hvq : Nm.val q ≠ 0 := fun h => hq0 ((Nm.val_zero hcy).1 h)
    (repeat first | refine uA ?_ | (refine uK ?_ ?_; focus first | omega | (intros; simp_all <;> omega)) | simp (disch := omega) only [go_sem, Nat.reduceBEq, Nat.reduceAdd, ww, D6])
    (refine uJ rfl (fun hc => ?_) fun hc => ?_)
    · have hx7 := Nm.U7 (l := p) (k := 8) (by omega)
      have hy7 := Nm.U7 (l := q) (k := 8) (by omega)
      have e1 : Nm.val p % 18446744073709551616 = Nm.val p := Nat.mod_eq_of_lt (by omega)
      have e2 : Nm.val q % 18446744073709551616 = Nm.val q := Nat.mod_eq_of_lt (by omega)
      have fx := a1d p (by omega)
      have fy := a1d q (by omega)
      rw [e1] at fx
      rw [e2] at fy
      have hco := b1J (Nm.val p) (Nm.val q) (by omega) (by omega)
      rw [hG] at hco
      have hle : G <= Nm.val q := by rw [<- hG]; exact Nat.gcd_le_right _ (by omega)
      have hf := V5 G (by omega)
      (repeat first | refine uA ?_ | (refine uK ?_ ?_; focus first | omega | (intros; simp_all <;> omega)) | simp (disch := omega) only [go_sem, Nat.reduceBEq, Nat.reduceAdd, ww] | (refine uB fx ?_ ?_; exact rfl) | (refine uB fy ?_ ?_; exact rfl) | (refine uB hco ?_ ?_; exact rfl) | (refine uB hf ?_ ?_; exact rfl))
      exact S.done (d9.out rfl (Imp.refl rfl) rfl)
    (repeat first | refine uA ?_ | (refine uK ?_ ?_; focus first | omega | (intros; simp_all <;> omega)) | simp (disch := omega) only [go_sem, Nat.reduceBEq, Nat.reduceAdd, ww, D6])
    (refine uJ rfl (fun hc => ?_) fun hc => ?_)
    · have hh := b6u p q hlx (by omega) hvp hvq
      rw [hG] at hh
      (repeat first | refine uA ?_ | (refine uK ?_ ?_; focus first | omega | (intros; simp_all <;> omega)) | simp (disch := omega) only [go_sem, Nat.reduceBEq, Nat.reduceAdd, ww] | (refine uD hh ?_ ?_ ?_; exact tz hw; exact rfl))
      exact S.done (d9.out rfl (Imp.refl rfl) rfl)
    · have hd := b3C p q (by omega) (by omega) hvq
      have hlt : Nm.val p % Nm.val q < Nm.val q := Nat.mod_lt _ (by omega)
      have hlq := Nm.R4 q
      have hpq := Nm.a1p hcx (a := q) (b := p) (by omega)
      have hrl : (Nm.enc (Nm.val p % Nm.val q)).length <= q.length := Nm.J8 (by omega)
      (repeat first | refine uA ?_ | (refine uK ?_ ?_; focus first | omega | (intros; simp_all <;> omega)) | simp (disch := omega) only [go_sem, Nat.reduceBEq, Nat.reduceAdd, ww] | (refine uB hd ?_ ?_; exact rfl))
      refine S.next (x := (x, y)) (q, Nm.enc (Nm.val p % Nm.val q)) ⟨hcy, Nm.a2g _, by simp only; omega, by simp only; omega, ?_⟩ (by simp only [Nm.H9]; omega) (by (repeat first | refine uA ?_ | (refine ⟨?_, ?_⟩; focus first | rfl | simp [slot]) | rfl | simp))
      simp only [Nm.H9]
      rw [Nat.gcd_comm, <- Nat.gcd_rec, Nat.gcd_comm]; exact hG
  · have hr : Nm.enc G = x ++ y := by
      rw [Z6, Z6] at hc
      rcases Classical.em (x = []) with h | h
      · subst h
        rw [Nm.a8N, Nat.gcd_zero_left] at hG
        rw [<- hG, Nm.a0i hcy]; rfl
      · have hy : y = [] := by
          rcases hc with hc | hc
          · exact absurd hc h
          · exact hc
        subst hy
        rw [Nm.a8N, Nat.gcd_zero_right] at hG
        rw [<- hG, Nm.a0i hcx, List.append_nil]
    rw [hr]
    (repeat first | refine uA ?_ | (refine uK ?_ ?_; focus first | omega | (intros; simp_all <;> omega)) | simp (disch := omega) only [go_sem, Nat.reduceBEq, Nat.reduceAdd, ww, b8t, D6])
    exact S.done (d9.out rfl (Imp.refl rfl) rfl)
def rc (a : Nm.Rt) : C := .agg [.v (.bool a.neg), sb a.num, sb a.den]
def rq (q : Rat) : C := rc (Nm.ofQ q)
def Rb (k : Nat) (a : Nm.Rt) : Prop := a.num.length <= k /\ a.den.length <= k
theorem a3W (l : List UInt8) : (bs l = (⟨#[1]⟩ : ByteArray)) = (l = [1]) := b3D l [1]
theorem a8O (l : List UInt8) : Nm.canon l <-> (l = [] \/ l.getD 0 0 ≠ 0) := by
 cases l with
 | nil => simp [Nm.a5n]
 | cons b r =>
  simp only [List.getD_cons_zero, reduceCtorEq, false_or]
  constructor
  ·intro h h0; exact h r (by rw [h0])
  ·intro h q e; injection e with e1 _; exact h e1
theorem a2j (a : Nm.Rt) (ha : Rb 68719476736 a) : FZ 40 [rc a] (.v (.bool (decide a.G5))) := by
  refine kW b2d b2O (by rfl) fun w O hw => ?_
  obtain ⟨neg, num, den⟩ := a
  obtain ⟨hn, hd⟩ := ha
  simp only [rc] at hn hd ⊢
  simp only [a6r, l9, TT, II, OA, OB, OC, MM, LL, VV, FF, MG, LG, VG, FG, sb]
  have hg := b6V num den (by omega) (by omega)
  have hgood : Nm.Rt.G5 ⟨neg, num, den⟩ <-> den ≠ [] /\ Nm.canon den /\ Nm.canon num /\ (num = [] -> neg = false /\ den = [1]) /\ (den = [1] \/ Nat.gcd (Nm.val num) (Nm.val den) = 1) := Iff.rfl
  rw [a8O, a8O] at hgood
  have hdl : (!decide (den = [])) = true -> 0 < (den.length : Int) := fun h => by
    have : den ≠ [] := by simpa using h
    have := List.length_pos_iff.2 this
    omega
  have hnl : num ≠ [] -> 0 < (num.length : Int) := fun h => by
    have := List.length_pos_iff.2 h
    omega
  have hgb0 : ∀ {p : Prop} [Decidable p], (Nm.Rt.G5 ⟨neg, num, den⟩ <-> p) -> decide (Nm.Rt.G5 ⟨neg, num, den⟩) = decide p := fun h => decide_eq_decide.2 h
  have hgb := hgb0 hgood
  clear hgood hgb0
  generalize decide (Nm.Rt.G5 ⟨neg, num, den⟩) = gb at *
  (repeat first | refine uA ?_ | (refine uK ?_ ?_; focus first | omega | trivial | (intro h; rw [h]; rfl) | (intro h h2; rw [h, h2]; rfl) | (intro h; (try simp at h); omega) | (intros; simp_all <;> omega)) | simp only [go_sem, Nat.reduceBEq, Nat.reduceAdd, Nat.reduceLeDiff, Int.reduceToNat, Int.reducePow, D6, N7, a5R, Z6, a3W] | simp (disch := omega) only [ww, D6, N7, a5R, Z6, a3W])
  refine S.cond rfl (fun hc => ?_) (fun hc => ?_)
  · have : gb = false := by
      rw [hgb, c0c]
      simp only [c0A, b9N, b9U, Bool.not_eq_true', c0c] at hc
      grind
    rw [this]
    (repeat first | refine uA ?_ | (refine uK ?_ ?_; focus first | omega | trivial | (intro h; rw [h]; rfl) | (intro h h2; rw [h, h2]; rfl) | (intro h; (try simp at h); omega) | (intros; simp_all <;> omega)) | simp only [go_sem, Nat.reduceBEq, Nat.reduceAdd, Nat.reduceLeDiff, Int.reduceToNat, Int.reducePow] | simp (disch := omega) only [ww])
    exact S.done (d9.out rfl (Imp.refl rfl) rfl)
  · have hone : (Nm.enc (Nat.gcd (Nm.val num) (Nm.val den)) = [1]) = (Nat.gcd (Nm.val num) (Nm.val den) = 1) := by
      rw [<- Nm.a1e]
      exact propext ⟨Nm.a8D, fun h => by rw [h]⟩
    have : gb = (decide (den = [1]) || decide (Nat.gcd (Nm.val num) (Nm.val den) = 1)) := by
      rw [hgb, <- Bool.decide_or]
      simp only [c0u, Bool.and_eq_false_iff, b9U, Bool.not_eq_false', c0c] at hc
      refine decide_eq_decide.2 ⟨fun h => h.2.2.2.2, fun h => ?_⟩
      grind
    rw [this]
    (repeat first | refine uA ?_ | (refine uK ?_ ?_; focus first | omega | trivial | (intro h; rw [h]; rfl) | (intro h h2; rw [h, h2]; rfl) | (intro h; (try simp at h); omega) | (intros; simp_all <;> omega)) | simp only [go_sem, Nat.reduceBEq, Nat.reduceAdd, Nat.reduceLeDiff, Int.reduceToNat, Int.reducePow, Z6, a3W, hone] | simp (disch := omega) only [ww, Z6, a3W, hone] | (refine uD hg ?_ ?_ ?_; exact tz hw; exact rfl))
    exact S.done (d9.out rfl (Imp.refl rfl) rfl)
theorem b4Q : F3 Tryz.prog 123 [] (rc Nm.a1O) := by
 refine kS Tryz.func123 (by cbv) (by rfl) fun w O => ?_
 simp only [l9, rc, Nm.a1O, sb]
 (repeat first | refine uA ?_ | (refine uK ?_ ?_; focus first | omega | (intros; simp_all <;> omega)) | simp (disch := omega) only [go_sem, Nat.reduceBEq, Nat.reduceAdd, ww])
 (refine S.done ?_; simp only [C8, r9, go_sem, Nat.reduceBEq, Nat.reduceAdd, Nat.reduceLeDiff, Int.reduceToNat, Int.reducePow]; (repeat (refine ⟨?_, ?_⟩; focus first | trivial | omega | simp)); exact d9.out rfl (Imp.refl rfl) rfl)
theorem b9t (a : Nm.Rt) (ha : Rb 68719476736 a) : FZ 77 [rc a] (rq (Nm.j4 a)) := by
 refine kW Tryz.func77 (by cbv) (by rfl) fun w O hw => ?_
 have hg := a2j a ha
 have fz := b4Q
 unfold rq
 by_cases h : a.G5
 ·rw [Nm.b5J h]
  rw [show decide a.G5 = true from decide_eq_true h] at hg
  simp only [l9, rc, sb] at hg ⊢
  (repeat first | refine uA ?_ | (refine uK ?_ ?_; focus first | omega | (intros; simp_all <;> omega)) | simp (disch := omega) only [go_sem, Nat.reduceBEq, Nat.reduceAdd, ww] | (refine uD hg ?_ ?_ ?_; exact tz hw; exact rfl))
  exact S.cond rfl (fun hc => by cases hc) (fun _ => by
   (repeat first | refine uA ?_ | (refine uK ?_ ?_; focus first | omega | (intros; simp_all <;> omega)) | simp (disch := omega) only [go_sem, Nat.reduceBEq, Nat.reduceAdd, ww])
   (refine S.done ?_; simp only [C8, r9, go_sem, Nat.reduceBEq, Nat.reduceAdd, Nat.reduceLeDiff, Int.reduceToNat, Int.reducePow]; (repeat (refine ⟨?_, ?_⟩; focus first | trivial | omega | simp)); exact d9.out rfl (Imp.refl rfl) rfl))
 ·have e : Nm.ofQ (Nm.j4 a) = Nm.a1O := by unfold Nm.j4; rw [if_neg h, Nm.a6N]
  rw [e]
  rw [show decide a.G5 = false from decide_eq_false h] at hg
  simp only [l9, rc, sb, Nm.a1O] at hg fz ⊢
  (repeat first | refine uA ?_ | (refine uK ?_ ?_; focus first | omega | (intros; simp_all <;> omega)) | simp (disch := omega) only [go_sem, Nat.reduceBEq, Nat.reduceAdd, ww] | (refine uD hg ?_ ?_ ?_; exact tz hw; exact rfl))
  exact S.cond rfl (fun _ => by
   (repeat first | refine uA ?_ | (refine uK ?_ ?_; focus first | omega | (intros; simp_all <;> omega)) | simp (disch := omega) only [go_sem, Nat.reduceBEq, Nat.reduceAdd, ww] | (refine uB fz ?_ ?_; exact rfl))
   (refine S.done ?_; simp only [C8, r9, go_sem, Nat.reduceBEq, Nat.reduceAdd, Nat.reduceLeDiff, Int.reduceToNat, Int.reducePow]; (repeat (refine ⟨?_, ?_⟩; focus first | trivial | omega | simp)); exact d9.out rfl (Imp.refl rfl) rfl)) (fun hc => by cases hc)
theorem b7M {n d k : Nat} (hd : 0 < d) (h : (Nm.enc d).length <= k) : (Nm.enc (Nat.gcd n d)).length <= k := Nm.J8 (Nat.lt_of_le_of_lt (Nat.gcd_le_right n hd) (Nm.U3 h))
theorem a5z (neg : Bool) (n d : Nat) (hd : d ≠ 0) (hn : (Nm.enc n).length <= 68719476736) (hdl : (Nm.enc d).length <= 68719476736) :
  FZ 118 [.v (.bool neg), sb (Nm.enc n), sb (Nm.enc d)] (rq (mkRat (Nm.sgn neg n) d)) := by
 refine kW b2r b2c (by rfl) fun w O hw => ?_
 have fz := b4Q
 have hg := b6V (Nm.enc n) (Nm.enc d) hn hdl
 rw [Nm.H9, Nm.H9] at hg
 unfold rq
 rw [<- Nm.a8r neg hd]
 have hz : (Nm.enc n = []) = (n = 0) := propext ⟨fun h => Classical.byContradiction fun h0 => Nm.a3X h0 h, fun h => by rw [h, Nm.a0s]⟩
 have h1 : ∀ d, (Nm.enc d = [1]) = (d = 1) := fun d => by
  rw [<- Nm.a1e]; exact propext ⟨Nm.a8D, fun h => by rw [h]⟩
 have hgp : Nat.gcd n d ≠ 0 := fun h => hd (Nat.eq_zero_of_gcd_eq_zero_right h)
 have hgl : (Nm.enc (Nat.gcd n d)).length <= 68719476736 := by
  exact b7M (by omega) hdl
 have hd1 := b3C (Nm.enc n) (Nm.enc (Nat.gcd n d)) (by omega) (by omega) (by rw [Nm.H9]; exact hgp)
 have hd2 := b3C (Nm.enc d) (Nm.enc (Nat.gcd n d)) (by omega) (by omega) (by rw [Nm.H9]; exact hgp)
 simp only [Nm.H9] at hd1 hd2
 generalize hgg : Nat.gcd n d = g at *
 simp only [a6x, l9, TT, II, OA, OB, OC, MM, LL, VV, FF, MG, LG, VG, FG, sb]
 (repeat first | refine uA ?_ | (refine uK ?_ ?_; focus first | omega | (intros; simp_all <;> omega)) | simp (disch := omega) only [go_sem, Nat.reduceBEq, Nat.reduceAdd, ww, Z6, hz])
 (refine uJ rfl (fun hc => ?_) fun hc => ?_)
 ·rw [if_pos hc]
  simp only [rc, Nm.a1O, sb] at fz ⊢
  (repeat first | refine uA ?_ | (refine uK ?_ ?_; focus first | omega | (intros; simp_all <;> omega)) | simp (disch := omega) only [go_sem, Nat.reduceBEq, Nat.reduceAdd, ww] | (refine uB fz ?_ ?_; exact rfl))
  (refine S.done ?_; simp only [C8, r9, go_sem, Nat.reduceBEq, Nat.reduceAdd, Nat.reduceLeDiff, Int.reduceToNat, Int.reducePow]; (repeat (refine ⟨?_, ?_⟩; focus first | trivial | omega | simp)); exact d9.out rfl (Imp.refl rfl) rfl)
 rw [if_neg hc]
 simp only [rc, sb]
 (repeat first | refine uA ?_ | (refine uK ?_ ?_; focus first | omega | (intros; simp_all <;> omega)) | simp (disch := omega) only [go_sem, Nat.reduceBEq, Nat.reduceAdd, ww, a3W, h1])
 (refine uJ rfl (fun hc => ?_) fun hc => ?_)
 ·(repeat first | refine uA ?_ | (refine uK ?_ ?_; focus first | omega | (intros; simp_all <;> omega)) | simp (disch := omega) only [go_sem, Nat.reduceBEq, Nat.reduceAdd, ww, a3W, h1] | (refine uD hg ?_ ?_ ?_; exact tz hw; exact rfl))
  (refine uJ rfl (fun hc => ?_) fun hc => ?_)
  ·(repeat first | refine uA ?_ | (refine uK ?_ ?_; focus first | omega | (intros; simp_all <;> omega)) | simp (disch := omega) only [go_sem, Nat.reduceBEq, Nat.reduceAdd, ww] | (refine uB hd1 ?_ ?_; exact rfl) | (refine uB hd2 ?_ ?_; exact rfl))
   (refine S.done ?_; simp only [C8, r9, go_sem, Nat.reduceBEq, Nat.reduceAdd, Nat.reduceLeDiff, Int.reduceToNat, Int.reducePow]; (repeat (refine ⟨?_, ?_⟩; focus first | trivial | omega | simp)); exact d9.out rfl (Imp.refl rfl) rfl)
  ·rw [hc, Nat.div_one, Nat.div_one]
   (repeat first | refine uA ?_ | (refine uK ?_ ?_; focus first | omega | (intros; simp_all <;> omega)) | simp (disch := omega) only [go_sem, Nat.reduceBEq, Nat.reduceAdd, ww])
   (refine S.done ?_; simp only [C8, r9, go_sem, Nat.reduceBEq, Nat.reduceAdd, Nat.reduceLeDiff, Int.reduceToNat, Int.reducePow]; (repeat (refine ⟨?_, ?_⟩; focus first | trivial | omega | simp)); exact d9.out rfl (Imp.refl rfl) rfl)
 ·rw [hc, Nat.gcd_one_right] at hgg
  subst hgg
  rw [hc, Nat.div_one, Nat.div_one]
  (repeat first | refine uA ?_ | (refine uK ?_ ?_; focus first | omega | (intros; simp_all <;> omega)) | simp (disch := omega) only [go_sem, Nat.reduceBEq, Nat.reduceAdd, ww])
  (refine S.done ?_; simp only [C8, r9, go_sem, Nat.reduceBEq, Nat.reduceAdd, Nat.reduceLeDiff, Int.reduceToNat, Int.reducePow]; (repeat (refine ⟨?_, ?_⟩; focus first | trivial | omega | simp)); exact d9.out rfl (Imp.refl rfl) rfl)
theorem b0X (neg mi : Bool) (a b : List UInt8) (ha : a.length <= 68719476736) (hb : b.length <= 68719476736) :
  F3 Tryz.prog 117 [.v (.bool neg), sb a, .v (.bool mi), sb b] (.tup [.v (.bool (Nm.J4 neg (Nm.val a) mi (Nm.val b)).1), sb (Nm.enc (Nm.J4 neg (Nm.val a) mi (Nm.val b)).2)]) := by
 refine kS Tryz.func117 (by cbv) (by rfl) fun w O => ?_
 have hadd := f_add a b (by omega) (by omega)
 have hs1 := b6R a b (by omega) (by omega)
 have hs2 := b6R b a (by omega) (by omega)
 simp only [l9, sb]
 (repeat first | refine uA ?_ | (refine uK ?_ ?_; focus first | omega | (intros; simp_all <;> omega)) | simp (disch := omega) only [go_sem, Nat.reduceBEq, Nat.reduceAdd, ww])
 refine S.cond rfl (fun hc => ?_) (fun hc => ?_)
 ·have e : neg = mi := by simpa using hc
  subst e
  unfold Nm.J4
  rw [if_pos rfl]
  (repeat first | refine uA ?_ | (refine uK ?_ ?_; focus first | omega | (intros; simp_all <;> omega)) | simp (disch := omega) only [go_sem, Nat.reduceBEq, Nat.reduceAdd, ww] | (refine uB hadd ?_ ?_; exact rfl))
  exact S.done (d9.out rfl (Imp.refl rfl) rfl)
 ·have e : neg ≠ mi := by simpa using hc
  unfold Nm.J4
  rw [if_neg e]
  by_cases h : Nm.val b <= Nm.val a
  ·rw [if_pos h]
   have e1 : D9 (Nm.val a) (Nm.val b) = Nm.enc (Nm.val a - Nm.val b) := by unfold D9; rw [if_pos h]
   have e2 : a2X (Nm.val a) (Nm.val b) = 0 := by unfold a2X; rw [if_pos h]
   rw [e1, e2] at hs1
   (repeat first | refine uA ?_ | (refine uK ?_ ?_; focus first | omega | (intros; simp_all <;> omega)) | simp (disch := omega) only [go_sem, Nat.reduceBEq, Nat.reduceAdd, ww] | (refine uB hs1 ?_ ?_; exact rfl))
   refine S.cond rfl (fun hc => ?_) (fun hc => ?_)
   ·(repeat first | refine uA ?_ | (refine uK ?_ ?_; focus first | omega | (intros; simp_all <;> omega)) | simp (disch := omega) only [go_sem, Nat.reduceBEq, Nat.reduceAdd, ww])
    exact S.done (d9.out rfl (Imp.refl rfl) rfl)
   ·simp at hc
  ·rw [if_neg h]
   have e1 : D9 (Nm.val a) (Nm.val b) = [] := by unfold D9; rw [if_neg h]
   have e2 : a2X (Nm.val a) (Nm.val b) = 1 := by unfold a2X; rw [if_neg h]
   have e3 : D9 (Nm.val b) (Nm.val a) = Nm.enc (Nm.val b - Nm.val a) := by unfold D9; rw [if_pos (by omega)]
   have e4 : a2X (Nm.val b) (Nm.val a) = 0 := by unfold a2X; rw [if_pos (by omega)]
   rw [e1, e2] at hs1
   rw [e3, e4] at hs2
   (repeat first | refine uA ?_ | (refine uK ?_ ?_; focus first | omega | (intros; simp_all <;> omega)) | simp (disch := omega) only [go_sem, Nat.reduceBEq, Nat.reduceAdd, ww] | (refine uB hs1 ?_ ?_; exact rfl))
   refine S.cond rfl (fun hc => ?_) (fun hc => ?_)
   ·simp at hc
   ·(repeat first | refine uA ?_ | (refine uK ?_ ?_; focus first | omega | (intros; simp_all <;> omega)) | simp (disch := omega) only [go_sem, Nat.reduceBEq, Nat.reduceAdd, ww] | (refine uB hs2 ?_ ?_; exact rfl))
    exact S.done (d9.out rfl (Imp.refl rfl) rfl)
namespace Nm
theorem K5 {a b k m : Nat} (ha : (enc a).length <= k) (hb : (enc b).length <= m) : (enc (a * b)).length <= k + m := by
 refine J8 ?_
 rw [Nat.pow_add]
 exact Nat.mul_lt_mul'' (U3 ha) (U3 hb)
theorem a3E {a b k : Nat} (ha : (enc a).length <= k) (hb : (enc b).length <= k) : (enc (a + b)).length <= k + 1 := by
 refine J8 ?_
 have h1 := U3 ha
 have h2 := U3 hb
 rw [c0s]; omega
theorem a2V {a b : Nat} (h : a <= b) : (enc a).length <= (enc b).length := J8 (Nat.lt_of_le_of_lt h (U3 (b9T _)))
theorem a4D (neg : Bool) (a : Nat) (mi : Bool) (b : Nat) : (J4 neg a mi b).2 <= a + b := by
 unfold J4; repeat' split
 all_goals simp only; omega
theorem add_same {p q : Rat} (h : p.den = q.den) : p + q = mkRat (p.num + q.num) p.den := by
 rw [Rat.add_def', <- h, <- Int.add_mul, Rat.mkRat_mul_right p.den_nz]
theorem a5Y (p : Rat) : sgn (decide (p.num < 0)) p.num.natAbs = p.num := b3b p
theorem b6g {p q : Rat} (h : p.den = q.den) : mkRat (sgn (J4 (decide (p.num < 0)) p.num.natAbs (decide (q.num < 0)) q.num.natAbs).1 (J4 (decide (p.num < 0)) p.num.natAbs (decide (q.num < 0)) q.num.natAbs).2) p.den = p + q := by
 rw [a8T, a5Y, a5Y, add_same h]
theorem a9A (p q : Rat) : mkRat (sgn (J4 (decide (p.num < 0)) (p.num.natAbs * q.den) (decide (q.num < 0)) (q.num.natAbs * p.den)).1 (J4 (decide (p.num < 0)) (p.num.natAbs * q.den) (decide (q.num < 0)) (q.num.natAbs * p.den)).2) (p.den * q.den) = p + q := by
 rw [a8T, a6y, a6y, a5Y, a5Y, Rat.add_def']
theorem b0S (p q : Rat) : mkRat (sgn (decide (p.num < 0) != decide (q.num < 0)) (p.num.natAbs * q.num.natAbs)) (p.den * q.den) = p * q := by
 rw [b7n, a5Y, a5Y, Rat.mul_def']
end Nm
theorem Rb.fit {k : Nat} {a : Nm.Rt} (h : Rb k a) (hk : 1 <= k) : Rb k (Nm.ofQ (Nm.j4 a)) := by
 by_cases hg : a.G5
 ·rw [Nm.b5J hg]; exact h
 ·have e : Nm.ofQ (Nm.j4 a) = Nm.a1O := by unfold Nm.j4; rw [if_neg hg, Nm.a6N]
  rw [e]; exact ⟨b9M _, hk⟩
theorem Q9 (a : Nm.Rt) (ha : Rb 17179869184 a) : FZ 77 [rc a] (rq (Nm.j4 a)) := b9t a ⟨by have := ha.1; omega, by have := ha.2; omega⟩
theorem b7G (a b : Nat) : (Nm.enc a = Nm.enc b) = (a = b) := propext ⟨Nm.a8D, fun h => by rw [h]⟩
theorem a9D (n : Nat) : (Nm.enc n = []) = (n = 0) := propext ⟨fun h => Classical.byContradiction fun h0 => Nm.a3X h0 h, fun h => by rw [h, Nm.a0s]⟩
theorem b9f (n : Int) (h1 : -9223372036854775808 <= n) (h2 : n <= 9223372036854775807) : FZ 86 [ints n] (rq (n : Rat)) := by
 refine kW Tryz.func86 (by cbv) (by rfl) fun w O hw => ?_
 have hb : ∀ k : Nat, k <= 9223372036854775808 -> (Nm.enc k).length <= 8 := fun k hk => Nm.J8 (by omega)
 have e1 : sb [1] = sb (Nm.enc 1) := by rw [Nm.a1e]
 simp only [l9, ints]
 (repeat first | refine uA ?_ | (refine uK ?_ ?_; focus first | omega | (intros; simp_all <;> omega)) | simp (disch := omega) only [go_sem, Nat.reduceBEq, Nat.reduceAdd, ww])
 (refine uJ rfl (fun hc => ?_) fun hc => ?_)
 ·have hof := b4l n (by omega)
  have hm := a5z false n.toNat 1 (by decide) (by have := hb n.toNat (by omega); omega) (by have := hb 1 (by decide); omega)
  have e : mkRat (Nm.sgn false n.toNat) 1 = (n : Rat) := by
   rw [Rat.mkRat_one]; congr 1; unfold Nm.sgn; simp; omega
  rw [e, Nm.a1e] at hm
  simp only [rq, rc, sb, ints] at hm hof ⊢
  (repeat first | refine uA ?_ | (refine uK ?_ ?_; focus first | omega | (intros; simp_all <;> omega)) | simp (disch := omega) only [go_sem, Nat.reduceBEq, Nat.reduceAdd, ww] | (refine uB hof ?_ ?_; exact rfl) | (refine uD hm ?_ ?_ ?_; exact tz hw; exact rfl))
  (refine S.done ?_; simp only [C8, r9, go_sem, Nat.reduceBEq, Nat.reduceAdd, Nat.reduceLeDiff, Int.reduceToNat, Int.reducePow]; (repeat (refine ⟨?_, ?_⟩; focus first | trivial | omega | simp)); exact d9.out rfl (Imp.refl rfl) rfl)
 ·have hof := b4l (-(n + 1)) (by omega)
  have hadd := f_add (Nm.enc (-(n + 1)).toNat) [1] (by have := hb (-(n + 1)).toNat (by omega); omega) (by decide)
  have hm := a5z true ((-(n + 1)).toNat + 1) 1 (by decide) (by have := hb ((-(n + 1)).toNat + 1) (by omega); omega) (by have := hb 1 (by decide); omega)
  have e : mkRat (Nm.sgn true ((-(n + 1)).toNat + 1)) 1 = (n : Rat) := by
   rw [Rat.mkRat_one]; congr 1; unfold Nm.sgn; simp; omega
  rw [Nm.H9, show Nm.val [1] = 1 from rfl] at hadd
  rw [e, Nm.a1e] at hm
  have hneg : IntKind.i64.wrap (0 - (n + 1)) = -(n + 1) := by rw [Eng.wrap_i64 (by omega)]; omega
  simp only [rq, rc, sb, ints] at hm hof hadd ⊢
  (repeat first | refine uA ?_ | (refine uK ?_ ?_; focus first | omega | (intros; simp_all <;> omega)) | simp (disch := omega) only [go_sem, Nat.reduceBEq, Nat.reduceAdd, ww, hneg] | (refine uB hof ?_ ?_; exact rfl) | (refine uB hadd ?_ ?_; exact rfl) | (refine uD hm ?_ ?_ ?_; exact tz hw; exact rfl))
  (refine S.done ?_; simp only [C8, r9, go_sem, Nat.reduceBEq, Nat.reduceAdd, Nat.reduceLeDiff, Int.reduceToNat, Int.reducePow]; (repeat (refine ⟨?_, ?_⟩; focus first | trivial | omega | simp)); exact d9.out rfl (Imp.refl rfl) rfl)
theorem b8H (a b : Nm.Rt) (ha : Rb 17179869184 a) (hb : Rb 17179869184 b) : FZ 72 [rc a, rc b] (rq (Nm.j4 a + Nm.j4 b)) := by
 refine kW b3E b3q (by rfl) fun w O hw => ?_
 have hfa := Q9 a ha
 have hfb := Q9 b hb
 obtain ⟨n1, d1⟩ := ha.fit (by decide)
 obtain ⟨n2, d2⟩ := hb.fit (by decide)
 generalize Nm.j4 a = p at *
 generalize Nm.j4 b = q at *
 simp only [Nm.ofQ] at n1 d1 n2 d2
 have hp := p.den_nz
 have hq := q.den_nz
 have l1 := Nm.K5 n1 d2
 have l2 := Nm.K5 n2 d1
 have l3 := Nm.K5 d1 d2
 have s1 := b0X (decide (p.num < 0)) (decide (q.num < 0)) (Nm.enc p.num.natAbs) (Nm.enc q.num.natAbs) (by omega) (by omega)
 have m1 := a3l (Nm.enc p.num.natAbs) (Nm.enc q.den) (by omega) (by omega)
 have m2 := a3l (Nm.enc q.num.natAbs) (Nm.enc p.den) (by omega) (by omega)
 have m3 := a3l (Nm.enc p.den) (Nm.enc q.den) (by omega) (by omega)
 simp only [Nm.H9] at s1 m1 m2 m3
 have s2 := b0X (decide (p.num < 0)) (decide (q.num < 0)) (Nm.enc (p.num.natAbs * q.den)) (Nm.enc (q.num.natAbs * p.den)) (by omega) (by omega)
 simp only [Nm.H9] at s2
 have k1 : (Nm.enc (Nm.J4 (decide (p.num < 0)) p.num.natAbs (decide (q.num < 0)) q.num.natAbs).2).length <= 17179869185 := b9L (Nm.a2V (Nm.a4D _ _ _ _)) (Nm.a3E n1 n2)
 have k2 : (Nm.enc (Nm.J4 (decide (p.num < 0)) (p.num.natAbs * q.den) (decide (q.num < 0)) (q.num.natAbs * p.den)).2).length <= 34359738369 := b9L (Nm.a2V (Nm.a4D _ _ _ _)) (Nm.a3E l1 l2)
 have v1 := a5z (Nm.J4 (decide (p.num < 0)) p.num.natAbs (decide (q.num < 0)) q.num.natAbs).1 (Nm.J4 (decide (p.num < 0)) p.num.natAbs (decide (q.num < 0)) q.num.natAbs).2 p.den hp (by omega) (by omega)
 have v2 := a5z (Nm.J4 (decide (p.num < 0)) (p.num.natAbs * q.den) (decide (q.num < 0)) (q.num.natAbs * p.den)).1 (Nm.J4 (decide (p.num < 0)) (p.num.natAbs * q.den) (decide (q.num < 0)) (q.num.natAbs * p.den)).2 (p.den * q.den) (Nat.mul_ne_zero hp hq) (by omega) (by omega)
 rw [Nm.a9A] at v2
 have hsame := fun h => Nm.b6g (p := p) (q := q) h
 generalize p + q = r at *
 generalize Nm.J4 (decide (p.num < 0)) p.num.natAbs (decide (q.num < 0)) q.num.natAbs = t1 at *
 generalize Nm.J4 (decide (p.num < 0)) (p.num.natAbs * q.den) (decide (q.num < 0)) (q.num.natAbs * p.den) = t2 at *
 simp only [a7k, l9, TT, II, OA, OB, OC, MM, LL, VV, FF, MG, LG, VG, FG]
 simp only [rq, rc, sb, Nm.ofQ] at *
 (repeat first | refine uA ?_ | (refine uK ?_ ?_; focus first | omega | (intros; simp_all <;> omega)) | simp (disch := omega) only [go_sem, Nat.reduceBEq, Nat.reduceAdd, ww, b3D, b7G] | (refine uD hfa ?_ ?_ ?_; exact tz hw; exact rfl) | (refine uD hfb ?_ ?_ ?_; exact tz hw; exact rfl))
 (refine uJ rfl (fun hc => ?_) fun hc => ?_)
 ·rw [hsame hc] at v1
  (repeat first | refine uA ?_ | (refine uK ?_ ?_; focus first | omega | (intros; simp_all <;> omega)) | simp (disch := omega) only [go_sem, Nat.reduceBEq, Nat.reduceAdd, ww] | (refine uB s1 ?_ ?_; exact rfl) | (refine uD v1 ?_ ?_ ?_; exact tz hw; exact rfl))
  (refine S.done ?_; simp only [C8, r9, go_sem, Nat.reduceBEq, Nat.reduceAdd, Nat.reduceLeDiff, Int.reduceToNat, Int.reducePow]; (repeat (refine ⟨?_, ?_⟩; focus first | trivial | omega | simp)); exact d9.out rfl (Imp.refl rfl) rfl)
 ·(repeat first | refine uA ?_ | (refine uK ?_ ?_; focus first | omega | (intros; simp_all <;> omega)) | simp (disch := omega) only [go_sem, Nat.reduceBEq, Nat.reduceAdd, ww] | (refine uB m1 ?_ ?_; exact rfl) | (refine uB m2 ?_ ?_; exact rfl) | (refine uB m3 ?_ ?_; exact rfl) | (refine uB s2 ?_ ?_; exact rfl) | (refine uD v2 ?_ ?_ ?_; exact tz hw; exact rfl))
  (refine S.done ?_; simp only [C8, r9, go_sem, Nat.reduceBEq, Nat.reduceAdd, Nat.reduceLeDiff, Int.reduceToNat, Int.reducePow]; (repeat (refine ⟨?_, ?_⟩; focus first | trivial | omega | simp)); exact d9.out rfl (Imp.refl rfl) rfl)
theorem b8O (a b : Nm.Rt) (ha : Rb 17179869184 a) (hb : Rb 17179869184 b) : FZ 106 [rc a, rc b] (rq (Nm.j4 a * Nm.j4 b)) := by
 refine kW Tryz.func106 (by cbv) (by rfl) fun w O hw => ?_
 have hfa := Q9 a ha
 have hfb := Q9 b hb
 obtain ⟨n1, d1⟩ := ha.fit (by decide)
 obtain ⟨n2, d2⟩ := hb.fit (by decide)
 generalize Nm.j4 a = p at *
 generalize Nm.j4 b = q at *
 simp only [Nm.ofQ] at n1 d1 n2 d2
 have hp := p.den_nz
 have hq := q.den_nz
 have l1 := Nm.K5 n1 n2
 have l3 := Nm.K5 d1 d2
 have m1 := a3l (Nm.enc p.num.natAbs) (Nm.enc q.num.natAbs) (by omega) (by omega)
 have m3 := a3l (Nm.enc p.den) (Nm.enc q.den) (by omega) (by omega)
 simp only [Nm.H9] at m1 m3
 have v2 := a5z (decide (p.num < 0) != decide (q.num < 0)) (p.num.natAbs * q.num.natAbs) (p.den * q.den) (Nat.mul_ne_zero hp hq) (by omega) (by omega)
 rw [Nm.b0S] at v2
 generalize p * q = r at *
 simp only [l9]
 simp only [rq, rc, sb, Nm.ofQ] at *
 (repeat first | refine uA ?_ | (refine uK ?_ ?_; focus first | omega | (intros; simp_all <;> omega)) | simp (disch := omega) only [go_sem, Nat.reduceBEq, Nat.reduceAdd, ww] | (refine uB m1 ?_ ?_; exact rfl) | (refine uB m3 ?_ ?_; exact rfl) | (refine uD hfa ?_ ?_ ?_; exact tz hw; exact rfl) | (refine uD hfb ?_ ?_ ?_; exact tz hw; exact rfl) | (refine uD v2 ?_ ?_ ?_; exact tz hw; exact rfl))
 (refine S.done ?_; simp only [C8, r9, go_sem, Nat.reduceBEq, Nat.reduceAdd, Nat.reduceLeDiff, Int.reduceToNat, Int.reducePow]; (repeat (refine ⟨?_, ?_⟩; focus first | trivial | omega | simp)); exact d9.out rfl (Imp.refl rfl) rfl)
def I8 (q : Rat) : Int := if q.num = 0 then 0 else if q.num < 0 then -1 else 1
theorem a7X (p : Rat) : Nm.ofQ (-p) = ⟨!decide (p.num < 0) && !decide (p.num.natAbs = 0), Nm.enc p.num.natAbs, Nm.enc p.den⟩ := by
 unfold Nm.ofQ
 rw [Rat.neg_num, Rat.neg_den, Int.natAbs_neg]
 congr 1
 by_cases h : p.num < 0
 ·simp [h]; omega
 ·by_cases h0 : p.num = 0
  ·simp [h0]
  ·have : ¬ p.num.natAbs = 0 := by omega
   simp [h, this]; omega
theorem b8l (a : Nm.Rt) (ha : Rb 17179869184 a) : FZ 68 [rc a] (rq (- Nm.j4 a)) := by
 refine kW Tryz.func68 (by cbv) (by rfl) fun w O hw => ?_
 have hfa := Q9 a ha
 generalize Nm.j4 a = p at *
 simp only [l9]
 unfold rq at *
 rw [a7X]
 simp only [rc, sb, Nm.ofQ] at *
 (repeat first | refine uA ?_ | (refine uK ?_ ?_; focus first | omega | (intros; simp_all <;> omega)) | simp (disch := omega) only [go_sem, Nat.reduceBEq, Nat.reduceAdd, ww, Z6, a9D] | (refine uD hfa ?_ ?_ ?_; exact tz hw; exact rfl))
 (refine S.done ?_; simp only [C8, r9, go_sem, Nat.reduceBEq, Nat.reduceAdd, Nat.reduceLeDiff, Int.reduceToNat, Int.reducePow]; (repeat (refine ⟨?_, ?_⟩; focus first | trivial | omega | simp)); exact d9.out rfl (Imp.refl rfl) rfl)
theorem b8Y {k : Nat} {a : Nm.Rt} (h : Rb k a) (hk : 1 <= k) : Rb k (Nm.ofQ (- Nm.j4 a)) := by
 obtain ⟨h1, h2⟩ := h.fit hk
 rw [a7X]
 exact ⟨h1, h2⟩
theorem b0u (a b : Nm.Rt) (ha : Rb 17179869184 a) (hb : Rb 17179869184 b) : FZ 66 [rc a, rc b] (rq (Nm.j4 a - Nm.j4 b)) := by
 refine kW Tryz.func66 (by cbv) (by rfl) fun w O hw => ?_
 have hn := b8l b hb
 have hadd := b8H a (Nm.ofQ (- Nm.j4 b)) ha (b8Y hb (by decide))
 rw [Nm.X8, <- Rat.sub_eq_add_neg] at hadd
 unfold rq at *
 generalize Nm.ofQ (- Nm.j4 b) = c at *
 generalize Nm.ofQ (Nm.j4 a - Nm.j4 b) = d at *
 simp only [l9]
 simp only [rc, sb] at *
 (repeat first | refine uA ?_ | (refine uK ?_ ?_; focus first | omega | (intros; simp_all <;> omega)) | simp (disch := omega) only [go_sem, Nat.reduceBEq, Nat.reduceAdd, ww] | (refine uD hn ?_ ?_ ?_; exact tz hw; exact rfl) | (refine uD hadd ?_ ?_ ?_; exact tz hw; exact rfl))
 (refine S.done ?_; simp only [C8, r9, go_sem, Nat.reduceBEq, Nat.reduceAdd, Nat.reduceLeDiff, Int.reduceToNat, Int.reducePow]; (repeat (refine ⟨?_, ?_⟩; focus first | trivial | omega | simp)); exact d9.out rfl (Imp.refl rfl) rfl)
theorem a0A (a : Nm.Rt) (ha : Rb 17179869184 a) : FZ 42 [rc a] (ints (I8 (Nm.j4 a))) := by
 refine kW Tryz.func42 (by cbv) (by rfl) fun w O hw => ?_
 have hfa := Q9 a ha
 generalize Nm.j4 a = p at *
 simp only [l9]
 simp only [rq, rc, sb, Nm.ofQ, ints] at *
 (repeat first | refine uA ?_ | (refine uK ?_ ?_; focus first | omega | (intros; simp_all <;> omega)) | simp (disch := omega) only [go_sem, Nat.reduceBEq, Nat.reduceAdd, ww, Z6, a9D] | (refine uD hfa ?_ ?_ ?_; exact tz hw; exact rfl))
 (refine uJ rfl (fun hc => ?_) fun hc => ?_)
 ·have : I8 p = 0 := by unfold I8; rw [if_pos (by omega)]
  rw [this]
  (repeat first | refine uA ?_ | (refine uK ?_ ?_; focus first | omega | (intros; simp_all <;> omega)) | simp (disch := omega) only [go_sem, Nat.reduceBEq, Nat.reduceAdd, ww])
  exact S.done (d9.out rfl (Imp.refl rfl) rfl)
 (repeat first | refine uA ?_ | (refine uK ?_ ?_; focus first | omega | (intros; simp_all <;> omega)) | simp (disch := omega) only [go_sem, Nat.reduceBEq, Nat.reduceAdd, ww])
 (refine uJ rfl (fun hc => ?_) fun hc => ?_)
 ·have : I8 p = -1 := by unfold I8; rw [if_neg (by omega), if_pos hc]
  rw [this]
  (repeat first | refine uA ?_ | (refine uK ?_ ?_; focus first | omega | (intros; simp_all <;> omega)) | simp (disch := omega) only [go_sem, Nat.reduceBEq, Nat.reduceAdd, ww])
  exact S.done (d9.out rfl (Imp.refl rfl) rfl)
 ·have : I8 p = 1 := by unfold I8; rw [if_neg (by omega), if_neg hc]
  rw [this]
  (repeat first | refine uA ?_ | (refine uK ?_ ?_; focus first | omega | (intros; simp_all <;> omega)) | simp (disch := omega) only [go_sem, Nat.reduceBEq, Nat.reduceAdd, ww])
  exact S.done (d9.out rfl (Imp.refl rfl) rfl)
theorem b4b (a b : Nat) : -1 <= Nm.W9 a b /\ Nm.W9 a b <= 1 := by
 unfold Nm.W9
 by_cases h : a < b
 ·rw [if_pos h]; omega
 ·rw [if_neg h]; split <;> omega
theorem a2h (a b : Nm.Rt) (ha : Rb 17179869184 a) (hb : Rb 17179869184 b) : FZ 22 [rc a, rc b] (ints (Nm.G8 (Nm.j4 a) (Nm.j4 b))) := by
 refine kW b3v b4e (by rfl) fun w O hw => ?_
 have hfa := Q9 a ha
 have hfb := Q9 b hb
 obtain ⟨n1, d1⟩ := ha.fit (by decide)
 obtain ⟨n2, d2⟩ := hb.fit (by decide)
 generalize Nm.j4 a = p at *
 generalize Nm.j4 b = q at *
 rw [Nm.b7k]
 simp only [Nm.ofQ] at n1 d1 n2 d2
 have l1 := Nm.K5 n1 d2
 have l2 := Nm.K5 n2 d1
 have m1 := a3l (Nm.enc p.num.natAbs) (Nm.enc q.den) (by omega) (by omega)
 have m2 := a3l (Nm.enc q.num.natAbs) (Nm.enc p.den) (by omega) (by omega)
 simp only [Nm.H9] at m1 m2
 have hcmp := a7S (Nm.enc (p.num.natAbs * q.den)) (Nm.enc (q.num.natAbs * p.den)) (by omega) (by omega)
 simp only [Nm.H9] at hcmp
 have hcr := b4b (p.num.natAbs * q.den) (q.num.natAbs * p.den)
 generalize Nm.W9 (p.num.natAbs * q.den) (q.num.natAbs * p.den) = cn at *
 simp only [a7w, l9, TT, II, OA, OB, OC, MM, LL, VV, FF, MG, LG, VG, FG]
 simp only [rq, rc, sb, Nm.ofQ, ints] at *
 generalize decide (p.num < 0) = bp at *
 generalize decide (q.num < 0) = bq at *
 (repeat first | refine uA ?_ | (refine uK ?_ ?_; focus first | omega | (intros; simp_all <;> omega)) | simp (disch := omega) only [go_sem, Nat.reduceBEq, Nat.reduceAdd, ww] | (refine uD hfa ?_ ?_ ?_; exact tz hw; exact rfl) | (refine uD hfb ?_ ?_ ?_; exact tz hw; exact rfl))
 refine S.cond rfl (fun hc => ?_) (fun hc => ?_)
 ·have hne : bp ≠ bq := by simpa using hc
  rw [if_pos hne]
  (repeat first | refine uA ?_ | (refine uK ?_ ?_; focus first | omega | (intros; simp_all <;> omega)) | simp (disch := omega) only [go_sem, Nat.reduceBEq, Nat.reduceAdd, ww])
  refine S.cond rfl (fun hc => ?_) (fun hc => ?_)
  ·rw [if_pos hc]
   (repeat first | refine uA ?_ | (refine uK ?_ ?_; focus first | omega | (intros; simp_all <;> omega)) | simp (disch := omega) only [go_sem, Nat.reduceBEq, Nat.reduceAdd, ww])
   exact S.done (d9.out rfl (Imp.refl rfl) rfl)
  ·rw [if_neg (by simp [hc])]
   (repeat first | refine uA ?_ | (refine uK ?_ ?_; focus first | omega | (intros; simp_all <;> omega)) | simp (disch := omega) only [go_sem, Nat.reduceBEq, Nat.reduceAdd, ww])
   exact S.done (d9.out rfl (Imp.refl rfl) rfl)
 ·have he : bp = bq := by simpa using hc
  rw [if_neg (by simp [he])]
  (repeat first | refine uA ?_ | (refine uK ?_ ?_; focus first | omega | (intros; simp_all <;> omega)) | simp (disch := omega) only [go_sem, Nat.reduceBEq, Nat.reduceAdd, ww] | (refine uB m1 ?_ ?_; exact rfl) | (refine uB m2 ?_ ?_; exact rfl) | (refine uB hcmp ?_ ?_; exact rfl))
  refine S.cond rfl (fun hc => ?_) (fun hc => ?_)
  ·rw [if_pos hc]
   have hneg : IntKind.i64.wrap (0 - cn) = - cn := by rw [Eng.wrap_i64 (by omega)]; omega
   (repeat first | refine uA ?_ | (refine uK ?_ ?_; focus first | omega | (intros; simp_all <;> omega)) | simp (disch := omega) only [go_sem, Nat.reduceBEq, Nat.reduceAdd, ww, hneg])
   exact S.done (d9.out rfl (Imp.refl rfl) rfl)
  ·rw [if_neg (by simp [hc])]
   (repeat first | refine uA ?_ | (refine uK ?_ ?_; focus first | omega | (intros; simp_all <;> omega)) | simp (disch := omega) only [go_sem, Nat.reduceBEq, Nat.reduceAdd, ww])
   exact S.done (d9.out rfl (Imp.refl rfl) rfl)
def a1K (p q : Rat) : Rat := if Nm.G8 p q <= 0 then p else q
def a7a (p q : Rat) : Rat := if Nm.G8 p q >= 0 then p else q
theorem b5E (a b : Nm.Rt) (ha : Rb 17179869184 a) (hb : Rb 17179869184 b) : FZ 69 [rc a, rc b] (rq (a1K (Nm.j4 a) (Nm.j4 b))) := by
 refine kW Tryz.func69 (by cbv) (by rfl) fun w O hw => ?_
 have hfa := Q9 a ha
 have hfb := Q9 b hb
 have hc := a2h a b ha hb
 unfold a1K
 generalize Nm.G8 (Nm.j4 a) (Nm.j4 b) = cn at *
 simp only [l9]
 unfold rq at *
 generalize Nm.j4 a = p at *
 generalize Nm.j4 b = q at *
 simp only [rc, sb, ints] at *
 (repeat first | refine uA ?_ | (refine uK ?_ ?_; focus first | omega | (intros; simp_all <;> omega)) | simp (disch := omega) only [go_sem, Nat.reduceBEq, Nat.reduceAdd, ww] | (refine uD hc ?_ ?_ ?_; exact tz hw; exact rfl))
 (refine uJ rfl (fun hc => ?_) fun hc => ?_)
 ·rw [if_pos hc]
  (repeat first | refine uA ?_ | (refine uK ?_ ?_; focus first | omega | (intros; simp_all <;> omega)) | simp (disch := omega) only [go_sem, Nat.reduceBEq, Nat.reduceAdd, ww] | (refine uD hfa ?_ ?_ ?_; exact tz hw; exact rfl))
  (refine S.done ?_; simp only [C8, r9, go_sem, Nat.reduceBEq, Nat.reduceAdd, Nat.reduceLeDiff, Int.reduceToNat, Int.reducePow]; (repeat (refine ⟨?_, ?_⟩; focus first | trivial | omega | simp)); exact d9.out rfl (Imp.refl rfl) rfl)
 ·rw [if_neg hc]
  (repeat first | refine uA ?_ | (refine uK ?_ ?_; focus first | omega | (intros; simp_all <;> omega)) | simp (disch := omega) only [go_sem, Nat.reduceBEq, Nat.reduceAdd, ww] | (refine uD hfb ?_ ?_ ?_; exact tz hw; exact rfl))
  (refine S.done ?_; simp only [C8, r9, go_sem, Nat.reduceBEq, Nat.reduceAdd, Nat.reduceLeDiff, Int.reduceToNat, Int.reducePow]; (repeat (refine ⟨?_, ?_⟩; focus first | trivial | omega | simp)); exact d9.out rfl (Imp.refl rfl) rfl)
theorem b8I (a b : Nm.Rt) (ha : Rb 17179869184 a) (hb : Rb 17179869184 b) : FZ 67 [rc a, rc b] (rq (a7a (Nm.j4 a) (Nm.j4 b))) := by
 refine kW Tryz.func67 (by cbv) (by rfl) fun w O hw => ?_
 have hfa := Q9 a ha
 have hfb := Q9 b hb
 have hc := a2h a b ha hb
 unfold a7a
 generalize Nm.G8 (Nm.j4 a) (Nm.j4 b) = cn at *
 simp only [l9]
 unfold rq at *
 generalize Nm.j4 a = p at *
 generalize Nm.j4 b = q at *
 simp only [rc, sb, ints] at *
 (repeat first | refine uA ?_ | (refine uK ?_ ?_; focus first | omega | (intros; simp_all <;> omega)) | simp (disch := omega) only [go_sem, Nat.reduceBEq, Nat.reduceAdd, ww] | (refine uD hc ?_ ?_ ?_; exact tz hw; exact rfl))
 (refine uJ rfl (fun hc => ?_) fun hc => ?_)
 ·rw [if_pos hc]
  (repeat first | refine uA ?_ | (refine uK ?_ ?_; focus first | omega | (intros; simp_all <;> omega)) | simp (disch := omega) only [go_sem, Nat.reduceBEq, Nat.reduceAdd, ww] | (refine uD hfa ?_ ?_ ?_; exact tz hw; exact rfl))
  (refine S.done ?_; simp only [C8, r9, go_sem, Nat.reduceBEq, Nat.reduceAdd, Nat.reduceLeDiff, Int.reduceToNat, Int.reducePow]; (repeat (refine ⟨?_, ?_⟩; focus first | trivial | omega | simp)); exact d9.out rfl (Imp.refl rfl) rfl)
 ·rw [if_neg hc]
  (repeat first | refine uA ?_ | (refine uK ?_ ?_; focus first | omega | (intros; simp_all <;> omega)) | simp (disch := omega) only [go_sem, Nat.reduceBEq, Nat.reduceAdd, ww] | (refine uD hfb ?_ ?_ ?_; exact tz hw; exact rfl))
  (refine S.done ?_; simp only [C8, r9, go_sem, Nat.reduceBEq, Nat.reduceAdd, Nat.reduceLeDiff, Int.reduceToNat, Int.reducePow]; (repeat (refine ⟨?_, ?_⟩; focus first | trivial | omega | simp)); exact d9.out rfl (Imp.refl rfl) rfl)
theorem b8y (a : Nm.Rt) (ha : Rb 17179869184 a) : FZ 61 [rc a] (rc ⟨false, Nm.enc (Nm.j4 a).num.natAbs, Nm.enc (Nm.j4 a).den⟩) := by
 refine kW Tryz.func61 (by cbv) (by rfl) fun w O hw => ?_
 have hfa := Q9 a ha
 generalize Nm.j4 a = p at *
 simp only [l9]
 unfold rq at *
 simp only [rc, sb, Nm.ofQ] at *
 (repeat first | refine uA ?_ | (refine uK ?_ ?_; focus first | omega | (intros; simp_all <;> omega)) | simp (disch := omega) only [go_sem, Nat.reduceBEq, Nat.reduceAdd, ww] | (refine uD hfa ?_ ?_ ?_; exact tz hw; exact rfl))
 (refine S.done ?_; simp only [C8, r9, go_sem, Nat.reduceBEq, Nat.reduceAdd, Nat.reduceLeDiff, Int.reduceToNat, Int.reducePow]; (repeat (refine ⟨?_, ?_⟩; focus first | trivial | omega | simp)); exact d9.out rfl (Imp.refl rfl) rfl)
def p8 (a : Nm.Rt) : Bool := decide (a.num.length <= 3) && decide (a.den.length <= 2) && decide a.G5 && decide (Nm.val a.num <= 1000000) && decide (Nm.val a.den <= 1000)
theorem b3k (a b : Nat) : (Nm.W9 a b <= 0) = (a <= b) := by
 unfold Nm.W9
 by_cases h : a < b
 ·rw [if_pos h]; simp; omega
 ·rw [if_neg h]; split
  ·simp; omega
  ·simp; omega
theorem a2E (a : Nm.Rt) (ha : Rb 17179869184 a) : FZ 41 [rc a] (.v (.bool (p8 a))) := by
 refine kW b0C b0W (by rfl) fun w O hw => ?_
 have hg := a2j a ⟨by have := ha.1; omega, by have := ha.2; omega⟩
 have ho1 := b4l 1000000 (by decide)
 have ho2 := b4l 1000 (by decide)
 have hb : ∀ k : Nat, k <= 1000000 -> (Nm.enc k).length <= 8 := fun k hk => Nm.J8 (by omega)
 have hb1 := hb 1000000 (by decide)
 have hb2 := hb 1000 (by decide)
 have hc1 := a7S a.num (Nm.enc 1000000) (by have := ha.1; omega) (by omega)
 have hc2 := a7S a.den (Nm.enc 1000) (by have := ha.2; omega) (by omega)
 rw [Nm.H9] at hc1 hc2
 rw [show (1000000 : Int).toNat = 1000000 from rfl] at ho1
 rw [show (1000 : Int).toNat = 1000 from rfl] at ho2
 have hl1 := b3k (Nm.val a.num) 1000000
 have hl2 := b3k (Nm.val a.den) 1000
 unfold p8
 generalize decide a.G5 = g at *
 generalize Nm.enc 1000000 = e1 at *
 generalize Nm.enc 1000 = e2 at *
 obtain ⟨neg, num, den⟩ := a
 obtain ⟨r1, r2⟩ := ha
 simp only [a4Y, l9, TT, II, OA, OB, OC, MM, LL, VV, FF, MG, LG, VG, FG]
 simp only [rc, sb, ints] at *
 generalize Nm.W9 (Nm.val num) 1000000 = c1 at *
 generalize Nm.W9 (Nm.val den) 1000 = c2 at *
 simp only [<- hl1, <- hl2]
 have hi1 : decide ((num.length : Int) <= 3) = decide (num.length <= 3) := decide_eq_decide.2 (by omega)
 have hi2 : decide ((den.length : Int) <= 2) = decide (den.length <= 2) := decide_eq_decide.2 (by omega)
 (repeat first | refine uA ?_ | (refine uK ?_ ?_; focus first | omega | (intros; simp_all <;> omega)) | simp (disch := omega) only [go_sem, Nat.reduceBEq, Nat.reduceAdd, ww, D6, hi1, hi2] | (refine uB ho1 ?_ ?_; exact rfl) | (refine uB ho2 ?_ ?_; exact rfl) | (refine uB hc1 ?_ ?_; exact rfl) | (refine uB hc2 ?_ ?_; exact rfl) | (refine uD hg ?_ ?_ ?_; exact tz hw; exact rfl))
 exact S.done (d9.out rfl (Imp.refl rfl) rfl)
open Go Eng
def a4O : E9 := ⟨49, [.tmp 4], .seq (.reg [OA 4 (.mv (II 0))]) (.seq (.reg [MM 9 0, OA 10 (.len false (TT 9)), MM 5 10]) (.seq (.block 0 (.seq (.reg [MM 12 5, MM 13 1, OA 14 (.bin .gtr (TT 12) (TT 13)), MM 11 14]) (.cond (TT 11) (.seq (.reg [OA 4
 (.mv (II 2))]) .ret) (.seq (.reg [MM 16 5, OA 17 (.bin .lss (TT 16) (II 3)), MM 15 17]) (.cond (TT 15) (.seq (.reg [OA 4 (.mv (II 3))]) .ret) .skip))))) (.seq (.seq (.reg [MM 18 0, OA 19 (.len false (TT 18)), OA 20 (.mv (II
 0))]) (.block 1 (.loop (.seq (.reg [OA 21 (.bin .lss (TT 20) (TT 19))]) (.seq (.cond (TT 21) .skip (.exit 1)) (.seq (.block 2 (.seq (.reg [MM 22 20, OA 23 (.j6 6 (TT 18) (TT 20)), LL 24 6 23, OA 7 (.alloc 44 [.bool false,
 .string ⟨#[]⟩, .string ⟨#[]⟩, .bool false, .string ⟨#[]⟩, .string ⟨#[]⟩]), MM 6 22, OB (.store 6 (TT 7) (TT 24))]) (.seq (.reg [OA 8 (.mv (II 2))]) (.block 3 (.loop (.seq (.seq (.reg [MM 25 8, MM 26 5, OA 27 (.bin .lss (TT 25)
 (TT 26))]) (.cond (TT 27) .skip (.exit 3))) (.seq (.block 4 (.seq (.F4 [.q, .q, .q, .q, .q, .q, .q, .q, .q, .q, .q, .q, .q, .q, .q, .q, .q, .q] [LL 30 6 7, MM 31 0, MM 32 6, OA 33 (.bin .add (TT 32) (II 1)), MM 34 5, OA 35
 (.bin .rem (TT 33) (TT 34)), OA 36 (.j6 6 (TT 31) (TT 35)), LL 37 6 36, MM 38 0, MM 39 6, MM 40 8, OA 41 (.bin .add (TT 39) (TT 40)), MM 42 5, OA 43 (.bin .rem (TT 41) (TT 42)), OA 44 (.j6 6 (TT 38) (TT 43)), LL 45 6 44,
 OA 46 (.call 146 [TT 30, TT 37, TT 45]), OA 47 (.bin .leq (TT 46) (II 0))]) (.cond (TT 47) (.seq (.reg [OA 4 (.mv (II 3))]) .ret) .skip))) (.reg [MM 28 8, OA 29 (.bin .add (TT 28) (II 1)), MM 8 29])))))))) (.reg [OA 48 (.bin
 .add (TT 20) (II 1)), MM 20 48]))))))) (.seq (.reg [OA 4 (.mv (II 0))]) .ret))))⟩
theorem a9R : D5 eff Tryz.prog Tryz.f133 = some a4O := by kernel_rfl
theorem a9Q : Tryz.prog.funcs[133]? = some Tryz.f133 := Tryz.func133
def a5E : E9 := ⟨60, [.tmp 2], .seq (.reg [OA 1 (.box 51 (TT 0)), OA 2 (.mv (II 0))]) (.seq (.seq (.reg [FF 7 0 1, VV 8 7, OA 9 (.call 87 [TT 8]), OA 10 (.un .not (TT 9))]) (.cond (TT 10) (.seq (.reg [OA 2 (.mv (II 3))]) .ret) .skip)) (.seq (.seq
 (.reg [FF 11 11 1, VV 12 11, OA 13 (.len false (TT 12)), OA 14 (.bin .gtr (TT 13) (II 3))]) (.cond (TT 14) (.seq (.reg [OA 2 (.mv (II 2))]) .ret) .skip)) (.seq (.reg [FF 15 1 1, LL 16 10 15, OA 3 (.alloc 48 [.bool false, .string
 ⟨#[]⟩, .string ⟨#[]⟩, .bool false, .string ⟨#[]⟩, .string ⟨#[]⟩, .bool false, .bool false, .string ⟨#[]⟩, .string ⟨#[]⟩]), OB (.store 10 (TT 3) (TT 16))]) (.seq (.seq (.reg [FF 17 11 1, VV 18 17, OA 19 (.len false (TT 18)), OA
 20 (.bin .eql (TT 19) (II 0)), MM 21 20, FG 22 0 3 21 false, FG 23 0 22 21 false, LG 24 3 23 21 false, FG 25 0 3 21 false, FG 26 3 25 21 false, LG 27 3 26 21 false, FG 28 6 3 21 false, FG 29 1 28 21 false, LG 30 3 29 21 false,
 OC 31 (.bsl 29 3 3 [.bool false, .string ⟨#[]⟩, .string ⟨#[]⟩] [(0, TT 24), (1, TT 27), (2, TT 30)]) 21 false, OC 32 (.call 88 [TT 31]) 21 false, OC 33 (.un .not (TT 32)) 21 false, OA 34 (.pick (TT 21) (.const (.bool true)) (TT
 33)), MM 35 34, FG 36 6 3 35 false, FG 37 0 36 35 false, VG 38 37 35 false, MG 39 38 35 false, FG 40 6 3 39 true, FG 41 1 40 39 true, LG 42 3 41 39 true, OC 43 (.call 42 [TT 42]) 39 true, OC 44 (.bin .neq (TT 43) (II 0)) 39
 true, OC 45 (.pick (TT 39) (TT 44) (.const (.bool false))) 35 false, OA 46 (.pick (TT 35) (.const (.bool true)) (TT 45))]) (.cond (TT 46) (.seq (.reg [OA 2 (.mv (II 1))]) .ret) .skip)) (.seq (.seq (.reg [FF 47 11 1, VV 48 47, OA
 49 (.len false (TT 48)), OA 50 (.mv (II 0))]) (.block 0 (.loop (.seq (.reg [OA 51 (.bin .lss (TT 50) (TT 49))]) (.seq (.cond (TT 51) .skip (.exit 0)) (.seq (.block 1 (.seq (.reg [OA 52 (.j6 16 (TT 48) (TT 50)), LL 53 16 52,
 OA 5 (.alloc 53 [.bool false, .string ⟨#[]⟩, .string ⟨#[]⟩, .bool false, .string ⟨#[]⟩, .string ⟨#[]⟩, .bool false, .string ⟨#[]⟩, .string ⟨#[]⟩, .bool false, .string ⟨#[]⟩, .string ⟨#[]⟩, .bool false, .string ⟨#[]⟩, .string
 ⟨#[]⟩, .slice none 0 0]), OB (.store 16 (TT 5) (TT 53))]) (.seq (.reg [LL 54 16 5, OA 55 (.call 89 [TT 54]), MM 6 55]) (.seq (.reg [MM 56 6, OA 57 (.bin .neq (TT 56) (II 0))]) (.cond (TT 57) (.seq (.reg [MM 58 6, MM 2 58]) .ret)
 .skip))))) (.reg [OA 59 (.bin .add (TT 50) (II 1)), MM 50 59]))))))) (.seq (.reg [OA 2 (.mv (II 0))]) .ret))))))⟩
theorem b1b : D5 eff Tryz.prog Tryz.f29 = some a5E := by kernel_rfl
theorem b0F : Tryz.prog.funcs[29]? = some Tryz.f29 := Tryz.func29
def a4J : E9 := ⟨28, [.tmp 2], .seq (.reg [OA 2 (.mv (.const (.bool false)))]) (.seq (.seq (.reg [MM 4 0, OA 5 (.len true (TT 4)), OA 6 (.mv (II 0))]) (.block 0 (.loop (.seq (.reg [OA 7 (.bin .lss (TT 6) (TT 5))]) (.seq (.cond (TT 7) .skip (.exit
 0)) (.seq (.block 1 (.seq (.reg [MM 8 6, MM 3 8]) (.seq (.reg [MM 9 0, MM 10 3, OA 11 (.idxs (TT 9) (TT 10)), OA 12 (.bin .lss (TT 11) (.const (.int .u8 97))), MM 13 12, MG 14 0 13 false, MG 15 3 13 false, OC 16 (.idxs (TT 14)
 (TT 15)) 13 false, OC 17 (.bin .gtr (TT 16) (.const (.int .u8 122))) 13 false, OA 18 (.pick (TT 13) (.const (.bool true)) (TT 17))]) (.cond (TT 18) (.seq (.reg [OA 2 (.mv (.const (.bool false)))]) .ret) .skip)))) (.reg [OA 19
 (.bin .add (TT 6) (II 1)), MM 6 19]))))))) (.seq (.reg [MM 20 0, OA 21 (.len true (TT 20)), OA 22 (.bin .geq (TT 21) (II 1)), MM 23 22, MG 24 0 23 true, OC 25 (.len true (TT 24)) 23 true, OC 26 (.bin .leq (TT 25) (II 12)) 23
 true, OA 27 (.pick (TT 23) (TT 26) (.const (.bool false))), MM 2 27]) .ret))⟩
theorem a9Y : D5 eff Tryz.prog Tryz.f87 = some a4J := by kernel_rfl
theorem a9N : Tryz.prog.funcs[87]? = some Tryz.f87 := Tryz.func87
def a5i : E9 := ⟨64, [.tmp 2], .seq (.reg [OA 1 (.box 53 (TT 0)), OA 2 (.mv (II 0))]) (.seq (.seq (.reg [FF 6 0 1, LL 7 3 6, FF 8 3 1, LL 9 3 8, FF 10 6 1, LL 11 3 10, FF 12 9 1, LL 13 3 12, FF 14 12 1, LL 15 3 14, OA 16 (.bsl 29 3 5 [.bool
 false, .string ⟨#[]⟩, .string ⟨#[]⟩] [(0, TT 7), (1, TT 9), (2, TT 11), (3, TT 13), (4, TT 15)]), OA 17 (.call 88 [TT 16]), OA 18 (.un .not (TT 17)), MM 19 18, FG 20 0 1 19 false, LG 21 3 20 19 false, OC 22 (.call 42 [TT 21]) 19
 false, OC 23 (.bin .leq (TT 22) (II 0)) 19 false, OA 24 (.pick (TT 19) (.const (.bool true)) (TT 23)), MM 25 24, FG 26 3 1 25 false, LG 27 3 26 25 false, FG 28 6 1 25 false, LG 29 3 28 25 false, OC 30 (.call 22 [TT 27, TT 29])
 25 false, OC 31 (.bin .geq (TT 30) (II 0)) 25 false, OA 32 (.pick (TT 25) (.const (.bool true)) (TT 31))]) (.cond (TT 32) (.seq (.reg [OA 2 (.mv (II 1))]) .ret) .skip)) (.seq (.seq (.reg [FF 33 9 1, LL 34 3 33, OA 35 (.call 42
 [TT 34]), OA 36 (.bin .leq (TT 35) (II 0)), MM 37 36, FG 38 12 1 37 false, LG 39 3 38 37 false, OC 40 (.call 42 [TT 39]) 37 false, OC 41 (.bin .leq (TT 40) (II 0)) 37 false, OA 42 (.pick (TT 37) (.const (.bool true)) (TT 41))])
 (.cond (TT 42) (.seq (.reg [OA 2 (.mv (II 1))]) .ret) .skip)) (.seq (.seq (.reg [FF 43 15 1, VV 44 43, OA 45 (.call 91 [TT 44]), MM 3 45]) (.seq (.reg [MM 46 3, OA 47 (.bin .neq (TT 46) (II 0))]) (.cond (TT 47) (.seq (.reg [MM
 48 3, MM 2 48]) .ret) .skip))) (.seq (.seq (.reg [FF 49 15 1, VV 50 49, OA 51 (.len false (TT 50)), OA 52 (.mv (II 0))]) (.block 0 (.loop (.seq (.reg [OA 53 (.bin .lss (TT 52) (TT 51))]) (.seq (.cond (TT 53) .skip (.exit 0))
 (.seq (.block 1 (.seq (.reg [OA 54 (.j6 6 (TT 50) (TT 52)), LL 55 6 54, OA 5 (.alloc 44 [.bool false, .string ⟨#[]⟩, .string ⟨#[]⟩, .bool false, .string ⟨#[]⟩, .string ⟨#[]⟩]), OB (.store 6 (TT 5) (TT 55))]) (.seq (.reg [FF
 56 0 5, LL 57 3 56, FF 58 3 5, LL 59 3 58, OA 60 (.bsl 29 3 2 [.bool false, .string ⟨#[]⟩, .string ⟨#[]⟩] [(0, TT 57), (1, TT 59)]), OA 61 (.call 88 [TT 60]), OA 62 (.un .not (TT 61))]) (.cond (TT 62) (.seq (.reg [OA 2 (.mv (II
 1))]) .ret) .skip)))) (.reg [OA 63 (.bin .add (TT 52) (II 1)), MM 52 63]))))))) (.seq (.reg [OA 2 (.mv (II 0))]) .ret)))))⟩
theorem b0O : D5 eff Tryz.prog Tryz.f89 = some a5i := by kernel_rfl
theorem b0w : Tryz.prog.funcs[89]? = some Tryz.f89 := Tryz.func89
def a6K : E9 := ⟨42, [.tmp 4], .seq (.reg [OA 2 (.box 51 (TT 0)), OA 4 (.mv (II 0))]) (.seq (.seq (.reg [LL 8 12 2, MM 9 1, OA 10 (.len false (TT 9)), OA 11 (.call 101 [TT 8, TT 10]), MM 5 11]) (.seq (.reg [MM 12 5, OA 13 (.bin .neq (TT 12) (II
 0))]) (.cond (TT 13) (.seq (.reg [MM 14 5, MM 4 14]) .ret) .skip))) (.seq (.seq (.reg [FF 15 11 2, VV 16 15, OA 17 (.len false (TT 16)), OA 18 (.mv (II 0))]) (.block 0 (.loop (.seq (.reg [OA 19 (.bin .lss (TT 18) (TT 17))])
 (.seq (.cond (TT 19) .skip (.exit 0)) (.seq (.block 1 (.seq (.reg [MM 20 18, OA 21 (.j6 16 (TT 16) (TT 18)), LL 22 16 21, OA 7 (.alloc 53 [.bool false, .string ⟨#[]⟩, .string ⟨#[]⟩, .bool false, .string ⟨#[]⟩, .string ⟨#[]⟩,
 .bool false, .string ⟨#[]⟩, .string ⟨#[]⟩, .bool false, .string ⟨#[]⟩, .string ⟨#[]⟩, .bool false, .string ⟨#[]⟩, .string ⟨#[]⟩, .slice none 0 0]), MM 6 20, OB (.store 16 (TT 7) (TT 22))]) (.seq (.F4 [.q, .q, .q, .q, .q, .q,
 .q, .q, .q, .q, .q, .q, .q, .q, .q, .q, .q, .q] [MM 23 1, MM 24 6, OA 25 (.j6 3 (TT 23) (TT 24)), LL 26 3 25, FF 27 3 7, LL 28 3 27, OA 29 (.call 22 [TT 26, TT 28]), OA 30 (.bin .lss (TT 29) (II 0)), MM 31 30, MG 32 1 31
 false, MG 33 6 31 false, OC 34 (.j6 3 (TT 32) (TT 33)) 31 false, LG 35 3 34 31 false, FG 36 6 7 31 false, LG 37 3 36 31 false, OC 38 (.call 22 [TT 35, TT 37]) 31 false, OC 39 (.bin .gtr (TT 38) (II 0)) 31 false, OA 40 (.pick
 (TT 31) (.const (.bool true)) (TT 39))]) (.cond (TT 40) (.seq (.reg [OA 4 (.mv (II 17))]) .ret) .skip)))) (.reg [OA 41 (.bin .add (TT 18) (II 1)), MM 18 41]))))))) (.seq (.reg [OA 4 (.mv (II 0))]) .ret)))⟩
theorem b2j : D5 eff Tryz.prog Tryz.f96 = some a6K := by kernel_rfl
theorem b2v : Tryz.prog.funcs[96]? = some Tryz.f96 := Tryz.func96
def tc (h : Bool) (a : Nm.Rt) : C := .agg [.v (.bool h), .v (.bool a.neg), sb a.num, sb a.den]
def tq (h : Bool) (q : Rat) : C := tc h (Nm.ofQ q)
theorem b9c (a : Nm.Rt) (ha : Rb 17179869184 a) : FZ 102 [rc a] (tq false (Nm.j4 a)) := by
 refine kW Tryz.func102 (by cbv) (by rfl) fun w O hw => ?_
 have hm := b5E a a ha ha
 have e : a1K (Nm.j4 a) (Nm.j4 a) = Nm.j4 a := by unfold a1K; split <;> rfl
 rw [e] at hm
 unfold rq tq at *
 generalize Nm.ofQ (Nm.j4 a) = r at *
 simp only [l9]
 simp only [rc, tc, sb] at *
 (repeat first | refine uA ?_ | (refine uK ?_ ?_; focus first | omega | (intros; simp_all <;> omega)) | simp (disch := omega) only [go_sem, Nat.reduceBEq, Nat.reduceAdd, ww] | (refine uD hm ?_ ?_ ?_; exact tz hw; exact rfl))
 (refine S.done ?_; simp only [C8, r9, go_sem, Nat.reduceBEq, Nat.reduceAdd, Nat.reduceLeDiff, Int.reduceToNat, Int.reducePow]; (repeat (refine ⟨?_, ?_⟩; focus first | trivial | omega | simp)); exact d9.out rfl (Imp.refl rfl) rfl)
theorem b3c {neg : Bool} {n d k m : Nat} (hd : d ≠ 0) (hn : (Nm.enc n).length <= k) (hdl : (Nm.enc d).length <= k) (hk : 1 <= k) (hm : k <= m) : Rb m (Nm.ofQ (mkRat (Nm.sgn neg n) d)) := by
 rw [<- Nm.a8r neg hd]
 split
 ·exact ⟨b9M _, b9L hk hm⟩
 ·exact ⟨b9L (Nm.a2V (Nat.div_le_self _ _)) (b9L hn hm), b9L (Nm.a2V (Nat.div_le_self _ _)) (b9L hdl hm)⟩
theorem b5a {k : Nat} {p : Rat} (h : Rb k (Nm.ofQ p)) : 1 <= k := by
 have h1 := h.2
 simp only [Nm.ofQ] at h1
 have : Nm.enc p.den ≠ [] := Nm.a3X p.den_nz
 have := List.length_pos_iff.2 this
 omega
theorem b8g {k m : Nat} {p q : Rat} (hp : Rb k (Nm.ofQ p)) (hq : Rb m (Nm.ofQ q)) : Rb (k + m + 1) (Nm.ofQ (p + q)) := by
 have h1 := b5a hp
 rw [<- Nm.a9A p q]
 have l1 := Nm.K5 hp.1 hq.2
 have l2 := Nm.K5 hq.1 hp.2
 have l3 := Nm.K5 hp.2 hq.2
 exact b3c (k := k + m + 1) (Nat.mul_ne_zero p.den_nz q.den_nz) (b9L (Nm.a2V (Nm.a4D _ _ _ _)) (Nm.a3E l1 (by omega))) (by omega) (by omega) (b9T _)
theorem a7P {k m : Nat} {p q : Rat} (hp : Rb k (Nm.ofQ p)) (hq : Rb m (Nm.ofQ q)) : Rb (k + m) (Nm.ofQ (p * q)) := by
 have h1 := b5a hp
 rw [<- Nm.b0S p q]
 exact b3c (k := k + m) (Nat.mul_ne_zero p.den_nz q.den_nz) (Nm.K5 hp.1 hq.1) (Nm.K5 hp.2 hq.2) (by omega) (b9T _)
theorem b7w {k : Nat} {p : Rat} (hp : Rb k (Nm.ofQ p)) : Rb k (Nm.ofQ (-p)) := by
 rw [a7X]; exact hp
theorem a5v {k m : Nat} {p q : Rat} (hp : Rb k (Nm.ofQ p)) (hq : Rb m (Nm.ofQ q)) : Rb (k + m + 1) (Nm.ofQ (p - q)) := by
 rw [Rat.sub_eq_add_neg]; exact b8g hp (b7w hq)
theorem Rb.mono {k m : Nat} {a : Nm.Rt} (h : Rb k a) (hm : k <= m) : Rb m a := ⟨b9L h.1 hm, b9L h.2 hm⟩
theorem b9n (p q : Rat) (hp : Rb 17179869184 (Nm.ofQ p)) (hq : Rb 17179869184 (Nm.ofQ q)) : FZ 66 [rq p, rq q] (rq (p - q)) := by
 have := b0u (Nm.ofQ p) (Nm.ofQ q) hp hq
 rwa [Nm.X8, Nm.X8] at this
theorem b7f (p q : Rat) (hp : Rb 17179869184 (Nm.ofQ p)) (hq : Rb 17179869184 (Nm.ofQ q)) : FZ 106 [rq p, rq q] (rq (p * q)) := by
 have := b8O (Nm.ofQ p) (Nm.ofQ q) hp hq
 rwa [Nm.X8, Nm.X8] at this
def vc (x y : Nm.Rt) : C := .agg [.v (.bool x.neg), sb x.num, sb x.den, .v (.bool y.neg), sb y.num, sb y.den]
def vq (x y : Rat) : C := vc (Nm.ofQ x) (Nm.ofQ y)
theorem b5v (a b c d : Nm.Rt) (ha : Rb 17179869184 a) (hb : Rb 17179869184 b) (hc : Rb 17179869184 c) (hd : Rb 17179869184 d) :
  FZ 55 [vc a b, vc c d] (vq (Nm.j4 a - Nm.j4 c) (Nm.j4 b - Nm.j4 d)) := by
 refine kW Tryz.func55 (by cbv) (by rfl) fun w O hw => ?_
 have h1 := b0u a c ha hc
 have h2 := b0u b d hb hd
 unfold vq rq at *
 generalize Nm.ofQ (Nm.j4 a - Nm.j4 c) = r1 at *
 generalize Nm.ofQ (Nm.j4 b - Nm.j4 d) = r2 at *
 simp only [l9]
 simp only [rc, vc, sb] at *
 (repeat first | refine uA ?_ | (refine uK ?_ ?_; focus first | omega | (intros; simp_all <;> omega)) | simp (disch := omega) only [go_sem, Nat.reduceBEq, Nat.reduceAdd, ww] | (refine uD h1 ?_ ?_ ?_; exact tz hw; exact rfl) | (refine uD h2 ?_ ?_ ?_; exact tz hw; exact rfl))
 (refine S.done ?_; simp only [C8, r9, go_sem, Nat.reduceBEq, Nat.reduceAdd, Nat.reduceLeDiff, Int.reduceToNat, Int.reducePow]; (repeat (refine ⟨?_, ?_⟩; focus first | trivial | omega | simp)); exact d9.out rfl (Imp.refl rfl) rfl)
structure Vt where
 x : Nm.Rt
 y : Nm.Rt
def Vt.enc (v : Vt) : List C := [.v (.bool v.x.neg), sb v.x.num, sb v.x.den, .v (.bool v.y.neg), sb v.y.num, sb v.y.den]
def Vt.c (v : Vt) : C := .agg v.enc
def Vt.zero : Vt := ⟨⟨false, [], []⟩, ⟨false, [], []⟩⟩
def Vb (k : Nat) (v : Vt) : Prop := Rb k v.x /\ Rb k v.y
theorem Vb.mono {k m : Nat} {v : Vt} (h : Vb k v) (hm : k <= m) : Vb m v := ⟨h.1.mono hm, h.2.mono hm⟩
theorem b6n (a b c d : Rat) (ha : Rb 4294967296 (Nm.ofQ a)) (hb : Rb 4294967296 (Nm.ofQ b)) (hc : Rb 4294967296 (Nm.ofQ c)) (hd : Rb 4294967296 (Nm.ofQ d)) :
  FZ 155 [vq a b, vq c d] (rq (a * d - b * c)) := by
 refine kW Tryz.func155 (by cbv) (by rfl) fun w O hw => ?_
 have h1 := b7f a d (ha.mono (by decide)) (hd.mono (by decide))
 have h2 := b7f b c (hb.mono (by decide)) (hc.mono (by decide))
 have h3 := b9n (a * d) (b * c) ((a7P ha hd).mono (by decide)) ((a7P hb hc).mono (by decide))
 unfold vq rq at *
 generalize Nm.ofQ (a * d - b * c) = r3 at *
 generalize Nm.ofQ (a * d) = r1 at *
 generalize Nm.ofQ (b * c) = r2 at *
 generalize Nm.ofQ a = ra at *
 generalize Nm.ofQ b = rb at *
 generalize Nm.ofQ c = r at *
 generalize Nm.ofQ d = rd at *
 simp only [l9]
 simp only [rc, vc, sb] at *
 (repeat first | refine uA ?_ | (refine uK ?_ ?_; focus first | omega | (intros; simp_all <;> omega)) | simp (disch := omega) only [go_sem, Nat.reduceBEq, Nat.reduceAdd, ww] | (refine uD h1 ?_ ?_ ?_; exact tz hw; exact rfl) | (refine uD h2 ?_ ?_ ?_; exact tz hw; exact rfl) | (refine uD h3 ?_ ?_ ?_; exact tz hw; exact rfl))
 (refine S.done ?_; simp only [C8, r9, go_sem, Nat.reduceBEq, Nat.reduceAdd, Nat.reduceLeDiff, Int.reduceToNat, Int.reducePow]; (repeat (refine ⟨?_, ?_⟩; focus first | trivial | omega | simp)); exact d9.out rfl (Imp.refl rfl) rfl)
def a6d (a b c : Vt) : Int := I8 ((Nm.j4 b.x - Nm.j4 a.x) * (Nm.j4 c.y - Nm.j4 a.y) - (Nm.j4 b.y - Nm.j4 a.y) * (Nm.j4 c.x - Nm.j4 a.x))
theorem b8N (a b c : Vt) (ha : Vb 1073741824 a) (hb : Vb 1073741824 b) (hc : Vb 1073741824 c) : FZ 146 [a.c, b.c, c.c] (ints (a6d a b c)) := by
 refine kW Tryz.func146 (by cbv) (by rfl) fun w O hw => ?_
 have h1 := b5v b.x b.y a.x a.y (hb.1.mono (by decide)) (hb.2.mono (by decide)) (ha.1.mono (by decide)) (ha.2.mono (by decide))
 have h2 := b5v c.x c.y a.x a.y (hc.1.mono (by decide)) (hc.2.mono (by decide)) (ha.1.mono (by decide)) (ha.2.mono (by decide))
 have g1 := a5v (hb.1.fit (by decide)) (ha.1.fit (by decide))
 have g2 := a5v (hb.2.fit (by decide)) (ha.2.fit (by decide))
 have g3 := a5v (hc.1.fit (by decide)) (ha.1.fit (by decide))
 have g4 := a5v (hc.2.fit (by decide)) (ha.2.fit (by decide))
 unfold a6d
 generalize Nm.j4 b.x - Nm.j4 a.x = p1 at *
 generalize Nm.j4 b.y - Nm.j4 a.y = p2 at *
 generalize Nm.j4 c.x - Nm.j4 a.x = p3 at *
 generalize Nm.j4 c.y - Nm.j4 a.y = p4 at *
 have h3 := b6n p1 p2 p3 p4 (g1.mono (by decide)) (g2.mono (by decide)) (g3.mono (by decide)) (g4.mono (by decide))
 have g5 := a5v (a7P g1 g4) (a7P g2 g3)
 have h4 := a0A (Nm.ofQ (p1 * p4 - p2 * p3)) (g5.mono (by decide))
 rw [Nm.X8] at h4
 generalize p1 * p4 - p2 * p3 = p5 at *
 unfold vq rq at *
 generalize Nm.ofQ p1 = r1 at *
 generalize Nm.ofQ p2 = r2 at *
 generalize Nm.ofQ p3 = r3 at *
 generalize Nm.ofQ p4 = r4 at *
 generalize Nm.ofQ p5 = r5 at *
 simp only [l9]
 simp only [rc, vc, sb, Vt.c, Vt.enc] at *
 (repeat first | refine uA ?_ | (refine uK ?_ ?_; focus first | omega | (intros; simp_all <;> omega)) | simp (disch := omega) only [go_sem, Nat.reduceBEq, Nat.reduceAdd, ww] | (refine uD h1 ?_ ?_ ?_; exact tz hw; exact rfl) | (refine uD h2 ?_ ?_ ?_; exact tz hw; exact rfl) | (refine uD h3 ?_ ?_ ?_; exact tz hw; exact rfl) | (refine uD h4 ?_ ?_ ?_; exact tz hw; exact rfl))
 (refine S.done ?_; simp only [C8, r9, go_sem, Nat.reduceBEq, Nat.reduceAdd, Nat.reduceLeDiff, Int.reduceToNat, Int.reducePow]; (repeat (refine ⟨?_, ?_⟩; focus first | trivial | omega | simp)); exact d9.out rfl (Imp.refl rfl) rfl)
def F5 {α : Type} (f : α -> Int) : List α -> Int
 | [] => 0
 | x :: r => if f x = 0 then F5 f r else f x
def w9 {α σ : Type} (f : σ -> α -> Int × σ) : σ -> List α -> Int × σ
 | s, [] => (0, s)
 | s, x :: r => if (f s x).1 = 0 then w9 f (f s x).2 r else f s x
theorem drop_at {α : Type} {l : List α} {i : Nat} {x : α} (h : l[i]? = some x) : l.drop i = x :: l.drop (i + 1) := by
 obtain ⟨hi, rfl⟩ := b9O.1 h
 exact List.drop_eq_getElem_cons hi
theorem a0I {α : Type} {f : α -> Int} {l : List α} {i : Nat} {x : α} (h : l[i]? = some x) (h0 : f x ≠ 0) : F5 f (l.drop i) = f x := by
 rw [drop_at h, F5, if_neg h0]
theorem a0E {α : Type} {f : α -> Int} {l : List α} {i : Nat} {x : α} (h : l[i]? = some x) (h0 : f x = 0) : F5 f (l.drop i) = F5 f (l.drop (i + 1)) := by
 rw [drop_at h, F5, if_pos h0]
theorem a1t {α : Type} {f : α -> Int} {l : List α} {i : Nat} (h : l.length <= i) : F5 f (l.drop i) = 0 := by
 rw [List.drop_eq_nil_of_le h, F5]
theorem a1v {α σ : Type} {f : σ -> α -> Int × σ} {s : σ} {l : List α} {i : Nat} {x : α} (h : l[i]? = some x) (h0 : (f s x).1 ≠ 0) : w9 f s (l.drop i) = f s x := by
 rw [drop_at h, w9, if_neg h0]
theorem a1y {α σ : Type} {f : σ -> α -> Int × σ} {s : σ} {l : List α} {i : Nat} {x : α} (h : l[i]? = some x) (h0 : (f s x).1 = 0) : w9 f s (l.drop i) = w9 f (f s x).2 (l.drop (i + 1)) := by
 rw [drop_at h, w9, if_pos h0]
theorem a2f {α σ : Type} {f : σ -> α -> Int × σ} {s : σ} {l : List α} {i : Nat} (h : l.length <= i) : w9 f s (l.drop i) = (0, s) := by
 rw [List.drop_eq_nil_of_le h, w9]
structure Fr where
 x : Nm.Rt
 y : Nm.Rt
 half : Bool
 t : Nm.Rt
structure Lk where
 length : Nm.Rt
 low : Nm.Rt
 high : Nm.Rt
 speed : Nm.Rt
 brake : Nm.Rt
 shape : List Vt
structure Am where
 name : List UInt8
 base : Fr
 links : List Lk
structure Pt where
 name : List UInt8
 shape : List Vt
 grasp : Fr
structure Sl where
 name : List UInt8
 frame : Fr
 within : Nm.Rt
structure Gt where
 name : List UInt8
 low : Vt
 high : Vt
structure Wk where
 arms : List Am
 walls : List (List Vt)
 parts : List Pt
 slots : List Sl
 gates : List Gt
 walk : Nm.Rt
def rcs (a : Nm.Rt) : List C := [.v (.bool a.neg), sb a.num, sb a.den]
def Fr.enc (f : Fr) : List C := [.v (.bool f.x.neg), sb f.x.num, sb f.x.den, .v (.bool f.y.neg), sb f.y.num, sb f.y.den, .v (.bool f.half), .v (.bool f.t.neg), sb f.t.num, sb f.t.den]
def Fr.c (f : Fr) : C := .agg f.enc
def vts (l : List Vt) : C := .sl 6 (l.map Vt.enc)
def Lk.enc (l : Lk) : List C := [.v (.bool l.length.neg), sb l.length.num, sb l.length.den, .v (.bool l.low.neg), sb l.low.num, sb l.low.den, .v (.bool l.high.neg), sb l.high.num, sb l.high.den, .v (.bool l.speed.neg), sb l.speed.num, sb l.speed.den, .v (.bool l.brake.neg), sb l.brake.num, sb l.brake.den, vts l.shape]
def Lk.c (l : Lk) : C := .agg l.enc
def lks (l : List Lk) : C := .sl 16 (l.map Lk.enc)
def Am.enc (a : Am) : List C := [sb a.name, .v (.bool a.base.x.neg), sb a.base.x.num, sb a.base.x.den, .v (.bool a.base.y.neg), sb a.base.y.num, sb a.base.y.den, .v (.bool a.base.half), .v (.bool a.base.t.neg), sb a.base.t.num, sb a.base.t.den, lks a.links]
def Am.c (a : Am) : C := .agg a.enc
def ams (l : List Am) : C := .sl 12 (l.map Am.enc)
def Pt.enc (p : Pt) : List C := [sb p.name, vts p.shape, .v (.bool p.grasp.x.neg), sb p.grasp.x.num, sb p.grasp.x.den, .v (.bool p.grasp.y.neg), sb p.grasp.y.num, sb p.grasp.y.den, .v (.bool p.grasp.half), .v (.bool p.grasp.t.neg), sb p.grasp.t.num, sb p.grasp.t.den]
def Pt.c (p : Pt) : C := .agg p.enc
def pts (l : List Pt) : C := .sl 12 (l.map Pt.enc)
def Sl.enc (s : Sl) : List C := [sb s.name, .v (.bool s.frame.x.neg), sb s.frame.x.num, sb s.frame.x.den, .v (.bool s.frame.y.neg), sb s.frame.y.num, sb s.frame.y.den, .v (.bool s.frame.half), .v (.bool s.frame.t.neg), sb s.frame.t.num, sb s.frame.t.den, .v (.bool s.within.neg), sb s.within.num, sb s.within.den]
def Sl.c (s : Sl) : C := .agg s.enc
def sls (l : List Sl) : C := .sl 14 (l.map Sl.enc)
def Gt.enc (g : Gt) : List C := [sb g.name, .v (.bool g.low.x.neg), sb g.low.x.num, sb g.low.x.den, .v (.bool g.low.y.neg), sb g.low.y.num, sb g.low.y.den, .v (.bool g.high.x.neg), sb g.high.x.num, sb g.high.x.den, .v (.bool g.high.y.neg), sb g.high.y.num, sb g.high.y.den]
def Gt.c (g : Gt) : C := .agg g.enc
def gts (l : List Gt) : C := .sl 13 (l.map Gt.enc)
def wls (l : List (List Vt)) : C := .sl 1 (l.map fun s => [vts s])
def Wk.enc (w : Wk) : List C := [ams w.arms, wls w.walls, pts w.parts, sls w.slots, gts w.gates, .v (.bool w.walk.neg), sb w.walk.num, sb w.walk.den]
def Wk.c (w : Wk) : C := .agg w.enc
def Fb (k : Nat) (f : Fr) : Prop := Rb k f.x /\ Rb k f.y /\ Rb k f.t
def Vbs (k : Nat) (l : List Vt) : Prop := l.length <= k /\ ∀ v ∈ l, Vb k v
def Lb (k : Nat) (l : Lk) : Prop := Rb k l.length /\ Rb k l.low /\ Rb k l.high /\ Rb k l.speed /\ Rb k l.brake /\ Vbs k l.shape
def Ab (k : Nat) (a : Am) : Prop := a.name.length <= k /\ Fb k a.base /\ a.links.length <= k /\ ∀ l ∈ a.links, Lb k l
def Pb (k : Nat) (p : Pt) : Prop := p.name.length <= k /\ Vbs k p.shape /\ Fb k p.grasp
def Sb (k : Nat) (s : Sl) : Prop := s.name.length <= k /\ Fb k s.frame /\ Rb k s.within
def Gb (k : Nat) (g : Gt) : Prop := g.name.length <= k /\ Vb k g.low /\ Vb k g.high
structure Wb (k : Nat) (w : Wk) : Prop where
 arms : w.arms.length <= k /\ ∀ x ∈ w.arms, Ab k x
 walls : w.walls.length <= k /\ ∀ x ∈ w.walls, Vbs k x
 parts : w.parts.length <= k /\ ∀ x ∈ w.parts, Pb k x
 slots : w.slots.length <= k /\ ∀ x ∈ w.slots, Sb k x
 gates : w.gates.length <= k /\ ∀ x ∈ w.gates, Gb k x
 walk : Rb k w.walk
def a0y (s : List UInt8) : Bool := (s.all fun b => decide (97 <= b.toNat) && decide (b.toNat <= 122)) && decide (1 <= s.length) && decide (s.length <= 12)
def a1h (l : List Vt) (i k : Nat) : Int := a6d (l.getD i Vt.zero) (l.getD ((i + 1) % l.length) Vt.zero) (l.getD ((i + k) % l.length) Vt.zero)
def O5 (l : List Vt) (most : Nat) : Int :=
 if most < l.length then 2 else if l.length < 3 then 3 else
 if (List.range l.length).all fun i => (List.range l.length).all fun k => decide (k < 2) || decide (0 < a1h l i k) then 0 else 3
def a3k (h : Bool) (t : Nm.Rt) : Bool := h && !decide (I8 (Nm.j4 t) = 0)
def V4 (l : Lk) : Int :=
 if (p8 l.length && p8 l.low && p8 l.high && p8 l.speed && p8 l.brake) = false \/ I8 (Nm.j4 l.length) <= 0 \/ 0 <= Nm.G8 (Nm.j4 l.low) (Nm.j4 l.high) then 1 else
 if I8 (Nm.j4 l.speed) <= 0 \/ I8 (Nm.j4 l.brake) <= 0 then 1 else
 if O5 l.shape 8 ≠ 0 then O5 l.shape 8 else
 if (l.shape.all fun v => p8 v.x && p8 v.y) then 0 else 1
def Q7 (a : Am) : Int :=
 if a0y a.name = false then 3 else
 if 3 < a.links.length then 2 else
 if a.links.length = 0 \/ (p8 a.base.x && p8 a.base.y && p8 a.base.t) = false \/ a3k a.base.half a.base.t = true then 1 else
 F5 V4 a.links
def a2A (a : Am) (q : List Nm.Rt) : Int :=
 if Q7 a ≠ 0 then Q7 a else if q.length ≠ a.links.length then 1 else
 F5 (fun x : Lk × Nm.Rt => if Nm.G8 (Nm.j4 x.2) (Nm.j4 x.1.low) < 0 \/ 0 < Nm.G8 (Nm.j4 x.2) (Nm.j4 x.1.high) then 17 else 0) (a.links.zip q)
abbrev Nms := List (List UInt8)
def J2 (n : Nms) (s : List UInt8) : Int × Nms := if a0y s = false then (3, n) else if n.contains s then (5, n) else (0, n ++ [s])
def okV (v : Vt) : Bool := decide v.x.G5 && decide v.y.G5 && p8 v.x && p8 v.y
def okF (f : Fr) : Bool := okV ⟨f.x, f.y⟩ && decide f.t.G5 && p8 f.t && !a3k f.half f.t
def I5 (l : List Vt) : Int := if O5 l 8 ≠ 0 then O5 l 8 else if l.all okV then 0 else 1
def a0V (n : Nms) (a : Am) : Int × Nms := if Q7 a ≠ 0 then (Q7 a, n) else J2 n a.name
def Y3 (n : Nms) (p : Pt) : Int × Nms :=
 if (J2 n p.name).1 ≠ 0 then J2 n p.name else
 if I5 p.shape ≠ 0 then (I5 p.shape, (J2 n p.name).2) else
 (if okF p.grasp then 0 else 1, (J2 n p.name).2)
def Z5 (n : Nms) (s : Sl) : Int × Nms :=
 if (J2 n s.name).1 ≠ 0 then J2 n s.name else
 (if okF s.frame && decide s.within.G5 && p8 s.within && decide (0 < I8 (Nm.j4 s.within)) then 0 else 1, (J2 n s.name).2)
def Z4 (n : Nms) (g : Gt) : Int × Nms :=
 if (J2 n g.name).1 ≠ 0 then J2 n g.name else
 (if okV g.low && okV g.high && decide (Nm.G8 (Nm.j4 g.low.x) (Nm.j4 g.high.x) <= 0) && decide (Nm.G8 (Nm.j4 g.low.y) (Nm.j4 g.high.y) <= 0) then 0 else 1, (J2 n g.name).2)
def b0e (a : Nm.Rt) : Int := if decide a.G5 && p8 a && decide (0 <= I8 (Nm.j4 a)) then 0 else 1
def a5l (w : Wk) : List Int :=
 let a := w9 a0V [] w.arms
 let p := w9 Y3 a.2 w.parts
 let s := w9 Z5 p.2 w.slots
 let g := w9 Z4 s.2 w.gates
 [a.1, F5 I5 w.walls, p.1, s.1, g.1]
def a0p (w : Wk) : Int :=
 if 4 < w.arms.length \/ 10 < w.walls.length \/ 6 < w.parts.length \/ 8 < w.slots.length \/ 4 < w.gates.length then 2 else
 if w.arms.length = 0 then 4 else
 if F5 id (a5l w) ≠ 0 then F5 id (a5l w) else b0e w.walk
def nmE (n : Nms) : List (Value × Value) := n.map fun s => (.string (bs s), .bool true)
theorem b7R (n : Nms) (s : List UInt8) : a0e (.string (bs s)) (nmE n) = if n.contains s then some (.bool true) else none := by
 induction n with
 | nil => rfl
 | cons a n ih =>
  simp only [nmE, b9Z, a0e, a0f]
  simp only [nmE] at ih
  rw [ih]
  by_cases h : s = a
  ·subst h; simp
  ·have h1 : ¬ bs s = bs a := fun e => h (b1o e)
   have h2 : (s == a) = false := by simpa using h
   rw [List.contains_cons]
   simp only [h2, Bool.false_or, decide_eq_false h1, c0z, if_false]
theorem b8b (n : Nms) (s : List UInt8) (h : n.contains s = false) : a0b (.string (bs s)) (.bool true) (nmE n) = nmE (n ++ [s]) := by
 induction n with
 | nil => rfl
 | cons a n ih =>
  rw [List.contains_cons, c0u] at h
  have h1 : ¬ bs s = bs a := fun e => by have := b1o e; subst this; simp at h
  have h3 := ih h.2
  simp only [nmE, b9Z, List.cons_append, a0b, a0f, decide_eq_false h1, c0z, if_false] at h3 ⊢
  rw [h3]
structure Ast where
 q : List Nm.Rt
 v : List Nm.Rt
 power : Bool
 holds : Int
structure Stt where
 tick : Int
 arms : List Ast
 parts : List Fr
 people : List Vt
 gates : List Bool
def rts (l : List Nm.Rt) : C := .sl 3 (l.map rcs)
def Ast.enc (x : Ast) : List C := [rts x.q, rts x.v, .v (.bool x.power), ints x.holds]
def Ast.c (x : Ast) : C := .agg x.enc
def a3I (l : List Ast) : C := .sl 4 (l.map Ast.enc)
def frs (l : List Fr) : C := .sl 10 (l.map Fr.enc)
def bls (l : List Bool) : C := .sl 1 (l.map fun b => [.v (.bool b)])
def Stt.enc (s : Stt) : List C := [ints s.tick, a3I s.arms, frs s.parts, vts s.people, bls s.gates]
def Stt.c (s : Stt) : C := .agg s.enc
def Rbs (k : Nat) (l : List Nm.Rt) : Prop := l.length <= k /\ ∀ a ∈ l, Rb k a
def Asb (k : Nat) (x : Ast) : Prop := Rbs k x.q /\ Rbs k x.v
structure Stb (k : Nat) (s : Stt) : Prop where
 arms : s.arms.length <= k /\ ∀ x ∈ s.arms, Asb k x
 parts : s.parts.length <= k /\ ∀ x ∈ s.parts, Fb k x
 people : Vbs k s.people
 gates : s.gates.length <= k
def a3b (q : Rat) : Rat := if q.num < 0 then -q else q
def a0J (x : Lk × Nm.Rt) : Int := if 0 < Nm.G8 (a3b (Nm.j4 x.2)) (Nm.j4 x.1.speed) then 1 else 0
def K9 (a : Nm.Rt) : Bool := decide a.G5
def a3B (a : Am) (x : Ast) (parts : Nat) : Int :=
 if (x.q.all K9 && x.v.all K9) = false then 3 else
 if a2A a x.q ≠ 0 then a2A a x.q else
 if x.v.length ≠ a.links.length \/ x.holds < -1 \/ (parts : Int) <= x.holds then 1 else
 F5 a0J (a.links.zip x.v)
def a5Z (h : List Int) (n : Int) : List Int := if h.contains n then h else h ++ [n]
def hdE (h : List Int) : List (Value × Value) := h.map fun n => (.int .i64 n, .bool true)
def a1s (parts : Nat) (h : List Int) (x : Am × Ast) : Int × List Int :=
 if a3B x.1 x.2 parts ≠ 0 then (a3B x.1 x.2 parts, h) else
 if (decide (0 <= x.2.holds) && h.contains x.2.holds) = true then (10, h) else (0, a5Z h x.2.holds)
def a0L (f : Fr) : Bool := (K9 f.x && K9 f.y && K9 f.t) && !a3k f.half f.t
def a5V (v : Vt) : Bool := K9 v.x && K9 v.y
def a4X (w : Wk) (s : Stt) : Int :=
 if a0p w ≠ 0 then a0p w else
 if 4 < s.people.length then 2 else
 if s.tick < 0 \/ 2000 < s.tick \/ s.arms.length ≠ w.arms.length \/ s.parts.length ≠ w.parts.length \/ s.gates.length ≠ w.gates.length then 1 else
 if (w9 (a1s w.parts.length) [] (w.arms.zip s.arms)).1 ≠ 0 then (w9 (a1s w.parts.length) [] (w.arms.zip s.arms)).1 else
 if s.parts.all a0L && s.people.all a5V then 0 else 3
theorem b7T (h : List Int) (n : Int) : a0e (.int .i64 n) (hdE h) = if h.contains n then some (.bool true) else none := by
 induction h with
 | nil => rfl
 | cons a h ih =>
  simp only [hdE, b9Z, a0e, a0f]
  simp only [hdE] at ih
  rw [ih, List.contains_cons]
  by_cases e : n = a
  ·subst e; simp
  ·have e2 : (n == a) = false := by simpa using e
   simp only [e2, Bool.false_or, c0z, if_false]
theorem b8K (h : List Int) (n : Int) : a0b (.int .i64 n) (.bool true) (hdE h) = hdE (a5Z h n) := by
 induction h with
 | nil => rfl
 | cons a h ih =>
  unfold a5Z at ih ⊢
  rw [List.contains_cons]
  by_cases e : n = a
  ·subst e
   simp [hdE, a0b, a0f]
  ·have e2 : (n == a) = false := by simpa using e
   simp only [hdE, b9Z, a0b, a0f, e2, Bool.false_or, c0z, if_false]
   simp only [hdE] at ih
   rw [ih]
   split <;> simp [hdE]
def a0D (l : Lk) : Nm.Rt := Nm.ofQ (a7a (Nm.j4 l.low) (a1K (Nm.j4 l.high) 0))
def X7 (a : Am) : Ast := ⟨a.links.map a0D, a.links.map fun _ => Nm.ofQ 0, false, -1⟩
def a2t : Fr := ⟨Nm.ofQ 0, Nm.ofQ 0, false, Nm.ofQ 0⟩
def a5d (w : Wk) (i : Nat) : Fr := if h : i < w.slots.length then (w.slots[i]).frame else a2t
def J7 (w : Wk) : Stt := ⟨0, w.arms.map X7, (List.range w.parts.length).map (a5d w), [], List.replicate w.gates.length false⟩
theorem b5C {l : List Vt} {most i k : Nat} (h1 : ¬ most < l.length) (h2 : ¬ l.length < 3) (hi : i < l.length) (hk2 : 2 <= k) (hk : k < l.length) (h : ¬ 0 < a1h l i k) : O5 l most = 3 := by
 unfold O5
 rw [if_neg h1, if_neg h2, if_neg]
 intro ha
 rw [List.all_eq_true] at ha
 have h3 := ha i (List.mem_range.2 hi)
 rw [List.all_eq_true] at h3
 have h4 := h3 k (List.mem_range.2 hk)
 rw [c0A, b9U, b9U] at h4
 omega
theorem b4c {l : List Vt} {most : Nat} (h1 : ¬ most < l.length) (h2 : ¬ l.length < 3) (h : ∀ i, i < l.length -> ∀ k, 2 <= k -> k < l.length -> 0 < a1h l i k) : O5 l most = 0 := by
 unfold O5
 rw [if_neg h1, if_neg h2, if_pos]
 rw [List.all_eq_true]
 intro i hi
 rw [List.all_eq_true]
 intro k hk
 rw [c0A, b9U, b9U]
 rcases c0j k 2 with h3 | h3
 ·exact .inl h3
 ·exact .inr (h i (List.mem_range.1 hi) k h3 (List.mem_range.1 hk))
theorem b5K {l : List Vt} {i k : Nat} {x y z : Vt} (hx : l[i]? = some x) (hy : l[(i + 1) % l.length]? = some y) (hz : l[(i + k) % l.length]? = some z) : a1h l i k = a6d x y z := by
 unfold a1h
 rw [b9Q, b9Q, b9Q, hx, hy, hz]
 rfl
theorem b6j (i k n : Nat) : Int.tmod ((i : Int) + (k : Int)) (n : Int) = (((i + k) % n : Nat) : Int) := rfl
theorem tmod_one (i n : Nat) : Int.tmod ((i : Int) + 1) (n : Int) = (((i + 1) % n : Nat) : Int) := rfl
theorem b8n (v : Vt) : v.enc.length = 6 := rfl
theorem b6x (l : List Vt) (most : Nat) (hl : Vbs 1073741824 l) (hm : most <= 1000000) : FZ 133 [vts l, ints most] (ints (O5 l most)) := by
 refine kW a9Q a9R (by rfl) fun w O hw => ?_
 obtain ⟨hn, hb⟩ := hl
 simp only [a4O, l9, TT, II, OA, OB, OC, MM, LL, VV, FF, MG, LG, VG, FG, ints, vts]
 (repeat first | refine uA ?_ | (refine uK ?_ ?_; focus first | omega | trivial | (intros; simp_all <;> omega)) | simp (disch := omega) only [go_sem, Nat.reduceBEq, Nat.reduceAdd, Nat.reduceLeDiff, Int.reduceToNat, Int.reducePow, ww, b9K])
 (refine uJ rfl (fun hc => ?_) fun hc => ?_)
 ·have he : O5 l most = 2 := by unfold O5; rw [if_pos (by omega)]
  rw [he]
  (repeat first | refine uA ?_ | (refine uK ?_ ?_; focus first | omega | trivial | (intros; simp_all <;> omega)) | simp (disch := omega) only [go_sem, Nat.reduceBEq, Nat.reduceAdd, Nat.reduceLeDiff, Int.reduceToNat, Int.reducePow, ww])
  exact S.done (d9.out rfl (Imp.refl rfl) rfl)
 have h1 : ¬ most < l.length := by omega
 (repeat first | refine uA ?_ | (refine uK ?_ ?_; focus first | omega | trivial | (intros; simp_all <;> omega)) | simp (disch := omega) only [go_sem, Nat.reduceBEq, Nat.reduceAdd, Nat.reduceLeDiff, Int.reduceToNat, Int.reducePow, ww, b9K])
 (refine uJ rfl (fun hc => ?_) fun hc => ?_)
 ·have he : O5 l most = 3 := by unfold O5; rw [if_neg h1, if_pos (by omega)]
  rw [he]
  (repeat first | refine uA ?_ | (refine uK ?_ ?_; focus first | omega | trivial | (intros; simp_all <;> omega)) | simp (disch := omega) only [go_sem, Nat.reduceBEq, Nat.reduceAdd, Nat.reduceLeDiff, Int.reduceToNat, Int.reducePow, ww])
  exact S.done (d9.out rfl (Imp.refl rfl) rfl)
 have h2 : ¬ l.length < 3 := by omega
 (repeat first | refine uA ?_ | (refine uK ?_ ?_; focus first | omega | trivial | (intros; simp_all <;> omega)) | simp (disch := omega) only [go_sem, Nat.reduceBEq, Nat.reduceAdd, Nat.reduceLeDiff, Int.reduceToNat, Int.reducePow, ww, b9K])
 refine S.loop (X := Nat) (fun i => ⟨[(0, vts l), (5, ints l.length), (18, vts l), (19, ints l.length), (20, ints i)], []⟩)
  (fun i => i <= l.length /\ ∀ j, j < i -> ∀ k, 2 <= k -> k < l.length -> 0 < a1h l j k) (fun i => l.length - i) 0 ⟨b9M _, fun _ h => absurd h (Nat.not_lt_zero _)⟩ (by (repeat first | refine uA ?_ | (refine ⟨?_, ?_⟩; focus first | rfl | trivial | (simp [slot]; done)) | rfl | trivial | simp)) ?_
 rintro i ⟨hi, hg⟩
 simp only [ints, vts] at hi ⊢
 (repeat first | refine uA ?_ | (refine uK ?_ ?_; focus first | omega | trivial | (intros; simp_all <;> omega)) | simp (disch := omega) only [go_sem, Nat.reduceBEq, Nat.reduceAdd, Nat.reduceLeDiff, Int.reduceToNat, Int.reducePow, ww])
 (refine uJ rfl (fun hc => ?_) fun hc => ?_)
 ·have hi' : i < l.length := by omega
  have hgi := b9I hi'
  generalize l[i] = x at hgi
  (repeat first | refine uA ?_ | (refine uK ?_ ?_; focus first | omega | trivial | (intros; simp_all <;> omega)) | simp (disch := omega) only [go_sem, Nat.reduceBEq, Nat.reduceAdd, Nat.reduceLeDiff, Int.reduceToNat, Int.reducePow, ww, hgi, b9J, b9K, b8n])
  refine S.loop (X := Nat) (fun k => ⟨[(0, vts l), (5, ints l.length), (6, ints i), (7, .bp 0 0), (8, ints k), (18, vts l), (19, ints l.length), (20, ints i)], [.box 44 x.enc]⟩)
   (fun k => 2 <= k /\ k <= l.length /\ ∀ k', 2 <= k' -> k' < k -> 0 < a1h l i k') (fun k => l.length - k) 2 ⟨b9T _, by omega, fun _ h h' => by omega⟩ (by (repeat first | refine uA ?_ | (refine ⟨?_, ?_⟩; focus first | rfl | trivial | (simp [slot]; done)) | rfl | trivial | simp)) ?_
  rintro k ⟨hk2, hk, hgk⟩
  simp only [ints, vts] at hk ⊢
  (repeat first | refine uA ?_ | (refine uK ?_ ?_; focus first | omega | trivial | (intros; simp_all <;> omega)) | simp (disch := omega) only [go_sem, Nat.reduceBEq, Nat.reduceAdd, Nat.reduceLeDiff, Int.reduceToNat, Int.reducePow, ww])
  (refine uJ rfl (fun hc => ?_) fun hc => ?_)
  ·have hk' : k < l.length := by omega
   have hy := b9I (show (i + 1) % l.length < l.length from Nat.mod_lt _ (by omega))
   have hz := b9I (show (i + k) % l.length < l.length from Nat.mod_lt _ (by omega))
   have hylt : (i + 1) % l.length < l.length := Nat.mod_lt _ (by omega)
   have hzlt : (i + k) % l.length < l.length := Nat.mod_lt _ (by omega)
   generalize l[(i + 1) % l.length]'_ = y at hy
   generalize l[(i + k) % l.length]'_ = z at hz
   have hla := b5K hgi hy hz
   have hcall := b8N x y z (hb x (b9W hgi)) (hb y (b9W hy)) (hb z (b9W hz))
   rw [<- hla] at hcall
   simp only [Vt.c, Vt.enc, sb, ints] at hcall
   (repeat first | refine uA ?_ | (refine uK ?_ ?_; focus first | omega | trivial | (intros; simp_all <;> omega)) | simp (disch := omega) only [go_sem, Nat.reduceBEq, Nat.reduceAdd, Nat.reduceLeDiff, Int.reduceToNat, Int.reducePow, ww, hy, hz, b9J, b6j, tmod_one, b9K, Vt.enc, sb, b9R] | (refine uD hcall ?_ ?_ ?_; exact tz hw; exact rfl))
   (refine uJ rfl (fun hc => ?_) fun hc => ?_)
   ·rw [b5C h1 h2 hi' hk2 hk' (by omega)]
    (repeat first | refine uA ?_ | (refine uK ?_ ?_; focus first | omega | trivial | (intros; simp_all <;> omega)) | simp (disch := omega) only [go_sem, Nat.reduceBEq, Nat.reduceAdd, Nat.reduceLeDiff, Int.reduceToNat, Int.reducePow, ww])
    exact S.done (d9.out rfl (Imp.refl rfl) rfl)
   ·(repeat first | refine uA ?_ | (refine uK ?_ ?_; focus first | omega | trivial | (intros; simp_all <;> omega)) | simp (disch := omega) only [go_sem, Nat.reduceBEq, Nat.reduceAdd, Nat.reduceLeDiff, Int.reduceToNat, Int.reducePow, ww])
    refine S.next (k + 1) ⟨by omega, by omega, fun k' hk1 hk3 => ?_⟩ (by omega) (by (repeat first | refine uA ?_ | (refine ⟨?_, ?_⟩; focus first | rfl | trivial | (simp [slot]; done)) | rfl | trivial | simp))
    rcases c0j k' k with h | h
    ·exact hgk k' hk1 h
    ·have : k' = k := by omega
     subst this
     omega
  ·have hk' : k = l.length := by omega
   subst hk'
   (repeat first | refine uA ?_ | (refine uK ?_ ?_; focus first | omega | trivial | (intros; simp_all <;> omega)) | simp (disch := omega) only [go_sem, Nat.reduceBEq, Nat.reduceAdd, Nat.reduceLeDiff, Int.reduceToNat, Int.reducePow, ww])
   refine S.next (i + 1) ⟨by omega, fun j hj => ?_⟩ (by omega) (by (repeat first | refine uA ?_ | (refine ⟨?_, ?_⟩; focus first | rfl | trivial | (simp [slot]; done)) | rfl | trivial | simp))
   rcases c0j j i with h | h
   ·exact hg j h
   ·have : j = i := by omega
    subst this
    exact hgk
 ·have hi' : i = l.length := by omega
  subst hi'
  rw [b4c h1 h2 hg]
  (repeat first | refine uA ?_ | (refine uK ?_ ?_; focus first | omega | trivial | (intros; simp_all <;> omega)) | simp (disch := omega) only [go_sem, Nat.reduceBEq, Nat.reduceAdd, Nat.reduceLeDiff, Int.reduceToNat, Int.reducePow, ww])
  exact S.done (d9.out rfl (Imp.refl rfl) rfl)
theorem a6B (l : List Vt) (hl : Vbs 1073741824 l) : FZ 91 [vts l] (ints (O5 l 8)) := by
 refine kW Tryz.func91 (by cbv) (by rfl) fun w O hw => ?_
 have h := b6x l 8 hl (by decide)
 simp only [l9]
 simp only [vts, ints] at *
 generalize O5 l 8 = e at *
 rw [show ((8 : Nat) : Int) = 8 from rfl] at h
 (repeat first | refine uA ?_ | (refine uK ?_ ?_; focus first | omega | trivial | (intros; simp_all <;> omega)) | simp (disch := omega) only [go_sem, Nat.reduceBEq, Nat.reduceAdd, Nat.reduceLeDiff, Int.reduceToNat, Int.reducePow, ww] | (refine uD h ?_ ?_ ?_; exact tz hw; exact rfl))
 exact S.done (d9.out rfl (Imp.refl rfl) rfl)
def a1I : E9 := ⟨89, [.tmp 2], .seq (.reg [OA 1 (.box 31 (TT 0)), OA 2 (.mv (II 0))]) (.seq (.seq (.reg [FF 7 0 1, VV 8 7, OA 9 (.len false (TT 8)), OA 10 (.bin .gtr (TT 9) (II 4)), MM 11 10, FG 12 1 1 11 false, VG 13 12 11 false, OC 14 (.len
 false (TT 13)) 11 false, OC 15 (.bin .gtr (TT 14) (II 10)) 11 false, OA 16 (.pick (TT 11) (.const (.bool true)) (TT 15)), MM 17 16, FG 18 2 1 17 false, VG 19 18 17 false, OC 20 (.len false (TT 19)) 17 false, OC 21 (.bin .gtr (TT
 20) (II 6)) 17 false, OA 22 (.pick (TT 17) (.const (.bool true)) (TT 21)), MM 23 22, FG 24 3 1 23 false, VG 25 24 23 false, OC 26 (.len false (TT 25)) 23 false, OC 27 (.bin .gtr (TT 26) (II 8)) 23 false, OA 28 (.pick (TT 23)
 (.const (.bool true)) (TT 27)), MM 29 28, FG 30 4 1 29 false, VG 31 30 29 false, OC 32 (.len false (TT 31)) 29 false, OC 33 (.bin .gtr (TT 32) (II 4)) 29 false, OA 34 (.pick (TT 29) (.const (.bool true)) (TT 33))]) (.cond (TT
 34) (.seq (.reg [OA 2 (.mv (II 2))]) .ret) .skip)) (.seq (.seq (.reg [FF 35 0 1, VV 36 35, OA 37 (.len false (TT 36)), OA 38 (.bin .eql (TT 37) (II 0))]) (.cond (TT 38) (.seq (.reg [OA 2 (.mv (II 4))]) .ret) .skip)) (.seq (.reg
 [OA 39 (.a1n true), OA 3 (.alloc 94 [.map none]), OB (.store 1 (TT 3) (TT 39))]) (.seq (.reg [OA 40 (.clo 28 [TT 3]), MM 4 40]) (.seq (.seq (.F4 [.q, .q, .q, .e none false, .l, .l, .q, .l, .l, .l, .l, .e none false, .l, .l,
 .l, .l, .e none false, .l, .l, .l, .l, .e none false, .q, .q, .l] [FF 41 0 1, VV 42 41, MM 43 4, OA 44 (.call 31 [TT 42, TT 43]), FF 45 1 1, VV 46 45, OA 47 (.call 32 [TT 46, .func 33]), FF 48 2 1, VV 49 48, VV 50 3, OA 51 (.bnd
 35 (TT 50)), OA 52 (.call 34 [TT 49, TT 51]), FF 53 3 1, VV 54 53, VV 55 3, OA 56 (.bnd 37 (TT 55)), OA 57 (.call 36 [TT 54, TT 56]), FF 58 4 1, VV 59 58, VV 60 3, OA 61 (.bnd 39 (TT 60)), OA 62 (.call 38 [TT 59, TT 61]), OA 63
 (.bsl 41 1 5 [.int .i64 0] [(0, TT 44), (1, TT 47), (2, TT 52), (3, TT 57), (4, TT 62)]), OA 64 (.len false (TT 63)), OA 65 (.mv (II 0))]) (.block 0 (.loop (.seq (.reg [OA 66 (.bin .lss (TT 65) (TT 64))]) (.seq (.cond (TT 66)
 .skip (.exit 0)) (.seq (.block 1 (.seq (.reg [OA 67 (.j6 1 (TT 63) (TT 65)), VV 68 67, MM 6 68]) (.seq (.reg [MM 69 6, OA 70 (.bin .neq (TT 69) (II 0))]) (.cond (TT 70) (.seq (.reg [MM 71 6, MM 2 71]) .ret) .skip)))) (.reg
 [OA 72 (.bin .add (TT 65) (II 1)), MM 65 72]))))))) (.seq (.seq (.reg [FF 73 5 1, LL 74 3 73, OA 75 (.call 40 [TT 74]), OA 76 (.un .not (TT 75)), MM 77 76, FG 78 5 1 77 false, LG 79 3 78 77 false, OC 80 (.call 41 [TT 79]) 77
 false, OC 81 (.un .not (TT 80)) 77 false, OA 82 (.pick (TT 77) (.const (.bool true)) (TT 81)), MM 83 82, FG 84 5 1 83 false, LG 85 3 84 83 false, OC 86 (.call 42 [TT 85]) 83 false, OC 87 (.bin .lss (TT 86) (II 0)) 83 false, OA
 88 (.pick (TT 83) (.const (.bool true)) (TT 87))]) (.cond (TT 88) (.seq (.reg [OA 2 (.mv (II 1))]) .ret) .skip)) (.seq (.reg [OA 2 (.mv (II 0))]) .ret)))))))⟩
theorem a8q : D5 eff Tryz.prog Tryz.f8 = some a1I := by kernel_rfl
theorem a8I : Tryz.prog.funcs[8]? = some Tryz.f8 := Tryz.func8
def a0F : E9 := ⟨21, [.tmp 4], .seq (.reg [OA 4 (.mv (II 0))]) (.seq (.seq (.reg [MM 8 0, OA 9 (.len false (TT 8)), OA 10 (.mv (II 0))]) (.block 0 (.loop (.seq (.reg [OA 11 (.bin .lss (TT 10) (TT 9))]) (.seq (.cond (TT 11) .skip (.exit 0)) (.seq
 (.block 1 (.seq (.reg [OA 12 (.j6 14 (TT 8) (TT 10)), LL 13 14 12, OA 6 (.alloc 86 [.string ⟨#[]⟩, .bool false, .string ⟨#[]⟩, .string ⟨#[]⟩, .bool false, .string ⟨#[]⟩, .string ⟨#[]⟩, .bool false, .bool false, .string ⟨#[]⟩,
 .string ⟨#[]⟩, .bool false, .string ⟨#[]⟩, .string ⟨#[]⟩]), OB (.store 14 (TT 6) (TT 13))]) (.seq (.reg [MM 14 1, LL 15 14 6, OA 16 (.O6 (TT 14) [TT 15]), MM 7 16]) (.seq (.reg [MM 17 7, OA 18 (.bin .neq (TT 17) (II 0))])
 (.cond (TT 18) (.seq (.reg [MM 19 7, MM 4 19]) .ret) .skip))))) (.reg [OA 20 (.bin .add (TT 10) (II 1)), MM 10 20]))))))) (.seq (.reg [OA 4 (.mv (II 0))]) .ret))⟩
theorem a3A : D5 eff Tryz.prog Tryz.f36 = some a0F := by kernel_rfl
theorem a3J : Tryz.prog.funcs[36]? = some Tryz.f36 := Tryz.func36
def a0G : E9 := ⟨21, [.tmp 4], .seq (.reg [OA 4 (.mv (II 0))]) (.seq (.seq (.reg [MM 8 0, OA 9 (.len false (TT 8)), OA 10 (.mv (II 0))]) (.block 0 (.loop (.seq (.reg [OA 11 (.bin .lss (TT 10) (TT 9))]) (.seq (.cond (TT 11) .skip (.exit 0)) (.seq
 (.block 1 (.seq (.reg [OA 12 (.j6 13 (TT 8) (TT 10)), LL 13 13 12, OA 6 (.alloc 91 [.string ⟨#[]⟩, .bool false, .string ⟨#[]⟩, .string ⟨#[]⟩, .bool false, .string ⟨#[]⟩, .string ⟨#[]⟩, .bool false, .string ⟨#[]⟩, .string
 ⟨#[]⟩, .bool false, .string ⟨#[]⟩, .string ⟨#[]⟩]), OB (.store 13 (TT 6) (TT 13))]) (.seq (.reg [MM 14 1, LL 15 13 6, OA 16 (.O6 (TT 14) [TT 15]), MM 7 16]) (.seq (.reg [MM 17 7, OA 18 (.bin .neq (TT 17) (II 0))]) (.cond (TT
 18) (.seq (.reg [MM 19 7, MM 4 19]) .ret) .skip))))) (.reg [OA 20 (.bin .add (TT 10) (II 1)), MM 10 20]))))))) (.seq (.reg [OA 4 (.mv (II 0))]) .ret))⟩
theorem a3K : D5 eff Tryz.prog Tryz.f38 = some a0G := by kernel_rfl
theorem a3D : Tryz.prog.funcs[38]? = some Tryz.f38 := Tryz.func38
def a4N : E9 := ⟨28, [.tmp 2], .seq (.reg [OA 2 (.mv (.const (.bool false)))]) (.seq (.seq (.reg [MM 4 0, OA 5 (.len true (TT 4)), OA 6 (.mv (II 0))]) (.block 0 (.loop (.seq (.reg [OA 7 (.bin .lss (TT 6) (TT 5))]) (.seq (.cond (TT 7) .skip (.exit
 0)) (.seq (.block 1 (.seq (.reg [MM 8 6, MM 3 8]) (.seq (.reg [MM 9 0, MM 10 3, OA 11 (.idxs (TT 9) (TT 10)), OA 12 (.bin .lss (TT 11) (.const (.int .u8 97))), MM 13 12, MG 14 0 13 false, MG 15 3 13 false, OC 16 (.idxs (TT 14)
 (TT 15)) 13 false, OC 17 (.bin .gtr (TT 16) (.const (.int .u8 122))) 13 false, OA 18 (.pick (TT 13) (.const (.bool true)) (TT 17))]) (.cond (TT 18) (.seq (.reg [OA 2 (.mv (.const (.bool false)))]) .ret) .skip)))) (.reg [OA 19
 (.bin .add (TT 6) (II 1)), MM 6 19]))))))) (.seq (.reg [MM 20 0, OA 21 (.len true (TT 20)), OA 22 (.bin .geq (TT 21) (II 1)), MM 23 22, MG 24 0 23 true, OC 25 (.len true (TT 24)) 23 true, OC 26 (.bin .leq (TT 25) (II 12)) 23
 true, OA 27 (.pick (TT 23) (TT 26) (.const (.bool false))), MM 2 27]) .ret))⟩
theorem b0c : D5 eff Tryz.prog Tryz.f90 = some a4N := by kernel_rfl
theorem b0a : Tryz.prog.funcs[90]? = some Tryz.f90 := Tryz.func90
def a4a : E9 := ⟨32, [.tmp 2], .seq (.reg [OA 1 (.box 48 (TT 0)), OA 2 (.mv (.const (.bool false)))]) (.seq (.reg [FF 3 0 1, LL 4 6 3, OA 5 (.bsl 44 6 1 [.bool false, .string ⟨#[]⟩, .string ⟨#[]⟩, .bool false, .string ⟨#[]⟩, .string ⟨#[]⟩] [(0,
 TT 4)]), OA 6 (.call 92 [TT 5]), MM 7 6, FG 8 6 1 7 true, FG 9 1 8 7 true, LG 10 3 9 7 true, OC 11 (.call 40 [TT 10]) 7 true, OA 12 (.pick (TT 7) (TT 11) (.const (.bool false))), MM 13 12, FG 14 6 1 13 true, FG 15 1 14 13 true,
 LG 16 3 15 13 true, OC 17 (.call 41 [TT 16]) 13 true, OA 18 (.pick (TT 13) (TT 17) (.const (.bool false))), MM 19 18, FG 20 6 1 19 true, FG 21 0 20 19 true, VG 22 21 19 true, OC 23 (.un .not (TT 22)) 19 true, MG 24 23 19 true,
 FG 25 6 1 24 false, FG 26 1 25 24 false, LG 27 3 26 24 false, OC 28 (.call 42 [TT 27]) 24 false, OC 29 (.bin .eql (TT 28) (II 0)) 24 false, OC 30 (.pick (TT 24) (.const (.bool true)) (TT 29)) 19 true, OA 31 (.pick (TT 19) (TT
 30) (.const (.bool false))), MM 2 31]) .ret)⟩
theorem a8p : D5 eff Tryz.prog Tryz.f93 = some a4a := by kernel_rfl
theorem a8G : Tryz.prog.funcs[93]? = some Tryz.f93 := Tryz.func93
def a1z : E9 := ⟨35, [.tmp 4], .seq (.reg [OA 3 (.box 86 (TT 1)), OA 4 (.mv (II 0))]) (.seq (.seq (.reg [MM 6 0, FF 7 0 3, VV 8 7, OA 9 (.call 30 [TT 6, TT 8]), MM 5 9]) (.seq (.reg [MM 10 5, OA 11 (.bin .neq (TT 10) (II 0))]) (.cond (TT 11)
 (.seq (.reg [MM 12 5, MM 4 12]) .ret) .skip))) (.seq (.seq (.reg [FF 13 1 3, LL 14 10 13, OA 15 (.call 93 [TT 14]), OA 16 (.un .not (TT 15)), MM 17 16, FG 18 11 3 17 false, LG 19 3 18 17 false, OC 20 (.call 40 [TT 19]) 17 false,
 OC 21 (.un .not (TT 20)) 17 false, OA 22 (.pick (TT 17) (.const (.bool true)) (TT 21)), MM 23 22, FG 24 11 3 23 false, LG 25 3 24 23 false, OC 26 (.call 41 [TT 25]) 23 false, OC 27 (.un .not (TT 26)) 23 false, OA 28 (.pick (TT
 23) (.const (.bool true)) (TT 27)), MM 29 28, FG 30 11 3 29 false, LG 31 3 30 29 false, OC 32 (.call 42 [TT 31]) 29 false, OC 33 (.bin .leq (TT 32) (II 0)) 29 false, OA 34 (.pick (TT 29) (.const (.bool true)) (TT 33))]) (.cond
 (TT 34) (.seq (.reg [OA 4 (.mv (II 1))]) .ret) .skip)) (.seq (.reg [OA 4 (.mv (II 0))]) .ret)))⟩
theorem a4V : D5 eff Tryz.prog Tryz.f37 = some a1z := by kernel_rfl
theorem a4T : Tryz.prog.funcs[37]? = some Tryz.f37 := Tryz.func37
def a1A : E9 := ⟨46, [.tmp 4], .seq (.reg [OA 3 (.box 91 (TT 1)), OA 4 (.mv (II 0))]) (.seq (.seq (.reg [MM 6 0, FF 7 0 3, VV 8 7, OA 9 (.call 30 [TT 6, TT 8]), MM 5 9]) (.seq (.reg [MM 10 5, OA 11 (.bin .neq (TT 10) (II 0))]) (.cond (TT 11)
 (.seq (.reg [MM 12 5, MM 4 12]) .ret) .skip))) (.seq (.seq (.reg [FF 13 1 3, FF 14 0 13, LL 15 6 14, FF 16 1 3, FF 17 6 16, LL 18 6 17, OA 19 (.bsl 44 6 2 [.bool false, .string ⟨#[]⟩, .string ⟨#[]⟩, .bool false, .string ⟨#[]⟩,
 .string ⟨#[]⟩] [(0, TT 15), (1, TT 18)]), OA 20 (.call 92 [TT 19]), OA 21 (.un .not (TT 20)), MM 22 21, FG 23 1 3 22 false, FG 24 0 23 22 false, FG 25 0 24 22 false, LG 26 3 25 22 false, FG 27 1 3 22 false, FG 28 6 27 22 false,
 FG 29 0 28 22 false, LG 30 3 29 22 false, OC 31 (.call 22 [TT 26, TT 30]) 22 false, OC 32 (.bin .gtr (TT 31) (II 0)) 22 false, OA 33 (.pick (TT 22) (.const (.bool true)) (TT 32)), MM 34 33, FG 35 1 3 34 false, FG 36 0 35 34
 false, FG 37 3 36 34 false, LG 38 3 37 34 false, FG 39 1 3 34 false, FG 40 6 39 34 false, FG 41 3 40 34 false, LG 42 3 41 34 false, OC 43 (.call 22 [TT 38, TT 42]) 34 false, OC 44 (.bin .gtr (TT 43) (II 0)) 34 false, OA 45
 (.pick (TT 34) (.const (.bool true)) (TT 44))]) (.cond (TT 45) (.seq (.reg [OA 4 (.mv (II 1))]) .ret) .skip)) (.seq (.reg [OA 4 (.mv (II 0))]) .ret)))⟩
theorem a4S : D5 eff Tryz.prog Tryz.f39 = some a1A := by kernel_rfl
theorem a4U : Tryz.prog.funcs[39]? = some Tryz.f39 := Tryz.func39
def a4b : E9 := ⟨97, [.tmp 4], .seq (.reg [OA 2 (.box 31 (TT 0)), OA 3 (.box 37 (TT 1)), OA 4 (.mv (II 0))]) (.seq (.seq (.reg [LL 10 8 2, OA 11 (.call 8 [TT 10]), MM 5 11]) (.seq (.reg [MM 12 5, OA 13 (.bin .neq (TT 12) (II 0))]) (.cond (TT 13)
 (.seq (.reg [MM 14 5, MM 4 14]) .ret) .skip))) (.seq (.seq (.reg [FF 15 3 3, VV 16 15, OA 17 (.len false (TT 16)), OA 18 (.bin .gtr (TT 17) (II 4))]) (.cond (TT 18) (.seq (.reg [OA 4 (.mv (II 2))]) .ret) .skip)) (.seq (.seq
 (.reg [FF 19 0 3, VV 20 19, OA 21 (.bin .lss (TT 20) (II 0)), MM 22 21, FG 23 0 3 22 false, VG 24 23 22 false, OC 25 (.bin .gtr (TT 24) (II 2000)) 22 false, OA 26 (.pick (TT 22) (.const (.bool true)) (TT 25)), MM 27 26, FG 28 1
 3 27 false, VG 29 28 27 false, OC 30 (.len false (TT 29)) 27 false, FG 31 0 2 27 false, VG 32 31 27 false, OC 33 (.len false (TT 32)) 27 false, OC 34 (.bin .neq (TT 30) (TT 33)) 27 false, OA 35 (.pick (TT 27) (.const (.bool
 true)) (TT 34)), MM 36 35, FG 37 2 3 36 false, VG 38 37 36 false, OC 39 (.len false (TT 38)) 36 false, FG 40 2 2 36 false, VG 41 40 36 false, OC 42 (.len false (TT 41)) 36 false, OC 43 (.bin .neq (TT 39) (TT 42)) 36 false, OA 44
 (.pick (TT 36) (.const (.bool true)) (TT 43)), MM 45 44, FG 46 4 3 45 false, VG 47 46 45 false, OC 48 (.len false (TT 47)) 45 false, FG 49 4 2 45 false, VG 50 49 45 false, OC 51 (.len false (TT 50)) 45 false, OC 52 (.bin .neq
 (TT 48) (TT 51)) 45 false, OA 53 (.pick (TT 45) (.const (.bool true)) (TT 52))]) (.cond (TT 53) (.seq (.reg [OA 4 (.mv (II 1))]) .ret) .skip)) (.seq (.reg [OA 54 (.a1n false), MM 6 54]) (.seq (.seq (.reg [FF 55 1 3, VV 56 55,
 OA 57 (.len false (TT 56)), OA 58 (.mv (II 0))]) (.block 0 (.loop (.seq (.reg [OA 59 (.bin .lss (TT 58) (TT 57))]) (.seq (.cond (TT 59) .skip (.exit 0)) (.seq (.block 1 (.seq (.reg [MM 60 58, OA 61 (.j6 4 (TT 56) (TT 58)), LL
 62 4 61, OA 8 (.alloc 61 [.slice none 0 0, .slice none 0 0, .bool false, .int .i64 0]), MM 7 60, OB (.store 4 (TT 8) (TT 62))]) (.seq (.seq (.F4 [.q, .q, .q, .q, .q, .q, .q, .q, .q, .q, .q] [FF 63 0 2, VV 64 63, MM 65 7, OA 66
 (.j6 12 (TT 64) (TT 65)), LL 67 12 66, LL 68 4 8, FF 69 2 2, VV 70 69, OA 71 (.len false (TT 70)), OA 72 (.call 43 [TT 67, TT 68, TT 71]), MM 9 72]) (.seq (.reg [MM 73 9, OA 74 (.bin .neq (TT 73) (II 0))]) (.cond (TT 74)
 (.seq (.reg [MM 75 9, MM 4 75]) .ret) .skip))) (.seq (.seq (.reg [FF 76 3 8, VV 77 76, OA 78 (.bin .geq (TT 77) (II 0)), MM 79 78, MG 80 6 79 true, FG 81 3 8 79 true, VG 82 81 79 true, OC 83 (.lkp false (.bool false) false (TT
 80) (TT 82)) 79 true, OA 84 (.pick (TT 79) (TT 83) (.const (.bool false)))]) (.cond (TT 84) (.seq (.reg [OA 4 (.mv (II 10))]) .ret) .skip)) (.reg [MM 85 6, FF 86 3 8, VV 87 86, OB (.a4v false (TT 85) (TT 87) (.const (.bool
 true)))]))))) (.reg [OA 88 (.bin .add (TT 58) (II 1)), MM 58 88]))))))) (.seq (.seq (.reg [FF 89 2 3, VV 90 89, OA 91 (.call 44 [TT 90, .func 45]), MM 92 91, FG 93 3 3 92 false, VG 94 93 92 false, OC 95 (.call 47 [TT 94, .func
 48]) 92 false, OA 96 (.pick (TT 92) (.const (.bool true)) (TT 95))]) (.cond (TT 96) (.seq (.reg [OA 4 (.mv (II 3))]) .ret) .skip)) (.seq (.reg [OA 4 (.mv (II 0))]) .ret)))))))⟩
theorem a8k : D5 eff Tryz.prog Tryz.f9 = some a4b := by kernel_rfl
theorem a8h : Tryz.prog.funcs[9]? = some Tryz.f9 := Tryz.func9
def a3Y : E9 := ⟨91, [.cell 2 true 5, .tmp 3], .seq (.reg [OA 1 (.box 31 (TT 0)), OA 2 (.alloc 37 [.int .i64 0, .slice none 0 0, .slice none 0 0, .slice none 0 0, .slice none 0 0]), OA 3 (.mv (II 0))]) (.seq (.seq (.reg [LL 13 8 1, OA 14 (.call 8
 [TT 13]), MM 4 14]) (.seq (.reg [MM 15 4, OA 16 (.bin .neq (TT 15) (II 0))]) (.cond (TT 16) (.seq (.reg [OA 17 (.build [.int .i64 0, .slice none 0 0, .slice none 0 0, .slice none 0 0, .slice none 0 0] []), MM 18 4, OB (.store 5
 (TT 2) (TT 17)), MM 3 18]) .ret) .skip))) (.seq (.reg [OA 5 (.alloc 37 [.int .i64 0, .slice none 0 0, .slice none 0 0, .slice none 0 0, .slice none 0 0])]) (.seq (.seq (.reg [FF 19 0 1, VV 20 19, OA 21 (.len false (TT 20)), OA
 22 (.mv (II 0))]) (.block 0 (.loop (.seq (.reg [OA 23 (.bin .lss (TT 22) (TT 21))]) (.seq (.cond (TT 23) .skip (.exit 0)) (.seq (.block 1 (.seq (.reg [OA 24 (.j6 12 (TT 20) (TT 22)), LL 25 12 24, OA 7 (.alloc 51 [.string
 ⟨#[]⟩, .bool false, .string ⟨#[]⟩, .string ⟨#[]⟩, .bool false, .string ⟨#[]⟩, .string ⟨#[]⟩, .bool false, .bool false, .string ⟨#[]⟩, .string ⟨#[]⟩, .slice none 0 0]), OB (.store 12 (TT 7) (TT 25))]) (.seq (.reg [OA 26 (.build
 [.slice none 0 0, .slice none 0 0, .bool false, .int .i64 0] [(3, (1, II (-1)))]), OA 8 (.alloc 61 [.slice none 0 0, .slice none 0 0, .bool false, .int .i64 0]), OB (.store 4 (TT 8) (TT 26))]) (.seq (.seq (.reg [FF 27 11 7, VV
 28 27, OA 29 (.len false (TT 28)), OA 30 (.mv (II 0))]) (.block 2 (.loop (.seq (.reg [OA 31 (.bin .lss (TT 30) (TT 29))]) (.seq (.cond (TT 31) .skip (.exit 2)) (.seq (.block 3 (.seq (.reg [OA 32 (.j6 16 (TT 28) (TT 30)), LL
 33 16 32, OA 10 (.alloc 53 [.bool false, .string ⟨#[]⟩, .string ⟨#[]⟩, .bool false, .string ⟨#[]⟩, .string ⟨#[]⟩, .bool false, .string ⟨#[]⟩, .string ⟨#[]⟩, .bool false, .string ⟨#[]⟩, .string ⟨#[]⟩, .bool false, .string ⟨#[]⟩,
 .string ⟨#[]⟩, .slice none 0 0]), OB (.store 16 (TT 10) (TT 33))]) (.seq (.F4 [.q, .q, .q, .q, .q, .q, .q, .q, .q, .q, .e none true, .q, .e none true] [FF 34 0 8, VV 35 34, FF 36 3 10, LL 37 3 36, FF 38 6 10, LL 39 3 38, OA 40
 (.call 86 [II 0]), OA 41 (.call 69 [TT 39, TT 40]), OA 42 (.call 67 [TT 37, TT 41]), OA 43 (.bsl 29 3 1 [.bool false, .string ⟨#[]⟩, .string ⟨#[]⟩] [(0, TT 42)]), OA 44 (.app 29 3 40 (TT 35) (TT 43)), FF 45 0 8, OB (.store 1 (TT
 45) (TT 44))]) (.F4 [.q, .q, .q, .q, .e none true, .q, .e none true] [FF 46 1 8, VV 47 46, OA 48 (.call 86 [II 0]), OA 49 (.bsl 29 3 1 [.bool false, .string ⟨#[]⟩, .string ⟨#[]⟩] [(0, TT 48)]), OA 50 (.app 29 3 40 (TT 47) (TT
 49)), FF 51 1 8, OB (.store 1 (TT 51) (TT 50))])))) (.reg [OA 52 (.bin .add (TT 30) (II 1)), MM 30 52]))))))) (.reg [FF 53 1 5, VV 54 53, LL 55 4 8, OA 56 (.bsl 61 4 1 [.slice none 0 0, .slice none 0 0, .bool false, .int .i64 0]
 [(0, TT 55)]), OA 57 (.app 61 4 64 (TT 54) (TT 56)), FF 58 1 5, OB (.store 1 (TT 58) (TT 57))]))))) (.reg [OA 59 (.bin .add (TT 22) (II 1)), MM 22 59]))))))) (.seq (.seq (.reg [FF 60 2 1, VV 61 60, OA 62 (.len false (TT 61)), OA
 63 (.mv (II 0))]) (.block 4 (.loop (.seq (.reg [OA 64 (.bin .lss (TT 63) (TT 62))]) (.seq (.cond (TT 64) .skip (.exit 4)) (.seq (.block 5 (.seq (.reg [MM 65 63, MM 11 65]) (.seq (.reg [OA 66 (.call 56 []), OA 12 (.alloc 48
 [.bool false, .string ⟨#[]⟩, .string ⟨#[]⟩, .bool false, .string ⟨#[]⟩, .string ⟨#[]⟩, .bool false, .bool false, .string ⟨#[]⟩, .string ⟨#[]⟩]), OB (.store 10 (TT 12) (TT 66))]) (.seq (.seq (.reg [MM 67 11, FF 68 3 1, VV 69 68,
 OA 70 (.len false (TT 69)), OA 71 (.bin .lss (TT 67) (TT 70))]) (.cond (TT 71) (.reg [FF 72 3 1, VV 73 72, MM 74 11, OA 75 (.j6 14 (TT 73) (TT 74)), FF 76 1 75, LL 77 10 76, OB (.store 10 (TT 12) (TT 77))]) .skip)) (.reg [FF
 78 2 5, VV 79 78, LL 80 10 12, OA 81 (.bsl 48 10 1 [.bool false, .string ⟨#[]⟩, .string ⟨#[]⟩, .bool false, .string ⟨#[]⟩, .string ⟨#[]⟩, .bool false, .bool false, .string ⟨#[]⟩, .string ⟨#[]⟩] [(0, TT 80)]), OA 82 (.app 48 10
 128 (TT 79) (TT 81)), FF 83 2 5, OB (.store 1 (TT 83) (TT 82))]))))) (.reg [OA 84 (.bin .add (TT 63) (II 1)), MM 63 84]))))))) (.seq (.reg [FF 85 4 1, VV 86 85, OA 87 (.len false (TT 86)), OA 88 (.V7 4 1 [.bool false] (TT 87)
 (TT 87)), FF 89 4 5, OB (.store 1 (TT 89) (TT 88))]) (.seq (.reg [LL 90 5 5, OB (.store 5 (TT 2) (TT 90)), OA 3 (.mv (II 0))]) .ret))))))⟩
theorem a8A : D5 eff Tryz.prog Tryz.f24 = some a3Y := by kernel_rfl
theorem a8l : Tryz.prog.funcs[24]? = some Tryz.f24 := Tryz.func24
def a5B : E9 := ⟨64, [.tmp 6], .seq (.reg [OA 3 (.box 51 (TT 0)), OA 4 (.box 61 (TT 1)), OA 6 (.mv (II 0))]) (.seq (.seq (.reg [FF 10 0 4, VV 11 10, OA 12 (.call 49 [TT 11]), OA 13 (.un .not (TT 12)), MM 14 13, FG 15 1 4 14 false, VG 16 15 14
 false, OC 17 (.call 49 [TT 16]) 14 false, OC 18 (.un .not (TT 17)) 14 false, OA 19 (.pick (TT 14) (.const (.bool true)) (TT 18))]) (.cond (TT 19) (.seq (.reg [OA 6 (.mv (II 3))]) .ret) .skip)) (.seq (.seq (.reg [LL 20 12 3, FF
 21 0 4, VV 22 21, OA 23 (.call 96 [TT 20, TT 22]), MM 7 23]) (.seq (.reg [MM 24 7, OA 25 (.bin .neq (TT 24) (II 0))]) (.cond (TT 25) (.seq (.reg [MM 26 7, MM 6 26]) .ret) .skip))) (.seq (.seq (.reg [FF 27 1 4, VV 28 27, OA 29
 (.len false (TT 28)), FF 30 11 3, VV 31 30, OA 32 (.len false (TT 31)), OA 33 (.bin .neq (TT 29) (TT 32)), MM 34 33, FG 35 3 4 34 false, VG 36 35 34 false, OC 37 (.bin .lss (TT 36) (II (-1))) 34 false, OA 38 (.pick (TT 34)
 (.const (.bool true)) (TT 37)), MM 39 38, FG 40 3 4 39 false, VG 41 40 39 false, MG 42 2 39 false, OC 43 (.bin .geq (TT 41) (TT 42)) 39 false, OA 44 (.pick (TT 39) (.const (.bool true)) (TT 43))]) (.cond (TT 44) (.seq (.reg [OA
 6 (.mv (II 1))]) .ret) .skip)) (.seq (.seq (.reg [FF 45 11 3, VV 46 45, OA 47 (.len false (TT 46)), OA 48 (.mv (II 0))]) (.block 0 (.loop (.seq (.reg [OA 49 (.bin .lss (TT 48) (TT 47))]) (.seq (.cond (TT 49) .skip (.exit 0))
 (.seq (.block 1 (.seq (.reg [MM 50 48, OA 51 (.j6 16 (TT 46) (TT 48)), LL 52 16 51, OA 9 (.alloc 53 [.bool false, .string ⟨#[]⟩, .string ⟨#[]⟩, .bool false, .string ⟨#[]⟩, .string ⟨#[]⟩, .bool false, .string ⟨#[]⟩, .string
 ⟨#[]⟩, .bool false, .string ⟨#[]⟩, .string ⟨#[]⟩, .bool false, .string ⟨#[]⟩, .string ⟨#[]⟩, .slice none 0 0]), MM 8 50, OB (.store 16 (TT 9) (TT 52))]) (.seq (.F4 [.q, .q, .q, .q, .q, .q, .q, .q, .q, .q] [FF 53 1 4, VV 54 53,
 MM 55 8, OA 56 (.j6 3 (TT 54) (TT 55)), LL 57 3 56, OA 58 (.call 61 [TT 57]), FF 59 9 9, LL 60 3 59, OA 61 (.call 22 [TT 58, TT 60]), OA 62 (.bin .gtr (TT 61) (II 0))]) (.cond (TT 62) (.seq (.reg [OA 6 (.mv (II 1))]) .ret)
 .skip)))) (.reg [OA 63 (.bin .add (TT 48) (II 1)), MM 48 63]))))))) (.seq (.reg [OA 6 (.mv (II 0))]) .ret)))))⟩
theorem b1m : D5 eff Tryz.prog Tryz.f43 = some a5B := by kernel_rfl
theorem b0Y : Tryz.prog.funcs[43]? = some Tryz.f43 := Tryz.func43
def a2p : E9 := ⟨159, [.cell 2 true 8], .seq (.reg [OA 2 (.alloc 31 [.slice none 0 0, .slice none 0 0, .slice none 0 0, .slice none 0 0, .slice none 0 0, .bool false, .string ⟨#[]⟩, .string ⟨#[]⟩])]) (.seq (.reg [MM 12 0, OA 13 (.build [.slice
 none 0 0] [(0, (1, TT 12))]), OA 14 (.box 145 (TT 13)), MM 3 14]) (.seq (.reg [OA 4 (.alloc 31 [.slice none 0 0, .slice none 0 0, .slice none 0 0, .slice none 0 0, .slice none 0 0, .bool false, .string ⟨#[]⟩, .string ⟨#[]⟩])])
 (.seq (.seq (.reg [MM 15 3, OA 16 (.call 80 [TT 15, II 2]), OA 17 (.bin .add (II 1) (TT 16)), OA 18 (.mv (II 0))]) (.block 0 (.loop (.seq (.reg [OA 19 (.bin .lss (TT 18) (TT 17))]) (.seq (.cond (TT 19) .skip (.exit 0)) (.seq
 (.block 1 (.seq (.reg [MM 20 18, MM 5 20]) (.F4 [.l, .l, .q, .q, .e none false, .q, .e none true, .q, .e none true] [FF 21 0 4, VV 22 21, MM 23 3, MM 24 5, OA 25 (.call 81 [TT 23, TT 24]), OA 26 (.bsl 51 12 1 [.string ⟨#[]⟩,
 .bool false, .string ⟨#[]⟩, .string ⟨#[]⟩, .bool false, .string ⟨#[]⟩, .string ⟨#[]⟩, .bool false, .bool false, .string ⟨#[]⟩, .string ⟨#[]⟩, .slice none 0 0] [(0, TT 25)]), OA 27 (.app 51 12 168 (TT 22) (TT 26)), FF 28 0 4, OB
 (.store 1 (TT 28) (TT 27))]))) (.reg [OA 29 (.bin .add (TT 18) (II 1)), MM 18 29]))))))) (.seq (.seq (.reg [MM 30 3, OA 31 (.call 80 [TT 30, II 3]), OA 32 (.mv (II 0))]) (.block 2 (.loop (.seq (.reg [OA 33 (.bin .lss (TT 32) (TT
 31))]) (.seq (.cond (TT 33) .skip (.exit 2)) (.seq (.block 3 (.seq (.reg [MM 34 3, OA 35 (.call 80 [TT 34, II 80]), OA 36 (.bin .sub (TT 35) (II 30)), MM 37 3, OA 38 (.call 80 [TT 37, II 30]), OA 39 (.bin .add (II 12) (TT 38)),
 MM 6 36, MM 7 39]) (.seq (.seq (.reg [MM 40 3, OA 41 (.call 80 [TT 40, II 2]), OA 42 (.bin .eql (TT 41) (II 1))]) (.cond (TT 42) (.reg [MM 43 7, OA 44 (.un .neg (TT 43)), OA 45 (.bin .sub (TT 44) (II 6)), MM 7 45]) .skip))
 (.F4 [.l, .l, .l, .l, .l, .l, .q, .e none false, .l, .l, .l, .l, .e none false, .q, .q, .q, .e none true, .q, .e none true] [FF 46 1 4, VV 47 46, MM 48 6, MM 49 7, MM 50 6, OA 51 (.bin .add (TT 50) (II 1)), MM 52 3, OA 53
 (.call 80 [TT 52, II 20]), OA 54 (.bin .add (TT 51) (TT 53)), MM 55 7, OA 56 (.bin .add (TT 55) (II 1)), MM 57 3, OA 58 (.call 80 [TT 57, II 5]), OA 59 (.bin .add (TT 56) (TT 58)), OA 60 (.call 82 [TT 48, TT 49, TT 54, TT 59]),
 OA 61 (.bsl 34 1 1 [.slice none 0 0] [(0, TT 60)]), OA 62 (.app 34 1 24 (TT 47) (TT 61)), FF 63 1 4, OB (.store 1 (TT 63) (TT 62))])))) (.reg [OA 64 (.bin .add (TT 32) (II 1)), MM 32 64]))))))) (.seq (.seq (.reg [MM 65 3, OA 66
 (.call 80 [TT 65, II 3]), OA 67 (.mv (II 0))]) (.block 4 (.loop (.seq (.reg [OA 68 (.bin .lss (TT 67) (TT 66))]) (.seq (.cond (TT 68) .skip (.exit 4)) (.seq (.block 5 (.seq (.reg [MM 69 67, MM 8 69]) (.F4 [.l, .l, .l, .l, .l,
 .l, .q, .e none false, .q, .q, .q, .q, .q, .q, .e none true, .q, .e none true] [FF 70 2 4, VV 71 70, OA 72 (.bsl 9 1 2 [.string ⟨#[]⟩] [(0, .const (.string ⟨#[98, 111, 108, 116]⟩)), (1, .const (.string ⟨#[110, 117, 116]⟩))]), MM
 73 8, OA 74 (.j6 1 (TT 72) (TT 73)), VV 75 74, MM 76 3, OA 77 (.call 83 [TT 76]), OA 78 (.call 84 [II 0, II 0]), OA 79 (.call 85 [II 0, II 1]), OA 80 (.build [.bool false, .bool false, .string ⟨#[]⟩, .string ⟨#[]⟩] [(1, (3,
 TT 79))]), OA 81 (.build [.bool false, .string ⟨#[]⟩, .string ⟨#[]⟩, .bool false, .string ⟨#[]⟩, .string ⟨#[]⟩, .bool false, .bool false, .string ⟨#[]⟩, .string ⟨#[]⟩] [(0, (6, TT 78)), (6, (4, TT 80))]), OA 82 (.build [.string
 ⟨#[]⟩, .slice none 0 0, .bool false, .string ⟨#[]⟩, .string ⟨#[]⟩, .bool false, .string ⟨#[]⟩, .string ⟨#[]⟩, .bool false, .bool false, .string ⟨#[]⟩, .string ⟨#[]⟩] [(0, (1, TT 75)), (1, (1, TT 77)), (2, (10, TT 81))]), OA 83
 (.bsl 65 12 1 [.string ⟨#[]⟩, .slice none 0 0, .bool false, .string ⟨#[]⟩, .string ⟨#[]⟩, .bool false, .string ⟨#[]⟩, .string ⟨#[]⟩, .bool false, .bool false, .string ⟨#[]⟩, .string ⟨#[]⟩] [(0, TT 82)]), OA 84 (.app 65 12 168
 (TT 71) (TT 83)), FF 85 2 4, OB (.store 1 (TT 85) (TT 84))]))) (.reg [OA 86 (.bin .add (TT 67) (II 1)), MM 67 86]))))))) (.seq (.seq (.F4 [.l, .l, .l, .q, .e none false, .q, .l] [FF 87 2 4, VV 88 87, OA 89 (.len false (TT
 88)), MM 90 3, OA 91 (.call 80 [TT 90, II 2]), OA 92 (.bin .add (TT 89) (TT 91)), OA 93 (.mv (II 0))]) (.block 6 (.loop (.seq (.reg [OA 94 (.bin .lss (TT 93) (TT 92))]) (.seq (.cond (TT 94) .skip (.exit 6)) (.seq (.block 7 (.seq
 (.reg [MM 95 93, MM 9 95]) (.F4 [.l, .l, .l, .l, .l, .l, .q, .e none false, .l, .l, .e none false, .q, .q, .l, .e none false, .q, .q, .l, .l, .l, .e none false, .q, .q, .q, .q, .e none true, .q, .e none true] [FF 96 3 4, VV 97
 96, OA 98 (.bsl 9 1 3 [.string ⟨#[]⟩] [(0, .const (.string ⟨#[104, 101, 114, 101]⟩)), (1, .const (.string ⟨#[116, 104, 101, 114, 101]⟩)), (2, .const (.string ⟨#[98, 101, 121, 111, 110, 100]⟩))]), MM 99 9, OA 100 (.j6 1 (TT
 98) (TT 99)), VV 101 100, MM 102 3, OA 103 (.call 80 [TT 102, II 40]), OA 104 (.bin .sub (TT 103) (II 20)), MM 105 3, OA 106 (.call 80 [TT 105, II 24]), OA 107 (.bin .sub (TT 106) (II 12)), OA 108 (.call 84 [TT 104, TT 107]), MM
 109 3, OA 110 (.call 80 [TT 109, II 5]), OA 111 (.bin .sub (TT 110) (II 2)), OA 112 (.call 85 [TT 111, II 2]), OA 113 (.build [.bool false, .bool false, .string ⟨#[]⟩, .string ⟨#[]⟩] [(1, (3, TT 112))]), OA 114 (.build [.bool
 false, .string ⟨#[]⟩, .string ⟨#[]⟩, .bool false, .string ⟨#[]⟩, .string ⟨#[]⟩, .bool false, .bool false, .string ⟨#[]⟩, .string ⟨#[]⟩] [(0, (6, TT 108)), (6, (4, TT 113))]), MM 115 3, OA 116 (.call 80 [TT 115, II 20]), OA 117
 (.bin .add (II 8) (TT 116)), OA 118 (.call 85 [II 1, TT 117]), OA 119 (.build [.string ⟨#[]⟩, .bool false, .string ⟨#[]⟩, .string ⟨#[]⟩, .bool false, .string ⟨#[]⟩, .string ⟨#[]⟩, .bool false, .bool false, .string ⟨#[]⟩, .string
 ⟨#[]⟩, .bool false, .string ⟨#[]⟩, .string ⟨#[]⟩] [(0, (1, TT 101)), (1, (10, TT 114)), (11, (3, TT 118))]), OA 120 (.bsl 86 14 1 [.string ⟨#[]⟩, .bool false, .string ⟨#[]⟩, .string ⟨#[]⟩, .bool false, .string ⟨#[]⟩, .string
 ⟨#[]⟩, .bool false, .bool false, .string ⟨#[]⟩, .string ⟨#[]⟩, .bool false, .string ⟨#[]⟩, .string ⟨#[]⟩] [(0, TT 119)]), OA 121 (.app 86 14 184 (TT 97) (TT 120)), FF 122 3 4, OB (.store 1 (TT 122) (TT 121))]))) (.reg [OA 123
 (.bin .add (TT 93) (II 1)), MM 93 123]))))))) (.seq (.seq (.reg [MM 124 3, OA 125 (.call 80 [TT 124, II 2]), OA 126 (.mv (II 0))]) (.block 8 (.loop (.seq (.reg [OA 127 (.bin .lss (TT 126) (TT 125))]) (.seq (.cond (TT 127) .skip
 (.exit 8)) (.seq (.block 9 (.seq (.reg [MM 128 3, OA 129 (.call 80 [TT 128, II 60]), OA 130 (.bin .sub (TT 129) (II 30)), MM 131 3, OA 132 (.call 80 [TT 131, II 60]), OA 133 (.bin .sub (TT 132) (II 30)), MM 10 130, MM 11 133])
 (.F4 [.l, .l, .q, .q, .q, .l, .q, .e none false, .l, .l, .l, .e none false, .q, .q, .q, .q, .q, .e none true, .q, .e none true] [FF 134 4 4, VV 135 134, MM 136 10, MM 137 11, OA 138 (.call 84 [TT 136, TT 137]), MM 139 10, MM
 140 3, OA 141 (.call 80 [TT 140, II 12]), OA 142 (.bin .add (TT 139) (TT 141)), MM 143 11, MM 144 3, OA 145 (.call 80 [TT 144, II 12]), OA 146 (.bin .add (TT 143) (TT 145)), OA 147 (.call 84 [TT 142, TT 146]), OA 148 (.build
 [.bool false, .string ⟨#[]⟩, .string ⟨#[]⟩, .bool false, .string ⟨#[]⟩, .string ⟨#[]⟩, .bool false, .string ⟨#[]⟩, .string ⟨#[]⟩, .bool false, .string ⟨#[]⟩, .string ⟨#[]⟩] [(0, (6, TT 138)), (6, (6, TT 147))]), OA 149 (.build
 [.string ⟨#[]⟩, .bool false, .string ⟨#[]⟩, .string ⟨#[]⟩, .bool false, .string ⟨#[]⟩, .string ⟨#[]⟩, .bool false, .string ⟨#[]⟩, .string ⟨#[]⟩, .bool false, .string ⟨#[]⟩, .string ⟨#[]⟩] [(0, (1, .const (.string ⟨#[100, 111,
 111, 114]⟩))), (1, (12, TT 148))]), OA 150 (.bsl 91 13 1 [.string ⟨#[]⟩, .bool false, .string ⟨#[]⟩, .string ⟨#[]⟩, .bool false, .string ⟨#[]⟩, .string ⟨#[]⟩, .bool false, .string ⟨#[]⟩, .string ⟨#[]⟩, .bool false, .string
 ⟨#[]⟩, .string ⟨#[]⟩] [(0, TT 149)]), OA 151 (.app 91 13 176 (TT 135) (TT 150)), FF 152 4 4, OB (.store 1 (TT 152) (TT 151))]))) (.reg [OA 153 (.bin .add (TT 126) (II 1)), MM 126 153]))))))) (.seq (.reg [MM 154 3, OA 155 (.call
 80 [TT 154, II 4]), OA 156 (.call 85 [TT 155, II 8]), FF 157 5 4, OB (.store 3 (TT 157) (TT 156))]) (.seq (.reg [LL 158 8 4, OB (.store 8 (TT 2) (TT 158))]) .ret)))))))))⟩
theorem a6o : D5 eff Tryz.prog Tryz.f23 = some a2p := by kernel_rfl
theorem a6n : Tryz.prog.funcs[23]? = some Tryz.f23 := Tryz.func23
def a3u : E9 := ⟨77, [.cell 4 true 12], .seq (.reg [OA 4 (.alloc 51 [.string ⟨#[]⟩, .bool false, .string ⟨#[]⟩, .string ⟨#[]⟩, .bool false, .string ⟨#[]⟩, .string ⟨#[]⟩, .bool false, .bool false, .string ⟨#[]⟩, .string ⟨#[]⟩, .slice none 0 0])])
 (.seq (.reg [OA 8 (.bsl 9 1 4 [.string ⟨#[]⟩] [(0, .const (.string ⟨#[111, 110, 101]⟩)), (1, .const (.string ⟨#[116, 119, 111]⟩)), (2, .const (.string ⟨#[116, 104, 114, 101, 101]⟩)), (3, .const (.string ⟨#[102, 111, 117,
 114]⟩))]), MM 9 1, OA 10 (.j6 1 (TT 8) (TT 9)), VV 11 10, OA 12 (.build [.string ⟨#[]⟩, .bool false, .string ⟨#[]⟩, .string ⟨#[]⟩, .bool false, .string ⟨#[]⟩, .string ⟨#[]⟩, .bool false, .bool false, .string ⟨#[]⟩, .string
 ⟨#[]⟩, .slice none 0 0] [(0, (1, TT 11))]), OA 5 (.alloc 51 [.string ⟨#[]⟩, .bool false, .string ⟨#[]⟩, .string ⟨#[]⟩, .bool false, .string ⟨#[]⟩, .string ⟨#[]⟩, .bool false, .bool false, .string ⟨#[]⟩, .string ⟨#[]⟩, .slice
 none 0 0]), OB (.store 12 (TT 5) (TT 12))]) (.seq (.F4 [.q, .q, .q, .l, .q, .e none false, .l, .l, .l, .e none false, .q, .q, .q, .q, .q, .e none true] [MM 13 1, OA 14 (.bin .mul (II 40) (TT 13)), OA 15 (.call 84 [TT 14, II
 0]), OA 16 (.bsl 3 1 4 [.int .i64 0] [(0, II 0), (1, II 1), (2, II (-1)), (3, II 1)]), MM 17 0, OA 18 (.call 80 [TT 17, II 4]), OA 19 (.j6 1 (TT 16) (TT 18)), VV 20 19, MM 21 0, OA 22 (.call 80 [TT 21, II 3]), OA 23 (.bin
 .add (II 1) (TT 22)), OA 24 (.call 85 [TT 20, TT 23]), OA 25 (.build [.bool false, .bool false, .string ⟨#[]⟩, .string ⟨#[]⟩] [(1, (3, TT 24))]), OA 26 (.build [.bool false, .string ⟨#[]⟩, .string ⟨#[]⟩, .bool false, .string
 ⟨#[]⟩, .string ⟨#[]⟩, .bool false, .bool false, .string ⟨#[]⟩, .string ⟨#[]⟩] [(0, (6, TT 15)), (6, (4, TT 25))]), FF 27 1 5, OB (.store 10 (TT 27) (TT 26))]) (.seq (.seq (.reg [MM 28 0, OA 29 (.call 80 [TT 28, II 3]), OA 30
 (.bin .add (II 1) (TT 29)), OA 31 (.mv (II 0))]) (.block 0 (.loop (.seq (.reg [OA 32 (.bin .lss (TT 31) (TT 30))]) (.seq (.cond (TT 32) .skip (.exit 0)) (.seq (.block 1 (.seq (.reg [MM 33 0, OA 34 (.call 80 [TT 33, II 4]), OA 35
 (.bin .mul (II 2) (TT 34)), OA 36 (.bin .add (II 4) (TT 35)), MM 6 36]) (.seq (.reg [MM 37 6, OA 38 (.call 85 [TT 37, II 4]), MM 39 0, OA 40 (.call 80 [TT 39, II 6]), OA 41 (.bin .sub (II (-1)) (TT 40)), OA 42 (.call 85 [TT 41,
 II 3]), MM 43 0, OA 44 (.call 80 [TT 43, II 6]), OA 45 (.bin .add (II 1) (TT 44)), OA 46 (.call 85 [TT 45, II 3]), MM 47 0, OA 48 (.call 80 [TT 47, II 8]), OA 49 (.bin .add (II 4) (TT 48)), OA 50 (.call 85 [II 1, TT 49]), MM 51
 0, OA 52 (.call 80 [TT 51, II 20]), OA 53 (.bin .add (II 10) (TT 52)), OA 54 (.call 85 [II 1, TT 53]), MM 55 6, OA 56 (.bin .add (TT 55) (II 1)), OA 57 (.call 82 [II (-1), II (-1), TT 56, II 1]), OA 58 (.build [.bool false,
 .string ⟨#[]⟩, .string ⟨#[]⟩, .bool false, .string ⟨#[]⟩, .string ⟨#[]⟩, .bool false, .string ⟨#[]⟩, .string ⟨#[]⟩, .bool false, .string ⟨#[]⟩, .string ⟨#[]⟩, .bool false, .string ⟨#[]⟩, .string ⟨#[]⟩, .slice none 0 0] [(0, (3,
 TT 38)), (3, (3, TT 42)), (6, (3, TT 46)), (9, (3, TT 50)), (12, (3, TT 54)), (15, (1, TT 57))]), OA 7 (.alloc 53 [.bool false, .string ⟨#[]⟩, .string ⟨#[]⟩, .bool false, .string ⟨#[]⟩, .string ⟨#[]⟩, .bool false, .string ⟨#[]⟩,
 .string ⟨#[]⟩, .bool false, .string ⟨#[]⟩, .string ⟨#[]⟩, .bool false, .string ⟨#[]⟩, .string ⟨#[]⟩, .slice none 0 0]), OB (.store 16 (TT 7) (TT 58))]) (.seq (.seq (.reg [MM 59 0, OA 60 (.call 80 [TT 59, II 3]), OA 61 (.bin .eql
 (TT 60) (II 2))]) (.cond (TT 61) (.reg [OA 62 (.call 84 [II (-1), II (-1)]), MM 63 6, OA 64 (.bin .add (TT 63) (II 1)), OA 65 (.call 84 [TT 64, II 0]), OA 66 (.call 84 [II (-1), II 1]), OA 67 (.bsl 44 6 3 [.bool false, .string
 ⟨#[]⟩, .string ⟨#[]⟩, .bool false, .string ⟨#[]⟩, .string ⟨#[]⟩] [(0, TT 62), (1, TT 65), (2, TT 66)]), FF 68 15 7, OB (.store 1 (TT 68) (TT 67))]) .skip)) (.reg [FF 69 11 5, VV 70 69, LL 71 16 7, OA 72 (.bsl 53 16 1 [.bool
 false, .string ⟨#[]⟩, .string ⟨#[]⟩, .bool false, .string ⟨#[]⟩, .string ⟨#[]⟩, .bool false, .string ⟨#[]⟩, .string ⟨#[]⟩, .bool false, .string ⟨#[]⟩, .string ⟨#[]⟩, .bool false, .string ⟨#[]⟩, .string ⟨#[]⟩, .slice none 0 0]
 [(0, TT 71)]), OA 73 (.app 53 16 224 (TT 70) (TT 72)), FF 74 11 5, OB (.store 1 (TT 74) (TT 73))]))))) (.reg [OA 75 (.bin .add (TT 31) (II 1)), MM 31 75]))))))) (.seq (.reg [LL 76 12 5, OB (.store 12 (TT 4) (TT 76))]) .ret))))⟩
theorem a8b : D5 eff Tryz.prog Tryz.f81 = some a3u := by kernel_rfl
theorem a7o : Tryz.prog.funcs[81]? = some Tryz.f81 := Tryz.func81
def a2S : E9 := ⟨93, [.tmp 2], .seq (.reg [OA 2 (.mv (.const (.slice none 0 0)))]) (.seq (.reg [MM 5 0, OA 6 (.call 80 [TT 5, II 6]), OA 7 (.bin .add (II 1) (TT 6)), MM 8 0, OA 9 (.call 80 [TT 8, II 6]), OA 10 (.bin .add (II 1) (TT 9)), MM 3 7,
 MM 4 10]) (.seq (.seq (.reg [MM 11 0, OA 12 (.call 80 [TT 11, II 4])]) (.block 0 (.seq (.reg [OA 14 (.bin .eql (TT 12) (II 0)), MM 13 14]) (.cond (TT 13) (.seq (.reg [MM 15 3, OA 16 (.un .neg (TT 15)), MM 17 4, OA 18 (.un .neg
 (TT 17)), OA 19 (.call 84 [TT 16, TT 18]), MM 20 3, MM 21 4, OA 22 (.un .neg (TT 21)), OA 23 (.call 84 [TT 20, TT 22]), MM 24 3, MM 25 4, OA 26 (.call 84 [TT 24, TT 25]), MM 27 3, OA 28 (.un .neg (TT 27)), MM 29 4, OA 30 (.call
 84 [TT 28, TT 29]), OA 31 (.bsl 44 6 4 [.bool false, .string ⟨#[]⟩, .string ⟨#[]⟩, .bool false, .string ⟨#[]⟩, .string ⟨#[]⟩] [(0, TT 19), (1, TT 23), (2, TT 26), (3, TT 30)]), MM 2 31]) .ret) (.seq (.reg [OA 33 (.bin .eql (TT
 12) (II 1)), MM 32 33]) (.cond (TT 32) (.seq (.reg [MM 34 3, OA 35 (.un .neg (TT 34)), MM 36 4, OA 37 (.un .neg (TT 36)), OA 38 (.call 84 [TT 35, TT 37]), MM 39 3, MM 40 4, OA 41 (.un .neg (TT 40)), OA 42 (.call 84 [TT 39, TT
 41]), MM 43 0, MM 44 3, OA 45 (.bin .mul (II 2) (TT 44)), OA 46 (.bin .add (TT 45) (II 1)), OA 47 (.call 80 [TT 43, TT 46]), MM 48 3, OA 49 (.bin .sub (TT 47) (TT 48)), MM 50 4, OA 51 (.call 84 [TT 49, TT 50]), OA 52 (.bsl 44 6
 3 [.bool false, .string ⟨#[]⟩, .string ⟨#[]⟩, .bool false, .string ⟨#[]⟩, .string ⟨#[]⟩] [(0, TT 38), (1, TT 42), (2, TT 51)]), MM 2 52]) .ret) (.seq (.reg [OA 54 (.bin .eql (TT 12) (II 2)), MM 53 54]) (.cond (TT 53) (.seq (.reg
 [MM 55 3, OA 56 (.un .neg (TT 55)), OA 57 (.bin .sub (TT 56) (II 1)), MM 58 4, OA 59 (.un .neg (TT 58)), OA 60 (.bin .sub (TT 59) (II 1)), OA 61 (.call 84 [TT 57, TT 60]), MM 62 3, MM 63 4, OA 64 (.un .neg (TT 63)), OA 65 (.bin
 .sub (TT 64) (II 1)), OA 66 (.call 84 [TT 62, TT 65]), MM 67 3, OA 68 (.bin .add (TT 67) (II 1)), MM 69 4, OA 70 (.un .neg (TT 69)), OA 71 (.call 84 [TT 68, TT 70]), MM 72 3, OA 73 (.bin .add (TT 72) (II 1)), MM 74 4, OA 75
 (.call 84 [TT 73, TT 74]), MM 76 3, OA 77 (.un .neg (TT 76)), OA 78 (.bin .sub (TT 77) (II 1)), MM 79 4, OA 80 (.call 84 [TT 78, TT 79]), OA 81 (.bsl 44 6 5 [.bool false, .string ⟨#[]⟩, .string ⟨#[]⟩, .bool false, .string ⟨#[]⟩,
 .string ⟨#[]⟩] [(0, TT 61), (1, TT 66), (2, TT 71), (3, TT 75), (4, TT 80)]), MM 2 81]) .ret) .skip)))))))) (.seq (.reg [MM 82 3, OA 83 (.un .neg (TT 82)), OA 84 (.call 84 [TT 83, II 0]), MM 85 4, OA 86 (.un .neg (TT 85)), OA 87
 (.call 84 [II 0, TT 86]), MM 88 3, OA 89 (.call 84 [TT 88, II 0]), MM 90 4, OA 91 (.call 84 [II 0, TT 90]), OA 92 (.bsl 44 6 4 [.bool false, .string ⟨#[]⟩, .string ⟨#[]⟩, .bool false, .string ⟨#[]⟩, .string ⟨#[]⟩] [(0, TT 84),
 (1, TT 87), (2, TT 89), (3, TT 91)]), MM 2 92]) .ret)))⟩
theorem a7b : D5 eff Tryz.prog Tryz.f83 = some a2S := by kernel_rfl
theorem a6V : Tryz.prog.funcs[83]? = some Tryz.f83 := Tryz.func83
def a3O : E9 := ⟨34, [.cell 4 true 3], .seq (.reg [OA 4 (.alloc 29 [.bool false, .string ⟨#[]⟩, .string ⟨#[]⟩])]) (.seq (.reg [MM 7 0, MM 8 0, OA 9 (.un .neg (TT 8)), OA 10 (.max (TT 7) (TT 9)), MM 11 1, MM 5 10, MM 6 11]) (.seq (.block 0 (.loop
 (.seq (.seq (.reg [MM 12 6, OA 13 (.bin .gtr (TT 12) (II 0))]) (.cond (TT 13) .skip (.exit 0))) (.block 1 (.F4 [.q, .q, .q, .q, .q, .q] [MM 14 6, MM 15 5, MM 16 6, OA 17 (.bin .rem (TT 15) (TT 16)), MM 5 14, MM 6 17])))))
 (.seq (.F4 [.q, .q, .q, .q, .q, .q, .q, .q] [MM 18 0, MM 19 5, OA 20 (.bin .quo (TT 18) (TT 19)), MM 21 1, MM 22 5, OA 23 (.bin .quo (TT 21) (TT 22)), MM 0 20, MM 1 23]) (.seq (.reg [MM 24 0, OA 25 (.bin .lss (TT 24) (II 0)),
 MM 26 0, MM 27 0, OA 28 (.un .neg (TT 27)), OA 29 (.max (TT 26) (TT 28)), OA 30 (.call 131 [TT 29]), MM 31 1, OA 32 (.call 131 [TT 31]), OA 33 (.build [.bool false, .string ⟨#[]⟩, .string ⟨#[]⟩] [(0, (1, TT 25)), (1, (1, TT
 30)), (2, (1, TT 32))]), OB (.store 3 (TT 4) (TT 33))]) .ret))))⟩
theorem a8F : D5 eff Tryz.prog Tryz.f85 = some a3O := by kernel_rfl
theorem a8E : Tryz.prog.funcs[85]? = some Tryz.f85 := Tryz.func85
def a1Z : E9 := ⟨48, [.cell 2 true 8, .cell 3 true 5, .tmp 4], .seq (.reg [OA 2 (.alloc 31 [.slice none 0 0, .slice none 0 0, .slice none 0 0, .slice none 0 0, .slice none 0 0, .bool false, .string ⟨#[]⟩, .string ⟨#[]⟩]), OA 3 (.alloc 37 [.int
 .i64 0, .slice none 0 0, .slice none 0 0, .slice none 0 0, .slice none 0 0]), OA 4 (.mv (.const (.bool false)))]) (.seq (.reg [MM 8 0, OA 9 (.call 23 [TT 8]), OA 5 (.alloc 31 [.slice none 0 0, .slice none 0 0, .slice none 0 0,
 .slice none 0 0, .slice none 0 0, .bool false, .string ⟨#[]⟩, .string ⟨#[]⟩]), OB (.store 8 (TT 5) (TT 9))]) (.seq (.reg [LL 11 8 5, OA 12 (.call 24 [TT 11]), MM 10 12, OA 13 (.ext (TT 10) 0), OA 14 (.ext (TT 10) 1), OA 6
 (.alloc 37 [.int .i64 0, .slice none 0 0, .slice none 0 0, .slice none 0 0, .slice none 0 0]), OB (.store 5 (TT 6) (TT 13)), MM 7 14]) (.seq (.F4 [.q, .l, .q, .q, .q, .q, .q, .q, .q, .q, .q, .q, .q, .q, .q, .q, .q, .q, .q, .q,
 .q, .q, .q, .q, .q, .q, .q, .q, .q, .q, .q, .l, .l, .e none false, .e none false, .q] [LL 15 8 5, LL 16 5 6, MM 17 7, OA 18 (.bin .eql (TT 17) (II 0)), MM 19 18, FG 20 1 6 19 true, VG 21 20 19 true, OC 22 (.len false (TT 21)) 19
 true, FG 23 0 5 19 true, VG 24 23 19 true, OC 25 (.len false (TT 24)) 19 true, OC 26 (.bin .eql (TT 22) (TT 25)) 19 true, OA 27 (.pick (TT 19) (TT 26) (.const (.bool false))), MM 28 27, FG 29 2 6 28 true, VG 30 29 28 true, OC 31
 (.len false (TT 30)) 28 true, FG 32 2 5 28 true, VG 33 32 28 true, OC 34 (.len false (TT 33)) 28 true, OC 35 (.bin .eql (TT 31) (TT 34)) 28 true, OA 36 (.pick (TT 28) (TT 35) (.const (.bool false))), MM 37 36, LG 38 8 5 37 true,
 LG 39 5 6 37 true, OC 40 (.call 9 [TT 38, TT 39]) 37 true, OC 41 (.bin .eql (TT 40) (II 0)) 37 true, OA 42 (.pick (TT 37) (TT 41) (.const (.bool false))), MM 43 42, OC 44 (.build [.slice none 0 0, .slice none 0 0, .slice none 0
 0, .slice none 0 0, .slice none 0 0, .bool false, .string ⟨#[]⟩, .string ⟨#[]⟩] []) 43 true, OC 45 (.call 8 [TT 44]) 43 true, OC 46 (.bin .eql (TT 45) (II 4)) 43 true, OA 47 (.pick (TT 43) (TT 46) (.const (.bool false))), OB
 (.store 8 (TT 2) (TT 15)), OB (.store 5 (TT 3) (TT 16)), MM 4 47]) .ret)))⟩
theorem a5o : D5 eff Tryz.prog Tryz.f6 = some a1Z := by kernel_rfl
theorem a5M : Tryz.prog.funcs[6]? = some Tryz.f6 := Tryz.func6
def R3 (b : UInt8) : Bool := decide (97 <= b.toNat) && decide (b.toNat <= 122)
theorem a9C {s : List UInt8} {i : Nat} (hi : i < s.length) (h : R3 s[i] = false) : a0y s = false := by
 unfold a0y
 have : (s.all fun b => decide (97 <= b.toNat) && decide (b.toNat <= 122)) = false := by
  rw [List.all_eq_false]
  exact ⟨s[i], b9S hi, by unfold R3 at h; rw [h]; decide⟩
 rw [this]
 rfl
theorem b0R {s : List UInt8} (h : ∀ j (h : j < s.length), R3 s[j] = true) : a0y s = (decide (1 <= s.length) && decide (s.length <= 12)) := by
 unfold a0y
 have : (s.all fun b => decide (97 <= b.toNat) && decide (b.toNat <= 122)) = true := by
  rw [List.all_eq_true]
  intro x hx
  obtain ⟨j, hj, rfl⟩ := List.mem_iff_getElem.1 hx
  exact h j hj
 rw [this, Bool.true_and]
theorem b6B (s : List UInt8) (hs : s.length <= 1099511627776) : F3 Tryz.prog 87 [sb s] (.v (.bool (a0y s))) := by
  refine kS a9N a9Y (by rfl) fun w O => ?_
  simp only [a4J, l9, TT, II, OA, OB, OC, MM, LL, VV, FF, MG, LG, VG, FG, sb]
  (repeat first | refine uA ?_ | (refine uK ?_ ?_; focus first | omega | (intros; simp_all <;> omega)) | simp (disch := omega) only [go_sem, Nat.reduceBEq, Nat.reduceAdd, ww, D6])
  refine S.loop (X := Nat) (fun i => ⟨[(0, sb s), (5, ints s.length), (6, ints i)], []⟩) (fun i => i <= s.length /\ ∀ j (h : j < s.length), j < i -> R3 s[j] = true) (fun i => s.length - i) 0 ⟨b9M _, fun _ _ h => absurd h (Nat.not_lt_zero _)⟩ (by (repeat first | refine uA ?_ | (refine ⟨?_, ?_⟩; focus first | rfl | simp [slot]) | rfl | simp)) ?_
  rintro i ⟨hi, hg⟩
  simp only [sb, ints]
  (repeat first | refine uA ?_ | (refine uK ?_ ?_; focus first | omega | (intros; simp_all <;> omega)) | simp (disch := omega) only [go_sem, Nat.reduceBEq, Nat.reduceAdd, ww])
  (refine uJ rfl (fun hc => ?_) fun hc => ?_)
  · have hi' : i < s.length := by omega
    have hgi : s.getD i 0 = s[i] := by rw [b9Q, b9I hi']; rfl
    (repeat first | refine uA ?_ | (refine uK ?_ ?_; focus first | omega | (intros; simp_all <;> omega)) | simp (disch := omega) only [go_sem, Nat.reduceBEq, Nat.reduceAdd, ww, D6, N7, hgi, b9R])
    refine S.cond rfl (fun hc => ?_) (fun hc => ?_)
    · have hl : R3 s[i] = false := by
        unfold R3
        simp only [c0A, b9U] at hc
        rw [Bool.and_eq_false_iff, c0c, c0c]
        omega
      rw [a9C hi' hl]
      (repeat first | refine uA ?_ | (refine uK ?_ ?_; focus first | omega | (intros; simp_all <;> omega)) | simp (disch := omega) only [go_sem, Nat.reduceBEq, Nat.reduceAdd, ww])
      exact S.done (d9.out rfl (Imp.refl rfl) rfl)
    · have hl : R3 s[i] = true := by
        unfold R3
        simp only [c0u, c0c] at hc
        rw [b9N, b9U, b9U]
        omega
      (repeat first | refine uA ?_ | (refine uK ?_ ?_; focus first | omega | (intros; simp_all <;> omega)) | simp (disch := omega) only [go_sem, Nat.reduceBEq, Nat.reduceAdd, ww])
      refine S.next (i + 1) ⟨by omega, fun j h hj => ?_⟩ (by omega) (by (repeat first | refine uA ?_ | (refine ⟨?_, ?_⟩; focus first | rfl | simp [slot]) | rfl | simp))
      rcases c0j j i with h1 | h1
      · exact hg j h h1
      · have : j = i := by omega
        subst this
        exact hl
  · have hi' : i = s.length := by omega
    subst hi'
    have e1 : decide ((1 : Int) <= (s.length : Int)) = decide (1 <= s.length) := decide_eq_decide.2 (by omega)
    have e2 : decide ((s.length : Int) <= 12) = decide (s.length <= 12) := decide_eq_decide.2 (by omega)
    rw [b0R fun j h => hg j h h]
    (repeat first | refine uA ?_ | (refine uK ?_ ?_; focus first | omega | (intros; simp_all <;> omega)) | simp (disch := omega) only [go_sem, Nat.reduceBEq, Nat.reduceAdd, ww, D6, e1, e2])
    (try simp only [e1, e2, go_sem])
    exact S.done (d9.out rfl (Imp.refl rfl) rfl)
theorem b7K (s : List UInt8) (hs : s.length <= 1099511627776) : F3 Tryz.prog 90 [sb s] (.v (.bool (a0y s))) := by
  refine kS b0a b0c (by rfl) fun w O => ?_
  simp only [a4N, l9, TT, II, OA, OB, OC, MM, LL, VV, FF, MG, LG, VG, FG, sb]
  (repeat first | refine uA ?_ | (refine uK ?_ ?_; focus first | omega | (intros; simp_all <;> omega)) | simp (disch := omega) only [go_sem, Nat.reduceBEq, Nat.reduceAdd, ww, D6])
  refine S.loop (X := Nat) (fun i => ⟨[(0, sb s), (5, ints s.length), (6, ints i)], []⟩) (fun i => i <= s.length /\ ∀ j (h : j < s.length), j < i -> R3 s[j] = true) (fun i => s.length - i) 0 ⟨b9M _, fun _ _ h => absurd h (Nat.not_lt_zero _)⟩ (by (repeat first | refine uA ?_ | (refine ⟨?_, ?_⟩; focus first | rfl | simp [slot]) | rfl | simp)) ?_
  rintro i ⟨hi, hg⟩
  simp only [sb, ints]
  (repeat first | refine uA ?_ | (refine uK ?_ ?_; focus first | omega | (intros; simp_all <;> omega)) | simp (disch := omega) only [go_sem, Nat.reduceBEq, Nat.reduceAdd, ww])
  (refine uJ rfl (fun hc => ?_) fun hc => ?_)
  · have hi' : i < s.length := by omega
    have hgi : s.getD i 0 = s[i] := by rw [b9Q, b9I hi']; rfl
    (repeat first | refine uA ?_ | (refine uK ?_ ?_; focus first | omega | (intros; simp_all <;> omega)) | simp (disch := omega) only [go_sem, Nat.reduceBEq, Nat.reduceAdd, ww, D6, N7, hgi, b9R])
    refine S.cond rfl (fun hc => ?_) (fun hc => ?_)
    · have hl : R3 s[i] = false := by
        unfold R3
        simp only [c0A, b9U] at hc
        rw [Bool.and_eq_false_iff, c0c, c0c]
        omega
      rw [a9C hi' hl]
      (repeat first | refine uA ?_ | (refine uK ?_ ?_; focus first | omega | (intros; simp_all <;> omega)) | simp (disch := omega) only [go_sem, Nat.reduceBEq, Nat.reduceAdd, ww])
      exact S.done (d9.out rfl (Imp.refl rfl) rfl)
    · have hl : R3 s[i] = true := by
        unfold R3
        simp only [c0u, c0c] at hc
        rw [b9N, b9U, b9U]
        omega
      (repeat first | refine uA ?_ | (refine uK ?_ ?_; focus first | omega | (intros; simp_all <;> omega)) | simp (disch := omega) only [go_sem, Nat.reduceBEq, Nat.reduceAdd, ww])
      refine S.next (i + 1) ⟨by omega, fun j h hj => ?_⟩ (by omega) (by (repeat first | refine uA ?_ | (refine ⟨?_, ?_⟩; focus first | rfl | simp [slot]) | rfl | simp))
      rcases c0j j i with h1 | h1
      · exact hg j h h1
      · have : j = i := by omega
        subst this
        exact hl
  · have hi' : i = s.length := by omega
    subst hi'
    have e1 : decide ((1 : Int) <= (s.length : Int)) = decide (1 <= s.length) := decide_eq_decide.2 (by omega)
    have e2 : decide ((s.length : Int) <= 12) = decide (s.length <= 12) := decide_eq_decide.2 (by omega)
    rw [b0R fun j h => hg j h h]
    (repeat first | refine uA ?_ | (refine uK ?_ ?_; focus first | omega | (intros; simp_all <;> omega)) | simp (disch := omega) only [go_sem, Nat.reduceBEq, Nat.reduceAdd, ww, D6, e1, e2])
    (try simp only [e1, e2, go_sem])
    exact S.done (d9.out rfl (Imp.refl rfl) rfl)
theorem a6X (l : List Nm.Rt) (hl : Rbs 17179869184 l) : FZ 88 [rts l] (.v (.bool (l.all p8))) := by
  refine kW Tryz.func88 (by cbv) (by rfl) fun w O hw => ?_
  obtain ⟨hn, hb⟩ := hl
  simp only [l9, rts]
  (repeat first | refine uA ?_ | (refine uK ?_ ?_; focus first | omega | (intros; simp_all <;> omega)) | simp (disch := omega) only [go_sem, Nat.reduceBEq, Nat.reduceAdd, ww, b9K])
  refine S.loop (X := Nat) (fun i => ⟨[(5, rts l), (6, ints l.length), (7, ints i)], []⟩) (fun i => i <= l.length /\ l.all p8 = (l.drop i).all p8) (fun i => l.length - i) 0 ⟨b9M _, rfl⟩ (by (repeat first | refine uA ?_ | (refine ⟨?_, ?_⟩; focus first | rfl | simp [slot]) | rfl | simp)) ?_
  rintro i ⟨hi, hg⟩
  simp only [rts, ints]
  (repeat first | refine uA ?_ | (refine uK ?_ ?_; focus first | omega | (intros; simp_all <;> omega)) | simp (disch := omega) only [go_sem, Nat.reduceBEq, Nat.reduceAdd, ww])
  (refine uJ rfl (fun hc => ?_) fun hc => ?_)
  · have hi' : i < l.length := by omega
    have hgi := b9I hi'
    generalize l[i] = x at hgi
    have hd := drop_at hgi
    have hs := a2E x (hb x (b9W hgi))
    simp only [rc] at hs
    simp only [sb] at hs
    (repeat first | refine uA ?_ | (refine uK ?_ ?_; focus first | omega | (intros; simp_all <;> omega)) | simp (disch := omega) only [go_sem, Nat.reduceBEq, Nat.reduceAdd, ww, hgi, b9J, b9K, rcs, sb] | (refine uD hs ?_ ?_ ?_; exact tz hw; exact rfl))
    refine S.cond rfl (fun hc => ?_) (fun hc => ?_)
    · have : l.all p8 = false := by
        rw [hg, hd, List.all_cons]
        simp only [Bool.not_eq_true'] at hc
        rw [hc]; rfl
      rw [this]
      (repeat first | refine uA ?_ | (refine uK ?_ ?_; focus first | omega | (intros; simp_all <;> omega)) | simp (disch := omega) only [go_sem, Nat.reduceBEq, Nat.reduceAdd, ww])
      exact S.done (d9.out rfl (Imp.refl rfl) rfl)
    · (repeat first | refine uA ?_ | (refine uK ?_ ?_; focus first | omega | (intros; simp_all <;> omega)) | simp (disch := omega) only [go_sem, Nat.reduceBEq, Nat.reduceAdd, ww])
      refine S.next (i + 1) ⟨by omega, ?_⟩ (by omega) (by (repeat first | refine uA ?_ | (refine ⟨?_, ?_⟩; focus first | rfl | simp [slot]) | rfl | simp))
      rw [hg, hd, List.all_cons]
      simp only [Bool.not_eq_false'] at hc
      rw [hc]; rfl
  · have : l.all p8 = true := by rw [hg, List.drop_eq_nil_of_le (by omega)]; rfl
    rw [this]
    (repeat first | refine uA ?_ | (refine uK ?_ ?_; focus first | omega | (intros; simp_all <;> omega)) | simp (disch := omega) only [go_sem, Nat.reduceBEq, Nat.reduceAdd, ww])
    exact S.done (d9.out rfl (Imp.refl rfl) rfl)
namespace Eng
def frS (fr : List (Nat × C)) : List (Nat × C) -> Prop
 | [] => True
 | (t, s) :: r => (s = .junk \/ slot fr t = s) /\ frS fr r
theorem b1R {fr : List (Nat × C)} : ∀ {fr' : List (Nat × C)}, frS fr fr' -> ∀ t, slot fr' t = .junk \/ slot fr t = slot fr' t
 | [], _, t => .inl rfl
 | (u, s) :: r, h, t => by
  simp only [slot]
  cases hb : (u == t) with
  | true =>
   have : u = t := by simpa using hb
   subst this
   exact h.1
  | false => exact b1R h.2 t
theorem Ent.fr {E : Ctx} {fr fr' : List (Nat × C)} {rs rs' : List Res} (h : rs = rs') (hf : frS fr fr') : Ent E ⟨fr, rs⟩ ⟨fr', rs'⟩ := by
 subst h
 intro wf ν a w hG
 refine ⟨ν, hG.dfr, hG.size, fun t => ?_, hG.rg, hG.frm, hG.nu⟩
 rcases b1R hf t with e | e
 ·rw [e]; simp only [Den]
 ·rw [<- e]; exact hG.fr t
end Eng
def a2m {α : Type} (p : α -> Bool) (l : List α) : Int := match l.findIdx? p with | some i => i | none => -1
theorem a7g {α : Type} {p : α -> Bool} {l : List α} {i : Nat} {x : α} (h : l[i]? = some x) (hp : p x = true) (hm : ∀ j, j < i -> ∀ y, l[j]? = some y -> p y = false) : a2m p l = i := by
 obtain ⟨hi, rfl⟩ := b9O.1 h
 have : l.findIdx? p = some i := by
  rw [List.findIdx?_eq_some_iff_getElem]
  refine ⟨hi, hp, fun j hj => ?_⟩
  simp [hm j hj l[j] (b9I _)]
 unfold a2m
 rw [this]
theorem a5O {α : Type} {p : α -> Bool} {l : List α} (hm : ∀ j, j < l.length -> ∀ y, l[j]? = some y -> p y = false) : a2m p l = -1 := by
 have : l.findIdx? p = none := by
  rw [List.findIdx?_eq_none_iff]
  intro x hx
  obtain ⟨j, hj⟩ := List.mem_iff_getElem?.1 hx
  exact hm j (b9O.1 hj).1 x hj
 unfold a2m
 rw [this]
theorem a7e {α : Type} (p : α -> Bool) (l : List α) : decide (0 <= a2m p l) = l.any p := by
 unfold a2m
 cases h : l.findIdx? p with
 | none =>
  rw [List.findIdx?_eq_none_iff] at h
  have : l.any p = false := by rw [List.any_eq_false]; intro x hx; simp [h x hx]
  rw [this]; rfl
 | some i =>
  rw [List.findIdx?_eq_some_iff_getElem] at h
  obtain ⟨h1, h2, _⟩ := h
  have : l.any p = true := by rw [List.any_eq_true]; exact ⟨_, b9S h1, h2⟩
  rw [this]
  exact decide_eq_true (show (0 : Int) <= (i : Int) by omega)
theorem b6k (g : Nat) (hcal : callable Tryz.prog g = true) (p : Vt -> Bool) (l : List Vt) (hn : l.length <= 1099511627776) (hg : ∀ x ∈ l, FZ g [x.c] (.v (.bool (p x)))) :
  FZ 98 [vts l, .v (.func (.func g) #[] #[])] (ints (a2m p l)) := by
 refine kW Tryz.func98 (by cbv) (by rfl) fun w O hw => ?_
 simp only [l9, vts]
 (repeat first | refine uA ?_ | (refine uK ?_ ?_; focus first | omega | (intros; simp_all <;> omega)) | simp (disch := omega) only [go_sem, Nat.reduceBEq, Nat.reduceAdd, ww, b9K])
 refine S.loop (X := Nat) (fun i => ⟨[(0, vts l), (1, .v (.func (.func g) #[] #[])), (7, ints l.length), (8, ints i)], []⟩) (fun i => i <= l.length /\ ∀ j, j < i -> ∀ x, l[j]? = some x -> p x = false) (fun i => l.length - i) 0 ⟨b9M _, fun _ h => absurd h (Nat.not_lt_zero _)⟩ (by (repeat first | refine uA ?_ | (refine ⟨?_, ?_⟩; focus first | rfl | simp [slot]) | rfl | simp)) ?_
 rintro i ⟨hi, hm⟩
 simp only [vts, ints]
 (repeat first | refine uA ?_ | (refine uK ?_ ?_; focus first | omega | (intros; simp_all <;> omega)) | simp (disch := omega) only [go_sem, Nat.reduceBEq, Nat.reduceAdd, ww])
 (refine uJ rfl (fun hc => ?_) fun hc => ?_)
 ·have hi' : i < l.length := by omega
  have hgi := b9I hi'
  generalize l[i] = x at hgi
  have hs := hg x (b9W hgi)
  simp only [Vt.c, Vt.enc, sb] at hs
  (repeat first | refine uA ?_ | (refine uK ?_ ?_; focus first | omega | (intros; simp_all <;> omega)) | simp (disch := omega) only [go_sem, Nat.reduceBEq, Nat.reduceAdd, ww, hgi, b9J, b9K, Vt.c, Vt.enc, sb, b9R, hcal] | (refine uD hs ?_ ?_ ?_; exact tz hw; exact rfl))
  refine S.cond rfl (fun hc2 => ?_) (fun hc2 => ?_)
  ·rw [a7g hgi hc2 hm]
   (repeat first | refine uA ?_ | (refine uK ?_ ?_; focus first | omega | (intros; simp_all <;> omega)) | simp (disch := omega) only [go_sem, Nat.reduceBEq, Nat.reduceAdd, ww])
   exact S.done (d9.out rfl (Imp.refl rfl) rfl)
  ·(repeat first | refine uA ?_ | (refine uK ?_ ?_; focus first | omega | (intros; simp_all <;> omega)) | simp (disch := omega) only [go_sem, Nat.reduceBEq, Nat.reduceAdd, ww])
   refine S.next (i + 1) ⟨by omega, fun j hj y hy => ?_⟩ (by omega) (by (repeat first | refine uA ?_ | (refine ⟨?_, ?_⟩; focus first | rfl | simp [slot]) | rfl | simp))
   rcases c0j j i with h1 | h1
   ·exact hm j h1 y hy
   ·have : j = i := by omega
    subst this
    rw [hgi] at hy
    cases hy
    exact hc2
 ·have hi' : i = l.length := by omega
  subst hi'
  rw [a5O hm]
  (repeat first | refine uA ?_ | (refine uK ?_ ?_; focus first | omega | (intros; simp_all <;> omega)) | simp (disch := omega) only [go_sem, Nat.reduceBEq, Nat.reduceAdd, ww])
  exact S.done (d9.out rfl (Imp.refl rfl) rfl)
theorem b1q (g : Nat) (hcal : callable Tryz.prog g = true) (p : Vt -> Bool) (l : List Vt) (hn : l.length <= 1099511627776) (hg : ∀ x ∈ l, FZ g [x.c] (.v (.bool (p x)))) :
  FZ 47 [vts l, .v (.func (.func g) #[] #[])] (.v (.bool (l.any p))) := by
 refine kW Tryz.func47 (by cbv) (by rfl) fun w O hw => ?_
 have h := b6k g hcal p l hn hg
 have e := a7e p l
 generalize a2m p l = n at *
 simp only [l9]
 simp only [vts, ints] at *
 (repeat first | refine uA ?_ | (refine uK ?_ ?_; focus first | omega | (intros; simp_all <;> omega)) | simp (disch := omega) only [go_sem, Nat.reduceBEq, Nat.reduceAdd, ww] | (refine uD h ?_ ?_ ?_; exact tz hw; exact rfl))
 rw [e]
 exact S.done (d9.out rfl (Imp.refl rfl) rfl)
theorem b6i (g : Nat) (hcal : callable Tryz.prog g = true) (p : Nm.Rt -> Bool) (l : List Nm.Rt) (hn : l.length <= 1099511627776) (hg : ∀ x ∈ l, FZ g [rc x] (.v (.bool (p x)))) :
  FZ 116 [rts l, .v (.func (.func g) #[] #[])] (ints (a2m p l)) := by
 refine kW Tryz.func116 (by cbv) (by rfl) fun w O hw => ?_
 simp only [l9, rts]
 (repeat first | refine uA ?_ | (refine uK ?_ ?_; focus first | omega | (intros; simp_all <;> omega)) | simp (disch := omega) only [go_sem, Nat.reduceBEq, Nat.reduceAdd, ww, b9K])
 refine S.loop (X := Nat) (fun i => ⟨[(0, rts l), (1, .v (.func (.func g) #[] #[])), (7, ints l.length), (8, ints i)], []⟩) (fun i => i <= l.length /\ ∀ j, j < i -> ∀ x, l[j]? = some x -> p x = false) (fun i => l.length - i) 0 ⟨b9M _, fun _ h => absurd h (Nat.not_lt_zero _)⟩ (by (repeat first | refine uA ?_ | (refine ⟨?_, ?_⟩; focus first | rfl | simp [slot]) | rfl | simp)) ?_
 rintro i ⟨hi, hm⟩
 simp only [rts, ints]
 (repeat first | refine uA ?_ | (refine uK ?_ ?_; focus first | omega | (intros; simp_all <;> omega)) | simp (disch := omega) only [go_sem, Nat.reduceBEq, Nat.reduceAdd, ww])
 (refine uJ rfl (fun hc => ?_) fun hc => ?_)
 ·have hi' : i < l.length := by omega
  have hgi := b9I hi'
  generalize l[i] = x at hgi
  have hs := hg x (b9W hgi)
  simp only [rc, rcs, sb] at hs
  (repeat first | refine uA ?_ | (refine uK ?_ ?_; focus first | omega | (intros; simp_all <;> omega)) | simp (disch := omega) only [go_sem, Nat.reduceBEq, Nat.reduceAdd, ww, hgi, b9J, b9K, rc, rcs, sb, b9R, hcal] | (refine uD hs ?_ ?_ ?_; exact tz hw; exact rfl))
  refine S.cond rfl (fun hc2 => ?_) (fun hc2 => ?_)
  ·rw [a7g hgi hc2 hm]
   (repeat first | refine uA ?_ | (refine uK ?_ ?_; focus first | omega | (intros; simp_all <;> omega)) | simp (disch := omega) only [go_sem, Nat.reduceBEq, Nat.reduceAdd, ww])
   exact S.done (d9.out rfl (Imp.refl rfl) rfl)
  ·(repeat first | refine uA ?_ | (refine uK ?_ ?_; focus first | omega | (intros; simp_all <;> omega)) | simp (disch := omega) only [go_sem, Nat.reduceBEq, Nat.reduceAdd, ww])
   refine S.next (i + 1) ⟨by omega, fun j hj y hy => ?_⟩ (by omega) (by (repeat first | refine uA ?_ | (refine ⟨?_, ?_⟩; focus first | rfl | simp [slot]) | rfl | simp))
   rcases c0j j i with h1 | h1
   ·exact hm j h1 y hy
   ·have : j = i := by omega
    subst this
    rw [hgi] at hy
    cases hy
    exact hc2
 ·have hi' : i = l.length := by omega
  subst hi'
  rw [a5O hm]
  (repeat first | refine uA ?_ | (refine uK ?_ ?_; focus first | omega | (intros; simp_all <;> omega)) | simp (disch := omega) only [go_sem, Nat.reduceBEq, Nat.reduceAdd, ww])
  exact S.done (d9.out rfl (Imp.refl rfl) rfl)
theorem b5Q (g : Nat) (hcal : callable Tryz.prog g = true) (p : Nm.Rt -> Bool) (l : List Nm.Rt) (hn : l.length <= 1099511627776) (hg : ∀ x ∈ l, FZ g [rc x] (.v (.bool (p x)))) :
  FZ 70 [rts l, .v (.func (.func g) #[] #[])] (.v (.bool (l.any p))) := by
 refine kW Tryz.func70 (by cbv) (by rfl) fun w O hw => ?_
 have h := b6i g hcal p l hn hg
 have e := a7e p l
 generalize a2m p l = n at *
 simp only [l9]
 simp only [rts, ints] at *
 (repeat first | refine uA ?_ | (refine uK ?_ ?_; focus first | omega | (intros; simp_all <;> omega)) | simp (disch := omega) only [go_sem, Nat.reduceBEq, Nat.reduceAdd, ww] | (refine uD h ?_ ?_ ?_; exact tz hw; exact rfl))
 rw [e]
 exact S.done (d9.out rfl (Imp.refl rfl) rfl)
theorem b4o (g : Nat) (hcal : callable Tryz.prog g = true) (p : Fr -> Bool) (l : List Fr) (hn : l.length <= 1099511627776) (hg : ∀ x ∈ l, FZ g [x.c] (.v (.bool (p x)))) :
  FZ 97 [frs l, .v (.func (.func g) #[] #[])] (ints (a2m p l)) := by
 refine kW Tryz.func97 (by cbv) (by rfl) fun w O hw => ?_
 simp only [l9, frs]
 (repeat first | refine uA ?_ | (refine uK ?_ ?_; focus first | omega | (intros; simp_all <;> omega)) | simp (disch := omega) only [go_sem, Nat.reduceBEq, Nat.reduceAdd, ww, b9K])
 refine S.loop (X := Nat) (fun i => ⟨[(0, frs l), (1, .v (.func (.func g) #[] #[])), (7, ints l.length), (8, ints i)], []⟩) (fun i => i <= l.length /\ ∀ j, j < i -> ∀ x, l[j]? = some x -> p x = false) (fun i => l.length - i) 0 ⟨b9M _, fun _ h => absurd h (Nat.not_lt_zero _)⟩ (by (repeat first | refine uA ?_ | (refine ⟨?_, ?_⟩; focus first | rfl | simp [slot]) | rfl | simp)) ?_
 rintro i ⟨hi, hm⟩
 simp only [frs, ints]
 (repeat first | refine uA ?_ | (refine uK ?_ ?_; focus first | omega | (intros; simp_all <;> omega)) | simp (disch := omega) only [go_sem, Nat.reduceBEq, Nat.reduceAdd, ww])
 (refine uJ rfl (fun hc => ?_) fun hc => ?_)
 ·have hi' : i < l.length := by omega
  have hgi := b9I hi'
  generalize l[i] = x at hgi
  have hs := hg x (b9W hgi)
  simp only [Fr.c, Fr.enc, sb] at hs
  (repeat first | refine uA ?_ | (refine uK ?_ ?_; focus first | omega | (intros; simp_all <;> omega)) | simp (disch := omega) only [go_sem, Nat.reduceBEq, Nat.reduceAdd, ww, hgi, b9J, b9K, Fr.c, Fr.enc, sb, b9R, hcal] | (refine uD hs ?_ ?_ ?_; exact tz hw; exact rfl))
  refine S.cond rfl (fun hc2 => ?_) (fun hc2 => ?_)
  ·rw [a7g hgi hc2 hm]
   (repeat first | refine uA ?_ | (refine uK ?_ ?_; focus first | omega | (intros; simp_all <;> omega)) | simp (disch := omega) only [go_sem, Nat.reduceBEq, Nat.reduceAdd, ww])
   exact S.done (d9.out rfl (Imp.refl rfl) rfl)
  ·(repeat first | refine uA ?_ | (refine uK ?_ ?_; focus first | omega | (intros; simp_all <;> omega)) | simp (disch := omega) only [go_sem, Nat.reduceBEq, Nat.reduceAdd, ww])
   refine S.next (i + 1) ⟨by omega, fun j hj y hy => ?_⟩ (by omega) (by (repeat first | refine uA ?_ | (refine ⟨?_, ?_⟩; focus first | rfl | simp [slot]) | rfl | simp))
   rcases c0j j i with h1 | h1
   ·exact hm j h1 y hy
   ·have : j = i := by omega
    subst this
    rw [hgi] at hy
    cases hy
    exact hc2
 ·have hi' : i = l.length := by omega
  subst hi'
  rw [a5O hm]
  (repeat first | refine uA ?_ | (refine uK ?_ ?_; focus first | omega | (intros; simp_all <;> omega)) | simp (disch := omega) only [go_sem, Nat.reduceBEq, Nat.reduceAdd, ww])
  exact S.done (d9.out rfl (Imp.refl rfl) rfl)
theorem b3T (g : Nat) (hcal : callable Tryz.prog g = true) (p : Fr -> Bool) (l : List Fr) (hn : l.length <= 1099511627776) (hg : ∀ x ∈ l, FZ g [x.c] (.v (.bool (p x)))) :
  FZ 44 [frs l, .v (.func (.func g) #[] #[])] (.v (.bool (l.any p))) := by
 refine kW Tryz.func44 (by cbv) (by rfl) fun w O hw => ?_
 have h := b4o g hcal p l hn hg
 have e := a7e p l
 generalize a2m p l = n at *
 simp only [l9]
 simp only [frs, ints] at *
 (repeat first | refine uA ?_ | (refine uK ?_ ?_; focus first | omega | (intros; simp_all <;> omega)) | simp (disch := omega) only [go_sem, Nat.reduceBEq, Nat.reduceAdd, ww] | (refine uD h ?_ ?_ ?_; exact tz hw; exact rfl))
 rw [e]
 exact S.done (d9.out rfl (Imp.refl rfl) rfl)
end Go.Proofs.YtgmlehjgpgdjhaaGreatDoor
