/- A part of the proof: lemmas only, with the conditions that each names. -/
import Derived.Laws.Bits64b
import Derived.Test.YtgmlehjgpgdjhaaGreatDoorProg
import Derived.KernelRfl
import Derived.Shelf.Small.Bits
import Derived.Shelf.Small.Strs
import Derived.Shelf.Spec.TrailingZeros
import Derived.Test.YtgmlehjgpgdjhaaGreatDoorWk2
set_option linter.all false
namespace Go.Proofs.YtgmlehjgpgdjhaaGreatDoor.Nm
def val (l : List UInt8) : Nat := l.foldl (fun n b => 256 * n + b.toNat) 0
theorem a3r : ∀ (l : List UInt8) (n : Nat), l.foldl (fun n b => 256 * n + b.toNat) n = n * 256 ^ l.length + val l
 | [], n => by simp [val]
 | b :: l, n => by
  have h1 := a3r l (256 * n + b.toNat)
  have h2 := a3r l (256 * 0 + b.toNat)
  simp only [List.foldl_cons, val, c0l, c0s] at h1 h2 ⊢
  rw [h1, h2]
  grind
theorem a8N : val [] = 0 := rfl
theorem R6 (b : UInt8) (l : List UInt8) : val (b :: l) = b.toNat * 256 ^ l.length + val l := by
 have := a3r l (256 * 0 + b.toNat)
 simp only [val, List.foldl_cons] at this ⊢
 rw [this]
 simp
theorem b2Y (a b : List UInt8) : val (a ++ b) = val a * 256 ^ b.length + val b := by
 unfold val
 rw [List.foldl_append, a3r]
 rfl
theorem b0r (a : List UInt8) (b : UInt8) : val (a ++ [b]) = 256 * val a + b.toNat := by
 rw [b2Y, R6]; simp [a8N]; omega
theorem R4 : ∀ (l : List UInt8), val l < 256 ^ l.length
 | [] => by simp [val]
 | b :: l => by
  have h := R4 l
  have hb := b.toNat_lt
  rw [R6, c0l, c0s]
  have : b.toNat * 256 ^ l.length <= 255 * 256 ^ l.length := c0r _ (by omega)
  omega
def trim : List UInt8 -> List UInt8
 | [] => []
 | b :: l => if b = 0 then trim l else b :: l
theorem L8 : ∀ l, val (trim l) = val l
 | [] => rfl
 | b :: l => by
  unfold trim
  split
  ·rename_i h; subst h; rw [L8 l, R6]; simp
  ·rfl
theorem Q0 : ∀ l, (trim l).length <= l.length
 | [] => b9T _
 | b :: l => by
  unfold trim
  split
  ·have := Q0 l; simp; omega
  ·exact b9T _
def canon (l : List UInt8) : Prop := ∀ r, l ≠ 0 :: r
theorem O9 : ∀ l, canon (trim l)
 | [], r => by simp [trim]
 | b :: l, r => by
  unfold trim
  split
  ·exact O9 l r
  ·intro e; injection e; contradiction
theorem a8e {l : List UInt8} (h : canon l) : trim l = l := by
 cases l with
 | nil => rfl
 | cons b l =>
  unfold trim
  rw [if_neg]
  intro e
  exact h l (by rw [e])
theorem a5h (l : List UInt8) : trim (trim l) = trim l := a8e (O9 l)
theorem a5n : canon [] := fun r h => by cases h
theorem a7D {b : UInt8} {l : List UInt8} (h : canon (b :: l)) : 256 ^ l.length <= val (b :: l) := by
 have hb : 1 <= b.toNat := by
  rcases c0f b.toNat with h0 | h0
  ·exact absurd (by rw [show b = 0 from UInt8.toNat.inj h0]) (h l)
  ·exact h0
 rw [R6]
 have := c0r (256 ^ l.length) hb
 omega
theorem val_zero {l : List UInt8} (h : canon l) : val l = 0 <-> l = [] := by
 cases l with
 | nil => simp [val]
 | cons b l =>
  have := a7D h
  have := Nat.pow_pos (n := l.length) (show 0 < 256 by decide)
  simp; omega
theorem a6s : ∀ {a b : List UInt8}, a.length = b.length -> val a = val b -> a = b
 | [], [], _, _ => rfl
 | [], _ :: _, h, _ => by cases h
 | _ :: _, [], h, _ => by cases h
 | x :: a, y :: b, h, hv => by
  simp only [c0l, Nat.add_right_cancel_iff] at h
  rw [R6, R6, h] at hv
  have h1 := R4 a
  have h2 := R4 b
  rw [h] at h1
  have hp := Nat.pow_pos (n := b.length) (show 0 < 256 by decide)
  have e1 : (x.toNat * 256 ^ b.length + val a) / 256 ^ b.length = x.toNat := by
   rw [Nat.mul_comm, Nat.mul_add_div hp, Nat.div_eq_of_lt h1]; rfl
  have e2 : (y.toNat * 256 ^ b.length + val b) / 256 ^ b.length = y.toNat := by
   rw [Nat.mul_comm, Nat.mul_add_div hp, Nat.div_eq_of_lt h2]; rfl
  rw [hv, e2] at e1
  have hxy : x = y := UInt8.toNat.inj e1.symm
  subst hxy
  rw [a6s h (by omega)]
theorem a1p {a b : List UInt8} (hb : canon b) (h : a.length < b.length) : val a < val b := by
 cases b with
 | nil => simp at h
 | cons y b =>
  have h1 := a7D hb
  have h2 := R4 a
  have h3 : 256 ^ a.length <= 256 ^ b.length := c0i (by decide) (by simp at h; omega)
  omega
theorem b5k {a b : List UInt8} (ha : canon a) (hb : canon b) (h : val a = val b) : a = b := by
 refine a6s ?_ h
 rcases Nat.lt_trichotomy a.length b.length with h1 | h1 | h1
 ·have := a1p hb h1; omega
 ·exact h1
 ·have := a1p ha h1; omega
def enc (n : Nat) : List UInt8 := if n = 0 then [] else enc (n / 256) ++ [UInt8.ofNat (n % 256)]
termination_by n
decreasing_by omega
theorem a0s : enc 0 = [] := by unfold enc; rfl
theorem H9 (n : Nat) : val (enc n) = n := by
 induction n using Nat.strongRecOn with
 | _ n ih =>
  unfold enc
  split
  ·rename_i h; subst h; rfl
  ·rw [b0r, ih _ (by omega)]
   have : (UInt8.ofNat (n % 256)).toNat = n % 256 := by simp
   rw [this]; omega
theorem a3X {n : Nat} (h : n ≠ 0) : enc n ≠ [] := fun e => h (by rw [<- H9 n, e]; rfl)
theorem a2g (n : Nat) : canon (enc n) := by
 induction n using Nat.strongRecOn with
 | _ n ih =>
  unfold enc
  split
  ·exact a5n
  ·rename_i hn
   intro r hr
   by_cases h0 : n / 256 = 0
   ·rw [h0, a0s, List.nil_append] at hr
    injection hr with h1 _
    have h2 := congrArg UInt8.toNat h1
    simp at h2
    omega
   ·have h1 := ih (n / 256) (by omega)
    cases he : enc (n / 256) with
    | nil => exact a3X h0 he
    | cons b l =>
     rw [he] at hr h1
     injection hr with h2 _
     exact h1 l (by rw [h2])
theorem a5S (l : List UInt8) : enc (val l) = trim l := b5k (a2g _) (O9 l) (by rw [H9, L8])
theorem a0i {l : List UInt8} (h : canon l) : enc (val l) = l := by rw [a5S, a8e h]
theorem a8D {a b : Nat} (h : enc a = enc b) : a = b := by rw [<- H9 a, h, H9]
theorem J8 {n k : Nat} (h : n < 256 ^ k) : (enc n).length <= k := by
 rcases c0j k (enc n).length with h1 | h1
 ·cases he : enc n with
  | nil => rw [he] at h1; simp at h1
  | cons b l =>
   have h2 := a7D (he ▸ a2g n)
   rw [<- he, H9] at h2
   rw [he] at h1
   have : 256 ^ k <= 256 ^ l.length := c0i (by decide) (by simp at h1; omega)
   omega
 ·exact h1
theorem U3 {n k : Nat} (h : (enc n).length <= k) : n < 256 ^ k := by
 have h1 := R4 (enc n)
 rw [H9] at h1
 have : 256 ^ (enc n).length <= 256 ^ k := c0i (by decide) h
 omega
theorem U7 {l : List UInt8} {k : Nat} (h : l.length <= k) : val l < 256 ^ k := by
 have := R4 l
 have : 256 ^ l.length <= 256 ^ k := c0i (by decide) h
 omega
def wv (B : Nat) : List Nat -> Nat
 | [] => 0
 | w :: r => w + B * wv B r
theorem a5t (B : Nat) : ∀ (a b : List Nat), wv B (a ++ b) = wv B a + B ^ a.length * wv B b
 | [], b => by simp [wv]
 | x :: a, b => by
  simp only [List.cons_append, wv, a5t B a b, c0l, c0s]
  grind
theorem a5T (B : Nat) (a : List Nat) (x : Nat) : wv B (a ++ [x]) = wv B a + B ^ a.length * x := by
 rw [a5t]; simp [wv]
theorem y9 (B : Nat) {l : List Nat} {i : Nat} (h : i < l.length) : wv B (l.take (i + 1)) = wv B (l.take i) + B ^ i * l[i] := by
 rw [c0B h, a5T, b9V]
 rw [Nat.min_eq_left (by omega)]
theorem a1L (B : Nat) (l : List Nat) (i : Nat) (h : i <= l.length) : wv B l = wv B (l.take i) + B ^ i * wv B (l.drop i) := by
 have := a5t B (l.take i) (l.drop i)
 rw [List.take_append_drop, b9V, Nat.min_eq_left h] at this
 exact this
theorem a2Y (B : Nat) : ∀ {l : List Nat} {i : Nat} (h : i < l.length) (v : Nat), wv B (l.set i v) + B ^ i * l[i] = wv B l + B ^ i * v
 | [], i, h, v => by simp at h
 | x :: l, 0, h, v => by simp [wv]; omega
 | x :: l, i + 1, h, v => by
  have := a2Y B (l := l) (i := i) (by simpa using h) v
  simp only [List.set_cons_succ, wv, List.getElem_cons_succ, c0s]
  grind
theorem I9 (B : Nat) : ∀ {l : List Nat}, (∀ w ∈ l, w < B) -> wv B l < B ^ l.length
 | [], _ => by simp [wv]
 | x :: l, h => by
  have h1 := I9 B (l := l) fun w hw => h w (by simp [hw])
  have h2 := h x (by simp)
  simp only [wv, c0l, c0s]
  have h3 : B * (wv B l + 1) <= B * B ^ l.length := Nat.mul_le_mul_left _ h1
  rw [Nat.mul_add, Nat.mul_one] at h3
  rw [Nat.mul_comm (B ^ l.length) B]
  omega
theorem a4C (B : Nat) : ∀ n, wv B (List.replicate n 0) = 0
 | 0 => rfl
 | n + 1 => by simp [List.replicate_succ, wv, a4C B n]
theorem b0h {B : Nat} {l : List Nat} {x : Nat} (hx : x ≠ 0) : B ^ l.length <= wv B (l ++ [x]) := by
 rw [a5T]
 have : B ^ l.length * 1 <= B ^ l.length * x := Nat.mul_le_mul_left _ (by omega)
 omega
theorem mem_set {α : Type} {l : List α} {i : Nat} {v x : α} (h : x ∈ l.set i v) : x = v \/ x ∈ l := by
 rcases List.mem_or_eq_of_mem_set h with h | h
 ·exact .inr h
 ·exact .inl h
def dig (B : Nat) : Nat -> Nat -> List Nat
 | 0, _ => []
 | L + 1, n => n % B :: dig B L (n / B)
theorem H7 (B : Nat) : ∀ L n, (dig B L n).length = L
 | 0, _ => rfl
 | L + 1, n => by simp [dig, H7 B L]
theorem Z8 {B : Nat} (hB : 0 < B) : ∀ L n, ∀ w ∈ dig B L n, w < B
 | 0, _, w, h => by simp [dig] at h
 | L + 1, n, w, h => by
  simp only [dig, List.mem_cons] at h
  rcases h with rfl | h
  ·exact Nat.mod_lt _ hB
  ·exact Z8 hB L _ w h
theorem b4K (B : Nat) : ∀ L n, wv B (dig B L n) = n % B ^ L
 | 0, n => by simp [dig, wv, Nat.mod_one]
 | L + 1, n => by
  simp only [dig, wv, b4K B L]
  rw [c0s, Nat.mul_comm (B ^ L) B, Nat.mod_mul]
theorem P5 {B L n : Nat} (h : n < B ^ L) : wv B (dig B L n) = n := by rw [b4K, Nat.mod_eq_of_lt h]
theorem b4B {B : Nat} (hB : 0 < B) : ∀ {l : List Nat}, (∀ w ∈ l, w < B) -> l = dig B l.length (wv B l)
 | [], _ => rfl
 | x :: l, h => by
  have hx := h x (by simp)
  have ih := b4B hB (l := l) fun w hw => h w (by simp [hw])
  simp only [c0l, dig, wv]
  rw [Nat.add_mul_mod_self_left, Nat.mod_eq_of_lt hx, Nat.add_mul_div_left _ _ hB, Nat.div_eq_of_lt hx, c0n, <- ih]
theorem P9 {B L n : Nat} {l : List Nat} (hB : 0 < B) (h : ∀ w ∈ l, w < B) (hl : l.length = L) (hn : wv B l = n) : l = dig B L n := by
 have := b4B hB h
 rw [hl, hn] at this
 exact this
theorem a4P {l : List UInt8} {i : Nat} (h : i < l.length) : val (l.drop (l.length - 1 - i)) = (l[l.length - 1 - i]).toNat * 256 ^ i + val (l.drop (l.length - i)) := by
 have h1 : l.drop (l.length - 1 - i) = l[l.length - 1 - i] :: l.drop (l.length - i) := by
  rw [List.drop_eq_getElem_cons (by omega)]
  congr 2; omega
 rw [h1, R6, c0y]
 congr 2; congr 1; omega
def a2H (l : List UInt8) (i : Nat) (out : List Nat) : Prop :=
 out.length = (l.length + 3) / 4 /\ (∀ w ∈ out, w < 4294967296) /\ wv 4294967296 out = val (l.drop (l.length - i)) /\ ∀ j (h : j < out.length), out[j] < 256 ^ (i - 4 * j)
theorem a9O (l : List UInt8) : a2H l 0 (List.replicate ((l.length + 3) / 4) 0) := by
 refine ⟨by simp, fun w hw => by rw [c0h hw]; decide, ?_, fun j h => by simp⟩
 rw [a4C]; simp [val]
theorem b5G (i : Nat) : 4294967296 ^ (i / 4) * 256 ^ (i % 4) = 256 ^ i := by
 have h : (4294967296 : Nat) = 256 ^ 4 := by decide
 rw [h, <- Nat.pow_mul, <- Nat.pow_add]
 congr 1; omega
theorem a1D {a b r : Nat} (h : a < 2 ^ r) : a ||| (b * 2 ^ r) = a + b * 2 ^ r := by
 have := Nat.two_pow_add_eq_or_of_lt h b
 rw [Nat.mul_comm b, Nat.add_comm a, this, Nat.or_comm]
theorem a9W {l : List UInt8} {i : Nat} {out : List Nat} (h : a2H l i out) (hi : i < l.length) (hj : i / 4 < out.length) :
  a2H l (i + 1) (out.set (i / 4) (out[i / 4] ||| (l[l.length - 1 - i]).toNat * 2 ^ (8 * (i % 4)))) /\ out[i / 4] ||| (l[l.length - 1 - i]).toNat * 2 ^ (8 * (i % 4)) < 4294967296 /\ (l[l.length - 1 - i]).toNat * 2 ^ (8 * (i % 4)) < 4294967296 := by
 obtain ⟨h1, h2, h3, h4⟩ := h
 have e256 : 2 ^ (8 * (i % 4)) = 256 ^ (i % 4) := by rw [Nat.pow_mul]
 have hb := (l[l.length - 1 - i]).toNat_lt
 have hlow := h4 (i / 4) hj
 rw [show i - 4 * (i / 4) = i % 4 by omega] at hlow
 have hor : out[i / 4] ||| (l[l.length - 1 - i]).toNat * 2 ^ (8 * (i % 4)) = out[i / 4] + (l[l.length - 1 - i]).toNat * 256 ^ (i % 4) := by
  rw [a1D (by rw [e256]; exact hlow), e256]
 rw [hor, e256]
 have hpos := Nat.pow_pos (n := i % 4) (show 0 < 256 by decide)
 have hmul : (l[l.length - 1 - i]).toNat * 256 ^ (i % 4) <= 255 * 256 ^ (i % 4) := c0r _ (by omega)
 have hnew : out[i / 4] + (l[l.length - 1 - i]).toNat * 256 ^ (i % 4) < 256 ^ (i % 4 + 1) := by rw [c0s]; omega
 have h4p : (256 : Nat) ^ (i % 4 + 1) <= 256 ^ 4 := c0i (by decide) (by omega)
 have h44 : (256 : Nat) ^ 4 = 4294967296 := by decide
 refine ⟨⟨by simp [h1], fun w hw => ?_, ?_, fun j hjl => ?_⟩, by omega, by omega⟩
 ·rcases mem_set hw with rfl | hw
  ·omega
  ·exact h2 w hw
 ·have hs := a2Y 4294967296 hj (out[i / 4] + (l[l.length - 1 - i]).toNat * 256 ^ (i % 4))
  rw [Nat.mul_add, <- c0o, Nat.mul_right_comm, c0o, Nat.mul_comm (l[l.length - 1 - i]).toNat, Nat.mul_comm _ (l[l.length - 1 - i]).toNat] at hs
  rw [show l.length - (i + 1) = l.length - 1 - i by omega, a4P hi, <- h3, <- b5G i]
  have : 4294967296 ^ (i / 4) * ((l[l.length - 1 - i]).toNat * 256 ^ (i % 4)) = (l[l.length - 1 - i]).toNat * (4294967296 ^ (i / 4) * 256 ^ (i % 4)) := by grind
  have hs' := a2Y 4294967296 hj (out[i / 4] + (l[l.length - 1 - i]).toNat * 256 ^ (i % 4))
  rw [Nat.mul_add] at hs'
  omega
 ·rw [List.getElem_set]
  split
  ·rename_i e; subst e
   rw [show i + 1 - 4 * (i / 4) = i % 4 + 1 by omega]; exact hnew
  ·have h5 := h4 j (by simpa using hjl)
   have : (256 : Nat) ^ (i - 4 * j) <= 256 ^ (i + 1 - 4 * j) := c0i (by decide) (by omega)
   omega
def H8 (l : List UInt8) : List Nat := dig 4294967296 (((trim l).length + 3) / 4) (val l)
theorem b0U {l : List UInt8} {out : List Nat} (h : a2H (trim l) (trim l).length out) : out = H8 l := by
 obtain ⟨h1, h2, h3, _⟩ := h
 refine P9 (by decide) h2 h1 ?_
 rw [h3, Nat.sub_self, List.drop_zero, L8]
theorem b2A (l : List UInt8) : val l < 4294967296 ^ (((trim l).length + 3) / 4) := by
 have h := R4 (trim l)
 rw [L8] at h
 have h4 : (4294967296 : Nat) = 256 ^ 4 := by decide
 rw [h4, <- Nat.pow_mul]
 have : 256 ^ (trim l).length <= 256 ^ (4 * (((trim l).length + 3) / 4)) := c0i (by decide) (by omega)
 omega
theorem O7 (l : List UInt8) : (H8 l).length = ((trim l).length + 3) / 4 := H7 _ _ _
theorem U5 (l : List UInt8) : wv 4294967296 (H8 l) = val l := P5 (b2A l)
theorem V3 (l : List UInt8) : ∀ w ∈ H8 l, w < 4294967296 := Z8 (by decide) _ _
theorem a5y (l : List UInt8) (h : H8 l ≠ []) : 4294967296 ^ ((H8 l).length - 1) <= val l := by
 have hl := O7 l
 have hc := O9 l
 have hv := L8 l
 cases ht : trim l with
 | nil => rw [ht] at hl; exact absurd (c0g (by simpa using hl)) h
 | cons b r =>
  rw [ht] at hc hl hv
  have := a7D hc
  have h4 : (4294967296 : Nat) = 256 ^ 4 := by decide
  rw [h4, <- Nat.pow_mul]
  have : 256 ^ (4 * ((H8 l).length - 1)) <= 256 ^ r.length := c0i (by decide) (by simp at hl; omega)
  omega
theorem a9x {α : Type} (x0 x1 x2 x3 : α) : ∀ (k : Nat) (b : List α), k + 3 < b.length -> ((((b.set k x0).set (k + 1) x1).set (k + 2) x2).set (k + 3) x3).drop k = x0 :: x1 :: x2 :: x3 :: b.drop (k + 4)
 | 0, b, h => by
  match b, h with
  | _ :: _ :: _ :: _ :: r, _ => simp
 | k + 1, [], h => by simp at h
 | k + 1, a :: b, h => by
  have := a9x x0 x1 x2 x3 k b (by simp at h; omega)
  simpa using this
def a3S (l : List Nat) (i : Nat) (b : List UInt8) : Prop := b.length = 4 * l.length /\ val (b.drop (4 * (l.length - i))) = wv 4294967296 (l.take i)
theorem b1r (l : List Nat) : a3S l 0 (List.replicate (4 * l.length) 0) := by
 refine ⟨by simp, ?_⟩
 rw [List.drop_of_length_le (by simp)]; rfl
theorem b1d {l : List Nat} {i : Nat} {b : List UInt8} (h : a3S l i b) (hi : i < l.length) (hw : l[i] < 4294967296) {x0 x1 x2 x3 : UInt8}
  (h0 : x0.toNat = l[i] / 16777216 % 256) (h1 : x1.toNat = l[i] / 65536 % 256) (h2 : x2.toNat = l[i] / 256 % 256) (h3 : x3.toNat = l[i] % 256) :
  a3S l (i + 1) ((((b.set (4 * (l.length - 1 - i)) x0).set (4 * (l.length - 1 - i) + 1) x1).set (4 * (l.length - 1 - i) + 2) x2).set (4 * (l.length - 1 - i) + 3) x3) := by
 obtain ⟨e1, e2⟩ := h
 refine ⟨by simp [e1], ?_⟩
 rw [show 4 * (l.length - (i + 1)) = 4 * (l.length - 1 - i) by omega, a9x _ _ _ _ _ _ (by omega), show 4 * (l.length - 1 - i) + 4 = 4 * (l.length - i) by omega, y9 _ hi, <- e2]
 have hl : (b.drop (4 * (l.length - i))).length = 4 * i := by rw [c0y]; omega
 simp only [R6, c0l, hl]
 have h4 : (4294967296 : Nat) = 256 ^ 4 := by decide
 rw [h4, <- Nat.pow_mul]
 have e : l[i] = x0.toNat * 16777216 + x1.toNat * 65536 + x2.toNat * 256 + x3.toNat := by rw [h0, h1, h2, h3]; omega
 rw [e]
 generalize x0.toNat = a0
 generalize x1.toNat = a1
 generalize x2.toNat = a2
 generalize x3.toNat = a3
 have p1 : (256 : Nat) ^ (4 * i + 1 + 1 + 1) = 16777216 * 256 ^ (4 * i) := by rw [c0s, c0s, c0s]; omega
 have p2 : (256 : Nat) ^ (4 * i + 1 + 1) = 65536 * 256 ^ (4 * i) := by rw [c0s, c0s]; omega
 have p3 : (256 : Nat) ^ (4 * i + 1) = 256 * 256 ^ (4 * i) := by rw [c0s]; omega
 rw [p1, p2, p3]
 grind
theorem b2C {l : List Nat} {b : List UInt8} (h : a3S l l.length b) : trim b = enc (wv 4294967296 l) := by
 obtain ⟨_, h⟩ := h
 rw [Nat.sub_self, Nat.mul_zero, List.drop_zero, c0m] at h
 rw [<- h, a5S]
def oB (n : Nat) : UInt8 := UInt8.ofNat (n % 256)
theorem a0K (n : Nat) : (oB n).toNat = n % 256 := by simp [oB]
def be8 (n : Nat) : List UInt8 := [oB (n / 72057594037927936), oB (n / 281474976710656), oB (n / 1099511627776), oB (n / 4294967296), oB (n / 16777216), oB (n / 65536), oB (n / 256), oB n]
theorem b3j {n : Nat} (h : n < 18446744073709551616) : val (be8 n) = n := by
 simp only [be8, val, List.foldl_cons, List.foldl_nil, a0K]
 omega
theorem b0t {n : Nat} (h : n < 18446744073709551616) : trim (be8 n) = enc n := by rw [<- a5S, b3j h]
theorem b3A (v b : Nat) (hb : b < 256) : (v % 18446744073709551616 * 256) % 18446744073709551616 ||| b = (256 * v + b) % 18446744073709551616 := by
 have h1 : (v % 18446744073709551616 * 256) % 18446744073709551616 = (v % 72057594037927936) * 2 ^ 8 := by omega
 rw [h1, Nat.mul_comm _ (2 ^ 8), <- Nat.two_pow_add_eq_or_of_lt (by simpa using hb)]
 omega
theorem K7 (B : Nat) {l : List Nat} {i : Nat} (h : i < l.length) (v : Nat) : wv B ((l.set i v).take (i + 1)) = wv B (l.take i) + B ^ i * v := by
 rw [y9 B (by simpa using h), List.getElem_set_self, List.take_set_of_le (b9T _)]
theorem a1k (B : Nat) (l : List Nat) (i : Nat) : wv B (l.take (i + 1)) = wv B (l.take i) + B ^ i * l.getD i 0 := by
 rcases c0j i l.length with h | h
 ·rw [y9 B h, b9Q, b9I h]; rfl
 ·rw [c0k (by omega), c0k h, b9Q, c0q h]; simp
def a2c (x y : List Nat) (i : Nat) (out : List Nat) (c : Nat) : Prop :=
 out.length = x.length + 1 /\ (∀ w ∈ out, w < 4294967296) /\ c <= 1 /\ wv 4294967296 (out.take i) + 4294967296 ^ i * c = wv 4294967296 (x.take i) + wv 4294967296 (y.take i)
theorem a6u (x y : List Nat) : a2c x y 0 (List.replicate (x.length + 1) 0) 0 := by
 refine ⟨by simp, fun w hw => by rw [c0h hw]; decide, by omega, by simp [wv]⟩
theorem b2t {x y : List Nat} {i : Nat} {out : List Nat} {c : Nat} (h : a2c x y i out c) (hi : i < x.length) (hx : x[i] < 4294967296) (hy : y.getD i 0 < 4294967296) {s : Nat} (hs : s = c + x[i] + y.getD i 0) :
  a2c x y (i + 1) (out.set i (s % 4294967296)) (s / 4294967296) := by
 obtain ⟨h1, h2, h3, h4⟩ := h
 refine ⟨by simp [h1], fun w hw => ?_, by omega, ?_⟩
 ·rcases mem_set hw with rfl | hw
  ·exact Nat.mod_lt _ (by decide)
  ·exact h2 w hw
 ·rw [K7 _ (by omega), y9 _ hi, a1k]
  have hd : s = s % 4294967296 + 4294967296 * (s / 4294967296) := by omega
  have e : 4294967296 ^ i * s = 4294967296 ^ i * c + 4294967296 ^ i * x[i] + 4294967296 ^ i * y.getD i 0 := by rw [hs, Nat.mul_add, Nat.mul_add]
  have e2 : 4294967296 ^ i * s = 4294967296 ^ i * (s % 4294967296) + 4294967296 ^ (i + 1) * (s / 4294967296) := by
   conv => lhs; rw [hd, Nat.mul_add, <- c0o, <- c0s]
  omega
theorem a7m {x y : List Nat} {out : List Nat} {c : Nat} (h : a2c x y x.length out c) (hl : y.length <= x.length) : wv 4294967296 (out.set x.length c) = wv 4294967296 x + wv 4294967296 y /\ ∀ w ∈ out.set x.length c, w < 4294967296 := by
 obtain ⟨h1, h2, h3, h4⟩ := h
 refine ⟨?_, fun w hw => ?_⟩
 ·have := K7 4294967296 (l := out) (i := x.length) (by omega) c
  rw [c0k (by simp [h1])] at this
  rw [c0m, c0k hl] at h4
  omega
 ·rcases mem_set hw with rfl | hw
  ·omega
  ·exact h2 w hw
def a4Z (x y : List Nat) (i : Nat) (out : List Nat) (c : Nat) : Prop :=
 out.length = x.length /\ (∀ w ∈ out, w < 4294967296) /\ c <= 1 /\ out.drop i = x.drop i /\ wv 4294967296 (out.take i) + wv 4294967296 (y.take i) + 4294967296 ^ i * 0 = wv 4294967296 (x.take i) + 4294967296 ^ i * c
theorem b2h {x : List Nat} (y : List Nat) (hx : ∀ w ∈ x, w < 4294967296) : a4Z x y 0 x 0 := by
 refine ⟨rfl, hx, by omega, rfl, by simp [wv]⟩
theorem V9 {α : Type} {a b : List α} {i : Nat} (h : a.drop i = b.drop i) : a[i]? = b[i]? := by
 have := congrArg (fun l => l[0]?) h
 simpa using this
theorem U1 {α : Type} {a b : List α} {i : Nat} (v : α) (h : a.drop i = b.drop i) : (a.set i v).drop (i + 1) = b.drop (i + 1) := by
 rw [List.drop_set_of_lt (by omega)]
 have := congrArg (List.drop 1) h
 simpa [List.drop_drop] using this
theorem b2a {x y : List Nat} {i : Nat} {out : List Nat} {c : Nat} (h : a4Z x y i out c) (hi : i < x.length) {t c' : Nat} (ht : t < 4294967296) (hc : c' <= 1) (hs : t + c + y.getD i 0 = x[i] + 4294967296 * c') :
  a4Z x y (i + 1) (out.set i t) c' := by
 obtain ⟨h1, h2, h3, hd, h4⟩ := h
 refine ⟨by simp [h1], fun w hw => ?_, hc, U1 _ hd, ?_⟩
 ·rcases mem_set hw with rfl | hw
  ·exact ht
  ·exact h2 w hw
 ·rw [K7 _ (by omega), y9 _ hi, a1k]
  have e := congrArg (4294967296 ^ i * ·) hs
  simp only [Nat.mul_add] at e
  rw [<- c0o, <- c0s] at e
  simp only [Nat.succ_eq_add_one] at e
  omega
theorem b3o {x y : List Nat} {out : List Nat} {c : Nat} (h : a4Z x y x.length out c) (hl : y.length <= x.length) (hle : wv 4294967296 y <= wv 4294967296 x) : c = 0 /\ wv 4294967296 out + wv 4294967296 y = wv 4294967296 x := by
 obtain ⟨h1, h2, h3, _, h4⟩ := h
 rw [c0m, c0k (by omega), c0k hl] at h4
 have := I9 4294967296 h2
 rw [h1] at this
 have hc : c = 0 := by
  rcases c0f c with h0 | h0
  ·exact h0
  ·have : c = 1 := by omega
   subst this
   omega
 subst hc
 exact ⟨rfl, by omega⟩
def a5e (x y : List Nat) (i : Nat) (out : List Nat) : Prop :=
 out.length = x.length + y.length /\ (∀ w ∈ out, w < 4294967296) /\ wv 4294967296 out = wv 4294967296 (x.take i) * wv 4294967296 y /\ ∀ j, i + y.length <= j -> out.getD j 0 = 0
def a7y (x y : List Nat) (i k : Nat) (out : List Nat) (c : Nat) : Prop :=
 out.length = x.length + y.length /\ (∀ w ∈ out, w < 4294967296) /\ c < 4294967296 /\ wv 4294967296 out + 4294967296 ^ (i + k) * c = wv 4294967296 (x.take i) * wv 4294967296 y + 4294967296 ^ i * (x.getD i 0 * wv 4294967296 (y.take k)) /\ ∀ j, i + y.length <= j -> out.getD j 0 = 0
theorem b1X (x y : List Nat) : a5e x y 0 (List.replicate (x.length + y.length) 0) := by
 refine ⟨by simp, fun w hw => by rw [c0h hw]; decide, by rw [a4C]; simp [wv], fun j _ => ?_⟩
 rw [b9Q, List.getElem?_replicate]; split <;> rfl
theorem b4q {x y : List Nat} {i : Nat} {out : List Nat} (h : a5e x y i out) : a7y x y i 0 out 0 := by
 obtain ⟨h1, h2, h3, h4⟩ := h
 exact ⟨h1, h2, by decide, by rw [h3]; simp [wv], h4⟩
theorem getD_set_ne {l : List Nat} {i j v : Nat} (h : i ≠ j) : (l.set i v).getD j 0 = l.getD j 0 := by
 simp [b9Q, List.getElem?_set_ne h]
theorem b3K {x y : List Nat} {i k : Nat} {out : List Nat} {c : Nat} (h : a7y x y i k out c) (hi : i < x.length) (hk : k < y.length) (hx : x[i] < 4294967296) (hy : y[k] < 4294967296) {s : Nat} (ho : i + k < out.length) (hs : s = c + x[i] * y[k] + out[i + k]) :
  a7y x y i (k + 1) (out.set (i + k) (s % 4294967296)) (s / 4294967296) /\ s <= 18446744073709551615 := by
 obtain ⟨h1, h2, h3, h4, h5⟩ := h
 have hm : x[i] * y[k] <= 4294967295 * 4294967295 := Nat.mul_le_mul (by omega) (by omega)
 have hok := h2 _ (b9S ho)
 have hsb : s <= 18446744073709551615 := by omega
 refine ⟨⟨by simp [h1], fun w hw => ?_, by omega, ?_, fun j hj => ?_⟩, hsb⟩
 ·rcases mem_set hw with rfl | hw
  ·exact Nat.mod_lt _ (by decide)
  ·exact h2 w hw
 ·have e0 := a2Y 4294967296 ho (s % 4294967296)
  rw [y9 _ hk]
  have hd : s = s % 4294967296 + 4294967296 * (s / 4294967296) := by omega
  have e2 : 4294967296 ^ (i + k) * s = 4294967296 ^ (i + k) * (s % 4294967296) + 4294967296 ^ (i + (k + 1)) * (s / 4294967296) := by
   conv => lhs; rw [hd, Nat.mul_add, <- c0o, <- c0s]
   rfl
  have e3 : 4294967296 ^ (i + k) * s = 4294967296 ^ (i + k) * c + 4294967296 ^ (i + k) * (x[i] * y[k]) + 4294967296 ^ (i + k) * out[i + k] := by rw [hs, Nat.mul_add, Nat.mul_add]
  have e4 : x.getD i 0 = x[i] := by rw [b9Q, b9I hi]; rfl
  rw [e4] at h4 ⊢
  have e5 : 4294967296 ^ i * (x[i] * (wv 4294967296 (y.take k) + 4294967296 ^ k * y[k])) = 4294967296 ^ i * (x[i] * wv 4294967296 (y.take k)) + 4294967296 ^ (i + k) * (x[i] * y[k]) := by
   rw [Nat.pow_add, Nat.mul_add, Nat.mul_add]
   congr 1
   generalize 4294967296 ^ i = p
   generalize 4294967296 ^ k = q
   grind
  omega
 ·rw [getD_set_ne (by omega)]; exact h5 j hj
theorem b5x {x y : List Nat} {i : Nat} {out : List Nat} {c : Nat} (h : a7y x y i y.length out c) (hi : i < x.length) : a5e x y (i + 1) (out.set (i + y.length) c) := by
 obtain ⟨h1, h2, h3, h4, h5⟩ := h
 have ho : i + y.length < out.length := by omega
 refine ⟨by simp [h1], fun w hw => ?_, ?_, fun j hj => ?_⟩
 ·rcases mem_set hw with rfl | hw
  ·exact h3
  ·exact h2 w hw
 ·have e0 := a2Y 4294967296 ho c
  have e1 := h5 _ (b9T (i + y.length))
  rw [b9Q, b9I ho] at e1
  simp only [Option.getD_some] at e1
  rw [e1, Nat.mul_zero, Nat.add_zero] at e0
  rw [e0, h4, c0m, a1k]
  grind
 ·rw [getD_set_ne (by omega)]; exact h5 j (by omega)
theorem b4m {x y : List Nat} {out : List Nat} (h : a5e x y x.length out) : wv 4294967296 out = wv 4294967296 x * wv 4294967296 y := by
 obtain ⟨_, _, h, _⟩ := h
 rw [c0m] at h
 exact h
section
variable {W V p v1 v2 lo2 top u2 wl d rest : Nat}
theorem b8T (hV : v1 * p <= V) (hW : W < (top + 1) * p) (h1 : 0 < v1) : W / V <= top / v1 := by
 rw [Nat.le_div_iff_mul_le h1]
 rcases c0j top (W / V * v1) with h | h
 ·exfalso
  have h2 : (top + 1) * p <= W / V * v1 * p := c0r p h
  have h3 : W / V * (v1 * p) <= W / V * V := Nat.mul_le_mul_left _ hV
  have h4 : W / V * V <= W := Nat.div_mul_le_self W V
  rw [<- c0o] at h3
  omega
 ·exact h
theorem b7q {B : Nat} (hV : (v1 * B + v2) * p <= V) (hW : W < (top * B + u2 + 1) * p) (ht : top = d * v1 + rest) (hd : rest * B + u2 < d * v2) : W / V < d := by
 have h1 : top * B + u2 + 1 <= d * (v1 * B + v2) := by
  rw [ht, Nat.add_mul, Nat.mul_add, c0o]; omega
 have h2 : (top * B + u2 + 1) * p <= d * (v1 * B + v2) * p := c0r p h1
 have h3 : d * ((v1 * B + v2) * p) <= d * V := Nat.mul_le_mul_left _ hV
 rw [<- c0o] at h3
 have h4 : W < d * V := by omega
 rcases c0f V with h0 | h0
 ·subst h0; simp at h4
 ·rwa [Nat.div_lt_iff_lt_mul h0]
theorem b8d {B : Nat} (hV : V < (v1 * B + v2 + 1) * p) (hW : (top * B + u2) * p <= W) (ht : top = d * v1 + rest) (hd : d * v2 <= rest * B + u2) (hB : d < B) (h1 : 0 < v1) : (d - 1) * V <= W := by
 rcases c0f d with h0 | h0
 ·subst h0; simp
 obtain ⟨e, rfl⟩ : ∃ e, d = e + 1 := ⟨d - 1, by omega⟩
 simp only [Nat.add_sub_cancel]
 have hB1 : B <= v1 * B := by have := c0r B h1; omega
 have h2 : (e + 1) * (v1 * B + v2) <= top * B + u2 := by
  have a1 := Nat.mul_add (e + 1) (v1 * B) v2
  have a2 := Nat.add_mul ((e + 1) * v1) rest B
  have a3 := c0o (e + 1) v1 B
  rw [ht]; omega
 have h3 : e * (v1 * B + v2 + 1) <= top * B + u2 := by
  have : (e + 1) * (v1 * B + v2) = e * (v1 * B + v2) + (v1 * B + v2) := by rw [Nat.add_mul, Nat.one_mul]
  have : e * (v1 * B + v2 + 1) = e * (v1 * B + v2) + e := by rw [Nat.mul_add _ _ 1, Nat.mul_one]
  omega
 have h4 : e * V <= e * ((v1 * B + v2 + 1) * p) := Nat.mul_le_mul_left _ (by omega)
 have h5 : e * (v1 * B + v2 + 1) * p <= (top * B + u2) * p := c0r p h3
 rw [<- c0o] at h4
 omega
end
theorem b6t {W V d : Nat} (h1 : W / V <= d) (h2 : (d - 1) * V <= W) (hV : 0 < V) : (d * V <= W /\ W / V = d) \/ (W < d * V /\ 0 < d /\ W / V = d - 1) := by
 rcases c0j W (d * V) with h | h
 ·refine .inr ⟨h, ?_, ?_⟩
  ·rcases c0f d with h0 | h0
   ·subst h0; simp at h
   ·exact h0
  ·have : W / V < d := by rwa [Nat.div_lt_iff_lt_mul hV]
   have : d - 1 <= W / V := by rwa [Nat.le_div_iff_mul_le hV]
   omega
 ·refine .inl ⟨h, ?_⟩
  have : d <= W / V := by rwa [Nat.le_div_iff_mul_le hV]
  omega
def leftInv (x : List Nat) (p i : Nat) (out : List Nat) : Prop :=
 out.length = x.length + 1 /\ (∀ w ∈ out, w < 4294967296) /\ out.getD i 0 < p /\ wv 4294967296 (out.take i) + 4294967296 ^ i * out.getD i 0 = wv 4294967296 (x.take i) * p
theorem getD_lt {l : List Nat} {i : Nat} (h : i < l.length) : l.getD i 0 = l[i] := by rw [b9Q, b9I h]; rfl
theorem b1V (x : List Nat) {p : Nat} (hp : 0 < p) : leftInv x p 0 (List.replicate (x.length + 1) 0) := by
 refine ⟨by simp, fun w hw => by rw [c0h hw]; decide, ?_, by simp [wv]⟩
 rw [getD_lt (by simp)]; simp; omega
theorem a5b {l : List Nat} {i v u : Nat} (h : i + 1 < l.length) : ((l.set i v).set (i + 1) u).getD (i + 1) 0 = u := by
 rw [getD_lt (by simp; omega)]; simp
theorem b1y {x : List Nat} {r i : Nat} {out : List Nat} (h : leftInv x (2 ^ r) i out) (hr : r < 32) (hi : i < x.length) (hx : x[i] < 4294967296) (ho : i < out.length) :
  leftInv x (2 ^ r) (i + 1) ((out.set i (out[i] ||| (x[i] * 2 ^ r % 4294967296))).set (i + 1) (x[i] * 2 ^ r / 4294967296)) /\ x[i] * 2 ^ r < 18446744073709551616 /\ out[i] ||| (x[i] * 2 ^ r % 4294967296) < 4294967296 /\ x[i] * 2 ^ r / 4294967296 < 4294967296 := by
 obtain ⟨h1, h2, h3, h4⟩ := h
 rw [getD_lt ho] at h3 h4
 have hp : (2 : Nat) ^ r <= 2 ^ 31 := c0i (by decide) (by omega)
 have hp0 : 0 < (2 : Nat) ^ r := Nat.pow_pos (by decide)
 have hmul : x[i] * 2 ^ r <= 4294967295 * 2147483648 := Nat.mul_le_mul (by omega) hp
 have e32 : (4294967296 : Nat) = 2 ^ (32 - r) * 2 ^ r := by rw [<- Nat.pow_add, show 32 - r + r = 32 by omega]
 have hmod : x[i] * 2 ^ r % 4294967296 = (x[i] % 2 ^ (32 - r)) * 2 ^ r := by rw [e32, Nat.mul_mod_mul_right]
 have hor : out[i] ||| (x[i] * 2 ^ r % 4294967296) = out[i] + x[i] * 2 ^ r % 4294967296 := by rw [hmod, a1D h3]
 have hq : x[i] % 2 ^ (32 - r) + 1 <= 2 ^ (32 - r) := Nat.mod_lt _ (Nat.pow_pos (by decide))
 have hq2 : (x[i] % 2 ^ (32 - r) + 1) * 2 ^ r <= 4294967296 := by
  have := c0r (2 ^ r) hq
  rw [<- e32] at this; exact this
 have hsum : out[i] + x[i] * 2 ^ r % 4294967296 < 4294967296 := by rw [hmod]; rw [Nat.add_mul, Nat.one_mul] at hq2; omega
 have hdiv : x[i] * 2 ^ r / 4294967296 < 2 ^ r := by
  rw [Nat.div_lt_iff_lt_mul (by decide), Nat.mul_comm]
  exact Nat.mul_lt_mul_of_pos_left hx hp0
 rw [hor]
 refine ⟨⟨by simp [h1], fun w hw => ?_, ?_, ?_⟩, by omega, hsum, by omega⟩
 ·rcases mem_set hw with rfl | hw
  ·omega
  ·rcases mem_set hw with rfl | hw
   ·exact hsum
   ·exact h2 w hw
 ·rw [a5b (by omega)]; exact hdiv
 ·rw [a5b (by omega), List.take_set_of_le (b9T _), K7 _ ho, y9 _ hi, Nat.add_mul, <- h4, c0o, c0s]
  have hd : x[i] * 2 ^ r = x[i] * 2 ^ r % 4294967296 + 4294967296 * (x[i] * 2 ^ r / 4294967296) := by omega
  have e1 := congrArg (4294967296 ^ i * ·) hd
  simp only [Nat.mul_add] at e1
  rw [e1, Nat.mul_add, c0o]
  omega
theorem b2u {x : List Nat} {p : Nat} {out : List Nat} (h : leftInv x p x.length out) : wv 4294967296 out = wv 4294967296 x * p /\ out.getD x.length 0 < p := by
 obtain ⟨h1, h2, h3, h4⟩ := h
 refine ⟨?_, h3⟩
 have ho : x.length < out.length := by omega
 have := y9 4294967296 ho
 rw [c0k (by omega), <- getD_lt ho] at this
 rw [c0m] at h4
 omega
def a2O (r0 : List Nat) (p i : Nat) (out : List Nat) : Prop :=
 out.length = r0.length /\ (∀ w ∈ out, w < 4294967296) /\ out.drop i = r0.drop i /\ wv 4294967296 (out.take i) * p + r0.getD 0 0 % p = wv 4294967296 (r0.take i) + 4294967296 ^ i * (r0.getD i 0 % p)
theorem a9M {r0 : List Nat} {p : Nat} (h : ∀ w ∈ r0, w < 4294967296) : a2O r0 p 0 r0 := ⟨rfl, h, rfl, by simp [wv]⟩
theorem a9V {r0 : List Nat} {by' i : Nat} {out : List Nat} (h : a2O r0 (2 ^ by') i out) (hb : by' < 32) (hi : i < r0.length) (h0 : ∀ w ∈ r0, w < 4294967296) {t : Nat}
  (ht : t = if i + 1 < r0.length then r0[i] / 2 ^ by' ||| (r0.getD (i + 1) 0 * 2 ^ (32 - by') % 4294967296) else r0[i] / 2 ^ by') : a2O r0 (2 ^ by') (i + 1) (out.set i t) /\ t < 4294967296 := by
 obtain ⟨h1, h2, h3, h4⟩ := h
 have hp0 : 0 < (2 : Nat) ^ by' := Nat.pow_pos (by decide)
 have hx := h0 _ (b9S hi)
 have e32 : (4294967296 : Nat) = 2 ^ by' * 2 ^ (32 - by') := by rw [<- Nat.pow_add, show by' + (32 - by') = 32 by omega]
 have hd : r0[i] / 2 ^ by' < 2 ^ (32 - by') := by
  rw [Nat.div_lt_iff_lt_mul hp0, Nat.mul_comm, <- e32]; exact hx
 have ht' : t = r0[i] / 2 ^ by' + (r0.getD (i + 1) 0 % 2 ^ by') * 2 ^ (32 - by') := by
  rw [ht]
  split
  ·rename_i hlt
   have hmod : r0.getD (i + 1) 0 * 2 ^ (32 - by') % 4294967296 = (r0.getD (i + 1) 0 % 2 ^ by') * 2 ^ (32 - by') := by
    conv => lhs; rw [e32, Nat.mul_mod_mul_right]
   rw [hmod, a1D hd]
  ·rename_i hge
   have : r0.getD (i + 1) 0 = 0 := by rw [b9Q, c0q (by omega)]; rfl
   rw [this]; simp
 have hm1 : r0.getD (i + 1) 0 % 2 ^ by' + 1 <= 2 ^ by' := Nat.mod_lt _ hp0
 have hm2 : (r0.getD (i + 1) 0 % 2 ^ by' + 1) * 2 ^ (32 - by') <= 4294967296 := by
  have := c0r (2 ^ (32 - by')) hm1
  rw [<- e32] at this; exact this
 have hlt : t < 4294967296 := by rw [ht']; rw [Nat.add_mul, Nat.one_mul] at hm2; omega
 refine ⟨⟨by simp [h1], fun w hw => ?_, U1 _ h3, ?_⟩, hlt⟩
 ·rcases mem_set hw with rfl | hw
  ·exact hlt
  ·exact h2 w hw
 ·rw [K7 _ (by omega), y9 _ hi]
  rw [getD_lt hi] at h4
  have e1 : t * 2 ^ by' = r0[i] / 2 ^ by' * 2 ^ by' + (r0.getD (i + 1) 0 % 2 ^ by') * 4294967296 := by
   rw [ht', Nat.add_mul, c0o (r0.getD (i + 1) 0 % 2 ^ by'), Nat.mul_comm (2 ^ (32 - by')), <- e32]
  have e2 : r0[i] = r0[i] / 2 ^ by' * 2 ^ by' + r0[i] % 2 ^ by' := by
   have := Nat.div_add_mod r0[i] (2 ^ by')
   rw [Nat.mul_comm] at this; omega
  rw [Nat.add_mul, c0o, e1, c0s]
  generalize r0[i] / 2 ^ by' * 2 ^ by' = a at *
  generalize r0[i] % 2 ^ by' = b at *
  rw [e2]
  generalize r0.getD (i + 1) 0 % 2 ^ by' = c at *
  grind
theorem b1f {r0 : List Nat} {by' : Nat} {out : List Nat} (h : a2O r0 (2 ^ by') r0.length out) (hb : by' <= 32) {z : Nat} (hz : wv 4294967296 r0 = z * 2 ^ by') : wv 4294967296 out = z := by
 obtain ⟨h1, h2, _, h4⟩ := h
 have hp0 : 0 < (2 : Nat) ^ by' := Nat.pow_pos (by decide)
 rw [c0k (by omega), c0m, hz] at h4
 have e0 : r0.getD r0.length 0 = 0 := by rw [b9Q, c0q (b9T _)]; rfl
 rw [e0, Nat.zero_mod, Nat.mul_zero, Nat.add_zero] at h4
 have hm : r0.getD 0 0 % 2 ^ by' = 0 := by
  cases hr : r0 with
  | nil => simp
  | cons a l =>
   rw [hr] at hz
   simp only [wv] at hz
   have e32 : (4294967296 : Nat) = 2 ^ by' * 2 ^ (32 - by') := by rw [<- Nat.pow_add, show by' + (32 - by') = 32 by omega]
   rw [e32, c0o] at hz
   have h5 : (a + 2 ^ by' * (2 ^ (32 - by') * wv (2 ^ by' * 2 ^ (32 - by')) l)) % 2 ^ by' = a % 2 ^ by' := Nat.add_mul_mod_self_left ..
   rw [hz, Nat.mul_mod_left] at h5
   exact h5.symm
 rw [hm, Nat.add_zero] at h4
 exact Nat.eq_of_mul_eq_mul_right hp0 h4
def a7E (u v : List Nat) (d i : Nat) (out : List Nat) (c b : Nat) : Prop :=
 out.length = u.length /\ (∀ w ∈ out, w < 4294967296) /\ c < 4294967296 /\ b <= 1 /\ out.drop i = u.drop i /\ wv 4294967296 (out.take i) + d * wv 4294967296 (v.take i) = wv 4294967296 (u.take i) + 4294967296 ^ i * c + 4294967296 ^ i * b
theorem b4s {u : List Nat} (v : List Nat) (d : Nat) (h : ∀ w ∈ u, w < 4294967296) : a7E u v d 0 u 0 0 := ⟨rfl, h, by decide, by decide, rfl, by simp [wv]⟩
theorem b3R {u v : List Nat} {d i : Nat} {out : List Nat} {c b : Nat} (h : a7E u v d i out c b) (hi : i < v.length) (hu : i < u.length) (hv : v[i] < 4294967296) (hd : d < 4294967296) {t b' : Nat} (ht : t < 4294967296) (hb : b' <= 1)
  (hs : t + (c + d * v[i]) % 4294967296 + b = u[i] + 4294967296 * b') : a7E u v d (i + 1) (out.set i t) ((c + d * v[i]) / 4294967296) b' /\ c + d * v[i] <= 18446744073709551615 := by
 obtain ⟨h1, h2, h3, hb0, h4, h5⟩ := h
 have hm : d * v[i] <= 4294967295 * 4294967295 := Nat.mul_le_mul (by omega) (by omega)
 refine ⟨⟨by simp [h1], fun w hw => ?_, by omega, hb, U1 _ h4, ?_⟩, by omega⟩
 ·rcases mem_set hw with rfl | hw
  ·exact ht
  ·exact h2 w hw
 ·rw [K7 _ (by omega), y9 _ hi, y9 _ hu, c0s]
  have hdm : c + d * v[i] = (c + d * v[i]) % 4294967296 + 4294967296 * ((c + d * v[i]) / 4294967296) := by omega
  have e1 := congrArg (4294967296 ^ i * ·) hdm
  have e2 := congrArg (4294967296 ^ i * ·) hs
  generalize (c + d * v[i]) % 4294967296 = lo at *
  generalize (c + d * v[i]) / 4294967296 = hi' at *
  grind
theorem b4N {u v : List Nat} {d : Nat} {out : List Nat} {c b : Nat} (h : a7E u v d v.length out c b) (hl : u.length = v.length + 1) {t f : Nat} (ht : t < 4294967296) (hs : t + c + b = u[v.length] + 4294967296 * f) :
  wv 4294967296 (out.set v.length t) + d * wv 4294967296 v = wv 4294967296 u + 4294967296 ^ u.length * f /\ (∀ w ∈ out.set v.length t, w < 4294967296) := by
 obtain ⟨h1, h2, h3, hb0, h4, h5⟩ := h
 refine ⟨?_, fun w hw => ?_⟩
 ·have e0 := K7 4294967296 (l := out) (i := v.length) (by omega) t
  rw [c0k (by simp; omega)] at e0
  have e1 := y9 4294967296 (l := u) (i := v.length) (by omega)
  rw [c0k (by omega)] at e1
  rw [c0m] at h5
  have e2 := congrArg (4294967296 ^ v.length * ·) hs
  rw [hl, c0s, e0, e1]
  grind
 ·rcases mem_set hw with rfl | hw
  ·exact ht
  ·exact h2 w hw
def a7l (u v : List Nat) (i : Nat) (out : List Nat) (c : Nat) : Prop :=
 out.length = u.length /\ (∀ w ∈ out, w < 4294967296) /\ c <= 1 /\ out.drop i = u.drop i /\ wv 4294967296 (out.take i) + 4294967296 ^ i * c = wv 4294967296 (u.take i) + wv 4294967296 (v.take i)
theorem b3Z {u : List Nat} (v : List Nat) (h : ∀ w ∈ u, w < 4294967296) : a7l u v 0 u 0 := ⟨rfl, h, by decide, rfl, by simp [wv]⟩
theorem b3t {u v : List Nat} {i : Nat} {out : List Nat} {c : Nat} (h : a7l u v i out c) (hi : i < v.length) (hu : i < u.length) (hv : v[i] < 4294967296) (hx : u[i] < 4294967296) {s : Nat} (hs : s = c + u[i] + v[i]) :
  a7l u v (i + 1) (out.set i (s % 4294967296)) (s / 4294967296) := by
 obtain ⟨h1, h2, h3, h4, h5⟩ := h
 refine ⟨by simp [h1], fun w hw => ?_, by omega, U1 _ h4, ?_⟩
 ·rcases mem_set hw with rfl | hw
  ·exact Nat.mod_lt _ (by decide)
  ·exact h2 w hw
 ·rw [K7 _ (by omega), y9 _ hi, y9 _ hu, c0s]
  have hdm : s = s % 4294967296 + 4294967296 * (s / 4294967296) := by omega
  have e1 := congrArg (4294967296 ^ i * ·) hdm
  have e2 := congrArg (4294967296 ^ i * ·) hs
  generalize s % 4294967296 = lo at *
  generalize s / 4294967296 = hi' at *
  grind
theorem b5o {u v : List Nat} {out : List Nat} {c : Nat} (h : a7l u v v.length out c) (hl : u.length = v.length + 1) {t : Nat} (ht : t = (u[v.length] + c) % 4294967296) {z : Nat} (hz : wv 4294967296 u + wv 4294967296 v = z + 4294967296 ^ u.length) (hzl : z < 4294967296 ^ u.length) :
  wv 4294967296 (out.set v.length t) = z /\ (∀ w ∈ out.set v.length t, w < 4294967296) := by
 obtain ⟨h1, h2, h3, h4, h5⟩ := h
 have hb : ∀ w ∈ out.set v.length t, w < 4294967296 := fun w hw => by
  rcases mem_set hw with rfl | hw
  ·rw [ht]; exact Nat.mod_lt _ (by decide)
  ·exact h2 w hw
 refine ⟨?_, hb⟩
 have hlt := I9 4294967296 hb
 rw [c0p, h1] at hlt
 have e0 := K7 4294967296 (l := out) (i := v.length) (by omega) t
 rw [c0k (by simp; omega)] at e0
 have e1 := y9 4294967296 (l := u) (i := v.length) (by omega)
 rw [c0k (by omega)] at e1
 rw [c0m] at h5
 have hdm : u[v.length] + c = t + 4294967296 * ((u[v.length] + c) / 4294967296) := by omega
 generalize (u[v.length] + c) / 4294967296 = f at *
 have e2 := congrArg (4294967296 ^ v.length * ·) hdm
 have key : wv 4294967296 (out.set v.length t) + 4294967296 ^ u.length * f = z + 4294967296 ^ u.length := by
  rw [<- hz, hl, c0s, e0, e1]
  grind
 have hf : f = 1 := by
  rcases Nat.lt_trichotomy f 1 with h0 | h0 | h0
  ·have : f = 0 := by omega
   subst this; omega
  ·exact h0
  ·have := Nat.mul_le_mul_left (4294967296 ^ u.length) h0
   omega
 subst hf
 omega
def E5 (l : List Nat) : Prop := ∀ w ∈ l, w < 4294967296
theorem E5.take {l : List Nat} (h : E5 l) (n : Nat) : E5 (l.take n) := fun w hw => h w (List.mem_of_mem_take hw)
theorem E5.drop {l : List Nat} (h : E5 l) (n : Nat) : E5 (l.drop n) := fun w hw => h w (List.mem_of_mem_drop hw)
theorem E5.app {a b : List Nat} (h : E5 a) (k : E5 b) : E5 (a ++ b) := fun w hw => by
 rcases List.mem_append.1 hw with hw | hw
 ·exact h w hw
 ·exact k w hw
theorem E5.set {a : List Nat} (h : E5 a) {i v : Nat} (k : v < 4294967296) : E5 (a.set i v) := fun w hw => by
 rcases mem_set hw with rfl | hw
 ·exact k
 ·exact h w hw
theorem b7u {l : List Nat} {m : Nat} (h : l.length = m + 2) (ha : E5 l) : ∃ r, r < 4294967296 ^ m /\ wv 4294967296 l = r + (l[m + 1] * 4294967296 + l[m]) * 4294967296 ^ m := by
 refine ⟨wv 4294967296 (l.take m), ?_, ?_⟩
 ·have := I9 4294967296 (ha.take m)
  rw [b9V, Nat.min_eq_left (by omega)] at this
  exact this
 ·have e1 := y9 4294967296 (l := l) (i := m + 1) (by omega)
  have e2 := y9 4294967296 (l := l) (i := m) (by omega)
  rw [c0k (by omega)] at e1
  rw [e1, e2, c0s]
  grind
theorem b7O {l : List Nat} {m : Nat} (h : l.length = m + 3) (ha : E5 l) : ∃ r, r < 4294967296 ^ m /\ wv 4294967296 l = r + ((l[m + 2] * 4294967296 + l[m + 1]) * 4294967296 + l[m]) * 4294967296 ^ m := by
 refine ⟨wv 4294967296 (l.take m), ?_, ?_⟩
 ·have := I9 4294967296 (ha.take m)
  rw [b9V, Nat.min_eq_left (by omega)] at this
  exact this
 ·have e0 := y9 4294967296 (l := l) (i := m + 2) (by omega)
  have e1 := y9 4294967296 (l := l) (i := m + 1) (by omega)
  have e2 := y9 4294967296 (l := l) (i := m) (by omega)
  rw [c0k (by omega)] at e0
  rw [e0, e1, e2, c0s, c0s]
  grind
structure Est (W V v1 v2 top u2 p : Nat) : Prop where
 ge : (v1 * 4294967296 + v2) * p <= V
 lt : V < (v1 * 4294967296 + v2 + 1) * p
 wlt : W < (top * 4294967296 + u2 + 1) * p
 wge : (top * 4294967296 + u2) * p <= W
 hv1 : 0 < v1
 hv2 : v2 < 4294967296
 hu2 : u2 < 4294967296
 hW : W < 4294967296 * V
theorem Est.of {v win : List Nat} {m : Nat} (hv : v.length = m + 2) (hw : win.length = m + 3) (hva : E5 v) (hwa : E5 win) (h1 : 0 < v[m + 1]) (hW : wv 4294967296 win < 4294967296 * wv 4294967296 v) :
  Est (wv 4294967296 win) (wv 4294967296 v) v[m + 1] v[m] (win[m + 2] * 4294967296 + win[m + 1]) win[m] (4294967296 ^ m) := by
 obtain ⟨r, hr, e1⟩ := b7u hv hva
 obtain ⟨s, hs, e2⟩ := b7O hw hwa
 refine ⟨by rw [e1]; omega, by rw [e1, Nat.add_mul _ 1, Nat.one_mul]; omega, by rw [e2, Nat.add_mul _ 1, Nat.one_mul]; omega, by rw [e2]; omega, h1, hva _ (b9S _), hwa _ (b9S _), hW⟩
theorem Est.pos {W V v1 v2 top u2 p : Nat} (h : Est W V v1 v2 top u2 p) : 0 < V := by
 have := h.hW
 rcases c0f V with h0 | h0
 ·subst h0; omega
 ·exact h0
theorem Est.start {W V v1 v2 top u2 p : Nat} (h : Est W V v1 v2 top u2 p) : W / V <= top / v1 := by
 refine b8T (p := 4294967296 * p) ?_ ?_ h.hv1
 ·have := h.ge
  rw [Nat.add_mul, c0o] at this
  omega
 ·have h1 := h.wlt
  have h2 : (top * 4294967296 + u2 + 1) * p <= ((top + 1) * 4294967296) * p := c0r p (by have := h.hu2; omega)
  rw [c0o] at h2
  omega
theorem Est.dec {W V v1 v2 top u2 p d rest : Nat} (h : Est W V v1 v2 top u2 p) (hq : W / V <= d) (ht : top = d * v1 + rest) (hd : 4294967296 <= d \/ rest * 4294967296 + u2 < d * v2) : W / V < d := by
 rcases hd with hd | hd
 ·have : W / V < 4294967296 := by rw [Nat.div_lt_iff_lt_mul h.pos]; exact h.hW
  omega
 ·exact b7q h.ge h.wlt ht hd
theorem Est.fin {W V v1 v2 top u2 p d rest : Nat} (h : Est W V v1 v2 top u2 p) (hq : W / V <= d) (ht : top = d * v1 + rest) (hd : d < 4294967296) (hs : 4294967296 <= rest \/ d * v2 <= rest * 4294967296 + u2) : (d * V <= W /\ W / V = d) \/ (W < d * V /\ 0 < d /\ W / V = d - 1) := by
 refine b6t hq (b8d h.lt h.wge ht ?_ hd h.hv1) h.pos
 rcases hs with hs | hs
 ·have h1 : d * v2 <= 4294967296 * 4294967296 := Nat.mul_le_mul (by omega) (by have := h.hv2; omega)
  have h2 : 4294967296 * 4294967296 <= rest * 4294967296 := c0r _ hs
  omega
 ·exact hs
theorem Est.small {W V v1 v2 top u2 p d rest : Nat} (h : Est W V v1 v2 top u2 p) (ht : top = d * v1 + rest) (htop : top < v1 * 4294967296 + 4294967296) (hr : 4294967296 <= rest) : d < 4294967296 := by
 have hv := h.hv1
 have : d * v1 < 4294967296 * v1 := by rw [Nat.mul_comm 4294967296]; omega
 exact Nat.lt_of_mul_lt_mul_right this
def a4w (U0 : Nat) (v : List Nat) (L k : Nat) (u q : List Nat) : Prop :=
 u.length = L /\ E5 u /\ q.length = L - v.length /\ E5 q /\ wv 4294967296 u + 4294967296 ^ k * (wv 4294967296 v * wv 4294967296 (q.drop k)) = U0 /\ wv 4294967296 (u.drop k) < wv 4294967296 v
theorem a1m (B : Nat) {l : List Nat} {k : Nat} (h : k < l.length) : wv B (l.drop k) = l[k] + B * wv B (l.drop (k + 1)) := by
 rw [List.drop_eq_getElem_cons h]; rfl
theorem a9k {U0 : Nat} {v : List Nat} {L k : Nat} {u q : List Nat} (h : a4w U0 v L (k + 1) u q) (hv : E5 v) (hk : k + 1 <= L - v.length) :
  wv 4294967296 ((u.drop k).take (v.length + 1)) = wv 4294967296 (u.drop k) /\ wv 4294967296 (u.drop k) < 4294967296 * wv 4294967296 v /\ wv 4294967296 (u.drop (k + v.length + 1)) = 0 /\ ((u.drop k).take (v.length + 1)).length = v.length + 1 := by
 obtain ⟨h1, h2, h3, h4, h5, h6⟩ := h
 have hku : k < u.length := by omega
 have hx := h2 _ (b9S hku)
 have e1 := a1m 4294967296 hku
 have hlt : wv 4294967296 (u.drop k) < 4294967296 * wv 4294967296 v := by omega
 have hvl := I9 4294967296 hv
 have e2 := a1L 4294967296 (u.drop k) (v.length + 1) (by rw [c0y]; omega)
 rw [List.drop_drop] at e2
 have hz : wv 4294967296 (u.drop (k + v.length + 1)) = 0 := by
  rcases c0f (wv 4294967296 (u.drop (k + v.length + 1))) with h0 | h0
  ·exact h0
  ·exfalso
   rw [show k + (v.length + 1) = k + v.length + 1 by omega] at e2
   have h7 := Nat.mul_le_mul_left (4294967296 ^ (v.length + 1)) h0
   have h8 : 4294967296 * wv 4294967296 v <= 4294967296 * 4294967296 ^ v.length := Nat.mul_le_mul_left _ (Nat.le_of_lt hvl)
   rw [c0s] at h7 e2
   omega
 refine ⟨?_, hlt, hz, by rw [b9V, c0y]; omega⟩
 rw [show k + (v.length + 1) = k + v.length + 1 by omega, hz, Nat.mul_zero, Nat.add_zero] at e2
 exact e2.symm
theorem b4h {U0 : Nat} {v : List Nat} {L k : Nat} {u q win : List Nat} (h : a4w U0 v L (k + 1) u q) (hv : E5 v) (hk : k + 1 <= L - v.length) (hwl : win.length = v.length + 1) (hwa : E5 win) {d : Nat} (hd : d = wv 4294967296 (u.drop k) / wv 4294967296 v)
    (hw : wv 4294967296 win + d * wv 4294967296 v = wv 4294967296 (u.drop k)) (hpos : 0 < wv 4294967296 v) : a4w U0 v L k (u.take k ++ win ++ u.drop (k + v.length + 1)) (q.set k d) := by
  obtain ⟨g1, g2, g3, g4⟩ := a9k h hv hk
  obtain ⟨h1, h2, h3, h4, h5, h6⟩ := h
  have hku : k < u.length := by omega
  have hd32 : d < 4294967296 := by rw [hd, Nat.div_lt_iff_lt_mul hpos]; exact g2
  have hkq : k < q.length := by omega
  have hl : (u.take k ++ win ++ u.drop (k + v.length + 1)).length = L := by
    simp only [b9X, b9V, c0y]; omega
  have htk : (u.take k).length = k := by rw [b9V]; omega
  have hdk : (u.take k ++ win ++ u.drop (k + v.length + 1)).drop k = win ++ u.drop (k + v.length + 1) := by
    rw [c0t, List.drop_append, htk, Nat.sub_self, List.drop_of_length_le (by omega), List.nil_append, List.drop_zero]
  have hwv : wv 4294967296 (win ++ u.drop (k + v.length + 1)) = wv 4294967296 win := by rw [a5t, g3, Nat.mul_zero, Nat.add_zero]
  have hmod : wv 4294967296 win = wv 4294967296 (u.drop k) % wv 4294967296 v := by
    have := Nat.div_add_mod (wv 4294967296 (u.drop k)) (wv 4294967296 v)
    rw [<- hd, Nat.mul_comm] at this; omega
  refine ⟨hl, ((h2.take k).app hwa).app (h2.drop _), by simp [h3], h4.set hd32, ?_, ?_⟩
  · have e1 : wv 4294967296 (u.take k ++ win ++ u.drop (k + v.length + 1)) = wv 4294967296 (u.take k) + 4294967296 ^ k * wv 4294967296 win := by
      rw [c0t, a5t, htk, hwv]
    have e2 := a1L 4294967296 u k (by omega)
    have e3 : wv 4294967296 ((q.set k d).drop k) = d + 4294967296 * wv 4294967296 (q.drop (k + 1)) := by
      rw [a1m _ (by simpa using hkq), List.getElem_set_self, List.drop_set_of_lt (by omega)]
    rw [e1, e3, <- h5, e2, <- hw, c0s]
    grind
  · rw [hdk, hwv, hmod]
    exact Nat.mod_lt _ hpos
theorem b4y {U0 : Nat} {v : List Nat} {L : Nat} {u q : List Nat} (h : a4w U0 v L 0 u q) (hv : E5 v) (hl : v.length <= L) : wv 4294967296 q = U0 / wv 4294967296 v /\ wv 4294967296 (u.take v.length) = U0 % wv 4294967296 v := by
 obtain ⟨h1, h2, h3, h4, h5, h6⟩ := h
 rw [List.drop_zero] at h5 h6
 simp only [Nat.pow_zero, Nat.one_mul] at h5
 have hvl := I9 4294967296 hv
 have e2 := a1L 4294967296 u v.length (by omega)
 have hz : wv 4294967296 (u.drop v.length) = 0 := by
  rcases c0f (wv 4294967296 (u.drop v.length)) with h0 | h0
  ·exact h0
  ·have := Nat.mul_le_mul_left (4294967296 ^ v.length) h0
   omega
 rw [hz, Nat.mul_zero, Nat.add_zero] at e2
 rw [<- e2, <- h5]
 refine ⟨?_, ?_⟩
 ·rw [Nat.add_mul_div_left _ _ (by omega), Nat.div_eq_of_lt h6, c0n]
 ·rw [Nat.add_mul_mod_self_left, Nat.mod_eq_of_lt h6]
def a1x (l : List UInt8) (i : Nat) (out : List Nat) : Prop :=
 out.length = (l.length + 7) / 8 /\ (∀ w ∈ out, w < 18446744073709551616) /\ wv 18446744073709551616 out = val (l.drop (l.length - i)) /\ ∀ j (h : j < out.length), out[j] < 256 ^ (i - 8 * j)
theorem a7I (l : List UInt8) : a1x l 0 (List.replicate ((l.length + 7) / 8) 0) := by
 refine ⟨by simp, fun w hw => by rw [c0h hw]; decide, ?_, fun j h => by simp⟩
 rw [a4C]; simp [val]
theorem b2D (i : Nat) : 18446744073709551616 ^ (i / 8) * 256 ^ (i % 8) = 256 ^ i := by
 have h : (18446744073709551616 : Nat) = 256 ^ 8 := by decide
 rw [h, <- Nat.pow_mul, <- Nat.pow_add]
 congr 1; omega
theorem a7R {l : List UInt8} {i : Nat} {out : List Nat} (h : a1x l i out) (hi : i < l.length) (hj : i / 8 < out.length) :
  a1x l (i + 1) (out.set (i / 8) (out[i / 8] ||| (l[l.length - 1 - i]).toNat * 2 ^ (8 * (i % 8)))) /\ out[i / 8] ||| (l[l.length - 1 - i]).toNat * 2 ^ (8 * (i % 8)) < 18446744073709551616 /\ (l[l.length - 1 - i]).toNat * 2 ^ (8 * (i % 8)) < 18446744073709551616 := by
 obtain ⟨h1, h2, h3, h4⟩ := h
 have e256 : 2 ^ (8 * (i % 8)) = 256 ^ (i % 8) := by rw [Nat.pow_mul]
 have hb := (l[l.length - 1 - i]).toNat_lt
 have hlow := h4 (i / 8) hj
 rw [show i - 8 * (i / 8) = i % 8 by omega] at hlow
 have hor : out[i / 8] ||| (l[l.length - 1 - i]).toNat * 2 ^ (8 * (i % 8)) = out[i / 8] + (l[l.length - 1 - i]).toNat * 256 ^ (i % 8) := by
  rw [a1D (by rw [e256]; exact hlow), e256]
 rw [hor, e256]
 have hpos := Nat.pow_pos (n := i % 8) (show 0 < 256 by decide)
 have hmul : (l[l.length - 1 - i]).toNat * 256 ^ (i % 8) <= 255 * 256 ^ (i % 8) := c0r _ (by omega)
 have hnew : out[i / 8] + (l[l.length - 1 - i]).toNat * 256 ^ (i % 8) < 256 ^ (i % 8 + 1) := by rw [c0s]; omega
 have h4p : (256 : Nat) ^ (i % 8 + 1) <= 256 ^ 8 := c0i (by decide) (by omega)
 have h44 : (256 : Nat) ^ 8 = 18446744073709551616 := by decide
 refine ⟨⟨by simp [h1], fun w hw => ?_, ?_, fun j hjl => ?_⟩, by omega, by omega⟩
 ·rcases mem_set hw with rfl | hw
  ·omega
  ·exact h2 w hw
 ·have hs := a2Y 18446744073709551616 hj (out[i / 8] + (l[l.length - 1 - i]).toNat * 256 ^ (i % 8))
  rw [Nat.mul_add, <- c0o, Nat.mul_right_comm, c0o, Nat.mul_comm (l[l.length - 1 - i]).toNat, Nat.mul_comm _ (l[l.length - 1 - i]).toNat] at hs
  rw [show l.length - (i + 1) = l.length - 1 - i by omega, a4P hi, <- h3, <- b2D i]
  have : 18446744073709551616 ^ (i / 8) * ((l[l.length - 1 - i]).toNat * 256 ^ (i % 8)) = (l[l.length - 1 - i]).toNat * (18446744073709551616 ^ (i / 8) * 256 ^ (i % 8)) := by grind
  have hs' := a2Y 18446744073709551616 hj (out[i / 8] + (l[l.length - 1 - i]).toNat * 256 ^ (i % 8))
  rw [Nat.mul_add] at hs'
  omega
 ·rw [List.getElem_set]
  split
  ·rename_i e; subst e
   rw [show i + 1 - 8 * (i / 8) = i % 8 + 1 by omega]; exact hnew
  ·have h5 := h4 j (by simpa using hjl)
   have : (256 : Nat) ^ (i - 8 * j) <= 256 ^ (i + 1 - 8 * j) := c0i (by decide) (by omega)
   omega
def a1G (x y : List Nat) (i : Nat) (out : List Nat) (c : Nat) : Prop :=
 out.length = x.length /\ (∀ w ∈ out, w < 18446744073709551616) /\ c <= 1 /\ out.drop i = x.drop i /\ wv 18446744073709551616 (out.take i) + wv 18446744073709551616 (y.take i) + 18446744073709551616 ^ i * 0 = wv 18446744073709551616 (x.take i) + 18446744073709551616 ^ i * c
theorem a4M {x : List Nat} (y : List Nat) (hx : ∀ w ∈ x, w < 18446744073709551616) : a1G x y 0 x 0 := by
 refine ⟨rfl, hx, by omega, rfl, by simp [wv]⟩
theorem a4K {x y : List Nat} {i : Nat} {out : List Nat} {c : Nat} (h : a1G x y i out c) (hi : i < x.length) {t c' : Nat} (ht : t < 18446744073709551616) (hc : c' <= 1) (hs : t + c + y.getD i 0 = x[i] + 18446744073709551616 * c') :
  a1G x y (i + 1) (out.set i t) c' := by
 obtain ⟨h1, h2, h3, hd, h4⟩ := h
 refine ⟨by simp [h1], fun w hw => ?_, hc, U1 _ hd, ?_⟩
 ·rcases mem_set hw with rfl | hw
  ·exact ht
  ·exact h2 w hw
 ·rw [K7 _ (by omega), y9 _ hi, a1k]
  have e := congrArg (18446744073709551616 ^ i * ·) hs
  simp only [Nat.mul_add] at e
  rw [<- c0o, <- c0s] at e
  simp only [Nat.succ_eq_add_one] at e
  omega
theorem a5F {x y : List Nat} {out : List Nat} {c : Nat} (h : a1G x y x.length out c) (hl : y.length <= x.length) (hle : wv 18446744073709551616 y <= wv 18446744073709551616 x) : c = 0 /\ wv 18446744073709551616 out + wv 18446744073709551616 y = wv 18446744073709551616 x := by
 obtain ⟨h1, h2, h3, _, h4⟩ := h
 rw [c0m, c0k (by omega), c0k hl] at h4
 have := I9 18446744073709551616 h2
 rw [h1] at this
 have hc : c = 0 := by
  rcases c0f c with h0 | h0
  ·exact h0
  ·have : c = 1 := by omega
   subst this
   omega
 subst hc
 exact ⟨rfl, by omega⟩
def a0u (r0 : List Nat) (p i : Nat) (out : List Nat) : Prop :=
 out.length = r0.length /\ (∀ w ∈ out, w < 18446744073709551616) /\ out.drop i = r0.drop i /\ wv 18446744073709551616 (out.take i) * p + r0.getD 0 0 % p = wv 18446744073709551616 (r0.take i) + 18446744073709551616 ^ i * (r0.getD i 0 % p)
theorem a3i {r0 : List Nat} {p : Nat} (h : ∀ w ∈ r0, w < 18446744073709551616) : a0u r0 p 0 r0 := ⟨rfl, h, rfl, by simp [wv]⟩
theorem a3p {r0 : List Nat} {by' i : Nat} {out : List Nat} (h : a0u r0 (2 ^ by') i out) (hb : by' < 64) (hi : i < r0.length) (h0 : ∀ w ∈ r0, w < 18446744073709551616) {t : Nat}
  (ht : t = if i + 1 < r0.length then r0[i] / 2 ^ by' ||| (r0.getD (i + 1) 0 * 2 ^ (64 - by') % 18446744073709551616) else r0[i] / 2 ^ by') : a0u r0 (2 ^ by') (i + 1) (out.set i t) /\ t < 18446744073709551616 := by
 obtain ⟨h1, h2, h3, h4⟩ := h
 have hp0 : 0 < (2 : Nat) ^ by' := Nat.pow_pos (by decide)
 have hx := h0 _ (b9S hi)
 have e32 : (18446744073709551616 : Nat) = 2 ^ by' * 2 ^ (64 - by') := by rw [<- Nat.pow_add, show by' + (64 - by') = 64 by omega]
 have hd : r0[i] / 2 ^ by' < 2 ^ (64 - by') := by
  rw [Nat.div_lt_iff_lt_mul hp0, Nat.mul_comm, <- e32]; exact hx
 have ht' : t = r0[i] / 2 ^ by' + (r0.getD (i + 1) 0 % 2 ^ by') * 2 ^ (64 - by') := by
  rw [ht]
  split
  ·rename_i hlt
   have hmod : r0.getD (i + 1) 0 * 2 ^ (64 - by') % 18446744073709551616 = (r0.getD (i + 1) 0 % 2 ^ by') * 2 ^ (64 - by') := by
    conv => lhs; rw [e32, Nat.mul_mod_mul_right]
   rw [hmod, a1D hd]
  ·rename_i hge
   have : r0.getD (i + 1) 0 = 0 := by rw [b9Q, c0q (by omega)]; rfl
   rw [this]; simp
 have hm1 : r0.getD (i + 1) 0 % 2 ^ by' + 1 <= 2 ^ by' := Nat.mod_lt _ hp0
 have hm2 : (r0.getD (i + 1) 0 % 2 ^ by' + 1) * 2 ^ (64 - by') <= 18446744073709551616 := by
  have := c0r (2 ^ (64 - by')) hm1
  rw [<- e32] at this; exact this
 have hlt : t < 18446744073709551616 := by rw [ht']; rw [Nat.add_mul, Nat.one_mul] at hm2; omega
 refine ⟨⟨by simp [h1], fun w hw => ?_, U1 _ h3, ?_⟩, hlt⟩
 ·rcases mem_set hw with rfl | hw
  ·exact hlt
  ·exact h2 w hw
 ·rw [K7 _ (by omega), y9 _ hi]
  rw [getD_lt hi] at h4
  have e1 : t * 2 ^ by' = r0[i] / 2 ^ by' * 2 ^ by' + (r0.getD (i + 1) 0 % 2 ^ by') * 18446744073709551616 := by
   rw [ht', Nat.add_mul, c0o (r0.getD (i + 1) 0 % 2 ^ by'), Nat.mul_comm (2 ^ (64 - by')), <- e32]
  have e2 : r0[i] = r0[i] / 2 ^ by' * 2 ^ by' + r0[i] % 2 ^ by' := by
   have := Nat.div_add_mod r0[i] (2 ^ by')
   rw [Nat.mul_comm] at this; omega
  rw [Nat.add_mul, c0o, e1, c0s]
  generalize r0[i] / 2 ^ by' * 2 ^ by' = a at *
  generalize r0[i] % 2 ^ by' = b at *
  rw [e2]
  generalize r0.getD (i + 1) 0 % 2 ^ by' = c at *
  grind
theorem a3N {r0 : List Nat} {by' : Nat} {out : List Nat} (h : a0u r0 (2 ^ by') r0.length out) (hb : by' <= 64) {z : Nat} (hz : wv 18446744073709551616 r0 = z * 2 ^ by') : wv 18446744073709551616 out = z := by
 obtain ⟨h1, h2, _, h4⟩ := h
 have hp0 : 0 < (2 : Nat) ^ by' := Nat.pow_pos (by decide)
 rw [c0k (by omega), c0m, hz] at h4
 have e0 : r0.getD r0.length 0 = 0 := by rw [b9Q, c0q (b9T _)]; rfl
 rw [e0, Nat.zero_mod, Nat.mul_zero, Nat.add_zero] at h4
 have hm : r0.getD 0 0 % 2 ^ by' = 0 := by
  cases hr : r0 with
  | nil => simp
  | cons a l =>
   rw [hr] at hz
   simp only [wv] at hz
   have e32 : (18446744073709551616 : Nat) = 2 ^ by' * 2 ^ (64 - by') := by rw [<- Nat.pow_add, show by' + (64 - by') = 64 by omega]
   rw [e32, c0o] at hz
   have h5 : (a + 2 ^ by' * (2 ^ (64 - by') * wv (2 ^ by' * 2 ^ (64 - by')) l)) % 2 ^ by' = a % 2 ^ by' := Nat.add_mul_mod_self_left ..
   rw [hz, Nat.mul_mod_left] at h5
   exact h5.symm
 rw [hm, Nat.add_zero] at h4
 exact Nat.eq_of_mul_eq_mul_right hp0 h4
structure Rt where
 neg : Bool
 num : List UInt8
 den : List UInt8
 deriving DecidableEq
def sgn (neg : Bool) (n : Nat) : Int := if neg = true then -(n : Int) else n
instance (l : List UInt8) : Decidable (canon l) := match l with
 | [] => .isTrue a5n
 | b :: r => if h : b = 0 then .isFalse fun hc => hc r (by rw [h]) else .isTrue fun q e => h (by injection e)
def Rt.G5 (a : Rt) : Prop := a.den ≠ [] /\ canon a.den /\ canon a.num /\ (a.num = [] -> a.neg = false /\ a.den = [1]) /\ (a.den = [1] \/ Nat.gcd (val a.num) (val a.den) = 1)
instance (a : Rt) : Decidable a.G5 := by unfold Rt.G5; infer_instance
def ofQ (q : Rat) : Rt := ⟨decide (q.num < 0), enc q.num.natAbs, enc q.den⟩
def toQ (a : Rt) : Rat := mkRat (sgn a.neg (val a.num)) (val a.den)
def j4 (a : Rt) : Rat := if a.G5 then toQ a else 0
theorem a1e : enc 1 = [1] := by
 have : val [1] = 1 := rfl
 rw [<- this, a5S]; rfl
theorem b3b (q : Rat) : sgn (decide (q.num < 0)) q.num.natAbs = q.num := by
 unfold sgn
 by_cases h : q.num < 0
 ·rw [if_pos (by simpa using h)]; omega
 ·rw [if_neg (by simpa using h)]; omega
theorem b9p (q : Rat) : toQ (ofQ q) = q := by
 unfold toQ ofQ
 simp only [H9, b3b]
 exact Rat.mkRat_self q
theorem a2C (q : Rat) : (ofQ q).G5 := by
 unfold Rt.G5 ofQ
 simp only [H9]
 refine ⟨a3X q.den_nz, a2g _, a2g _, fun h => ?_, .inr q.reduced⟩
 have h0 : q.num.natAbs = 0 := by
  rcases c0f q.num.natAbs with h0 | h0
  ·exact h0
  ·exact absurd h (a3X (by omega))
 have h1 := q.reduced
 rw [Nat.Coprime, h0, Nat.gcd_zero_left] at h1
 rw [h1, a1e]
 exact ⟨decide_eq_false (by omega), rfl⟩
theorem a2r (b : Bool) (n : Nat) : (sgn b n).natAbs = n := by unfold sgn; split <;> omega
theorem b8j {a : Rt} (h : a.G5) : Nat.gcd (val a.num) (val a.den) = 1 := by
 rcases h.2.2.2.2 with h1 | h1
 ·rw [h1]; exact Nat.gcd_one_right _
 ·exact h1
theorem den_pos {a : Rt} (h : a.G5) : val a.den ≠ 0 := fun h0 => h.1 ((val_zero h.2.1).1 h0)
theorem b7B {a : Rt} (h : a.G5) : (toQ a).num = sgn a.neg (val a.num) /\ (toQ a).den = val a.den := by
 unfold toQ
 rw [Rat.num_mkRat, Rat.den_mkRat, if_neg (den_pos h), if_neg (den_pos h), a2r, Nat.gcd_comm, b8j h]
 simp
theorem b9o {a : Rt} (h : a.G5) : ofQ (toQ a) = a := by
 obtain ⟨h1, h2⟩ := b7B h
 obtain ⟨neg, num, den⟩ := a
 unfold ofQ
 rw [h1, h2, a2r]
 simp only [a0i h.2.1, a0i h.2.2.1] at *
 congr 1
 have hz := val_zero h.2.2.1
 have h3 := h.2.2.2.1
 simp only at hz h3
 unfold sgn
 cases neg with
 | true =>
  simp only [if_true]
  have : val num ≠ 0 := fun h0 => by have := (h3 (hz.1 h0)).1; cases this
  exact decide_eq_true (by omega)
 | false =>
  simp only [c0z, if_false]
  exact decide_eq_false (by omega)
theorem X8 (q : Rat) : j4 (ofQ q) = q := by unfold j4; rw [if_pos (a2C q), b9p]
theorem b5J {a : Rt} (h : a.G5) : ofQ (j4 a) = a := by unfold j4; rw [if_pos h, b9o h]
def a1O : Rt := ⟨false, [], [1]⟩
theorem a6N : ofQ 0 = a1O := by
 unfold ofQ a1O
 have h1 : (0 : Rat).num = 0 := rfl
 have h2 : (0 : Rat).den = 1 := rfl
 rw [h1, h2, a1e]
 simp [a0s]
theorem a8r (neg : Bool) {n d : Nat} (hd : d ≠ 0) : (if n = 0 then a1O else ⟨neg, enc (n / Nat.gcd n d), enc (d / Nat.gcd n d)⟩) = ofQ (mkRat (sgn neg n) d) := by
 split
 ·rename_i h0
  subst h0
  have : sgn neg 0 = 0 := by unfold sgn; split <;> rfl
  rw [this, Rat.zero_mkRat, a6N]
 ·rename_i h0
  unfold ofQ
  rw [Rat.num_mkRat, Rat.den_mkRat, if_neg hd, if_neg hd, a2r, Nat.gcd_comm d n]
  have hg : 0 < Nat.gcd n d := Nat.gcd_pos_of_pos_right _ (by omega)
  have hdv : Nat.gcd n d ∣ n := Nat.gcd_dvd_left ..
  have hq : 0 < n / Nat.gcd n d := Nat.div_pos (Nat.le_of_dvd (by omega) hdv) hg
  have e : sgn neg n / ((Nat.gcd n d : Nat) : Int) = sgn neg (n / Nat.gcd n d) := by
   unfold sgn
   split
   ·rw [Int.neg_ediv_of_dvd (by exact Int.ofNat_dvd.2 hdv)]; simp
   ·simp
  rw [e, a2r]
  congr 1
  unfold sgn
  cases neg with
  | true => simp only [if_true]; exact (decide_eq_true (by omega)).symm
  | false => simp only [c0z, if_false]; exact (decide_eq_false (by omega)).symm
def J4 (neg : Bool) (a : Nat) (mi : Bool) (b : Nat) : Bool × Nat := if neg = mi then (neg, a + b) else if b <= a then (neg, a - b) else (mi, b - a)
theorem a8T (neg : Bool) (a : Nat) (mi : Bool) (b : Nat) : sgn (J4 neg a mi b).1 (J4 neg a mi b).2 = sgn neg a + sgn mi b := by
 unfold J4 sgn
 cases neg <;> cases mi <;> simp only [if_true, c0z, if_false, reduceCtorEq] <;> (try split) <;> simp_all <;> omega
theorem b7n (x y : Bool) (a b : Nat) : sgn (x != y) (a * b) = sgn x a * sgn y b := by
 unfold sgn
 cases x <;> cases y <;> simp [Int.natCast_mul, Int.neg_mul, Int.mul_neg]
theorem a6y (x : Bool) (a b : Nat) : sgn x (a * b) = sgn x a * (b : Int) := by
 unfold sgn
 cases x <;> simp [Int.natCast_mul, Int.neg_mul]
def G8 (a b : Rat) : Int := if a < b then -1 else if a = b then 0 else 1
def W9 (a b : Nat) : Int := if a < b then -1 else if a = b then 0 else 1
theorem b7k (a b : Rat) : G8 a b = if decide (a.num < 0) ≠ decide (b.num < 0) then (if decide (a.num < 0) = true then -1 else 1) else if decide (a.num < 0) = true then - W9 (a.num.natAbs * b.den) (b.num.natAbs * a.den) else W9 (a.num.natAbs * b.den) (b.num.natAbs * a.den) := by
 have hlt := Rat.lt_iff a b
 have hlt2 := Rat.lt_iff b a
 have hd1 : 0 < (a.den : Int) := by have := a.den_pos; omega
 have hd2 : 0 < (b.den : Int) := by have := b.den_pos; omega
 have heq : a = b <-> a.num * b.den = b.num * a.den := by
  constructor
  ·rintro rfl; rfl
  ·intro h
   have h1 : ¬ a < b := fun h' => by have := hlt.1 h'; omega
   have h2 : ¬ b < a := fun h' => by have := hlt2.1 h'; omega
   exact Rat.le_antisymm (Rat.not_lt.1 h2) (Rat.not_lt.1 h1)
 unfold G8
 simp only [hlt, heq]
 by_cases hA : a.num < 0
 ·by_cases hB : b.num < 0
  ·simp only [decide_eq_true hA, decide_eq_true hB, ne_eq, not_true_eq_false, if_false, if_true]
   have e1 : a.num * b.den = -((a.num.natAbs * b.den : Nat) : Int) := by
    rw [Int.natCast_mul, <- Int.neg_mul]; congr 1; omega
   have e2 : b.num * a.den = -((b.num.natAbs * a.den : Nat) : Int) := by
    rw [Int.natCast_mul, <- Int.neg_mul]; congr 1; omega
   rw [e1, e2]
   unfold W9
   repeat' split
   all_goals omega
  ·simp only [decide_eq_true hA, decide_eq_false hB, ne_eq, reduceCtorEq, not_false_eq_true, if_true]
   have e1 : a.num * b.den < 0 := Int.mul_neg_of_neg_of_pos hA hd2
   have e2 : 0 <= b.num * a.den := Int.mul_nonneg (by omega) (by omega)
   rw [if_pos (by omega)]
 ·by_cases hB : b.num < 0
  ·simp only [decide_eq_false hA, decide_eq_true hB, ne_eq, reduceCtorEq, not_false_eq_true, if_true, if_false]
   have e1 : b.num * a.den < 0 := Int.mul_neg_of_neg_of_pos hB hd1
   have e2 : 0 <= a.num * b.den := Int.mul_nonneg (by omega) (by omega)
   rw [if_neg (by omega), if_neg (by omega)]
  ·simp only [decide_eq_false hA, decide_eq_false hB, ne_eq, reduceCtorEq, not_true_eq_false, if_false]
   have e1 : a.num * b.den = ((a.num.natAbs * b.den : Nat) : Int) := by
    rw [Int.natCast_mul]; congr 1; omega
   have e2 : b.num * a.den = ((b.num.natAbs * a.den : Nat) : Int) := by
    rw [Int.natCast_mul]; congr 1; omega
   rw [e1, e2]
   unfold W9
   repeat' split
   all_goals omega
theorem a4H {d y : Nat} (hy : y % 2 = 1) (k : Nat) : Nat.gcd (2 ^ k * d) y = Nat.gcd d y := by
 have hc : Nat.Coprime (2 ^ k) y := by
  apply Nat.Coprime.pow_left
  have : Nat.gcd 2 y = Nat.gcd (y % 2) 2 := Nat.gcd_rec 2 y
  unfold Nat.Coprime
  rw [this, hy]
  rfl
 exact Nat.Coprime.gcd_mul_left_cancel d hc
theorem a8V {x y : Nat} (h : y <= x) : Nat.gcd (x - y) y = Nat.gcd x y := by
 have : x = (x - y) + y := by omega
 conv => rhs; rw [this]
 rw [Nat.gcd_add_self_left]
theorem b6y {x y n m : Nat} (hx : x % 2 = 1) (hy : y % 2 = 1) : Nat.gcd (2 ^ n * x) (2 ^ m * y) = 2 ^ (min n m) * Nat.gcd x y := by
 rcases Nat.le_total n m with h | h
 ·rw [Nat.min_eq_left h]
  obtain ⟨k, rfl⟩ : ∃ k, m = n + k := ⟨m - n, by omega⟩
  rw [Nat.pow_add, c0o, Nat.gcd_mul_left, Nat.gcd_comm x, a4H hx, Nat.gcd_comm]
 ·rw [Nat.min_eq_right h]
  obtain ⟨k, rfl⟩ : ∃ k, n = m + k := ⟨n - m, by omega⟩
  rw [Nat.pow_add, c0o, Nat.gcd_mul_left, a4H hy]
def v2 (n : Nat) : Nat := if n = 0 then 0 else if n % 2 = 1 then 0 else 1 + v2 (n / 2)
termination_by n
decreasing_by omega
theorem a1C {n : Nat} (h : n ≠ 0) : ∃ q, n = 2 ^ v2 n * q /\ q % 2 = 1 := by
 induction n using Nat.strongRecOn with
 | _ n ih =>
  unfold v2
  rw [if_neg h]
  split
  ·rename_i h1; exact ⟨n, by simp, h1⟩
  ·obtain ⟨q, h1, h2⟩ := ih (n / 2) (by omega) (by omega)
   refine ⟨q, ?_, h2⟩
   rw [Nat.pow_add, Nat.pow_one, c0o, <- h1]
   omega
theorem b6U {n k q : Nat} (h : n = 2 ^ k * q) (hq : q % 2 = 1) : v2 n = k := by
 induction k generalizing n with
 | zero =>
  unfold v2
  rw [Nat.pow_zero, Nat.one_mul] at h
  subst h
  rw [if_neg (by omega), if_pos hq]
 | succ k ih =>
  rw [c0s, Nat.mul_comm (2 ^ k), c0o] at h
  have h1 : n / 2 = 2 ^ k * q := by omega
  have h0 : 0 < 2 ^ k * q := Nat.mul_pos (Nat.pow_pos (by decide)) (by omega)
  unfold v2
  rw [if_neg (by omega), if_neg (by omega), ih h1]
  omega
end Go.Proofs.YtgmlehjgpgdjhaaGreatDoor.Nm
namespace Go.Proofs.YtgmlehjgpgdjhaaGreatDoor
open Go Go.RowKit Eng
def bs (l : List UInt8) : ByteArray := ⟨l.toArray⟩
theorem b8t (a b : List UInt8) : bs a ++ bs b = bs (a ++ b) := by
 apply ByteArray.ext
 simp [bs]
theorem D6 (a : List UInt8) : (bs a).size = a.length := by simp [bs, ByteArray.size]
theorem N7 (l : List UInt8) : (bs l).data.toList = l := by simp [bs]
theorem b1o {a b : List UInt8} (h : bs a = bs b) : a = b := by
 have := congrArg (fun x : ByteArray => x.data.toList) h
 simpa [N7] using this
theorem b3D (a b : List UInt8) : (bs a = bs b) = (a = b) := propext ⟨b1o, fun h => by rw [h]⟩
theorem a2s (l : List UInt8) : (⟨l.toArray⟩ : ByteArray) = bs l := rfl
theorem a7G (l : List UInt8) (i j : Nat) : (bs l).extract i j = bs ((l.take j).drop i) := by
 apply ByteArray.ext
 apply Array.ext'
 simp [bs, ByteArray.data_extract, Array.toList_extract, List.drop_take, List.extract_eq_take_drop]
def sb (l : List UInt8) : C := .v (.string (bs l))
def ints (n : Int) : C := .v (.int .i64 n)
def wd (w : Nat) : List C := [.v (.int .u32 w)]
def lm (w : Nat) : List C := [.v (.int .u64 w)]
attribute [go_sem] sb ints
theorem b0m (n : Nat) : IntKind.u32.wrap (n : Int) = ((n % 4294967296 : Nat) : Int) := by
 have h1 : IntKind.u32.wrap (n : Int) = (n : Int) % 4294967296 := by simp [IntKind.wrap, IntKind.signed, IntKind.bits]
 rw [h1]
 omega
theorem a0H (n : Nat) : IntKind.u8.wrap (n : Int) = ((n % 256 : Nat) : Int) := by
 have h1 : IntKind.u8.wrap (n : Int) = (n : Int) % 256 := by simp [IntKind.wrap, IntKind.signed, IntKind.bits]
 rw [h1]
 omega
theorem a2M (n : Nat) : IntKind.u64.wrap (n : Int) = ((n % 18446744073709551616 : Nat) : Int) := by
 have h1 : IntKind.u64.wrap (n : Int) = (n : Int) % 18446744073709551616 := by simp [IntKind.wrap, IntKind.signed, IntKind.bits]
 rw [h1]
 omega
theorem a8g (a b : Nat) (ha : a < 18446744073709551616) (hb : b < 18446744073709551616) : bits .or .u64 (a : Int) (b : Int) = ((a ||| b : Nat) : Int) := bits_or_u64_nat a b ha hb
theorem b5w (a b : Nat) (ha : a < 4294967296) (hb : b < 4294967296) : bits .or .u32 (a : Int) (b : Int) = ((a ||| b : Nat) : Int) := by
 have hx : a ||| b < 2 ^ 32 := Nat.or_lt_two_pow (by omega) (by omega)
 have h1 : (BitVec.ofInt 32 (a : Int)).toNat = a := by
  rw [BitVec.ofInt_natCast, BitVec.toNat_ofNat]; exact Nat.mod_eq_of_lt (by omega)
 have h2 : (BitVec.ofInt 32 (b : Int)).toNat = b := by
  rw [BitVec.ofInt_natCast, BitVec.toNat_ofNat]; exact Nat.mod_eq_of_lt (by omega)
 show IntKind.u32.wrap ((BitVec.ofInt 32 (a : Int) ||| BitVec.ofInt 32 (b : Int)).toNat : Int) = _
 rw [BitVec.toNat_or, h1, h2, Eng.wrap_u32 (by omega)]
theorem a0X (n k : Nat) : Int.fdiv (n : Int) (k : Int) = ((n / k : Nat) : Int) := by
 rw [Int.fdiv_eq_ediv_of_nonneg _ (by omega)]
 rfl
end Go.Proofs.YtgmlehjgpgdjhaaGreatDoor
namespace Go.Proofs.YtgmlehjgpgdjhaaGreatDoor.Eng
open Go Go.RowKit
def TT (k : Nat) : Operand := .tmp k
def II (n : Int) : Operand := .const (.int .i64 n)
def OA (d : Nat) (x : IOp) : C9 := ⟨some d, x, none⟩
def OB (x : IOp) : C9 := ⟨none, x, none⟩
def OC (d : Nat) (x : IOp) (s : Nat) (b : Bool) : C9 := ⟨some d, x, some (s, b)⟩
def MM (d s : Nat) : C9 := ⟨some d, .mv (.tmp s), none⟩
def LL (d z s : Nat) : C9 := ⟨some d, .load true z (.tmp s), none⟩
def VV (d s : Nat) : C9 := ⟨some d, .load false 1 (.tmp s), none⟩
def FF (d o s : Nat) : C9 := ⟨some d, .a2w o (.tmp s), none⟩
def MG (d s k : Nat) (b : Bool) : C9 := ⟨some d, .mv (.tmp s), some (k, b)⟩
def LG (d z s k : Nat) (b : Bool) : C9 := ⟨some d, .load true z (.tmp s), some (k, b)⟩
def VG (d s k : Nat) (b : Bool) : C9 := ⟨some d, .load false 1 (.tmp s), some (k, b)⟩
def FG (d o s k : Nat) (b : Bool) : C9 := ⟨some d, .a2w o (.tmp s), some (k, b)⟩
end Go.Proofs.YtgmlehjgpgdjhaaGreatDoor.Eng
namespace Go.Proofs.YtgmlehjgpgdjhaaGreatDoor
open Go Eng
def b9z : List Nat := [28, 30, 31, 34, 35, 36, 37, 38, 39, 80, 81, 83, 100, 128, 145, 147, 149, 151, 152, 153, 157, 160, 161, 162]
def eff (f : Nat) : Bool := b9z.contains f
def a7O : E9 := ⟨89, [.tmp 4], .seq (.reg [OA 4 (.mv (.const (.string ⟨#[]⟩)))]) (.seq (.reg [MM 13 0, OA 14 (.call 124 [TT 13]), MM 15 1, OA 16 (.call 124 [TT 15]), MM 0 14, MM 1 16]) (.seq (.seq (.reg [MM 17 0, OA 18 (.len true (TT 17)), MM 19
 1, OA 20 (.len true (TT 19)), OA 21 (.bin .add (TT 18) (TT 20)), OA 22 (.bin .leq (TT 21) (II 8))]) (.cond (TT 22) (.seq (.reg [MM 23 0, OA 24 (.call 127 [TT 23]), MM 25 1, OA 26 (.call 127 [TT 25]), OA 27 (.bin .mul (TT 24) (TT
 26)), OA 28 (.call 126 [TT 27]), MM 4 28]) .ret) .skip)) (.seq (.reg [MM 29 0, OA 30 (.call 128 [TT 29]), MM 31 1, OA 32 (.call 128 [TT 31]), MM 5 30, MM 6 32]) (.seq (.reg [MM 33 5, OA 34 (.len false (TT 33)), MM 35 6, OA 36
 (.len false (TT 35)), OA 37 (.bin .add (TT 34) (TT 36)), OA 38 (.V7 188 4 [.int .u32 0] (TT 37) (TT 37)), MM 7 38]) (.seq (.seq (.reg [MM 39 5, OA 40 (.len false (TT 39)), OA 41 (.mv (II 0))]) (.block 0 (.loop (.seq (.reg [OA
 42 (.bin .lss (TT 41) (TT 40))]) (.seq (.cond (TT 42) .skip (.exit 0)) (.seq (.block 1 (.seq (.reg [MM 43 41, OA 44 (.j6 1 (TT 39) (TT 41)), VV 45 44, MM 8 43, MM 9 45]) (.seq (.reg [OA 10 (.mv (.const (.int .u64 0)))]) (.seq
 (.seq (.reg [MM 46 6, OA 47 (.len false (TT 46)), OA 48 (.mv (II 0))]) (.block 2 (.loop (.seq (.reg [OA 49 (.bin .lss (TT 48) (TT 47))]) (.seq (.cond (TT 49) .skip (.exit 2)) (.seq (.block 3 (.seq (.reg [MM 50 48, OA 51 (.j6
 1 (TT 46) (TT 48)), VV 52 51, MM 11 50, MM 12 52]) (.seq (.reg [MM 53 10, MM 54 9, OA 55 (.conv .u64 (TT 54)), MM 56 12, OA 57 (.conv .u64 (TT 56)), OA 58 (.bin .mul (TT 55) (TT 57)), MM 59 7, MM 60 8, MM 61 11, OA 62 (.bin .add
 (TT 60) (TT 61)), OA 63 (.j6 1 (TT 59) (TT 62)), VV 64 63, OA 65 (.conv .u64 (TT 64)), OA 66 (.bin .add (TT 58) (TT 65)), OA 67 (.bin .add (TT 53) (TT 66)), MM 10 67]) (.seq (.reg [MM 68 7, MM 69 8, MM 70 11, OA 71 (.bin .add
 (TT 69) (TT 70)), MM 72 10, OA 73 (.conv .u32 (TT 72)), OA 74 (.j6 1 (TT 68) (TT 71)), OB (.store 1 (TT 74) (TT 73))]) (.reg [MM 75 10, OA 76 (.bin .shr (TT 75) (.const (.int .u64 32))), MM 10 76]))))) (.reg [OA 77 (.bin .add
 (TT 48) (II 1)), MM 48 77]))))))) (.reg [MM 78 7, MM 79 8, MM 80 6, OA 81 (.len false (TT 80)), OA 82 (.bin .add (TT 79) (TT 81)), MM 83 10, OA 84 (.conv .u32 (TT 83)), OA 85 (.j6 1 (TT 78) (TT 82)), OB (.store 1 (TT 85) (TT
 84))]))))) (.reg [OA 86 (.bin .add (TT 41) (II 1)), MM 41 86]))))))) (.seq (.reg [MM 87 7, OA 88 (.call 129 [TT 87]), MM 4 88]) .ret))))))⟩
theorem b3H : D5 eff Tryz.prog Tryz.f79 = some a7O := by kernel_rfl
theorem b3M : Tryz.prog.funcs[79]? = some Tryz.f79 := Tryz.func79
def a7p : E9 := ⟨57, [.tmp 4], .seq (.reg [OA 4 (.mv (.const (.string ⟨#[]⟩)))]) (.seq (.reg [MM 8 0, OA 9 (.call 124 [TT 8]), MM 10 1, OA 11 (.call 124 [TT 10]), MM 0 9, MM 1 11]) (.seq (.block 0 (.loop (.seq (.seq (.reg [MM 12 0, OA 13 (.bin
 .neq (TT 12) (.const (.string ⟨#[]⟩))), MM 14 13, MG 15 1 14 true, OC 16 (.bin .neq (TT 15) (.const (.string ⟨#[]⟩))) 14 true, OA 17 (.pick (TT 14) (TT 16) (.const (.bool false)))]) (.cond (TT 17) .skip (.exit 0))) (.block 1
 (.seq (.seq (.reg [MM 18 0, OA 19 (.len true (TT 18)), MM 20 1, OA 21 (.len true (TT 20)), OA 22 (.bin .lss (TT 19) (TT 21))]) (.cond (TT 22) (.reg [MM 23 1, MM 24 0, MM 0 23, MM 1 24]) .skip)) (.seq (.block 2 (.seq (.reg [MM 26
 0, OA 27 (.len true (TT 26)), OA 28 (.bin .leq (TT 27) (II 8)), MM 25 28]) (.cond (TT 25) (.seq (.reg [MM 29 0, OA 30 (.call 127 [TT 29]), MM 31 1, OA 32 (.call 127 [TT 31]), OA 33 (.call 135 [TT 30, TT 32]), OA 34 (.call 126
 [TT 33]), MM 4 34]) .ret) (.seq (.reg [MM 36 0, OA 37 (.len true (TT 36)), MM 38 1, OA 39 (.len true (TT 38)), OA 40 (.bin .add (TT 39) (II 8)), OA 41 (.bin .leq (TT 37) (TT 40)), MM 35 41]) (.cond (TT 35) (.seq (.reg [MM 42 0,
 MM 43 1, OA 44 (.call 136 [TT 42, TT 43]), MM 4 44]) .ret) .skip))))) (.seq (.reg [MM 46 0, MM 47 1, OA 48 (.call 137 [TT 46, TT 47]), MM 45 48, OA 49 (.ext (TT 45) 0), OA 50 (.ext (TT 45) 1), OA 51 (.ext (TT 45) 2), MM 5 49, MM
 6 50, MM 7 51]) (.reg [MM 52 1, MM 53 6, MM 0 52, MM 1 53])))))))) (.seq (.reg [MM 54 0, MM 55 1, OA 56 (.bin .add (TT 54) (TT 55)), MM 4 56]) .ret)))⟩
theorem b4g : D5 eff Tryz.prog Tryz.f94 = some a7p := by kernel_rfl
theorem b4d : Tryz.prog.funcs[94]? = some Tryz.f94 := Tryz.func94
def a5s : E9 := ⟨40, [.tmp 2], .seq (.reg [OA 2 (.mv (.const (.slice none 0 0)))]) (.seq (.reg [MM 6 0, OA 7 (.call 124 [TT 6]), MM 0 7]) (.seq (.reg [MM 8 0, OA 9 (.len true (TT 8)), OA 10 (.bin .add (TT 9) (II 3)), OA 11 (.bin .quo (TT 10) (II
 4)), OA 12 (.V7 188 4 [.int .u32 0] (TT 11) (TT 11)), MM 3 12]) (.seq (.seq (.reg [MM 13 0, OA 14 (.len true (TT 13)), OA 15 (.mv (II 0))]) (.block 0 (.loop (.seq (.reg [OA 16 (.bin .lss (TT 15) (TT 14))]) (.seq (.cond (TT 16)
 .skip (.exit 0)) (.seq (.block 1 (.seq (.reg [MM 17 15, MM 4 17]) (.seq (.reg [MM 18 0, OA 19 (.len true (TT 18)), OA 20 (.bin .sub (TT 19) (II 1)), MM 21 4, OA 22 (.bin .sub (TT 20) (TT 21)), MM 5 22]) (.F4 [.q, .q, .q, .q,
 .q, .q, .q, .q, .q, .q, .q, .q, .q, .q, .q, .e none true] [MM 23 3, MM 24 4, OA 25 (.bin .quo (TT 24) (II 4)), OA 26 (.j6 1 (TT 23) (TT 25)), VV 27 26, MM 28 0, MM 29 5, OA 30 (.idxs (TT 28) (TT 29)), OA 31 (.conv .u32 (TT
 30)), MM 32 4, OA 33 (.bin .rem (TT 32) (II 4)), OA 34 (.bin .mul (TT 33) (II 8)), OA 35 (.bin .shl (TT 31) (TT 34)), OA 36 (.bin .or (TT 27) (TT 35)), OA 37 (.j6 1 (TT 23) (TT 25)), OB (.store 1 (TT 37) (TT 36))])))) (.reg
 [OA 38 (.bin .add (TT 15) (II 1)), MM 15 38]))))))) (.seq (.reg [MM 39 3, MM 2 39]) .ret))))⟩
theorem b1S : D5 eff Tryz.prog Tryz.f128 = some a5s := by kernel_rfl
theorem b1P : Tryz.prog.funcs[128]? = some Tryz.f128 := Tryz.func128
def a6H : E9 := ⟨54, [.tmp 2], .seq (.reg [OA 2 (.mv (.const (.string ⟨#[]⟩)))]) (.seq (.reg [MM 7 0, OA 8 (.len false (TT 7)), OA 9 (.bin .mul (II 4) (TT 8)), OA 10 (.V7 5 1 [.int .u8 0] (TT 9) (TT 9)), MM 3 10]) (.seq (.seq (.reg [MM 11 0, OA
 12 (.len false (TT 11)), OA 13 (.mv (II 0))]) (.block 0 (.loop (.seq (.reg [OA 14 (.bin .lss (TT 13) (TT 12))]) (.seq (.cond (TT 14) .skip (.exit 0)) (.seq (.block 1 (.seq (.reg [MM 15 13, OA 16 (.j6 1 (TT 11) (TT 13)), VV 17
 16, MM 4 15, MM 5 17]) (.seq (.reg [MM 18 0, OA 19 (.len false (TT 18)), OA 20 (.bin .sub (TT 19) (II 1)), MM 21 4, OA 22 (.bin .sub (TT 20) (TT 21)), OA 23 (.bin .mul (II 4) (TT 22)), MM 6 23]) (.reg [MM 24 3, MM 25 6, MM 26 3,
 MM 27 6, OA 28 (.bin .add (TT 27) (II 1)), MM 29 3, MM 30 6, OA 31 (.bin .add (TT 30) (II 2)), MM 32 3, MM 33 6, OA 34 (.bin .add (TT 33) (II 3)), MM 35 5, OA 36 (.bin .shr (TT 35) (.const (.int .u64 24))), OA 37 (.conv .u8 (TT
 36)), MM 38 5, OA 39 (.bin .shr (TT 38) (.const (.int .u64 16))), OA 40 (.conv .u8 (TT 39)), MM 41 5, OA 42 (.bin .shr (TT 41) (.const (.int .u64 8))), OA 43 (.conv .u8 (TT 42)), MM 44 5, OA 45 (.conv .u8 (TT 44)), OA 46 (.j6
 1 (TT 24) (TT 25)), OB (.store 1 (TT 46) (TT 37)), OA 47 (.j6 1 (TT 26) (TT 28)), OB (.store 1 (TT 47) (TT 40)), OA 48 (.j6 1 (TT 29) (TT 31)), OB (.store 1 (TT 48) (TT 43)), OA 49 (.j6 1 (TT 32) (TT 34)), OB (.store 1
 (TT 49) (TT 45))])))) (.reg [OA 50 (.bin .add (TT 13) (II 1)), MM 13 50]))))))) (.seq (.reg [MM 51 3, OA 52 (.toStr (TT 51)), OA 53 (.call 124 [TT 52]), MM 2 53]) .ret)))⟩
theorem b2J : D5 eff Tryz.prog Tryz.f129 = some a6H := by kernel_rfl
theorem b1Z : Tryz.prog.funcs[129]? = some Tryz.f129 := Tryz.func129
def a7C : E9 := ⟨82, [.tmp 4], .seq (.reg [OA 4 (.mv (.const (.string ⟨#[]⟩)))]) (.seq (.reg [MM 11 0, OA 12 (.call 124 [TT 11]), MM 13 1, OA 14 (.call 124 [TT 13]), MM 0 12, MM 1 14]) (.seq (.seq (.reg [MM 15 0, OA 16 (.len true (TT 15)), OA 17
 (.bin .lss (TT 16) (II 8)), MM 18 17, MG 19 1 18 true, OC 20 (.len true (TT 19)) 18 true, OC 21 (.bin .lss (TT 20) (II 8)) 18 true, OA 22 (.pick (TT 18) (TT 21) (.const (.bool false)))]) (.cond (TT 22) (.seq (.reg [MM 23 0, OA
 24 (.call 127 [TT 23]), MM 25 1, OA 26 (.call 127 [TT 25]), OA 27 (.bin .add (TT 24) (TT 26)), OA 28 (.call 126 [TT 27]), MM 4 28]) .ret) .skip)) (.seq (.reg [MM 29 0, OA 30 (.call 128 [TT 29]), MM 31 1, OA 32 (.call 128 [TT
 31]), MM 5 30, MM 6 32]) (.seq (.seq (.reg [MM 33 5, OA 34 (.len false (TT 33)), MM 35 6, OA 36 (.len false (TT 35)), OA 37 (.bin .lss (TT 34) (TT 36))]) (.cond (TT 37) (.reg [MM 38 6, MM 39 5, MM 5 38, MM 6 39]) .skip)) (.seq
 (.reg [MM 40 5, OA 41 (.len false (TT 40)), OA 42 (.bin .add (TT 41) (II 1)), OA 43 (.V7 188 4 [.int .u32 0] (TT 42) (TT 42)), MM 7 43]) (.seq (.reg [OA 8 (.mv (.const (.int .u64 0)))]) (.seq (.seq (.reg [MM 44 5, OA 45 (.len
 false (TT 44)), OA 46 (.mv (II 0))]) (.block 0 (.loop (.seq (.reg [OA 47 (.bin .lss (TT 46) (TT 45))]) (.seq (.cond (TT 47) .skip (.exit 0)) (.seq (.block 1 (.seq (.reg [MM 48 46, OA 49 (.j6 1 (TT 44) (TT 46)), VV 50 49, MM 9
 48, MM 10 50]) (.seq (.reg [MM 51 8, MM 52 10, OA 53 (.conv .u64 (TT 52)), OA 54 (.bin .add (TT 51) (TT 53)), MM 8 54]) (.seq (.seq (.reg [MM 55 9, MM 56 6, OA 57 (.len false (TT 56)), OA 58 (.bin .lss (TT 55) (TT 57))]) (.cond
 (TT 58) (.reg [MM 59 8, MM 60 6, MM 61 9, OA 62 (.j6 1 (TT 60) (TT 61)), VV 63 62, OA 64 (.conv .u64 (TT 63)), OA 65 (.bin .add (TT 59) (TT 64)), MM 8 65]) .skip)) (.seq (.reg [MM 66 7, MM 67 9, MM 68 8, OA 69 (.conv .u32 (TT
 68)), OA 70 (.j6 1 (TT 66) (TT 67)), OB (.store 1 (TT 70) (TT 69))]) (.reg [MM 71 8, OA 72 (.bin .shr (TT 71) (.const (.int .u64 32))), MM 8 72])))))) (.reg [OA 73 (.bin .add (TT 46) (II 1)), MM 46 73]))))))) (.seq (.reg [MM
 74 7, MM 75 5, OA 76 (.len false (TT 75)), MM 77 8, OA 78 (.conv .u32 (TT 77)), OA 79 (.j6 1 (TT 74) (TT 76)), OB (.store 1 (TT 79) (TT 78))]) (.seq (.reg [MM 80 7, OA 81 (.call 129 [TT 80]), MM 4 81]) .ret)))))))))⟩
theorem b3Y : D5 eff Tryz.prog Tryz.f132 = some a7C := by kernel_rfl
theorem b3N : Tryz.prog.funcs[132]? = some Tryz.f132 := Tryz.func132
def a4L : E9 := ⟨117, [.tmp 4], .seq (.reg [OA 4 (.mv (.const (.string ⟨#[]⟩)))]) (.seq (.reg [MM 14 0, OA 15 (.call 147 [TT 14]), MM 16 1, OA 17 (.call 147 [TT 16]), MM 5 15, MM 6 17]) (.seq (.reg [MM 18 5, OA 19 (.call 148 [TT 18]), MM 20 6, OA
 21 (.call 148 [TT 20]), MM 7 19, MM 8 21]) (.seq (.reg [MM 22 5, MM 23 7, OA 24 (.call 149 [TT 22, TT 23]), MM 25 6, MM 26 8, OA 27 (.call 149 [TT 25, TT 26]), MM 5 24, MM 6 27]) (.seq (.block 0 (.loop (.seq (.seq (.reg [MM 28
 5, OA 29 (.len false (TT 28)), OA 30 (.bin .gtr (TT 29) (II 1)), MM 31 30, MG 32 6 31 false, OC 33 (.len false (TT 32)) 31 false, OC 34 (.bin .gtr (TT 33) (II 1)) 31 false, OA 35 (.pick (TT 31) (.const (.bool true)) (TT 34))])
 (.cond (TT 35) .skip (.exit 0))) (.block 1 (.seq (.seq (.reg [MM 36 5, MM 37 6, OA 38 (.call 150 [TT 36, TT 37])]) (.cond (TT 38) (.reg [MM 39 6, MM 40 5, MM 5 39, MM 6 40]) .skip)) (.seq (.seq (.reg [MM 41 5, MM 42 6, OA 43
 (.call 151 [TT 41, TT 42]), MM 5 43]) (.seq (.reg [MM 44 5, OA 45 (.len false (TT 44)), OA 46 (.bin .eql (TT 45) (II 0))]) (.cond (TT 46) (.exit 0) .skip))) (.reg [MM 47 5, MM 48 5, OA 49 (.call 148 [TT 48]), OA 50 (.call 149
 [TT 47, TT 49]), MM 5 50]))))))) (.seq (.seq (.reg [MM 51 5, OA 52 (.len false (TT 51)), OA 53 (.bin .eql (TT 52) (II 1)), MM 54 53, MG 55 6 54 true, OC 56 (.len false (TT 55)) 54 true, OC 57 (.bin .eql (TT 56) (II 1)) 54 true,
 OA 58 (.pick (TT 54) (TT 57) (.const (.bool false)))]) (.cond (TT 58) (.F4 [.q, .q, .q, .q, .q, .q, .q, .q, .q, .e none true] [MM 59 6, MM 60 5, OA 61 (.j6 1 (TT 60) (II 0)), VV 62 61, MM 63 6, OA 64 (.j6 1 (TT 63) (II
 0)), VV 65 64, OA 66 (.call 135 [TT 62, TT 65]), OA 67 (.j6 1 (TT 59) (II 0)), OB (.store 1 (TT 67) (TT 66))]) .skip)) (.seq (.reg [MM 68 6, OA 69 (.len false (TT 68)), OA 70 (.bin .mul (II 8) (TT 69)), OA 71 (.V7 5 1 [.int
 .u8 0] (TT 70) (TT 70)), MM 9 71]) (.seq (.seq (.reg [MM 72 6, OA 73 (.len false (TT 72)), OA 74 (.mv (II 0))]) (.block 2 (.loop (.seq (.reg [OA 75 (.bin .lss (TT 74) (TT 73))]) (.seq (.cond (TT 75) .skip (.exit 2)) (.seq
 (.block 3 (.seq (.reg [MM 76 74, OA 77 (.j6 1 (TT 72) (TT 74)), VV 78 77, MM 10 76, MM 11 78]) (.seq (.reg [OA 79 (.mv (II 0))]) (.block 4 (.loop (.seq (.reg [OA 80 (.bin .lss (TT 79) (II 8))]) (.seq (.cond (TT 80) .skip
 (.exit 4)) (.seq (.block 5 (.seq (.reg [MM 81 79, MM 12 81]) (.reg [MM 82 9, MM 83 6, OA 84 (.len false (TT 83)), OA 85 (.bin .sub (TT 84) (II 1)), MM 86 10, OA 87 (.bin .sub (TT 85) (TT 86)), OA 88 (.bin .mul (II 8) (TT 87)),
 MM 89 12, OA 90 (.bin .add (TT 88) (TT 89)), MM 91 11, MM 92 12, OA 93 (.bin .mul (II 8) (TT 92)), OA 94 (.bin .sub (II 56) (TT 93)), OA 95 (.bin .shr (TT 91) (TT 94)), OA 96 (.conv .u8 (TT 95)), OA 97 (.j6 1 (TT 82) (TT
 90)), OB (.store 1 (TT 97) (TT 96))]))) (.reg [OA 98 (.bin .add (TT 79) (II 1)), MM 79 98]))))))))) (.reg [OA 99 (.bin .add (TT 74) (II 1)), MM 74 99]))))))) (.seq (.reg [MM 100 7, MM 101 8, OA 102 (.min (TT 100) (TT 101)), MM 7
 102]) (.seq (.reg [MM 103 7, OA 104 (.bin .quo (TT 103) (II 8)), OA 105 (.bin .add (TT 104) (II 1)), OA 106 (.V7 5 1 [.int .u8 0] (TT 105) (TT 105)), MM 13 106]) (.seq (.reg [MM 107 13, MM 108 7, OA 109 (.bin .rem (TT 108) (II
 8)), OA 110 (.bin .shl (.const (.int .u8 1)) (TT 109)), OA 111 (.j6 1 (TT 107) (II 0)), OB (.store 1 (TT 111) (TT 110))]) (.seq (.reg [MM 112 9, OA 113 (.toStr (TT 112)), MM 114 13, OA 115 (.toStr (TT 114)), OA 116 (.call 79
 [TT 113, TT 115]), MM 4 116]) .ret)))))))))))⟩
theorem b0b : D5 eff Tryz.prog Tryz.f136 = some a4L := by kernel_rfl
theorem a9P : Tryz.prog.funcs[136]? = some Tryz.f136 := Tryz.func136
def a7x : E9 := ⟨99, [.tmp 4, .tmp 5, .tmp 6], .seq (.reg [OA 4 (.mv (.const (.string ⟨#[]⟩))), OA 5 (.mv (.const (.string ⟨#[]⟩))), OA 6 (.mv (II 0))]) (.seq (.reg [MM 13 0, OA 14 (.call 124 [TT 13]), MM 15 1, OA 16 (.call 124 [TT 15]), MM 0 14,
 MM 1 16]) (.seq (.block 0 (.seq (.reg [MM 18 1, OA 19 (.bin .eql (TT 18) (.const (.string ⟨#[]⟩))), MM 17 19]) (.cond (TT 17) (.seq (.reg [OA 4 (.mv (.const (.string ⟨#[]⟩))), OA 5 (.mv (.const (.string ⟨#[]⟩))), OA 6 (.mv (II
 12))]) .ret) (.seq (.reg [MM 21 0, OA 22 (.len true (TT 21)), OA 23 (.bin .leq (TT 22) (II 8)), MM 24 23, MG 25 1 24 true, OC 26 (.len true (TT 25)) 24 true, OC 27 (.bin .leq (TT 26) (II 8)) 24 true, OA 28 (.pick (TT 24) (TT 27)
 (.const (.bool false))), MM 20 28]) (.cond (TT 20) (.seq (.reg [MM 29 0, OA 30 (.call 127 [TT 29]), MM 31 1, OA 32 (.call 127 [TT 31]), OA 33 (.bin .quo (TT 30) (TT 32)), OA 34 (.call 126 [TT 33]), MM 35 0, OA 36 (.call 127 [TT
 35]), MM 37 1, OA 38 (.call 127 [TT 37]), OA 39 (.bin .rem (TT 36) (TT 38)), OA 40 (.call 126 [TT 39]), MM 4 34, MM 5 40, OA 6 (.mv (II 0))]) .ret) (.seq (.reg [MM 42 0, MM 43 1, OA 44 (.call 78 [TT 42, TT 43]), OA 45 (.bin .lss
 (TT 44) (II 0)), MM 41 45]) (.cond (TT 41) (.seq (.reg [MM 46 0, OA 4 (.mv (.const (.string ⟨#[]⟩))), MM 5 46, OA 6 (.mv (II 0))]) .ret) .skip))))))) (.seq (.reg [MM 47 0, OA 48 (.call 128 [TT 47]), MM 49 1, OA 50 (.call 128 [TT
 49]), MM 7 48, MM 8 50]) (.seq (.seq (.reg [MM 51 8, OA 52 (.len false (TT 51)), OA 53 (.bin .eql (TT 52) (II 1))]) (.cond (TT 53) (.seq (.reg [OA 9 (.mv (.const (.int .u64 0)))]) (.seq (.seq (.reg [MM 54 7, OA 55 (.len false
 (TT 54)), OA 56 (.bin .sub (TT 55) (II 1)), MM 10 56]) (.block 1 (.loop (.seq (.seq (.reg [MM 57 10, OA 58 (.bin .geq (TT 57) (II 0))]) (.cond (TT 58) .skip (.exit 1))) (.seq (.block 2 (.seq (.reg [MM 61 9, OA 62 (.bin .shl (TT
 61) (.const (.int .u64 32))), MM 63 7, MM 64 10, OA 65 (.j6 1 (TT 63) (TT 64)), VV 66 65, OA 67 (.conv .u64 (TT 66)), OA 68 (.bin .or (TT 62) (TT 67)), MM 9 68]) (.F4 [.q, .q, .q, .q, .q, .q, .q, .q, .q, .l, .q, .q, .q, .l,
 .l, .q, .e none false, .q] [MM 69 7, MM 70 10, MM 71 9, MM 72 8, OA 73 (.j6 1 (TT 72) (II 0)), VV 74 73, OA 75 (.conv .u64 (TT 74)), OA 76 (.bin .quo (TT 71) (TT 75)), OA 77 (.conv .u32 (TT 76)), MM 78 9, MM 79 8, OA 80
 (.j6 1 (TT 79) (II 0)), VV 81 80, OA 82 (.conv .u64 (TT 81)), OA 83 (.bin .rem (TT 78) (TT 82)), OA 84 (.j6 1 (TT 69) (TT 70)), OB (.store 1 (TT 84) (TT 77)), MM 9 83]))) (.reg [MM 59 10, OA 60 (.bin .sub (TT 59) (II 1)),
 MM 10 60])))))) (.seq (.reg [MM 85 7, OA 86 (.call 129 [TT 85]), MM 87 9, OA 88 (.call 126 [TT 87]), MM 4 86, MM 5 88, OA 6 (.mv (II 0))]) .ret))) .skip)) (.seq (.reg [MM 90 7, MM 91 8, OA 92 (.call 152 [TT 90, TT 91]), MM 89
 92, OA 93 (.ext (TT 89) 0), OA 94 (.ext (TT 89) 1), MM 11 93, MM 12 94]) (.seq (.reg [MM 95 11, OA 96 (.call 129 [TT 95]), MM 97 12, OA 98 (.call 129 [TT 97]), MM 4 96, MM 5 98, OA 6 (.mv (II 0))]) .ret))))))⟩
theorem b4t : D5 eff Tryz.prog Tryz.f137 = some a7x := by kernel_rfl
theorem b4a : Tryz.prog.funcs[137]? = some Tryz.f137 := Tryz.func137
def a5j : E9 := ⟨36, [.tmp 2], .seq (.reg [OA 2 (.mv (.const (.slice none 0 0)))]) (.seq (.reg [MM 5 0, OA 6 (.len true (TT 5)), OA 7 (.bin .add (TT 6) (II 7)), OA 8 (.bin .quo (TT 7) (II 8)), OA 9 (.V7 184 8 [.int .u64 0] (TT 8) (TT 8)), MM 3
 9]) (.seq (.seq (.reg [MM 10 0, OA 11 (.len true (TT 10)), OA 12 (.mv (II 0))]) (.block 0 (.loop (.seq (.reg [OA 13 (.bin .lss (TT 12) (TT 11))]) (.seq (.cond (TT 13) .skip (.exit 0)) (.seq (.block 1 (.seq (.reg [MM 14 12, MM 4
 14]) (.F4 [.q, .q, .q, .q, .q, .q, .q, .q, .q, .q, .q, .q, .q, .q, .q, .q, .q, .q, .q, .e none true] [MM 15 3, MM 16 4, OA 17 (.bin .quo (TT 16) (II 8)), OA 18 (.j6 1 (TT 15) (TT 17)), VV 19 18, MM 20 0, MM 21 0, OA 22
 (.len true (TT 21)), OA 23 (.bin .sub (TT 22) (II 1)), MM 24 4, OA 25 (.bin .sub (TT 23) (TT 24)), OA 26 (.idxs (TT 20) (TT 25)), OA 27 (.conv .u64 (TT 26)), MM 28 4, OA 29 (.bin .rem (TT 28) (II 8)), OA 30 (.bin .mul (TT 29)
 (II 8)), OA 31 (.bin .shl (TT 27) (TT 30)), OA 32 (.bin .or (TT 19) (TT 31)), OA 33 (.j6 1 (TT 15) (TT 17)), OB (.store 1 (TT 33) (TT 32))]))) (.reg [OA 34 (.bin .add (TT 12) (II 1)), MM 12 34]))))))) (.seq (.reg [MM 35 3, MM
 2 35]) .ret)))⟩
theorem b1N : D5 eff Tryz.prog Tryz.f147 = some a5j := by kernel_rfl
theorem b0T : Tryz.prog.funcs[147]? = some Tryz.f147 := Tryz.func147
def a5k : E9 := ⟨48, [.tmp 4], .seq (.reg [OA 4 (.mv (.const (.slice none 0 0)))]) (.seq (.reg [MM 6 0, MM 7 1, OA 8 (.bin .quo (TT 7) (II 64)), OA 9 (.a2n 1 (TT 6) (some (TT 8)) none), MM 0 9]) (.seq (.seq (.reg [MM 10 1, OA 11 (.bin .rem (TT
 10) (II 64)), MM 1 11]) (.seq (.reg [MM 12 1, OA 13 (.bin .gtr (TT 12) (II 0))]) (.cond (TT 13) (.seq (.reg [MM 14 0, OA 15 (.len false (TT 14)), OA 16 (.mv (II 0))]) (.block 0 (.loop (.seq (.reg [OA 17 (.bin .lss (TT 16) (TT
 15))]) (.seq (.cond (TT 17) .skip (.exit 0)) (.seq (.block 1 (.seq (.reg [MM 18 16, MM 5 18]) (.seq (.reg [MM 19 0, MM 20 5, OA 21 (.j6 1 (TT 19) (TT 20)), VV 22 21, MM 23 1, OA 24 (.bin .shr (TT 22) (TT 23)), OA 25 (.j6 1
 (TT 19) (TT 20)), OB (.store 1 (TT 25) (TT 24))]) (.seq (.reg [MM 26 5, OA 27 (.bin .add (TT 26) (II 1)), MM 28 0, OA 29 (.len false (TT 28)), OA 30 (.bin .lss (TT 27) (TT 29))]) (.cond (TT 30) (.F4 [.q, .q, .q, .q, .q, .q,
 .q, .q, .q, .q, .q, .q, .q, .q, .e none true] [MM 31 0, MM 32 5, OA 33 (.j6 1 (TT 31) (TT 32)), VV 34 33, MM 35 0, MM 36 5, OA 37 (.bin .add (TT 36) (II 1)), OA 38 (.j6 1 (TT 35) (TT 37)), VV 39 38, MM 40 1, OA 41 (.bin
 .sub (II 64) (TT 40)), OA 42 (.bin .shl (TT 39) (TT 41)), OA 43 (.bin .or (TT 34) (TT 42)), OA 44 (.j6 1 (TT 31) (TT 32)), OB (.store 1 (TT 44) (TT 43))]) .skip))))) (.reg [OA 45 (.bin .add (TT 16) (II 1)), MM 16 45])))))))
 .skip))) (.seq (.reg [MM 46 0, OA 47 (.call 157 [TT 46]), MM 4 47]) .ret)))⟩
theorem b0I : D5 eff Tryz.prog Tryz.f149 = some a5k := by kernel_rfl
theorem b1G : Tryz.prog.funcs[149]? = some Tryz.f149 := Tryz.func149
def a5f : E9 := ⟨41, [.tmp 4], .seq (.reg [OA 4 (.mv (.const (.bool false)))]) (.seq (.seq (.reg [MM 6 0, OA 7 (.len false (TT 6)), MM 8 1, OA 9 (.len false (TT 8)), OA 10 (.bin .neq (TT 7) (TT 9))]) (.cond (TT 10) (.seq (.reg [MM 11 0, OA 12
 (.len false (TT 11)), MM 13 1, OA 14 (.len false (TT 13)), OA 15 (.bin .lss (TT 12) (TT 14)), MM 4 15]) .ret) .skip)) (.seq (.seq (.reg [MM 16 0, OA 17 (.len false (TT 16)), OA 18 (.bin .sub (TT 17) (II 1)), MM 5 18]) (.block 0
 (.loop (.seq (.seq (.reg [MM 19 5, OA 20 (.bin .geq (TT 19) (II 0))]) (.cond (TT 20) .skip (.exit 0))) (.seq (.block 1 (.seq (.F4 [.q, .q, .q, .q, .q, .q, .q, .q, .q] [MM 23 0, MM 24 5, OA 25 (.j6 1 (TT 23) (TT 24)), VV 26
 25, MM 27 1, MM 28 5, OA 29 (.j6 1 (TT 27) (TT 28)), VV 30 29, OA 31 (.bin .neq (TT 26) (TT 30))]) (.cond (TT 31) (.seq (.F4 [.q, .q, .q, .q, .q, .q, .q, .q, .q, .q] [MM 32 0, MM 33 5, OA 34 (.j6 1 (TT 32) (TT 33)), VV
 35 34, MM 36 1, MM 37 5, OA 38 (.j6 1 (TT 36) (TT 37)), VV 39 38, OA 40 (.bin .lss (TT 35) (TT 39)), MM 4 40]) .ret) .skip))) (.reg [MM 21 5, OA 22 (.bin .sub (TT 21) (II 1)), MM 5 22])))))) (.seq (.reg [OA 4 (.mv (.const
 (.bool false)))]) .ret)))⟩
theorem b1I : D5 eff Tryz.prog Tryz.f150 = some a5f := by kernel_rfl
theorem b0x : Tryz.prog.funcs[150]? = some Tryz.f150 := Tryz.func150
def a5N : E9 := ⟨37, [.tmp 4], .seq (.reg [OA 4 (.mv (.const (.slice none 0 0)))]) (.seq (.reg [OA 5 (.mv (.const (.int .u64 0)))]) (.seq (.seq (.reg [MM 8 0, OA 9 (.len false (TT 8)), OA 10 (.mv (II 0))]) (.block 0 (.loop (.seq (.reg [OA 11
 (.bin .lss (TT 10) (TT 9))]) (.seq (.cond (TT 11) .skip (.exit 0)) (.seq (.block 1 (.seq (.reg [MM 12 10, MM 6 12]) (.seq (.reg [OA 7 (.mv (.const (.int .u64 0)))]) (.seq (.seq (.reg [MM 13 6, MM 14 1, OA 15 (.len false (TT
 14)), OA 16 (.bin .lss (TT 13) (TT 15))]) (.cond (TT 16) (.reg [MM 17 1, MM 18 6, OA 19 (.j6 1 (TT 17) (TT 18)), VV 20 19, MM 7 20]) .skip)) (.reg [MM 22 0, MM 23 6, MM 24 0, MM 25 6, OA 26 (.j6 1 (TT 24) (TT 25)), VV 27
 26, MM 28 7, MM 29 5, OA 30 (.a2y (TT 27) (TT 28) (TT 29)), MM 21 30, OA 31 (.ext (TT 21) 0), OA 32 (.ext (TT 21) 1), OA 33 (.j6 1 (TT 22) (TT 23)), OB (.store 1 (TT 33) (TT 31)), MM 5 32]))))) (.reg [OA 34 (.bin .add (TT
 10) (II 1)), MM 10 34]))))))) (.seq (.reg [MM 35 0, OA 36 (.call 157 [TT 35]), MM 4 36]) .ret)))⟩
theorem b0A : D5 eff Tryz.prog Tryz.f151 = some a5N := by kernel_rfl
theorem b1u : Tryz.prog.funcs[151]? = some Tryz.f151 := Tryz.func151
def a6L : E9 := ⟨179, [.tmp 4, .tmp 5], .seq (.reg [OA 4 (.mv (.const (.slice none 0 0))), OA 5 (.mv (.const (.slice none 0 0)))]) (.seq (.reg [MM 15 1, MM 16 1, OA 17 (.len false (TT 16)), OA 18 (.bin .sub (TT 17) (II 1)), OA 19 (.j6 1 (TT
 15) (TT 18)), VV 20 19, OA 21 (.call 159 [TT 20]), MM 6 21]) (.seq (.reg [MM 22 1, OA 23 (.len false (TT 22)), MM 7 23]) (.seq (.F4 [.q, .q, .e none false, .l, .l, .e none false, .l, .q, .q, .q] [MM 24 0, MM 25 6, OA 26 (.call
 160 [TT 24, TT 25]), MM 27 1, MM 28 6, OA 29 (.call 160 [TT 27, TT 28]), MM 30 7, OA 31 (.a2n 1 (TT 29) none (some (TT 30))), MM 8 26, MM 9 31]) (.seq (.reg [MM 32 8, OA 33 (.len false (TT 32)), MM 34 7, OA 35 (.bin .sub (TT
 33) (TT 34)), OA 36 (.V7 188 4 [.int .u32 0] (TT 35) (TT 35)), MM 4 36]) (.seq (.seq (.reg [MM 37 4, OA 38 (.len false (TT 37)), OA 39 (.bin .sub (TT 38) (II 1)), MM 10 39]) (.block 0 (.loop (.seq (.seq (.reg [MM 40 10, OA 41
 (.bin .geq (TT 40) (II 0))]) (.cond (TT 41) .skip (.exit 0))) (.seq (.block 1 (.seq (.F4 [.q, .q, .q, .q, .q, .q, .q, .q, .q, .q, .q, .q, .q, .q, .q, .q, .q, .q] [MM 44 8, MM 45 10, MM 46 7, OA 47 (.bin .add (TT 45) (TT 46)),
 OA 48 (.j6 1 (TT 44) (TT 47)), VV 49 48, OA 50 (.conv .u64 (TT 49)), OA 51 (.bin .shl (TT 50) (.const (.int .u64 32))), MM 52 8, MM 53 10, MM 54 7, OA 55 (.bin .add (TT 53) (TT 54)), OA 56 (.bin .sub (TT 55) (II 1)), OA 57
 (.j6 1 (TT 52) (TT 56)), VV 58 57, OA 59 (.conv .u64 (TT 58)), OA 60 (.bin .or (TT 51) (TT 59)), MM 11 60]) (.seq (.F4 [.q, .q, .q, .q, .q, .q, .q, .q, .q, .q, .q, .q, .q, .q, .q, .q, .q, .q] [MM 61 11, MM 62 9, MM 63 7, OA
 64 (.bin .sub (TT 63) (II 1)), OA 65 (.j6 1 (TT 62) (TT 64)), VV 66 65, OA 67 (.conv .u64 (TT 66)), OA 68 (.bin .quo (TT 61) (TT 67)), MM 69 11, MM 70 9, MM 71 7, OA 72 (.bin .sub (TT 71) (II 1)), OA 73 (.j6 1 (TT 70) (TT
 72)), VV 74 73, OA 75 (.conv .u64 (TT 74)), OA 76 (.bin .rem (TT 69) (TT 75)), MM 12 68, MM 13 76]) (.seq (.block 2 (.loop (.seq (.seq (.F4 [.q, .q, .q, .q, .q, .q, .q, .q, .q, .q, .q, .q, .q, .q, .q, .q, .q, .q, .q, .q, .q,
 .q, .q, .q, .q] [MM 77 12, OA 78 (.bin .shr (TT 77) (.const (.int .u64 32))), OA 79 (.bin .gtr (TT 78) (.const (.int .u64 0))), MM 80 79, MG 81 12 80 false, MG 82 9 80 false, MG 83 7 80 false, OC 84 (.bin .sub (TT 83) (II 2)) 80
 false, OC 85 (.j6 1 (TT 82) (TT 84)) 80 false, VG 86 85 80 false, OC 87 (.conv .u64 (TT 86)) 80 false, OC 88 (.bin .mul (TT 81) (TT 87)) 80 false, MG 89 13 80 false, OC 90 (.bin .shl (TT 89) (.const (.int .u64 32))) 80 false,
 MG 91 8 80 false, MG 92 10 80 false, MG 93 7 80 false, OC 94 (.bin .add (TT 92) (TT 93)) 80 false, OC 95 (.bin .sub (TT 94) (II 2)) 80 false, OC 96 (.j6 1 (TT 91) (TT 95)) 80 false, VG 97 96 80 false, OC 98 (.conv .u64 (TT
 97)) 80 false, OC 99 (.bin .or (TT 90) (TT 98)) 80 false, OC 100 (.bin .gtr (TT 88) (TT 99)) 80 false, OA 101 (.pick (TT 80) (.const (.bool true)) (TT 100))]) (.cond (TT 101) .skip (.exit 2))) (.block 3 (.seq (.reg [MM 102 12,
 OA 103 (.bin .sub (TT 102) (.const (.int .u64 1))), MM 12 103]) (.seq (.reg [MM 104 13, MM 105 9, MM 106 7, OA 107 (.bin .sub (TT 106) (II 1)), OA 108 (.j6 1 (TT 105) (TT 107)), VV 109 108, OA 110 (.conv .u64 (TT 109)), OA
 111 (.bin .add (TT 104) (TT 110)), MM 13 111]) (.seq (.reg [MM 112 13, OA 113 (.bin .shr (TT 112) (.const (.int .u64 32))), OA 114 (.bin .gtr (TT 113) (.const (.int .u64 0)))]) (.cond (TT 114) (.exit 2) .skip)))))))) (.seq (.seq
 (.reg [MM 115 8, MM 116 10, MM 117 10, MM 118 7, OA 119 (.bin .add (TT 117) (TT 118)), OA 120 (.bin .add (TT 119) (II 1)), OA 121 (.a2n 1 (TT 115) (some (TT 116)) (some (TT 120))), MM 122 9, MM 123 12, OA 124 (.call 161 [TT
 121, TT 122, TT 123])]) (.cond (TT 124) (.seq (.reg [MM 125 12, OA 126 (.bin .sub (TT 125) (.const (.int .u64 1))), MM 12 126]) (.reg [MM 127 8, MM 128 10, MM 129 10, MM 130 7, OA 131 (.bin .add (TT 129) (TT 130)), OA 132 (.bin
 .add (TT 131) (II 1)), OA 133 (.a2n 1 (TT 127) (some (TT 128)) (some (TT 132))), MM 134 9, OA 135 (.call 162 [TT 133, TT 134])])) .skip)) (.reg [MM 136 4, MM 137 10, MM 138 12, OA 139 (.conv .u32 (TT 138)), OA 140 (.j6 1 (TT
 136) (TT 137)), OB (.store 1 (TT 140) (TT 139))])))))) (.reg [MM 42 10, OA 43 (.bin .sub (TT 42) (II 1)), MM 10 43])))))) (.seq (.reg [MM 141 8, MM 142 7, OA 143 (.a2n 1 (TT 141) none (some (TT 142))), MM 5 143]) (.seq (.seq
 (.reg [MM 144 5, OA 145 (.len false (TT 144)), OA 146 (.mv (II 0))]) (.block 4 (.loop (.seq (.reg [OA 147 (.bin .lss (TT 146) (TT 145))]) (.seq (.cond (TT 147) .skip (.exit 4)) (.seq (.block 5 (.seq (.reg [MM 148 146, MM 14
 148]) (.seq (.reg [MM 149 5, MM 150 14, OA 151 (.j6 1 (TT 149) (TT 150)), VV 152 151, MM 153 6, OA 154 (.bin .shr (TT 152) (TT 153)), OA 155 (.j6 1 (TT 149) (TT 150)), OB (.store 1 (TT 155) (TT 154))]) (.seq (.reg [MM 156
 14, OA 157 (.bin .add (TT 156) (II 1)), MM 158 7, OA 159 (.bin .lss (TT 157) (TT 158))]) (.cond (TT 159) (.F4 [.q, .q, .q, .q, .q, .q, .q, .q, .q, .q, .q, .q, .q, .q, .q, .q, .e none true] [MM 160 5, MM 161 14, OA 162 (.j6
 1 (TT 160) (TT 161)), VV 163 162, MM 164 8, MM 165 14, OA 166 (.bin .add (TT 165) (II 1)), OA 167 (.j6 1 (TT 164) (TT 166)), VV 168 167, OA 169 (.conv .u64 (TT 168)), MM 170 6, OA 171 (.bin .sub (II 32) (TT 170)), OA 172
 (.bin .shl (TT 169) (TT 171)), OA 173 (.conv .u32 (TT 172)), OA 174 (.bin .or (TT 163) (TT 173)), OA 175 (.j6 1 (TT 160) (TT 161)), OB (.store 1 (TT 175) (TT 174))]) .skip))))) (.reg [OA 176 (.bin .add (TT 146) (II 1)), MM
 146 176]))))))) (.seq (.reg [MM 177 4, MM 178 5, MM 4 177, MM 5 178]) .ret))))))))⟩
theorem b1W : D5 eff Tryz.prog Tryz.f152 = some a6L := by kernel_rfl
theorem b2z : Tryz.prog.funcs[152]? = some Tryz.f152 := Tryz.func152
def a6M : E9 := ⟨38, [], .seq (.reg [OA 4 (.mv (.const (.int .u64 0)))]) (.seq (.reg [MM 8 0, OA 9 (.len false (TT 8)), OA 10 (.mv (II 0))]) (.block 0 (.loop (.seq (.reg [OA 11 (.bin .lss (TT 10) (TT 9))]) (.seq (.cond (TT 11) .skip (.exit 0))
 (.seq (.block 1 (.seq (.reg [MM 12 10, OA 13 (.j6 1 (TT 8) (TT 10)), VV 14 13, MM 5 12, MM 6 14]) (.seq (.reg [MM 15 6, OA 16 (.conv .u64 (TT 15)), MM 17 4, OA 18 (.bin .sub (TT 16) (TT 17)), MM 7 18]) (.seq (.seq (.reg [MM
 19 5, MM 20 1, OA 21 (.len false (TT 20)), OA 22 (.bin .lss (TT 19) (TT 21))]) (.cond (TT 22) (.reg [MM 23 7, MM 24 1, MM 25 5, OA 26 (.j6 1 (TT 24) (TT 25)), VV 27 26, OA 28 (.conv .u64 (TT 27)), OA 29 (.bin .sub (TT 23) (TT
 28)), MM 7 29]) .skip)) (.reg [MM 30 0, MM 31 5, MM 32 7, OA 33 (.conv .u32 (TT 32)), MM 34 7, OA 35 (.bin .shr (TT 34) (.const (.int .u64 63))), OA 36 (.j6 1 (TT 30) (TT 31)), OB (.store 1 (TT 36) (TT 33)), MM 4 35])))))
 (.reg [OA 37 (.bin .add (TT 10) (II 1)), MM 10 37])))))))⟩
theorem b2m : D5 eff Tryz.prog Tryz.f153 = some a6M := by kernel_rfl
theorem b2K : Tryz.prog.funcs[153]? = some Tryz.f153 := Tryz.func153
def a6C : E9 := ⟨41, [.tmp 4], .seq (.reg [OA 4 (.mv (.const (.slice none 0 0)))]) (.seq (.reg [MM 9 0, OA 10 (.len false (TT 9)), OA 11 (.bin .add (TT 10) (II 1)), OA 12 (.V7 188 4 [.int .u32 0] (TT 11) (TT 11)), MM 5 12]) (.seq (.seq (.reg
 [MM 13 0, OA 14 (.len false (TT 13)), OA 15 (.mv (II 0))]) (.block 0 (.loop (.seq (.reg [OA 16 (.bin .lss (TT 15) (TT 14))]) (.seq (.cond (TT 16) .skip (.exit 0)) (.seq (.block 1 (.seq (.reg [MM 17 15, OA 18 (.j6 1 (TT 13)
 (TT 15)), VV 19 18, MM 6 17, MM 7 19]) (.seq (.reg [MM 20 7, OA 21 (.conv .u64 (TT 20)), MM 22 1, OA 23 (.bin .shl (TT 21) (TT 22)), MM 8 23]) (.seq (.reg [MM 24 5, MM 25 6, OA 26 (.j6 1 (TT 24) (TT 25)), VV 27 26, MM 28 8,
 OA 29 (.conv .u32 (TT 28)), OA 30 (.bin .or (TT 27) (TT 29)), OA 31 (.j6 1 (TT 24) (TT 25)), OB (.store 1 (TT 31) (TT 30))]) (.reg [MM 32 5, MM 33 6, OA 34 (.bin .add (TT 33) (II 1)), MM 35 8, OA 36 (.bin .shr (TT 35) (.const
 (.int .u64 32))), OA 37 (.conv .u32 (TT 36)), OA 38 (.j6 1 (TT 32) (TT 34)), OB (.store 1 (TT 38) (TT 37))]))))) (.reg [OA 39 (.bin .add (TT 15) (II 1)), MM 15 39]))))))) (.seq (.reg [MM 40 5, MM 4 40]) .ret)))⟩
theorem b2q : D5 eff Tryz.prog Tryz.f160 = some a6C := by kernel_rfl
theorem b2n : Tryz.prog.funcs[160]? = some Tryz.f160 := Tryz.func160
def a3j : E9 := ⟨66, [.tmp 6], .seq (.reg [OA 6 (.mv (.const (.bool false)))]) (.seq (.reg [OA 7 (.mv (.const (.int .u64 0))), OA 8 (.mv (.const (.int .u64 0)))]) (.seq (.seq (.reg [MM 13 1, OA 14 (.len false (TT 13)), OA 15 (.mv (II 0))])
 (.block 0 (.loop (.seq (.reg [OA 16 (.bin .lss (TT 15) (TT 14))]) (.seq (.cond (TT 16) .skip (.exit 0)) (.seq (.block 1 (.seq (.reg [MM 17 15, OA 18 (.j6 1 (TT 13) (TT 15)), VV 19 18, MM 9 17, MM 10 19]) (.seq (.reg [MM 20 7,
 MM 21 2, MM 22 10, OA 23 (.conv .u64 (TT 22)), OA 24 (.bin .mul (TT 21) (TT 23)), OA 25 (.bin .add (TT 20) (TT 24)), MM 7 25]) (.seq (.reg [MM 26 0, MM 27 9, OA 28 (.j6 1 (TT 26) (TT 27)), VV 29 28, OA 30 (.conv .u64 (TT
 29)), MM 31 7, OA 32 (.conv .u32 (TT 31)), OA 33 (.conv .u64 (TT 32)), OA 34 (.bin .sub (TT 30) (TT 33)), MM 35 8, OA 36 (.bin .sub (TT 34) (TT 35)), MM 11 36]) (.seq (.reg [MM 37 0, MM 38 9, MM 39 11, OA 40 (.conv .u32 (TT
 39)), MM 41 11, OA 42 (.bin .shr (TT 41) (.const (.int .u64 63))), OA 43 (.j6 1 (TT 37) (TT 38)), OB (.store 1 (TT 43) (TT 40)), MM 8 42]) (.reg [MM 44 7, OA 45 (.bin .shr (TT 44) (.const (.int .u64 32))), MM 7 45]))))))
 (.reg [OA 46 (.bin .add (TT 15) (II 1)), MM 15 46]))))))) (.seq (.reg [MM 47 0, MM 48 1, OA 49 (.len false (TT 48)), OA 50 (.j6 1 (TT 47) (TT 49)), VV 51 50, OA 52 (.conv .u64 (TT 51)), MM 53 7, OA 54 (.bin .sub (TT 52) (TT
 53)), MM 55 8, OA 56 (.bin .sub (TT 54) (TT 55)), MM 12 56]) (.seq (.reg [MM 57 0, MM 58 1, OA 59 (.len false (TT 58)), MM 60 12, OA 61 (.conv .u32 (TT 60)), OA 62 (.j6 1 (TT 57) (TT 59)), OB (.store 1 (TT 62) (TT 61))])
 (.seq (.reg [MM 63 12, OA 64 (.bin .shr (TT 63) (.const (.int .u64 63))), OA 65 (.bin .gtr (TT 64) (.const (.int .u64 0))), MM 6 65]) .ret)))))⟩
theorem a7s : D5 eff Tryz.prog Tryz.f161 = some a3j := by kernel_rfl
theorem a7q : Tryz.prog.funcs[161]? = some Tryz.f161 := Tryz.func161
def a3P : E9 := ⟨41, [], .seq (.reg [OA 4 (.mv (.const (.int .u64 0)))]) (.seq (.seq (.reg [MM 7 1, OA 8 (.len false (TT 7)), OA 9 (.mv (II 0))]) (.block 0 (.loop (.seq (.reg [OA 10 (.bin .lss (TT 9) (TT 8))]) (.seq (.cond (TT 10) .skip (.exit
 0)) (.seq (.block 1 (.seq (.reg [MM 11 9, OA 12 (.j6 1 (TT 7) (TT 9)), VV 13 12, MM 5 11, MM 6 13]) (.seq (.reg [MM 14 4, MM 15 0, MM 16 5, OA 17 (.j6 1 (TT 15) (TT 16)), VV 18 17, OA 19 (.conv .u64 (TT 18)), MM 20 6, OA
 21 (.conv .u64 (TT 20)), OA 22 (.bin .add (TT 19) (TT 21)), OA 23 (.bin .add (TT 14) (TT 22)), MM 4 23]) (.seq (.reg [MM 24 0, MM 25 5, MM 26 4, OA 27 (.conv .u32 (TT 26)), OA 28 (.j6 1 (TT 24) (TT 25)), OB (.store 1 (TT 28)
 (TT 27))]) (.reg [MM 29 4, OA 30 (.bin .shr (TT 29) (.const (.int .u64 32))), MM 4 30]))))) (.reg [OA 31 (.bin .add (TT 9) (II 1)), MM 9 31]))))))) (.reg [MM 32 0, MM 33 1, OA 34 (.len false (TT 33)), OA 35 (.j6 1 (TT 32) (TT
 34)), VV 36 35, MM 37 4, OA 38 (.conv .u32 (TT 37)), OA 39 (.bin .add (TT 36) (TT 38)), OA 40 (.j6 1 (TT 32) (TT 34)), OB (.store 1 (TT 40) (TT 39))]))⟩
theorem a8C : D5 eff Tryz.prog Tryz.f162 = some a3P := by kernel_rfl
theorem a8s : Tryz.prog.funcs[162]? = some Tryz.f162 := Tryz.func162
def a7w : E9 := ⟨33, [.tmp 4], .seq (.reg [OA 2 (.box 29 (TT 0)), OA 3 (.box 29 (TT 1)), OA 4 (.mv (II 0))]) (.seq (.F4 [.q, .q, .q, .q, .e none true, .e none true] [LL 6 3 2, OA 7 (.call 77 [TT 6]), LL 8 3 3, OA 9 (.call 77 [TT 8]), OB (.store
 3 (TT 2) (TT 7)), OB (.store 3 (TT 3) (TT 9))]) (.seq (.seq (.reg [FF 10 0 2, VV 11 10, FF 12 0 3, VV 13 12, OA 14 (.beq true (TT 11) (TT 13))]) (.cond (TT 14) (.seq (.seq (.reg [FF 15 0 2, VV 16 15]) (.cond (TT 16) (.seq (.reg
 [OA 4 (.mv (II (-1)))]) .ret) .skip)) (.seq (.reg [OA 4 (.mv (II 1))]) .ret)) .skip)) (.seq (.F4 [.q, .q, .q, .q, .q, .q, .q, .q, .q, .q, .q, .q] [FF 17 1 2, VV 18 17, FF 19 2 3, VV 20 19, OA 21 (.call 79 [TT 18, TT 20]), FF
 22 1 3, VV 23 22, FF 24 2 2, VV 25 24, OA 26 (.call 79 [TT 23, TT 25]), OA 27 (.call 78 [TT 21, TT 26]), MM 5 27]) (.seq (.seq (.reg [FF 28 0 2, VV 29 28]) (.cond (TT 29) (.seq (.reg [MM 30 5, OA 31 (.un .neg (TT 30)), MM 4 31])
 .ret) .skip)) (.seq (.reg [MM 32 5, MM 4 32]) .ret)))))⟩
theorem b4e : D5 eff Tryz.prog Tryz.f22 = some a7w := by kernel_rfl
theorem b3v : Tryz.prog.funcs[22]? = some Tryz.f22 := Tryz.func22
def a6r : E9 := ⟨48, [.tmp 2], .seq (.reg [OA 1 (.box 29 (TT 0)), OA 2 (.mv (.const (.bool false)))]) (.seq (.seq (.reg [FF 3 2 1, VV 4 3, OA 5 (.bin .eql (TT 4) (.const (.string ⟨#[]⟩))), MM 6 5, FG 7 2 1 6 false, VG 8 7 6 false, OC 9 (.idxs (TT
 8) (II 0)) 6 false, OC 10 (.bin .eql (TT 9) (.const (.int .u8 0))) 6 false, OA 11 (.pick (TT 6) (.const (.bool true)) (TT 10)), MM 12 11, FG 13 1 1 12 false, VG 14 13 12 false, OC 15 (.bin .eql (TT 14) (.const (.string ⟨#[]⟩)))
 12 false, MG 16 15 12 false, FG 17 0 1 16 true, VG 18 17 16 true, MG 19 18 16 true, FG 20 2 1 19 false, VG 21 20 19 false, OC 22 (.bin .neq (TT 21) (.const (.string ⟨#[1]⟩))) 19 false, OC 23 (.pick (TT 19) (.const (.bool true))
 (TT 22)) 16 true, OC 24 (.pick (TT 16) (TT 23) (.const (.bool false))) 12 false, OA 25 (.pick (TT 12) (.const (.bool true)) (TT 24)), MM 26 25, FG 27 1 1 26 false, VG 28 27 26 false, OC 29 (.bin .neq (TT 28) (.const (.string
 ⟨#[]⟩))) 26 false, MG 30 29 26 false, FG 31 1 1 30 true, VG 32 31 30 true, OC 33 (.idxs (TT 32) (II 0)) 30 true, OC 34 (.bin .eql (TT 33) (.const (.int .u8 0))) 30 true, OC 35 (.pick (TT 30) (TT 34) (.const (.bool false))) 26
 false, OA 36 (.pick (TT 26) (.const (.bool true)) (TT 35))]) (.cond (TT 36) (.seq (.reg [OA 2 (.mv (.const (.bool false)))]) .ret) .skip)) (.seq (.reg [FF 37 2 1, VV 38 37, OA 39 (.bin .eql (TT 38) (.const (.string ⟨#[1]⟩))), MM
 40 39, FG 41 1 1 40 false, VG 42 41 40 false, FG 43 2 1 40 false, VG 44 43 40 false, OC 45 (.call 94 [TT 42, TT 44]) 40 false, OC 46 (.bin .eql (TT 45) (.const (.string ⟨#[1]⟩))) 40 false, OA 47 (.pick (TT 40) (.const (.bool
 true)) (TT 46)), MM 2 47]) .ret))⟩
theorem b2O : D5 eff Tryz.prog Tryz.f40 = some a6r := by kernel_rfl
theorem b2d : Tryz.prog.funcs[40]? = some Tryz.f40 := Tryz.func40
def a4Y : E9 := ⟨31, [.tmp 2], .seq (.reg [OA 1 (.box 29 (TT 0)), OA 2 (.mv (.const (.bool false)))]) (.seq (.F4 [.q, .q, .q, .q, .q, .q, .q, .q, .q, .q, .q, .q, .q, .q, .q, .q, .q, .q, .q, .q, .q, .q, .q, .q, .q, .q, .q, .q, .q] [FF 3 1 1, VV
 4 3, OA 5 (.len true (TT 4)), OA 6 (.bin .leq (TT 5) (II 3)), MM 7 6, FG 8 2 1 7 true, VG 9 8 7 true, OC 10 (.len true (TT 9)) 7 true, OC 11 (.bin .leq (TT 10) (II 2)) 7 true, OA 12 (.pick (TT 7) (TT 11) (.const (.bool false))),
 MM 13 12, LG 14 3 1 13 true, OC 15 (.call 40 [TT 14]) 13 true, OA 16 (.pick (TT 13) (TT 15) (.const (.bool false))), MM 17 16, FG 18 1 1 17 true, VG 19 18 17 true, OC 20 (.call 95 [II 1000000]) 17 true, OC 21 (.call 78 [TT 19,
 TT 20]) 17 true, OC 22 (.bin .leq (TT 21) (II 0)) 17 true, OA 23 (.pick (TT 17) (TT 22) (.const (.bool false))), MM 24 23, FG 25 2 1 24 true, VG 26 25 24 true, OC 27 (.call 95 [II 1000]) 24 true, OC 28 (.call 78 [TT 26, TT 27])
 24 true, OC 29 (.bin .leq (TT 28) (II 0)) 24 true, OA 30 (.pick (TT 24) (TT 29) (.const (.bool false))), MM 2 30]) .ret)⟩
theorem b0W : D5 eff Tryz.prog Tryz.f41 = some a4Y := by kernel_rfl
theorem b0C : Tryz.prog.funcs[41]? = some Tryz.f41 := Tryz.func41
def a7k : E9 := ⟨61, [.cell 4 true 3], .seq (.reg [OA 2 (.box 29 (TT 0)), OA 3 (.box 29 (TT 1)), OA 4 (.alloc 29 [.bool false, .string ⟨#[]⟩, .string ⟨#[]⟩])]) (.seq (.F4 [.q, .q, .q, .q, .e none true, .e none true] [LL 9 3 2, OA 10 (.call 77
 [TT 9]), LL 11 3 3, OA 12 (.call 77 [TT 11]), OB (.store 3 (TT 2) (TT 10)), OB (.store 3 (TT 3) (TT 12))]) (.seq (.seq (.reg [FF 13 2 2, VV 14 13, FF 15 2 3, VV 16 15, OA 17 (.bin .eql (TT 14) (TT 16))]) (.cond (TT 17) (.seq
 (.reg [FF 19 0 2, VV 20 19, FF 21 1 2, VV 22 21, FF 23 0 3, VV 24 23, FF 25 1 3, VV 26 25, OA 27 (.call 117 [TT 20, TT 22, TT 24, TT 26]), MM 18 27, OA 28 (.ext (TT 18) 0), OA 29 (.ext (TT 18) 1), MM 5 28, MM 6 29]) (.seq (.reg
 [MM 30 5, MM 31 6, FF 32 2 2, VV 33 32, OA 34 (.call 118 [TT 30, TT 31, TT 33]), OB (.store 3 (TT 4) (TT 34))]) .ret)) .skip)) (.seq (.F4 [.q, .q, .q, .q, .q, .q, .q, .q, .q, .q, .q, .q, .q, .q, .q, .q, .q, .q, .q, .q] [FF 36
 0 2, VV 37 36, FF 38 1 2, VV 39 38, FF 40 2 3, VV 41 40, OA 42 (.call 79 [TT 39, TT 41]), FF 43 0 3, VV 44 43, FF 45 1 3, VV 46 45, FF 47 2 2, VV 48 47, OA 49 (.call 79 [TT 46, TT 48]), OA 50 (.call 117 [TT 37, TT 42, TT 44, TT
 49]), MM 35 50, OA 51 (.ext (TT 35) 0), OA 52 (.ext (TT 35) 1), MM 7 51, MM 8 52]) (.seq (.reg [MM 53 7, MM 54 8, FF 55 2 2, VV 56 55, FF 57 2 3, VV 58 57, OA 59 (.call 79 [TT 56, TT 58]), OA 60 (.call 118 [TT 53, TT 54, TT
 59]), OB (.store 3 (TT 4) (TT 60))]) .ret))))⟩
theorem b3q : D5 eff Tryz.prog Tryz.f72 = some a7k := by kernel_rfl
theorem b3E : Tryz.prog.funcs[72]? = some Tryz.f72 := Tryz.func72
def a6x : E9 := ⟨36, [.cell 6 true 3], .seq (.reg [OA 6 (.alloc 29 [.bool false, .string ⟨#[]⟩, .string ⟨#[]⟩])]) (.seq (.seq (.reg [MM 8 1, OA 9 (.bin .eql (TT 8) (.const (.string ⟨#[]⟩)))]) (.cond (TT 9) (.seq (.reg [OA 10 (.call 123 []), OB
 (.store 3 (TT 6) (TT 10))]) .ret) .skip)) (.seq (.seq (.reg [MM 11 2, OA 12 (.bin .neq (TT 11) (.const (.string ⟨#[1]⟩)))]) (.cond (TT 12) (.seq (.reg [MM 13 1, MM 14 2, OA 15 (.call 94 [TT 13, TT 14]), MM 7 15]) (.seq (.reg [MM
 16 7, OA 17 (.bin .neq (TT 16) (.const (.string ⟨#[1]⟩)))]) (.cond (TT 17) (.seq (.reg [MM 19 1, MM 20 7, OA 21 (.call 137 [TT 19, TT 20]), MM 18 21, OA 22 (.ext (TT 18) 0), OA 23 (.ext (TT 18) 1), OA 24 (.ext (TT 18) 2), MM 1
 22]) (.reg [MM 26 2, MM 27 7, OA 28 (.call 137 [TT 26, TT 27]), MM 25 28, OA 29 (.ext (TT 25) 0), OA 30 (.ext (TT 25) 1), OA 31 (.ext (TT 25) 2), MM 2 29])) .skip))) .skip)) (.seq (.reg [MM 32 0, MM 33 1, MM 34 2, OA 35 (.build
 [.bool false, .string ⟨#[]⟩, .string ⟨#[]⟩] [(0, (1, TT 32)), (1, (1, TT 33)), (2, (1, TT 34))]), OB (.store 3 (TT 6) (TT 35))]) .ret)))⟩
theorem b2c : D5 eff Tryz.prog Tryz.f118 = some a6x := by kernel_rfl
theorem b2r : Tryz.prog.funcs[118]? = some Tryz.f118 := Tryz.func118
theorem kS {P : Program} {f : Nat} {fn : Func} {ir : E9} (hf : P.funcs[f]? = some fn) (hc : D5 eff P fn = some ir) {args : List C} {r : C} (hn : Nat.ble args.length ir.ntmps = true) (h : ∀ w O, S ⟨P, eff, ir.ntmps, w, fun _ => False, O, [], []⟩ (Fin P ir.results (Out ⟨P, eff, ir.ntmps, w, fun _ => False, O, [], []⟩ r)) ⟨l9 0 args, []⟩ [.code ir.body]) : F3 P f args r := F3.of hf hc (c0d hn) h
theorem kW {P : Program} {Pw : World -> Prop} {f : Nat} {fn : Func} {ir : E9} (hf : P.funcs[f]? = some fn) (hc : D5 eff P fn = some ir) {args : List C} {r : C} (hn : Nat.ble args.length ir.ntmps = true) (h : ∀ w O, Pw w -> S ⟨P, eff, ir.ntmps, w, fun _ => False, O, [], []⟩ (Fin P ir.results (Out ⟨P, eff, ir.ntmps, w, fun _ => False, O, [], []⟩ r)) ⟨l9 0 args, []⟩ [.code ir.body]) : U9 P Pw f args r := U9.of hf hc (c0d hn) h
open Go Go.RowKit Eng
set_option maxRecDepth 10000
set_option maxHeartbeats 1000000
theorem a5R (b : UInt8) : ((b.toNat : Int) = 0) = (b = 0) := propext ⟨fun h => UInt8.toNat.inj (by simp; omega), fun h => by subst h; rfl⟩
theorem a4I {α : Type} (x : α) (l : List α) : List.drop (Int.toNat 1) (List.take (l.length + 1) (x :: l)) = l := by simp
theorem a9H (v : Nat) (b : UInt8) : bits .or .u64 (IntKind.u64.wrap (((v % 18446744073709551616 : Nat) : Int) * 256)) (IntKind.u64.wrap ((b.toNat : Nat) : Int)) = (((256 * v + b.toNat) % 18446744073709551616 : Nat) : Int) := by
 have hb := b.toNat_lt
 have h1 : IntKind.u64.wrap (((v % 18446744073709551616 : Nat) : Int) * 256) = ((v % 18446744073709551616 * 256 % 18446744073709551616 : Nat) : Int) := by rw [<- a2M]; rfl
 rw [h1, a2M, a8g _ _ (by omega) (by omega), Nat.mod_eq_of_lt (a := b.toNat) (by omega), Nm.b3A _ _ (by omega)]
theorem X9 (l : List UInt8) (hl : l.length <= 1099511627776) : F3 Tryz.prog 124 [sb l] (sb (Nm.trim l)) := by
  refine kS Tryz.func124 (by cbv) (by rfl) fun w O => ?_
  simp only [l9, sb]
  (repeat first | refine uA ?_ | (refine uK ?_ ?_; focus first | omega | trivial | (intro h; rw [h]; rfl) | (intro h h2; rw [h, h2]; rfl) | (intro h; (try simp at h); omega) | (intros; simp_all <;> omega)) | simp only [go_sem, Nat.reduceBEq, Nat.reduceAdd, Nat.reduceLeDiff, Int.reduceToNat, Int.reducePow] | simp (disch := omega) only [ww])
  refine S.loop (X := List UInt8) (fun m => ⟨[(0, sb m)], []⟩) (fun m => Nm.trim m = Nm.trim l) (fun m => m.length) l rfl (by (repeat first | refine uA ?_ | (refine ⟨?_, ?_⟩; focus first | rfl | trivial | (simp [slot]; done)) | rfl | trivial | simp)) ?_
  intro m hm
  cases m with
  | nil =>
    simp only [sb]
    (repeat first | refine uA ?_ | (refine uK ?_ ?_; focus first | omega | trivial | (intro h; rw [h]; rfl) | (intro h h2; rw [h, h2]; rfl) | (intro h; (try simp at h); omega) | (intros; simp_all <;> omega)) | simp only [go_sem, Nat.reduceBEq, Nat.reduceAdd, Nat.reduceLeDiff, Int.reduceToNat, Int.reducePow, D6, List.length_nil] | simp (disch := omega) only [ww, D6, List.length_nil])
    (refine uJ rfl (fun hc => ?_) fun hc => ?_)
    · omega
    rw [<- hm]
    (repeat first | refine uA ?_ | (refine uK ?_ ?_; focus first | omega | trivial | (intro h; rw [h]; rfl) | (intro h h2; rw [h, h2]; rfl) | (intro h; (try simp at h); omega) | (intros; simp_all <;> omega)) | simp only [go_sem, Nat.reduceBEq, Nat.reduceAdd, Nat.reduceLeDiff, Int.reduceToNat, Int.reducePow] | simp (disch := omega) only [ww])
    exact S.done (d9.out rfl (Imp.refl rfl) rfl)
  | cons b m =>
    simp only [sb]
    (repeat first | refine uA ?_ | (refine uK ?_ ?_; focus first | omega | trivial | (intro h; rw [h]; rfl) | (intro h h2; rw [h, h2]; rfl) | (intro h; (try simp at h); omega) | (intros; simp_all <;> omega)) | simp only [go_sem, Nat.reduceBEq, Nat.reduceAdd, Nat.reduceLeDiff, Int.reduceToNat, Int.reducePow, D6, N7, c0l, List.getD_cons_zero, a7G, a5R] | simp (disch := omega) only [ww, D6, N7, c0l, List.getD_cons_zero, a7G, a5R])
    (refine uJ rfl (fun hc => ?_) fun hc => ?_)
    · obtain ⟨_, rfl⟩ := hc
      have hm2 : Nm.trim m = Nm.trim l := by rw [<- hm]; rfl
      (repeat first | refine uA ?_ | (refine uK ?_ ?_; focus first | omega | trivial | (intro h; rw [h]; rfl) | (intro h h2; rw [h, h2]; rfl) | (intro h; (try simp at h); omega) | (intros; simp_all <;> omega)) | simp only [go_sem, Nat.reduceBEq, Nat.reduceAdd, Nat.reduceLeDiff, Int.reduceToNat, Int.reducePow, D6, N7, c0l, a7G, c0m, List.take_succ_cons, List.drop_succ_cons, b9R, a4I] | simp (disch := omega) only [ww, D6, N7, c0l, a7G, c0m, List.take_succ_cons, List.drop_succ_cons, b9R, a4I])
      refine S.next (m := List.length) (x := 0 :: m) m hm2 (by simp) (by exact (by (repeat first | refine uA ?_ | (refine ⟨?_, ?_⟩; focus first | rfl | trivial | (simp [slot]; done)) | rfl | trivial | simp)))
    · have hb : b ≠ 0 := by
        intro hb
        rcases hc with hc | hc
        · omega
        · exact hc hb
      have he : Nm.trim l = b :: m := by rw [<- hm]; unfold Nm.trim; rw [if_neg hb]
      rw [he]
      (repeat first | refine uA ?_ | (refine uK ?_ ?_; focus first | omega | trivial | (intro h; rw [h]; rfl) | (intro h h2; rw [h, h2]; rfl) | (intro h; (try simp at h); omega) | (intros; simp_all <;> omega)) | simp only [go_sem, Nat.reduceBEq, Nat.reduceAdd, Nat.reduceLeDiff, Int.reduceToNat, Int.reducePow] | simp (disch := omega) only [ww])
      exact S.done (d9.out rfl (Imp.refl rfl) rfl)
theorem a1d (l : List UInt8) (hl : l.length <= 1099511627776) : F3 Tryz.prog 127 [sb l] (.v (.int .u64 ((Nm.val l % 18446744073709551616 : Nat) : Int))) := by
 refine kS Tryz.func127 (by cbv) (by rfl) fun w O => ?_
 simp only [l9, sb]
 (repeat first | refine uA ?_ | (refine uK ?_ ?_; focus first | omega | trivial | (intro h; rw [h]; rfl) | (intro h h2; rw [h, h2]; rfl) | (intro h; (try simp at h); omega) | (intros; simp_all <;> omega)) | simp only [go_sem, Nat.reduceBEq, Nat.reduceAdd, Nat.reduceLeDiff, Int.reduceToNat, Int.reducePow, D6] | simp (disch := omega) only [ww, D6])
 refine S.loop (X := Nat) (fun i => ⟨[(0, sb l), (3, .v (.int .u64 ((Nm.val (l.take i) % 18446744073709551616 : Nat) : Int))), (6, ints l.length), (7, ints i)], []⟩) (fun i => i <= l.length) (fun i => l.length - i) 0 (b9M _) (by (repeat first | refine uA ?_ | (refine ⟨?_, ?_⟩; focus first | rfl | trivial | (simp [slot]; done)) | rfl | trivial | simp)) ?_
 intro i hi
 simp only [sb, ints]
 (repeat first | refine uA ?_ | (refine uK ?_ ?_; focus first | omega | trivial | (intro h; rw [h]; rfl) | (intro h h2; rw [h, h2]; rfl) | (intro h; (try simp at h); omega) | (intros; simp_all <;> omega)) | simp only [go_sem, Nat.reduceBEq, Nat.reduceAdd, Nat.reduceLeDiff, Int.reduceToNat, Int.reducePow] | simp (disch := omega) only [ww])
 (refine uJ rfl (fun hc => ?_) fun hc => ?_)
 ·have hi' : i < l.length := by omega
  have hg : l.getD i 0 = l[i] := by rw [b9Q, b9I hi']; rfl
  have hv : Nm.val (l.take (i + 1)) = 256 * Nm.val (l.take i) + l[i].toNat := by rw [c0B hi', Nm.b0r]
  have hb := l[i].toNat_lt
  (repeat first | refine uA ?_ | (refine uK ?_ ?_; focus first | omega | trivial | (intro h; rw [h]; rfl) | (intro h h2; rw [h, h2]; rfl) | (intro h; (try simp at h); omega) | (intros; simp_all <;> omega)) | simp only [go_sem, Nat.reduceBEq, Nat.reduceAdd, Nat.reduceLeDiff, Int.reduceToNat, Int.reducePow, D6, N7, hg, a9H] | simp (disch := omega) only [ww, D6, N7, hg, a9H])
  refine S.next (i + 1) hi' (by omega) (by rw [hv]; exact (by (repeat first | refine uA ?_ | (refine ⟨?_, ?_⟩; focus first | rfl | trivial | (simp [slot]; done)) | rfl | trivial | simp)))
 ·have hi' : i = l.length := by omega
  subst hi'
  rw [c0m]
  (repeat first | refine uA ?_ | (refine uK ?_ ?_; focus first | omega | trivial | (intro h; rw [h]; rfl) | (intro h h2; rw [h, h2]; rfl) | (intro h; (try simp at h); omega) | (intros; simp_all <;> omega)) | simp only [go_sem, Nat.reduceBEq, Nat.reduceAdd, Nat.reduceLeDiff, Int.reduceToNat, Int.reducePow] | simp (disch := omega) only [ww])
  exact S.done (d9.out rfl (Imp.refl rfl) rfl)
def b8 (n i : Nat) : List C := ((Nm.be8 n).take i ++ List.replicate (8 - i) 0).map fun b : UInt8 => .v (.int .u8 ((b.toNat : Nat) : Int))
theorem a4n (n k : Nat) : IntKind.u8.wrap (Int.fdiv (n : Int) (k : Int)) = (((Nm.oB (n / k)).toNat : Nat) : Int) := by
 rw [a0X, a0H, Nm.a0K]
theorem b4Y (n i : Nat) (h : i <= 8) : (b8 n i).length = 8 := by simp [b8, Nm.be8]; omega
theorem b7X (n : Nat) : b8 n 0 = [.v (.int .u8 0), .v (.int .u8 0), .v (.int .u8 0), .v (.int .u8 0), .v (.int .u8 0), .v (.int .u8 0), .v (.int .u8 0), .v (.int .u8 0)] := rfl
theorem b7l (n i : Nat) (h : i < 8) : (b8 n i).take i ++ [C.v (.int .u8 (IntKind.u8.wrap (Int.fdiv (n : Int) (2 ^ min (56 - 8 * (i : Int)).toNat 64))))] ++ (b8 n i).drop (i + 1) = b8 n (i + 1) := by
 have : i = 0 \/ i = 1 \/ i = 2 \/ i = 3 \/ i = 4 \/ i = 5 \/ i = 6 \/ i = 7 := by omega
 have e : IntKind.u8.wrap (Int.fdiv (n : Int) (2 ^ min (56 - 8 * (i : Int)).toNat 64)) = (((Nm.oB (n / 2 ^ (56 - 8 * i))).toNat : Nat) : Int) := by
  rw [<- a4n, show min (56 - 8 * (i : Int)).toNat 64 = 56 - 8 * i by omega]
  congr 2
 rw [e]
 rcases this with rfl | rfl | rfl | rfl | rfl | rfl | rfl | rfl <;> simp [b8, Nm.be8, List.replicate]
theorem b2P {α : Type} (k : Nat) (f : α -> Value) : ∀ l : List α, C.bdL k (l.map fun x => .v (f x)) = true
 | [] => rfl
 | x :: l => by simp only [b9Z, C.bdL, C.bd, Bool.true_and]; exact b2P k f l
theorem b0Q (n : Nat) : R5 (List.map a8u (List.take 8 (b8 n 8))) = some (Nm.be8 n) := by
 have : List.map a8u (List.take 8 (b8 n 8)) = (Nm.be8 n).map D8 := by simp [b8, Nm.be8, a8u, D8]
 rw [this, O8]
theorem V5 (n : Nat) (hn : n < 18446744073709551616) : F3 Tryz.prog 126 [.v (.int .u64 (n : Int))] (sb (Nm.enc n)) := by
 refine kS Tryz.func126 (by cbv) (by rfl) fun w O => ?_
 simp only [l9, sb]
 (repeat first | refine uA ?_ | (refine uK ?_ ?_; focus first | omega | trivial | (intro h; rw [h]; rfl) | (intro h h2; rw [h, h2]; rfl) | (intro h; (try simp at h); omega) | (intros; simp_all <;> omega)) | simp only [go_sem, Nat.reduceBEq, Nat.reduceAdd, Nat.reduceLeDiff, Int.reduceToNat, Int.reducePow] | simp (disch := omega) only [ww])
 refine S.loop (X := Nat) (fun i => ⟨[(0, .v (.int .u64 (n : Int))), (3, .bp 0 0), (5, ints i)], [.box 202 (b8 n i)]⟩) (fun i => i <= 8) (fun i => 8 - i) 0 (b9M _) (by rw [b7X]; exact (by (repeat first | refine uA ?_ | (refine ⟨?_, ?_⟩; focus first | rfl | trivial | (simp [slot]; done)) | rfl | trivial | simp))) ?_
 intro i hi
 simp only [ints]
 (repeat first | refine uA ?_ | (refine uK ?_ ?_; focus first | omega | trivial | (intro h; rw [h]; rfl) | (intro h h2; rw [h, h2]; rfl) | (intro h; (try simp at h); omega) | (intros; simp_all <;> omega)) | simp only [go_sem, Nat.reduceBEq, Nat.reduceAdd, Nat.reduceLeDiff, Int.reduceToNat, Int.reducePow] | simp (disch := omega) only [ww])
 (refine uJ rfl (fun hc => ?_) fun hc => ?_)
 ·have hlen := b4Y n i (by omega)
  (repeat first | refine uA ?_ | (refine uK ?_ ?_; focus first | omega | trivial | (intro h; rw [h]; rfl) | (intro h h2; rw [h, h2]; rfl) | (intro h; (try simp at h); omega) | (intros; simp_all <;> omega)) | simp only [go_sem, Nat.reduceBEq, Nat.reduceAdd, Nat.reduceLeDiff, Int.reduceToNat, Int.reducePow, c0n, Nat.mul_one] | simp (disch := omega) only [ww, c0n, Nat.mul_one])
  refine S.next (i + 1) (by omega) (by omega) (by rw [b7l n i (by omega)]; exact Ent.mk _ _ (by (repeat first | refine uA ?_ | (refine ⟨?_, ?_⟩; focus first | rfl | trivial | (simp [slot]; done)) | rfl | trivial | simp)) (L9.cons (RI.box _ _ _ (l8.refl (b2P _ _ _))) L9.nil) (b9M _))
 ·have hi8 : i = 8 := by omega
  subst hi8
  have hlen := b4Y n 8 (by omega)
  (repeat first | refine uA ?_ | (refine uK ?_ ?_; focus first | omega | trivial | (intro h; rw [h]; rfl) | (intro h h2; rw [h, h2]; rfl) | (intro h; (try simp at h); omega) | (intros; simp_all <;> omega)) | simp only [go_sem, Nat.reduceBEq, Nat.reduceAdd, Nat.reduceLeDiff, Int.reduceToNat, Int.reducePow, b0Q, a2s, Nm.b0t hn] | simp (disch := omega) only [ww, b0Q, a2s, Nm.b0t hn] | (refine uB (X9 (Nm.be8 n) (c0d rfl)) ?_ ?_; exact rfl))
  exact S.done (d9.out rfl (Imp.refl rfl) rfl)
theorem b4l (n : Int) (hn : n <= 9223372036854775807) : F3 Tryz.prog 95 [ints n] (sb (Nm.enc n.toNat)) := by
 refine kS Tryz.func95 (by cbv) (by rfl) fun w O => ?_
 simp only [l9, sb, ints]
 (repeat first | refine uA ?_ | (refine uK ?_ ?_; focus first | omega | trivial | (intro h; rw [h]; rfl) | (intro h h2; rw [h, h2]; rfl) | (intro h; (try simp at h); omega) | (intros; simp_all <;> omega)) | simp only [go_sem, Nat.reduceBEq, Nat.reduceAdd, Nat.reduceLeDiff, Int.reduceToNat, Int.reducePow] | simp (disch := omega) only [ww])
 (refine uJ rfl (fun hc => ?_) fun hc => ?_)
 ·have h0 : n.toNat = 0 := by omega
  rw [h0, Nm.a0s]
  (repeat first | refine uA ?_ | (refine uK ?_ ?_; focus first | omega | trivial | (intro h; rw [h]; rfl) | (intro h h2; rw [h, h2]; rfl) | (intro h; (try simp at h); omega) | (intros; simp_all <;> omega)) | simp only [go_sem, Nat.reduceBEq, Nat.reduceAdd, Nat.reduceLeDiff, Int.reduceToNat, Int.reducePow] | simp (disch := omega) only [ww])
  exact S.done (d9.out rfl (Imp.refl rfl) rfl)
 ·obtain ⟨m, rfl⟩ := Int.eq_ofNat_of_zero_le (show 0 <= n by omega)
  (repeat first | refine uA ?_ | (refine uK ?_ ?_; focus first | omega | trivial | (intro h; rw [h]; rfl) | (intro h h2; rw [h, h2]; rfl) | (intro h; (try simp at h); omega) | (intros; simp_all <;> omega)) | simp only [go_sem, Nat.reduceBEq, Nat.reduceAdd, Nat.reduceLeDiff, Int.reduceToNat, Int.reducePow] | simp (disch := omega) only [ww] | (refine uB (V5 m (by omega)) ?_ ?_; exact rfl))
  exact S.done (d9.out rfl (Imp.refl rfl) rfl)
end Go.Proofs.YtgmlehjgpgdjhaaGreatDoor
namespace Go.Proofs.YtgmlehjgpgdjhaaGreatDoor.Eng
open Go Go.RowKit
def b8k (E : Ctx) (e sz : Nat) (es : List (List C)) (y : Value) (w' : World) : Prop :=
 Below E.w0.heap.size E.w0 w' /\ (∀ b, A8 y = some b -> E.w0.heap.size <= b /\ b < w'.heap.size) /\ I7 [] w' (fun b => E.av b \/ A8 y = some b) y (.row e sz es)
def FNew (P : Program) (f : Nat) (args : List C) (e sz : Nat) (es : List (List C)) : Prop := ∀ (O : Nat -> Prop) (w : World) (vs : List Value), (∀ b, O b -> b < w.heap.size) -> FzL w O args vs ->
 Calls P f vs.toArray w fun ee w' => ∃ y, ee = .returned y /\ Below w.heap.size w w' /\ (∀ b, A8 y = some b -> w.heap.size <= b /\ b < w'.heap.size) /\ I7 [] w' (fun b => O b \/ A8 y = some b) y (.row e sz es)
theorem a4e {w : World} {O O' : Nat -> Prop} {ν ν' : List Value} {x : Value} {e sz : Nat} {es : List (List C)} (h : ∀ b, O' b -> O b) (hr : I7 ν w O x (.row e sz es)) : I7 ν' w O' x (.row e sz es) := by
 obtain ⟨h0, vs, h1, h2, h3⟩ := hr
 exact ⟨h0, vs, FzL.keep (Keeps.sub h) h1, h2, h3⟩
theorem d9.new {E : Ctx} (hown : E.own0 = fun _ => False) {rs : List Res} {cs : List C} {k e sz : Nat} {es : List (List C)} (h : a6Y cs = .rv k) (hk : rs[k]? = some (.row e sz es)) : d9 E rs (b8k E e sz es) cs := by
 intro wf ν w y hR hF hN hd
 rw [h] at hd
 simp only [Den] at hd
 have hok := hR.get hk hd.1
 have hown' : ∀ b, A8 y = some b -> owned rs ν b := fun b hb => ⟨k, _, y, hk, hd.1, hb⟩
 refine ⟨⟨hF.os, hF.tape, hF.output, hF.size, fun b hb => hF.block b hb (by rw [hown]; exact fun h => h)⟩, fun b hb => ?_, a4e (fun b hb => ?_) hok⟩
 ·obtain ⟨h1, h2, h3⟩ := hR.low b (hown' b hb)
  rw [hown] at h3
  rcases h3 with h3 | h3
  ·exact h3.elim
  ·exact ⟨h3, h1⟩
 ·rcases hb with hb | hb
  ·exact .inl hb
  ·exact .inr (hown' b hb)
theorem FNew.of {eff : Nat -> Bool} {P : Program} {f : Nat} {fn : Func} {ir : E9} (hf : P.funcs[f]? = some fn) (hc : D5 eff P fn = some ir) {args : List C} {e sz : Nat} {es : List (List C)} (hn : args.length <= ir.ntmps)
  (h : ∀ w O, S ⟨P, eff, ir.ntmps, w, fun _ => False, O, [], []⟩ (Fin P ir.results (b8k ⟨P, eff, ir.ntmps, w, fun _ => False, O, [], []⟩ e sz es)) ⟨l9 0 args, []⟩ [.code ir.body]) : FNew P f args e sz es := by
 intro O w vs hO hargs
 exact enter hf hc O hO args hargs hn (h w O)
theorem FNew.spec {P : Program} {f : Nat} {args : List C} {e sz : Nat} {es : List (List C)} (h : FNew P f args e sz es) : F3 P f args (.sl sz es) := by
 intro O w vs hO hA
 refine (h O w vs hO hA).mono ?_
 rintro ee w' ⟨y, rfl, h1, h2, h0, us, h3, h4, h5⟩
 refine ⟨y, rfl, h1, b0N h5 rfl h0 (FzL.keep (Keeps.sub fun b hb => .inl hb) h3) h4 fun b hb => ?_⟩
 obtain ⟨h6, h7⟩ := h2 b hb
 exact ⟨h7, fun hb' => by have := hO b hb'; omega⟩
theorem FNew.t {E : Ctx} {rs : List Res} {f : Nat} {args : List C} {e sz : Nat} {es : List (List C)} (h : FNew E.P f args e sz es) (hb : (C.bdL rs.length args && C.clL args) = true) : j5 E rs f args (.rv rs.length) (rs ++ [.row e sz es]) [] := by
 rw [b9N] at hb
 intro av ν w vs hR hav hF hD
 have hlt : ∀ b, OO av rs ν b -> b < w.heap.size := fun b hb => by
  rcases hb with hb | hb
  ·exact hR.av b hb
  ·exact (hR.low b hb).1
 refine (h (OO av rs ν) w vs hlt (hD.fz hb.2)).mono ?_
 rintro ee w' ⟨y, rfl, h1, h2, h3⟩
 have hadd := hR.add (x := y) (r := .row e sz es) h1 h2 (fun _ _ => a4e (fun b hb => by
  rcases hb with hb | ⟨k, q, z, hk, hz, hf⟩
  ·exact .inl (.inl hb)
  ·rcases c0j k rs.length with hlt | hge
   ·rw [b9P hlt] at hk
    rw [b9P (by rw [hR.len]; exact hlt)] at hz
    exact .inl (.inr ⟨k, q, z, hk, hz, hf⟩)
   ·rw [b9Y hge] at hk
    rw [b9Y (by rw [hR.len]; exact hge), hR.len] at hz
    cases hi : k - rs.length with
    | zero =>
     rw [hi] at hk hz
     simp at hk hz
     subst hk hz
     exact .inr hf
    | succ n => rw [hi] at hk; simp at hk) h3)
 refine ⟨y, ν ++ [y], rfl, hadd.1, hadd.2, ?_⟩
 simp only [Den]
 obtain ⟨_, us, _, _, h5⟩ := h3
 exact ⟨by rw [<- hR.len]; simp, h5.slice.elim fun A h => h.elim fun c h => ⟨A, _, c, h⟩⟩
theorem l7.vw {E : Ctx} {rs : List Res} {f : Nat} {args args' : List C} {K : C -> List Res -> List Nat -> Prop} {r : C} (hs : F3 E.P f args' r) (hi : l8 rs [] args args') (hcl : C.clL args' = true) (hr : r.flat = true) (hk : K r rs []) : l7 E rs f args K :=
 l7.quiet (L6.view (fun _ => hs) (fun _ => hi) (fun _ => hcl) hr) hk
theorem U8.vw {E : Ctx} {rs : List Res} {p : Bool} {f : Nat} {args args' : List C} {K : C -> Prop} {r : C} (hs : F3 E.P f args' r) (hi : l8 rs [] args args') (hcl : C.clL args' = true) (hr : r.flat = true) (hk : K r) : U8 E rs p f args K :=
 U8.mk (L6.view (fun _ => hs) (fun _ => hi) (fun _ => hcl) hr) hk
end Go.Proofs.YtgmlehjgpgdjhaaGreatDoor.Eng
namespace Go.Proofs.YtgmlehjgpgdjhaaGreatDoor
open Go Go.RowKit Eng
set_option maxRecDepth 10000
set_option maxHeartbeats 1000000
def ws (l : List Nat) : List (List C) := l.map wd
theorem p9 (l : List Nat) : (ws l).length = l.length := by simp [ws]
theorem A9 (l : List Nat) (i : Nat) : (ws l)[i]? = (l[i]?).map wd := by simp [ws]
theorem G7 (l : List Nat) (i v : Nat) : (ws l).set i [.v (.int .u32 (v : Int))] = ws (l.set i v) := by
 simp [ws, wd, List.map_set]
theorem a1B (n : Nat) : List.replicate n [C.v (.int .u32 0)] = ws (List.replicate n 0) := by simp [ws, wd]
theorem b8i (n : Nat) (h : n <= 1099511627776) : IntKind.i64.wrap (((n : Int) + 3).tdiv 4) = (((n + 3) / 4 : Nat) : Int) := by
 have : ((n : Int) + 3).tdiv 4 = (((n + 3) / 4 : Nat) : Int) := rfl
 rw [this, Eng.wrap_i64 (by omega)]
theorem b8a (i : Nat) (h : i <= 1099511627776) : IntKind.i64.wrap ((i : Int).tdiv 4) = ((i / 4 : Nat) : Int) := by
 have : (i : Int).tdiv 4 = ((i / 4 : Nat) : Int) := rfl
 rw [this, Eng.wrap_i64 (by omega)]
theorem b7a (i : Nat) : (i : Int).tmod 4 = ((i % 4 : Nat) : Int) := rfl
theorem a9L (o : Nat) (b : UInt8) (i : Nat) (ho : o < 4294967296) (hb : b.toNat * 2 ^ (8 * (i % 4)) < 4294967296) :
  bits .or .u32 (o : Int) (IntKind.u32.wrap (IntKind.u32.wrap ((b.toNat : Nat) : Int) * 2 ^ min (((i % 4 : Nat) : Int) * 8).toNat 32)) = ((o ||| b.toNat * 2 ^ (8 * (i % 4)) : Nat) : Int) := by
 have h0 := b.toNat_lt
 rw [Eng.wrap_u32 (n := ((b.toNat : Nat) : Int)) (by omega), show min (((i % 4 : Nat) : Int) * 8).toNat 32 = 8 * (i % 4) by omega]
 have e : ((b.toNat : Nat) : Int) * 2 ^ (8 * (i % 4)) = ((b.toNat * 2 ^ (8 * (i % 4)) : Nat) : Int) := by rw [Int.natCast_mul, Int.natCast_pow]; rfl
 rw [e, Eng.wrap_u32 (by omega), b5w _ _ ho hb]
theorem a1b (l : List UInt8) (hl : l.length <= 1099511627776) : FNew Tryz.prog 128 [sb l] 188 1 (ws (Nm.H8 l)) := by
 refine FNew.of b1P b1S (by exact c0d rfl) fun w O => ?_
 simp only [a5s, l9, TT, II, OA, OB, OC, MM, LL, VV, FF, MG, LG, VG, FG, sb]
 have htl := Nm.Q0 l
 have hend := fun out h => Nm.b0U (l := l) (out := out) h
 have ht := X9 l hl
 generalize Nm.trim l = m at *
 have hm : m.length <= 1099511627776 := by omega
 (repeat first | refine uA ?_ | (refine uK ?_ ?_; focus first | omega | trivial | (intro h; rw [h]; rfl) | (intro h h2; rw [h, h2]; rfl) | (intro h; (try simp at h); omega) | (intros; simp_all <;> omega)) | simp only [go_sem, Nat.reduceBEq, Nat.reduceAdd, Nat.reduceLeDiff, Int.reduceToNat, Int.reducePow, D6, b8i m.length hm] | simp (disch := omega) only [ww, D6, b8i m.length hm] | (refine uB ht ?_ ?_; exact rfl))
 refine S.loop (X := Nat × List Nat) (fun x => ⟨[(0, sb m), (3, .rv 0), (14, ints m.length), (15, ints x.1)], [.row 188 1 (ws x.2)]⟩) (fun x => x.1 <= m.length /\ Nm.a2H m x.1 x.2) (fun x => m.length - x.1) (0, List.replicate ((m.length + 3) / 4) 0) ⟨b9M _, Nm.a9O m⟩ (by simp only [<- a1B]; exact (by (repeat first | refine uA ?_ | (refine ⟨?_, ?_⟩; focus first | rfl | trivial | (simp [slot]; done)) | rfl | trivial | simp))) ?_
 rintro ⟨i, out⟩ ⟨hi, hinv⟩
 simp only [sb, ints] at hi hinv ⊢
 (repeat first | refine uA ?_ | (refine uK ?_ ?_; focus first | omega | trivial | (intro h; rw [h]; rfl) | (intro h h2; rw [h, h2]; rfl) | (intro h; (try simp at h); omega) | (intros; simp_all <;> omega)) | simp only [go_sem, Nat.reduceBEq, Nat.reduceAdd, Nat.reduceLeDiff, Int.reduceToNat, Int.reducePow] | simp (disch := omega) only [ww])
 (refine uJ rfl (fun hc => ?_) fun hc => ?_)
 ·have hi' : i < m.length := by omega
  have hol := hinv.1
  have hj : i / 4 < out.length := by omega
  obtain ⟨hst, hlt, hbl⟩ := Nm.a9W hinv hi' hj
  have hgo : out[i / 4]? = some out[i / 4] := b9I hj
  have ho32 := hinv.2.1 _ (b9S hj)
  have hgm : m.getD ((m.length : Int) - 1 - (i : Int)).toNat 0 = m[m.length - 1 - i] := by
   rw [show ((m.length : Int) - 1 - (i : Int)).toNat = m.length - 1 - i by omega, b9Q, b9I (by omega)]
   rfl
  (repeat first | refine uA ?_ | (refine uK ?_ ?_; focus first | omega | trivial | (intro h; rw [h]; rfl) | (intro h h2; rw [h, h2]; rfl) | (intro h; (try simp at h); omega) | (intros; simp_all <;> omega)) | simp only [go_sem, Nat.reduceBEq, Nat.reduceAdd, Nat.reduceLeDiff, Int.reduceToNat, Int.reducePow, D6, N7, p9, A9, hgo, b9J, hgm, b8a i (by omega), b7a, wd, a9L _ _ _ ho32 hbl, G7] | simp (disch := omega) only [ww, D6, N7, p9, A9, hgo, b9J, hgm, b8a i (by omega), b7a, wd, a9L _ _ _ ho32 hbl, G7])
  refine S.next (x := (i, out)) (i + 1, _) ⟨hi', hst⟩ (by simp only; omega) (by (repeat first | refine uA ?_ | (refine ⟨?_, ?_⟩; focus first | rfl | trivial | (simp [slot]; done)) | rfl | trivial | simp))
 ·have hi' : i = m.length := by omega
  subst hi'
  (repeat first | refine uA ?_ | (refine uK ?_ ?_; focus first | omega | trivial | (intro h; rw [h]; rfl) | (intro h h2; rw [h, h2]; rfl) | (intro h; (try simp at h); omega) | (intros; simp_all <;> omega)) | simp only [go_sem, Nat.reduceBEq, Nat.reduceAdd, Nat.reduceLeDiff, Int.reduceToNat, Int.reducePow] | simp (disch := omega) only [ww])
  rw [<- hend _ hinv]
  exact S.done (d9.new rfl rfl rfl)
theorem b1C (n k : Nat) : IntKind.u8.wrap (Int.fdiv (n : Int) (k : Int)) = (((Nm.oB (n / k)).toNat : Nat) : Int) := a4n n k
theorem a2b (l : List UInt8) (i : Nat) (v : UInt8) : (l.map D8).set i [.v (.int .u8 ((v.toNat : Nat) : Int))] = (l.set i v).map D8 := by
 simp [D8, List.map_set]
theorem a1J (n : Nat) : List.replicate n [C.v (.int .u8 0)] = (List.replicate n (0 : UInt8)).map D8 := by simp [D8]
theorem a3a (l : List Nat) (hl : l.length <= 274877906944) (hw : Nm.E5 l) : F3 Tryz.prog 129 [.sl 1 (ws l)] (sb (Nm.enc (Nm.wv 4294967296 l))) := by
 refine kS b1Z b2J (by rfl) fun w O => ?_
 simp only [a6H, l9, TT, II, OA, OB, OC, MM, LL, VV, FF, MG, LG, VG, FG, sb]
 (repeat first | refine uA ?_ | (refine uK ?_ ?_; focus first | omega | trivial | (intro h; rw [h]; rfl) | (intro h h2; rw [h, h2]; rfl) | (intro h; (try simp at h); omega) | (intros; simp_all <;> omega)) | simp only [go_sem, Nat.reduceBEq, Nat.reduceAdd, Nat.reduceLeDiff, Int.reduceToNat, Int.reducePow, p9] | simp (disch := omega) only [ww, p9])
 refine S.loop (X := Nat × List UInt8) (fun x => ⟨[(0, .sl 1 (ws l)), (3, .rv 0), (11, .sl 1 (ws l)), (12, ints l.length), (13, ints x.1)], [.row 5 1 (x.2.map D8)]⟩) (fun x => x.1 <= l.length /\ Nm.a3S l x.1 x.2) (fun x => l.length - x.1) (0, List.replicate (4 * l.length) 0) ⟨b9M _, Nm.b1r l⟩ (by simp only [<- a1J, p9]; exact (by (repeat first | refine uA ?_ | (refine ⟨?_, ?_⟩; focus first | rfl | trivial | (simp [slot]; done)) | rfl | trivial | simp))) ?_
 rintro ⟨i, b⟩ ⟨hi, hinv⟩
 simp only [ints] at hi hinv ⊢
 have hbl := hinv.1
 (repeat first | refine uA ?_ | (refine uK ?_ ?_; focus first | omega | trivial | (intro h; rw [h]; rfl) | (intro h h2; rw [h, h2]; rfl) | (intro h; (try simp at h); omega) | (intros; simp_all <;> omega)) | simp only [go_sem, Nat.reduceBEq, Nat.reduceAdd, Nat.reduceLeDiff, Int.reduceToNat, Int.reducePow] | simp (disch := omega) only [ww])
 (refine uJ rfl (fun hc => ?_) fun hc => ?_)
 ·have hi' : i < l.length := by omega
  have hgl : l[i]? = some l[i] := b9I hi'
  have hw32 := hw _ (b9S hi')
  have hk : (l.length : Int) - 1 - (i : Int) = ((l.length - 1 - i : Nat) : Int) := by omega
  have hst := Nm.b1d hinv hi' hw32 (Nm.a0K (l[i] / 16777216)) (Nm.a0K (l[i] / 65536)) (Nm.a0K (l[i] / 256)) (Nm.a0K l[i])
  have w1 : IntKind.u8.wrap ((l[i] : Int).fdiv 16777216) = (((Nm.oB (l[i] / 16777216)).toNat : Nat) : Int) := b1C l[i] 16777216
  have w2 : IntKind.u8.wrap ((l[i] : Int).fdiv 65536) = (((Nm.oB (l[i] / 65536)).toNat : Nat) : Int) := b1C l[i] 65536
  have w3 : IntKind.u8.wrap ((l[i] : Int).fdiv 256) = (((Nm.oB (l[i] / 256)).toNat : Nat) : Int) := b1C l[i] 256
  have w4 : IntKind.u8.wrap (l[i] : Int) = (((Nm.oB l[i]).toNat : Nat) : Int) := by rw [a0H, Nm.a0K]
  generalize Nm.oB (l[i] / 16777216) = x0 at *
  generalize Nm.oB (l[i] / 65536) = x1 at *
  generalize Nm.oB (l[i] / 256) = x2 at *
  generalize Nm.oB l[i] = x3 at *
  generalize hkk : l.length - 1 - i = k at *
  have n0 : (4 * (k : Int)).toNat = 4 * k := by omega
  have n1 : (4 * (k : Int) + 1).toNat = 4 * k + 1 := by omega
  have n2 : (4 * (k : Int) + 2).toNat = 4 * k + 2 := by omega
  have n3 : (4 * (k : Int) + 3).toNat = 4 * k + 3 := by omega
  have g0 : b[4 * k]? = some b[4 * k] := b9I (by omega)
  have g1 : (b.set (4 * k) x0)[4 * k + 1]? = some _ := b9I (by simp; omega)
  have g2 : ((b.set (4 * k) x0).set (4 * k + 1) x1)[4 * k + 2]? = some _ := b9I (by simp; omega)
  have g3 : (((b.set (4 * k) x0).set (4 * k + 1) x1).set (4 * k + 2) x2)[4 * k + 3]? = some _ := b9I (by simp; omega)
  (repeat first | refine uA ?_ | (refine uK ?_ ?_; focus first | omega | trivial | (intro h; rw [h]; rfl) | (intro h h2; rw [h, h2]; rfl) | (intro h; (try simp at h); omega) | (intros; simp_all <;> omega)) | simp only [go_sem, Nat.reduceBEq, Nat.reduceAdd, Nat.reduceLeDiff, Int.reduceToNat, Int.reducePow, p9, A9, hgl, b9J, wd, hk, w1, w2, w3, w4, n0, n1, n2, n3, g0, g1, g2, g3, a2b, D8, c0p, c0w] | simp (disch := omega) only [ww, p9, A9, hgl, b9J, wd, hk, w1, w2, w3, w4, n0, n1, n2, n3, g0, g1, g2, g3, a2b, D8, c0p, c0w])
  refine S.next (x := (i, b)) (i + 1, _) ⟨hi', hst⟩ (by simp only; omega) (by (repeat first | refine uA ?_ | (refine ⟨?_, ?_⟩; focus first | rfl | trivial | (simp [slot]; done)) | rfl | trivial | simp))
 ·have hi' : i = l.length := by omega
  subst hi'
  have hend := Nm.b2C hinv
  (repeat first | refine uA ?_ | (refine uK ?_ ?_; focus first | omega | trivial | (intro h; rw [h]; rfl) | (intro h h2; rw [h, h2]; rfl) | (intro h; (try simp at h); omega) | (intros; simp_all <;> omega)) | simp only [go_sem, Nat.reduceBEq, Nat.reduceAdd, Nat.reduceLeDiff, Int.reduceToNat, Int.reducePow, O8, a2s, hend] | simp (disch := omega) only [ww, O8, a2s, hend] | (refine uB (X9 b (by omega)) ?_ ?_; exact rfl))
  exact S.done (d9.out rfl (Imp.refl rfl) rfl)
theorem a0B (n : Nat) : IntKind.u32.wrap (n : Int) = ((n % 4294967296 : Nat) : Int) := b0m n
theorem U6 (n : Nat) : Int.fdiv (n : Int) 4294967296 = ((n / 4294967296 : Nat) : Int) := a0X n 4294967296
theorem f_add (a b : List UInt8) (ha : a.length <= 549755813888) (hb : b.length <= 549755813888) : F3 Tryz.prog 132 [sb a, sb b] (sb (Nm.enc (Nm.val a + Nm.val b))) := by
 refine kS b3N b3Y (by rfl) fun w O => ?_
 simp only [a7C, l9, TT, II, OA, OB, OC, MM, LL, VV, FF, MG, LG, VG, FG, sb]
 have hta := Nm.Q0 a
 have htb := Nm.Q0 b
 have hva := Nm.L8 a
 have hvb := Nm.L8 b
 have hla := Nm.O7 (Nm.trim a)
 have hlb := Nm.O7 (Nm.trim b)
 have hwa := Nm.U5 (Nm.trim a)
 have hwb := Nm.U5 (Nm.trim b)
 have h3a := Nm.V3 (Nm.trim a)
 have h3b := Nm.V3 (Nm.trim b)
 have fta := X9 a (by omega)
 have ftb := X9 b (by omega)
 rw [Nm.a5h] at hla hlb
 generalize Nm.trim a = x at *
 generalize Nm.trim b = y at *
 (repeat first | refine uA ?_ | (refine uK ?_ ?_; focus first | omega | trivial | (intros; simp_all <;> omega)) | simp (disch := omega) only [go_sem, Nat.reduceBEq, Nat.reduceAdd, Nat.reduceLeDiff, Int.reduceToNat, Int.reducePow, ww, D6] | (refine uB fta ?_ ?_; exact rfl) | (refine uB ftb ?_ ?_; exact rfl))
 (refine uJ rfl (fun hc => ?_) fun hc => ?_)
 ·obtain ⟨h1, h2⟩ := hc
  have hx := Nm.U7 (l := x) (k := 7) (by omega)
  have hy := Nm.U7 (l := y) (k := 7) (by omega)
  have e1 : Nm.val x % 18446744073709551616 = Nm.val x := Nat.mod_eq_of_lt (by omega)
  have e2 : Nm.val y % 18446744073709551616 = Nm.val y := Nat.mod_eq_of_lt (by omega)
  have fx := a1d x (by omega)
  have fy := a1d y (by omega)
  rw [e1] at fx
  rw [e2] at fy
  have hf := V5 (Nm.val x + Nm.val y) (by omega)
  rw [<- hva, <- hvb]
  (repeat first | refine uA ?_ | (refine uK ?_ ?_; focus first | omega | trivial | (intros; simp_all <;> omega)) | simp (disch := omega) only [go_sem, Nat.reduceBEq, Nat.reduceAdd, Nat.reduceLeDiff, Int.reduceToNat, Int.reducePow, ww] | (refine uB fx ?_ ?_; exact rfl) | (refine uB fy ?_ ?_; exact rfl) | (refine uB hf ?_ ?_; exact rfl))
  exact S.done (d9.out rfl (Imp.refl rfl) rfl)
 ·have hwx := (a1b x (by omega)).spec
  have hwy := (a1b y (by omega)).spec
  rw [<- hva, <- hvb, <- hwa, <- hwb]
  generalize Nm.H8 x = p at *
  generalize Nm.H8 y = q at *
  (repeat first | refine uA ?_ | (refine uK ?_ ?_; focus first | omega | trivial | (intros; simp_all <;> omega)) | simp (disch := omega) only [go_sem, Nat.reduceBEq, Nat.reduceAdd, Nat.reduceLeDiff, Int.reduceToNat, Int.reducePow, ww, p9] | (refine uB hwx ?_ ?_; exact rfl) | (refine uB hwy ?_ ?_; exact rfl))
  have hpl : p.length <= 137438953472 := by omega
  have hql : q.length <= 137438953472 := by omega
  have key : ∀ (x y out : List Nat) (i c : Nat), Nm.a2c x y i out c -> i < x.length -> (∀ w ∈ x, w < 4294967296) -> (∀ w ∈ y, w < 4294967296) -> ∀ s, s = c + x.getD i 0 + y.getD i 0 -> Nm.a2c x y (i + 1) (out.set i (s % 4294967296)) (s / 4294967296) := fun x y out i c h hi hx hy s hs => by
   rw [Nm.getD_lt hi] at hs
   refine Nm.b2t h hi (hx _ (b9S hi)) ?_ hs
   rcases c0j i y.length with h1 | h1
   ·rw [Nm.getD_lt h1]; exact hy _ (b9S h1)
   ·rw [b9Q, c0q h1]; decide
  refine S.cond rfl (fun hc => ?_) (fun hc => ?_)
  all_goals simp only [b9U, c0c] at hc
  all_goals clear hwx hwy fta ftb
  ·rw [Nat.add_comm]
   generalize hP : q = P at *
   generalize hQ : p = Q at *
   have hle : Q.length <= P.length := by omega
   have hPl : P.length <= 137438953472 := by omega
   have hP3 : ∀ w ∈ P, w < 4294967296 := h3b
   have hQ3 : ∀ w ∈ Q, w < 4294967296 := h3a
   clear hP hQ hwa hwb hc
   (repeat first | refine uA ?_ | (refine uK ?_ ?_; focus first | omega | trivial | (intros; simp_all <;> omega)) | simp (disch := omega) only [go_sem, Nat.reduceBEq, Nat.reduceAdd, Nat.reduceLeDiff, Int.reduceToNat, Int.reducePow, ww, p9])
   have hn1 : ((P.length : Int) + 1).toNat = P.length + 1 := by omega
   refine S.loop (X := Nat × List Nat × Nat) (fun x => ⟨[(5, .sl 1 (ws P)), (6, .sl 1 (ws Q)), (7, .rv 0), (8, .v (.int .u64 (x.2.2 : Int))), (44, .sl 1 (ws P)), (45, ints P.length), (46, ints x.1)], [.row 188 1 (ws x.2.1)]⟩) (fun x => x.1 <= P.length /\ Nm.a2c P Q x.1 x.2.1 x.2.2) (fun x => P.length - x.1) (0, List.replicate (P.length + 1) 0, 0) ⟨b9M _, Nm.a6u P Q⟩ (by simp only [<- a1B]; rw [hn1]; exact (by (repeat first | refine uA ?_ | (refine ⟨?_, ?_⟩; focus first | rfl | trivial | (simp [slot]; done)) | rfl | trivial | simp))) ?_
   rintro ⟨i, out, c⟩ ⟨hi, hinv⟩
   simp only [ints] at hi hinv ⊢
   have hol := hinv.1
   have hc1 := hinv.2.2.1
   (repeat first | refine uA ?_ | (refine uK ?_ ?_; focus first | omega | trivial | (intros; simp_all <;> omega)) | simp (disch := omega) only [go_sem, Nat.reduceBEq, Nat.reduceAdd, Nat.reduceLeDiff, Int.reduceToNat, Int.reducePow, ww])
   (refine uJ rfl (fun hc => ?_) fun hc => ?_)
   ·have hi' : i < P.length := by omega
    have hgp : P[i]? = some P[i] := b9I hi'
    have hp32 := hP3 _ (b9S hi')
    have hk := key P Q out i c hinv hi' hP3 hQ3
    rw [Nm.getD_lt hi'] at hk
    have hgo : out[i]? = some out[i] := b9I (by omega)
    generalize P[i] = pi at *
    (repeat first | refine uA ?_ | (refine uK ?_ ?_; focus first | omega | trivial | (intros; simp_all <;> omega)) | simp (disch := omega) only [go_sem, Nat.reduceBEq, Nat.reduceAdd, Nat.reduceLeDiff, Int.reduceToNat, Int.reducePow, ww, p9, A9, hgp, b9J, wd])
    (refine uJ rfl (fun hc => ?_) fun hc => ?_)
    ·have hi2 : i < Q.length := by omega
     have hgq : Q[i]? = some Q[i] := b9I hi2
     have hq32 := hQ3 _ (b9S hi2)
     rw [Nm.getD_lt hi2] at hk
     generalize Q[i] = qi at *
     obtain ⟨s, hs⟩ : ∃ s : Nat, s = c + pi + qi := ⟨_, rfl⟩
     have hs' : (c : Int) + (pi : Int) + (qi : Int) = (s : Int) := by omega
     have hk := hk s hs
     (repeat first | refine uA ?_ | (refine uK ?_ ?_; focus first | omega | trivial | (intros; simp_all <;> omega)) | simp (disch := omega) only [go_sem, Nat.reduceBEq, Nat.reduceAdd, Nat.reduceLeDiff, Int.reduceToNat, Int.reducePow, ww, p9, A9, hgq, hgo, b9J, wd, hs', a0B, U6, G7])
     refine S.next (x := (i, out, c)) (i + 1, _, _) ⟨hi', hk⟩ (by simp only; omega) (by (repeat first | refine uA ?_ | (refine ⟨?_, ?_⟩; focus first | rfl | trivial | (simp [slot]; done)) | rfl | trivial | simp))
    ·have hq0 : Q.getD i 0 = 0 := by rw [b9Q, c0q (by omega)]; rfl
     rw [hq0, Nat.add_zero] at hk
     obtain ⟨s, hs⟩ : ∃ s : Nat, s = c + pi := ⟨_, rfl⟩
     have hs' : (c : Int) + (pi : Int) = (s : Int) := by omega
     have hk := hk s hs
     (repeat first | refine uA ?_ | (refine uK ?_ ?_; focus first | omega | trivial | (intros; simp_all <;> omega)) | simp (disch := omega) only [go_sem, Nat.reduceBEq, Nat.reduceAdd, Nat.reduceLeDiff, Int.reduceToNat, Int.reducePow, ww, p9, A9, hgo, b9J, wd, hs', a0B, U6, G7])
     refine S.next (x := (i, out, c)) (i + 1, _, _) ⟨hi', hk⟩ (by simp only; omega) (by (repeat first | refine uA ?_ | (refine ⟨?_, ?_⟩; focus first | rfl | trivial | (simp [slot]; done)) | rfl | trivial | simp))
   ·have hi' : i = P.length := by omega
    subst hi'
    obtain ⟨he, h32⟩ := Nm.a7m hinv hle
    have hgo : out[P.length]? = some out[P.length] := b9I (by omega)
    rw [<- he]
    have ht := a3a (out.set P.length c) (by rw [c0p]; omega) h32
    (repeat first | refine uA ?_ | (refine uK ?_ ?_; focus first | omega | trivial | (intros; simp_all <;> omega)) | simp (disch := omega) only [go_sem, Nat.reduceBEq, Nat.reduceAdd, Nat.reduceLeDiff, Int.reduceToNat, Int.reducePow, ww, p9, A9, hgo, b9J, wd, G7] | (refine uC ht ?_ ?_ ?_; exact rfl; focus (repeat' first | exact l8.nil | exact Imp.refl rfl | exact Imp.frz rfl rfl rfl | (refine Imp.Y5 rfl rfl ?_ ?_; (focus ((try simp only [b9X, p9, A9, hgo, b9J, wd, G7]); omega)); (focus first | rfl | assumption)) | refine l8.cons ?_ ?_); done))
    exact S.done (d9.out rfl (Imp.refl rfl) rfl)
  ·generalize hP : p = P at *
   generalize hQ : q = Q at *
   have hle : Q.length <= P.length := by omega
   have hPl : P.length <= 137438953472 := by omega
   have hP3 : ∀ w ∈ P, w < 4294967296 := h3a
   have hQ3 : ∀ w ∈ Q, w < 4294967296 := h3b
   clear hP hQ hwa hwb hc
   (repeat first | refine uA ?_ | (refine uK ?_ ?_; focus first | omega | trivial | (intros; simp_all <;> omega)) | simp (disch := omega) only [go_sem, Nat.reduceBEq, Nat.reduceAdd, Nat.reduceLeDiff, Int.reduceToNat, Int.reducePow, ww, p9])
   have hn1 : ((P.length : Int) + 1).toNat = P.length + 1 := by omega
   refine S.loop (X := Nat × List Nat × Nat) (fun x => ⟨[(5, .sl 1 (ws P)), (6, .sl 1 (ws Q)), (7, .rv 0), (8, .v (.int .u64 (x.2.2 : Int))), (44, .sl 1 (ws P)), (45, ints P.length), (46, ints x.1)], [.row 188 1 (ws x.2.1)]⟩) (fun x => x.1 <= P.length /\ Nm.a2c P Q x.1 x.2.1 x.2.2) (fun x => P.length - x.1) (0, List.replicate (P.length + 1) 0, 0) ⟨b9M _, Nm.a6u P Q⟩ (by simp only [<- a1B]; rw [hn1]; exact (by (repeat first | refine uA ?_ | (refine ⟨?_, ?_⟩; focus first | rfl | trivial | (simp [slot]; done)) | rfl | trivial | simp))) ?_
   rintro ⟨i, out, c⟩ ⟨hi, hinv⟩
   simp only [ints] at hi hinv ⊢
   have hol := hinv.1
   have hc1 := hinv.2.2.1
   (repeat first | refine uA ?_ | (refine uK ?_ ?_; focus first | omega | trivial | (intros; simp_all <;> omega)) | simp (disch := omega) only [go_sem, Nat.reduceBEq, Nat.reduceAdd, Nat.reduceLeDiff, Int.reduceToNat, Int.reducePow, ww])
   (refine uJ rfl (fun hc => ?_) fun hc => ?_)
   ·have hi' : i < P.length := by omega
    have hgp : P[i]? = some P[i] := b9I hi'
    have hp32 := hP3 _ (b9S hi')
    have hk := key P Q out i c hinv hi' hP3 hQ3
    rw [Nm.getD_lt hi'] at hk
    have hgo : out[i]? = some out[i] := b9I (by omega)
    generalize P[i] = pi at *
    (repeat first | refine uA ?_ | (refine uK ?_ ?_; focus first | omega | trivial | (intros; simp_all <;> omega)) | simp (disch := omega) only [go_sem, Nat.reduceBEq, Nat.reduceAdd, Nat.reduceLeDiff, Int.reduceToNat, Int.reducePow, ww, p9, A9, hgp, b9J, wd])
    (refine uJ rfl (fun hc => ?_) fun hc => ?_)
    ·have hi2 : i < Q.length := by omega
     have hgq : Q[i]? = some Q[i] := b9I hi2
     have hq32 := hQ3 _ (b9S hi2)
     rw [Nm.getD_lt hi2] at hk
     generalize Q[i] = qi at *
     obtain ⟨s, hs⟩ : ∃ s : Nat, s = c + pi + qi := ⟨_, rfl⟩
     have hs' : (c : Int) + (pi : Int) + (qi : Int) = (s : Int) := by omega
     have hk := hk s hs
     (repeat first | refine uA ?_ | (refine uK ?_ ?_; focus first | omega | trivial | (intros; simp_all <;> omega)) | simp (disch := omega) only [go_sem, Nat.reduceBEq, Nat.reduceAdd, Nat.reduceLeDiff, Int.reduceToNat, Int.reducePow, ww, p9, A9, hgq, hgo, b9J, wd, hs', a0B, U6, G7])
     refine S.next (x := (i, out, c)) (i + 1, _, _) ⟨hi', hk⟩ (by simp only; omega) (by (repeat first | refine uA ?_ | (refine ⟨?_, ?_⟩; focus first | rfl | trivial | (simp [slot]; done)) | rfl | trivial | simp))
    ·have hq0 : Q.getD i 0 = 0 := by rw [b9Q, c0q (by omega)]; rfl
     rw [hq0, Nat.add_zero] at hk
     obtain ⟨s, hs⟩ : ∃ s : Nat, s = c + pi := ⟨_, rfl⟩
     have hs' : (c : Int) + (pi : Int) = (s : Int) := by omega
     have hk := hk s hs
     (repeat first | refine uA ?_ | (refine uK ?_ ?_; focus first | omega | trivial | (intros; simp_all <;> omega)) | simp (disch := omega) only [go_sem, Nat.reduceBEq, Nat.reduceAdd, Nat.reduceLeDiff, Int.reduceToNat, Int.reducePow, ww, p9, A9, hgo, b9J, wd, hs', a0B, U6, G7])
     refine S.next (x := (i, out, c)) (i + 1, _, _) ⟨hi', hk⟩ (by simp only; omega) (by (repeat first | refine uA ?_ | (refine ⟨?_, ?_⟩; focus first | rfl | trivial | (simp [slot]; done)) | rfl | trivial | simp))
   ·have hi' : i = P.length := by omega
    subst hi'
    obtain ⟨he, h32⟩ := Nm.a7m hinv hle
    have hgo : out[P.length]? = some out[P.length] := b9I (by omega)
    rw [<- he]
    have ht := a3a (out.set P.length c) (by rw [c0p]; omega) h32
    (repeat first | refine uA ?_ | (refine uK ?_ ?_; focus first | omega | trivial | (intros; simp_all <;> omega)) | simp (disch := omega) only [go_sem, Nat.reduceBEq, Nat.reduceAdd, Nat.reduceLeDiff, Int.reduceToNat, Int.reducePow, ww, p9, A9, hgo, b9J, wd, G7] | (refine uC ht ?_ ?_ ?_; exact rfl; focus (repeat' first | exact l8.nil | exact Imp.refl rfl | exact Imp.frz rfl rfl rfl | (refine Imp.Y5 rfl rfl ?_ ?_; (focus ((try simp only [b9X, p9, A9, hgo, b9J, wd, G7]); omega)); (focus first | rfl | assumption)) | refine l8.cons ?_ ?_); done))
    exact S.done (d9.out rfl (Imp.refl rfl) rfl)
theorem a6S (p q c : Nat) (hp : p < 4294967296) (hq : q < 4294967296) (hc : c <= 1) : ∃ t c' : Nat, IntKind.u32.wrap (IntKind.u64.wrap (IntKind.u64.wrap ((p : Int) - (c : Int)) - (q : Int))) = (t : Int) /\ Int.fdiv (IntKind.u64.wrap (IntKind.u64.wrap ((p : Int) - (c : Int)) - (q : Int))) 9223372036854775808 = (c' : Int) /\ t < 4294967296 /\ c' <= 1 /\ t + c + q = p + 4294967296 * c' := by
 have h1 : ∀ n : Int, IntKind.u64.wrap n = n % 18446744073709551616 := fun n => by simp [IntKind.wrap, IntKind.signed, IntKind.bits]
 have h2 : ∀ n : Int, IntKind.u32.wrap n = n % 4294967296 := fun n => by simp [IntKind.wrap, IntKind.signed, IntKind.bits]
 rw [h1, h1, h2]
 by_cases h : c + q <= p
 ·refine ⟨p - c - q, 0, by omega, ?_, by omega, by omega, by omega⟩
  rw [show (((p : Int) - (c : Int)) % 18446744073709551616 - (q : Int)) % 18446744073709551616 = ((p - c - q : Nat) : Int) by omega]
  have := a0X (p - c - q) 9223372036854775808
  rw [show ((9223372036854775808 : Nat) : Int) = 9223372036854775808 from rfl] at this
  rw [this, Nat.div_eq_of_lt (by omega)]
 ·refine ⟨p + 4294967296 - c - q, 1, by omega, ?_, by omega, by omega, by omega⟩
  rw [show (((p : Int) - (c : Int)) % 18446744073709551616 - (q : Int)) % 18446744073709551616 = ((p + 18446744073709551616 - c - q : Nat) : Int) by omega]
  have := a0X (p + 18446744073709551616 - c - q) 9223372036854775808
  rw [show ((9223372036854775808 : Nat) : Int) = 9223372036854775808 from rfl] at this
  rw [this]
  congr 1
  omega
theorem b5l (p c : Nat) (hp : p < 4294967296) (hc : c <= 1) : ∃ t c' : Nat, IntKind.u32.wrap (IntKind.u64.wrap ((p : Int) - (c : Int))) = (t : Int) /\ Int.fdiv (IntKind.u64.wrap ((p : Int) - (c : Int))) 9223372036854775808 = (c' : Int) /\ t < 4294967296 /\ c' <= 1 /\ t + c + 0 = p + 4294967296 * c' := by
 obtain ⟨t, c', h1, h2, h3⟩ := a6S p 0 c hp (by omega) hc
 have e : IntKind.u64.wrap (IntKind.u64.wrap ((p : Int) - (c : Int)) - ((0 : Nat) : Int)) = IntKind.u64.wrap ((p : Int) - (c : Int)) := by
  have h1 : ∀ n : Int, IntKind.u64.wrap n = n % 18446744073709551616 := fun n => by simp [IntKind.wrap, IntKind.signed, IntKind.bits]
  rw [h1, h1]; omega
 rw [e] at h1 h2
 exact ⟨t, c', h1, h2, h3⟩
theorem b8h {E : Ctx} (hP : E.P = Tryz.prog) (xs ys : List Nat) (hl : xs.length <= 274877906944) (hyl : ys.length <= xs.length) (hx : Nm.E5 xs) (hy : Nm.E5 ys) (hle : Nm.wv 4294967296 ys <= Nm.wv 4294967296 xs) :
  j5 E [.row 188 1 (ws xs)] 153 [.rv 0, .sl 1 (ws ys)] (.tup []) [.row 188 1 (ws (Nm.dig 4294967296 xs.length (Nm.wv 4294967296 xs - Nm.wv 4294967296 ys)))] [] := by
 obtain ⟨P, eff', N, w0, own0, av0, nu0, pk0⟩ := E
 simp only at hP
 subst hP
 refine j5.of (eff := eff) b2K b2m (by exact c0d rfl) fun w own av ν hν => ?_
 simp only [a6M, l9, TT, II, OA, OB, OC, MM, LL, VV, FF, MG, LG, VG, FG]
 have hν0 : ν.length <= 1 := by rw [hν]; exact b9T _
 (repeat first | refine uA ?_ | (refine uK ?_ ?_; focus first | omega | trivial | (intros; simp_all <;> omega)) | simp (disch := omega) only [go_sem, Nat.reduceBEq, Nat.reduceAdd, Nat.reduceLeDiff, Int.reduceToNat, Int.reducePow, ww, p9])
 refine S.loop (X := Nat × List Nat × Nat) (fun x => ⟨[(0, .rv 0), (1, .sl 1 (ws ys)), (4, .v (.int .u64 (x.2.2 : Int))), (8, .rv 0), (9, ints xs.length), (10, ints x.1)], [.row 188 1 (ws x.2.1)]⟩) (fun x => x.1 <= xs.length /\ Nm.a4Z xs ys x.1 x.2.1 x.2.2) (fun x => xs.length - x.1) (0, xs, 0) ⟨b9M _, Nm.b2h ys hx⟩ (Ent.mk _ _ (by (repeat first | refine uA ?_ | (refine ⟨?_, ?_⟩; focus first | rfl | trivial | (simp [slot]; done)) | rfl | trivial | simp)) (by (repeat first | refine uA ?_ | (refine ⟨?_, ?_⟩; focus first | rfl | trivial | (simp [slot]; done)) | rfl | trivial | simp)) hν0) ?_
 rintro ⟨i, out, c⟩ ⟨hi, hinv⟩
 simp only [ints] at hi hinv ⊢
 have hol := hinv.1
 have hc1 := hinv.2.2.1
 (repeat first | refine uA ?_ | (refine uK ?_ ?_; focus first | omega | trivial | (intros; simp_all <;> omega)) | simp (disch := omega) only [go_sem, Nat.reduceBEq, Nat.reduceAdd, Nat.reduceLeDiff, Int.reduceToNat, Int.reducePow, ww])
 (refine uJ rfl (fun hc => ?_) fun hc => ?_)
 ·have hi' : i < xs.length := by omega
  have hgp : xs[i]? = some xs[i] := b9I hi'
  have hgo : out[i]? = some xs[i] := by rw [Nm.V9 hinv.2.2.2.1, hgp]
  have hp32 := hx _ (b9S hi')
  have hk := fun t c' h1 h2 h3 => Nm.b2a (t := t) (c' := c') hinv hi' h1 h2 h3
  generalize xs[i] = pi at *
  (repeat first | refine uA ?_ | (refine uK ?_ ?_; focus first | omega | trivial | (intros; simp_all <;> omega)) | simp (disch := omega) only [go_sem, Nat.reduceBEq, Nat.reduceAdd, Nat.reduceLeDiff, Int.reduceToNat, Int.reducePow, ww, p9, A9, hgo, b9J, wd])
  (refine uJ rfl (fun hc => ?_) fun hc => ?_)
  ·have hi2 : i < ys.length := by omega
   have hgq : ys[i]? = some ys[i] := b9I hi2
   have hq32 := hy _ (b9S hi2)
   rw [Nm.getD_lt hi2] at hk
   generalize ys[i] = qi at *
   obtain ⟨t, c', e1, e2, h1, h2, h3⟩ := a6S pi qi c hp32 hq32 hc1
   have hk := hk t c' h1 h2 h3
   (repeat first | refine uA ?_ | (refine uK ?_ ?_; focus first | omega | trivial | (intros; simp_all <;> omega)) | simp (disch := omega) only [go_sem, Nat.reduceBEq, Nat.reduceAdd, Nat.reduceLeDiff, Int.reduceToNat, Int.reducePow, ww, p9, A9, hgq, hgo, b9J, wd, e1, e2, G7])
   refine S.next (x := (i, out, c)) (i + 1, _, _) ⟨hi', hk⟩ (by simp only; omega) (Ent.mk _ _ (by (repeat first | refine uA ?_ | (refine ⟨?_, ?_⟩; focus first | rfl | trivial | (simp [slot]; done)) | rfl | trivial | simp)) (by (repeat first | refine uA ?_ | (refine ⟨?_, ?_⟩; focus first | rfl | trivial | (simp [slot]; done)) | rfl | trivial | simp)) hν0)
  ·have hq0 : ys.getD i 0 = 0 := by rw [b9Q, c0q (by omega)]; rfl
   rw [hq0] at hk
   obtain ⟨t, c', e1, e2, h1, h2, h3⟩ := b5l pi c hp32 hc1
   have hk := hk t c' h1 h2 h3
   (repeat first | refine uA ?_ | (refine uK ?_ ?_; focus first | omega | trivial | (intros; simp_all <;> omega)) | simp (disch := omega) only [go_sem, Nat.reduceBEq, Nat.reduceAdd, Nat.reduceLeDiff, Int.reduceToNat, Int.reducePow, ww, p9, A9, hgo, b9J, wd, e1, e2, G7])
   refine S.next (x := (i, out, c)) (i + 1, _, _) ⟨hi', hk⟩ (by simp only; omega) (Ent.mk _ _ (by (repeat first | refine uA ?_ | (refine ⟨?_, ?_⟩; focus first | rfl | trivial | (simp [slot]; done)) | rfl | trivial | simp)) (by (repeat first | refine uA ?_ | (refine ⟨?_, ?_⟩; focus first | rfl | trivial | (simp [slot]; done)) | rfl | trivial | simp)) hν0)
 ·have hi' : i = xs.length := by omega
  subst hi'
  obtain ⟨he1, he2⟩ := Nm.b3o hinv hyl hle
  have hd : out = Nm.dig 4294967296 xs.length (Nm.wv 4294967296 xs - Nm.wv 4294967296 ys) := Nm.P9 (by decide) hinv.2.1 hol (by omega)
  rw [<- hd]
  (repeat first | refine uA ?_ | (refine uK ?_ ?_; focus first | omega | trivial | (intros; simp_all <;> omega)) | simp (disch := omega) only [go_sem, Nat.reduceBEq, Nat.reduceAdd, Nat.reduceLeDiff, Int.reduceToNat, Int.reducePow, ww])
  exact S.end_ (d9.own rfl)
end Go.Proofs.YtgmlehjgpgdjhaaGreatDoor
namespace Go.Proofs
open Go.Shelf
def Tryz.b2E : Go.Shelf.Ren := ⟨fun | 133 => 159 | 128 => 163 | n => n, fun | 51 => 188 | 3 => 3 | 4 => 4 | 46 => 189 | 5 => 5 | 9 => 9 | n => n, fun | n => n⟩
theorem Tryz.b7j : Go.Proofs.Lays.n133 Tryz.prog Tryz.b2E := {
 mixed := by kernel_rfl
 f128 := Tryz.func163.trans (congrArg some (by kernel_rfl))
 f133 := Tryz.func159.trans (congrArg some (by kernel_rfl))
 t3 := Tryz.underlying3
 a3 := Tryz.isAgg3
 z3 := Tryz.sizeOf3
 v3 := Tryz.zeroValue3
 t4 := Tryz.underlying4
 a4 := Tryz.isAgg4
 z4 := Tryz.sizeOf4
 v4 := Tryz.zeroValue4
 t5 := Tryz.underlying5
 a5 := Tryz.isAgg5
 z5 := Tryz.sizeOf5
 v5 := Tryz.zeroValue5
 t9 := Tryz.underlying9
 a9 := Tryz.isAgg9
 z9 := Tryz.sizeOf9
 v9 := Tryz.zeroValue9
 t46 := Tryz.underlying189
 a46 := Tryz.isAgg189
 z46 := Tryz.sizeOf189
 v46 := Tryz.zeroValue189
 t51 := Tryz.underlying188
 a51 := Tryz.isAgg188
 z51 := Tryz.sizeOf188
 v51 := Tryz.zeroValue188 }
theorem Tryz.bits_LeadingZeros32 (x : Int) (w : World) (h0 : 0 <= x) (h1 : x <= 4294967295) :
  Calls Tryz.prog 159 #[.int .u32 x] w fun e w' => e = .returned (.int .i64 (32 - (Lib.bitLen x.toNat : Int))) /\ w' = w := Any.bits_LeadingZeros32 Tryz.b7j x w h0 h1
def Tryz.b2p : Go.Shelf.Ren := ⟨fun | 106 => 125 | 213 => 144 | 265 => 154 | n => n, fun | 9 => 9 | 3 => 3 | n => n, fun | n => n⟩
theorem Tryz.b7A : Go.Proofs.Lays.n106 Tryz.prog Tryz.b2p := {
 mixed := by kernel_rfl
 f106 := Tryz.func125.trans (congrArg some (by kernel_rfl))
 f213 := Tryz.func144.trans (congrArg some (by kernel_rfl))
 f265 := Tryz.func154.trans (congrArg some (by kernel_rfl))
 t3 := Tryz.underlying3
 a3 := Tryz.isAgg3
 z3 := Tryz.sizeOf3
 v3 := Tryz.zeroValue3
 t9 := Tryz.underlying9
 a9 := Tryz.isAgg9
 z9 := Tryz.sizeOf9
 v9 := Tryz.zeroValue9 }
open Go.RowKit in
theorem Tryz.strings_Compare (a b : ByteArray) (w : World) :
  Calls Tryz.prog 125 #[.string a, .string b] w fun e w' => e = .returned (.int .i64 (Lib.compareBytes a.data.toList b.data.toList)) /\ w' = w := Any.strings_Compare Tryz.b7A a b w
end Go.Proofs
namespace Go.Proofs.YtgmlehjgpgdjhaaGreatDoor
open Go Go.RowKit Eng
set_option maxRecDepth 10000
set_option maxHeartbeats 1000000
theorem a6z : ∀ {a b : List UInt8}, a.length = b.length -> Lib.compareBytes a b = Nm.W9 (Nm.val a) (Nm.val b)
 | [], [], _ => rfl
 | [], _ :: _, h => by cases h
 | _ :: _, [], h => by cases h
 | x :: a, y :: b, h => by
  simp only [c0l, Nat.add_right_cancel_iff] at h
  have ih := a6z h
  have ha := Nm.R4 a
  have hb := Nm.R4 b
  rw [h] at ha
  simp only [Lib.compareBytes, ih, Nm.W9, Nm.R6, h, UInt8.lt_iff_toNat_lt]
  rcases Nat.lt_trichotomy x.toNat y.toNat with hl | hl | hl
  ·have := c0r (256 ^ b.length) hl
   rw [Nat.succ_mul] at this
   rw [if_pos hl, if_pos (by omega)]
  ·rw [if_neg (by omega), if_neg (by omega), hl]
   repeat' split
   all_goals omega
  ·have := c0r (256 ^ b.length) hl
   rw [Nat.succ_mul] at this
   rw [if_neg (by omega), if_pos hl, if_neg (by omega), if_neg (by omega)]
theorem b4z (a b : List UInt8) : F3 Tryz.prog 125 [sb a, sb b] (ints (Lib.compareBytes a b)) := by
 intro O w vs hO hA
 simp only [FzL, sb, Fz] at hA
 obtain ⟨y, ys, rfl, rfl, z, zs, rfl, rfl, rfl⟩ := hA
 refine (Tryz.strings_Compare (bs a) (bs b) w).mono ?_
 rintro e w' ⟨rfl, rfl⟩
 exact ⟨_, rfl, Below.refl _ _, by simp only [ints, Fz, N7]⟩
theorem a7S (a b : List UInt8) (ha : a.length <= 1099511627776) (hb : b.length <= 1099511627776) : F3 Tryz.prog 78 [sb a, sb b] (ints (Nm.W9 (Nm.val a) (Nm.val b))) := by
 refine kS Tryz.func78 (by cbv) (by rfl) fun w O => ?_
 simp only [l9, sb, ints]
 have fta := X9 a ha
 have ftb := X9 b hb
 have hca := Nm.O9 a
 have hcb := Nm.O9 b
 rw [<- Nm.L8 a, <- Nm.L8 b]
 generalize Nm.trim a = x at *
 generalize Nm.trim b = y at *
 (repeat first | refine uA ?_ | (refine uK ?_ ?_; focus first | omega | (intros; simp_all <;> omega)) | simp (disch := omega) only [go_sem, Nat.reduceBEq, Nat.reduceAdd, ww, D6] | (refine uB fta ?_ ?_; exact rfl) | (refine uB ftb ?_ ?_; exact rfl))
 (refine uJ rfl (fun hc => ?_) fun hc => ?_)
 ·have := Nm.a1p hcb (a := x) (by omega)
  have he : Nm.W9 (Nm.val x) (Nm.val y) = -1 := by unfold Nm.W9; rw [if_pos this]
  rw [he]
  (repeat first | refine uA ?_ | (refine uK ?_ ?_; focus first | omega | (intros; simp_all <;> omega)) | simp (disch := omega) only [go_sem, Nat.reduceBEq, Nat.reduceAdd, ww])
  exact S.done (d9.out rfl (Imp.refl rfl) rfl)
 (repeat first | refine uA ?_ | (refine uK ?_ ?_; focus first | omega | (intros; simp_all <;> omega)) | simp (disch := omega) only [go_sem, Nat.reduceBEq, Nat.reduceAdd, ww, D6])
 (refine uJ rfl (fun hc => ?_) fun hc => ?_)
 ·have := Nm.a1p hca (a := y) (by omega)
  have he : Nm.W9 (Nm.val x) (Nm.val y) = 1 := by unfold Nm.W9; rw [if_neg (by omega), if_neg (by omega)]
  rw [he]
  (repeat first | refine uA ?_ | (refine uK ?_ ?_; focus first | omega | (intros; simp_all <;> omega)) | simp (disch := omega) only [go_sem, Nat.reduceBEq, Nat.reduceAdd, ww])
  exact S.done (d9.out rfl (Imp.refl rfl) rfl)
 ·have hl : x.length = y.length := by omega
  have fc := b4z x y
  rw [a6z hl] at fc
  (repeat first | refine uA ?_ | (refine uK ?_ ?_; focus first | omega | (intros; simp_all <;> omega)) | simp (disch := omega) only [go_sem, Nat.reduceBEq, Nat.reduceAdd, ww] | (refine uB fc ?_ ?_; exact rfl))
  exact S.done (d9.out rfl (Imp.refl rfl) rfl)
def D9 (a b : Nat) : List UInt8 := if b <= a then Nm.enc (a - b) else []
def a2X (a b : Nat) : Int := if b <= a then 0 else 1
theorem b1z (a b : Nat) : Nm.W9 a b < 0 <-> a < b := by unfold Nm.W9; repeat' split; all_goals omega
theorem b6R (a b : List UInt8) (ha : a.length <= 549755813888) (hb : b.length <= 549755813888) : F3 Tryz.prog 140 [sb a, sb b] (.tup [sb (D9 (Nm.val a) (Nm.val b)), ints (a2X (Nm.val a) (Nm.val b))]) := by
  refine kS Tryz.func140 (by cbv) (by rfl) fun w O => ?_
  simp only [l9, sb, ints]
  have hcn := b1z (Nm.val a) (Nm.val b)
  (repeat first | refine uA ?_ | (refine uK ?_ ?_; focus first | omega | (intros; simp_all <;> omega)) | simp (disch := omega) only [go_sem, Nat.reduceBEq, Nat.reduceAdd, ww] | (refine uB (a7S a b (by omega) (by omega)) ?_ ?_; exact rfl))
  (refine uJ rfl (fun hc => ?_) fun hc => ?_)
  · have h1 := hcn.1 hc
    have e1 : D9 (Nm.val a) (Nm.val b) = [] := by unfold D9; rw [if_neg (by omega)]
    have e2 : a2X (Nm.val a) (Nm.val b) = 1 := by unfold a2X; rw [if_neg (by omega)]
    rw [e1, e2]
    (repeat first | refine uA ?_ | (refine uK ?_ ?_; focus first | omega | (intros; simp_all <;> omega)) | simp (disch := omega) only [go_sem, Nat.reduceBEq, Nat.reduceAdd, ww])
    exact S.done (d9.out rfl (Imp.refl rfl) rfl)
  · have h1 : Nm.val b <= Nm.val a := by
      rcases c0j (Nm.val a) (Nm.val b) with h | h
      · exact absurd (hcn.2 h) hc
      · exact h
    have e1 : D9 (Nm.val a) (Nm.val b) = Nm.enc (Nm.val a - Nm.val b) := by unfold D9; rw [if_pos h1]
    have e2 : a2X (Nm.val a) (Nm.val b) = 0 := by unfold a2X; rw [if_pos h1]
    rw [e1, e2]
    have hta := Nm.Q0 a
    have htb := Nm.Q0 b
    have hla := Nm.O7 a
    have hlb := Nm.O7 b
    have hwa := Nm.U5 a
    have hwb := Nm.U5 b
    have h3a := Nm.V3 a
    have h3b := Nm.V3 b
    have fwa := a1b a (by omega)
    have fwb := (a1b b (by omega)).spec
    have hle : (Nm.H8 b).length <= (Nm.H8 a).length := by
      rcases c0j (Nm.H8 a).length (Nm.H8 b).length with h | h
      · exfalso
        have h2 := Nm.a5y b (fun e => by rw [e] at h; simp at h)
        have h3 := Nm.I9 4294967296 h3a
        have h4 : 4294967296 ^ (Nm.H8 a).length <= 4294967296 ^ ((Nm.H8 b).length - 1) := c0i (by decide) (by omega)
        omega
      · exact h
    have h1w : Nm.wv 4294967296 (Nm.H8 b) <= Nm.wv 4294967296 (Nm.H8 a) := by rw [hwa, hwb]; exact h1
    rw [<- hwa, <- hwb]
    clear hwa hwb h1 hc hcn e1 e2
    generalize Nm.H8 a = p at *
    generalize Nm.H8 b = q at *
    have hd1 : Nm.wv 4294967296 (Nm.dig 4294967296 p.length (Nm.wv 4294967296 p - Nm.wv 4294967296 q)) = Nm.wv 4294967296 p - Nm.wv 4294967296 q := by
      refine Nm.P5 ?_
      have := Nm.I9 4294967296 h3a
      omega
    have ft := a3a (Nm.dig 4294967296 p.length (Nm.wv 4294967296 p - Nm.wv 4294967296 q)) (by rw [Nm.H7]; omega) (Nm.Z8 (by decide) _ _)
    rw [hd1] at ft
    (repeat first | refine uA ?_ | (refine uK ?_ ?_; focus first | omega | (intros; simp_all <;> omega)) | simp (disch := omega) only [go_sem, Nat.reduceBEq, Nat.reduceAdd, ww] | refine l7.t (FNew.t fwa rfl) ?_ | refine l7.t (b8h rfl p q (by omega) hle h3a h3b h1w) ?_ | (refine uB fwb ?_ ?_; exact rfl) | (refine uC ft ?_ ?_ ?_; exact rfl; focus (repeat' first | exact l8.nil | exact Imp.refl rfl | exact Imp.frz rfl rfl rfl | (refine Imp.Y5 rfl rfl ?_ ?_; (focus ((try simp only [b9X]); omega)); (focus first | rfl | assumption)) | refine l8.cons ?_ ?_); done))
    exact S.done (d9.out rfl (Imp.refl rfl) rfl)
theorem a3l (a b : List UInt8) (ha : a.length <= 274877906944) (hb : b.length <= 274877906944) : F3 Tryz.prog 79 [sb a, sb b] (sb (Nm.enc (Nm.val a * Nm.val b))) := by
 refine kS b3M b3H (by rfl) fun w O => ?_
 simp only [a7O, l9, TT, II, OA, OB, OC, MM, LL, VV, FF, MG, LG, VG, FG, sb]
 have hta := Nm.Q0 a
 have htb := Nm.Q0 b
 have hva := Nm.L8 a
 have hvb := Nm.L8 b
 have hla := Nm.O7 (Nm.trim a)
 have hlb := Nm.O7 (Nm.trim b)
 have hwa := Nm.U5 (Nm.trim a)
 have hwb := Nm.U5 (Nm.trim b)
 have h3a := Nm.V3 (Nm.trim a)
 have h3b := Nm.V3 (Nm.trim b)
 have fta := X9 a (by omega)
 have ftb := X9 b (by omega)
 rw [Nm.a5h] at hla hlb
 rw [<- hva, <- hvb]
 clear hva hvb
 generalize Nm.trim a = x at *
 generalize Nm.trim b = y at *
 (repeat first | refine uA ?_ | (refine uK ?_ ?_; focus first | omega | trivial | (intros; simp_all <;> omega)) | simp (disch := omega) only [go_sem, Nat.reduceBEq, Nat.reduceAdd, Nat.reduceLeDiff, Int.reduceToNat, Int.reducePow, ww, D6] | (refine uB fta ?_ ?_; exact rfl) | (refine uB ftb ?_ ?_; exact rfl))
 (refine uJ rfl (fun hc => ?_) fun hc => ?_)
 ·have hx := Nm.R4 x
  have hy := Nm.R4 y
  have hp : Nm.val x * Nm.val y < 18446744073709551616 := by
   refine c0e (Nat.mul_lt_mul'' hx hy) ?_
   rw [<- Nat.pow_add, show 18446744073709551616 = 256 ^ 8 by decide]
   exact c0i (by decide) (by omega)
  have fx := a1d x (by omega)
  have fy := a1d y (by omega)
  have hx7 := Nm.U7 (l := x) (k := 8) (by omega)
  have hy7 := Nm.U7 (l := y) (k := 8) (by omega)
  have e1 : Nm.val x % 18446744073709551616 = Nm.val x := Nat.mod_eq_of_lt (by omega)
  have e2 : Nm.val y % 18446744073709551616 = Nm.val y := Nat.mod_eq_of_lt (by omega)
  rw [e1] at fx
  rw [e2] at fy
  have hf := V5 (Nm.val x * Nm.val y) hp
  have hm : IntKind.u64.wrap ((Nm.val x : Int) * (Nm.val y : Int)) = ((Nm.val x * Nm.val y : Nat) : Int) := by
   rw [Eng.wrap_u64]
   ·simp
   ·rw [<- Int.natCast_mul]; omega
  (repeat first | refine uA ?_ | (refine uK ?_ ?_; focus first | omega | trivial | (intros; simp_all <;> omega)) | simp (disch := omega) only [go_sem, Nat.reduceBEq, Nat.reduceAdd, Nat.reduceLeDiff, Int.reduceToNat, Int.reducePow, ww, hm] | (refine uB fx ?_ ?_; exact rfl) | (refine uB fy ?_ ?_; exact rfl) | (refine uB hf ?_ ?_; exact rfl))
  exact S.done (d9.out rfl (Imp.refl rfl) rfl)
 ·have hwx := (a1b x (by omega)).spec
  have hwy := (a1b y (by omega)).spec
  rw [<- hwa, <- hwb]
  clear hwa hwb fta ftb hc
  generalize Nm.H8 x = p at *
  generalize Nm.H8 y = q at *
  have hpl : p.length <= 68719476737 := by omega
  have hql : q.length <= 68719476737 := by omega
  (repeat first | refine uA ?_ | (refine uK ?_ ?_; focus first | omega | trivial | (intros; simp_all <;> omega)) | simp (disch := omega) only [go_sem, Nat.reduceBEq, Nat.reduceAdd, Nat.reduceLeDiff, Int.reduceToNat, Int.reducePow, ww, p9] | (refine uB hwx ?_ ?_; exact rfl) | (refine uB hwy ?_ ?_; exact rfl))
  have hn1 : ((p.length : Int) + (q.length : Int)).toNat = p.length + q.length := by omega
  clear hwx hwy
  refine S.loop (X := Nat × List Nat) (fun x => ⟨[(5, .sl 1 (ws p)), (6, .sl 1 (ws q)), (7, .rv 0), (39, .sl 1 (ws p)), (40, ints p.length), (41, ints x.1)], [.row 188 1 (ws x.2)]⟩) (fun x => x.1 <= p.length /\ Nm.a5e p q x.1 x.2) (fun x => p.length - x.1) (0, List.replicate (p.length + q.length) 0) ⟨b9M _, Nm.b1X p q⟩ (by simp only [<- a1B]; rw [hn1]; exact (by (repeat first | refine uA ?_ | (refine ⟨?_, ?_⟩; focus first | rfl | trivial | (simp [slot]; done)) | rfl | trivial | simp))) ?_
  rintro ⟨i, out0⟩ ⟨hi, hinv⟩
  simp only [ints] at hi hinv ⊢
  have hol := hinv.1
  (repeat first | refine uA ?_ | (refine uK ?_ ?_; focus first | omega | trivial | (intros; simp_all <;> omega)) | simp (disch := omega) only [go_sem, Nat.reduceBEq, Nat.reduceAdd, Nat.reduceLeDiff, Int.reduceToNat, Int.reducePow, ww])
  (refine uJ rfl (fun hc => ?_) fun hc => ?_)
  ·have hi' : i < p.length := by omega
   have hgp : p[i]? = some p[i] := b9I hi'
   have hp32 := h3a _ (b9S hi')
   (repeat first | refine uA ?_ | (refine uK ?_ ?_; focus first | omega | trivial | (intros; simp_all <;> omega)) | simp (disch := omega) only [go_sem, Nat.reduceBEq, Nat.reduceAdd, Nat.reduceLeDiff, Int.reduceToNat, Int.reducePow, ww, p9, A9, hgp, b9J, wd])
   refine S.loop (X := Nat × List Nat × Nat) (fun x => ⟨[(5, .sl 1 (ws p)), (6, .sl 1 (ws q)), (7, .rv 0), (39, .sl 1 (ws p)), (40, ints p.length), (41, ints i), (8, ints i), (9, .v (.int .u32 (p[i] : Int))), (10, .v (.int .u64 (x.2.2 : Int))), (46, .sl 1 (ws q)), (47, ints q.length), (48, ints x.1)], [.row 188 1 (ws x.2.1)]⟩) (fun x => x.1 <= q.length /\ Nm.a7y p q i x.1 x.2.1 x.2.2) (fun x => q.length - x.1) (0, out0, 0) ⟨b9M _, Nm.b4q hinv⟩ (by (repeat first | refine uA ?_ | (refine ⟨?_, ?_⟩; focus first | rfl | trivial | (simp [slot]; done)) | rfl | trivial | simp)) ?_
   clear hinv hol
   rintro ⟨k, out, c⟩ ⟨hk, hinv⟩
   simp only [ints] at hk hinv ⊢
   have hol := hinv.1
   have hc1 := hinv.2.2.1
   (repeat first | refine uA ?_ | (refine uK ?_ ?_; focus first | omega | trivial | (intros; simp_all <;> omega)) | simp (disch := omega) only [go_sem, Nat.reduceBEq, Nat.reduceAdd, Nat.reduceLeDiff, Int.reduceToNat, Int.reducePow, ww])
   (refine uJ rfl (fun hc => ?_) fun hc => ?_)
   ·have hk' : k < q.length := by omega
    have hgq : q[k]? = some q[k] := b9I hk'
    have hq32 := h3b _ (b9S hk')
    have hgo : out[i + k]? = some (out[i + k]'(by omega)) := b9I (by omega)
    have ho32 := hinv.2.1 _ (b9S (show i + k < out.length by omega))
    obtain ⟨hs, hsb⟩ := Nm.b3K hinv hi' hk' hp32 hq32 (by omega) rfl
    generalize hP : p[i] = pi at *
    generalize q[k] = qk at *
    generalize hO : out[i + k]'(by omega) = o at *
    obtain ⟨m, hm⟩ : ∃ m : Nat, m = pi * qk := ⟨_, rfl⟩
    have hm' : (pi : Int) * (qk : Int) = (m : Int) := by rw [hm]; simp
    rw [<- hm] at hs hsb
    have hs' : (c : Int) + ((m : Int) + (o : Int)) = ((c + m + o : Nat) : Int) := by omega
    have hik : ((i : Int) + (k : Int)).toNat = i + k := by omega
    (repeat first | refine uA ?_ | (refine uK ?_ ?_; focus first | omega | trivial | (intros; simp_all <;> omega)) | simp (disch := omega) only [go_sem, Nat.reduceBEq, Nat.reduceAdd, Nat.reduceLeDiff, Int.reduceToNat, Int.reducePow, ww, p9, A9, hgq, hgo, b9J, wd, hm', hs', hik, a0B, U6, G7])
    refine S.next (x := (k, out, c)) (k + 1, _, _) ⟨hk', hs⟩ (by simp only; omega) (by (repeat first | refine uA ?_ | (refine ⟨?_, ?_⟩; focus first | rfl | trivial | (simp [slot]; done)) | rfl | trivial | simp))
   ·have hk' : k = q.length := by omega
    subst hk'
    have he := Nm.b5x hinv hi'
    have hik : ((i : Int) + (q.length : Int)).toNat = i + q.length := by omega
    have hgo : out[i + q.length]? = some (out[i + q.length]'(by omega)) := b9I (by omega)
    (repeat first | refine uA ?_ | (refine uK ?_ ?_; focus first | omega | trivial | (intros; simp_all <;> omega)) | simp (disch := omega) only [go_sem, Nat.reduceBEq, Nat.reduceAdd, Nat.reduceLeDiff, Int.reduceToNat, Int.reducePow, ww, p9, A9, hgo, b9J, wd, hik, G7])
    refine S.next (x := (i, out0)) (i + 1, _) ⟨hi', he⟩ (by simp only; omega) (by (repeat first | refine uA ?_ | (refine ⟨?_, ?_⟩; focus first | rfl | trivial | (simp [slot]; done)) | rfl | trivial | simp))
  ·have hi' : i = p.length := by omega
   subst hi'
   have he := Nm.b4m hinv
   rw [<- he]
   have ht := a3a out0 (by omega) hinv.2.1
   (repeat first | refine uA ?_ | (refine uK ?_ ?_; focus first | omega | trivial | (intros; simp_all <;> omega)) | simp (disch := omega) only [go_sem, Nat.reduceBEq, Nat.reduceAdd, Nat.reduceLeDiff, Int.reduceToNat, Int.reducePow, ww] | (refine uC ht ?_ ?_ ?_; exact rfl; focus (repeat' first | exact l8.nil | exact Imp.refl rfl | exact Imp.frz rfl rfl rfl | (refine Imp.Y5 rfl rfl ?_ ?_; (focus ((try simp only [b9X]); omega)); (focus first | rfl | assumption)) | refine l8.cons ?_ ?_); done))
   exact S.done (d9.out rfl (Imp.refl rfl) rfl)
theorem b3n (x r : Nat) (h : x * 2 ^ r < 18446744073709551616) (hr : r < 64) : IntKind.u64.wrap ((x : Int) * 2 ^ min r 64) = ((x * 2 ^ r : Nat) : Int) := by
 rw [show min r 64 = r by omega, Eng.wrap_u64]
 ·simp
 ·have e : (x : Int) * 2 ^ r = ((x * 2 ^ r : Nat) : Int) := by simp
  rw [e]; omega
theorem b4U (o n : Nat) (ho : o < 4294967296) : bits .or .u32 (o : Int) (((n % 4294967296 : Nat)) : Int) = ((o ||| n % 4294967296 : Nat) : Int) := b5w _ _ ho (Nat.mod_lt _ (by decide))
theorem b5e (x : List Nat) (r : Nat) (hl : x.length <= 274877906940) (hx : Nm.E5 x) (hr : r < 32) : FNew Tryz.prog 160 [.sl 1 (ws x), ints r] 188 1 (ws (Nm.dig 4294967296 (x.length + 1) (Nm.wv 4294967296 x * 2 ^ r))) := by
 refine FNew.of b2n b2q (by exact c0d rfl) fun w O => ?_
 simp only [a6C, l9, TT, II, OA, OB, OC, MM, LL, VV, FF, MG, LG, VG, FG, ints]
 (repeat first | refine uA ?_ | (refine uK ?_ ?_; focus first | omega | trivial | (intro h; rw [h]; rfl) | (intro h h2; rw [h, h2]; rfl) | (intro h; (try simp at h); omega) | (intros; simp_all <;> omega)) | simp only [go_sem, Nat.reduceBEq, Nat.reduceAdd, Nat.reduceLeDiff, Int.reduceToNat, Int.reducePow, p9] | simp (disch := omega) only [ww, p9])
 have hn1 : ((x.length : Int) + 1).toNat = x.length + 1 := by omega
 refine S.loop (X := Nat × List Nat) (fun s => ⟨[(0, .sl 1 (ws x)), (1, ints r), (5, .rv 0), (13, .sl 1 (ws x)), (14, ints x.length), (15, ints s.1)], [.row 188 1 (ws s.2)]⟩) (fun s => s.1 <= x.length /\ Nm.leftInv x (2 ^ r) s.1 s.2) (fun s => x.length - s.1) (0, List.replicate (x.length + 1) 0) ⟨b9M _, Nm.b1V x (Nat.pow_pos (by decide))⟩ (by simp only [<- a1B]; rw [hn1]; exact (by (repeat first | refine uA ?_ | (refine ⟨?_, ?_⟩; focus first | rfl | trivial | (simp [slot]; done)) | rfl | trivial | simp))) ?_
 rintro ⟨i, out⟩ ⟨hi, hinv⟩
 simp only [ints] at hi hinv ⊢
 have hol := hinv.1
 (repeat first | refine uA ?_ | (refine uK ?_ ?_; focus first | omega | trivial | (intro h; rw [h]; rfl) | (intro h h2; rw [h, h2]; rfl) | (intro h; (try simp at h); omega) | (intros; simp_all <;> omega)) | simp only [go_sem, Nat.reduceBEq, Nat.reduceAdd, Nat.reduceLeDiff, Int.reduceToNat, Int.reducePow] | simp (disch := omega) only [ww])
 (refine uJ rfl (fun hc => ?_) fun hc => ?_)
 ·have hi' : i < x.length := by omega
  have hgp : x[i]? = some x[i] := b9I hi'
  have hgo : out[i]? = some (out[i]'(by omega)) := b9I (by omega)
  have hg1 : out[i + 1]? = some (out[i + 1]'(by omega)) := b9I (by omega)
  have ho32 := hinv.2.1 _ (b9S (show i < out.length by omega))
  obtain ⟨hs, hm, h1, h2⟩ := Nm.b1y hinv hr hi' (hx _ (b9S hi')) (by omega)
  have hx32 := hx _ (b9S hi')
  generalize x[i] = xi at *
  generalize out[i]'(by omega) = o at *
  generalize out[i + 1]'(by omega) = o1 at *
  have hv := b3n xi r hm (by omega)
  generalize xi * 2 ^ r = n at *
  have hol2 := b4U o n ho32
  have hgs : (out.set i (o ||| n % 4294967296))[i + 1]? = some o1 := by rw [List.getElem?_set_ne (by omega)]; exact hg1
  have hi1 : ((i : Int) + 1).toNat = i + 1 := by omega
  (repeat first | refine uA ?_ | (refine uK ?_ ?_; focus first | omega | trivial | (intro h; rw [h]; rfl) | (intro h h2; rw [h, h2]; rfl) | (intro h; (try simp at h); omega) | (intros; simp_all <;> omega)) | simp only [go_sem, Nat.reduceBEq, Nat.reduceAdd, Nat.reduceLeDiff, Int.reduceToNat, Int.reducePow, p9, A9, hgp, hgo, hgs, hi1, b9J, wd, hv, a0B, U6, hol2, G7, c0p] | simp (disch := omega) only [ww, p9, A9, hgp, hgo, hgs, hi1, b9J, wd, hv, a0B, U6, hol2, G7, c0p])
  refine S.next (x := (i, out)) (i + 1, _) ⟨hi', hs⟩ (by simp only; omega) (by (repeat first | refine uA ?_ | (refine ⟨?_, ?_⟩; focus first | rfl | trivial | (simp [slot]; done)) | rfl | trivial | simp))
 ·have hi' : i = x.length := by omega
  subst hi'
  have he := (Nm.b2u hinv).1
  have hd : out = Nm.dig 4294967296 (x.length + 1) (Nm.wv 4294967296 x * 2 ^ r) := Nm.P9 (by decide) hinv.2.1 hol he
  rw [<- hd]
  (repeat first | refine uA ?_ | (refine uK ?_ ?_; focus first | omega | trivial | (intro h; rw [h]; rfl) | (intro h h2; rw [h, h2]; rfl) | (intro h; (try simp at h); omega) | (intros; simp_all <;> omega)) | simp only [go_sem, Nat.reduceBEq, Nat.reduceAdd, Nat.reduceLeDiff, Int.reduceToNat, Int.reducePow] | simp (disch := omega) only [ww])
  exact S.done (d9.new rfl rfl rfl)
def put (us : List Nat) (k : Nat) (out : List Nat) : List Nat := us.take k ++ out ++ us.drop (k + out.length)
theorem U2 {us out : List Nat} {k : Nat} (h : k + out.length <= us.length) : (put us k out).length = us.length := by
 simp only [put, b9X, b9V, c0y]; omega
theorem O0 {us out : List Nat} {k i : Nat} (h : k + out.length <= us.length) (hi : i < out.length) : (put us k out)[k + i]? = out[i]? := by
 have ht : (us.take k).length = k := by rw [b9V]; omega
 rw [put, c0t, b9Y (by omega), ht, Nat.add_sub_cancel_left, b9P hi]
theorem T9 {us out : List Nat} {k i v : Nat} (h : k + out.length <= us.length) (hi : i < out.length) : (put us k out).set (k + i) v = put us k (out.set i v) := by
 have ht : (us.take k).length = k := by rw [b9V]; omega
 rw [put, put, c0t, List.set_append_right _ _ (by omega), ht, Nat.add_sub_cancel_left, List.set_append_left _ _ hi, c0p, c0t]
theorem a2R {us : List Nat} {k n : Nat} (h : k + n <= us.length) : put us k ((us.drop k).take n) = us := by
 rw [put, b9V, c0y, show min n (us.length - k) = n by omega, c0t, <- List.drop_drop]
 rw [List.take_append_drop, List.take_append_drop]
theorem b2W (o lo b : Nat) (ho : o < 4294967296) (hl : lo < 4294967296) (hb : b <= 1) : ∃ t c' : Nat, IntKind.u32.wrap (IntKind.u64.wrap (IntKind.u64.wrap ((o : Int) - (lo : Int)) - (b : Int))) = (t : Int) /\ Int.fdiv (IntKind.u64.wrap (IntKind.u64.wrap ((o : Int) - (lo : Int)) - (b : Int))) 9223372036854775808 = (c' : Int) /\ t < 4294967296 /\ c' <= 1 /\ t + lo + b = o + 4294967296 * c' := by
 obtain ⟨t, c', e1, e2, h1, h2, h3⟩ := a6S o lo b ho hl hb
 have g1 : ∀ n : Int, IntKind.u64.wrap n = n % 18446744073709551616 := fun n => by simp [IntKind.wrap, IntKind.signed, IntKind.bits]
 have e : IntKind.u64.wrap (IntKind.u64.wrap ((o : Int) - (lo : Int)) - (b : Int)) = IntKind.u64.wrap (IntKind.u64.wrap ((o : Int) - (b : Int)) - (lo : Int)) := by
  rw [g1, g1, g1, g1]; omega
 rw [e]
 exact ⟨t, c', e1, e2, h1, h2, by omega⟩
theorem b8z {E : Ctx} (hP : E.P = Tryz.prog) (us qs v : List Nat) (k d : Nat) (hl : us.length <= 274877906944) (hk : k + v.length + 1 <= us.length) (hu : Nm.E5 us) (hv : Nm.E5 v) (hd : d < 4294967296)
    {W : Nat} (hW : W = Nm.wv 4294967296 ((us.drop k).take (v.length + 1))) :
    j5 E [.row 188 1 (ws us), .row 188 1 (ws qs)] 161 [.wv 0 1 k (v.length + 1), .sl 1 (ws v), .v (.int .u64 (d : Int))] (.v (.bool (decide (W < d * Nm.wv 4294967296 v))))
      [.row 188 1 (ws (put us k (Nm.dig 4294967296 (v.length + 1) ((W + 4294967296 ^ (v.length + 1) * (if W < d * Nm.wv 4294967296 v then 1 else 0)) - d * Nm.wv 4294967296 v)))), .row 188 1 (ws qs)] [] := by
  obtain ⟨P, eff', N, w0, own0, av0, nu0, pk0⟩ := E
  simp only at hP
  subst hP
  refine j5.of (eff := eff) a7q a7s (by exact c0d rfl) fun w own av ν hν => ?_
  simp only [a3j, l9, TT, II, OA, OB, OC, MM, LL, VV, FF, MG, LG, VG, FG]
  have hν0 : ν.length <= 2 := by rw [hν]; exact b9T _
  have hul : ((us.drop k).take (v.length + 1)).length = v.length + 1 := by rw [b9V, c0y]; omega
  have hua : Nm.E5 ((us.drop k).take (v.length + 1)) := (hu.drop k).take _
  have hps : put us k ((us.drop k).take (v.length + 1)) = us := a2R (by omega)
  generalize (us.drop k).take (v.length + 1) = u at *
  (repeat first | refine uA ?_ | (refine uK ?_ ?_; focus first | omega | trivial | (intro h; rw [h]; rfl) | (intro h h2; rw [h, h2]; rfl) | (intro h; (try simp at h); omega) | (intros; simp_all <;> omega)) | simp only [go_sem, Nat.reduceBEq, Nat.reduceAdd, Nat.reduceLeDiff, Int.reduceToNat, Int.reducePow, p9] | simp (disch := omega) only [ww, p9])
  refine S.loop (X := Nat × List Nat × Nat × Nat) (fun x => ⟨[(0, .wv 0 1 k (v.length + 1)), (1, .sl 1 (ws v)), (2, .v (.int .u64 (d : Int))), (7, .v (.int .u64 (x.2.2.1 : Int))), (8, .v (.int .u64 (x.2.2.2 : Int))), (13, .sl 1 (ws v)), (14, ints v.length), (15, ints x.1)], [.row 188 1 (ws (put us k x.2.1)), .row 188 1 (ws qs)]⟩) (fun x => x.1 <= v.length /\ Nm.a7E u v d x.1 x.2.1 x.2.2.1 x.2.2.2) (fun x => v.length - x.1) (0, u, 0, 0) ⟨b9M _, Nm.b4s v d hua⟩ (by simp only [hps]; exact Ent.mk _ _ (by (repeat first | refine uA ?_ | (refine ⟨?_, ?_⟩; focus first | rfl | trivial | (simp [slot]; done)) | rfl | trivial | simp)) (by (repeat first | refine uA ?_ | (refine ⟨?_, ?_⟩; focus first | rfl | trivial | (simp [slot]; done)) | rfl | trivial | simp)) hν0) ?_
  rintro ⟨i, out, c, b⟩ ⟨hi, hinv⟩
  simp only [ints] at hi hinv ⊢
  have hol := hinv.1
  have hc1 := hinv.2.2.1
  have hb1 := hinv.2.2.2.1
  have hpl : (put us k out).length = us.length := U2 (by omega)
  (repeat first | refine uA ?_ | (refine uK ?_ ?_; focus first | omega | trivial | (intro h; rw [h]; rfl) | (intro h h2; rw [h, h2]; rfl) | (intro h; (try simp at h); omega) | (intros; simp_all <;> omega)) | simp only [go_sem, Nat.reduceBEq, Nat.reduceAdd, Nat.reduceLeDiff, Int.reduceToNat, Int.reducePow] | simp (disch := omega) only [ww])
  (refine uJ rfl (fun hc => ?_) fun hc => ?_)
  · have hi' : i < v.length := by omega
    have hgv : v[i]? = some v[i] := b9I hi'
    have hgu : u[i]? = some (u[i]'(by omega)) := b9I (by omega)
    have hgo : (put us k out)[k + i]? = some (u[i]'(by omega)) := by rw [O0 (by omega) (by omega), Nm.V9 hinv.2.2.2.2.1, hgu]
    have hu32 := hua _ (b9S (show i < u.length by omega))
    have hv32 := hv _ (b9S hi')
    have hiu : i < u.length := by omega
    have hk := fun t b' h1 h2 h3 => Nm.b3R (t := t) (b' := b') hinv hi' hiu hv32 hd h1 h2 h3
    generalize v[i] = vi at *
    generalize u[i]'(by omega) = ui at *
    obtain ⟨m, hm⟩ : ∃ m : Nat, m = d * vi := ⟨_, rfl⟩
    have hm' : (d : Int) * (vi : Int) = (m : Int) := by rw [hm]; simp
    have hmb : m <= 4294967295 * 4294967295 := by rw [hm]; exact Nat.mul_le_mul (by omega) (by omega)
    rw [<- hm] at hk
    obtain ⟨s, hs⟩ : ∃ s : Nat, s = c + m := ⟨_, rfl⟩
    have hs' : (c : Int) + (m : Int) = (s : Int) := by omega
    rw [<- hs] at hk
    obtain ⟨t, b', e1, e2, h1, h2, h3⟩ := b2W ui (s % 4294967296) b hu32 (Nat.mod_lt _ (by decide)) hb1
    have hk := (hk t b' h1 h2 h3).1
    have hsl := T9 (us := us) (out := out) (k := k) (i := i) (v := t) (by omega) (by omega)
    have hki : ((k : Int) + (i : Int)).toNat = k + i := by omega
    (repeat first | refine uA ?_ | (refine uK ?_ ?_; focus first | omega | trivial | (intro h; rw [h]; rfl) | (intro h h2; rw [h, h2]; rfl) | (intro h; (try simp at h); omega) | (intros; simp_all <;> omega)) | simp only [go_sem, Nat.reduceBEq, Nat.reduceAdd, Nat.reduceLeDiff, Int.reduceToNat, Int.reducePow, p9, A9, hgv, hgo, b9J, wd, hm', hs', a0B, U6, e1, e2, G7, hsl, hki] | simp (disch := omega) only [ww, p9, A9, hgv, hgo, b9J, wd, hm', hs', a0B, U6, e1, e2, G7, hsl, hki])
    refine S.next (x := (i, out, c, b)) (i + 1, _, _, _) ⟨hi', hk⟩ (by simp only; omega) (Ent.mk _ _ (by (repeat first | refine uA ?_ | (refine ⟨?_, ?_⟩; focus first | rfl | trivial | (simp [slot]; done)) | rfl | trivial | simp)) (by (repeat first | refine uA ?_ | (refine ⟨?_, ?_⟩; focus first | rfl | trivial | (simp [slot]; done)) | rfl | trivial | simp)) hν0)
  · have hi' : i = v.length := by omega
    subst hi'
    have hgu : u[v.length]? = some (u[v.length]'(by omega)) := b9I (by omega)
    have hgo : (put us k out)[k + v.length]? = some (u[v.length]'(by omega)) := by rw [O0 (by omega) (by omega), Nm.V9 hinv.2.2.2.2.1, hgu]
    have hu32 := hua _ (b9S (show v.length < u.length by omega))
    obtain ⟨t, f, e1, e2, h1, h2, h3⟩ := b2W _ c b hu32 hc1 hb1
    obtain ⟨hk1, hk2⟩ := Nm.b4N (t := t) (f := f) hinv hul h1 h3
    have hsl := T9 (us := us) (out := out) (k := k) (i := v.length) (v := t) (by omega) (by omega)
    have hlt := Nm.I9 4294967296 hk2
    have hlt2 := Nm.I9 4294967296 hua
    rw [c0p, hol, hul] at hlt
    rw [hul, <- hW] at hlt2
    rw [hul, <- hW] at hk1
    have hf : f = if W < d * Nm.wv 4294967296 v then 1 else 0 := by
      have : f = 0 \/ f = 1 := by omega
      rcases this with rfl | rfl
      · rw [if_neg (by omega)]
      · rw [if_pos (by omega)]
    have hdg : out.set v.length t = Nm.dig 4294967296 (v.length + 1) (W + 4294967296 ^ (v.length + 1) * f - d * Nm.wv 4294967296 v) := Nm.P9 (by decide) hk2 (by rw [c0p]; omega) (by omega)
    rw [<- hf, <- hdg]
    have hfb : decide (W < d * Nm.wv 4294967296 v) = decide ((0 : Int) < (f : Int)) := by
      rw [hf]; by_cases h : W < d * Nm.wv 4294967296 v <;> simp [h]
    rw [hfb]
    have hki : ((k : Int) + (v.length : Int)).toNat = k + v.length := by omega
    (repeat first | refine uA ?_ | (refine uK ?_ ?_; focus first | omega | trivial | (intro h; rw [h]; rfl) | (intro h h2; rw [h, h2]; rfl) | (intro h; (try simp at h); omega) | (intros; simp_all <;> omega)) | simp only [go_sem, Nat.reduceBEq, Nat.reduceAdd, Nat.reduceLeDiff, Int.reduceToNat, Int.reducePow, p9, A9, hgo, b9J, wd, e1, e2, G7, hsl, hki] | simp (disch := omega) only [ww, p9, A9, hgo, b9J, wd, e1, e2, G7, hsl, hki])
    exact S.done (d9.own rfl)
end Go.Proofs.YtgmlehjgpgdjhaaGreatDoor
namespace Go.Proofs.YtgmlehjgpgdjhaaGreatDoor.Eng
open Go Go.RowKit
def Met (E : Ctx) {Y : Type} (stY : Y -> St) (preY : Y -> Prop) : Act -> World -> Prop := fun a w => ∃ y ν', preY y /\ Good E ν' (stY y) a w
theorem S.join {E : Ctx} {Q : Exit -> Act -> World -> Prop} {st : St} {c : IC} {k : List It} {Y : Type} (stY : Y -> St) (preY : Y -> Prop)
  (h : S E Q st (.code c :: .inv (Met E stY preY) :: k)) (hk : ∀ y, preY y -> S E Q (stY y) k) : S E Q st (.code c :: k) := by
 intro wf ν a w hG code hc
 refine wp_mono (h wf ν a w hG code hc) fun e a' w' hq => ?_
 cases e with
 | normal =>
  simp only [wpS] at hq
  obtain ⟨y, ν', hp, hG'⟩ := hq
  exact hk y hp wf ν' a' w' hG'
 | exit i => simpa only [exS] using hq
 | _ => exact hq
theorem S.b7g {E : Ctx} {Q : Exit -> Act -> World -> Prop} {st : St} {c : IC} {id : Nat} {k : List It} {Y : Type} (stY : Y -> St) (preY : Y -> Prop)
  (h : S E Q st (.code c :: .blk id :: .inv (Met E stY preY) :: k)) (hk : ∀ y, preY y -> S E Q (stY y) k) : S E Q st (.code c :: .blk id :: k) := by
 intro wf ν a w hG code hc
 refine wp_mono (h wf ν a w hG code hc) fun e a' w' hq => ?_
 cases e with
 | normal =>
  simp only [wpS] at hq ⊢
  obtain ⟨y, ν', hp, hG'⟩ := hq
  exact hk y hp wf ν' a' w' hG'
 | exit i =>
  simp only [exS] at hq ⊢
  split
  ·rename_i e
   rw [if_pos e] at hq
   simp only [wpS] at hq
   obtain ⟨y, ν', hp, hG'⟩ := hq
   exact hk y hp wf ν' a' w' hG'
  ·rename_i e
   rw [if_neg e] at hq
   exact hq
 | _ => exact hq
theorem S.met {E : Ctx} {Q : Exit -> Act -> World -> Prop} {st : St} {k : List It} {Y : Type} {stY : Y -> St} {preY : Y -> Prop} (y : Y) (hp : preY y) (h : Ent E st (stY y)) : S E Q st (.inv (Met E stY preY) :: k) := by
 intro wf ν a w hG
 obtain ⟨ν', hG'⟩ := h wf ν a w hG
 exact ⟨y, ν', hp, hG'⟩
end Go.Proofs.YtgmlehjgpgdjhaaGreatDoor.Eng
namespace Go.Proofs.YtgmlehjgpgdjhaaGreatDoor
open Go Go.RowKit Eng
set_option maxRecDepth 10000
set_option maxHeartbeats 1000000
theorem b7W {us a b : List Nat} {k : Nat} (hl : a.length = b.length) (h : k + a.length <= us.length) : put (put us k a) k b = put us k b := by
 have ht : (us.take k).length = k := by rw [b9V]; omega
 rw [put, put, put, <- hl]
 congr 1
 ·congr 1
  rw [c0t, List.take_append_of_le_length (by omega), c0k (by omega)]
 ·exact List.drop_left' (by rw [b9X, ht])
theorem a1f {us a : List Nat} {k n : Nat} (hn : n = a.length) (h : k + a.length <= us.length) : ((put us k a).drop k).take n = a := by
 have ht : (us.take k).length = k := by rw [b9V]; omega
 subst hn
 rw [put, c0t, List.drop_append, ht, Nat.sub_self, List.drop_of_length_le (by omega), List.nil_append, List.drop_zero, List.take_append_of_le_length (b9T _), c0m]
theorem b7S {us a : List Nat} {k : Nat} (hu : Nm.E5 us) (ha : Nm.E5 a) : Nm.E5 (put us k a) := ((hu.take k).app ha).app (hu.drop _)
theorem b8X {E : Ctx} (hP : E.P = Tryz.prog) (us qs v : List Nat) (k : Nat) (hl : us.length <= 274877906944) (hk : k + v.length + 1 <= us.length) (hu : Nm.E5 us) (hv : Nm.E5 v)
    {W : Nat} (hW : W = Nm.wv 4294967296 ((us.drop k).take (v.length + 1))) (hlt : 4294967296 ^ (v.length + 1) <= W + Nm.wv 4294967296 v) :
    j5 E [.row 188 1 (ws us), .row 188 1 (ws qs)] 162 [.wv 0 1 k (v.length + 1), .sl 1 (ws v)] (.tup [])
      [.row 188 1 (ws (put us k (Nm.dig 4294967296 (v.length + 1) (W + Nm.wv 4294967296 v - 4294967296 ^ (v.length + 1))))), .row 188 1 (ws qs)] [] := by
  obtain ⟨P, eff', N, w0, own0, av0, nu0, pk0⟩ := E
  simp only at hP
  subst hP
  refine j5.of (eff := eff) a8s a8C (by exact c0d rfl) fun w own av ν hν => ?_
  simp only [a3P, l9, TT, II, OA, OB, OC, MM, LL, VV, FF, MG, LG, VG, FG]
  have hν0 : ν.length <= 2 := by rw [hν]; exact b9T _
  have hul : ((us.drop k).take (v.length + 1)).length = v.length + 1 := by rw [b9V, c0y]; omega
  have hua : Nm.E5 ((us.drop k).take (v.length + 1)) := (hu.drop k).take _
  have hps : put us k ((us.drop k).take (v.length + 1)) = us := a2R (by omega)
  generalize (us.drop k).take (v.length + 1) = u at *
  (repeat first | refine uA ?_ | (refine uK ?_ ?_; focus first | omega | trivial | (intros; simp_all <;> omega)) | simp (disch := omega) only [go_sem, Nat.reduceBEq, Nat.reduceAdd, Nat.reduceLeDiff, Int.reduceToNat, Int.reducePow, ww, p9])
  refine S.loop (X := Nat × List Nat × Nat) (fun x => ⟨[(0, .wv 0 1 k (v.length + 1)), (1, .sl 1 (ws v)), (4, .v (.int .u64 (x.2.2 : Int))), (7, .sl 1 (ws v)), (8, ints v.length), (9, ints x.1)], [.row 188 1 (ws (put us k x.2.1)), .row 188 1 (ws qs)]⟩) (fun x => x.1 <= v.length /\ Nm.a7l u v x.1 x.2.1 x.2.2) (fun x => v.length - x.1) (0, u, 0) ⟨b9M _, Nm.b3Z v hua⟩ (by simp only [hps]; exact Ent.mk _ _ (by (repeat first | refine uA ?_ | (refine ⟨?_, ?_⟩; focus first | rfl | trivial | (simp [slot]; done)) | rfl | trivial | simp)) (by (repeat first | refine uA ?_ | (refine ⟨?_, ?_⟩; focus first | rfl | trivial | (simp [slot]; done)) | rfl | trivial | simp)) hν0) ?_
  rintro ⟨i, out, c⟩ ⟨hi, hinv⟩
  simp only [ints] at hi hinv ⊢
  have hol := hinv.1
  have hc1 := hinv.2.2.1
  have hpl : (put us k out).length = us.length := U2 (by omega)
  (repeat first | refine uA ?_ | (refine uK ?_ ?_; focus first | omega | trivial | (intros; simp_all <;> omega)) | simp (disch := omega) only [go_sem, Nat.reduceBEq, Nat.reduceAdd, Nat.reduceLeDiff, Int.reduceToNat, Int.reducePow, ww])
  (refine uJ rfl (fun hc => ?_) fun hc => ?_)
  · have hi' : i < v.length := by omega
    have hiu : i < u.length := by omega
    have hgv : v[i]? = some v[i] := b9I hi'
    have hgu : u[i]? = some (u[i]'(by omega)) := b9I (by omega)
    have hgo : (put us k out)[k + i]? = some (u[i]'(by omega)) := by rw [O0 (by omega) (by omega), Nm.V9 hinv.2.2.2.1, hgu]
    have hu32 := hua _ (b9S (show i < u.length by omega))
    have hv32 := hv _ (b9S hi')
    have hk := Nm.b3t hinv hi' hiu hv32 hu32 rfl
    generalize v[i] = vi at *
    generalize u[i]'(by omega) = ui at *
    obtain ⟨s, hs⟩ : ∃ s : Nat, s = c + ui + vi := ⟨_, rfl⟩
    have hs' : (c : Int) + ((ui : Int) + (vi : Int)) = (s : Int) := by omega
    rw [<- hs] at hk
    have hsl := T9 (us := us) (out := out) (k := k) (i := i) (v := s % 4294967296) (by omega) (by omega)
    have hki : ((k : Int) + (i : Int)).toNat = k + i := by omega
    (repeat first | refine uA ?_ | (refine uK ?_ ?_; focus first | omega | trivial | (intros; simp_all <;> omega)) | simp (disch := omega) only [go_sem, Nat.reduceBEq, Nat.reduceAdd, Nat.reduceLeDiff, Int.reduceToNat, Int.reducePow, ww, p9, A9, hgv, hgo, b9J, wd, hs', a0B, U6, G7, hsl, hki])
    refine S.next (x := (i, out, c)) (i + 1, _, _) ⟨hi', hk⟩ (by simp only; omega) (Ent.mk _ _ (by (repeat first | refine uA ?_ | (refine ⟨?_, ?_⟩; focus first | rfl | trivial | (simp [slot]; done)) | rfl | trivial | simp)) (by (repeat first | refine uA ?_ | (refine ⟨?_, ?_⟩; focus first | rfl | trivial | (simp [slot]; done)) | rfl | trivial | simp)) hν0)
  · have hi' : i = v.length := by omega
    subst hi'
    have hgu : u[v.length]? = some (u[v.length]'(by omega)) := b9I (by omega)
    have hgo : (put us k out)[k + v.length]? = some (u[v.length]'(by omega)) := by rw [O0 (by omega) (by omega), Nm.V9 hinv.2.2.2.1, hgu]
    have hu32 := hua _ (b9S (show v.length < u.length by omega))
    have hlt2 := Nm.I9 4294967296 hua
    have hlv := Nm.I9 4294967296 hv
    rw [hul, <- hW] at hlt2
    have hpw : 4294967296 ^ v.length <= 4294967296 ^ (v.length + 1) := c0i (by decide) (by omega)
    obtain ⟨hk1, hk2⟩ := Nm.b5o hinv hul rfl (z := W + Nm.wv 4294967296 v - 4294967296 ^ (v.length + 1)) (by rw [hul, <- hW]; omega) (by rw [hul]; omega)
    have hdg := Nm.P9 (by decide) hk2 (show _ = v.length + 1 by rw [c0p]; omega) hk1
    rw [<- hdg]
    have hsl := T9 (us := us) (out := out) (k := k) (i := v.length) (v := (u[v.length] + c) % 4294967296) (by omega) (by omega)
    have hki : ((k : Int) + (v.length : Int)).toNat = k + v.length := by omega
    have hw1 : IntKind.u32.wrap ((u[v.length] : Int) + (c : Int)) = (((u[v.length] + c) % 4294967296 : Nat) : Int) := a0B (u[v.length] + c)
    (repeat first | refine uA ?_ | (refine uK ?_ ?_; focus first | omega | trivial | (intros; simp_all <;> omega)) | simp (disch := omega) only [go_sem, Nat.reduceBEq, Nat.reduceAdd, Nat.reduceLeDiff, Int.reduceToNat, Int.reducePow, ww, p9, A9, hgo, b9J, wd, hw1, G7, hsl, hki])
    exact S.end_ (d9.own rfl)
set_option maxHeartbeats 2000000
theorem a7K : ∀ (f x : Nat), x < 2 ^ f -> f <= 64 -> x ≠ 0 -> 0 < Lib.bitLen x /\ 2 ^ (Lib.bitLen x - 1) <= x /\ x < 2 ^ Lib.bitLen x
 | 0, x, h, _, h0 => by simp at h; omega
 | f + 1, x, h, hf, h0 => by
  have h64 : x < 2 ^ 64 := c0e h (c0i (by decide) hf)
  rw [Lib.bitLen_half x h0 h64]
  by_cases h1 : x / 2 = 0
  ·rw [h1, show Lib.bitLen 0 = 0 from rfl]
   refine ⟨by omega, ?_, ?_⟩
   ·simp; omega
   ·simp; omega
  ·obtain ⟨g0, g1, g2⟩ := a7K f (x / 2) (by rw [c0s] at h; omega) (by omega) h1
   refine ⟨by omega, ?_, ?_⟩
   ·rw [show 1 + Lib.bitLen (x / 2) - 1 = Lib.bitLen (x / 2) - 1 + 1 by omega, c0s]; omega
   ·rw [Nat.add_comm, c0s]; omega
def lz (x : Nat) : Nat := 32 - Lib.bitLen x
theorem b2Z {x : Nat} (h0 : x ≠ 0) (h : x < 4294967296) : lz x < 32 /\ Lib.bitLen x + lz x = 32 /\ (x + 1) * 2 ^ lz x <= 4294967296 := by
 obtain ⟨g0, g1, g2⟩ := a7K 32 x h (by decide) h0
 have hb : Lib.bitLen x <= 32 := by
  rcases c0j 32 (Lib.bitLen x) with h1 | h1
  ·have : 2 ^ 32 <= 2 ^ (Lib.bitLen x - 1) := c0i (by decide) (by omega)
   omega
  ·exact h1
 refine ⟨by unfold lz; omega, by unfold lz; omega, ?_⟩
 have := c0r (2 ^ lz x) (Nat.succ_le_of_lt g2)
 rw [<- Nat.pow_add, show Lib.bitLen x + lz x = 32 by unfold lz; omega] at this
 exact this
theorem b9F (x : Nat) (h0 : x ≠ 0) (h : x < 4294967296) : F3 Tryz.prog 159 [.v (.int .u32 (x : Int))] (ints (lz x)) := by
 intro O w vs hO hA
 simp only [FzL, Fz] at hA
 obtain ⟨y, ys, rfl, rfl, rfl⟩ := hA
 refine (Tryz.bits_LeadingZeros32 (x : Int) w (by omega) (by omega)).mono ?_
 rintro e w' ⟨rfl, rfl⟩
 refine ⟨_, rfl, Below.refl _ _, ?_⟩
 have := (b2Z h0 h).2.1
 simp only [ints, Fz, b9R]
 rw [show (32 : Int) - (Lib.bitLen x : Int) = ((lz x : Nat) : Int) by omega]
namespace Nm
theorem b1Q {B : Nat} : ∀ {m L n : Nat}, m <= L -> (dig B L n).take m = dig B m n
 | 0, _, _, _ => by simp [dig]
 | m + 1, 0, _, h => by omega
 | m + 1, L + 1, n, h => by simp only [dig, List.take_succ_cons]; rw [b1Q (by omega)]
theorem b3g {B : Nat} {l : List Nat} (h : ∀ w ∈ l, w < B) {k : Nat} (hk : k <= l.length) : wv B (l.drop k) = wv B l / B ^ k := by
 have e := a1L B l k hk
 have h1 : wv B (l.take k) < B ^ k := by
  have := I9 B (l := l.take k) (fun w hw => h w (List.mem_of_mem_take hw))
  rwa [b9V, Nat.min_eq_left hk] at this
 rw [e, Nat.add_mul_div_left _ _ (by omega), Nat.div_eq_of_lt h1, c0n]
theorem Est.top {W V v1 v2 top u2 p : Nat} (h : Est W V v1 v2 top u2 p) : top < v1 * 4294967296 + 4294967296 := by
 have h1 := h.wge
 have h2 := h.lt
 have h3 := h.hW
 have h4 := h.hv2
 have hp : 0 < p := by
  rcases c0f p with h0 | h0
  ·subst h0; omega
  ·exact h0
 have h5 : (top * 4294967296 + u2) * p < (4294967296 * (v1 * 4294967296 + v2 + 1)) * p := by
  rw [c0o 4294967296]; omega
 have := Nat.lt_of_mul_lt_mul_right h5
 omega
theorem b2o {x y : List Nat} {r : Nat} (hx : E5 x) (hy : E5 y) (hl : y.length <= x.length) (hyt : 4294967296 ^ (y.length - 1) <= wv 4294967296 y) (hy0 : 0 < y.length) (hr : wv 4294967296 y * 2 ^ r < 4294967296 ^ y.length) :
  a4w (wv 4294967296 x * 2 ^ r) (dig 4294967296 y.length (wv 4294967296 y * 2 ^ r)) (x.length + 1) (x.length + 1 - y.length) (dig 4294967296 (x.length + 1) (wv 4294967296 x * 2 ^ r)) (List.replicate (x.length + 1 - y.length) 0) := by
 have hp : 0 < 2 ^ r := Nat.pow_pos (by decide)
 have hxl := I9 4294967296 hx
 have hr32 : 2 ^ r <= 4294967296 := by
  have h1 : 4294967296 ^ (y.length - 1) * 2 ^ r <= wv 4294967296 y * 2 ^ r := c0r _ hyt
  have h2 : 4294967296 ^ y.length = 4294967296 ^ (y.length - 1) * 4294967296 := by rw [<- c0s, show (y.length - 1).succ = y.length by omega]
  have h3 : 4294967296 ^ (y.length - 1) * 2 ^ r < 4294967296 ^ (y.length - 1) * 4294967296 := by omega
  exact Nat.le_of_lt (Nat.lt_of_mul_lt_mul_left h3)
 have hU : wv 4294967296 x * 2 ^ r < 4294967296 ^ (x.length + 1) := by
  rw [c0s]
  exact c0e (Nat.mul_lt_mul_of_pos_right hxl hp) (Nat.mul_le_mul_left _ hr32)
 have hwu : wv 4294967296 (dig 4294967296 (x.length + 1) (wv 4294967296 x * 2 ^ r)) = wv 4294967296 x * 2 ^ r := P5 hU
 have hwv : wv 4294967296 (dig 4294967296 y.length (wv 4294967296 y * 2 ^ r)) = wv 4294967296 y * 2 ^ r := P5 hr
 refine ⟨H7 _ _ _, Z8 (by decide) _ _, by simp [H7], fun w hw => by rw [c0h hw]; decide, ?_, ?_⟩
 ·rw [hwu, List.drop_of_length_le (by simp), show wv 4294967296 [] = 0 from rfl, Nat.mul_zero, Nat.mul_zero, Nat.add_zero]
 ·rw [b3g (Z8 (by decide) _ _) (by rw [H7]; omega), hwu, hwv]
  have e : 4294967296 ^ x.length = 4294967296 ^ (x.length + 1 - y.length) * 4294967296 ^ (y.length - 1) := by
   rw [<- Nat.pow_add]; congr 1; omega
  refine c0e ?_ (c0r (2 ^ r) hyt)
  rw [Nat.div_lt_iff_lt_mul (Nat.pow_pos (by decide))]
  have := Nat.mul_lt_mul_of_pos_right hxl hp
  rw [e] at this
  exact Nat.lt_of_lt_of_eq this (by rw [c0o, Nat.mul_comm])
end Nm
theorem b1t (a b : Nat) (ha : a < 4294967296) (hb : b < 4294967296) : bits .or .u64 ((a : Int) * 4294967296) (b : Int) = ((a * 4294967296 + b : Nat) : Int) := by
 have h1 : (a : Int) * 4294967296 = ((a * 4294967296 : Nat) : Int) := by omega
 rw [h1, a8g _ _ (by omega) (by omega)]
 have := Nm.a1D (a := b) (b := a) (r := 32) hb
 rw [Nat.or_comm, show (4294967296 : Nat) = 2 ^ 32 from rfl, this, Nat.add_comm]
set_option maxHeartbeats 4000000
theorem b8u (x y : List Nat) (hxl : x.length <= 274877906900) (hx : Nm.E5 x) (hy : Nm.E5 y) (hl : y.length <= x.length) (hy2 : 2 <= y.length) (hyt : 4294967296 ^ (y.length - 1) <= Nm.wv 4294967296 y) :
    F3 Tryz.prog 152 [.sl 1 (ws x), .sl 1 (ws y)] (.tup [.sl 1 (ws (Nm.dig 4294967296 (x.length + 1 - y.length) (Nm.wv 4294967296 x / Nm.wv 4294967296 y))), .sl 1 (ws (Nm.dig 4294967296 y.length (Nm.wv 4294967296 x % Nm.wv 4294967296 y)))]) := by
  refine kS b2z b1W (by rfl) fun w O => ?_
  simp only [a6L, l9, TT, II, OA, OB, OC, MM, LL, VV, FF, MG, LG, VG, FG]
  have hgy : y[y.length - 1]? = some (y[y.length - 1]'(by omega)) := b9I (by omega)
  have hyw := Nm.y9 4294967296 (l := y) (i := y.length - 1) (by omega)
  rw [show y.length - 1 + 1 = y.length by omega, c0m] at hyw
  have hyk := Nm.I9 4294967296 (l := y.take (y.length - 1)) (fun w hw => hy w (List.mem_of_mem_take hw))
  rw [b9V, Nat.min_eq_left (by omega)] at hyk
  have ht32 := hy _ (b9S (show y.length - 1 < y.length by omega))
  generalize y[y.length - 1]'(by omega) = t at *
  have ht0 : t ≠ 0 := fun h => by subst h; omega
  obtain ⟨hr32, _, htr⟩ := b2Z ht0 ht32
  have hflz := b9F t ht0 ht32
  generalize lz t = r at *
  have hr : Nm.wv 4294967296 y * 2 ^ r < 4294967296 ^ y.length := by
    have h1 : Nm.wv 4294967296 y < (t + 1) * 4294967296 ^ (y.length - 1) := by
      rw [Nat.add_mul, Nat.one_mul, Nat.mul_comm]; omega
    have h2 := Nat.mul_lt_mul_of_pos_right h1 (show 0 < 2 ^ r from Nat.pow_pos (by decide))
    have h3 := c0r (4294967296 ^ (y.length - 1)) htr
    rw [<- Nat.pow_succ', show (y.length - 1).succ = y.length by omega] at h3
    refine c0e h2 ?_
    rw [c0o, Nat.mul_comm (4294967296 ^ _), <- c0o]
    exact h3
  have hi1 : ((y.length : Int) - 1).toNat = y.length - 1 := by omega
  have hti := Nm.b1Q (B := 4294967296) (m := y.length) (L := y.length + 1) (n := Nm.wv 4294967296 y * 2 ^ r) (by omega)
  have hvl := Nm.H7 4294967296 y.length (Nm.wv 4294967296 y * 2 ^ r)
  have hva : Nm.E5 _ := Nm.Z8 (B := 4294967296) (by decide) y.length (Nm.wv 4294967296 y * 2 ^ r)
  have hvw := Nm.P5 hr
  have hst := Nm.b2o hx hy hl hyt (by omega) hr
  have hlx := b5e x r (by omega) hx hr32
  have hly := (b5e y r (by omega) hy hr32).spec
  have htk : List.take y.length (ws (Nm.dig 4294967296 (y.length + 1) (Nm.wv 4294967296 y * 2 ^ r))) = ws (Nm.dig 4294967296 y.length (Nm.wv 4294967296 y * 2 ^ r)) := by
    rw [<- hti]; simp [ws]
  have hul := Nm.H7 4294967296 (x.length + 1) (Nm.wv 4294967296 x * 2 ^ r)
  have hn1 : (((x.length + 1 : Nat) : Int) - (y.length : Int)).toNat = x.length + 1 - y.length := by omega
  (repeat first | refine uA ?_ | (refine uK ?_ ?_; focus first | omega | trivial | (intro h; rw [h]; rfl) | (intro h h2; rw [h, h2]; rfl) | (intro h; (try simp at h); omega) | (intros; simp_all <;> omega)) | simp only [go_sem, Nat.reduceBEq, Nat.reduceAdd, Nat.reduceLeDiff, Int.reduceToNat, Int.reducePow, p9, A9, hgy, hi1, b9J, wd, Nm.H7, htk, hn1, List.length_replicate] | simp (disch := omega) only [ww, p9, A9, hgy, hi1, b9J, wd, Nm.H7, htk, hn1, List.length_replicate] | refine l7.t (FNew.t hlx rfl) ?_ | (refine uB hflz ?_ ?_; exact rfl) | (refine uB hly ?_ ?_; exact rfl))
  clear hflz hlx hly htk hti hgy
  have hyn : ∃ m, y.length = m + 2 := ⟨y.length - 2, by omega⟩
  obtain ⟨m, hm⟩ := hyn
  have hV : Nm.wv 4294967296 y * 2 ^ r / 2 ^ r = Nm.wv 4294967296 y := Nat.mul_div_cancel _ (Nat.pow_pos (by decide))
  generalize Nm.dig 4294967296 y.length (Nm.wv 4294967296 y * 2 ^ r) = v at *
  generalize hn : y.length = n at *
  refine S.loop (X := Nat × List Nat × List Nat) (fun s => ⟨[(10, ints ((s.1 : Int) - 1)), (4, .rv 1), (9, .sl 1 (ws v)), (8, .rv 0), (7, ints n), (6, ints r)], [.row 188 1 (ws s.2.1), .row 188 1 (ws s.2.2)]⟩) (fun s => s.1 <= x.length + 1 - n /\ Nm.a4w (Nm.wv 4294967296 x * 2 ^ r) v (x.length + 1) s.1 s.2.1 s.2.2) (fun s => s.1) (x.length + 1 - n, _, _) ⟨b9T _, hst⟩ (by simp only [<- a1B]; exact Ent.mk _ _ (by repeat' (first | exact V6.nil | exact Imp.refl rfl | exact Imp.eq (by simp [slot]; omega) rfl | refine V6.cons ?_ ?_)) (by (repeat first | refine uA ?_ | (refine ⟨?_, ?_⟩; focus first | rfl | trivial | (simp [slot]; done)) | rfl | trivial | simp)) (b9M _)) ?_
  clear hst
  rintro ⟨j, us, qs⟩ ⟨hj, hinv⟩
  simp only [ints] at hj hinv ⊢
  have hus := hinv.1
  have hua := hinv.2.1
  have hql := hinv.2.2.1
  have hqa := hinv.2.2.2.1
  (repeat first | refine uA ?_ | (refine uK ?_ ?_; focus first | omega | trivial | (intro h; rw [h]; rfl) | (intro h h2; rw [h, h2]; rfl) | (intro h; (try simp at h); omega) | (intros; simp_all <;> omega)) | simp only [go_sem, Nat.reduceBEq, Nat.reduceAdd, Nat.reduceLeDiff, Int.reduceToNat, Int.reducePow] | simp (disch := omega) only [ww])
  (refine uJ rfl (fun hc => ?_) fun hc => ?_)
  · obtain ⟨k, rfl⟩ : ∃ k, j = k + 1 := ⟨j - 1, by omega⟩
    rw [show (((k + 1 : Nat) : Int) - 1) = (k : Int) by omega]
    obtain ⟨g1, g2, g3, g4⟩ := Nm.a9k hinv hva (by omega)
    have hwa : Nm.E5 ((us.drop k).take (v.length + 1)) := (hua.drop k).take _
    have hv1 : 0 < v[m + 1]'(by omega) := by
      have h1 := Nm.y9 4294967296 (l := v) (i := m + 1) (by omega)
      rw [c0k (by omega)] at h1
      have h2 := Nm.I9 4294967296 (l := v.take (m + 1)) (fun w hw => hva w (List.mem_of_mem_take hw))
      rw [b9V, Nat.min_eq_left (by omega)] at h2
      have h3 : Nm.wv 4294967296 y <= Nm.wv 4294967296 y * 2 ^ r := Nat.le_mul_of_pos_right _ (Nat.pow_pos (by decide))
      rw [show n - 1 = m + 1 by omega] at hyt
      rcases c0f (v[m + 1]'(by omega)) with h0 | h0
      · rw [h0] at h1; omega
      · exact h0
    have hE := Nm.Est.of (m := m) (by omega) (by rw [g4]; omega) hva hwa hv1 (by rw [g1]; exact g2)
    simp only [List.getElem_take, List.getElem_drop, g1] at hE
    have ha2 : us[k + n]? = some (us[k + (m + 2)]'(by omega)) := (show us[k + n]? = us[k + (m + 2)]? by rw [hm]).trans (b9I (by omega))
    have ha1 : us[k + (m + 1)]? = some (us[k + (m + 1)]'(by omega)) := b9I (by omega)
    have ha0 : us[k + m]? = some (us[k + m]'(by omega)) := b9I (by omega)
    have hb1 : v[m + 1]? = some (v[m + 1]'(by omega)) := b9I (by omega)
    have hb0 : v[m]? = some (v[m]'(by omega)) := b9I (by omega)
    have hA2 := hua _ (b9S (show k + (m + 2) < us.length by omega))
    have hA1 := hua _ (b9S (show k + (m + 1) < us.length by omega))
    have hA0 := hua _ (b9S (show k + m < us.length by omega))
    have hB1 := hva _ (b9S (show m + 1 < v.length by omega))
    have hB0 := hva _ (b9S (show m < v.length by omega))
    generalize us[k + (m + 2)]'(by omega) = a2 at *
    generalize us[k + (m + 1)]'(by omega) = a1 at *
    generalize us[k + m]'(by omega) = a0 at *
    generalize v[m + 1]'(by omega) = v1 at *
    generalize v[m]'(by omega) = v2 at *
    have hi2 : ((k : Int) + (n : Int)).toNat = k + n := by omega
    have hi3 : ((k : Int) + (n : Int) - 1).toNat = k + (m + 1) := by omega
    have hi4 : ((k : Int) + (n : Int) - 2).toNat = k + m := by omega
    have hi5 : ((n : Int) - 1).toNat = m + 1 := by omega
    have hi6 : ((n : Int) - 2).toNat = m := by omega
    have htop := b1t a2 a1 hA2 hA1
    have htb : a2 * 4294967296 + a1 < 18446744073709551616 := by omega
    have hs0 := hE.start
    have htp := hE.top
    have hd0 := Nat.div_add_mod (a2 * 4294967296 + a1) v1
    have hr0 := Nat.mod_lt (a2 * 4294967296 + a1) hv1
    obtain ⟨top, htd⟩ : ∃ top, top = a2 * 4294967296 + a1 := ⟨_, rfl⟩
    rw [<- htd] at hE htop htb hs0 htp hd0 hr0
    have hq : ∀ q : Nat, q = top / v1 -> Int.tdiv (top : Int) (v1 : Int) = (q : Int) := fun q h => by rw [h]; rfl
    have hqr : ∀ q : Nat, q = top % v1 -> Int.tmod (top : Int) (v1 : Int) = (q : Int) := fun q h => by rw [h]; rfl
    obtain ⟨d0, hd0e⟩ : ∃ d0, d0 = top / v1 := ⟨_, rfl⟩
    obtain ⟨e0, he0e⟩ : ∃ e0, e0 = top % v1 := ⟨_, rfl⟩
    have hq := hq d0 hd0e
    have hqr := hqr e0 he0e
    rw [<- hd0e, <- he0e] at hd0
    rw [<- hd0e] at hs0
    rw [<- he0e] at hr0
    have hd0b : d0 <= 18446744073709551615 := by
      have : d0 <= top := by rw [hd0e]; exact Nat.div_le_self _ _
      omega
    clear hd0e he0e
    (repeat first | refine uA ?_ | (refine uK ?_ ?_; focus first | omega | trivial | (intro h; rw [h]; rfl) | (intro h h2; rw [h, h2]; rfl) | (intro h; (try simp at h); omega) | (intros; simp_all <;> omega)) | simp only [go_sem, Nat.reduceBEq, Nat.reduceAdd, Nat.reduceLeDiff, Int.reduceToNat, Int.reducePow, p9, A9, ha2, ha1, hb1, b9J, wd, hi2, hi3, hi5, htop, hq, hqr] | simp (disch := omega) only [ww, p9, A9, ha2, ha1, hb1, b9J, wd, hi2, hi3, hi5, htop, hq, hqr])
    refine S.b7g (Y := Nat) (fun d => ⟨[(10, ints k), (4, .rv 1), (9, .sl 1 (ws v)), (8, .rv 0), (7, ints n), (6, ints r), (12, .v (.int .u64 (d : Int)))], [.row 188 1 (ws us), .row 188 1 (ws qs)]⟩) (fun d => d < 4294967296 /\ ((d * Nm.wv 4294967296 v <= Nm.wv 4294967296 (us.drop k) /\ Nm.wv 4294967296 (us.drop k) / Nm.wv 4294967296 v = d) \/ (Nm.wv 4294967296 (us.drop k) < d * Nm.wv 4294967296 v /\ 0 < d /\ Nm.wv 4294967296 (us.drop k) / Nm.wv 4294967296 v = d - 1))) ?_ ?_
    · refine S.loop (X := Nat × Nat) (fun s => ⟨[(10, ints k), (4, .rv 1), (9, .sl 1 (ws v)), (8, .rv 0), (7, ints n), (6, ints r), (12, .v (.int .u64 (s.1 : Int))), (13, .v (.int .u64 (s.2 : Int)))], [.row 188 1 (ws us), .row 188 1 (ws qs)]⟩) (fun s => Nm.wv 4294967296 (us.drop k) / Nm.wv 4294967296 v <= s.1 /\ top = s.1 * v1 + s.2 /\ s.2 < 4294967296 /\ s.1 <= 18446744073709551615) (fun s => s.1) (d0, e0) ⟨hs0, by rw [<- hd0, Nat.mul_comm], by simp only; omega, hd0b⟩ (by (repeat first | refine uA ?_ | (refine ⟨?_, ?_⟩; focus first | rfl | trivial | (simp [slot]; done)) | rfl | trivial | simp)) ?_
      clear hs0 hd0 hr0 hd0b hq hqr
      rintro ⟨d, rest⟩ ⟨p1, p2, p3, p4⟩
      simp only [ints] at p1 p2 p3 p4 ⊢
      have hor := b1t rest a0 p3 hA0
      (repeat first | refine uA ?_ | (refine uK ?_ ?_; focus first | omega | trivial | (intro h; rw [h]; rfl) | (intro h h2; rw [h, h2]; rfl) | (intro h; (try simp at h); omega) | (intros; simp_all <;> omega)) | simp only [go_sem, Nat.reduceBEq, Nat.reduceAdd, Nat.reduceLeDiff, Int.reduceToNat, Int.reducePow, p9, A9, hb0, ha0, b9J, wd, hi4, hi6, U6, hor] | simp (disch := omega) only [ww, p9, A9, hb0, ha0, b9J, wd, hi4, hi6, U6, hor])
      have hmul : d < 4294967296 -> IntKind.u64.wrap ((d : Int) * (v2 : Int)) = ((d * v2 : Nat) : Int) := fun h => by
        have h1 : d * v2 <= 4294967295 * 4294967295 := Nat.mul_le_mul (by omega) (by omega)
        rw [<- Int.natCast_mul, Eng.wrap_u64 (by omega)]
      (refine uJ rfl (fun hc => ?_) fun hc => ?_)
      · have hdec : Nm.wv 4294967296 (us.drop k) / Nm.wv 4294967296 v < d := by
          refine hE.dec p1 p2 ?_
          rcases c0j d 4294967296 with h | h
          · rw [hmul h] at hc
            omega
          · exact Or.inl h
        have hd1 : 1 <= d := Nat.lt_of_le_of_lt (b9M _) hdec
        have hdm : (d : Int) - 1 = ((d - 1 : Nat) : Int) := by clear hdec p1; omega
        have hrm : (rest : Int) + (v1 : Int) = ((rest + v1 : Nat) : Int) := by omega
        have ht2 : top = (d - 1) * v1 + (rest + v1) := by
          rw [p2]
          conv => lhs; rw [show d = d - 1 + 1 by omega, Nat.add_mul, Nat.one_mul]
          omega
        (repeat first | refine uA ?_ | (refine uK ?_ ?_; focus first | omega | trivial | (intro h; rw [h]; rfl) | (intro h h2; rw [h, h2]; rfl) | (intro h; (try simp at h); omega) | (intros; simp_all <;> omega)) | simp only [go_sem, Nat.reduceBEq, Nat.reduceAdd, Nat.reduceLeDiff, Int.reduceToNat, Int.reducePow, p9, A9, hb1, b9J, wd, hi5, U6, hdm, hrm] | simp (disch := omega) only [ww, p9, A9, hb1, b9J, wd, hi5, U6, hdm, hrm])
        (refine uJ rfl (fun hc => ?_) fun hc => ?_)
        · have hsm := hE.small ht2 htp (by omega)
          (repeat first | refine uA ?_ | (refine uK ?_ ?_; focus first | omega | trivial | (intro h; rw [h]; rfl) | (intro h h2; rw [h, h2]; rfl) | (intro h; (try simp at h); omega) | (intros; simp_all <;> omega)) | simp only [go_sem, Nat.reduceBEq, Nat.reduceAdd, Nat.reduceLeDiff, Int.reduceToNat, Int.reducePow] | simp (disch := omega) only [ww])
          exact S.met (d - 1) ⟨hsm, hE.fin (by omega) ht2 hsm (by omega)⟩ (by (repeat first | refine uA ?_ | (refine ⟨?_, ?_⟩; focus first | rfl | trivial | (simp [slot]; done)) | rfl | trivial | simp))
        · (repeat first | refine uA ?_ | (refine uK ?_ ?_; focus first | omega | trivial | (intro h; rw [h]; rfl) | (intro h h2; rw [h, h2]; rfl) | (intro h; (try simp at h); omega) | (intros; simp_all <;> omega)) | simp only [go_sem, Nat.reduceBEq, Nat.reduceAdd, Nat.reduceLeDiff, Int.reduceToNat, Int.reducePow] | simp (disch := omega) only [ww])
          refine S.next (x := (d, rest)) (d - 1, rest + v1) ⟨by simp only; omega, ht2, by simp only; omega, by simp only; omega⟩ (by simp only; omega) (by (repeat first | refine uA ?_ | (refine ⟨?_, ?_⟩; focus first | rfl | trivial | (simp [slot]; done)) | rfl | trivial | simp))
      · have hdl : d < 4294967296 := by
          rcases c0j d 4294967296 with h | h
          · exact h
          · exfalso; omega
        rw [hmul hdl] at hc
        (repeat first | refine uA ?_ | (refine uK ?_ ?_; focus first | omega | trivial | (intro h; rw [h]; rfl) | (intro h h2; rw [h, h2]; rfl) | (intro h; (try simp at h); omega) | (intros; simp_all <;> omega)) | simp only [go_sem, Nat.reduceBEq, Nat.reduceAdd, Nat.reduceLeDiff, Int.reduceToNat, Int.reducePow] | simp (disch := omega) only [ww])
        exact S.met d ⟨hdl, hE.fin p1 p2 hdl (by omega)⟩ (by (repeat first | refine uA ?_ | (refine ⟨?_, ?_⟩; focus first | rfl | trivial | (simp [slot]; done)) | rfl | trivial | simp))
    · clear hs0 hd0 hr0 hd0b hq hqr
      rintro d ⟨hd32, hfin⟩
      simp only [ints]
      generalize hW : Nm.wv 4294967296 (us.drop k) = W at *
      generalize hVV : Nm.wv 4294967296 v = V at *
      have htake := b8z (E := ⟨Tryz.prog, eff, 179, w, fun _ => False, O, [], []⟩) rfl us qs v k d (by omega) (by omega) hua hva hd32 (W := W) (by rw [g1])
      rw [hVV] at htake
      have hlo : ((k : Int) + (n : Int) + 1).toNat - k = v.length + 1 := by omega
      have hqk : k < qs.length := by omega
      have hgq : qs[k]? = some (qs[k]'hqk) := b9I hqk
      have hpos : 0 < V := hE.pos
      have hlk : k + v.length + 1 <= us.length := by omega
      have hWl : W < 4294967296 ^ (v.length + 1) := by
        have := Nm.I9 4294967296 hwa
        rwa [g4, g1] at this
      have hVl : V <= 4294967296 ^ (v.length + 1) := by
        rw [<- hVV]
        exact Nat.le_of_lt (c0e (Nm.I9 4294967296 hva) (c0i (by decide) (by omega)))
      have hput : ∀ l, put us k (Nm.dig 4294967296 (v.length + 1) l) = us.take k ++ Nm.dig 4294967296 (v.length + 1) l ++ us.drop (k + v.length + 1) := fun l => by
        rw [put, Nm.H7, Nat.add_assoc]
      have hend : Nm.a4w (Nm.wv 4294967296 x * 2 ^ r) v (x.length + 1) k (put us k (Nm.dig 4294967296 (v.length + 1) (W - W / V * V))) (qs.set k (W / V)) := by
        rw [hput]
        refine Nm.b4h hinv hva (by omega) (Nm.H7 _ _ _) (Nm.Z8 (by decide) _ _) (by rw [hW, hVV]) ?_ (by rw [hVV]; exact hpos)
        have hm1 := Nat.div_mul_le_self W V
        rw [Nm.P5 (by omega), hW, hVV]; omega
      (repeat first | refine uA ?_ | (refine uK ?_ ?_; focus first | omega | trivial | (intro h; rw [h]; rfl) | (intro h h2; rw [h, h2]; rfl) | (intro h; (try simp at h); omega) | (intros; simp_all <;> omega)) | simp only [go_sem, Nat.reduceBEq, Nat.reduceAdd, Nat.reduceLeDiff, Int.reduceToNat, Int.reducePow, p9, hlo] | simp (disch := omega) only [ww, p9, hlo] | refine l7.t htake ?_)
      (refine uJ rfl (fun hc => ?_) fun hc => ?_)
      · rcases hfin with ⟨h1, h2⟩ | ⟨h1, h2, h3⟩
        · omega
        rw [if_pos h1]
        have hm : (d - 1) * V + V = d * V := by
          conv => rhs; rw [show d = d - 1 + 1 by omega, Nat.add_mul, Nat.one_mul]
        have hm2 := Nat.div_mul_le_self W V
        rw [h3] at hend hm2
        have hpl : (put us k (Nm.dig 4294967296 (v.length + 1) (W + 4294967296 ^ (v.length + 1) * 1 - d * V))).length = us.length := U2 (by rw [Nm.H7]; omega)
        have hdV : d * V <= W + 4294967296 ^ (v.length + 1) := by
          omega
        have hback := b8X (E := ⟨Tryz.prog, eff, 179, w, fun _ => False, O, [], []⟩) rfl (put us k (Nm.dig 4294967296 (v.length + 1) (W + 4294967296 ^ (v.length + 1) * 1 - d * V))) qs v k (by omega) (by omega) (b7S hua (Nm.Z8 (by decide) _ _)) hva (W := W + 4294967296 ^ (v.length + 1) * 1 - d * V) (by
          rw [a1f (Nm.H7 _ _ _).symm (by rw [Nm.H7]; omega), Nm.P5 (by omega)]) (by rw [hVV]; omega)
        rw [hVV, b7W (by rw [Nm.H7, Nm.H7]) (by rw [Nm.H7]; omega), show W + 4294967296 ^ (v.length + 1) * 1 - d * V + V - 4294967296 ^ (v.length + 1) = W - (d - 1) * V by omega] at hback
        have hdm : (d : Int) - 1 = ((d - 1 : Nat) : Int) := by omega
        (repeat first | refine uA ?_ | (refine uK ?_ ?_; focus first | omega | trivial | (intro h; rw [h]; rfl) | (intro h h2; rw [h, h2]; rfl) | (intro h; (try simp at h); omega) | (intros; simp_all <;> omega)) | simp only [go_sem, Nat.reduceBEq, Nat.reduceAdd, Nat.reduceLeDiff, Int.reduceToNat, Int.reducePow, p9, A9, hgq, b9J, wd, hlo, hpl, hdm, G7] | simp (disch := omega) only [ww, p9, A9, hgq, b9J, wd, hlo, hpl, hdm, G7] | refine l7.t hback ?_)
        refine S.next (x := (k + 1, us, qs)) (k, _, _) ⟨by simp only; omega, hend⟩ (by simp only; omega) (by (repeat first | refine uA ?_ | (refine ⟨?_, ?_⟩; focus first | rfl | trivial | (simp [slot]; done)) | rfl | trivial | simp))
      · rcases hfin with ⟨h1, h2⟩ | ⟨h1, h2, h3⟩
        · rw [if_neg (by omega), Nat.mul_zero, Nat.add_zero]
          rw [h2] at hend
          (repeat first | refine uA ?_ | (refine uK ?_ ?_; focus first | omega | trivial | (intro h; rw [h]; rfl) | (intro h h2; rw [h, h2]; rfl) | (intro h; (try simp at h); omega) | (intros; simp_all <;> omega)) | simp only [go_sem, Nat.reduceBEq, Nat.reduceAdd, Nat.reduceLeDiff, Int.reduceToNat, Int.reducePow, p9, A9, hgq, b9J, wd, G7] | simp (disch := omega) only [ww, p9, A9, hgq, b9J, wd, G7])
          refine S.next (x := (k + 1, us, qs)) (k, _, _) ⟨by simp only; omega, hend⟩ (by simp only; omega) (by (repeat first | refine uA ?_ | (refine ⟨?_, ?_⟩; focus first | rfl | trivial | (simp [slot]; done)) | rfl | trivial | simp))
        · omega
  · have hj0 : j = 0 := by omega
    subst hj0
    clear hc hj
    obtain ⟨e1, e2⟩ := Nm.b4y hinv hva (by omega)
    rw [hvw, Nat.mul_div_mul_right _ _ (Nat.pow_pos (by decide))] at e1
    rw [hvw, Nat.mul_mod_mul_right, hvl] at e2
    have hq : qs = Nm.dig 4294967296 (x.length + 1 - n) (Nm.wv 4294967296 x / Nm.wv 4294967296 y) := Nm.P9 (by decide) hqa (by omega) e1
    rw [<- hq]
    have hps : put us 0 (us.take n) = us := by
      have := a2R (us := us) (k := 0) (n := n) (by omega)
      rwa [List.drop_zero] at this
    have hra : Nm.E5 (us.take n) := hua.take n
    have hrl : (us.take n).length = n := by rw [b9V]; omega
    generalize us.take n = r0 at *
    (repeat first | refine uA ?_ | (refine uK ?_ ?_; focus first | omega | trivial | (intro h; rw [h]; rfl) | (intro h h2; rw [h, h2]; rfl) | (intro h; (try simp at h); omega) | (intros; simp_all <;> omega)) | simp only [go_sem, Nat.reduceBEq, Nat.reduceAdd, Nat.reduceLeDiff, Int.reduceToNat, Int.reducePow, p9] | simp (disch := omega) only [ww, p9])
    refine S.loop (X := Nat × List Nat) (fun s => ⟨[(4, .rv 1), (5, .wv 0 1 0 n), (6, ints r), (7, ints n), (8, .rv 0), (145, ints n), (146, ints s.1)], [.row 188 1 (ws (put us 0 s.2)), .row 188 1 (ws qs)]⟩) (fun s => s.1 <= n /\ Nm.a2O r0 (2 ^ r) s.1 s.2) (fun s => n - s.1) (0, r0) ⟨b9M _, Nm.a9M hra⟩ (by simp only [hps]; exact (by (repeat first | refine uA ?_ | (refine ⟨?_, ?_⟩; focus first | rfl | trivial | (simp [slot]; done)) | rfl | trivial | simp))) ?_
    rintro ⟨i, out⟩ ⟨hi, hri⟩
    simp only [ints] at hi hri ⊢
    have hol := hri.1
    have hpl : (put us 0 out).length = us.length := U2 (by omega)
    (repeat first | refine uA ?_ | (refine uK ?_ ?_; focus first | omega | trivial | (intro h; rw [h]; rfl) | (intro h h2; rw [h, h2]; rfl) | (intro h; (try simp at h); omega) | (intros; simp_all <;> omega)) | simp only [go_sem, Nat.reduceBEq, Nat.reduceAdd, Nat.reduceLeDiff, Int.reduceToNat, Int.reducePow] | simp (disch := omega) only [ww])
    (refine uJ rfl (fun hc => ?_) fun hc => ?_)
    · have hi' : i < n := by omega
      have hgr : r0[i]? = some (r0[i]'(by omega)) := b9I (by omega)
      have hgo : (put us 0 out)[i]? = some (r0[i]'(by omega)) := by
        have := O0 (us := us) (out := out) (k := 0) (i := i) (by omega) (by omega)
        rw [c0n] at this
        rw [this, Nm.V9 hri.2.2.1, hgr]
      have hr32' := hra _ (b9S (show i < r0.length by omega))
      have hir : i < r0.length := by omega
      have hk := fun t ht => Nm.a9V (t := t) hri hr32 hir hra ht
      have hset : ∀ a, (put us 0 out).set i a = put us 0 (out.set i a) := fun a => by
        have := T9 (us := us) (out := out) (k := 0) (i := i) (v := a) (by omega) (by omega)
        rwa [c0n] at this
      generalize r0[i]'(by omega) = ri at *
      have hsh : Int.fdiv (ri : Int) (2 ^ min r 32) = ((ri / 2 ^ r : Nat) : Int) := by
        rw [show min r 32 = r by omega, <- a0X]; congr 1
      have hrb : ri / 2 ^ r < 4294967296 := Nat.lt_of_le_of_lt (Nat.div_le_self _ _) hr32'
      generalize ri / 2 ^ r = rs at *
      (repeat first | refine uA ?_ | (refine uK ?_ ?_; focus first | omega | trivial | (intro h; rw [h]; rfl) | (intro h h2; rw [h, h2]; rfl) | (intro h; (try simp at h); omega) | (intros; simp_all <;> omega)) | simp only [go_sem, Nat.reduceBEq, Nat.reduceAdd, Nat.reduceLeDiff, Int.reduceToNat, Int.reducePow, p9, A9, hgo, c0n, b9J, wd, G7, hsh, hset] | simp (disch := omega) only [ww, p9, A9, hgo, c0n, b9J, wd, G7, hsh, hset])
      (refine uJ rfl (fun hc => ?_) fun hc => ?_)
      · have hi1 : i + 1 < n := by omega
        have hpl1 : (put us 0 (out.set i rs)).length = us.length := U2 (by rw [c0p]; omega)
        have hg1 : (put us 0 (out.set i rs))[i]? = some rs := by
          rw [<- hset, List.getElem?_set_self (by omega)]
        have hg3 : r0[i + 1]? = some (r0[i + 1]'(by omega)) := b9I (by omega)
        have hg2 : (put us 0 (out.set i rs))[i + 1]? = some (r0[i + 1]'(by omega)) := by
          have := O0 (us := us) (out := out) (k := 0) (i := i + 1) (by omega) (by omega)
          rw [c0n] at this
          rw [<- hset, List.getElem?_set_ne (by omega), this]
          have h3 := congrArg (fun l => l[1]?) hri.2.2.1
          simp only [c0v] at h3
          rw [h3, hg3]
        have hn32 := hra _ (b9S (show i + 1 < r0.length by omega))
        have hgd : r0.getD (i + 1) 0 = r0[i + 1]'(by omega) := Nm.getD_lt (by omega)
        rw [hgd] at hk
        generalize r0[i + 1]'(by omega) = rn at *
        have hmb : rn * 2 ^ (32 - r) < 18446744073709551616 := by
          have h1 : 2 ^ (32 - r) <= 2 ^ 32 := c0i (by decide) (by omega)
          have h2 : rn * 2 ^ (32 - r) <= 4294967295 * 4294967296 := Nat.mul_le_mul (by omega) h1
          omega
        have hshl := b3n rn (32 - r) hmb (by omega)
        have hrr : ((32 : Int) - (r : Int)).toNat = 32 - r := by omega
        have horl := b4U rs (rn * 2 ^ (32 - r)) hrb
        have hk := hk _ rfl
        rw [if_pos (by omega)] at hk
        generalize rn * 2 ^ (32 - r) = sh at *
        generalize hto : rs ||| sh % 4294967296 = to at *
        have hset2 : (put us 0 (out.set i rs)).set i to = put us 0 (out.set i to) := by
          have := T9 (us := us) (out := out.set i rs) (k := 0) (i := i) (v := to) (by rw [c0p]; omega) (by rw [c0p]; omega)
          rwa [c0n, List.set_set] at this
        have hi1n : ((i : Int) + 1).toNat = i + 1 := by omega
        (repeat first | refine uA ?_ | (refine uK ?_ ?_; focus first | omega | trivial | (intro h; rw [h]; rfl) | (intro h h2; rw [h, h2]; rfl) | (intro h; (try simp at h); omega) | (intros; simp_all <;> omega)) | simp only [go_sem, Nat.reduceBEq, Nat.reduceAdd, Nat.reduceLeDiff, Int.reduceToNat, Int.reducePow, p9, A9, hg1, hg2, hpl1, c0n, b9J, wd, hrr, hi1n, hshl, a0B, horl, G7, hset2] | simp (disch := omega) only [ww, p9, A9, hg1, hg2, hpl1, c0n, b9J, wd, hrr, hi1n, hshl, a0B, horl, G7, hset2])
        refine S.next (x := (i, out)) (i + 1, _) ⟨hi', hk.1⟩ (by simp only; omega) (by (repeat first | refine uA ?_ | (refine ⟨?_, ?_⟩; focus first | rfl | trivial | (simp [slot]; done)) | rfl | trivial | simp))
      · have hk := hk _ rfl
        rw [if_neg (by omega)] at hk
        (repeat first | refine uA ?_ | (refine uK ?_ ?_; focus first | omega | trivial | (intro h; rw [h]; rfl) | (intro h h2; rw [h, h2]; rfl) | (intro h; (try simp at h); omega) | (intros; simp_all <;> omega)) | simp only [go_sem, Nat.reduceBEq, Nat.reduceAdd, Nat.reduceLeDiff, Int.reduceToNat, Int.reducePow] | simp (disch := omega) only [ww])
        refine S.next (x := (i, out)) (i + 1, _) ⟨hi', hk.1⟩ (by simp only; omega) (by (repeat first | refine uA ?_ | (refine ⟨?_, ?_⟩; focus first | rfl | trivial | (simp [slot]; done)) | rfl | trivial | simp))
    · have hi' : i = n := by omega
      subst hi'
      rw [<- hrl] at hri
      have he := Nm.b1f hri (by omega) e2
      have hd : out = Nm.dig 4294967296 i (Nm.wv 4294967296 x % Nm.wv 4294967296 y) := Nm.P9 (by decide) hri.2.1 (by omega) he
      rw [<- hd]
      have hwin : ((ws (put us 0 out)).drop 0).take i = ws out := by
        rw [List.drop_zero, put, List.take_zero, List.nil_append]
        simp only [ws, c0C]
        rw [List.take_append_of_le_length (by simp; omega), c0k (by simp; omega)]
      (repeat first | refine uA ?_ | (refine uK ?_ ?_; focus first | omega | trivial | (intro h; rw [h]; rfl) | (intro h h2; rw [h, h2]; rfl) | (intro h; (try simp at h); omega) | (intros; simp_all <;> omega)) | simp only [go_sem, Nat.reduceBEq, Nat.reduceAdd, Nat.reduceLeDiff, Int.reduceToNat, Int.reducePow] | simp (disch := omega) only [ww])
      exact S.done (d9.out rfl (Imp.tup (l8.cons (Imp.frz rfl rfl rfl) (l8.cons (Imp.Y5 rfl rfl (by simp only [p9]; omega) hwin) l8.nil))) rfl)
namespace Nm
def a7n (x : List Nat) (d j : Nat) (out : List Nat) (rest : Nat) : Prop :=
 out.length = x.length /\ E5 out /\ out.take j = x.take j /\ wv 4294967296 (out.drop j) = wv 4294967296 (x.drop j) / d /\ rest = wv 4294967296 (x.drop j) % d
theorem b1Y {x : List Nat} {d : Nat} (hx : E5 x) : a7n x d x.length x 0 := by
 refine ⟨rfl, hx, rfl, ?_, ?_⟩ <;> rw [List.drop_of_length_le (b9T _)] <;> simp [wv]
theorem b2y {x : List Nat} {d j : Nat} {out : List Nat} {rest : Nat} (h : a7n x d (j + 1) out rest) (hj : j < x.length) (hd : 0 < d) (hd32 : d < 4294967296) (hx : x[j] < 4294967296) :
  a7n x d j (out.set j ((rest * 4294967296 + x[j]) / d)) ((rest * 4294967296 + x[j]) % d) /\ (rest * 4294967296 + x[j]) / d < 4294967296 /\ rest < 4294967296 := by
 obtain ⟨h1, h2, h3, h4, h5⟩ := h
 have hrd : rest < d := by rw [h5]; exact Nat.mod_lt _ hd
 have hs : (rest * 4294967296 + x[j]) / d < 4294967296 := by
  rw [Nat.div_lt_iff_lt_mul hd]
  have : (rest + 1) * 4294967296 <= d * 4294967296 := c0r _ hrd
  rw [Nat.mul_comm d] at this; omega
 have hxd := a1m 4294967296 hj
 have hW := Nat.div_add_mod (wv 4294967296 (x.drop (j + 1))) d
 rw [<- h5, <- h4] at hW
 have e : wv 4294967296 (x.drop j) = (rest * 4294967296 + x[j]) + d * (4294967296 * wv 4294967296 (out.drop (j + 1))) := by
  rw [hxd, <- hW, Nat.mul_add]; grind
 refine ⟨⟨by simp [h1], h2.set hs, ?_, ?_, ?_⟩, hs, by omega⟩
 ·rw [List.take_set_of_le (b9T _)]
  have := congrArg (List.take j) h3
  simpa [List.take_take, Nat.min_eq_left (show j <= j + 1 by omega)] using this
 ·rw [a1m _ (by rw [c0p]; omega), List.getElem_set_self, List.drop_set_of_lt (by omega), e, Nat.add_mul_div_left _ _ hd]
 ·rw [e, Nat.add_mul_mod_self_left]
theorem K3 {α : Type} {a b : List α} {j : Nat} (h : a.take (j + 1) = b.take (j + 1)) : a[j]? = b[j]? := by
 have := congrArg (fun l => l[j]?) h
 simpa using this
end Nm
theorem Z6 (l : List UInt8) : (bs l = (⟨#[]⟩ : ByteArray)) = (l = []) := b3D l []
theorem b3C (a b : List UInt8) (ha : a.length <= 274877906944) (hb : b.length <= 274877906944) (h0 : Nm.val b ≠ 0) : F3 Tryz.prog 137 [sb a, sb b] (.tup [sb (Nm.enc (Nm.val a / Nm.val b)), sb (Nm.enc (Nm.val a % Nm.val b)), ints 0]) := by
  refine kS b4a b4t (by rfl) fun w O => ?_
  simp only [a7x, l9, TT, II, OA, OB, OC, MM, LL, VV, FF, MG, LG, VG, FG, sb, ints]
  have hta := Nm.Q0 a
  have htb := Nm.Q0 b
  have hva := Nm.L8 a
  have hvb := Nm.L8 b
  have hla := Nm.O7 (Nm.trim a)
  have hlb := Nm.O7 (Nm.trim b)
  have hwa := Nm.U5 (Nm.trim a)
  have hwb := Nm.U5 (Nm.trim b)
  have h3a := Nm.V3 (Nm.trim a)
  have h3b := Nm.V3 (Nm.trim b)
  have hca := Nm.O9 a
  have hcb := Nm.O9 b
  have htopb := Nm.a5y (Nm.trim b)
  have htopa := Nm.a5y (Nm.trim a)
  have fta := X9 a (by omega)
  have ftb := X9 b (by omega)
  rw [Nm.a5h] at hla hlb
  rw [<- hva, <- hvb]
  rw [<- hvb] at h0
  clear hva hvb
  generalize Nm.trim a = x at *
  generalize Nm.trim b = y at *
  have hy0 : y ≠ [] := fun h => by subst h; exact h0 rfl
  (repeat first | refine uA ?_ | (refine uK ?_ ?_; focus first | omega | trivial | (intros; simp_all <;> omega)) | simp (disch := omega) only [go_sem, Nat.reduceBEq, Nat.reduceAdd, Nat.reduceLeDiff, Int.reduceToNat, Int.reducePow, ww, D6] | (refine uB fta ?_ ?_; exact rfl) | (refine uB ftb ?_ ?_; exact rfl))
  (refine uJ rfl (fun hc => ?_) fun hc => ?_)
  · rw [Z6] at hc; exact absurd hc hy0
  (repeat first | refine uA ?_ | (refine uK ?_ ?_; focus first | omega | trivial | (intros; simp_all <;> omega)) | simp (disch := omega) only [go_sem, Nat.reduceBEq, Nat.reduceAdd, Nat.reduceLeDiff, Int.reduceToNat, Int.reducePow, ww, D6])
  (refine uJ rfl (fun hc => ?_) fun hc => ?_)
  · have hx7 := Nm.U7 (l := x) (k := 8) (by omega)
    have hy7 := Nm.U7 (l := y) (k := 8) (by omega)
    have e1 : Nm.val x % 18446744073709551616 = Nm.val x := Nat.mod_eq_of_lt (by omega)
    have e2 : Nm.val y % 18446744073709551616 = Nm.val y := Nat.mod_eq_of_lt (by omega)
    have fx := a1d x (by omega)
    have fy := a1d y (by omega)
    rw [e1] at fx
    rw [e2] at fy
    have hqb : Nm.val x / Nm.val y < 18446744073709551616 := Nat.lt_of_le_of_lt (Nat.div_le_self _ _) (by omega)
    have hrb : Nm.val x % Nm.val y < 18446744073709551616 := c0e (Nat.mod_lt _ (by omega)) (by omega)
    have hf := V5 _ hqb
    have hg := V5 _ hrb
    have hq : Int.tdiv (Nm.val x : Int) (Nm.val y : Int) = ((Nm.val x / Nm.val y : Nat) : Int) := rfl
    have hr : Int.tmod (Nm.val x : Int) (Nm.val y : Int) = ((Nm.val x % Nm.val y : Nat) : Int) := rfl
    generalize Nm.val x / Nm.val y = q at *
    generalize Nm.val x % Nm.val y = r at *
    (repeat first | refine uA ?_ | (refine uK ?_ ?_; focus first | omega | trivial | (intros; simp_all <;> omega)) | simp (disch := omega) only [go_sem, Nat.reduceBEq, Nat.reduceAdd, Nat.reduceLeDiff, Int.reduceToNat, Int.reducePow, ww, hq, hr] | (refine uB fx ?_ ?_; exact rfl) | (refine uB fy ?_ ?_; exact rfl) | (refine uB hf ?_ ?_; exact rfl) | (refine uB hg ?_ ?_; exact rfl))
    exact S.done (d9.out rfl (Imp.refl rfl) rfl)
  have hcn := b1z (Nm.val x) (Nm.val y)
  (repeat first | refine uA ?_ | (refine uK ?_ ?_; focus first | omega | trivial | (intros; simp_all <;> omega)) | simp (disch := omega) only [go_sem, Nat.reduceBEq, Nat.reduceAdd, Nat.reduceLeDiff, Int.reduceToNat, Int.reducePow, ww] | (refine uB (a7S x y (by omega) (by omega)) ?_ ?_; exact rfl))
  (refine uJ rfl (fun hc => ?_) fun hc => ?_)
  · have h1 := hcn.1 hc
    rw [Nat.div_eq_of_lt h1, Nat.mod_eq_of_lt h1, Nm.a0s, Nm.a0i hca]
    (repeat first | refine uA ?_ | (refine uK ?_ ?_; focus first | omega | trivial | (intros; simp_all <;> omega)) | simp (disch := omega) only [go_sem, Nat.reduceBEq, Nat.reduceAdd, Nat.reduceLeDiff, Int.reduceToNat, Int.reducePow, ww])
    exact S.done (d9.out rfl (Imp.refl rfl) rfl)
  have hge : Nm.val y <= Nm.val x := by
    rcases c0j (Nm.val x) (Nm.val y) with h | h
    · exact absurd (hcn.2 h) hc
    · exact h
  have fwx := a1b x (by omega)
  have fwy := (a1b y (by omega)).spec
  rw [<- hwa, <- hwb] at hge
  rw [<- hwb] at h0
  rw [<- hwa] at htopa
  rw [<- hwb] at htopb
  rw [<- hwa, <- hwb]
  clear hwa hwb hcn hc
  generalize Nm.H8 x = p at *
  generalize Nm.H8 y = q at *
  have hq0 : q ≠ [] := fun h => by subst h; exact h0 rfl
  have hql : 0 < q.length := List.length_pos_iff.2 hq0
  have hle : q.length <= p.length := by
    rcases c0j p.length q.length with h | h
    · exfalso
      have h2 := htopb hq0
      have h3 := Nm.I9 4294967296 h3a
      have h4 : 4294967296 ^ p.length <= 4294967296 ^ (q.length - 1) := c0i (by decide) (by omega)
      omega
    · exact h
  (repeat first | refine uA ?_ | (refine uK ?_ ?_; focus first | omega | trivial | (intros; simp_all <;> omega)) | simp (disch := omega) only [go_sem, Nat.reduceBEq, Nat.reduceAdd, Nat.reduceLeDiff, Int.reduceToNat, Int.reducePow, ww, p9] | refine l7.t (FNew.t fwx rfl) ?_ | (refine uB fwy ?_ ?_; exact rfl))
  clear fwx fwy fta ftb
  (refine uJ rfl (fun hc => ?_) fun hc => ?_)
  · obtain ⟨d, rfl⟩ : ∃ d, q = [d] := by
      match q, hc with
      | [d], _ => exact ⟨d, rfl⟩
      | [], h => simp at h
      | _ :: _ :: _, h => simp at h; omega
    have hd32 : d < 4294967296 := h3b d (by simp)
    have hwd : Nm.wv 4294967296 [d] = d := by simp [Nm.wv]
    rw [hwd] at h0 ⊢
    have hpl : p.length <= 68719476737 := by omega
    clear hge hle htopa htopb hla hlb hc
    (repeat first | refine uA ?_ | (refine uK ?_ ?_; focus first | omega | trivial | (intros; simp_all <;> omega)) | simp (disch := omega) only [go_sem, Nat.reduceBEq, Nat.reduceAdd, Nat.reduceLeDiff, Int.reduceToNat, Int.reducePow, ww, p9])
    refine S.loop (X := Nat × List Nat × Nat) (fun s => ⟨[(7, .rv 0), (8, .sl 1 (ws [d])), (9, .v (.int .u64 (s.2.2 : Int))), (10, ints ((s.1 : Int) - 1))], [.row 188 1 (ws s.2.1)]⟩) (fun s => s.1 <= p.length /\ Nm.a7n p d s.1 s.2.1 s.2.2) (fun s => s.1) (p.length, p, 0) ⟨b9T _, Nm.b1Y h3a⟩ (by (repeat first | refine uA ?_ | (refine ⟨?_, ?_⟩; focus first | rfl | trivial | (simp [slot]; done)) | rfl | trivial | simp)) ?_
    rintro ⟨j, out, rest⟩ ⟨hj, hinv⟩
    simp only [ints] at hj hinv ⊢
    have hol := hinv.1
    (repeat first | refine uA ?_ | (refine uK ?_ ?_; focus first | omega | trivial | (intros; simp_all <;> omega)) | simp (disch := omega) only [go_sem, Nat.reduceBEq, Nat.reduceAdd, Nat.reduceLeDiff, Int.reduceToNat, Int.reducePow, ww])
    (refine uJ rfl (fun hc => ?_) fun hc => ?_)
    · obtain ⟨k, rfl⟩ : ∃ k, j = k + 1 := ⟨j - 1, by omega⟩
      rw [show (((k + 1 : Nat) : Int) - 1) = (k : Int) by omega]
      have hgp : p[k]? = some (p[k]'(by omega)) := b9I (by omega)
      have hgo : out[k]? = some (p[k]'(by omega)) := by rw [Nm.K3 hinv.2.2.1, hgp]
      have hp32 := h3a _ (b9S (show k < p.length by omega))
      obtain ⟨hs, hq32, hr32⟩ := Nm.b2y hinv (by omega) (by omega) hd32 hp32
      generalize p[k]'(by omega) = pk at *
      have hor := b1t rest pk hr32 hp32
      have hwd0 : (ws [d])[0]? = some (wd d) := rfl
      have hq : Int.tdiv ((rest * 4294967296 + pk : Nat) : Int) (d : Int) = (((rest * 4294967296 + pk) / d : Nat) : Int) := rfl
      have hr : Int.tmod ((rest * 4294967296 + pk : Nat) : Int) (d : Int) = (((rest * 4294967296 + pk) % d : Nat) : Int) := rfl
      generalize rest * 4294967296 + pk = s at *
      generalize s / d = sq at *
      generalize s % d = sr at *
      (repeat first | refine uA ?_ | (refine uK ?_ ?_; focus first | omega | trivial | (intros; simp_all <;> omega)) | simp (disch := omega) only [go_sem, Nat.reduceBEq, Nat.reduceAdd, Nat.reduceLeDiff, Int.reduceToNat, Int.reducePow, ww, p9, A9, hgo, hwd0, b9J, wd, hor, hq, hr, G7])
      refine S.next (x := (k + 1, out, rest)) (k, _, _) ⟨by simp only; omega, hs⟩ (by simp only; omega) (by (repeat first | refine uA ?_ | (refine ⟨?_, ?_⟩; focus first | rfl | trivial | (simp [slot]; done)) | rfl | trivial | simp))
    · have hj0 : j = 0 := by omega
      subst hj0
      obtain ⟨h1, h2, _, h4, h5⟩ := hinv
      rw [List.drop_zero] at h4 h5
      rw [List.drop_zero] at h4
      rw [<- h4, <- h5]
      have hrd : rest < d := by rw [h5]; exact Nat.mod_lt _ (by omega)
      have ft := a3a out (by omega) h2
      have hf := V5 rest (by omega)
      (repeat first | refine uA ?_ | (refine uK ?_ ?_; focus first | omega | trivial | (intros; simp_all <;> omega)) | simp (disch := omega) only [go_sem, Nat.reduceBEq, Nat.reduceAdd, Nat.reduceLeDiff, Int.reduceToNat, Int.reducePow, ww] | (refine uB hf ?_ ?_; exact rfl) | (refine uC ft ?_ ?_ ?_; exact rfl; focus (repeat' first | exact l8.nil | exact Imp.refl rfl | exact Imp.frz rfl rfl rfl | (refine Imp.Y5 rfl rfl ?_ ?_; (focus ((try simp only [b9X]); omega)); (focus first | rfl | assumption)) | refine l8.cons ?_ ?_); done))
      exact S.done (d9.out rfl (Imp.refl rfl) rfl)
  · have hfl := b8u p q (by omega) h3a h3b hle (by omega) (htopb hq0)
    have hqx := Nm.I9 4294967296 h3a
    have hpw : 4294967296 ^ p.length = 4294967296 ^ (p.length + 1 - q.length) * 4294967296 ^ (q.length - 1) := by
      rw [<- Nat.pow_add]; congr 1; omega
    have hqq : Nm.wv 4294967296 p / Nm.wv 4294967296 q < 4294967296 ^ (p.length + 1 - q.length) := by
      rw [Nat.div_lt_iff_lt_mul (by omega)]
      rw [hpw] at hqx
      exact c0e hqx (Nat.mul_le_mul_left _ (htopb hq0))
    have hqy := Nm.I9 4294967296 h3b
    have hrr : Nm.wv 4294967296 p % Nm.wv 4294967296 q < 4294967296 ^ q.length := Nat.lt_trans (Nat.mod_lt _ (by omega)) hqy
    have ft1 := a3a _ (by rw [Nm.H7]; omega) (Nm.Z8 (B := 4294967296) (by decide) (p.length + 1 - q.length) (Nm.wv 4294967296 p / Nm.wv 4294967296 q))
    have ft2 := a3a _ (by rw [Nm.H7]; omega) (Nm.Z8 (B := 4294967296) (by decide) q.length (Nm.wv 4294967296 p % Nm.wv 4294967296 q))
    rw [Nm.P5 hqq] at ft1
    rw [Nm.P5 hrr] at ft2
    refine S.weaken (st' := ⟨[(7, .sl 1 (ws p)), (8, .sl 1 (ws q))], [.gone]⟩) (Ent.mk _ _ (V6.cons (Imp.frz rfl rfl rfl) (V6.cons (Imp.refl rfl) V6.nil)) (by (repeat first | refine uA ?_ | (refine ⟨?_, ?_⟩; focus first | rfl | trivial | (simp [slot]; done)) | rfl | trivial | simp)) (b9M _)) ?_
    (repeat first | refine uA ?_ | (refine uK ?_ ?_; focus first | omega | trivial | (intros; simp_all <;> omega)) | simp (disch := omega) only [go_sem, Nat.reduceBEq, Nat.reduceAdd, Nat.reduceLeDiff, Int.reduceToNat, Int.reducePow, ww] | (refine uB hfl ?_ ?_; exact rfl) | (refine uB ft1 ?_ ?_; exact rfl) | (refine uB ft2 ?_ ?_; exact rfl))
    exact S.done (d9.out rfl (Imp.refl rfl) rfl)
end Go.Proofs.YtgmlehjgpgdjhaaGreatDoor
namespace Go.Proofs
open Go.Shelf
def Tryz.b1i : Go.Shelf.Ren := ⟨fun | 29 => 156 | n => n, fun | 22 => 184 | 3 => 3 | 4 => 4 | 25 => 189 | 54 => 223 | 0 => 0 | 5 => 5 | n => n, fun | 1 => 1 | n => n⟩
theorem Tryz.b6C : Go.Proofs.Lays7.n29 Tryz.prog Tryz.b1i := {
 mixed := by kernel_rfl
 f29 := Tryz.func156.trans (congrArg some (by kernel_rfl))
 t0 := Tryz.underlying0
 a0 := Tryz.isAgg0
 z0 := Tryz.sizeOf0
 v0 := Tryz.zeroValue0
 i0 := by kernel_rfl
 t3 := Tryz.underlying3
 a3 := Tryz.isAgg3
 z3 := Tryz.sizeOf3
 v3 := Tryz.zeroValue3
 i3 := by kernel_rfl
 t4 := Tryz.underlying4
 a4 := Tryz.isAgg4
 z4 := Tryz.sizeOf4
 v4 := Tryz.zeroValue4
 i4 := by kernel_rfl
 t5 := Tryz.underlying5
 a5 := Tryz.isAgg5
 z5 := Tryz.sizeOf5
 v5 := Tryz.zeroValue5
 i5 := by kernel_rfl
 t22 := Tryz.underlying184
 a22 := Tryz.isAgg184
 z22 := Tryz.sizeOf184
 v22 := Tryz.zeroValue184
 i22 := by kernel_rfl
 t25 := Tryz.underlying189
 a25 := Tryz.isAgg189
 z25 := Tryz.sizeOf189
 v25 := Tryz.zeroValue189
 i25 := by kernel_rfl
 t54 := Tryz.underlying223
 a54 := Tryz.isAgg223
 z54 := Tryz.sizeOf223
 g1 := by kernel_rfl }
open Go.RowKit in
theorem Tryz.bits_TrailingZeros64 (x : Nat) (hx : x < 18446744073709551616) (w : World) (hT : x ≠ 0 -> TabAt 1 Lib.deBruijn64tab w) :
  Calls Tryz.prog 156 #[.int .u64 x] w fun e w' => e = .returned (.int .i64 (Lib.ctz 64 x)) /\ w' = w := Any7.bits_TrailingZeros64 Tryz.b6C x hx w hT
end Go.Proofs
namespace Go.Proofs.YtgmlehjgpgdjhaaGreatDoor
open Go Go.RowKit Eng
def Wz (w : World) : Prop := TabAt 1 Lib.deBruijn64tab w
abbrev FZ (f : Nat) (args : List C) (r : C) : Prop := U9 Tryz.prog Wz f args r
namespace Eng
def Tz (E : Ctx) : Prop := Wz E.w0 /\ ¬ E.own0 1
theorem b3F {w : World} (h : Wz w) : 1 < w.heap.size := by
 have := h 0 (by decide)
 exact block_lt_of_cell this
theorem Tz.at {E : Ctx} (h : Tz E) {w : World} (hF : Frm E.own0 E.w0 w) : Wz w := by
 intro j hj
 rw [<- h.1 j hj]
 exact World.cell?_of_block (hF.block _ (b3F h.1) h.2)
section
variable {E : Ctx} {rs : List Res} {f : Nat} {args args' : List C} {r : C}
theorem L6.b9d {p : Bool} (ht : Tz E) (hs : p = true -> U9 E.P Wz f args' r) (hi : p = true -> l8 rs rs args args') (hcl : p = true -> C.clL args' = true) : L6 E rs p f args r := by
 intro hp av ν w vs hR hav hF hD
 have hlt : ∀ b, OO av rs ν b -> b < w.heap.size := fun b hb => by
  rcases hb with hb | hb
  ·exact hR.av b hb
  ·exact (hR.low b hb).1
 have hD' := (hi hp).den hR (Cut.of hR (a1T rs)) hD
 have et : ν.take rs.length = ν := by rw [<- hR.len]; exact c0m
 rw [et] at hD'
 refine (hs hp (OO av rs ν) w vs (ht.at hF) hlt (hD'.fz (hcl hp))).mono ?_
 rintro e w' ⟨y, rfl, h1, h2⟩
 exact ⟨y, rfl, h1, h2.den ν⟩
theorem L6.b9w {p : Bool} (ht : Tz E) (hs : p = true -> U9 E.P Wz f args' r) (hi : p = true -> l8 rs [] args args') (hcl : p = true -> C.clL args' = true) (hr : r.flat = true) : L6 E rs p f args r := by
 intro hp av ν w vs hR hav hF hD
 have hC : Cut av rs [] ν := Cut.of hR (by simp [P6])
 have hD' := (hi hp).den hR hC hD
 have hlt : ∀ b, OO av [] (ν.take ([] : List Res).length) b -> b < w.heap.size := fun b hb => by
  rcases hC.sub b hb with hb | hb
  ·exact hR.av b hb
  ·exact (hR.low b hb).1
 refine (hs hp _ w vs (ht.at hF) hlt (hD'.fz (hcl hp))).mono ?_
 rintro e w' ⟨y, rfl, h1, h2⟩
 exact ⟨y, rfl, h1, Fz.flat hr h2⟩
variable {g q : Prop} {p : Bool} {a a' : List C}
theorem uD {P : Program} (hs : U9 P Wz f a' r) [h : By g E rs p f a r q] (ht : Tz E) (e : (E.P, a, (C.bdL rs.length a && C.clL a)) = (P, a', true)) (x : q) : g := by
 injection e with e1 e2
 injection e2 with e2 e3
 rw [b9N] at e3
 subst e1 e2
 exact h.go (L6.b9d ht (fun _ => hs) (fun _ => l8.refl e3.1) (fun _ => e3.2)) x
theorem uE {P : Program} (hs : U9 P Wz f a' r) [h : By g E rs p f a r q] (ht : Tz E) (e : (E.P, C.clL a', r.flat) = (P, true, true)) (hi : l8 rs [] a a') (x : q) : g := by
 injection e with e1 e2
 injection e2 with e2 e3
 subst e1
 exact h.go (L6.b9w ht (fun _ => hs) (fun _ => hi) (fun _ => e2) e3) x
theorem uG {P : Program} (hs : U9 P Wz f a' r) {st : St} {ok : Prop} {d : Option Nat} {K : St -> Prop} (x : ok /\ KPg st false d K r) : X4 E st false f a ok d K :=
 .inr ⟨x.1, .inr (.inr ⟨r, (fun h => absurd h (by decide)), x.2⟩)⟩
end
theorem tz {P : Program} {eff : Nat -> Bool} {N : Nat} {w : World} {O : Nat -> Prop} (hw : Wz w) : Tz ⟨P, eff, N, w, fun _ => False, O, [], []⟩ := ⟨hw, fun h => h⟩
end Eng
theorem b8c {x : Nat} (h0 : x ≠ 0) (h : x < 18446744073709551616) : Lib.ctz 64 x = Nm.v2 x := by
 unfold Lib.ctz
 rw [if_neg h0]
 obtain ⟨m, h1, _⟩ := Lib.ctzFrom_spec 64 x (by omega) h
 exact (Nm.b6U h1 (by omega)).symm
theorem b9A (x : Nat) (h0 : x ≠ 0) (h : x < 18446744073709551616) : FZ 156 [.v (.int .u64 (x : Int))] (.v (.int .i64 (Nm.v2 x : Int))) := by
 intro O w vs hw hO hA
 simp only [FzL, Fz] at hA
 obtain ⟨y, ys, rfl, rfl, rfl⟩ := hA
 refine (Tryz.bits_TrailingZeros64 x h w (fun _ => hw)).mono ?_
 rintro e w' ⟨rfl, rfl⟩
 exact ⟨_, rfl, Below.refl _ _, by simp only [Fz, b8c h0 h]⟩
end Go.Proofs.YtgmlehjgpgdjhaaGreatDoor
